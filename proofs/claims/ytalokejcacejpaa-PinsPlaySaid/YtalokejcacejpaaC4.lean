/-
  For every list of calls PinsPlay returns true, and the argument reads as before. No condition.
-/
import Derived.Test.YtalokejcacejpaaC3

section
set_option linter.unusedVariables false
set_option linter.unusedSimpArgs false
set_option linter.unusedSectionVars false
-- DRAWS
-- BUILDS
-- NEW
set_option maxHeartbeats 8000000
namespace Go.V
attribute [local irreducible] stepK opK opV

theorem cnt_erase (xs : List Int) (r r' : Int) : cnt (xs.erase r) r' = cnt xs r' - if r = r' then 1 else 0 := by
  have := List.count_erase (a := r') (b := r) (l := xs)
  unfold List.count at this
  unfold cnt
  rw [this]
  simp

theorem cnt_one (r r' : Int) : cnt [r] r' = if r = r' then 1 else 0 := by
  unfold cnt
  rw [List.countP_singleton]
  simp

/-- A call that went well, and the one that undoes it. -/
theorem undo {ps q : PinL} {xs : List Int} {a a' b : Int} (h : Pn ps xs) (hx : xs.length ≤ 60) (hb : 0 ≤ b ∧ b < 256) (e : (refR a b xs ps.length).2 = 0) (hq : Pn q (refR a b xs ps.length).1) (ha : a' % 2 ≠ a % 2) (ha0 : 0 ≤ a % 2 ∧ a % 2 < 2 ∧ 0 ≤ a' % 2 ∧ a' % 2 < 2) :
    decide (q = ps) = false ∧ (doR a' b q (refR a b xs ps.length).1.length).2.2 = 0 ∧ (doR a' b q (refR a b xs ps.length).1.length).1 = ps := by
  have hB := both hq (a := a') hb
  have hlen := hq.short
  have hll := refR_len a b xs ps.length
  have ne : (∃ r, cnt (refR a b xs ps.length).1 r ≠ cnt xs r) → decide (q = ps) = false := by
    rintro ⟨r, hr⟩
    apply decide_eq_false
    rintro rfl
    have h1 := hq.ct r
    rw [h.ct r] at h1
    omega
  have fi2 : (refR a' b (refR a b xs ps.length).1 q.length).2 = 0 → (∀ r, cnt (refR a' b (refR a b xs ps.length).1 q.length).1 r = cnt xs r) → (doR a' b q (refR a b xs ps.length).1.length).2.2 = 0 ∧ (doR a' b q (refR a b xs ps.length).1.length).1 = ps := by
    intro e1 e2
    refine ⟨by rw [hB.1, e1], ?_⟩
    exact (hB.2.1 e1).1.ext h e2
  by_cases c : a % 2 = 1
  · have hr : refR a b xs ps.length = unpinL xs (rv b) := by unfold refR; rw [if_pos c]
    rw [hr] at e hq ne fi2 hlen hll ⊢
    unfold unpinL at e hq ne fi2 hlen hll ⊢
    by_cases hm : rv b ∈ xs
    · rw [if_pos hm] at hq ne fi2 hlen hll ⊢
      have hc0 := cnt_mem.2 hm
      have hr0 : 0 < rv b := by
        obtain ⟨p, hp, hpr⟩ := has_iff.1 ((h.has (rv b)).2 hc0)
        have := h.pos p hp
        omega
      have hcb : cnt xs (rv b) ≤ 60 := by have := List.countP_le_length (p := (· == rv b)) (l := xs); unfold cnt; omega
      have hce := cnt_erase xs (rv b) (rv b)
      rw [if_pos rfl] at hce
      refine ⟨ne ⟨rv b, by simp only; omega⟩, ?_⟩
      have hr2 : refR a' b (xs.erase (rv b)) q.length = (xs.erase (rv b) ++ [rv b], 0) := by
        unfold refR pinL
        simp only at hlen hll
        rw [if_neg (by omega), if_neg (by omega), if_neg (by omega)]
      refine fi2 (by rw [hr2]) fun r => ?_
      rw [hr2]
      simp only
      rw [cnt_app, cnt_one, cnt_erase]
      split
      · rename_i q; rw [← q]; omega
      · omega
    · rw [if_neg hm] at e; cases e
  · have hr : refR a b xs ps.length = pinL xs ps.length (rv b) := by unfold refR; rw [if_neg c]
    rw [hr] at e hq ne fi2 hlen hll ⊢
    unfold pinL at e hq ne fi2 hlen hll ⊢
    split at e
    · cases e
    rename_i hr0
    rw [if_neg hr0] at hq ne fi2 hlen hll ⊢
    split at e
    · cases e
    rename_i hlim
    rw [if_neg hlim] at hq ne fi2 hlen hll ⊢
    have hm : rv b ∈ xs ++ [rv b] := by simp
    have hc1 := cnt_app xs [rv b] (rv b)
    rw [cnt_one, if_pos rfl] at hc1
    refine ⟨ne ⟨rv b, by simp only; omega⟩, ?_⟩
    have hr2 : refR a' b (xs ++ [rv b]) q.length = ((xs ++ [rv b]).erase (rv b), 0) := by
      unfold refR unpinL
      rw [if_pos (by omega), if_pos hm]
    refine fi2 (by rw [hr2]) fun r => ?_
    rw [hr2]
    simp only
    rw [cnt_erase, cnt_app, cnt_one]
    split <;> omega

def PlI (h0 : Heap) (b3 : Nat) (l : Val) (os : List (Int × Int)) (k : Nat) (fr : List Val) (h' : Heap) : Prop := Grow h0 h' ∧ ∃ (i : Nat) (u : Val) (ps : PinL) (xs : List Int), Hid (i + k = min os.length 60 ∧ xs.length ≤ i) ∧ fr.length = 117 ∧ fr.getD 0 .undef = l ∧
  fr.getD 3 .undef = .ptr b3 0 ∧ fr.getD 4 .undef = u ∧ fr.getD 5 .undef = .int .i64 (i : Nat) ∧ PinSt h' b3 u ps xs

theorem lawPlay_ok {h : Heap} (w : Wf h) {l : Val} {os : List (Int × Int)} (hl' : Oc h l os) : WC E09 6 [l] h fun v h' => Grow h h' ∧ v = .bool true := by
  refine WC.fn1 (n := 117) rfl rfl (by rfl) ?_
  intro fr hl ha'
  have f0 : fr.getD 0 .undef = l := ha' 0
  clear ha'
  have hlo := hl'.1.lenI
  unfold v6
  repeat' (first | refine WE.seqR ?_ | refine WO.nil ?_ | (refine WO.op1s ?_; simp only [opK, wanted, stepK, step, setDst, true_and, V.ev, *]; with_reducible show WO _ _ _ _ _))
  (refine WO.op1 ?_; simp only [opK, wanted, setDst, *])
  refine stepK_alloc w fun b3 h2 g2 hb3 hg3 hn3 => ?_
  have B := Hid.mk hb3
  clear hn3 hb3
  repeat' (first | refine WE.assoc ?_ | refine WE.seqR ?_ | refine WO.nil ?_ | (refine WO.op1s ?_; simp only [opK, wanted, stepK, step, setDst, true_and, V.ev, *]; with_reducible show WO _ _ _ _ _) | refine WE.seqBlock ?_)
  refine WE.loop (PlI h b3 l os) ?_ (min os.length 60) _ _ ⟨g2, 0, .nils, [], [], ⟨by omega, by simp⟩, by simp only [List.length_set, hl], by (simp only [getD_ne, reduceCtorEq, *]; try rfl), by (simp only [Nat.reduceEqDiff, Nat.reduceLT, getD_ne, getD_eq, List.length_set, *]; try rfl), by (simp only [Nat.reduceEqDiff, Nat.reduceLT, getD_ne, getD_eq, List.length_set, *]; try rfl), by (simp only [Nat.reduceLT, Int.cast_ofNat_Int, getD_eq, List.length_set, *]; try rfl), .nils, hg3, ps_nil, us_nil, Pn.nil⟩
  clear f0 hl hg3 g2
  rintro k fr hc ⟨gg, i, u, ps, xs, H, hl, f0, f3, f4, f5, s, hgs, hps, hus, hpn⟩
  have wc := gg.wf w
  have l3 : hc.load b3 0 2 = some [s, .int .i64 (xs.length : Nat)] := load_get hgs (by simp)
  have hx60 : xs.length ≤ 100000 := by have := H.out; omega
  by_cases hi : i < min os.length 60
  · have hio : i < os.length := by omega
    have hd : decide ((i : Int) < (os.length : Int)) = true := decide_eq_true (by omega)
    have hd2 : decide ((i : Int) < 60) = true := decide_eq_true (by omega)
    obtain ⟨bx, ox, hex, lex0⟩ := os_load hl' hio (Keep.refl h)
    have lex := fun h2 (g : Keep hc h2) => lex0 h2 (gg.kp.trans g)
    have hlo9 := Hid.mk lex0
    clear lex0
    have wn : IntKind.i64.wrap ((i : Int) + 1) = ((i + 1 : Nat) : Int) := wrap_add (b := 1) (by omega)
    have hab := hl'.2 _ (List.getElem_mem hio)
    have HB := both hpn (a := os[i].1) hab.2
    have hrl := refR_len os[i].1 os[i].2 xs ps.length
    have hso0 := ps_one hps
    have u8 : IntKind.u8.wrap (os[i].1 + 1) = (os[i].1 + 1) % 256 := by
      unfold IntKind.wrap
      simp (decide := true) [IntKind.signed, IntKind.bits]
    have hun : ∀ q : PinL, (refR os[i].1 os[i].2 xs ps.length).2 = 0 → Pn q (refR os[i].1 os[i].2 xs ps.length).1 → _ := fun q e hq => undo (a' := (os[i].1 + 1) % 256) hpn (by have := H.out; omega) hab.2 e hq (by omega) (by omega)
    have hdo : ∀ h1, Wf h1 → Keep hc h1 → WC E09 9 [.agg [.int .u8 os[i].1, .int .u8 os[i].2], .agg [s, .int .i64 (xs.length : Nat)]] h1 fun v h' => Grow h1 h' ∧ PRes h' v (doR os[i].1 os[i].2 ps xs.length) :=
      fun h1 w1 k1 => do_ok w1 hab (k1.ps hps) hpn.asc hpn.len (fun p hp => by have := hpn.pos p hp; omega) (by have := H.out; omega)
    have hrf : ∀ h1, Wf h1 → Us h1 u xs → WC E09 10 [.agg [.int .u8 os[i].1, .int .u8 os[i].2], u] h1 fun v h' => Grow h1 h' ∧ LRes h' v (refR os[i].1 os[i].2 xs ps.length) := fun h1 w1 q => by
      have := ref_ok w1 hab q (by have := H.out; omega) hpn.held
      rwa [List.length_map] at this
    have hi' := Hid.mk hi
    generalize hx : doR os[i].1 os[i].2 ps xs.length = x at *
    generalize hy : refR os[i].1 os[i].2 xs ps.length = y at *
    generalize os[i] = o at *
    obtain ⟨hee, HB⟩ := HB
    have hyy : (y.2 == y.2) = true := by simp
    replace HB := Hid.mk HB
    replace hab := Hid.mk hab
    replace hdo := Hid.mk hdo
    replace hrf := Hid.mk hrf
    replace hun := Hid.mk hun
    clear hx hy hi hio
    repeat' (first | refine WE.assoc ?_ | refine WE.seqR ?_ | refine WO.nil ?_ | (refine WO.lenOfE ?_; simp only [setDst, V.ev, Nat.reduceLT, getD_eq, List.length_set, *]; refine ⟨_, rfl, ?_⟩) | (refine WO.op1s ?_; simp only [opK, wanted, stepK, step, setDst, pureV, arith, intBin, true_and, V.ev, Nat.reduceEqDiff, Nat.reduceLT, beq_self_eq_true, getD_ne, getD_eq, List.length_set, if_true, reduceCtorEq, *]; with_reducible show WO _ _ _ _ _) | refine WE.seqSkip ?_ | (refine WE.seqCond (t := true) ?hc (fun _ => ?_) (fun hh => Bool.noConfusion hh); case hc => simp only [V.ev, Nat.reduceLT, getD_eq, List.length_set, *]) | refine WE.seqBlock ?_)
    (refine WO.op1 ?_; simp only [opK, wanted, setDst, *])
    refine stepK_alloc wc fun b6 hA gA hb6 hg6 hn6 => ?_
    skip
    (refine WO.op1 ?_; simp only [opK, wanted, setDst, *])
    refine stepK_store (b := b6) (o := 0) (us := [s, .int .i64 (xs.length : Nat)]) (by (simp only [V.ev, Nat.reduceLT, getD_eq, List.length_set, *]; try rfl)) (by (simp only [V.ev, Nat.reduceEqDiff, Nat.reduceLT, getD_ne, getD_eq, List.length_set, *]; try rfl)) (by rfl) hg6 (by rw [gA.floor]; exact Nat.le_trans wc.fl hb6) (by simp) (one2 hso0.2 _ _) fun hC kC => ?_
    have gC : Grow hc hC := gA.wrote hb6 wc kC
    have e6 : hC.get b6 = some (.cells [s, .int .i64 (xs.length : Nat)]) := kC.at_
    have wC := gC.wf wc
    have x0 := lex _ gC.kp
    have l3C := gC.load l3
    have hb36 : b3 ≠ b6 := by have := lt_of_get wc hgs; omega
    clear kC hg6 gA hn6
    repeat' (first | refine WO.nil ?_ | refine WE.seqD ?_ | (refine WO.op1s ?_; simp only [opK, wanted, stepK, step, setDst, true_and, V.ev, Nat.reduceEqDiff, Nat.reduceLT, getD_ne, getD_eq, List.length_set, *]; with_reducible show WO _ _ _ _ _) | (refine WD.iaddrE ?_; simp only [setDst, List.nil_append, List.cons_append, V.ev, Nat.reduceEqDiff, Nat.reduceLT, getD_ne, getD_eq, List.length_set, *]; refine ⟨_, rfl, ?_⟩) | (refine WD.op2s ?_; simp only [opV, VOp.kind, hiddenOf, unveil_veil, veil_next, below_nil, below_cons, or_false, or_self, wanted, stepK, step, setDst, evs, List.nil_append, List.cons_append, true_and, List.getD_cons_zero, List.getD_cons_succ, V.ev, Nat.reduceEqDiff, Nat.reduceLT, Nat.reduceLeDiff, Bool.false_eq_true, getD_ne, getD_eq, List.length_set, if_true, if_false, reduceCtorEq, *]; with_reducible show WD _ _ _ _ _ _))
    refine WD.callH (h0 := hC) wC (Grow.refl _) (fun v h => PRes h v x) (fun v h h' k e => k.pres e) trivial (fun h1 w1 k1 => by (simp only [evs, V.ev, Nat.reduceEqDiff, Nat.reduceLT, getD_ne, getD_eq, List.length_set, *]); exact hdo.out h1 w1 (gC.kp.trans k1)) ?_
    rintro _ h5 g5 n5 ⟨s5, rfl, hp5⟩
    simp only [setDst, List.nil_append, List.cons_append]
    have w5 := g5.wf wC
    repeat' (first | (refine WD.op2s ?_; simp only [opV, VOp.kind, hiddenOf, unveil_veil, veil_next, or_false, wanted, stepK, step, setDst, List.nil_append, List.cons_append, true_and, Nat.le_refl, List.getElem?_cons_zero, List.getElem?_cons_succ, List.getD_cons_zero, List.getD_cons_succ, V.ev, Nat.reduceEqDiff, Nat.reduceLT, Nat.reduceLeDiff, Bool.false_eq_true, getD_ne, getD_eq, List.length_set, if_true, reduceCtorEq, *]; with_reducible show WD _ _ _ _ _ _))
    (refine WD.op2 ?_; simp only [opV, VOp.kind, hiddenOf, wanted, setDst, true_or, List.nil_append, List.cons_append, Nat.reduceEqDiff, Nat.reduceLeDiff, Bool.false_eq_true, if_true, *])
    refine stepK_alloc w5 fun b8 h6 g6 hb8 hg8 hn8 => ?_
    have hp6 := g6.ps hp5
    have hso := ps_one hp6
    clear hn8 hp5
    skip
    (refine WD.op2 ?_; simp only [opV, VOp.kind, hiddenOf, wanted, setDst, or_true, List.nil_append, List.cons_append, Nat.reduceEqDiff, Nat.reduceLeDiff, if_true, *])
    refine stepK_store (b := b8) (o := 0) (us := [s5, .int .i64 x.2.1]) (by (simp only [V.ev, Nat.reduceLT, getD_eq, List.length_set, *]; try rfl)) (by (simp only [V.ev, Nat.reduceEqDiff, Nat.reduceLT, getD_ne, getD_eq, List.length_set, *]; try rfl)) (by rfl) hg8 (by rw [g6.floor]; exact Nat.le_trans w5.fl hb8) (by simp) (one2 hso.2 _ _) fun h7 k7 => ?_
    have g7 : Grow h5 h7 := g6.wrote hb8 w5 k7
    have hp7 := ps_wrote2 hp6 hg8 rfl k7
    have e8 : h7.get b8 = some (.cells [s5, .int .i64 x.2.1]) := k7.at_
    have gA := gC.trans (g5.trans g7)
    have w7 := gA.wf wc
    have y0 := lex _ gA.kp
    have e6b := (g5.trans g7).keep _ _ e6
    have hb38 : b3 ≠ b8 := by have := lt_of_get wc hgs; have := gC.next; have := g5.next; omega
    clear k7 hg8 hp6 x0 l3C g6
    repeat' (first | refine WE.seqR ?_ | refine WD.nil2 ?_ | (refine WO.iaddrE ?_; simp only [setDst, V.ev, Nat.reduceEqDiff, Nat.reduceLT, getD_ne, getD_eq, List.length_set, *]; refine ⟨_, rfl, ?_⟩) | (refine WO.op1s ?_; simp only [opK, wanted, stepK, step, setDst, evs, true_and, V.ev, Nat.reduceEqDiff, Nat.reduceLT, getD_ne, getD_eq, List.length_set, if_true, reduceCtorEq, *]; with_reducible show WO _ _ _ _ _) | (refine WD.op2s ?_; simp only [opV, VOp.kind, hiddenOf, unveil_veil, veil_next, or_self, wanted, stepK, step, setDst, List.nil_append, List.cons_append, true_and, V.ev, Nat.reduceEqDiff, Nat.reduceLT, Nat.reduceLeDiff, getD_ne, getD_eq, List.length_set, if_true, reduceCtorEq, *]; with_reducible show WD _ _ _ _ _ _))
    refine WO.call rfl ?_
    (simp only [evs, V.ev, Nat.reduceEqDiff, Nat.reduceLT, getD_ne, getD_eq, List.length_set, *])
    refine (hrf.out h7 w7 (gA.us hus)).mono ?_
    rintro _ h8 ⟨g8, s8, rfl, hu8⟩
    simp only [setDst]
    have gB := gA.trans g8
    have hp8 := g8.ps hp7
    have e8' := g8.keep _ _ e8
    have e6' := g8.keep _ _ e6b
    have hgs8 := gB.keep _ _ hgs
    have l8 : h8.load b8 0 2 = some [s5, .int .i64 x.2.1] := load_get e8' (by simp)
    have w8 := gB.wf wc
    have fl8 : h8.floor ≤ b3 := by rw [(gg.trans gB).floor]; have := w.fl; have := B.out; omega
    have hps8 := gB.ps hps
    have hus8 := gB.us hus
    have lex8 := fun h2 (g : Keep h8 h2) => lex h2 (gB.kp.trans g)
    clear hp7 e8 y0 gA g7 g8 lex e6 e6b g5 gC wC w5 w7 hus hps l3
    cases hz : (y.2 == 0) with
    | false =>
      have hz0 : y.2 ≠ 0 := by simpa using hz
      obtain ⟨hx1, hx2⟩ := HB.out.2 hz0
      rw [hx1] at hp8
      rw [hx2] at l8 e8'
      have gZ := gg.trans gB
      replace hx1 := Hid.mk hx1
      replace hx2 := Hid.mk hx2
      replace hz0 := Hid.mk hz0
      repeat' (first | refine WE.assoc ?_ | refine WE.seqR ?_ | refine WO.nil ?_ | (refine WO.op1s ?_; simp only [opK, wanted, stepK, step, setDst, evs, eqVal, eqAt, eqv, Val.isAgg, Val.cells, true_and, and_self, Bool.and_true, List.getElem?_cons_zero, List.getElem?_cons_succ, V.ev, Nat.reduceEqDiff, Nat.reduceLT, beq_self_eq_true, getD_ne, getD_eq, List.length_set, if_true, Bool.not_true, Bool.not_false, *]; with_reducible show WO _ _ _ _ _) | refine WE.seqSkip ?_ | (refine WE.seqCond (t := true) ?hc (fun _ => ?_) (fun hh => Bool.noConfusion hh); case hc => simp only [V.ev, Nat.reduceLT, getD_eq, List.length_set, *]) | (refine WE.seqCond (t := false) ?hc (fun hh => Bool.noConfusion hh) (fun _ => ?_); case hc => simp only [V.ev, Nat.reduceLT, getD_eq, List.length_set, *]))
      refine WO.callG (h0 := h8) w8 (Grow.refl _) (fun v => v = .int .i64 1) rfl (fun h1 w1 k1 => by (simp only [evs, V.ev, Nat.reduceLT, getD_eq, List.length_set, *]); exact whole0_ok w1 (k1.ps hp8)) ?_
      rintro _ h9 g9 rfl
      simp only [setDst]
      repeat' (first | refine WO.nil ?_ | (refine WO.op1s ?_; simp only [opK, wanted, stepK, step, setDst, pureV, arith, intBin, eqVal, eqAt, eqv, Val.isAgg, Val.cells, true_and, and_self, Bool.and_true, List.getElem?_cons_zero, V.ev, Nat.reduceEqDiff, Nat.reduceLT, Bool.false_eq_true, Int.reduceBEq, getD_ne, getD_eq, List.length_set, if_true, if_false, Bool.not_false, *]; with_reducible show WO _ _ _ _ _) | refine WE.seqSkip ?_ | refine WE.seqExit ?_ | (refine WE.seqCond (t := false) ?hc (fun hh => Bool.noConfusion hh) (fun _ => ?_); case hc => simp only [V.ev, Nat.reduceLT, getD_eq, List.length_set, *]) | refine WE.region ?_)
      exact ⟨k - 1, by have := H.out; have := hi'.out; omega, gZ.trans g9, i + 1, u, ps, xs, ⟨by have := H.out; have := hi'.out; omega, by have := H.out; omega⟩, by simp only [List.length_set, hl], by (simp only [getD_ne, reduceCtorEq, *]; try rfl), by (simp only [Nat.reduceEqDiff, getD_ne, *]; try rfl), by (simp only [Nat.reduceEqDiff, getD_ne, *]; try rfl), by (simp only [Nat.reduceLT, getD_eq, List.length_set, *]; try rfl), s, g9.keep _ _ hgs8, g9.ps hps8, g9.us hus8, hpn⟩
    | true =>
      have hz0 : y.2 = 0 := by simpa using hz
      obtain ⟨hpn2, ht2⟩ := HB.out.1 hz0
      obtain ⟨hqne, hb1, hb2⟩ := hun.out x.1 hz0 hpn2
      have hyl : y.1.length ≤ 100000 := by have := H.out; omega
      have hxl := hx60
      have hql5 : x.1.length ≤ 100000 := by have := hpn2.len; omega
      have hql : x.1.length < 4611686018427387904 := by omega
      have hpl5 : ps.length ≤ 100000 := by have := hpn.len; omega
      have hct : cntP x.1 (rv o.2) = (cnt y.1 (rv o.2) : Int) := hpn2.ct _
      have hcc : ((cnt y.1 (rv o.2) : Int) == (cnt y.1 (rv o.2) : Int)) = true := by simp
      have hdo2 : ∀ h1, Wf h1 → Ps h1 s5 x.1 → WC E09 9 [.agg [.int .u8 ((o.1 + 1) % 256), .int .u8 o.2], .agg [s5, .int .i64 (y.1.length : Nat)]] h1 fun v h' => Grow h1 h' ∧ PRes h' v (doR ((o.1 + 1) % 256) o.2 x.1 y.1.length) :=
        fun h1 w1 k1 => do_ok w1 ⟨⟨by omega, by omega⟩, hab.out.2⟩ k1 hpn2.asc hpn2.len (fun p hp => by have := hpn2.pos p hp; omega) (by have := H.out; omega)
      obtain ⟨z, hzz⟩ : ∃ z, doR ((o.1 + 1) % 256) o.2 x.1 y.1.length = z := ⟨_, rfl⟩
      rw [hzz] at hb1 hb2
      simp only [hzz] at hdo2
      have hz1 := Hid.mk hb2
      have hze : (z.2.2 == 0) = true := by rw [hb1]; rfl
      have hze2 := hb1
      replace hzz := Hid.mk hzz
      replace hz0 := Hid.mk hz0
      replace ht2 := Hid.mk ht2
      replace hqne := hqne
      clear hb1 hb2
      repeat' (first | refine WE.assoc ?_ | refine WE.seqR ?_ | refine WO.nil ?_ | (refine WO.op1s ?_; simp only [opK, wanted, stepK, step, setDst, eqVal, eqAt, eqv, Val.isAgg, Val.cells, List.length_cons, List.length_nil, true_and, and_self, Bool.and_true, List.getElem?_cons_zero, List.getElem?_cons_succ, V.ev, Nat.reduceEqDiff, Nat.reduceLT, Nat.reduceAdd, Nat.zero_add, beq_self_eq_true, getD_ne, getD_eq, List.length_set, if_true, Bool.not_true, *]; with_reducible show WO _ _ _ _ _) | refine WE.seqSkip ?_ | (refine WE.seqCond (t := false) ?hc (fun hh => Bool.noConfusion hh) (fun _ => ?_); case hc => simp only [V.ev, Nat.reduceLT, getD_eq, List.length_set, *]))
      (refine WO.op1 ?_; simp only [opK, wanted, setDst, *])
      refine stepK_store (b := b3) (o := 0) (us := [s5, .int .i64 x.2.1]) (by (simp only [V.ev, Nat.reduceEqDiff, getD_ne, *]; try rfl)) (by (simp only [V.ev, Nat.reduceLT, getD_eq, List.length_set, *]; try rfl)) (by rfl) hgs8 fl8 (by simp) (one2 hso.2 _ _) fun h9 k9 => ?_
      have g9 := (gg.trans gB).wrote B.out w k9
      have hp9 := ps_wrote2 hp8 hgs8 (ps_int hps8) k9
      have hu9 := us_wrote hu8 hgs8 (ps_int hps8) k9
      have hps9 := ps_wrote2 hps8 hgs8 (ps_int hps8) k9
      have hus9 := us_wrote hus8 hgs8 (ps_int hps8) k9
      have e9 : h9.get b3 = some (.cells [s5, .int .i64 (y.1.length : Nat)]) := by rw [k9.at_, ← ht2.out]; rfl
      have e69 : h9.get b6 = some (.cells [s, .int .i64 (xs.length : Nat)]) := by rw [k9.else_ b6 (by omega)]; exact e6'
      have lex9 : ∀ h2, Keep h9 h2 → h2.load bx ox 2 = some [.int .u8 o.1, .int .u8 o.2] := fun h2 g => hlo9.out h2 (g9.kp.trans g)
      have lex9a : ∀ h2, Keep h9 h2 → h2.load bx ox 1 = some [.int .u8 o.1] := fun h2 g => by
        have := load_sub (lex9 h2 g) (i := 0) (m := 1) (by omega)
        simpa using this
      have lex9b : ∀ h2, Keep h9 h2 → h2.load bx (ox + 1) 1 = some [.int .u8 o.2] := fun h2 g => by
        have := load_sub (lex9 h2 g) (i := 1) (m := 1) (by omega)
        simpa using this
      have l3' : ∀ h', Grow h9 h' → h'.load b3 0 2 = some [s5, .int .i64 (y.1.length : Nat)] := fun h' g => g.part e9 (by simp)
      have l6' : ∀ h', Grow h9 h' → h'.load b6 0 2 = some [s, .int .i64 (xs.length : Nat)] := fun h' g => g.part e69 (by simp)
      replace hdo2 := Hid.mk (fun h1 w1 (k1 : Keep h9 h1) => hdo2 h1 w1 (k1.ps hp9))
      clear k9 hp8 hu8 hgs8 l8 e8' e6' lex8 hps8 hus8 fl8 w8
      have w9 := g9.wf w
      have l3g := l3' _ (Grow.refl h9)
      repeat' (first | refine WE.assoc ?_ | refine WE.seqR ?_ | refine WO.nil ?_ | refine WE.seqD ?_ | (refine WO.op1s ?_; simp only [opK, wanted, stepK, step, setDst, true_and, V.ev, Nat.reduceEqDiff, Nat.reduceLT, getD_ne, getD_eq, List.length_set, *]; with_reducible show WO _ _ _ _ _) | (refine WD.op2s ?_; simp only [opV, VOp.kind, hiddenOf, unveil_veil, veil_next, below_nil, or_true, or_false, wanted, stepK, step, setDst, evs, List.nil_append, List.cons_append, true_and, List.getD_cons_zero, V.ev, Nat.reduceEqDiff, Nat.reduceLT, Nat.reduceLeDiff, Bool.false_eq_true, getD_ne, getD_eq, List.length_set, if_true, reduceCtorEq, *]; with_reducible show WD _ _ _ _ _ _))
      refine WD.callG (h0 := h9) w9 (Grow.refl h9) (fun v => v = .int .i64 1) trivial (fun h1 w1 k1 => by (simp only [evs, V.ev, Nat.reduceEqDiff, Nat.reduceLT, getD_ne, getD_eq, List.length_set, *]); exact whole_ok w1 (k1.ps hp9) (k1.us hu9) hpn2 hyl) ?_
      rintro _ h11 g11 n11 rfl
      simp only [setDst, List.nil_append, List.cons_append]
      have l6g := l6' _ g11
      repeat' (first | (refine WD.op2s ?_; simp only [opV, VOp.kind, hiddenOf, unveil_veil, veil_next, below_nil, or_true, or_false, or_self, wanted, stepK, step, setDst, evs, eqVal, eqAt, eqv, Val.isAgg, Val.cells, List.nil_append, List.cons_append, true_and, and_self, Bool.and_true, List.getElem?_cons_zero, List.getD_cons_zero, List.getD_cons_succ, V.ev, Nat.reduceEqDiff, Nat.reduceLT, Nat.reduceLeDiff, Bool.false_eq_true, Int.reduceBEq, beq_self_eq_true, getD_ne, getD_eq, List.length_set, if_true, if_false, reduceCtorEq, Bool.not_false, *]; with_reducible show WD _ _ _ _ _ _) | (refine WD.known ?hc ?_; case hc => (simp only [wanted, Bool.false_beq, Nat.reduceEqDiff, Nat.reduceLT, getD_ne, getD_eq, List.length_set, Bool.not_false, *])))
      refine WD.callG (h0 := h9) w9 g11 (fun v => v = .int .i64 1) trivial (fun h1 w1 k1 => by (simp only [evs, V.ev, Nat.reduceEqDiff, Nat.reduceLT, getD_ne, getD_eq, List.length_set, *]); exact whole_ok w1 (k1.ps hps9) (k1.us hus9) hpn hxl) ?_
      rintro _ h12 g12 n12 rfl
      simp only [setDst, List.nil_append, List.cons_append]
      have l3h := l3' _ g12
      have x12 := lex9 _ g12.kp
      repeat' (first | (refine WD.iaddrE ?_; simp only [setDst, List.nil_append, List.cons_append, V.ev, Nat.reduceEqDiff, Nat.reduceLT, getD_ne, getD_eq, List.length_set, *]; refine ⟨_, rfl, ?_⟩) | (refine WD.op2s ?_; simp only [opV, VOp.kind, hiddenOf, unveil_veil, veil_next, below_nil, below_cons, or_false, or_self, wanted, stepK, step, setDst, evs, eqVal, eqAt, eqv, Val.isAgg, Val.cells, List.nil_append, List.cons_append, true_and, and_self, Bool.and_true, List.getElem?_cons_zero, List.getD_cons_zero, List.getD_cons_succ, V.ev, Nat.reduceEqDiff, Nat.reduceLT, Nat.reduceLeDiff, Bool.false_eq_true, Int.reduceBEq, beq_self_eq_true, getD_ne, getD_eq, List.length_set, if_true, if_false, reduceCtorEq, Bool.not_false, *]; with_reducible show WD _ _ _ _ _ _) | (refine WD.known ?hc ?_; case hc => (simp only [wanted, Bool.false_beq, Nat.reduceEqDiff, Nat.reduceLT, getD_ne, getD_eq, List.length_set, Bool.not_false, *])))
      refine WD.callG (h0 := h9) w9 g12 (fun v => v = .int .u64 (rv o.2)) ⟨.inl (Nat.le_refl _), trivial⟩ (fun h1 w1 k1 => by (simp only [evs, V.ev, Nat.reduceLT, getD_eq, List.length_set, *]); exact revG w1 hab.out.2) ?_
      rintro _ h13 g13 n13 rfl
      simp only [setDst, List.nil_append, List.cons_append]
      repeat' (first | (refine WD.known ?hc ?_; case hc => (simp only [wanted, Bool.false_beq, Nat.reduceEqDiff, Nat.reduceLT, getD_ne, getD_eq, List.length_set, Bool.not_false, *])))
      refine WD.callG (h0 := h9) w9 g13 (_) trivial (fun h1 w1 k1 => by (simp only [evs, V.ev, Nat.reduceEqDiff, Nat.reduceLT, getD_ne, getD_eq, List.length_set, *]); exact pcount_ok w1 (k1.ps hp9) hpn2.asc hql) ?_
      rintro _ h14 g14 n14 rfl
      simp only [setDst, List.nil_append, List.cons_append]
      have late : Late h9 h14 [(h12.next, h12.next), (h12.next, h12.next), (h12.next, h13.next), (h13.next, h14.next)] := ⟨.inl (Nat.le_refl _), .inl (Nat.le_refl _), .inr ⟨g12.next, n14⟩, .inr ⟨g13.next, Nat.le_refl _⟩, trivial⟩
      have y14 := lex9 _ (veil_keep w9 g14 late)
      repeat' (first | (refine WD.iaddrE ?_; simp only [setDst, List.nil_append, List.cons_append, V.ev, Nat.reduceEqDiff, Nat.reduceLT, getD_ne, getD_eq, List.length_set, *]; refine ⟨_, rfl, ?_⟩) | (refine WD.op2s ?_; simp only [opV, VOp.kind, hiddenOf, unveil_veil, veil_next, or_true, or_false, or_self, wanted, stepK, step, setDst, evs, List.nil_append, List.cons_append, true_and, List.getD_cons_zero, List.getD_cons_succ, V.ev, Nat.reduceEqDiff, Nat.reduceLT, Nat.reduceLeDiff, Bool.false_eq_true, beq_self_eq_true, getD_ne, getD_eq, List.length_set, if_true, if_false, reduceCtorEq, *]; with_reducible show WD _ _ _ _ _ _) | (refine WD.known ?hc ?_; case hc => (simp only [wanted, Bool.false_beq, Nat.reduceEqDiff, Nat.reduceLT, getD_ne, getD_eq, List.length_set, Bool.not_false, *])))
      refine WD.callG (h0 := h9) w9 g14 (fun v => v = .int .u64 (rv o.2)) trivial (fun h1 w1 k1 => by (simp only [evs, V.ev, Nat.reduceLT, getD_eq, List.length_set, *]); exact revG w1 hab.out.2) ?_
      rintro _ h15 g15 n15 rfl
      simp only [setDst, List.nil_append, List.cons_append]
      repeat' (first | (refine WD.known ?hc ?_; case hc => (simp only [wanted, Bool.false_beq, Nat.reduceEqDiff, Nat.reduceLT, getD_ne, getD_eq, List.length_set, Bool.not_false, *])))
      refine WD.callG (h0 := h9) w9 g15 (_) trivial (fun h1 w1 k1 => by (simp only [evs, V.ev, Nat.reduceEqDiff, Nat.reduceLT, getD_ne, getD_eq, List.length_set, *]); exact count_okG (k1.us hu9) hyl) ?_
      rintro _ h16 g16 n16 rfl
      simp only [setDst, List.nil_append, List.cons_append]
      have l3i := l3' _ g16
      have l6i := l6' _ g16
      repeat' (first | (refine WD.op2s ?_; simp only [opV, VOp.kind, hiddenOf, unveil_veil, veil_next, below_nil, below_cons, or_true, or_self, wanted, stepK, step, setDst, evs, eqVal, eqAt, eqv, Val.isAgg, Val.cells, List.nil_append, List.cons_append, true_and, and_self, Bool.and_true, List.getElem?_cons_zero, List.getD_cons_zero, List.getD_cons_succ, V.ev, Nat.reduceEqDiff, Nat.reduceLT, Nat.reduceLeDiff, Bool.false_eq_true, beq_self_eq_true, getD_ne, getD_eq, List.length_set, if_true, if_false, reduceCtorEq, Bool.not_true, *]; with_reducible show WD _ _ _ _ _ _) | (refine WD.known ?hc ?_; case hc => (simp only [wanted, Bool.false_beq, Nat.reduceEqDiff, Nat.reduceLT, getD_ne, getD_eq, List.length_set, Bool.not_false, *])))
      refine WD.callG (h0 := h9) w9 g16 (fun v => v = .bool false) trivial (fun h1 w1 k1 => by (simp only [evs, V.ev, Nat.reduceEqDiff, Nat.reduceLT, getD_ne, getD_eq, List.length_set, *]); exact (psame_ok w1 (k1.ps hp9) (k1.ps hps9) hql5 hpl5).mono fun v h' e => ⟨e.1, by rw [e.2, hqne]⟩) ?_
      rintro _ h17 g17 n17 rfl
      simp only [setDst, List.nil_append, List.cons_append]
      have gU := g17
      clear l3g l6g l3h l6i l3i x12 y14 late g11 g12 g13 g14 g15 g16 n11 n12 n13 n14 n15 n16 n17
      repeat' (first | refine WE.seqD ?_ | refine WD.nil2 ?_ | (refine WD.iaddrE ?_; simp only [setDst, List.nil_append, List.cons_append, V.ev, Nat.reduceEqDiff, Nat.reduceLT, getD_ne, getD_eq, List.length_set, *]; refine ⟨_, rfl, ?_⟩) | (refine WD.op2s ?_; simp only [opV, VOp.kind, hiddenOf, unveil_veil, veil_next, below_nil, or_false, or_self, wanted, stepK, step, setDst, List.nil_append, List.cons_append, true_and, V.ev, Nat.reduceEqDiff, Nat.reduceLT, Nat.reduceLeDiff, Nat.add_zero, Bool.false_eq_true, getD_ne, getD_eq, List.length_set, if_true, if_false, reduceCtorEq, *]; with_reducible show WD _ _ _ _ _ _) | refine WE.seqSkip ?_ | (refine WE.seqCond (t := false) ?hc (fun hh => Bool.noConfusion hh) (fun _ => ?_); case hc => simp only [V.ev, Nat.reduceLT, getD_eq, List.length_set, *]))
      have x17 := lex9a _ gU.kp
      have x17b := lex9b _ gU.kp
      have l3j := l3' _ gU
      repeat' (first | (refine WD.iaddrE ?_; simp only [setDst, List.nil_append, List.cons_append, V.ev, Nat.reduceEqDiff, Nat.reduceLT, getD_ne, getD_eq, List.length_set, *]; refine ⟨_, rfl, ?_⟩) | (refine WD.op2s ?_; simp only [opV, VOp.kind, hiddenOf, unveil_veil, veil_next, below_nil, below_cons, or_false, or_self, wanted, stepK, step, setDst, pureV, arith, intBin, evs, Val.cells, fill, splice, List.take_zero, List.take_succ_cons, List.drop_zero, List.drop_succ_cons, List.nil_append, List.cons_append, List.length_cons, List.length_nil, List.drop_nil, true_and, and_self, Nat.le_refl, List.getD_cons_zero, List.getD_cons_succ, V.ev, Nat.reduceEqDiff, Nat.reduceLT, Nat.reduceLeDiff, Nat.reduceAdd, Nat.zero_add, Bool.false_eq_true, getD_ne, getD_eq, List.length_set, if_true, if_false, reduceCtorEq, *]; with_reducible show WD _ _ _ _ _ _))
      refine WD.callH (h0 := h9) w9 gU (fun v h => PRes h v z) (fun v h h' k e => k.pres e) trivial (fun h1 w1 k1 => by (simp only [evs, V.ev, Nat.reduceEqDiff, Nat.reduceLT, getD_ne, getD_eq, List.length_set, *]); exact hdo2.out h1 w1 k1) ?_
      rintro _ h18 g18 n18 ⟨s18, rfl, hp18⟩
      simp only [setDst, List.nil_append, List.cons_append]
      have w18 := g18.wf w9
      repeat' (first | (refine WD.op2s ?_; simp only [opV, VOp.kind, hiddenOf, unveil_veil, veil_next, or_false, wanted, stepK, step, setDst, List.nil_append, List.cons_append, true_and, Nat.le_refl, List.getElem?_cons_zero, List.getElem?_cons_succ, List.getD_cons_zero, List.getD_cons_succ, V.ev, Nat.reduceEqDiff, Nat.reduceLT, Nat.reduceLeDiff, Bool.false_eq_true, getD_ne, getD_eq, List.length_set, if_true, reduceCtorEq, *]; with_reducible show WD _ _ _ _ _ _))
      (refine WD.op2 ?_; simp only [opV, VOp.kind, hiddenOf, wanted, setDst, true_or, List.nil_append, List.cons_append, Nat.reduceEqDiff, Nat.reduceLeDiff, Bool.false_eq_true, if_true, *])
      refine stepK_alloc w18 fun b12 h19 g19 hb12 hg12 hn12 => ?_
      have hp19 := g19.ps hp18
      have hso18 := ps_one hp19
      clear hn12 hp18
      skip
      (refine WD.op2 ?_; simp only [opV, VOp.kind, hiddenOf, wanted, setDst, or_true, List.nil_append, List.cons_append, Nat.reduceEqDiff, Nat.reduceLeDiff, if_true, *])
      refine stepK_store (b := b12) (o := 0) (us := [s18, .int .i64 z.2.1]) (by (simp only [V.ev, Nat.reduceLT, getD_eq, List.length_set, *]; try rfl)) (by (simp only [V.ev, Nat.reduceEqDiff, Nat.reduceLT, getD_ne, getD_eq, List.length_set, *]; try rfl)) (by rfl) hg12 (by rw [g19.floor]; exact Nat.le_trans w18.fl hb12) (by simp) (one2 hso18.2 _ _) fun h20 k20 => ?_
      have g20 : Grow h9 h20 := g18.trans (g19.wrote hb12 w18 k20)
      have hp20 := ps_wrote2 hp19 hg12 rfl k20
      have l12 : h20.load b12 0 2 = some [s18, .int .i64 z.2.1] := load_get k20.at_ (by simp [splice])
      have l6k := l6' _ g20
      have w20 := g20.wf w9
      rw [hz1.out] at hp20
      clear k20 hg12 hp19 x17 x17b l3j gU g17 g18 g19 w18
      repeat' (first | refine WE.seqR ?_ | refine WD.nil2 ?_ | (refine WO.op1s ?_; simp only [opK, wanted, stepK, step, setDst, evs, eqVal, eqAt, eqv, Val.isAgg, Val.cells, true_and, and_self, Bool.and_true, List.getElem?_cons_zero, V.ev, Nat.reduceEqDiff, Nat.reduceLT, beq_self_eq_true, getD_ne, getD_eq, List.length_set, if_true, Bool.not_true, *]; with_reducible show WO _ _ _ _ _) | (refine WD.op2s ?_; simp only [opV, VOp.kind, hiddenOf, unveil_veil, veil_next, or_self, wanted, stepK, step, setDst, List.nil_append, List.cons_append, true_and, V.ev, Nat.reduceEqDiff, Nat.reduceLT, Nat.reduceLeDiff, getD_ne, getD_eq, List.length_set, if_true, reduceCtorEq, *]; with_reducible show WD _ _ _ _ _ _) | (refine WO.known ?hc ?_; case hc => (simp only [wanted, Bool.false_beq, Nat.reduceEqDiff, Nat.reduceLT, getD_ne, getD_eq, List.length_set, Bool.not_false, *])))
      refine WO.callG (h0 := h20) w20 (Grow.refl _) (fun v => v = .bool true) rfl (fun h1 w1 k1 => by (simp only [evs, V.ev, Nat.reduceEqDiff, Nat.reduceLT, getD_ne, getD_eq, List.length_set, *]); exact (psame_ok w1 (k1.ps hp20) (k1.ps (g20.ps hps9)) hpl5 hpl5).mono fun v h' e => ⟨e.1, by rw [e.2]; simp⟩) ?_
      rintro _ h21 g21 rfl
      simp only [setDst]
      have gV := g20.trans g21
      repeat' (first | refine WO.nil ?_ | (refine WO.op1s ?_; simp only [opK, wanted, stepK, step, setDst, pureV, arith, intBin, unary, true_and, V.ev, Nat.reduceEqDiff, Nat.reduceLT, beq_self_eq_true, getD_ne, getD_eq, List.length_set, if_true, Bool.not_true, *]; with_reducible show WO _ _ _ _ _) | refine WE.skip ?_ | (refine WE.cond2 (t := false) ?hc (fun hh => Bool.noConfusion hh) (fun _ => ?_); case hc => simp only [V.ev, Nat.reduceLT, getD_eq, List.length_set, *]) | refine WE.region ?_)
      exact ⟨k - 1, by have := H.out; have := hi'.out; omega, g9.trans gV, i + 1, s8, x.1, y.1, ⟨by have := H.out; have := hi'.out; omega, by have := H.out; omega⟩, by simp only [List.length_set, hl], by (simp only [getD_ne, reduceCtorEq, *]; try rfl), by (simp only [Nat.reduceEqDiff, getD_ne, *]; try rfl), by (simp only [Nat.reduceEqDiff, Nat.reduceLT, getD_ne, getD_eq, List.length_set, *]; try rfl), by (simp only [Nat.reduceLT, getD_eq, List.length_set, *]; try rfl), s5, gV.keep _ _ e9, gV.ps hp9, gV.us hu9, hpn2⟩
  · have hcnd : (decide ((i : Int) < (os.length : Int)) = true ∧ decide ((i : Int) < 60) = false) ∨ decide ((i : Int) < (os.length : Int)) = false := by
      by_cases q : i < os.length
      · exact .inl ⟨decide_eq_true (by omega), decide_eq_false (by omega)⟩
      · exact .inr (decide_eq_false (by omega))
    rcases hcnd with ⟨hd, hd2⟩ | hd
    ·
      repeat' (first | refine WE.assoc ?_ | refine WE.seqR ?_ | refine WO.nil ?_ | (refine WO.lenOfE ?_; simp only [setDst, V.ev, Nat.reduceLT, getD_eq, List.length_set, *]; refine ⟨_, rfl, ?_⟩) | (refine WO.op1s ?_; simp only [opK, wanted, stepK, step, setDst, pureV, arith, intBin, evs, true_and, V.ev, Nat.reduceEqDiff, Nat.reduceLT, beq_self_eq_true, getD_ne, getD_eq, List.length_set, if_true, reduceCtorEq, *]; with_reducible show WO _ _ _ _ _) | refine WE.seqExit ?_ | (refine WE.seqCond (t := false) ?hc (fun hh => Bool.noConfusion hh) (fun _ => ?_); case hc => simp only [V.ev, Nat.reduceLT, getD_eq, List.length_set, *]))
      refine WO.callG (h0 := hc) wc (Grow.refl _) (fun v => v = .int .i64 1) rfl (fun h1 w1 k1 => by (simp only [evs, V.ev, Nat.reduceEqDiff, Nat.reduceLT, getD_ne, getD_eq, List.length_set, *]); exact whole_ok w1 (k1.ps hps) (k1.us hus) hpn hx60) ?_
      rintro _ h3 g3 rfl
      simp only [setDst]
      have g3a := gg.trans g3
      have w3 := g3a.wf w
      repeat' (first | (refine WO.op1s ?_; simp only [opK, wanted, stepK, step, setDst, evs, eqVal, eqAt, eqv, Val.isAgg, Val.cells, true_and, and_self, Bool.and_true, List.getElem?_cons_zero, V.ev, Nat.reduceLT, Bool.false_eq_true, beq_self_eq_true, getD_eq, List.length_set, if_true, if_false, Bool.not_true, *]; with_reducible show WO _ _ _ _ _) | (refine WO.known ?hc ?_; case hc => (simp only [wanted, Bool.true_beq, Nat.reduceLT, getD_eq, List.length_set, *])))
      refine WO.callG (h0 := h3) w3 (Grow.refl _) (fun v => v = .bool true) rfl (fun h1 w1 k1 => by (simp only [evs, *]); exact lives_okG) ?_
      rintro _ h4 g4 rfl
      simp only [setDst]
      repeat' (first | refine WO.nil ?_ | (refine WO.op1s ?_; simp only [opK, wanted, stepK, step, setDst, true_and, V.ev, Nat.reduceEqDiff, Nat.reduceLT, getD_ne, getD_eq, List.length_set, *]; with_reducible show WO _ _ _ _ _) | refine WE.ret ?_)
      ((try dsimp only); refine Exists.intro _ ⟨(by (simp only [readResults, Nat.reduceLT, getD_eq, List.length_set, *]; try rfl)), ?_⟩)
      exact ⟨g3a.trans g4, rfl⟩
    ·
      repeat' (first | refine WE.assoc ?_ | refine WE.seqR ?_ | refine WO.nil ?_ | (refine WO.lenOfE ?_; simp only [setDst, V.ev, Nat.reduceLT, getD_eq, List.length_set, *]; refine ⟨_, rfl, ?_⟩) | (refine WO.op1s ?_; simp only [opK, wanted, stepK, step, setDst, pureV, arith, intBin, evs, true_and, V.ev, Nat.reduceEqDiff, Nat.reduceLT, getD_ne, getD_eq, List.length_set, if_true, reduceCtorEq, Bool.false_beq, Bool.not_true, *]; with_reducible show WO _ _ _ _ _) | refine WE.seqExit ?_ | (refine WE.seqCond (t := false) ?hc (fun hh => Bool.noConfusion hh) (fun _ => ?_); case hc => simp only [V.ev, Nat.reduceLT, getD_eq, List.length_set, *]))
      refine WO.callG (h0 := hc) wc (Grow.refl _) (fun v => v = .int .i64 1) rfl (fun h1 w1 k1 => by (simp only [evs, V.ev, Nat.reduceEqDiff, Nat.reduceLT, getD_ne, getD_eq, List.length_set, *]); exact whole_ok w1 (k1.ps hps) (k1.us hus) hpn hx60) ?_
      rintro _ h3 g3 rfl
      simp only [setDst]
      have g3a := gg.trans g3
      have w3 := g3a.wf w
      repeat' (first | (refine WO.op1s ?_; simp only [opK, wanted, stepK, step, setDst, evs, eqVal, eqAt, eqv, Val.isAgg, Val.cells, true_and, and_self, Bool.and_true, List.getElem?_cons_zero, V.ev, Nat.reduceLT, Bool.false_eq_true, beq_self_eq_true, getD_eq, List.length_set, if_true, if_false, Bool.not_true, *]; with_reducible show WO _ _ _ _ _) | (refine WO.known ?hc ?_; case hc => (simp only [wanted, Bool.true_beq, Nat.reduceLT, getD_eq, List.length_set, *])))
      refine WO.callG (h0 := h3) w3 (Grow.refl _) (fun v => v = .bool true) rfl (fun h1 w1 k1 => by (simp only [evs, *]); exact lives_okG) ?_
      rintro _ h4 g4 rfl
      simp only [setDst]
      repeat' (first | refine WO.nil ?_ | (refine WO.op1s ?_; simp only [opK, wanted, stepK, step, setDst, true_and, V.ev, Nat.reduceEqDiff, Nat.reduceLT, getD_ne, getD_eq, List.length_set, *]; with_reducible show WO _ _ _ _ _) | refine WE.ret ?_)
      ((try dsimp only); refine Exists.intro _ ⟨(by (simp only [readResults, Nat.reduceLT, getD_eq, List.length_set, *]; try rfl)), ?_⟩)
      exact ⟨g3a.trans g4, rfl⟩

end Go.V
end

section
set_option linter.unusedVariables false
set_option linter.unusedSimpArgs false
set_option linter.unusedSectionVars false
set_option maxRecDepth 100000
namespace Go.Proofs.Ytalokejcacejpaa.play
open Go.ChangeShapes Go.WideShapes Go.ChangeAt Go.RowKit Go.V

theorem own : ownKnob Try.prog.godebug = none := by kernel_rfl
theorem flatO : flatT Try.prog 4 31 = some [.u8, .u8] := by kernel_rfl
theorem sizeO : Try.prog.cellsOf 31 = 2 := by kernel_rfl

theorem contract (H : Type) (enc : TypeId × Value → H) (W : World) (base : Nat) (args : Array Value) (ds gs : List (DataW H)) (before : List MemPlace)
    (hval : ∀ (j : Nat) t v, Try.f6.params[j]? = some t → args[j]? = some v → Value.okWide Try.prog W .any base t v)
    (hW : DataW.Whole enc Try.prog Try.f6.params.toList Rows.pinsPlaySpec.vars false W args.toList ds gs before) :
    Calls Try.prog 6 args W fun e W' => ∃ v, e = .returned v ∧ Rows.pinsPlaySpec.post enc Try.prog Try.f6 false true false false W args v W' := by
  have hW' := hW
  obtain ⟨p, q, hA0, hV, rfl, hfz, hnd⟩ := hW
  have hA : DataW.TrodAll enc Try.prog W 0 (fun _ => true) true Try.f6.params.toList args.toList ds p := hA0
  rw [Try.params6] at hA hval
  obtain ⟨v0, vs0, d0, ds0, p0, q0, hargs, rfl, rfl, ⟨n0, h0⟩, r0⟩ := trodAll_cons hA
  obtain ⟨rfl, rfl, rfl⟩ := trodAll_nil r0
  obtain rfl : args = #[v0] := by cases args; simp_all
  obtain ⟨rfl, rfl⟩ := trodVars_none hV
  have hv0 : v0.cells.toList = [v0] := by
    obtain ⟨a, l, c, q⟩ := okWide_slice Try.underlying22 (hval 0 22 v0 rfl rfl)
    rw [q]; rfl
  rw [hv0] at h0
  have hsa := slice_arg Try.underlying22 flatO (by rw [sizeO]; rfl) (by rw [sizeO]; omega) h0 fun bb off hx => hfz bb off (by simp only [List.append_nil]; exact hx)
  rw [sizeO] at hsa
  obtain ⟨ρ, hp0, s, os, A1, _, _, hv, hos⟩ := (ArgS.nil W).slice (cellsD := fun t : OOk => [Val.int .u8 t.1.1, Val.int .u8 t.1.2]) (fun _ => rfl) os_of hsa
  have hO : (os.map Subtype.val).flatMap ocell = os.flatMap fun t => [Val.int .u8 t.1.1, Val.int .u8 t.1.2] := by rw [List.flatMap_map]
  have hos2 : Oc hp0 s (os.map Subtype.val) := ⟨by rw [hO, List.length_map]; exact hos, fun t h => by obtain ⟨x, _, rfl⟩ := List.mem_map.1 h; exact x.2⟩
  obtain ⟨n, v, h', er, _, rfl⟩ := lawPlay_ok A1.wf hos2
  have hvr : VRels ρ [s] #[v0].toList := .cons hv .nil
  refine (law_args env09 ext09 A1.hr A1.low hvr er).mono ?_
  rintro en W' ⟨he, hs, ho, hp⟩
  exact ⟨_, he, post_law (by kernel_rfl) hW' rfl (by rfl) Try.underlying4 rfl hs ho hp⟩

theorem lifted (os : Os) (started : os.Started) (H : Type) (enc : TypeId × Value → H) :
    ReturnsInHanded {} Try.checked os 6 .any (Rows.pinsPlaySpec.pre6 enc Try.prog Try.f6 Rows.pinsPlayRow.domain false) (Rows.pinsPlaySpec.post enc Try.prog Try.f6 false true false false) := by
  refine returnsInHanded_of_change (C := Try.checked) own started ?_ Try.func6 ?_ ?_
  · kernel_rfl
  · refine ChangeSpec.witness6 (enc := enc) (C := Try.checked) false ⟨#[], #[.slice none 0 0], []⟩ 8 ?_ ?_ ?_ ?_
    · kernel_rfl
    · kernel_rfl
    · kernel_rfl
    · kernel_rfl
  intro W base args ds gs before hval hW _ _
  exact contract H enc W base args ds gs before hval hW

theorem play_holds : Rows.PinsPlaySaid :=
  OpenClaim.holds_of_wide 6 Try.f6 rfl rfl rfl rfl rfl rfl rfl ⟨rfl, rfl, rfl, rfl, rfl⟩ rfl rfl rfl rfl rfl (by kernel_rfl) Try.func6 (by kernel_rfl)
    (of_decide_eq_true (by kernel_rfl)) (by unfold Func.isWrapper; first | (rw [if_pos (by decide +kernel)]; kernel_rfl) | (rw [if_neg (by decide +kernel)]; exact ⟨rfl, rfl⟩))
    (fun os started H enc _ => lifted os started H enc)
end Go.Proofs.Ytalokejcacejpaa.play
end
