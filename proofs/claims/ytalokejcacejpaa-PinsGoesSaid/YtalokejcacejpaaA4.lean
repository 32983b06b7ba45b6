/-
  For every list of calls, revisions and number PinsGoes returns true, and the arguments read as before. No condition.
-/
import Derived.Test.YtalokejcacejpaaA3

section
set_option linter.unusedVariables false
set_option linter.unusedSimpArgs false
set_option linter.unusedSectionVars false
-- DRAWS
-- BUILDS
-- NEW
set_option maxHeartbeats 4000000
namespace Go.V
attribute [local irreducible] stepK opK opV

theorem lives_okG {h : Heap} : WC E09 8 [] h fun v h' => Grow h h' ∧ v = .bool true :=
  WC.prim (p := wholeP (.bool true)) rfl (by rfl) ⟨Grow.refl _, rfl⟩

/-- Writing a block of pins does not touch a list. -/
theorem sl_wrote {h3 h4 : Heap} {s : Val} {sz n : Nat} {cs : List Val} (hs : Sl h3 s sz n cs) {b4 : Nat} {dd : List Val} {x : Val} {t : Int} (hg : h3.get b4 = some (.cells [x, .int .i64 t])) (hx : isInt x = false) (hc : 0 < n * sz → ∃ (k : IntKind) (z : Int) (r : List Val), cs = .int k z :: r ∧ k ≠ .i64) (k : Wrote h3 b4 dd h4) : Sl h4 s sz n cs := by
  refine ⟨hs.1, ?_⟩
  rcases hs.2 with q | ⟨b, o, cap, ls, e1, e2, e3, e4⟩
  · exact .inl q
  · refine .inr ⟨b, o, cap, ls, e1, e2, e3, ?_⟩
    rcases e4 with e4 | e4
    · exact .inl e4
    · by_cases hb : b = b4
      · subst hb
        obtain ⟨c, h1, h2, h3⟩ := Heap.load_some e4
        rw [hg] at h1
        cases h1
        rcases Nat.eq_zero_or_pos (n * sz) with q | q
        · exact .inl q
        · obtain ⟨k, z, r, rfl, hk⟩ := hc q
          simp only [List.length_cons, List.length_nil] at h2
          have ho : o = 0 ∨ o = 1 := by omega
          obtain ⟨m, hm⟩ : ∃ m, n * sz = m + 1 := ⟨n * sz - 1, by omega⟩
          rw [hm] at h3
          rcases ho with rfl | rfl
          · simp at h3
            obtain ⟨rfl, _⟩ := h3
            cases hx
          · simp at h3
            exact absurd h3.1.1 hk
      · right
        unfold Heap.load at e4 ⊢
        rw [k.else_ b hb]
        exact e4

theorem us_wrote {h3 h4 : Heap} {s : Val} {xs : List Int} (hs : Us h3 s xs) {b4 : Nat} {dd : List Val} {x : Val} {t : Int} (hg : h3.get b4 = some (.cells [x, .int .i64 t])) (hx : isInt x = false) (k : Wrote h3 b4 dd h4) : Us h4 s xs :=
  sl_wrote hs hg hx (fun h => by
    cases xs with
    | nil => simp at h
    | cons z zs => exact ⟨_, _, _, rfl, by decide⟩) k

theorem ps_wrote2 {h3 h4 : Heap} {s : Val} {ps : PinL} (hs : Ps h3 s ps) {b4 : Nat} {dd : List Val} {x : Val} {t : Int} (hg : h3.get b4 = some (.cells [x, .int .i64 t])) (hx : isInt x = false) (k : Wrote h3 b4 dd h4) : Ps h4 s ps :=
  sl_wrote hs hg hx (fun h => by
    cases ps with
    | nil => simp at h
    | cons z zs => exact ⟨.u64, z.1, _, rfl, by decide⟩) k

theorem ps_int {h : Heap} {s : Val} {ps : PinL} (hs : Ps h s ps) : isInt s = false := by
  rcases hs.2 with ⟨rfl, _⟩ | ⟨_, _, _, _, rfl, _⟩ <;> rfl

abbrev ocell (p : Int × Int) : List Val := [.int .u8 p.1, .int .u8 p.2]

def Oc (h : Heap) (s : Val) (os : List (Int × Int)) : Prop := Sl h s 2 os.length (os.flatMap ocell) ∧ ∀ p ∈ os, (0 ≤ p.1 ∧ p.1 < 256) ∧ (0 ≤ p.2 ∧ p.2 < 256)

theorem os_load {h h1 : Heap} {s : Val} {os : List (Int × Int)} (hs : Oc h s os) {i : Nat} (hi : i < os.length) (g : Keep h h1) : ∃ b o, eltI 2 s (.int .i64 (i : Int)) = some (.ptr b o) ∧ ∀ h2, Keep h1 h2 → h2.load b o 2 = some [.int .u8 os[i].1, .int .u8 os[i].2] := by
  obtain ⟨bx, o, he, le⟩ := Sl.elt hs.1 (k := .i64) hi (by omega)
  have hfd := flat_drop (f := ocell) (sz := 2) (fun _ => rfl) os i hi
  refine ⟨bx, o, he, fun h2 g2 => ?_⟩
  have := le h2 (g.trans g2) 0 2 (by omega)
  rw [Nat.add_zero, Nat.add_zero, hfd] at this
  simpa [ocell] using this

theorem refR_len (a b : Int) (xs : List Int) (m : Nat) : (refR a b xs m).1.length ≤ xs.length + 1 := by
  unfold refR
  split
  · unfold unpinL
    split
    · have := List.length_erase_le (a := rv b) (l := xs); simp only; omega
    · simp
  · unfold pinL
    repeat' split
    all_goals simp

/-- Pins in a block, and their list. -/
def PinSt (h : Heap) (b : Nat) (u : Val) (ps : PinL) (xs : List Int) : Prop := ∃ s, h.get b = some (.cells [s, .int .i64 (xs.length : Nat)]) ∧ Ps h s ps ∧ Us h u xs ∧ Pn ps xs

def GoL (h0 : Heap) (b7 : Nat) (L : Nat) (l a1 a2 : Val) (os : List (Int × Int)) (k : Nat) (fr : List Val) (h' : Heap) : Prop := Grow h0 h' ∧ ∃ (i : Nat) (u : Val) (ps : PinL) (xs : List Int), Hid (i + k = min os.length 60 ∧ xs.length ≤ i) ∧ fr.length = L ∧ fr.getD 0 .undef = l ∧ fr.getD 1 .undef = a1 ∧ fr.getD 2 .undef = a2 ∧
  fr.getD 7 .undef = .ptr b7 0 ∧ fr.getD 8 .undef = u ∧ fr.getD 9 .undef = .int .i64 (i : Nat) ∧ PinSt h' b7 u ps xs

def GkL (h0 : Heap) (b7 : Nat) (g : Val) (G : List Int) (u : Val) (ps : PinL) (xs : List Int) (k : Nat) (fr : List Val) (h' : Heap) : Prop := Grow h0 h' ∧ ∃ i : Nat, Hid (i + k = G.length) ∧ Us h' g G ∧ fr.length = 93 ∧ fr.getD 7 .undef = .ptr b7 0 ∧ fr.getD 8 .undef = u ∧ fr.getD 14 .undef = g ∧ fr.getD 15 .undef = .int .i64 (i : Nat) ∧ PinSt h' b7 u ps xs

theorem lawGoes_ok {h : Heap} (w : Wf h) {l r : Val} {os : List (Int × Int)} {ys : List Int} {keep : Int} (hl' : Oc h l os) (hr : Us h r ys) :
    WC E09 3 [l, r, .int .i64 keep] h fun v h' => Grow h h' ∧ v = .bool true := by
  refine WC.fn1 (n := 93) rfl rfl (by rfl) ?_
  intro fr hl ha'
  have f0 : fr.getD 0 .undef = l := ha' 0
  have f1 : fr.getD 1 .undef = r := ha' 1
  have f2 : fr.getD 2 .undef = .int .i64 keep := ha' 2
  clear ha'
  have hlo := hl'.1.lenI
  have hly := hr.lenI
  have gg := Grow.refl h
  have wB := w
  unfold v3
  by_cases hy : ys.length > 40
  · have d1 : decide ((ys.length : Int) > 40) = true := decide_eq_true (by omega)
    repeat' (first | refine WE.assoc ?_ | refine WE.seqR ?_ | refine WO.nil ?_ | (refine WO.lenOfE ?_; simp only [setDst, V.ev, Nat.reduceLT, getD_eq, List.length_set, *]; refine ⟨_, rfl, ?_⟩) | (refine WO.op1s ?_; simp only [opK, wanted, stepK, step, setDst, pureV, arith, intBin, evs, true_and, V.ev, Nat.reduceEqDiff, Nat.reduceLT, getD_ne, getD_eq, List.length_set, if_true, *]; with_reducible show WO _ _ _ _ _) | (refine WO.callG (f := 8) (g := none) wB gg _ rfl (fun h1 w1 k1 => by (simp only [evs, *]); exact  lives_okG) ?_; clear gg; (rintro _ hh gg rfl; simp only [setDst])) | refine WE.seqRet ?_ | (refine WE.seqCond (t := true) ?hc (fun _ => ?_) (fun hh => Bool.noConfusion hh); case hc => simp only [V.ev, Nat.reduceLT, getD_eq, List.length_set, *]))
    ((try dsimp only); refine Exists.intro _ ⟨(by (simp only [readResults, Nat.reduceLT, getD_eq, List.length_set, *]; try rfl)), ?_⟩)
    exact ⟨gg, rfl⟩
  have d1 : decide ((ys.length : Int) > 40) = false := decide_eq_false (by omega)
  repeat' (first | refine WE.assoc ?_ | refine WE.seqR ?_ | refine WO.nil ?_ | (refine WO.lenOfE ?_; simp only [setDst, V.ev, Nat.reduceLT, getD_eq, List.length_set, *]; refine ⟨_, rfl, ?_⟩) | (refine WO.op1s ?_; simp only [opK, wanted, stepK, step, setDst, pureV, arith, intBin, true_and, V.ev, Nat.reduceEqDiff, Nat.reduceLT, getD_ne, getD_eq, List.length_set, if_true, *]; with_reducible show WO _ _ _ _ _) | refine WE.seqSkip ?_ | (refine WE.seqCond (t := false) ?hc (fun hh => Bool.noConfusion hh) (fun _ => ?_); case hc => simp only [V.ev, Nat.reduceLT, getD_eq, List.length_set, *]))
  (refine WO.op1 ?_; simp only [opK, wanted, setDst, *])
  refine stepK_alloc w fun b7 h2 g2 hb7 hg7 hn7 => ?_
  have B := Hid.mk hb7
  clear gg hn7 hb7
  repeat' (first | refine WE.assoc ?_ | refine WE.seqR ?_ | refine WO.nil ?_ | (refine WO.op1s ?_; simp only [opK, wanted, stepK, step, setDst, true_and, V.ev, *]; with_reducible show WO _ _ _ _ _) | refine WE.seqBlock ?_)
  refine WE.loop (GoL h b7 93 l r (.int .i64 keep) os) ?_ (min os.length 60) _ _ ⟨g2, 0, .nils, [], [], ⟨by omega, by simp⟩, by simp only [List.length_set, hl], by (simp only [getD_ne, reduceCtorEq, *]; try rfl), by (simp only [Nat.reduceEqDiff, getD_ne, *]; try rfl), by (simp only [Nat.reduceEqDiff, getD_ne, *]; try rfl), by (simp only [Nat.reduceEqDiff, Nat.reduceLT, getD_ne, getD_eq, List.length_set, *]; try rfl), by (simp only [Nat.reduceEqDiff, Nat.reduceLT, getD_ne, getD_eq, List.length_set, *]; try rfl), by (simp only [Nat.reduceLT, Int.cast_ofNat_Int, getD_eq, List.length_set, *]; try rfl), .nils, hg7, ps_nil, us_nil, Pn.nil⟩
  clear f0 f1 f2 hl hg7 g2
  rintro k fr hc ⟨gg, i, u, ps, xs, H, hl, f0, f1, f2, f7, f8, f9, s, hgs, hps, hus, hpn⟩
  have wc := gg.wf w
  have l7 : hc.load b7 0 2 = some [s, .int .i64 (xs.length : Nat)] := load_get hgs (by simp)
  by_cases hi : i < min os.length 60
  · have hio : i < os.length := by omega
    have hd : decide ((i : Int) < (os.length : Int)) = true := decide_eq_true (by omega)
    have hd2 : decide ((i : Int) < 60) = true := decide_eq_true (by omega)
    obtain ⟨bx, ox, hex, lex⟩ := os_load hl' hio gg.kp
    have x0 := lex _ (Keep.refl _)
    have wn : IntKind.i64.wrap ((i : Int) + 1) = ((i + 1 : Nat) : Int) := wrap_add (b := 1) (by omega)
    have hab := hl'.2 _ (List.getElem_mem hio)
    have HB := both hpn (a := os[i].1) hab.2
    have hrl := refR_len os[i].1 os[i].2 xs ps.length
    have hdo : ∀ h1, Wf h1 → Keep hc h1 → WC E09 9 [.agg [.int .u8 os[i].1, .int .u8 os[i].2], .agg [s, .int .i64 (xs.length : Nat)]] h1 fun v h' => Grow h1 h' ∧ PRes h' v (doR os[i].1 os[i].2 ps xs.length) :=
      fun h1 w1 k1 => do_ok w1 hab (k1.ps hps) hpn.asc hpn.len (fun p hp => by have := hpn.pos p hp; omega) (by have := H.out; omega)
    have hrf : ∀ h1, Wf h1 → Us h1 u xs → WC E09 10 [.agg [.int .u8 os[i].1, .int .u8 os[i].2], u] h1 fun v h' => Grow h1 h' ∧ LRes h' v (refR os[i].1 os[i].2 xs ps.length) := fun h1 w1 q => by
      have := ref_ok w1 hab q (by have := H.out; omega) hpn.held
      rwa [List.length_map] at this
    have hi' := Hid.mk hi
    generalize hx : doR os[i].1 os[i].2 ps xs.length = x at *
    generalize hy : refR os[i].1 os[i].2 xs ps.length = y at *
    generalize os[i] = o at *
    obtain ⟨hee, HB⟩ := HB
    have hyy : (y.2 == y.2) = true := by simp
    replace HB := Hid.mk HB
    replace hab := Hid.mk hab
    replace hdo := Hid.mk hdo
    replace hrf := Hid.mk hrf
    clear hx hy hi hio
    repeat' (first | refine WE.assoc ?_ | refine WE.seqR ?_ | refine WO.nil ?_ | refine WE.seqD ?_ | (refine WO.lenOfE ?_; simp only [setDst, V.ev, Nat.reduceLT, getD_eq, List.length_set, *]; refine ⟨_, rfl, ?_⟩) | (refine WO.op1s ?_; simp only [opK, wanted, stepK, step, setDst, pureV, arith, intBin, true_and, V.ev, Nat.reduceEqDiff, Nat.reduceLT, beq_self_eq_true, getD_ne, getD_eq, List.length_set, if_true, reduceCtorEq, *]; with_reducible show WO _ _ _ _ _) | (refine WD.iaddrE ?_; simp only [setDst, List.nil_append, List.cons_append, V.ev, Nat.reduceEqDiff, Nat.reduceLT, getD_ne, getD_eq, List.length_set, *]; refine ⟨_, rfl, ?_⟩) | (refine WD.op2s ?_; simp only [opV, VOp.kind, hiddenOf, unveil_veil, veil_next, below_nil, below_cons, or_false, or_self, wanted, stepK, step, setDst, evs, List.nil_append, List.cons_append, true_and, List.getD_cons_zero, List.getD_cons_succ, V.ev, Nat.reduceEqDiff, Nat.reduceLT, Nat.reduceLeDiff, Bool.false_eq_true, getD_ne, getD_eq, List.length_set, if_true, if_false, reduceCtorEq, *]; with_reducible show WD _ _ _ _ _ _) | refine WE.seqSkip ?_ | (refine WE.seqCond (t := true) ?hc (fun _ => ?_) (fun hh => Bool.noConfusion hh); case hc => simp only [V.ev, Nat.reduceLT, getD_eq, List.length_set, *]) | refine WE.seqBlock ?_)
    refine WD.callH (h0 := hc) wc (Grow.refl _) (fun v h => PRes h v x) (fun v h h' k e => k.pres e) trivial (fun h1 w1 k1 => by (simp only [evs, V.ev, Nat.reduceEqDiff, Nat.reduceLT, getD_ne, getD_eq, List.length_set, *]); exact hdo.out h1 w1 k1) ?_
    rintro _ h5 g5 n5 ⟨s5, rfl, hp5⟩
    simp only [setDst, List.nil_append, List.cons_append]
    have w5 := g5.wf wc
    repeat' (first | (refine WD.op2s ?_; simp only [opV, VOp.kind, hiddenOf, unveil_veil, veil_next, or_false, wanted, stepK, step, setDst, List.nil_append, List.cons_append, true_and, Nat.le_refl, List.getElem?_cons_zero, List.getElem?_cons_succ, List.getD_cons_zero, List.getD_cons_succ, V.ev, Nat.reduceEqDiff, Nat.reduceLT, Nat.reduceLeDiff, Bool.false_eq_true, getD_ne, getD_eq, List.length_set, if_true, reduceCtorEq, *]; with_reducible show WD _ _ _ _ _ _))
    (refine WD.op2 ?_; simp only [opV, VOp.kind, hiddenOf, wanted, setDst, true_or, List.nil_append, List.cons_append, Nat.reduceEqDiff, Nat.reduceLeDiff, Bool.false_eq_true, if_true, *])
    refine stepK_alloc w5 fun b10 h6 g6 hb10 hg10 hn10 => ?_
    have hp6 := g6.ps hp5
    have hso := ps_one hp6
    have w6 := g6.wf w5
    clear hn10 hp5
    skip
    (refine WD.op2 ?_; simp only [opV, VOp.kind, hiddenOf, wanted, setDst, or_true, List.nil_append, List.cons_append, Nat.reduceEqDiff, Nat.reduceLeDiff, if_true, *])
    refine stepK_store (b := b10) (o := 0) (us := [s5, .int .i64 x.2.1]) (by (simp only [V.ev, Nat.reduceLT, getD_eq, List.length_set, *]; try rfl)) (by (simp only [V.ev, Nat.reduceEqDiff, Nat.reduceLT, getD_ne, getD_eq, List.length_set, *]; try rfl)) (by rfl) hg10 (by rw [g6.floor]; exact Nat.le_trans w5.fl hb10) (by simp) (one2 hso.2 _ _) fun h7 k7 => ?_
    have g7 : Grow h5 h7 := g6.wrote hb10 w5 k7
    have hp7 := ps_wrote2 hp6 hg10 rfl k7
    have e10 : h7.get b10 = some (.cells [s5, .int .i64 x.2.1]) := k7.at_
    have gA := g5.trans g7
    have w7 := gA.wf wc
    have y0 := lex _ gA.kp
    clear k7 hg10 hp6 x0 g6 w6
    repeat' (first | refine WE.seqR ?_ | refine WD.nil2 ?_ | (refine WO.iaddrE ?_; simp only [setDst, V.ev, Nat.reduceEqDiff, Nat.reduceLT, getD_ne, getD_eq, List.length_set, *]; refine ⟨_, rfl, ?_⟩) | (refine WO.op1s ?_; simp only [opK, wanted, stepK, step, setDst, evs, true_and, V.ev, Nat.reduceEqDiff, Nat.reduceLT, getD_ne, getD_eq, List.length_set, if_true, reduceCtorEq, *]; with_reducible show WO _ _ _ _ _) | (refine WD.op2s ?_; simp only [opV, VOp.kind, hiddenOf, unveil_veil, veil_next, or_self, wanted, stepK, step, setDst, List.nil_append, List.cons_append, true_and, V.ev, Nat.reduceEqDiff, Nat.reduceLT, Nat.reduceLeDiff, getD_ne, getD_eq, List.length_set, if_true, reduceCtorEq, *]; with_reducible show WD _ _ _ _ _ _))
    refine WO.call rfl ?_
    (simp only [evs, V.ev, Nat.reduceEqDiff, Nat.reduceLT, getD_ne, getD_eq, List.length_set, *])
    refine (hrf.out h7 w7 (gA.us hus)).mono ?_
    rintro _ h8 ⟨g8, s8, rfl, hu8⟩
    simp only [setDst]
    have gB := gA.trans g8
    have hb7ne : b7 ≠ b10 := by
      have := lt_of_get wc hgs
      have := g5.next
      omega
    have hp8 := g8.ps hp7
    have e10' := g8.keep _ _ e10
    have hgs8 := gB.keep _ _ hgs
    have l10 : h8.load b10 0 2 = some [s5, .int .i64 x.2.1] := load_get e10' (by simp)
    have w8 := gB.wf wc
    have fl8 : h8.floor ≤ b7 := by rw [(gg.trans gB).floor]; have := w.fl; have := B.out; omega
    clear hp7 e10 y0 gA g7 g8 lex
    cases hz : (y.2 == 0) with
    | true =>
      have hz0 : y.2 = 0 := by simpa using hz
      obtain ⟨hpn2, ht2⟩ := HB.out.1 hz0
      replace hz0 := Hid.mk hz0
      replace ht2 := Hid.mk ht2
      repeat' (first | refine WE.assoc ?_ | refine WE.seqR ?_ | refine WO.nil ?_ | (refine WO.op1s ?_; simp only [opK, wanted, stepK, step, setDst, eqVal, eqAt, eqv, Val.isAgg, Val.cells, List.length_cons, List.length_nil, true_and, and_self, Bool.and_true, List.getElem?_cons_zero, List.getElem?_cons_succ, V.ev, Nat.reduceEqDiff, Nat.reduceLT, Nat.reduceAdd, Nat.zero_add, Bool.false_eq_true, beq_self_eq_true, getD_ne, getD_eq, List.length_set, if_true, if_false, Bool.not_true, *]; with_reducible show WO _ _ _ _ _) | refine WE.seqSkip ?_ | (refine WE.seqCond (t := false) ?hc (fun hh => Bool.noConfusion hh) (fun _ => ?_); case hc => simp only [V.ev, Nat.reduceLT, getD_eq, List.length_set, *]) | (refine WE.cond2 (t := true) ?hc (fun _ => ?_) (fun hh => Bool.noConfusion hh); case hc => simp only [V.ev, Nat.reduceLT, getD_eq, List.length_set, *]))
      (refine WO.op1 ?_; simp only [opK, wanted, setDst, *])
      refine stepK_store (b := b7) (o := 0) (us := [s5, .int .i64 x.2.1]) (by (simp only [V.ev, Nat.reduceEqDiff, getD_ne, *]; try rfl)) (by (simp only [V.ev, Nat.reduceLT, getD_eq, List.length_set, *]; try rfl)) (by rfl) hgs8 fl8 (by simp) (one2 hso.2 _ _) fun h9 k9 => ?_
      have g9 := (gg.trans gB).wrote B.out w k9
      have hp9 := ps_wrote2 hp8 hgs8 (ps_int hps) k9
      have hu9 := us_wrote hu8 hgs8 (ps_int hps) k9
      have e9 : h9.get b7 = some (.cells [s5, .int .i64 (y.1.length : Nat)]) := by rw [k9.at_, ← ht2.out]; rfl
      clear k9 hp8 hu8 hgs8 l10 e10'
      repeat' (first | refine WO.nil ?_ | (refine WO.op1s ?_; simp only [opK, wanted, stepK, step, setDst, pureV, arith, intBin, true_and, V.ev, Nat.reduceEqDiff, Nat.reduceLT, getD_ne, getD_eq, List.length_set, if_true, *]; with_reducible show WO _ _ _ _ _) | refine WE.region ?_)
      exact ⟨k - 1, by have := H.out; have := hi'.out; omega, g9, i + 1, s8, x.1, y.1, ⟨by have := H.out; have := hi'.out; omega, by have := H.out; omega⟩, by simp only [List.length_set, hl], by (simp only [getD_ne, reduceCtorEq, *]; try rfl), by (simp only [Nat.reduceEqDiff, getD_ne, *]; try rfl), by (simp only [Nat.reduceEqDiff, getD_ne, *]; try rfl), by (simp only [Nat.reduceEqDiff, getD_ne, *]; try rfl), by (simp only [Nat.reduceEqDiff, Nat.reduceLT, getD_ne, getD_eq, List.length_set, *]; try rfl), by (simp only [Nat.reduceLT, getD_eq, List.length_set, *]; try rfl), s5, e9, hp9, hu9, hpn2⟩
    | false =>
      have hps8 := gB.ps hps
      have hus8 := gB.us hus
      have gZ := gg.trans gB
      repeat' (first | refine WE.assoc ?_ | refine WE.seqR ?_ | refine WO.nil ?_ | (refine WO.op1s ?_; simp only [opK, wanted, stepK, step, setDst, pureV, arith, intBin, eqVal, eqAt, eqv, Val.isAgg, Val.cells, true_and, and_self, Bool.and_true, List.getElem?_cons_zero, List.getElem?_cons_succ, V.ev, Nat.reduceEqDiff, Nat.reduceLT, Bool.false_eq_true, beq_self_eq_true, getD_ne, getD_eq, List.length_set, if_true, if_false, Bool.not_true, Bool.not_false, *]; with_reducible show WO _ _ _ _ _) | refine WE.seqSkip ?_ | (refine WE.seqCond (t := false) ?hc (fun hh => Bool.noConfusion hh) (fun _ => ?_); case hc => simp only [V.ev, Nat.reduceLT, getD_eq, List.length_set, *]) | refine WE.skip ?_ | (refine WE.cond2 (t := false) ?hc (fun hh => Bool.noConfusion hh) (fun _ => ?_); case hc => simp only [V.ev, Nat.reduceLT, getD_eq, List.length_set, *]) | refine WE.region ?_)
      exact ⟨k - 1, by have := H.out; have := hi'.out; omega, gZ, i + 1, u, ps, xs, ⟨by have := H.out; have := hi'.out; omega, by have := H.out; omega⟩, by simp only [List.length_set, hl], by (simp only [getD_ne, reduceCtorEq, *]; try rfl), by (simp only [Nat.reduceEqDiff, getD_ne, *]; try rfl), by (simp only [Nat.reduceEqDiff, getD_ne, *]; try rfl), by (simp only [Nat.reduceEqDiff, getD_ne, *]; try rfl), by (simp only [Nat.reduceEqDiff, getD_ne, *]; try rfl), by (simp only [Nat.reduceLT, getD_eq, List.length_set, *]; try rfl), s, hgs8, hps8, hus8, hpn⟩
  · have hx60 : xs.length ≤ 100000 := by have := H.out; omega
    have hyl : ys.length ≤ 100000 := by omega
    have hrc := gg.us hr
    have hGG : goesL (fun r => (cnt xs r : Int)) ys keep = goesL (cntP ps) ys keep := by
      have : (fun r => (cnt xs r : Int)) = cntP ps := funext fun r => (hpn.ct r).symm
      rw [this]
    by_cases hio : i < os.length
    · have hd : decide ((i : Int) < (os.length : Int)) = true := decide_eq_true (by omega)
      have hd2 : decide ((i : Int) < 60) = false := decide_eq_false (by omega)
      repeat' (first | refine WE.assoc ?_ | refine WE.seqR ?_ | refine WO.nil ?_ | (refine WO.lenOfE ?_; simp only [setDst, V.ev, Nat.reduceLT, getD_eq, List.length_set, *]; refine ⟨_, rfl, ?_⟩) | (refine WO.op1s ?_; simp only [opK, wanted, stepK, step, setDst, pureV, arith, intBin, evs, true_and, V.ev, Nat.reduceEqDiff, Nat.reduceLT, beq_self_eq_true, getD_ne, getD_eq, List.length_set, if_true, reduceCtorEq, *]; with_reducible show WO _ _ _ _ _) | refine WE.seqExit ?_ | (refine WE.seqCond (t := false) ?hc (fun hh => Bool.noConfusion hh) (fun _ => ?_); case hc => simp only [V.ev, Nat.reduceLT, getD_eq, List.length_set, *]))
      refine WO.call rfl ?_
      (simp only [evs, V.ev, Nat.reduceEqDiff, Nat.reduceLT, getD_ne, getD_eq, List.length_set, *])
      refine (goes_ok wc hps hpn.asc hpn.len hrc hyl).mono ?_
      rintro v1 h3 ⟨g3, hu3, ht3⟩
      simp only [setDst]
      repeat' (first | refine WE.assoc ?_ | refine WE.seqR ?_ | refine WO.nil ?_ | (refine WO.op1s ?_; simp only [opK, wanted, stepK, step, setDst, evs, true_and, V.ev, Nat.reduceEqDiff, Nat.reduceLT, getD_ne, getD_eq, List.length_set, *]; with_reducible show WO _ _ _ _ _))
      refine WO.call rfl ?_
      (simp only [evs, V.ev, Nat.reduceEqDiff, Nat.reduceLT, getD_ne, getD_eq, List.length_set, *])
      refine (goesR_ok (keep := keep) (g3.wf wc) (g3.us hus) hx60 (g3.us hrc) hyl).mono ?_
      rintro v2 h4 ⟨g4, hu4⟩
      simp only [setDst]
      rw [hGG] at hu4
      have g34 := g3.trans g4
      have hu34 := g4.us hu3
      have l3 := hu34.lenI
      have w4 := g34.wf wc
      obtain ⟨G, hG⟩ : ∃ G, goesL (cntP ps) ys keep = G := ⟨_, rfl⟩
      have hz : ∀ z ∈ G, (cntP ps z == 0) = true := by
        intro z hz
        rw [← hG] at hz
        exact (List.mem_filter.1 hz).2
      have hGl : G.length ≤ 100000 := by
        rw [← hG]
        unfold goesL
        refine Nat.le_trans (List.length_filter_le _ _) ?_
        rw [List.length_take]; omega
      rw [hG] at hu3 hu4 hu34 ht3 l3
      replace hG := Hid.mk hG
      replace hz := Hid.mk hz
      skip
      refine WO.callG (h0 := h4) w4 (Grow.refl _) (fun v => v = .int .i64 1) rfl (fun h6 w6 k6 => by (simp only [evs, V.ev, Nat.reduceEqDiff, Nat.reduceLT, getD_ne, getD_eq, List.length_set, *]); exact (same_okG (k6.us hu34) (k6.us hu4) hGl).mono fun v h' e => ⟨e.1, by rw [e.2, if_pos rfl]⟩) ?_
      rintro _ h5 g5 rfl
      simp only [setDst]
      have g35 := g34.trans g5
      have hu5 := g5.us hu34
      have hgs5 := g35.keep _ _ hgs
      have hps5 := g35.ps hps
      have hus5 := g35.us hus
      have gg5 := gg.trans g35
      clear hu3 hu4 hu34 g3 g4 g34 g5 w4 l7
      repeat' (first | (refine WO.op1s ?_; simp only [opK, wanted, stepK, step, setDst, eqVal, eqAt, eqv, Val.isAgg, Val.cells, true_and, and_self, Bool.and_true, List.getElem?_cons_zero, V.ev, Nat.reduceEqDiff, Nat.reduceLT, Bool.false_eq_true, Int.reduceBEq, beq_self_eq_true, getD_ne, getD_eq, List.length_set, if_true, if_false, Bool.not_false, *]; with_reducible show WO _ _ _ _ _) | (refine WO.known ?hc ?_; case hc => (simp only [wanted, Bool.false_beq, Nat.reduceEqDiff, Nat.reduceLT, getD_ne, getD_eq, List.length_set, Bool.not_false, *])))
      (refine WO.op1 ?_; simp only [opK, wanted, setDst, *])
      refine stepK_cap (by (simp only [V.ev, Nat.reduceLT, getD_eq, List.length_set, *]; try rfl)) ht3 ?_
      have dG : ((G.length : Int) == (G.length : Int)) = true := by simp
      repeat' (first | refine WE.assoc ?_ | refine WE.seqR ?_ | refine WO.nil ?_ | (refine WO.lenOfE ?_; simp only [setDst, V.ev, Nat.reduceLT, getD_eq, List.length_set, *]; refine ⟨_, rfl, ?_⟩) | (refine WO.op1s ?_; simp only [opK, wanted, stepK, step, setDst, eqVal, eqAt, eqv, Val.isAgg, Val.cells, true_and, and_self, Bool.and_true, List.getElem?_cons_zero, V.ev, Nat.reduceEqDiff, Nat.reduceLT, beq_self_eq_true, getD_ne, getD_eq, List.length_set, if_true, Bool.not_true, *]; with_reducible show WO _ _ _ _ _) | refine WE.seqSkip ?_ | (refine WE.seqCond (t := false) ?hc (fun hh => Bool.noConfusion hh) (fun _ => ?_); case hc => simp only [V.ev, Nat.reduceLT, getD_eq, List.length_set, *]) | (refine WO.known ?hc ?_; case hc => (simp only [wanted, Bool.false_beq, Nat.reduceEqDiff, Nat.reduceLT, getD_ne, getD_eq, List.length_set, Bool.not_false, *])) | refine WE.seqBlock ?_)
      refine WE.loop (GkL h b7 v1 G u ps xs) ?_ G.length _ _ ⟨gg5, 0, ⟨by omega⟩, hu5, by simp only [List.length_set, hl], by (simp only [Nat.reduceEqDiff, getD_ne, *]; try rfl), by (simp only [Nat.reduceEqDiff, getD_ne, *]; try rfl), by (simp only [Nat.reduceEqDiff, Nat.reduceLT, getD_ne, getD_eq, List.length_set, *]; try rfl), by (simp only [Nat.reduceLT, Int.cast_ofNat_Int, getD_eq, List.length_set, *]; try rfl), s, hgs5, hps5, hus5, hpn⟩
      clear gg hgs hps hus hgs5 hps5 hus5 hu5 hl f0 f1 f2 f7 f8 f9 hd gg5 g35 ht3 hrc
      rintro k2 fr h6 ⟨gg6, j, hk2, hu6, hl, f7, f8, f14, f15, s6, hgs6, hps6, hus6, _⟩
      have w6 := gg6.wf w
      have l7 : h6.load b7 0 2 = some [s6, .int .i64 (xs.length : Nat)] := load_get hgs6 (by simp)
      by_cases hj : j < G.length
      · have hd : decide ((j : Int) < (G.length : Int)) = true := decide_eq_true (by omega)
        obtain ⟨bx, ox, hex, lex⟩ := us_load hu6 hj (Keep.refl _)
        have x0 := lex _ (Keep.refl _)
        have wn : IntKind.i64.wrap ((j : Int) + 1) = ((j + 1 : Nat) : Int) := wrap_add (b := 1) (by omega)
        have hzy := hz.out _ (List.getElem_mem hj)
        have hj' := Hid.mk hj
        generalize G[j] = y at *
        clear lex hj
        repeat' (first | refine WE.assoc ?_ | refine WE.seqR ?_ | refine WO.nil ?_ | refine WE.seqD ?_ | (refine WO.lenOfE ?_; simp only [setDst, V.ev, Nat.reduceLT, getD_eq, List.length_set, *]; refine ⟨_, rfl, ?_⟩) | (refine WO.op1s ?_; simp only [opK, wanted, stepK, step, setDst, pureV, arith, intBin, true_and, V.ev, Nat.reduceEqDiff, Nat.reduceLT, getD_ne, getD_eq, List.length_set, if_true, *]; with_reducible show WO _ _ _ _ _) | (refine WD.iaddrE ?_; simp only [setDst, List.nil_append, List.cons_append, V.ev, Nat.reduceEqDiff, Nat.reduceLT, getD_ne, getD_eq, List.length_set, *]; refine ⟨_, rfl, ?_⟩) | (refine WD.op2s ?_; simp only [opV, VOp.kind, hiddenOf, unveil_veil, veil_next, below_nil, below_cons, or_true, or_false, or_self, wanted, stepK, step, setDst, evs, List.nil_append, List.cons_append, true_and, List.getD_cons_zero, V.ev, Nat.reduceEqDiff, Nat.reduceLT, Nat.reduceLeDiff, Bool.false_eq_true, getD_ne, getD_eq, List.length_set, if_true, if_false, reduceCtorEq, *]; with_reducible show WD _ _ _ _ _ _) | refine WE.seqSkip ?_ | (refine WE.seqCond (t := true) ?hc (fun _ => ?_) (fun hh => Bool.noConfusion hh); case hc => simp only [V.ev, Nat.reduceLT, getD_eq, List.length_set, *]) | refine WE.seqBlock ?_)
        refine WD.callG (h0 := h6) w6 (Grow.refl _) _ trivial (fun h7 w7 k7 => by (simp only [evs, V.ev, Nat.reduceEqDiff, Nat.reduceLT, getD_ne, getD_eq, List.length_set, *]); exact pcount_ok w7 (k7.ps hps6) hpn.asc (by have := hpn.len; omega)) ?_
        rintro _ h7 g7 n7 rfl
        simp only [setDst, List.nil_append, List.cons_append]
        have hgs7 := g7.keep _ _ hgs6
        have hps7 := g7.ps hps6
        have hus7 := g7.us hus6
        have hu7 := g7.us hu6
        have gg7 := gg6.trans g7
        clear x0 l7 hu6 hps6 hus6 hgs6
        repeat' (first | refine WO.nil ?_ | refine WD.nil2 ?_ | (refine WO.op1s ?_; simp only [opK, wanted, stepK, step, setDst, pureV, arith, intBin, true_and, V.ev, Nat.reduceEqDiff, Nat.reduceLT, getD_ne, getD_eq, List.length_set, if_true, *]; with_reducible show WO _ _ _ _ _) | (refine WD.op2s ?_; simp only [opV, VOp.kind, hiddenOf, unveil_veil, veil_next, or_self, wanted, stepK, step, setDst, eqVal, eqAt, eqv, Val.isAgg, Val.cells, List.nil_append, List.cons_append, true_and, and_self, Bool.and_true, List.getElem?_cons_zero, V.ev, Nat.reduceLT, Nat.reduceLeDiff, getD_eq, List.length_set, if_true, reduceCtorEq, Bool.not_true, *]; with_reducible show WD _ _ _ _ _ _) | refine WE.skip ?_ | (refine WE.cond2 (t := false) ?hc (fun hh => Bool.noConfusion hh) (fun _ => ?_); case hc => simp only [V.ev, Nat.reduceLT, getD_eq, List.length_set, *]) | refine WE.region ?_)
        exact ⟨k2 - 1, by have := hk2.out; have := hj'.out; omega, gg7, j + 1, ⟨by have := hk2.out; have := hj'.out; omega⟩, hu7, by simp only [List.length_set, hl], by (simp only [Nat.reduceEqDiff, getD_ne, *]; try rfl), by (simp only [Nat.reduceEqDiff, getD_ne, *]; try rfl), by (simp only [Nat.reduceEqDiff, getD_ne, *]; try rfl), by (simp only [Nat.reduceLT, getD_eq, List.length_set, *]; try rfl), s6, hgs7, hps7, hus7, hpn⟩
      · have hd : decide ((j : Int) < (G.length : Int)) = false := decide_eq_false (by omega)
        repeat' (first | refine WE.assoc ?_ | refine WE.seqR ?_ | refine WO.nil ?_ | (refine WO.lenOfE ?_; simp only [setDst, V.ev, Nat.reduceLT, getD_eq, List.length_set, *]; refine ⟨_, rfl, ?_⟩) | (refine WO.op1s ?_; simp only [opK, wanted, stepK, step, setDst, pureV, arith, intBin, evs, true_and, V.ev, Nat.reduceEqDiff, Nat.reduceLT, getD_ne, getD_eq, List.length_set, if_true, *]; with_reducible show WO _ _ _ _ _) | refine WE.seqExit ?_ | (refine WE.seqCond (t := false) ?hc (fun hh => Bool.noConfusion hh) (fun _ => ?_); case hc => simp only [V.ev, Nat.reduceLT, getD_eq, List.length_set, *]))
        refine WO.callG (h0 := h6) w6 (Grow.refl _) (fun v => v = .int .i64 1) rfl (fun h7 w7 k7 => by (simp only [evs, V.ev, Nat.reduceEqDiff, Nat.reduceLT, getD_ne, getD_eq, List.length_set, *]); exact whole_ok w7 (k7.ps hps6) (k7.us hus6) hpn hx60) ?_
        rintro _ h7 g7 rfl
        simp only [setDst]
        have gg7 := gg6.trans g7
        have w7 := gg7.wf w
        repeat' (first | (refine WO.op1s ?_; simp only [opK, wanted, stepK, step, setDst, evs, eqVal, eqAt, eqv, Val.isAgg, Val.cells, true_and, and_self, Bool.and_true, List.getElem?_cons_zero, V.ev, Nat.reduceLT, Bool.false_eq_true, beq_self_eq_true, getD_eq, List.length_set, if_true, if_false, Bool.not_true, *]; with_reducible show WO _ _ _ _ _) | (refine WO.known ?hc ?_; case hc => (simp only [wanted, Bool.true_beq, Nat.reduceLT, getD_eq, List.length_set, *])))
        refine WO.callG (h0 := h7) w7 (Grow.refl _) (fun v => v = .bool true) rfl (fun h8 w8 k8 => by (simp only [evs, *]); exact lives_okG) ?_
        rintro _ h8 g8 rfl
        simp only [setDst]
        repeat' (first | refine WO.nil ?_ | (refine WO.op1s ?_; simp only [opK, wanted, stepK, step, setDst, true_and, V.ev, Nat.reduceEqDiff, Nat.reduceLT, getD_ne, getD_eq, List.length_set, *]; with_reducible show WO _ _ _ _ _) | refine WE.ret ?_)
        ((try dsimp only); refine Exists.intro _ ⟨(by (simp only [readResults, Nat.reduceLT, getD_eq, List.length_set, *]; try rfl)), ?_⟩)
        exact ⟨gg7.trans g8, rfl⟩
    · have hd : decide ((i : Int) < (os.length : Int)) = false := decide_eq_false (by omega)
      repeat' (first | refine WE.assoc ?_ | refine WE.seqR ?_ | refine WO.nil ?_ | (refine WO.lenOfE ?_; simp only [setDst, V.ev, Nat.reduceLT, getD_eq, List.length_set, *]; refine ⟨_, rfl, ?_⟩) | (refine WO.op1s ?_; simp only [opK, wanted, stepK, step, setDst, pureV, arith, intBin, evs, true_and, V.ev, Nat.reduceEqDiff, Nat.reduceLT, getD_ne, getD_eq, List.length_set, if_true, reduceCtorEq, Bool.false_beq, Bool.not_true, *]; with_reducible show WO _ _ _ _ _) | refine WE.seqExit ?_ | (refine WE.seqCond (t := false) ?hc (fun hh => Bool.noConfusion hh) (fun _ => ?_); case hc => simp only [V.ev, Nat.reduceLT, getD_eq, List.length_set, *]))
      refine WO.call rfl ?_
      (simp only [evs, V.ev, Nat.reduceEqDiff, Nat.reduceLT, getD_ne, getD_eq, List.length_set, *])
      refine (goes_ok wc hps hpn.asc hpn.len hrc hyl).mono ?_
      rintro v1 h3 ⟨g3, hu3, ht3⟩
      simp only [setDst]
      repeat' (first | refine WE.assoc ?_ | refine WE.seqR ?_ | refine WO.nil ?_ | (refine WO.op1s ?_; simp only [opK, wanted, stepK, step, setDst, evs, true_and, V.ev, Nat.reduceEqDiff, Nat.reduceLT, getD_ne, getD_eq, List.length_set, *]; with_reducible show WO _ _ _ _ _))
      refine WO.call rfl ?_
      (simp only [evs, V.ev, Nat.reduceEqDiff, Nat.reduceLT, getD_ne, getD_eq, List.length_set, *])
      refine (goesR_ok (keep := keep) (g3.wf wc) (g3.us hus) hx60 (g3.us hrc) hyl).mono ?_
      rintro v2 h4 ⟨g4, hu4⟩
      simp only [setDst]
      rw [hGG] at hu4
      have g34 := g3.trans g4
      have hu34 := g4.us hu3
      have l3 := hu34.lenI
      have w4 := g34.wf wc
      obtain ⟨G, hG⟩ : ∃ G, goesL (cntP ps) ys keep = G := ⟨_, rfl⟩
      have hz : ∀ z ∈ G, (cntP ps z == 0) = true := by
        intro z hz
        rw [← hG] at hz
        exact (List.mem_filter.1 hz).2
      have hGl : G.length ≤ 100000 := by
        rw [← hG]
        unfold goesL
        refine Nat.le_trans (List.length_filter_le _ _) ?_
        rw [List.length_take]; omega
      rw [hG] at hu3 hu4 hu34 ht3 l3
      replace hG := Hid.mk hG
      replace hz := Hid.mk hz
      skip
      refine WO.callG (h0 := h4) w4 (Grow.refl _) (fun v => v = .int .i64 1) rfl (fun h6 w6 k6 => by (simp only [evs, V.ev, Nat.reduceEqDiff, Nat.reduceLT, getD_ne, getD_eq, List.length_set, *]); exact (same_okG (k6.us hu34) (k6.us hu4) hGl).mono fun v h' e => ⟨e.1, by rw [e.2, if_pos rfl]⟩) ?_
      rintro _ h5 g5 rfl
      simp only [setDst]
      have g35 := g34.trans g5
      have hu5 := g5.us hu34
      have hgs5 := g35.keep _ _ hgs
      have hps5 := g35.ps hps
      have hus5 := g35.us hus
      have gg5 := gg.trans g35
      clear hu3 hu4 hu34 g3 g4 g34 g5 w4 l7
      repeat' (first | (refine WO.op1s ?_; simp only [opK, wanted, stepK, step, setDst, eqVal, eqAt, eqv, Val.isAgg, Val.cells, true_and, and_self, Bool.and_true, List.getElem?_cons_zero, V.ev, Nat.reduceEqDiff, Nat.reduceLT, Bool.false_eq_true, Int.reduceBEq, beq_self_eq_true, getD_ne, getD_eq, List.length_set, if_true, if_false, Bool.not_false, *]; with_reducible show WO _ _ _ _ _) | (refine WO.known ?hc ?_; case hc => (simp only [wanted, Bool.false_beq, Nat.reduceEqDiff, Nat.reduceLT, getD_ne, getD_eq, List.length_set, Bool.not_false, *])))
      (refine WO.op1 ?_; simp only [opK, wanted, setDst, *])
      refine stepK_cap (by (simp only [V.ev, Nat.reduceLT, getD_eq, List.length_set, *]; try rfl)) ht3 ?_
      have dG : ((G.length : Int) == (G.length : Int)) = true := by simp
      repeat' (first | refine WE.assoc ?_ | refine WE.seqR ?_ | refine WO.nil ?_ | (refine WO.lenOfE ?_; simp only [setDst, V.ev, Nat.reduceLT, getD_eq, List.length_set, *]; refine ⟨_, rfl, ?_⟩) | (refine WO.op1s ?_; simp only [opK, wanted, stepK, step, setDst, eqVal, eqAt, eqv, Val.isAgg, Val.cells, true_and, and_self, Bool.and_true, List.getElem?_cons_zero, V.ev, Nat.reduceEqDiff, Nat.reduceLT, beq_self_eq_true, getD_ne, getD_eq, List.length_set, if_true, Bool.not_true, *]; with_reducible show WO _ _ _ _ _) | refine WE.seqSkip ?_ | (refine WE.seqCond (t := false) ?hc (fun hh => Bool.noConfusion hh) (fun _ => ?_); case hc => simp only [V.ev, Nat.reduceLT, getD_eq, List.length_set, *]) | (refine WO.known ?hc ?_; case hc => (simp only [wanted, Bool.false_beq, Nat.reduceEqDiff, Nat.reduceLT, getD_ne, getD_eq, List.length_set, Bool.not_false, *])) | refine WE.seqBlock ?_)
      refine WE.loop (GkL h b7 v1 G u ps xs) ?_ G.length _ _ ⟨gg5, 0, ⟨by omega⟩, hu5, by simp only [List.length_set, hl], by (simp only [Nat.reduceEqDiff, getD_ne, *]; try rfl), by (simp only [Nat.reduceEqDiff, getD_ne, *]; try rfl), by (simp only [Nat.reduceEqDiff, Nat.reduceLT, getD_ne, getD_eq, List.length_set, *]; try rfl), by (simp only [Nat.reduceLT, Int.cast_ofNat_Int, getD_eq, List.length_set, *]; try rfl), s, hgs5, hps5, hus5, hpn⟩
      clear gg hgs hps hus hgs5 hps5 hus5 hu5 hl f0 f1 f2 f7 f8 f9 hd gg5 g35 ht3 hrc
      rintro k2 fr h6 ⟨gg6, j, hk2, hu6, hl, f7, f8, f14, f15, s6, hgs6, hps6, hus6, _⟩
      have w6 := gg6.wf w
      have l7 : h6.load b7 0 2 = some [s6, .int .i64 (xs.length : Nat)] := load_get hgs6 (by simp)
      by_cases hj : j < G.length
      · have hd : decide ((j : Int) < (G.length : Int)) = true := decide_eq_true (by omega)
        obtain ⟨bx, ox, hex, lex⟩ := us_load hu6 hj (Keep.refl _)
        have x0 := lex _ (Keep.refl _)
        have wn : IntKind.i64.wrap ((j : Int) + 1) = ((j + 1 : Nat) : Int) := wrap_add (b := 1) (by omega)
        have hzy := hz.out _ (List.getElem_mem hj)
        have hj' := Hid.mk hj
        generalize G[j] = y at *
        clear lex hj
        repeat' (first | refine WE.assoc ?_ | refine WE.seqR ?_ | refine WO.nil ?_ | refine WE.seqD ?_ | (refine WO.lenOfE ?_; simp only [setDst, V.ev, Nat.reduceLT, getD_eq, List.length_set, *]; refine ⟨_, rfl, ?_⟩) | (refine WO.op1s ?_; simp only [opK, wanted, stepK, step, setDst, pureV, arith, intBin, true_and, V.ev, Nat.reduceEqDiff, Nat.reduceLT, getD_ne, getD_eq, List.length_set, if_true, *]; with_reducible show WO _ _ _ _ _) | (refine WD.iaddrE ?_; simp only [setDst, List.nil_append, List.cons_append, V.ev, Nat.reduceEqDiff, Nat.reduceLT, getD_ne, getD_eq, List.length_set, *]; refine ⟨_, rfl, ?_⟩) | (refine WD.op2s ?_; simp only [opV, VOp.kind, hiddenOf, unveil_veil, veil_next, below_nil, below_cons, or_true, or_false, or_self, wanted, stepK, step, setDst, evs, List.nil_append, List.cons_append, true_and, List.getD_cons_zero, V.ev, Nat.reduceEqDiff, Nat.reduceLT, Nat.reduceLeDiff, Bool.false_eq_true, getD_ne, getD_eq, List.length_set, if_true, if_false, reduceCtorEq, *]; with_reducible show WD _ _ _ _ _ _) | refine WE.seqSkip ?_ | (refine WE.seqCond (t := true) ?hc (fun _ => ?_) (fun hh => Bool.noConfusion hh); case hc => simp only [V.ev, Nat.reduceLT, getD_eq, List.length_set, *]) | refine WE.seqBlock ?_)
        refine WD.callG (h0 := h6) w6 (Grow.refl _) _ trivial (fun h7 w7 k7 => by (simp only [evs, V.ev, Nat.reduceEqDiff, Nat.reduceLT, getD_ne, getD_eq, List.length_set, *]); exact pcount_ok w7 (k7.ps hps6) hpn.asc (by have := hpn.len; omega)) ?_
        rintro _ h7 g7 n7 rfl
        simp only [setDst, List.nil_append, List.cons_append]
        have hgs7 := g7.keep _ _ hgs6
        have hps7 := g7.ps hps6
        have hus7 := g7.us hus6
        have hu7 := g7.us hu6
        have gg7 := gg6.trans g7
        clear x0 l7 hu6 hps6 hus6 hgs6
        repeat' (first | refine WO.nil ?_ | refine WD.nil2 ?_ | (refine WO.op1s ?_; simp only [opK, wanted, stepK, step, setDst, pureV, arith, intBin, true_and, V.ev, Nat.reduceEqDiff, Nat.reduceLT, getD_ne, getD_eq, List.length_set, if_true, *]; with_reducible show WO _ _ _ _ _) | (refine WD.op2s ?_; simp only [opV, VOp.kind, hiddenOf, unveil_veil, veil_next, or_self, wanted, stepK, step, setDst, eqVal, eqAt, eqv, Val.isAgg, Val.cells, List.nil_append, List.cons_append, true_and, and_self, Bool.and_true, List.getElem?_cons_zero, V.ev, Nat.reduceLT, Nat.reduceLeDiff, getD_eq, List.length_set, if_true, reduceCtorEq, Bool.not_true, *]; with_reducible show WD _ _ _ _ _ _) | refine WE.skip ?_ | (refine WE.cond2 (t := false) ?hc (fun hh => Bool.noConfusion hh) (fun _ => ?_); case hc => simp only [V.ev, Nat.reduceLT, getD_eq, List.length_set, *]) | refine WE.region ?_)
        exact ⟨k2 - 1, by have := hk2.out; have := hj'.out; omega, gg7, j + 1, ⟨by have := hk2.out; have := hj'.out; omega⟩, hu7, by simp only [List.length_set, hl], by (simp only [Nat.reduceEqDiff, getD_ne, *]; try rfl), by (simp only [Nat.reduceEqDiff, getD_ne, *]; try rfl), by (simp only [Nat.reduceEqDiff, getD_ne, *]; try rfl), by (simp only [Nat.reduceLT, getD_eq, List.length_set, *]; try rfl), s6, hgs7, hps7, hus7, hpn⟩
      · have hd : decide ((j : Int) < (G.length : Int)) = false := decide_eq_false (by omega)
        repeat' (first | refine WE.assoc ?_ | refine WE.seqR ?_ | refine WO.nil ?_ | (refine WO.lenOfE ?_; simp only [setDst, V.ev, Nat.reduceLT, getD_eq, List.length_set, *]; refine ⟨_, rfl, ?_⟩) | (refine WO.op1s ?_; simp only [opK, wanted, stepK, step, setDst, pureV, arith, intBin, evs, true_and, V.ev, Nat.reduceEqDiff, Nat.reduceLT, getD_ne, getD_eq, List.length_set, if_true, *]; with_reducible show WO _ _ _ _ _) | refine WE.seqExit ?_ | (refine WE.seqCond (t := false) ?hc (fun hh => Bool.noConfusion hh) (fun _ => ?_); case hc => simp only [V.ev, Nat.reduceLT, getD_eq, List.length_set, *]))
        refine WO.callG (h0 := h6) w6 (Grow.refl _) (fun v => v = .int .i64 1) rfl (fun h7 w7 k7 => by (simp only [evs, V.ev, Nat.reduceEqDiff, Nat.reduceLT, getD_ne, getD_eq, List.length_set, *]); exact whole_ok w7 (k7.ps hps6) (k7.us hus6) hpn hx60) ?_
        rintro _ h7 g7 rfl
        simp only [setDst]
        have gg7 := gg6.trans g7
        have w7 := gg7.wf w
        repeat' (first | (refine WO.op1s ?_; simp only [opK, wanted, stepK, step, setDst, evs, eqVal, eqAt, eqv, Val.isAgg, Val.cells, true_and, and_self, Bool.and_true, List.getElem?_cons_zero, V.ev, Nat.reduceLT, Bool.false_eq_true, beq_self_eq_true, getD_eq, List.length_set, if_true, if_false, Bool.not_true, *]; with_reducible show WO _ _ _ _ _) | (refine WO.known ?hc ?_; case hc => (simp only [wanted, Bool.true_beq, Nat.reduceLT, getD_eq, List.length_set, *])))
        refine WO.callG (h0 := h7) w7 (Grow.refl _) (fun v => v = .bool true) rfl (fun h8 w8 k8 => by (simp only [evs, *]); exact lives_okG) ?_
        rintro _ h8 g8 rfl
        simp only [setDst]
        repeat' (first | refine WO.nil ?_ | (refine WO.op1s ?_; simp only [opK, wanted, stepK, step, setDst, true_and, V.ev, Nat.reduceEqDiff, Nat.reduceLT, getD_ne, getD_eq, List.length_set, *]; with_reducible show WO _ _ _ _ _) | refine WE.ret ?_)
        ((try dsimp only); refine Exists.intro _ ⟨(by (simp only [readResults, Nat.reduceLT, getD_eq, List.length_set, *]; try rfl)), ?_⟩)
        exact ⟨gg7.trans g8, rfl⟩

end Go.V
end

section
set_option linter.unusedVariables false
set_option linter.unusedSimpArgs false
set_option linter.unusedSectionVars false
set_option maxRecDepth 100000
namespace Go.Proofs.Ytalokejcacejpaa.goes
open Go.ChangeShapes Go.WideShapes Go.ChangeAt Go.RowKit Go.V

theorem own : ownKnob Try.prog.godebug = none := by kernel_rfl
theorem flatO : flatT Try.prog 4 31 = some [.u8, .u8] := by kernel_rfl
theorem flatU : flatT Try.prog 4 39 = some [.u64] := by kernel_rfl
theorem sizeO : Try.prog.cellsOf 31 = 2 := by kernel_rfl
theorem sizeU : Try.prog.cellsOf 39 = 1 := by kernel_rfl

theorem contract (H : Type) (enc : TypeId × Value → H) (W : World) (base : Nat) (args : Array Value) (ds gs : List (DataW H)) (before : List MemPlace)
    (hval : ∀ (j : Nat) t v, Try.f3.params[j]? = some t → args[j]? = some v → Value.okWide Try.prog W .any base t v)
    (hW : DataW.Whole enc Try.prog Try.f3.params.toList Rows.pinsGoesSpec.vars false W args.toList ds gs before) :
    Calls Try.prog 3 args W fun e W' => ∃ v, e = .returned v ∧ Rows.pinsGoesSpec.post enc Try.prog Try.f3 false true false false W args v W' := by
  have hW' := hW
  obtain ⟨p, q, hA0, hV, rfl, hfz, hnd⟩ := hW
  have hA : DataW.TrodAll enc Try.prog W 0 (fun _ => true) true Try.f3.params.toList args.toList ds p := hA0
  rw [Try.params3] at hA hval
  obtain ⟨v0, vs0, d0, ds0, p0, q0, hargs, rfl, rfl, ⟨n0, h0⟩, r0⟩ := trodAll_cons hA
  obtain ⟨v1, vs1, d1, ds1, p1, q1, rfl, rfl, rfl, ⟨n1, h1⟩, r1⟩ := trodAll_cons r0
  obtain ⟨v2, vs2, d2, ds2, p2, q2, rfl, rfl, rfl, ⟨n2, h2⟩, r2⟩ := trodAll_cons r1
  obtain ⟨rfl, rfl, rfl⟩ := trodAll_nil r2
  obtain rfl : args = #[v0, v1, v2] := by cases args; simp_all
  obtain ⟨rfl, rfl⟩ := trodVars_none hV
  have hv0 : v0.cells.toList = [v0] := by
    obtain ⟨a, l, c, q⟩ := okWide_slice Try.underlying22 (hval 0 22 v0 rfl rfl)
    rw [q]; rfl
  have hv1 : v1.cells.toList = [v1] := by
    obtain ⟨a, l, c, q⟩ := okWide_slice Try.underlying23 (hval 1 23 v1 rfl rfl)
    rw [q]; rfl
  obtain ⟨ke, rfl⟩ := okWide_int Try.underlying3 (hval 2 3 v2 rfl rfl)
  rw [hv0] at h0
  rw [hv1] at h1
  have hsa := slice_arg Try.underlying22 flatO (by rw [sizeO]; rfl) (by rw [sizeO]; omega) h0 fun bb off hx => hfz bb off (by simp only [List.append_nil, List.mem_append]; exact .inl hx)
  have hsb := slice_arg Try.underlying23 flatU (by rw [sizeU]; rfl) (by rw [sizeU]; omega) h1 fun bb off hx => hfz bb off (by simp only [List.append_nil, List.mem_append]; exact .inr (.inl hx))
  rw [sizeO] at hsa
  rw [sizeU] at hsb
  obtain ⟨ρ1, h1', s, os, A1, _, _, hv, hos⟩ := (ArgS.nil W).slice (cellsD := fun t : OOk => [Val.int .u8 t.1.1, Val.int .u8 t.1.2]) (fun _ => rfl) os_of hsa
  obtain ⟨ρ, hp0, a, xs, A2, hle, hk, hva, hxs⟩ := A1.slice (cellsD := fun x : Int => [Val.int .u64 x]) (fun _ => rfl) us_of hsb
  have hO : (os.map Subtype.val).flatMap ocell = os.flatMap fun t => [Val.int .u8 t.1.1, Val.int .u8 t.1.2] := by rw [List.flatMap_map]
  have hos2 : Oc hp0 s (os.map Subtype.val) := ⟨by rw [hO, List.length_map]; exact Keep.sl hk hos, fun t h => by obtain ⟨x, _, rfl⟩ := List.mem_map.1 h; exact x.2⟩
  have hxs2 : Us hp0 a xs := by rw [us_flat] at hxs; exact hxs
  obtain ⟨n, v, h', er, _, rfl⟩ := lawGoes_ok (keep := ke) A2.wf hos2 hxs2
  have hvr : VRels ρ [s, a, .int .i64 ke] #[v0, v1, Value.int .i64 ke].toList := .cons (VRel.mono hle _ _ hv) (.cons hva (.cons (by simp only [VRel]) .nil))
  refine (law_args env09 ext09 A2.hr A2.low hvr er).mono ?_
  rintro en W' ⟨he, hs, ho, hp⟩
  exact ⟨_, he, post_law (by kernel_rfl) hW' rfl (by rfl) Try.underlying4 rfl hs ho hp⟩

theorem lifted (os : Os) (started : os.Started) (H : Type) (enc : TypeId × Value → H) :
    ReturnsInHanded {} Try.checked os 3 .any (Rows.pinsGoesSpec.pre6 enc Try.prog Try.f3 Rows.pinsGoesRow.domain false) (Rows.pinsGoesSpec.post enc Try.prog Try.f3 false true false false) := by
  refine returnsInHanded_of_change (C := Try.checked) own started ?_ Try.func3 ?_ ?_
  · kernel_rfl
  · refine ChangeSpec.witness6 (enc := enc) (C := Try.checked) false ⟨#[], #[.slice none 0 0, .slice none 0 0, .int .i64 0], []⟩ 8 ?_ ?_ ?_ ?_
    · kernel_rfl
    · kernel_rfl
    · kernel_rfl
    · kernel_rfl
  intro W base args ds gs before hval hW _ _
  exact contract H enc W base args ds gs before hval hW

theorem goes_holds : Rows.PinsGoesSaid :=
  OpenClaim.holds_of_wide 3 Try.f3 rfl rfl rfl rfl rfl rfl rfl ⟨rfl, rfl, rfl, rfl, rfl⟩ rfl rfl rfl rfl rfl (by kernel_rfl) Try.func3 (by kernel_rfl)
    (of_decide_eq_true (by kernel_rfl)) (by unfold Func.isWrapper; first | (rw [if_pos (by decide +kernel)]; kernel_rfl) | (rw [if_neg (by decide +kernel)]; exact ⟨rfl, rfl⟩))
    (fun os started H enc _ => lifted os started H enc)
end Go.Proofs.Ytalokejcacejpaa.goes
end
