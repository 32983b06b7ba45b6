/-
  For every queue, numbers and list QueuesOrder returns true, and the arguments read as before. No condition.
-/
import Derived.Test.YtkmaaddlimgdoaaProg
import Derived.KernelRfl
import Derived.Test.YtkmaaddlimgdoaaZ3

section
set_option linter.unusedVariables false
set_option linter.unusedSimpArgs false
set_option linter.unusedSectionVars false
-- BUILDS
-- NEW
set_option maxHeartbeats 4000000
namespace Go.V
attribute [local irreducible] stepK opK opV

/-- The first number of a list that is in another one. -/
def pickL (a l : List Int) : Option Int := l.find? fun n => decide (n ∈ a)

def RpkI (h0 : Heap) (u a : Val) (al l : List Int) (bad : Int) (k : Nat) (fr : List Val) (h' : Heap) : Prop :=
  ∃ (A B : List Int), Hid (l = A ++ B ∧ B.length = k ∧ pickL al l = pickL al B) ∧ Grow h0 h' ∧ fr.length = 39 ∧ fr.getD 3 .undef = a ∧ fr.getD 10 .undef = u ∧ fr.getD 11 .undef = .int .i64 bad ∧ fr.getD 12 .undef = .int .i64 (A.length : Nat)

theorem ordRes_len {es : List Ent} {ro ag : Int} (hn : es.length ≤ 100000) : (ordRes es ro ag).1.length ≤ 800000 := by
  unfold ordRes
  split
  · simp
  · split
    · simp
    · have := ordL_len (keyI ro ag) es 8
      simp only; omega

theorem Own.ei {h0 h : Heap} {v : Val} {es : List Int} (o : Own h0 h v 1 (es.flatMap icell)) : Ei h v es := by
  obtain ⟨n, hn, hs⟩ := o.sl (by omega)
  rw [celli_len] at hn
  obtain rfl : n = es.length := by omega
  exact hs

theorem refpick_ok {h : Heap} (w : Wf h) {s a : Val} {es : List Ent} {al : List Int} {ro ag : Int} (hs : Es h s es) (ha : Ei h a al) (hn : es.length ≤ 100000) (hal : al.length ≤ 100000) : WC E35 12 [s, .int .i64 ro, .int .i64 ag, a] h fun v h' => Grow h h' ∧ v = .tup [.int .i64 ((pickL al (ordRes es ro ag).1).getD (-1)), .int .i64 (ordRes es ro ag).2] := by
  refine WC.fn1 (n := 39) rfl rfl (by rfl) ?_
  intro fr hl hx
  have h0 : fr.getD 0 .undef = s := hx 0
  have h1 : fr.getD 1 .undef = .int .i64 ro := hx 1
  have h2 : fr.getD 2 .undef = .int .i64 ag := hx 2
  have h3 : fr.getD 3 .undef = a := hx 3
  clear hx
  unfold v12
  repeat' (first | refine WE.seqR ?_ | refine WO.nil ?_ | (refine WO.op1s ?_; simp only [opK, wanted, stepK, step, setDst, evs, true_and, V.ev, Nat.reduceEqDiff, Nat.reduceLT, Int.reduceNeg, getD_ne, getD_eq, List.length_set, reduceCtorEq, *]; with_reducible show WO _ _ _ _ _))
  refine WO.call rfl ?_
  (simp only [evs, V.ev, Nat.reduceEqDiff, Nat.reduceLT, Int.reduceNeg, getD_ne, getD_eq, List.length_set, *])
  refine (reforder_ok w hs hn).mono ?_
  rintro v1 g1 ⟨gg, u, rfl, ho⟩
  have hol := hid_intro (ordRes_len (ro := ro) (ag := ag) hn)
  generalize ordRes es ro ag = R at *
  obtain ⟨l, bad⟩ := R
  simp only at ho hol ⊢
  have hei := ho.ei
  have hlen := Sl.lenI hei
  simp only [setDst]
  repeat' (first | refine WE.assoc ?_ | refine WE.seqR ?_ | refine WO.nil ?_ | (refine WO.op1s ?_; simp only [opK, wanted, stepK, step, setDst, true_and, List.getElem?_cons_zero, List.getElem?_cons_succ, V.ev, Nat.reduceEqDiff, Nat.reduceLT, Int.reduceNeg, getD_ne, getD_eq, List.length_set, *]; with_reducible show WO _ _ _ _ _) | refine WE.seqBlock ?_)
  refine WE.loop (RpkI g1 u a al l bad) ?_ l.length _ _ ⟨[], l, ⟨rfl, rfl, rfl⟩, .refl _, by simp only [List.length_set, hl], by (simp only [Nat.reduceEqDiff, getD_ne, *]; try rfl), by (simp only [Nat.reduceEqDiff, Nat.reduceLT, getD_ne, getD_eq, List.length_set, *]; try rfl), by (simp only [Nat.reduceEqDiff, Nat.reduceLT, getD_ne, getD_eq, List.length_set, *]; try rfl), by (simp only [Nat.reduceLT, getD_eq, List.length_set, *]; try rfl)⟩
  clear h0 h1 h2 h3 hl ho
  have w1 := gg.wf w
  have wB := w1
  rintro k fr h' ⟨A, B, H, g, hl, h3, h10, h11, h12⟩
  have gg' := gg
  clear gg
  have gg := g
  match B, k, H with
  | [], 0, H =>
    have hA : l = A := by have := H.out.1; simpa using this
    have hd : decide ((A.length : Int) < (l.length : Int)) = false := by subst hA; exact decide_eq_false (by omega)
    replace hA := hid_intro hA
    repeat' (first | refine WE.assoc ?_ | refine WE.seqR ?_ | refine WO.nil ?_ | (refine WO.lenOfE ?_; simp only [setDst, V.ev, Nat.reduceLT, getD_eq, List.length_set, *]; refine ⟨_, rfl, ?_⟩) | (refine WO.op1s ?_; simp only [opK, wanted, stepK, step, setDst, pureV, arith, intBin, true_and, V.ev, Nat.reduceEqDiff, Nat.reduceLT, Int.reduceNeg, getD_ne, getD_eq, List.length_set, if_true, *]; with_reducible show WO _ _ _ _ _) | refine WE.seqExit ?_ | (refine WE.seqCond (t := false) ?hc (fun hh => Bool.noConfusion hh) (fun _ => ?_); case hc => simp only [V.ev, Nat.reduceLT, getD_eq, List.length_set, *]) | refine WE.ret ?_)
    ((try dsimp only); refine Exists.intro _ ⟨(by (simp only [readResults, Nat.reduceEqDiff, Nat.reduceLT, Int.reduceNeg, getD_ne, getD_eq, List.length_set, *]; try rfl)), ?_⟩)
    exact ⟨gg'.trans g, by rw [H.out.2.2]; rfl⟩
  | n :: B, k + 1, H =>
    have hlt : A.length < l.length := by rw [H.out.1]; simp
    have hd : decide ((A.length : Int) < (l.length : Int)) = true := decide_eq_true (by omega)
    have hz : l[A.length] = n := by have := H.out.1; simp [this]
    obtain ⟨bx, o, he, l1⟩ := Ei.elt hei (k := .i64) hlt
    rw [hz] at l1
    have l1' : ∀ h', Grow g1 h' → h'.load bx o 1 = some [.int .i64 n] := fun h' g => l1 h' g.kp
    have hwi : IntKind.i64.wrap ((A.length : Int) + 1) = ((A.length + 1 : Nat) : Int) := wrap_add (b := 1) (by have := hol.out; omega)
    have haK := Keep.ei gg'.kp ha
    replace hlt := hid_intro hlt
    replace hz := hid_intro hz
    clear l1 g
    by_cases hx : n ∈ al
    · have e1 : ((1 : Int) == 1) = true := rfl
      have e2 : (if n ∈ al then (1 : Int) else 0) = 1 := if_pos hx
      have hp : pickL al l = some n := by rw [H.out.2.2]; simp [pickL, hx]
      replace hx := hid_intro hx
      replace hp := hid_intro hp
      repeat' (first | refine WE.assoc ?_ | refine WE.seqR ?_ | refine WO.nil ?_ | (refine WO.lenOfE ?_; simp only [setDst, V.ev, Nat.reduceLT, getD_eq, List.length_set, *]; refine ⟨_, rfl, ?_⟩) | (refine WO.iaddrE ?_; simp only [setDst, V.ev, Nat.reduceEqDiff, Nat.reduceLT, getD_ne, getD_eq, List.length_set, *]; refine ⟨_, rfl, ?_⟩) | (refine WO.op1s ?_; simp only [opK, wanted, stepK, step, setDst, pureV, arith, intBin, evs, eqVal, eqAt, eqv, Val.isAgg, Val.cells, true_and, and_self, Bool.and_true, List.getElem?_cons_zero, V.ev, Nat.reduceEqDiff, Nat.reduceLT, Int.reduceNeg, Bool.false_eq_true, beq_self_eq_true, getD_ne, getD_eq, List.length_set, if_true, if_false, Bool.not_true, *]; with_reducible show WO _ _ _ _ _) | (refine WO.callG (f := 21) (g := none) wB gg _ rfl (fun h1 w1 k1 => by (simp only [evs, V.ev, Nat.reduceEqDiff, Nat.reduceLT, getD_ne, getD_eq, List.length_set, *]); exact  (by have := has_ok w1 (n := n) (Keep.ei k1 haK) (by omega); rw [e2] at this; exact this)) ?_; clear gg; (rintro _ hh gg rfl; simp only [setDst])) | refine WE.seqSkip ?_ | (refine WE.seqCond (t := true) ?hc (fun _ => ?_) (fun hh => Bool.noConfusion hh); case hc => simp only [V.ev, Nat.reduceLT, getD_eq, List.length_set, *]) | (refine WE.cond2 (t := true) ?hc (fun _ => ?_) (fun hh => Bool.noConfusion hh); case hc => simp only [V.ev, Nat.reduceLT, getD_eq, List.length_set, *]) | refine WE.ret ?_ | refine WE.seqBlock ?_ | (with_reducible show blockQ _ _ _ _ _; simp only [blockQ, seqQ]))
      ((try dsimp only); refine Exists.intro _ ⟨(by (simp only [readResults, Nat.reduceEqDiff, Nat.reduceLT, getD_ne, getD_eq, List.length_set, *]; try rfl)), ?_⟩)
      exact ⟨gg'.trans gg, by rw [hp.out]; rfl⟩
    · have e1 : ((0 : Int) == 1) = false := rfl
      have e2 : (if n ∈ al then (1 : Int) else 0) = 0 := if_neg hx
      have hp : pickL al l = pickL al B := by rw [H.out.2.2]; simp [pickL, hx]
      replace hx := hid_intro hx
      replace hp := hid_intro hp
      repeat' (first | refine WE.assoc ?_ | refine WE.seqR ?_ | refine WO.nil ?_ | (refine WO.lenOfE ?_; simp only [setDst, V.ev, Nat.reduceLT, getD_eq, List.length_set, *]; refine ⟨_, rfl, ?_⟩) | (refine WO.iaddrE ?_; simp only [setDst, V.ev, Nat.reduceEqDiff, Nat.reduceLT, getD_ne, getD_eq, List.length_set, *]; refine ⟨_, rfl, ?_⟩) | (refine WO.op1s ?_; simp only [opK, wanted, stepK, step, setDst, pureV, arith, intBin, evs, eqVal, eqAt, eqv, Val.isAgg, Val.cells, true_and, and_self, Bool.and_true, List.getElem?_cons_zero, V.ev, Nat.reduceEqDiff, Nat.reduceLT, Int.reduceNeg, Bool.false_eq_true, getD_ne, getD_eq, List.length_set, if_true, if_false, Bool.not_false, *]; with_reducible show WO _ _ _ _ _) | (refine WO.callG (f := 21) (g := none) wB gg _ rfl (fun h1 w1 k1 => by (simp only [evs, V.ev, Nat.reduceEqDiff, Nat.reduceLT, getD_ne, getD_eq, List.length_set, *]); exact  (by have := has_ok w1 (n := n) (Keep.ei k1 haK) (by omega); rw [e2] at this; exact this)) ?_; clear gg; (rintro _ hh gg rfl; simp only [setDst])) | refine WE.seqSkip ?_ | (refine WE.seqCond (t := true) ?hc (fun _ => ?_) (fun hh => Bool.noConfusion hh); case hc => simp only [V.ev, Nat.reduceLT, getD_eq, List.length_set, *]) | refine WE.skip ?_ | (refine WE.cond2 (t := false) ?hc (fun hh => Bool.noConfusion hh) (fun _ => ?_); case hc => simp only [V.ev, Nat.reduceLT, getD_eq, List.length_set, *]) | refine WE.region ?_ | refine WE.seqBlock ?_)
      exact ⟨k, by omega, A ++ [n], B, ⟨by rw [H.out.1]; simp, by have := H.out.2.1; simpa using this, hp.out⟩, gg, by simp only [List.length_set, hl], by (simp only [Nat.reduceEqDiff, getD_ne, *]; try rfl), by (simp only [Nat.reduceEqDiff, getD_ne, *]; try rfl), by (simp only [Nat.reduceEqDiff, getD_ne, *]; try rfl), by first | ((simp only [Nat.reduceLT, getD_eq, List.length_set, *]; try rfl); done) | ((simp only [Nat.reduceLT, getD_eq, List.length_set, *]; try rfl); simp)⟩

def PkI (h0 : Heap) (u a : Val) (al l : List Int) (k : Nat) (fr : List Val) (h' : Heap) : Prop :=
  ∃ (A B : List Int), Hid (l = A ++ B ∧ B.length = k ∧ pickL al l = pickL al B) ∧ Grow h0 h' ∧ fr.length = 35 ∧ fr.getD 3 .undef = a ∧ fr.getD 24 .undef = u ∧ fr.getD 25 .undef = .int .i64 (l.length : Nat) ∧ fr.getD 26 .undef = .int .i64 (A.length : Nat)

theorem ordRes_bad {es : List Ent} {ro ag : Int} (h : (ordRes es ro ag).2 ≠ 0) : (ordRes es ro ag).1 = [] := by
  unfold ordRes at *
  split
  · rfl
  · split
    · rfl
    · rename_i h1 h2
      rw [if_neg h1, if_neg h2] at h
      exact absurd rfl h

theorem pick_ok {h : Heap} (w : Wf h) {s a : Val} {es : List Ent} {al : List Int} {ro ag : Int} (hs : Es h s es) (ha : Ei h a al) (hn : es.length ≤ 100000) (hal : al.length ≤ 100000) : WC E35 11 [.agg [s], .int .i64 ro, .int .i64 ag, a] h fun v h' => Grow h h' ∧ v = .tup [.int .i64 ((pickL al (ordRes es ro ag).1).getD 0), .bool (pickL al (ordRes es ro ag).1).isSome, .int .i64 (ordRes es ro ag).2] := by
  refine WC.fn1 (n := 35) rfl rfl (by rfl) ?_
  intro fr hl hx
  have h0 : fr.getD 0 .undef = .agg [s] := hx 0
  have h1 : fr.getD 1 .undef = .int .i64 ro := hx 1
  have h2 : fr.getD 2 .undef = .int .i64 ag := hx 2
  have h3 : fr.getD 3 .undef = a := hx 3
  clear hx
  unfold v11
  refine WE.seqR ?_
  (refine WO.op1 ?_; simp only [opK, wanted, setDst, *])
  refine stepK_box w (c := [s]) (by simp only [V.ev, *]; rfl) rfl fun b4 hB gB hb4 hg4 hnx => ?_
  have l4 : ∀ h', Grow hB h' → h'.load b4 0 1 = some [s] := fun h' g => g.part hg4 (by simp)
  have l4' := l4 _ (.refl _)
  have wB := gB.wf w
  repeat' (first | refine WE.seqR ?_ | refine WO.nil ?_ | (refine WO.op1s ?_; simp only [opK, wanted, stepK, step, setDst, evs, true_and, V.ev, Nat.reduceEqDiff, Nat.reduceLT, getD_ne, getD_eq, List.length_set, if_true, *]; with_reducible show WO _ _ _ _ _))
  refine WO.call rfl ?_
  (simp only [evs, V.ev, Nat.reduceEqDiff, Nat.reduceLT, getD_ne, getD_eq, List.length_set, *])
  refine (order_ok wB (gB.kp.es hs) hn).mono ?_
  rintro v1 g1 ⟨gg, u, rfl, ho⟩
  have hol := hid_intro (ordRes_len (ro := ro) (ag := ag) hn)
  have hbad := hid_intro (ordRes_bad (es := es) (ro := ro) (ag := ag))
  generalize ordRes es ro ag = R at *
  obtain ⟨l, bad⟩ := R
  simp only at ho hol hbad ⊢
  have hei : Ei g1 u l := ho.es
  have hlen := Sl.lenI hei
  clear l4 l4' hg4 hnx
  simp only [setDst]
  have w1 := gg.wf wB
  by_cases hb0 : bad = 0
  case neg =>
    have hd : (!(bad == 0)) = true := by simpa using hb0
    have hd2 : (bad == 0) = false := by simpa using hb0
    have hl0 := hbad.out hb0
    replace hb0 := hid_intro hb0
    replace hl0 := hid_intro hl0
    repeat' (first | refine WE.assoc ?_ | refine WE.seqR ?_ | refine WO.nil ?_ | (refine WO.op1s ?_; simp only [opK, wanted, stepK, step, setDst, eqVal, eqAt, eqv, Val.isAgg, Val.cells, true_and, and_self, Bool.and_true, List.getElem?_cons_zero, List.getElem?_cons_succ, V.ev, Nat.reduceEqDiff, Nat.reduceLT, getD_ne, getD_eq, List.length_set, if_true, Bool.not_false, *]; with_reducible show WO _ _ _ _ _) | refine WE.seqRet ?_ | (refine WE.seqCond (t := true) ?hc (fun _ => ?_) (fun hh => Bool.noConfusion hh); case hc => simp only [V.ev, Nat.reduceLT, getD_eq, List.length_set, *]))
    ((try dsimp only); refine Exists.intro _ ⟨(by (simp only [readResults, Nat.reduceEqDiff, Nat.reduceLT, getD_ne, getD_eq, List.length_set, *]; try rfl)), ?_⟩)
    exact ⟨gB.trans gg, by rw [hl0.out]; rfl⟩
  have hd2 : (bad == 0) = true := by simpa using hb0
  replace hb0 := hid_intro hb0
  repeat' (first | refine WE.assoc ?_ | refine WE.seqR ?_ | refine WO.nil ?_ | (refine WO.lenOfE ?_; simp only [setDst, V.ev, Nat.reduceLT, getD_eq, List.length_set, *]; refine ⟨_, rfl, ?_⟩) | (refine WO.op1s ?_; simp only [opK, wanted, stepK, step, setDst, eqVal, eqAt, eqv, Val.isAgg, Val.cells, true_and, and_self, Bool.and_true, List.getElem?_cons_zero, List.getElem?_cons_succ, V.ev, Nat.reduceEqDiff, Nat.reduceLT, getD_ne, getD_eq, List.length_set, if_true, Bool.not_true, *]; with_reducible show WO _ _ _ _ _) | refine WE.seqSkip ?_ | (refine WE.seqCond (t := false) ?hc (fun hh => Bool.noConfusion hh) (fun _ => ?_); case hc => simp only [V.ev, Nat.reduceLT, getD_eq, List.length_set, *]) | refine WE.seqBlock ?_)
  refine WE.loop (PkI g1 u a al l) ?_ l.length _ _ ⟨[], l, ⟨rfl, rfl, rfl⟩, .refl _, by simp only [List.length_set, hl], by (simp only [Nat.reduceEqDiff, getD_ne, *]; try rfl), by (simp only [Nat.reduceEqDiff, Nat.reduceLT, getD_ne, getD_eq, List.length_set, *]; try rfl), by (simp only [Nat.reduceEqDiff, Nat.reduceLT, getD_ne, getD_eq, List.length_set, *]; try rfl), by (simp only [Nat.reduceLT, getD_eq, List.length_set, *]; try rfl)⟩
  clear h0 h1 h2 h3 hl ho wB
  have wB := w1
  rintro k fr h' ⟨A, B, H, g, hl, h3, h24, h25, h26⟩
  have gg' := gg
  clear gg
  have gg := g
  match B, k, H with
  | [], 0, H =>
    have hA : l = A := by have := H.out.1; simpa using this
    have hd : decide ((A.length : Int) < (l.length : Int)) = false := by subst hA; exact decide_eq_false (by omega)
    replace hA := hid_intro hA
    repeat' (first | refine WE.seqR ?_ | refine WO.nil ?_ | (refine WO.op1s ?_; simp only [opK, wanted, stepK, step, setDst, pureV, arith, intBin, true_and, V.ev, if_true, *]; with_reducible show WO _ _ _ _ _) | refine WE.seqExit ?_ | (refine WE.seqCond (t := false) ?hc (fun hh => Bool.noConfusion hh) (fun _ => ?_); case hc => simp only [V.ev, Nat.reduceLT, getD_eq, *]) | refine WE.ret ?_)
    ((try dsimp only); refine Exists.intro _ ⟨(by (simp only [readResults, Nat.reduceEqDiff, Nat.reduceLT, getD_ne, getD_eq, List.length_set, *]; try rfl)), ?_⟩)
    exact ⟨gB.trans (gg'.trans g), by rw [H.out.2.2, hb0.out]; rfl⟩
  | n :: B, k + 1, H =>
    have hlt : A.length < l.length := by rw [H.out.1]; simp
    have hd : decide ((A.length : Int) < (l.length : Int)) = true := decide_eq_true (by omega)
    have hz : l[A.length] = n := by have := H.out.1; simp [this]
    obtain ⟨bx, o, he, l1⟩ := Ei.elt hei (k := .i64) hlt
    rw [hz] at l1
    have l1' : ∀ h', Grow g1 h' → h'.load bx o 1 = some [.int .i64 n] := fun h' g => l1 h' g.kp
    have hwi : IntKind.i64.wrap ((A.length : Int) + 1) = ((A.length + 1 : Nat) : Int) := wrap_add (b := 1) (by have := hol.out; omega)
    have haK := Keep.ei gg'.kp (Keep.ei gB.kp ha)
    replace hlt := hid_intro hlt
    replace hz := hid_intro hz
    clear l1 g
    by_cases hx : n ∈ al
    · have e2 : decide (n ∈ al) = true := decide_eq_true hx
      have hp : pickL al l = some n := by rw [H.out.2.2]; simp [pickL, hx]
      replace hx := hid_intro hx
      replace hp := hid_intro hp
      repeat' (first | refine WE.seqR ?_ | refine WO.nil ?_ | (refine WO.iaddrE ?_; simp only [setDst, V.ev, Nat.reduceEqDiff, getD_ne, *]; refine ⟨_, rfl, ?_⟩) | (refine WO.op1s ?_; simp only [opK, wanted, stepK, step, setDst, pureV, arith, intBin, evs, true_and, V.ev, Nat.reduceEqDiff, Nat.reduceLT, Bool.false_eq_true, getD_ne, getD_eq, List.length_set, if_true, if_false, *]; with_reducible show WO _ _ _ _ _) | (refine WO.callG (f := 41) (g := none) wB gg _ rfl (fun h1 w1 k1 => by (simp only [evs, V.ev, Nat.reduceEqDiff, Nat.reduceLT, getD_ne, getD_eq, List.length_set, *]); exact  (by have := contains_ok w1 (n := n) (Keep.ei k1 haK) (by omega); rw [e2] at this; exact this)) ?_; clear gg; (rintro _ hh gg rfl; simp only [setDst])) | refine WE.seqSkip ?_ | (refine WE.seqCond (t := true) ?hc (fun _ => ?_) (fun hh => Bool.noConfusion hh); case hc => simp only [V.ev, Nat.reduceLT, getD_eq, *]) | (refine WE.cond2 (t := true) ?hc (fun _ => ?_) (fun hh => Bool.noConfusion hh); case hc => simp only [V.ev, Nat.reduceLT, getD_eq, List.length_set, *]) | refine WE.ret ?_ | refine WE.seqBlock ?_ | (with_reducible show blockQ _ _ _ _ _; simp only [blockQ, seqQ]))
      ((try dsimp only); refine Exists.intro _ ⟨(by (simp only [readResults, Nat.reduceEqDiff, Nat.reduceLT, getD_ne, getD_eq, List.length_set, *]; try rfl)), ?_⟩)
      exact ⟨gB.trans (gg'.trans gg), by rw [hp.out, hb0.out]; rfl⟩
    · have e2 : decide (n ∈ al) = false := decide_eq_false hx
      have hp : pickL al l = pickL al B := by rw [H.out.2.2]; simp [pickL, hx]
      replace hx := hid_intro hx
      replace hp := hid_intro hp
      repeat' (first | refine WE.seqR ?_ | refine WO.nil ?_ | (refine WO.iaddrE ?_; simp only [setDst, V.ev, Nat.reduceEqDiff, getD_ne, *]; refine ⟨_, rfl, ?_⟩) | (refine WO.op1s ?_; simp only [opK, wanted, stepK, step, setDst, pureV, arith, intBin, evs, true_and, V.ev, Nat.reduceEqDiff, Nat.reduceLT, Bool.false_eq_true, getD_ne, getD_eq, List.length_set, if_true, if_false, *]; with_reducible show WO _ _ _ _ _) | (refine WO.callG (f := 41) (g := none) wB gg _ rfl (fun h1 w1 k1 => by (simp only [evs, V.ev, Nat.reduceEqDiff, Nat.reduceLT, getD_ne, getD_eq, List.length_set, *]); exact  (by have := contains_ok w1 (n := n) (Keep.ei k1 haK) (by omega); rw [e2] at this; exact this)) ?_; clear gg; (rintro _ hh gg rfl; simp only [setDst])) | refine WE.seqSkip ?_ | (refine WE.seqCond (t := true) ?hc (fun _ => ?_) (fun hh => Bool.noConfusion hh); case hc => simp only [V.ev, Nat.reduceLT, getD_eq, *]) | refine WE.skip ?_ | (refine WE.cond2 (t := false) ?hc (fun hh => Bool.noConfusion hh) (fun _ => ?_); case hc => simp only [V.ev, Nat.reduceLT, getD_eq, List.length_set, *]) | refine WE.region ?_ | refine WE.seqBlock ?_)
      exact ⟨k, by omega, A ++ [n], B, ⟨by rw [H.out.1]; simp, by have := H.out.2.1; simpa using this, hp.out⟩, gg, by simp only [List.length_set, hl], by (simp only [Nat.reduceEqDiff, getD_ne, *]; try rfl), by (simp only [Nat.reduceEqDiff, getD_ne, *]; try rfl), by (simp only [Nat.reduceEqDiff, getD_ne, *]; try rfl), by first | ((simp only [Nat.reduceLT, getD_eq, List.length_set, *]; try rfl); done) | ((simp only [Nat.reduceLT, getD_eq, List.length_set, *]; try rfl); simp)⟩

end Go.V
end

section
set_option linter.unusedVariables false
set_option linter.unusedSimpArgs false
set_option linter.unusedSectionVars false
-- BUILDS
-- NEW
set_option maxHeartbeats 4000000
namespace Go.V
attribute [local irreducible] stepK opK opV

theorem clsL_mem {k : Ent → Int} {es : List Ent} {c : Nat} {n : Int} (h : n ∈ clsL k es c) : ∃ e ∈ es, e.id = n := by
  unfold clsL at h
  obtain ⟨e, h1, h2⟩ := List.mem_map.1 h
  exact ⟨e, (List.mem_filter.1 h1).1, h2⟩

theorem ordRes_mem {es : List Ent} {ro ag n : Int} (h : n ∈ (ordRes es ro ag).1) : 0 ≤ n := by
  unfold ordRes at h
  split at h
  · simp at h
  · rename_i hc
    split at h
    · simp at h
    · simp only [ordL, List.mem_flatMap] at h
      obtain ⟨c, _, h⟩ := h
      obtain ⟨e, h1, rfl⟩ := clsL_mem h
      obtain ⟨i, hi, rfl⟩ := List.getElem_of_mem h1
      have hz : chk es = 0 := by have := chk_nonneg es; omega
      have := (chk_zero hz).2 i hi |>.1
      exact (validB_iff.1 this).1

theorem pickL_mem {a l : List Int} {n : Int} (h : pickL a l = some n) : n ∈ l := List.mem_of_find?_eq_some h

theorem lawOrd_ok {h : Heap} (w : Wf h) {s a : Val} {es : List Ent} {al : List Int} {z0 z1 : Int} (hs : Es h s es) (ha : Ei h a al) : WC E35 3 [.agg [s], .agg [.int .i64 z0, .int .i64 z1], a] h fun v h' => Grow h h' ∧ v = .bool true := by
  refine WC.fn1 (n := 100) rfl rfl (by rfl) ?_
  intro fr hl hx
  have a0 : fr.getD 0 .undef = .agg [s] := hx 0
  have a1 : fr.getD 1 .undef = .agg [.int .i64 z0, .int .i64 z1] := hx 1
  have a2 : fr.getD 2 .undef = a := hx 2
  clear hx
  have hlen := hs.lenI
  have hlen2 := Sl.lenI ha
  unfold v3
  refine WE.seqR ?_
  (refine WO.op1 ?_; simp only [opK, wanted, setDst, *])
  refine stepK_box w (c := [s]) (by simp only [V.ev, *]; rfl) rfl fun b3 h1 g1 hb1 hg1 hn1 => ?_
  (refine WO.op1 ?_; simp only [opK, wanted, setDst, *])
  refine stepK_box (g1.wf w) (c := [.int .i64 z0, .int .i64 z1]) (by simp only [V.ev, Nat.reduceEqDiff, getD_ne, *]; rfl) rfl fun b4 h2 g2 hb2 hg2 hn2 => ?_
  have gA := g1.trans g2
  have wB := gA.wf w
  have gg := Grow.refl h2
  have l0 : ∀ h', Grow h2 h' → h'.load b3 0 1 = some [s] := fun h' g => g.part (g2.keep _ _ hg1) (by simp)
  have l1 : ∀ h', Grow h2 h' → h'.load b4 0 1 = some [.int .i64 z0] := fun h' g => g.part hg2 (by simp)
  have l2 : ∀ h', Grow h2 h' → h'.load b4 1 1 = some [.int .i64 z1] := fun h' g => g.part hg2 (by simp)
  have hsB := gA.kp.es hs
  have haB := Keep.ei gA.kp ha
  clear hg1 hg2 hn1 hn2 hb1 hb2 g1 g2 hs ha
  by_cases h70 : es.length > 70
  · have hd : decide ((es.length : Int) > 70) = true := by simp; omega
    replace h70 := hid_intro h70
    repeat' (first | refine WE.assoc ?_ | refine WE.seqR ?_ | refine WO.nil ?_ | (refine WO.lenOfE ?_; simp only [setDst, V.ev, Nat.reduceLT, getD_eq, List.length_set, *]; refine ⟨_, rfl, ?_⟩) | (refine WO.op1s ?_; simp only [opK, wanted, stepK, step, setDst, pureV, arith, intBin, evs, true_and, V.ev, Nat.reduceEqDiff, Nat.reduceLT, Nat.add_zero, Bool.false_eq_true, getD_ne, getD_eq, List.length_set, if_true, if_false, Bool.true_beq, *]; with_reducible show WO _ _ _ _ _) | (refine WO.callG (f := 8) (g := none) wB gg _ rfl (fun h1 w1 k1 => by (simp only [evs, *]); exact  lives_ok) ?_; clear gg; (rintro _ hh gg rfl; simp only [setDst])) | refine WE.seqRet ?_ | (refine WE.seqCond (t := true) ?hc (fun _ => ?_) (fun hh => Bool.noConfusion hh); case hc => simp only [V.ev, Nat.reduceLT, getD_eq, List.length_set, *]))
    ((try dsimp only); refine Exists.intro _ ⟨(by (simp only [readResults, Nat.reduceLT, getD_eq, List.length_set, *]; try rfl)), ?_⟩)
    exact ⟨gA.trans gg, rfl⟩
  have hd : decide ((es.length : Int) > 70) = false := by simp; omega
  replace h70 := hid_intro h70
  by_cases h40 : al.length > 40
  · have hd2 : decide ((al.length : Int) > 40) = true := by simp; omega
    replace h40 := hid_intro h40
    repeat' (first | refine WE.assoc ?_ | refine WE.seqR ?_ | refine WO.nil ?_ | (refine WO.lenOfE ?_; simp only [setDst, V.ev, Nat.reduceLT, getD_eq, List.length_set, *]; refine ⟨_, rfl, ?_⟩) | (refine WO.op1s ?_; simp only [opK, wanted, stepK, step, setDst, pureV, arith, intBin, evs, true_and, V.ev, Nat.reduceEqDiff, Nat.reduceLT, Nat.add_zero, Bool.false_eq_true, beq_self_eq_true, getD_ne, getD_eq, List.length_set, if_true, if_false, *]; with_reducible show WO _ _ _ _ _) | (refine WO.callG (f := 8) (g := none) wB gg _ rfl (fun h1 w1 k1 => by (simp only [evs, *]); exact  lives_ok) ?_; clear gg; (rintro _ hh gg rfl; simp only [setDst])) | refine WE.seqRet ?_ | (refine WE.seqCond (t := true) ?hc (fun _ => ?_) (fun hh => Bool.noConfusion hh); case hc => simp only [V.ev, Nat.reduceLT, getD_eq, List.length_set, *]) | (refine WO.known ?hc ?_; case hc => (simp only [wanted, Bool.false_beq, Nat.reduceEqDiff, Nat.reduceLT, getD_ne, getD_eq, List.length_set, Bool.not_false, *])))
    ((try dsimp only); refine Exists.intro _ ⟨(by (simp only [readResults, Nat.reduceLT, getD_eq, List.length_set, *]; try rfl)), ?_⟩)
    exact ⟨gA.trans gg, rfl⟩
  have hd2 : decide ((al.length : Int) > 40) = false := by simp; omega
  replace h40 := hid_intro h40
  repeat' (first | refine WE.assoc ?_ | refine WE.seqR ?_ | refine WO.nil ?_ | (refine WO.lenOfE ?_; simp only [setDst, V.ev, Nat.reduceLT, getD_eq, List.length_set, *]; refine ⟨_, rfl, ?_⟩) | (refine WO.op1s ?_; simp only [opK, wanted, stepK, step, setDst, pureV, arith, intBin, evs, true_and, and_self, V.ev, Nat.reduceEqDiff, Nat.reduceLT, Nat.add_zero, Nat.zero_add, Nat.reduceMul, Int.reduceLE, Int.reduceLT, Int.reduceToNat, Bool.false_eq_true, beq_self_eq_true, Int.cast_ofNat_Int, getD_ne, getD_eq, List.length_set, if_true, if_false, *]; with_reducible show WO _ _ _ _ _) | refine WE.seqSkip ?_ | (refine WE.seqCond (t := false) ?hc (fun hh => Bool.noConfusion hh) (fun _ => ?_); case hc => simp only [V.ev, Nat.reduceLT, getD_eq, List.length_set, *]) | (refine WO.known ?hc ?_; case hc => (simp only [wanted, Bool.false_beq, Nat.reduceEqDiff, Nat.reduceLT, getD_ne, getD_eq, List.length_set, Bool.not_false, *])))
  refine WO.call rfl ?_
  (simp only [evs, V.ev, Nat.reduceEqDiff, Nat.reduceLT, getD_ne, getD_eq, List.length_set, *])
  refine (reforder_ok wB hsB (by have := h70.out; omega)).mono ?_
  rintro v1 h3 ⟨g3, u1, rfl, o1⟩
  simp only [setDst]
  have e3 := l0 _ g3
  have e4 := l1 _ g3
  repeat' (first | refine WE.seqR ?_ | refine WO.nil ?_ | (refine WO.op1s ?_; simp only [opK, wanted, stepK, step, setDst, evs, true_and, and_self, List.getElem?_cons_zero, List.getElem?_cons_succ, V.ev, Nat.reduceEqDiff, Nat.reduceLT, Nat.add_zero, Nat.reduceMul, Int.reduceLE, Int.reduceLT, Int.reduceToNat, Bool.false_eq_true, Int.cast_ofNat_Int, getD_ne, getD_eq, List.length_set, if_true, if_false, *]; with_reducible show WO _ _ _ _ _))
  refine WO.call rfl ?_
  (simp only [evs, V.ev, Nat.reduceEqDiff, Nat.reduceLT, getD_ne, getD_eq, List.length_set, *])
  have w3 := g3.wf wB
  refine (order_ok w3 (g3.kp.es hsB) (by have := h70.out; omega)).mono ?_
  rintro v2 h4 ⟨g4, u2, rfl, o2⟩
  simp only [setDst]
  have gB := g3.trans g4
  have w4 := gB.wf wB
  have hu1 := Keep.ei g4.kp o1.ei
  have hu2 : Ei h4 u2 (ordRes es z0 z1).1 := o2.es
  have hmem := hid_intro (fun n h => ordRes_mem (es := es) (ro := z0) (ag := z1) (n := n) h)
  have hol := hid_intro (ordRes_len (es := es) (ro := z0) (ag := z1) (by have := h70.out; omega))
  have hp := fun (w1 : Wf h4) => pick_ok w1 (ro := z0) (ag := z1) (gB.kp.es hsB) (Keep.ei gB.kp haB) (by have := h70.out; omega) (by have := h40.out; omega)
  have hq := fun h' (w1 : Wf h') (k : Keep h4 h') => refpick_ok w1 (ro := z0) (ag := z1) (k.es (gB.kp.es hsB)) (Keep.ei k (Keep.ei gB.kp haB)) (by have := h70.out; omega) (by have := h40.out; omega)
  replace hq := hid_intro hq
  replace hp := hid_intro hp
  have hcap : ∃ n : Nat, lenI u2 = some n ∧ ((u2 = .nils ∧ n = 0) ∨ ∃ b, u2 = .slice b 0 n n 0) := by
    rcases o2 with ⟨_, rfl⟩ | ⟨_, b, rfl, _, _⟩
    · exact ⟨0, rfl, .inl ⟨rfl, rfl⟩⟩
    · exact ⟨_, rfl, .inr ⟨b, rfl⟩⟩
  clear o1 o2 e3 e4 hsB haB hlen hlen2 hd hd2 gg
  generalize (ordRes es z0 z1).1 = l at *
  generalize (ordRes es z0 z1).2 = bad at *
  have m0 := l0 _ gB
  have m1 := l1 _ gB
  clear l2
  repeat' (first | refine WE.seqR ?_ | refine WO.nil ?_ | (refine WO.op1s ?_; simp only [opK, wanted, stepK, step, setDst, evs, true_and, and_self, List.getElem?_cons_zero, List.getElem?_cons_succ, V.ev, Nat.reduceEqDiff, Nat.reduceLT, Nat.add_zero, Nat.reduceMul, Int.reduceLE, Int.reduceLT, Int.reduceToNat, Bool.false_eq_true, Int.cast_ofNat_Int, getD_ne, getD_eq, List.length_set, if_true, if_false, *]; with_reducible show WO _ _ _ _ _))
  refine WO.call rfl ?_
  (simp only [evs, V.ev, Nat.reduceEqDiff, Nat.reduceLT, getD_ne, getD_eq, List.length_set, *])
  refine (hp.out w4).mono ?_
  rintro _ h5 ⟨g5, rfl⟩
  simp only [setDst]
  have w5 := g5.wf w4
  have n0 := l0 _ (gB.trans g5)
  have n1 := l1 _ (gB.trans g5)
  clear m0 m1
  repeat' (first | refine WE.seqR ?_ | refine WO.nil ?_ | (refine WO.op1s ?_; simp only [opK, wanted, stepK, step, setDst, evs, true_and, and_self, List.getElem?_cons_zero, List.getElem?_cons_succ, V.ev, Nat.reduceEqDiff, Nat.reduceLT, Nat.add_zero, Nat.reduceMul, Int.reduceLE, Int.reduceLT, Int.reduceToNat, Bool.false_eq_true, Int.cast_ofNat_Int, getD_ne, getD_eq, List.length_set, if_true, if_false, *]; with_reducible show WO _ _ _ _ _))
  refine WO.call rfl ?_
  (simp only [evs, V.ev, Nat.reduceEqDiff, Nat.reduceLT, getD_ne, getD_eq, List.length_set, *])
  refine (hq.out _ w5 g5.kp).mono ?_
  rintro _ h6 ⟨g6, rfl⟩
  simp only [setDst]
  have gC := g5.trans g6
  have w6 := gC.wf w4
  have hu1 := Keep.ei gC.kp hu1
  have hu2 := Keep.ei gC.kp hu2
  clear n0 n1
  have hsame : (if l = l then (1 : Int) else 0) = 1 := if_pos rfl
  obtain ⟨n, hn, hc⟩ := hcap
  have hee : ((1 : Int) == 0) = false := rfl
  have wB' := wB
  clear wB
  have wB := w6
  have gg := Grow.refl h6
  have hfin : (pickL al l = none ∨ ∃ m : Int, pickL al l = some m ∧ 0 ≤ m) := by
    cases hpk : pickL al l with
    | none => exact .inl rfl
    | some m => exact .inr ⟨m, rfl, hmem.out m (pickL_mem hpk)⟩
  have hsm := fun h' (w1 : Wf h') (k : Keep h6 h') => samei_ok w1 (Keep.ei k hu2) (Keep.ei k hu1) (by have := hol.out; omega)
  rw [hsame] at hsm
  replace hsm := hid_intro hsm
  clear hu1 hu2 hsame l0 l1
  have gF := gA.trans (gB.trans gC)
  have e9 : ((n : Int) == (n : Int)) = true := by simp
  have e10 : decide ((-1 : Int) ≥ 0) = false := rfl
  have e11 : (false == false) = true := rfl
  have e12 : ((0 : Int) == 0) = true := rfl
  have e13 : decide ((0 : Int) > -1) = true := rfl
  rcases hc with ⟨rfl, rfl⟩ | ⟨b, rfl⟩
  · rcases hfin with hpk | ⟨m, hpk, hm⟩
    · have q1 : (pickL al l).getD (-1) = -1 := by rw [hpk]; rfl
      have q2 : (pickL al l).getD 0 = 0 := by rw [hpk]; rfl
      have q3 : (pickL al l).isSome = false := by rw [hpk]; rfl
      replace hpk := hid_intro hpk
      repeat' (first | refine WE.assoc ?_ | refine WE.seqR ?_ | refine WO.nil ?_ | (refine WO.op1s ?_; simp only [opK, wanted, stepK, step, setDst, pureV, arith, intBin, evs, minmaxL, eqVal, eqAt, eqv, Val.isAgg, Val.cells, true_and, and_self, Bool.and_true, List.getElem?_cons_zero, List.getElem?_cons_succ, V.ev, Nat.reduceEqDiff, Nat.reduceLT, Int.reduceLT, Int.reduceNeg, Bool.false_eq_true, beq_self_eq_true, Int.reduceGT, Int.reduceGE, decide_false, getD_ne, getD_eq, List.length_set, if_true, if_false, Bool.not_true, Bool.not_false, *]; with_reducible show WO _ _ _ _ _) | (refine WO.callG (f := 13) (g := none) wB gg _ rfl (fun h1 w1 k1 => by (simp only [evs, V.ev, Nat.reduceEqDiff, Nat.reduceLT, Int.reduceNeg, getD_ne, getD_eq, List.length_set, *]); exact  hsm.out _ w1 k1) ?_; clear gg; (rintro _ hh gg rfl; simp only [setDst])) | (refine WO.callG (f := 8) (g := none) wB gg _ rfl (fun h1 w1 k1 => by (simp only [evs, *]); exact  lives_ok) ?_; clear gg; (rintro _ hh gg rfl; simp only [setDst])) | refine WE.seqSkip ?_ | (refine WE.seqCond (t := false) ?hc (fun hh => Bool.noConfusion hh) (fun _ => ?_); case hc => simp only [V.ev, Nat.reduceLT, getD_eq, List.length_set, *]) | (refine WO.known ?hc ?_; case hc => (simp only [wanted, Bool.true_beq, Nat.reduceEqDiff, Nat.reduceLT, getD_ne, getD_eq, List.length_set, *])) | refine WE.ret ?_)
      ((try dsimp only); refine Exists.intro _ ⟨(by (simp only [readResults, Nat.reduceLT, Int.reduceNeg, getD_eq, List.length_set, *]; try rfl)), ?_⟩)
      exact ⟨gF.trans gg, rfl⟩
    · have q1 : (pickL al l).getD (-1) = m := by rw [hpk]; rfl
      have q2 : (pickL al l).getD 0 = m := by rw [hpk]; rfl
      have q3 : (pickL al l).isSome = true := by rw [hpk]; rfl
      have q4 : decide (m ≥ 0) = true := decide_eq_true hm
      have q5 : (true == true) = true := rfl
      have q6 : (if (0 : Int) > m then (0 : Int) else m) = m := if_neg (by omega)
      have q7 : (m == m) = true := by simp
      replace hpk := hid_intro hpk
      replace hm := hid_intro hm
      repeat' (first | refine WE.assoc ?_ | refine WE.seqR ?_ | refine WO.nil ?_ | (refine WO.op1s ?_; simp only [opK, wanted, stepK, step, setDst, pureV, arith, intBin, evs, minmaxL, eqVal, eqAt, eqv, Val.isAgg, Val.cells, true_and, and_self, Bool.and_true, List.getElem?_cons_zero, List.getElem?_cons_succ, V.ev, Nat.reduceEqDiff, Nat.reduceLT, Int.reduceNeg, Bool.false_eq_true, beq_self_eq_true, getD_ne, getD_eq, List.length_set, if_true, if_false, Bool.not_true, Bool.not_false, *]; with_reducible show WO _ _ _ _ _) | (refine WO.callG (f := 13) (g := none) wB gg _ rfl (fun h1 w1 k1 => by (simp only [evs, V.ev, Nat.reduceEqDiff, Nat.reduceLT, getD_ne, getD_eq, List.length_set, *]); exact  hsm.out _ w1 k1) ?_; clear gg; (rintro _ hh gg rfl; simp only [setDst])) | (refine WO.callG (f := 8) (g := none) wB gg _ rfl (fun h1 w1 k1 => by (simp only [evs, *]); exact  lives_ok) ?_; clear gg; (rintro _ hh gg rfl; simp only [setDst])) | refine WE.seqSkip ?_ | (refine WE.seqCond (t := false) ?hc (fun hh => Bool.noConfusion hh) (fun _ => ?_); case hc => simp only [V.ev, Nat.reduceLT, getD_eq, List.length_set, *]) | (refine WO.known ?hc ?_; case hc => (simp only [wanted, Nat.reduceEqDiff, Nat.reduceLT, getD_ne, getD_eq, List.length_set, *])) | refine WE.ret ?_)
      ((try dsimp only); refine Exists.intro _ ⟨(by (simp only [readResults, Nat.reduceLT, getD_eq, List.length_set, *]; try rfl)), ?_⟩)
      exact ⟨gF.trans gg, rfl⟩
  · rcases hfin with hpk | ⟨m, hpk, hm⟩
    · have q1 : (pickL al l).getD (-1) = -1 := by rw [hpk]; rfl
      have q2 : (pickL al l).getD 0 = 0 := by rw [hpk]; rfl
      have q3 : (pickL al l).isSome = false := by rw [hpk]; rfl
      replace hpk := hid_intro hpk
      repeat' (first | refine WE.assoc ?_ | refine WE.seqR ?_ | refine WO.nil ?_ | (refine WO.op1s ?_; simp only [opK, wanted, stepK, step, setDst, pureV, arith, intBin, evs, minmaxL, eqVal, eqAt, eqv, Val.isAgg, Val.cells, true_and, and_self, Bool.and_true, List.getElem?_cons_zero, List.getElem?_cons_succ, V.ev, Nat.reduceEqDiff, Nat.reduceLT, Int.reduceLT, Int.reduceNeg, Bool.false_eq_true, beq_self_eq_true, Int.reduceGT, Int.reduceGE, decide_false, getD_ne, getD_eq, List.length_set, if_true, if_false, Bool.not_true, Bool.not_false, *]; with_reducible show WO _ _ _ _ _) | (refine WO.callG (f := 13) (g := none) wB gg _ rfl (fun h1 w1 k1 => by (simp only [evs, V.ev, Nat.reduceEqDiff, Nat.reduceLT, Int.reduceNeg, getD_ne, getD_eq, List.length_set, *]); exact  hsm.out _ w1 k1) ?_; clear gg; (rintro _ hh gg rfl; simp only [setDst])) | (refine WO.callG (f := 8) (g := none) wB gg _ rfl (fun h1 w1 k1 => by (simp only [evs, *]); exact  lives_ok) ?_; clear gg; (rintro _ hh gg rfl; simp only [setDst])) | refine WE.seqSkip ?_ | (refine WE.seqCond (t := false) ?hc (fun hh => Bool.noConfusion hh) (fun _ => ?_); case hc => simp only [V.ev, Nat.reduceLT, getD_eq, List.length_set, *]) | (refine WO.known ?hc ?_; case hc => (simp only [wanted, Bool.true_beq, Nat.reduceEqDiff, Nat.reduceLT, getD_ne, getD_eq, List.length_set, *])) | refine WE.ret ?_)
      ((try dsimp only); refine Exists.intro _ ⟨(by (simp only [readResults, Nat.reduceLT, Int.reduceNeg, getD_eq, List.length_set, *]; try rfl)), ?_⟩)
      exact ⟨gF.trans gg, rfl⟩
    · have q1 : (pickL al l).getD (-1) = m := by rw [hpk]; rfl
      have q2 : (pickL al l).getD 0 = m := by rw [hpk]; rfl
      have q3 : (pickL al l).isSome = true := by rw [hpk]; rfl
      have q4 : decide (m ≥ 0) = true := decide_eq_true hm
      have q5 : (true == true) = true := rfl
      have q6 : (if (0 : Int) > m then (0 : Int) else m) = m := if_neg (by omega)
      have q7 : (m == m) = true := by simp
      replace hpk := hid_intro hpk
      replace hm := hid_intro hm
      repeat' (first | refine WE.assoc ?_ | refine WE.seqR ?_ | refine WO.nil ?_ | (refine WO.op1s ?_; simp only [opK, wanted, stepK, step, setDst, pureV, arith, intBin, evs, minmaxL, eqVal, eqAt, eqv, Val.isAgg, Val.cells, true_and, and_self, Bool.and_true, List.getElem?_cons_zero, List.getElem?_cons_succ, V.ev, Nat.reduceEqDiff, Nat.reduceLT, Int.reduceNeg, Bool.false_eq_true, beq_self_eq_true, getD_ne, getD_eq, List.length_set, if_true, if_false, Bool.not_true, Bool.not_false, *]; with_reducible show WO _ _ _ _ _) | (refine WO.callG (f := 13) (g := none) wB gg _ rfl (fun h1 w1 k1 => by (simp only [evs, V.ev, Nat.reduceEqDiff, Nat.reduceLT, getD_ne, getD_eq, List.length_set, *]); exact  hsm.out _ w1 k1) ?_; clear gg; (rintro _ hh gg rfl; simp only [setDst])) | (refine WO.callG (f := 8) (g := none) wB gg _ rfl (fun h1 w1 k1 => by (simp only [evs, *]); exact  lives_ok) ?_; clear gg; (rintro _ hh gg rfl; simp only [setDst])) | refine WE.seqSkip ?_ | (refine WE.seqCond (t := false) ?hc (fun hh => Bool.noConfusion hh) (fun _ => ?_); case hc => simp only [V.ev, Nat.reduceLT, getD_eq, List.length_set, *]) | (refine WO.known ?hc ?_; case hc => (simp only [wanted, Nat.reduceEqDiff, Nat.reduceLT, getD_ne, getD_eq, List.length_set, *])) | refine WE.ret ?_)
      ((try dsimp only); refine Exists.intro _ ⟨(by (simp only [readResults, Nat.reduceLT, getD_eq, List.length_set, *]; try rfl)), ?_⟩)
      exact ⟨gF.trans gg, rfl⟩

end Go.V
end

section
set_option linter.unusedVariables false
set_option linter.unusedSimpArgs false
set_option linter.unusedSectionVars false
namespace Go.V

def E35c : Env := { fns := fns, prims := fun _ => none, meth := fun _ _ _ => none }

def isTrue : Option (Val × Heap) → Bool
  | some (.bool true, _) => true
  | _ => false

theorem lives_run : isTrue (run E35c 400 8 [] heap0) = true := by decide +kernel

end Go.V
end

section
set_option linter.unusedVariables false
set_option linter.unusedSimpArgs false
set_option linter.unusedSectionVars false
set_option maxRecDepth 100000
set_option maxHeartbeats 4000000
namespace Go.V
open Go.Proofs

theorem ok3 : ∃ fn, FnOk Try.prog 3 fn ∧ cFn Try.prog fn = some v3 := ⟨Try.f3, ⟨rfl, rfl, rfl⟩, by kernel_rfl⟩
theorem ok4 : ∃ fn, FnOk Try.prog 4 fn ∧ cFn Try.prog fn = some v4 := ⟨Try.f4, ⟨rfl, rfl, rfl⟩, by kernel_rfl⟩
theorem ok5 : ∃ fn, FnOk Try.prog 5 fn ∧ cFn Try.prog fn = some v5 := ⟨Try.f5, ⟨rfl, rfl, rfl⟩, by kernel_rfl⟩
theorem ok6 : ∃ fn, FnOk Try.prog 6 fn ∧ cFn Try.prog fn = some v6 := ⟨Try.f6, ⟨rfl, rfl, rfl⟩, by kernel_rfl⟩
theorem ok7 : ∃ fn, FnOk Try.prog 7 fn ∧ cFn Try.prog fn = some v7 := ⟨Try.f7, ⟨rfl, rfl, rfl⟩, by kernel_rfl⟩
theorem ok8 : ∃ fn, FnOk Try.prog 8 fn ∧ cFn Try.prog fn = some v8 := ⟨Try.f8, ⟨rfl, rfl, rfl⟩, by kernel_rfl⟩
theorem ok9 : ∃ fn, FnOk Try.prog 9 fn ∧ cFn Try.prog fn = some v9 := ⟨Try.f9, ⟨rfl, rfl, rfl⟩, by kernel_rfl⟩
theorem ok10 : ∃ fn, FnOk Try.prog 10 fn ∧ cFn Try.prog fn = some v10 := ⟨Try.f10, ⟨rfl, rfl, rfl⟩, by kernel_rfl⟩
theorem ok11 : ∃ fn, FnOk Try.prog 11 fn ∧ cFn Try.prog fn = some v11 := ⟨Try.f11, ⟨rfl, rfl, rfl⟩, by kernel_rfl⟩
theorem ok12 : ∃ fn, FnOk Try.prog 12 fn ∧ cFn Try.prog fn = some v12 := ⟨Try.f12, ⟨rfl, rfl, rfl⟩, by kernel_rfl⟩
theorem ok13 : ∃ fn, FnOk Try.prog 13 fn ∧ cFn Try.prog fn = some v13 := ⟨Try.f13, ⟨rfl, rfl, rfl⟩, by kernel_rfl⟩
theorem ok14 : ∃ fn, FnOk Try.prog 14 fn ∧ cFn Try.prog fn = some v14 := ⟨Try.f14, ⟨rfl, rfl, rfl⟩, by kernel_rfl⟩
theorem ok15 : ∃ fn, FnOk Try.prog 15 fn ∧ cFn Try.prog fn = some v15 := ⟨Try.f15, ⟨rfl, rfl, rfl⟩, by kernel_rfl⟩
theorem ok16 : ∃ fn, FnOk Try.prog 16 fn ∧ cFn Try.prog fn = some v16 := ⟨Try.f16, ⟨rfl, rfl, rfl⟩, by kernel_rfl⟩
theorem ok17 : ∃ fn, FnOk Try.prog 17 fn ∧ cFn Try.prog fn = some v17 := ⟨Try.f17, ⟨rfl, rfl, rfl⟩, by kernel_rfl⟩
theorem ok18 : ∃ fn, FnOk Try.prog 18 fn ∧ cFn Try.prog fn = some v18 := ⟨Try.f18, ⟨rfl, rfl, rfl⟩, by kernel_rfl⟩
theorem ok19 : ∃ fn, FnOk Try.prog 19 fn ∧ cFn Try.prog fn = some v19 := ⟨Try.f19, ⟨rfl, rfl, rfl⟩, by kernel_rfl⟩
theorem ok20 : ∃ fn, FnOk Try.prog 20 fn ∧ cFn Try.prog fn = some v20 := ⟨Try.f20, ⟨rfl, rfl, rfl⟩, by kernel_rfl⟩
theorem ok21 : ∃ fn, FnOk Try.prog 21 fn ∧ cFn Try.prog fn = some v21 := ⟨Try.f21, ⟨rfl, rfl, rfl⟩, by kernel_rfl⟩
theorem ok22 : ∃ fn, FnOk Try.prog 22 fn ∧ cFn Try.prog fn = some v22 := ⟨Try.f22, ⟨rfl, rfl, rfl⟩, by kernel_rfl⟩
theorem ok23 : ∃ fn, FnOk Try.prog 23 fn ∧ cFn Try.prog fn = some v23 := ⟨Try.f23, ⟨rfl, rfl, rfl⟩, by kernel_rfl⟩
theorem ok24 : ∃ fn, FnOk Try.prog 24 fn ∧ cFn Try.prog fn = some v24 := ⟨Try.f24, ⟨rfl, rfl, rfl⟩, by kernel_rfl⟩
theorem ok25 : ∃ fn, FnOk Try.prog 25 fn ∧ cFn Try.prog fn = some v25 := ⟨Try.f25, ⟨rfl, rfl, rfl⟩, by kernel_rfl⟩
theorem ok26 : ∃ fn, FnOk Try.prog 26 fn ∧ cFn Try.prog fn = some v26 := ⟨Try.f26, ⟨rfl, rfl, rfl⟩, by kernel_rfl⟩
theorem ok27 : ∃ fn, FnOk Try.prog 27 fn ∧ cFn Try.prog fn = some v27 := ⟨Try.f27, ⟨rfl, rfl, rfl⟩, by kernel_rfl⟩
theorem ok28 : ∃ fn, FnOk Try.prog 28 fn ∧ cFn Try.prog fn = some v28 := ⟨Try.f28, ⟨rfl, rfl, rfl⟩, by kernel_rfl⟩
theorem ok29 : ∃ fn, FnOk Try.prog 29 fn ∧ cFn Try.prog fn = some v29 := ⟨Try.f29, ⟨rfl, rfl, rfl⟩, by kernel_rfl⟩
theorem ok30 : ∃ fn, FnOk Try.prog 30 fn ∧ cFn Try.prog fn = some v30 := ⟨Try.f30, ⟨rfl, rfl, rfl⟩, by kernel_rfl⟩
theorem ok31 : ∃ fn, FnOk Try.prog 31 fn ∧ cFn Try.prog fn = some v31 := ⟨Try.f31, ⟨rfl, rfl, rfl⟩, by kernel_rfl⟩
theorem ok32 : ∃ fn, FnOk Try.prog 32 fn ∧ cFn Try.prog fn = some v32 := ⟨Try.f32, ⟨rfl, rfl, rfl⟩, by kernel_rfl⟩
theorem ok33 : ∃ fn, FnOk Try.prog 33 fn ∧ cFn Try.prog fn = some v33 := ⟨Try.f33, ⟨rfl, rfl, rfl⟩, by kernel_rfl⟩
theorem ok34 : ∃ fn, FnOk Try.prog 34 fn ∧ cFn Try.prog fn = some v34 := ⟨Try.f34, ⟨rfl, rfl, rfl⟩, by kernel_rfl⟩
theorem ok35 : ∃ fn, FnOk Try.prog 35 fn ∧ cFn Try.prog fn = some v35 := ⟨Try.f35, ⟨rfl, rfl, rfl⟩, by kernel_rfl⟩
theorem ok36 : ∃ fn, FnOk Try.prog 36 fn ∧ cFn Try.prog fn = some v36 := ⟨Try.f36, ⟨rfl, rfl, rfl⟩, by kernel_rfl⟩
theorem ok37 : ∃ fn, FnOk Try.prog 37 fn ∧ cFn Try.prog fn = some v37 := ⟨Try.f37, ⟨rfl, rfl, rfl⟩, by kernel_rfl⟩
theorem ok38 : ∃ fn, FnOk Try.prog 38 fn ∧ cFn Try.prog fn = some v38 := ⟨Try.f38, ⟨rfl, rfl, rfl⟩, by kernel_rfl⟩
theorem ok39 : ∃ fn, FnOk Try.prog 39 fn ∧ cFn Try.prog fn = some v39 := ⟨Try.f39, ⟨rfl, rfl, rfl⟩, by kernel_rfl⟩
theorem ok40 : ∃ fn, FnOk Try.prog 40 fn ∧ cFn Try.prog fn = some v40 := ⟨Try.f40, ⟨rfl, rfl, rfl⟩, by kernel_rfl⟩
theorem ok41 : ∃ fn, FnOk Try.prog 41 fn ∧ cFn Try.prog fn = some v41 := ⟨Try.f41, ⟨rfl, rfl, rfl⟩, by kernel_rfl⟩
theorem ok42 : ∃ fn, FnOk Try.prog 42 fn ∧ cFn Try.prog fn = some v42 := ⟨Try.f42, ⟨rfl, rfl, rfl⟩, by kernel_rfl⟩
theorem ok43 : ∃ fn, FnOk Try.prog 43 fn ∧ cFn Try.prog fn = some v43 := ⟨Try.f43, ⟨rfl, rfl, rfl⟩, by kernel_rfl⟩
theorem ok44 : ∃ fn, FnOk Try.prog 44 fn ∧ cFn Try.prog fn = some v44 := ⟨Try.f44, ⟨rfl, rfl, rfl⟩, by kernel_rfl⟩
theorem ok45 : ∃ fn, FnOk Try.prog 45 fn ∧ cFn Try.prog fn = some v45 := ⟨Try.f45, ⟨rfl, rfl, rfl⟩, by kernel_rfl⟩
theorem ok46 : ∃ fn, FnOk Try.prog 46 fn ∧ cFn Try.prog fn = some v46 := ⟨Try.f46, ⟨rfl, rfl, rfl⟩, by kernel_rfl⟩
theorem ok47 : ∃ fn, FnOk Try.prog 47 fn ∧ cFn Try.prog fn = some v47 := ⟨Try.f47, ⟨rfl, rfl, rfl⟩, by kernel_rfl⟩
theorem ok48 : ∃ fn, FnOk Try.prog 48 fn ∧ cFn Try.prog fn = some v48 := ⟨Try.f48, ⟨rfl, rfl, rfl⟩, by kernel_rfl⟩
theorem ok49 : ∃ fn, FnOk Try.prog 49 fn ∧ cFn Try.prog fn = some v49 := ⟨Try.f49, ⟨rfl, rfl, rfl⟩, by kernel_rfl⟩
theorem ok50 : ∃ fn, FnOk Try.prog 50 fn ∧ cFn Try.prog fn = some v50 := ⟨Try.f50, ⟨rfl, rfl, rfl⟩, by kernel_rfl⟩
theorem ok51 : ∃ fn, FnOk Try.prog 51 fn ∧ cFn Try.prog fn = some v51 := ⟨Try.f51, ⟨rfl, rfl, rfl⟩, by kernel_rfl⟩
theorem ok52 : ∃ fn, FnOk Try.prog 52 fn ∧ cFn Try.prog fn = some v52 := ⟨Try.f52, ⟨rfl, rfl, rfl⟩, by kernel_rfl⟩
theorem ok53 : ∃ fn, FnOk Try.prog 53 fn ∧ cFn Try.prog fn = some v53 := ⟨Try.f53, ⟨rfl, rfl, rfl⟩, by kernel_rfl⟩
theorem ok54 : ∃ fn, FnOk Try.prog 54 fn ∧ cFn Try.prog fn = some v54 := ⟨Try.f54, ⟨rfl, rfl, rfl⟩, by kernel_rfl⟩
theorem ok55 : ∃ fn, FnOk Try.prog 55 fn ∧ cFn Try.prog fn = some v55 := ⟨Try.f55, ⟨rfl, rfl, rfl⟩, by kernel_rfl⟩
theorem ok56 : ∃ fn, FnOk Try.prog 56 fn ∧ cFn Try.prog fn = some v56 := ⟨Try.f56, ⟨rfl, rfl, rfl⟩, by kernel_rfl⟩
theorem ok57 : ∃ fn, FnOk Try.prog 57 fn ∧ cFn Try.prog fn = some v57 := ⟨Try.f57, ⟨rfl, rfl, rfl⟩, by kernel_rfl⟩
theorem ok58 : ∃ fn, FnOk Try.prog 58 fn ∧ cFn Try.prog fn = some v58 := ⟨Try.f58, ⟨rfl, rfl, rfl⟩, by kernel_rfl⟩

theorem fns_ok : ∀ (f : FuncId) (vn : VFn), fns f = some vn → ∃ fn, FnOk Try.prog f fn ∧ cFn Try.prog fn = some vn := by
  intro f vn h
  unfold fns at h
  split at h
  · cases h; exact ok3
  · cases h; exact ok4
  · cases h; exact ok5
  · cases h; exact ok6
  · cases h; exact ok7
  · cases h; exact ok8
  · cases h; exact ok9
  · cases h; exact ok10
  · cases h; exact ok11
  · cases h; exact ok12
  · cases h; exact ok13
  · cases h; exact ok14
  · cases h; exact ok15
  · cases h; exact ok16
  · cases h; exact ok17
  · cases h; exact ok18
  · cases h; exact ok19
  · cases h; exact ok20
  · cases h; exact ok21
  · cases h; exact ok22
  · cases h; exact ok23
  · cases h; exact ok24
  · cases h; exact ok25
  · cases h; exact ok26
  · cases h; exact ok27
  · cases h; exact ok28
  · cases h; exact ok29
  · cases h; exact ok30
  · cases h; exact ok31
  · cases h; exact ok32
  · cases h; exact ok33
  · cases h; exact ok34
  · cases h; exact ok35
  · cases h; exact ok36
  · cases h; exact ok37
  · cases h; exact ok38
  · cases h; exact ok39
  · cases h; exact ok40
  · cases h; exact ok41
  · cases h; exact ok42
  · cases h; exact ok43
  · cases h; exact ok44
  · cases h; exact ok45
  · cases h; exact ok46
  · cases h; exact ok47
  · cases h; exact ok48
  · cases h; exact ok49
  · cases h; exact ok50
  · cases h; exact ok51
  · cases h; exact ok52
  · cases h; exact ok53
  · cases h; exact ok54
  · cases h; exact ok55
  · cases h; exact ok56
  · cases h; exact ok57
  · cases h; exact ok58
  · cases h

end Go.V
end

section
set_option linter.unusedVariables false
set_option linter.unusedSimpArgs false
set_option linter.unusedSectionVars false
set_option maxRecDepth 100000
namespace Go.V
open Go.Proofs

theorem envC : EnvOk Try.prog E35c := ⟨fun _ _ _ _ _ h => (by cases h), fns_ok, fun _ _ h => (by cases h)⟩
theorem extC : PrimsExt E35c := fun _ _ h => (by cases h)

theorem isTrue_elim {x : Option (Val × Heap)} (h : isTrue x = true) : ∃ h1, x = some (.bool true, h1) := by
  unfold isTrue at h
  split at h
  · rename_i h1; exact ⟨h1, rfl⟩
  · cases h

theorem lives_is : ∃ h1, run E35c 400 8 [] heap0 = some (.bool true, h1) := isTrue_elim lives_run

theorem ext35 : PrimsExt E35 := by
  intro f p h args h0 v h' e
  simp only [E35] at h
  split at h
  · cases h; exact whole_ext e
  · cases h

theorem env35 : EnvOk Try.prog E35 := by
  refine ⟨fun _ _ _ _ _ h => (by cases h), fns_ok, ?_⟩
  intro f p h
  simp only [E35] at h
  split at h
  · rename_i hf
    cases h
    subst hf
    obtain ⟨h1, e⟩ := lives_is
    exact whole_sound envC extC e
  · cases h

end Go.V
end

section
set_option linter.unusedVariables false
set_option linter.unusedSimpArgs false
set_option linter.unusedSectionVars false
set_option maxRecDepth 100000
namespace Go.V
open Go.Proofs

theorem ents_of : ∀ (n : Nat) (l : List Value), Ints (List.replicate n [.i64, .i64, .i64]).flatten l → ∃ es : List Ent, es.length = n ∧ ∀ ρ, VRels ρ (es.flatMap Ent.cells) l
  | 0, [], _ => ⟨[], rfl, fun _ => .nil⟩
  | 0, _ :: _, h => h.elim
  | n + 1, l, h => by
    rw [List.replicate_succ, List.flatten_cons] at h
    match l, h with
    | _ :: _ :: _ :: l, ⟨⟨a, h1, _⟩, ⟨b, h2, _⟩, ⟨c, h3, _⟩, h4⟩ =>
      obtain ⟨es, e1, e2⟩ := ents_of n l h4
      refine ⟨⟨a, b, c⟩ :: es, by simp [e1], fun ρ => ?_⟩
      rw [List.flatMap_cons]
      subst h1 h2 h3
      exact .cons (by simp only [VRel]) (.cons (by simp only [VRel]) (.cons (by simp only [VRel]) (e2 ρ)))
    | [], h => exact h.elim
    | [_], h => exact h.2.elim
    | [_, _], h => exact h.2.2.elim

theorem nums_of : ∀ (n : Nat) (l : List Value), Ints (List.replicate n [.i64]).flatten l → ∃ es : List Int, es.length = n ∧ ∀ ρ, VRels ρ (es.flatMap icell) l
  | 0, [], _ => ⟨[], rfl, fun _ => .nil⟩
  | 0, _ :: _, h => h.elim
  | n + 1, l, h => by
    rw [List.replicate_succ, List.flatten_cons] at h
    match l, h with
    | _ :: l, ⟨⟨a, h1, _⟩, h4⟩ =>
      obtain ⟨es, e1, e2⟩ := nums_of n l h4
      refine ⟨a :: es, by simp [e1], fun ρ => ?_⟩
      rw [List.flatMap_cons]
      subst h1
      exact .cons (by simp only [VRel]) (e2 ρ)
    | [], h => exact h.elim

end Go.V
namespace Go.Proofs.Ytkmaaddlimgdoaa.order
open Go.ChangeShapes Go.WideShapes Go.ChangeAt Go.RowKit Go.V

theorem own : ownKnob Try.prog.godebug = none := by kernel_rfl
theorem flatE : flatT Try.prog 4 40 = some [.i64, .i64, .i64] := by kernel_rfl
theorem flatI : flatT Try.prog 4 3 = some [.i64] := by kernel_rfl
theorem flatZ : flatT Try.prog 4 25 = some [.i64, .i64] := by kernel_rfl
theorem size40 : Try.prog.cellsOf 40 = 3 := by kernel_rfl
theorem size22 : Try.prog.cellsOf 22 = 1 := by kernel_rfl
theorem size3 : Try.prog.cellsOf 3 = 1 := by kernel_rfl

theorem contract (H : Type) (enc : TypeId × Value → H) (W : World) (base : Nat) (args : Array Value) (ds gs : List (DataW H)) (before : List MemPlace)
    (hval : ∀ (j : Nat) t v, Try.f3.params[j]? = some t → args[j]? = some v → Value.okWide Try.prog W .any base t v)
    (hW : DataW.Whole enc Try.prog Try.f3.params.toList Rows.queuesOrderSpec.vars false W args.toList ds gs before) :
    Calls Try.prog 3 args W fun e W' => ∃ v, e = .returned v ∧ Rows.queuesOrderSpec.post enc Try.prog Try.f3 false true false false W args v W' := by
  have hW' := hW
  obtain ⟨p, q, hA0, hV, rfl, hfz, hnd⟩ := hW
  have hA : DataW.TrodAll enc Try.prog W 0 (fun _ => true) true Try.f3.params.toList args.toList ds p := hA0
  rw [Try.params3] at hA hval
  obtain ⟨v0, vs0, d0, ds0, p0, q0, hargs, rfl, rfl, ⟨n0, h0⟩, r0⟩ := trodAll_cons hA
  obtain ⟨v1, vs1, d1, ds1, p1, q1, rfl, rfl, rfl, ⟨n1, h1⟩, r1⟩ := trodAll_cons r0
  obtain ⟨v2, vs2, d2, ds2, p2, q2, rfl, rfl, rfl, ⟨n2, h2⟩, r2⟩ := trodAll_cons r1
  obtain ⟨rfl, rfl, rfl⟩ := trodAll_nil r2
  obtain rfl : args = #[v0, v1, v2] := by cases args; simp_all
  obtain ⟨rfl, rfl⟩ := trodVars_none hV
  obtain ⟨c0, rfl, hc0⟩ := okWide_struct Try.underlying24 (hval 0 24 v0 rfl rfl)
  obtain ⟨c1, rfl, _⟩ : ∃ cs, v1 = .agg cs ∧ cs.size = Try.prog.cellsOf 25 := by
    have := hval 1 25 v1 rfl rfl
    unfold Value.okWide at this
    rw [Try.underlying25] at this
    obtain ⟨cs, a, b, _⟩ := this
    exact ⟨cs, a, b⟩
  have hv2 : v2.cells.toList = [v2] := by
    obtain ⟨a, l, c, q⟩ := okWide_slice Try.underlying26 (hval 2 26 v2 rfl rfl)
    rw [q]; rfl
  obtain ⟨i1, _⟩ := flat_trod 4 25 _ n1 _ _ flatZ h1
  have j1 : Ints [.i64, .i64] c1.toList := by simpa [Value.cells] using i1
  obtain ⟨d, e, hl1, _⟩ := ints2 j1
  obtain ⟨y0, m0, hy, hlen, ht⟩ := trod_struct1 Try.underlying24 h0
  have hs24 : Try.prog.cellsOf 24 = 1 := by kernel_rfl
  rw [hs24] at hc0
  obtain ⟨sv, hsv⟩ : ∃ sv, c0.toList = [sv] := by
    have : c0.toList.length = 1 := by simpa using hc0
    exact List.length_eq_one_iff.1 this
  have ht' : DataW.trod enc Try.prog W 0 (fun _ => true) true m0 22 [sv] = some y0 := by
    have e1 : (Value.agg c0).cells.toList = [sv] := by simpa [Value.cells] using hsv
    rw [e1] at ht
    simp only [List.drop_zero, size22] at ht
    exact ht
  have hps : ∀ x ∈ y0.2, x ∈ p0 := by
    intro x hx
    have : p0 = y0.2 := by have := congrArg Prod.snd hy; simpa using this
    rw [this]; exact hx
  have hsa := slice_arg Try.underlying22 flatE (by rw [size40]; rfl) (by rw [size40]; omega) ht' fun bb off hx => hfz bb off (by simp only [List.append_nil, List.mem_append]; exact .inl (hps _ hx))
  rw [size40] at hsa
  rw [hv2] at h2
  have hsb := slice_arg Try.underlying26 flatI (by rw [size3]; rfl) (by rw [size3]; omega) h2 fun bb off hx => hfz bb off (by simp only [List.append_nil, List.mem_append]; exact .inr (.inr hx))
  rw [size3] at hsb
  obtain ⟨ρ1, h1', s, es, A1, _, _, hv, hes⟩ := (ArgS.nil W).slice (cellsD := Ent.cells) (fun _ => rfl) ents_of hsa
  obtain ⟨ρ, hp0, a, al, A2, hle, hk, hva, hal⟩ := A1.slice (cellsD := icell) (fun _ => rfl) nums_of hsb
  obtain ⟨n, v, h', er, _, rfl⟩ := lawOrd_ok A2.wf (z0 := d) (z1 := e) (Keep.es hk hes) hal
  have hvr : VRels ρ [.agg [s], .agg [.int .i64 d, .int .i64 e], a] #[Value.agg c0, Value.agg c1, v2].toList := by
    refine .cons ?_ (.cons ?_ (.cons hva .nil))
    · simp only [VRel]; exact ⟨c0, rfl, by rw [hsv]; exact .cons (VRel.mono hle _ _ hv) .nil⟩
    · simp only [VRel]; exact ⟨c1, rfl, by rw [hl1]; exact .cons (by simp only [VRel]) (.cons (by simp only [VRel]) .nil)⟩
  refine (law_args env35 ext35 A2.hr A2.low hvr er).mono ?_
  rintro en W' ⟨he, hs, ho, hp⟩
  exact ⟨_, he, post_law (by kernel_rfl) hW' rfl (by rfl) Try.underlying4 rfl hs ho hp⟩

theorem lifted (os : Os) (started : os.Started) (H : Type) (enc : TypeId × Value → H) :
    ReturnsInHanded {} Try.checked os 3 .any (Rows.queuesOrderSpec.pre6 enc Try.prog Try.f3 Rows.queuesOrderRow.domain false) (Rows.queuesOrderSpec.post enc Try.prog Try.f3 false true false false) := by
  refine returnsInHanded_of_change (C := Try.checked) own started ?_ Try.func3 ?_ ?_
  · kernel_rfl
  · refine ChangeSpec.witness6 (enc := enc) (C := Try.checked) false ⟨#[], #[.agg #[.slice none 0 0], .agg #[.int .i64 0, .int .i64 0], .slice none 0 0], []⟩ 8 ?_ ?_ ?_ ?_
    · kernel_rfl
    · kernel_rfl
    · kernel_rfl
    · kernel_rfl
  intro W base args ds gs before hval hW _ _
  exact contract H enc W base args ds gs before hval hW

theorem order_holds : Rows.QueuesOrderSaid :=
  OpenClaim.holds_of_wide 3 Try.f3 rfl rfl rfl rfl rfl rfl rfl ⟨rfl, rfl, rfl, rfl, rfl⟩ rfl rfl rfl rfl rfl (by kernel_rfl) Try.func3 (by kernel_rfl)
    (of_decide_eq_true (by kernel_rfl)) (by unfold Func.isWrapper; first | (rw [if_pos (by decide +kernel)]; kernel_rfl) | (rw [if_neg (by decide +kernel)]; exact ⟨rfl, rfl⟩))
    (fun os started H enc _ => lifted os started H enc)
end Go.Proofs.Ytkmaaddlimgdoaa.order
end
