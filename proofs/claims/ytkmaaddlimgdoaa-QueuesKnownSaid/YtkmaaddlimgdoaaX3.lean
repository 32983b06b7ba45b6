/-
  Parts of the proof:
  The functions of layer 35: the sort's moves: rotate.
  The functions of layer 35: the comparison by effective classes.
  The functions of layer 35: the sort by insertion.
  The functions of layer 35: the sort by merging: one entry on the left.
  The functions of layer 35: the sort by merging: one entry on the right.
  The functions of layer 35: the sort by merging.
  The functions of layer 35: the stable sort.
  The functions of layer 35: Grow, Concat, own at numbers.
  The functions of layer 35: Has, Contains, SameInts; the definition's Effective.
  The functions of layer 35: the definition's Order.
  The functions of layer 35: Order. Plain laws of the order.
  The functions of layer 35: Order.
  The functions of layer 35: Lower.
  Plain laws of layer 35: what QueuesRipe says of the order.
-/
import Derived.Test.YtkmaaddlimgdoaaX2

section
set_option linter.unusedVariables false
set_option linter.unusedSimpArgs false
set_option linter.unusedSectionVars false
-- DRAWS
-- NEW
set_option maxHeartbeats 1000000
namespace Go.V
attribute [local irreducible] stepK opK opV

def RotI (h0 : Heap) (b n cap ls m : Nat) (fv : Val) (G : List Ent) (k : Nat) (fr : List Val) (h' : Heap) : Prop :=
  ∃ (P X Y S : List Ent) (i j : Nat), Hid (P ++ (Y ++ (X ++ S)) = G ∧ P.length + X.length = m ∧ X.length = i ∧ Y.length = j ∧ 0 < i ∧ 0 < j ∧ i + j = k ∧ (P ++ (X ++ (Y ++ S))).length = n) ∧ SB h0 h' b (P ++ (X ++ (Y ++ S))) ∧
    fr.length = 58 ∧ fr.getD 0 .undef = .slice b 0 n cap ls ∧ fr.getD 2 .undef = .int .i64 (m : Nat) ∧ fr.getD 4 .undef = fv ∧ fr.getD 10 .undef = .int .i64 (i : Nat) ∧ fr.getD 11 .undef = .int .i64 (j : Nat)

theorem split_at_len {α : Type} (l : List α) {i : Nat} (h : i ≤ l.length) : ∃ a b, l = a ++ b ∧ a.length = i := ⟨l.take i, l.drop i, (List.take_append_drop i l).symm, by rw [List.length_take]; omega⟩

theorem rotate_ok {h0 h : Heap} (w0 : Wf h0) {b n cap ls : Nat} {P X Y S : List Ent} {fv : Val} (hn : n = (P ++ (X ++ (Y ++ S))).length) (hn2 : n ≤ 100000) (hx : 0 < X.length) (hy : 0 < Y.length) (s : SB h0 h b (P ++ (X ++ (Y ++ S)))) {xa xm xb : Nat} (ea : xa = P.length) (em : xm = P.length + X.length) (eb : xb = P.length + X.length + Y.length) :
    WC E35 57 [.slice b 0 n cap ls, .int .i64 (xa : Nat), .int .i64 (xm : Nat), .int .i64 (xb : Nat), fv] h fun _ h' => SB h0 h' b (P ++ (Y ++ (X ++ S))) := by
  refine WC.fn1 (n := 58) rfl rfl (by rfl) ?_
  intro fr hl ha
  have f0 : fr.getD 0 .undef = .slice b 0 n cap ls := ha 0
  have f1 : fr.getD 1 .undef = .int .i64 (xa : Nat) := ha 1
  have f2 : fr.getD 2 .undef = .int .i64 (xm : Nat) := ha 2
  have f3 : fr.getD 3 .undef = .int .i64 (xb : Nat) := ha 3
  have f4 : fr.getD 4 .undef = fv := ha 4
  clear ha
  have e1 : IntKind.i64.wrap ((xm : Int) - (xa : Int)) = ((xm - xa : Nat) : Int) := wrap_sub (by omega) (by simp at hn; omega)
  have e2 : IntKind.i64.wrap ((xb : Int) - (xm : Int)) = ((xb - xm : Nat) : Int) := wrap_sub (by omega) (by simp at hn; omega)
  have H := Hid.mk (And.intro hn (And.intro ea (And.intro em eb)))
  clear hn ea em eb
  unfold v57
  repeat' (first | refine WE.seqR ?_ | refine WO.nil ?_ | (refine WO.op1s ?_; simp only [opK, wanted, stepK, step, setDst, pureV, arith, intBin, true_and, V.ev, Nat.reduceEqDiff, Nat.reduceLT, getD_ne, getD_eq, List.length_set, if_true, *]; with_reducible show WO _ _ _ _ _) | refine WE.seqBlock ?_)
  generalize hG : P ++ (Y ++ (X ++ S)) = G
  replace hG := Hid.mk hG
  refine WE.loop (RotI h0 b n cap ls xm fv G) ?_ (X.length + Y.length) _ _ ⟨P, X, Y, S, xm - xa, xb - xm, ⟨hG.out, by have := H.out; omega, by have := H.out; omega, by have := H.out; omega, by have := H.out; omega, by have := H.out; omega, by have := H.out; omega, H.out.1.symm⟩, s, by simp only [List.length_set, hl], by (simp only [getD_ne, reduceCtorEq, *]; try rfl), by (simp only [Nat.reduceEqDiff, getD_ne, *]; try rfl), by (simp only [Nat.reduceEqDiff, getD_ne, *]; try rfl), by (simp only [Nat.reduceEqDiff, Nat.reduceLT, getD_ne, getD_eq, List.length_set, *]; try rfl), by (simp only [Nat.reduceLT, getD_eq, List.length_set, *]; try rfl)⟩
  clear f0 f1 f2 f3 f4 hl s e1 e2 H hx hy
  clear hG P X Y S
  rintro k fr h ⟨P, X, Y, S, i, j, H, s, hl, f0, f2, f4, f10, f11⟩
  have H' := H.out
  have hlen := H'.2.2.2.2.2.2.2
  simp only [List.length_append] at hlen
  have e1 : IntKind.i64.wrap ((xm : Int) - (i : Int)) = ((xm - i : Nat) : Int) := wrap_sub (by omega) (by omega)
  replace hlen := Hid.mk hlen
  replace H' := Hid.mk H'
  rcases Nat.lt_trichotomy i j with hij | hij | hij
  · have hd : ((i : Int) == (j : Int)) = false := by simp; omega
    have hd2 : decide ((i : Int) > (j : Int)) = false := by simp; omega
    have e3 : IntKind.i64.wrap ((xm : Int) + (j : Int)) = ((xm + j : Nat) : Int) := wrap_add (by have := hlen.out; have := H'.out; omega)
    have e4 : IntKind.i64.wrap (((xm + j : Nat) : Int) - (i : Int)) = ((xm + j - i : Nat) : Int) := wrap_sub (by omega) (by have := hlen.out; have := H'.out; omega)
    have e5 : IntKind.i64.wrap ((j : Int) - (i : Int)) = ((j - i : Nat) : Int) := wrap_sub (by omega) (by have := hlen.out; have := H'.out; omega)
    obtain ⟨Y0, Y1, hY, hY0⟩ := split_at_len Y (i := j - i) (by have := H'.out; omega)
    replace hY := Hid.mk hY
    replace hY0 := Hid.mk hY0
    repeat' (first | refine WE.assoc ?_ | refine WE.seqR ?_ | refine WO.nil ?_ | (refine WO.op1s ?_; simp only [opK, wanted, stepK, step, setDst, pureV, arith, intBin, evs, eqVal, eqAt, eqv, Val.isAgg, Val.cells, true_and, and_self, Bool.and_true, List.getElem?_cons_zero, V.ev, Nat.reduceEqDiff, Nat.reduceLT, getD_ne, getD_eq, List.length_set, if_true, reduceCtorEq, Bool.not_false, *]; with_reducible show WO _ _ _ _ _) | refine WE.seqSkip ?_ | (refine WE.seqCond (t := true) ?hc (fun _ => ?_) (fun hh => Bool.noConfusion hh); case hc => simp only [V.ev, Nat.reduceLT, getD_eq, List.length_set, *]) | (refine WE.cond2 (t := false) ?hc (fun hh => Bool.noConfusion hh) (fun _ => ?_); case hc => simp only [V.ev, Nat.reduceLT, getD_eq, List.length_set, *]) | refine WE.block ?_)
    refine WO.call rfl ?_
    (simp only [evs, V.ev, Nat.reduceEqDiff, Nat.reduceLT, getD_ne, getD_eq, List.length_set, *])
    have hYl : Y.length = Y0.length + Y1.length := by rw [hY.out]; simp
    refine (swapRange_ok w0 (P := P) (X := X) (M := Y0) (Y := Y1) (S := S) (by have := H'.out; rw [← this.2.2.2.2.2.2.2, hY.out]; simp) hn2 (by have := H'.out; have := hY0.out; omega) (s.cast (by rw [hY.out]; simp)) (by have := H'.out; omega) (by have := H'.out; have := hY0.out; omega) (by have := H'.out; omega)).mono ?_
    rintro v h1 s1
    clear hYl
    simp only [setDst]
    repeat' (first | refine WO.nil ?_ | (refine WO.op1s ?_; simp only [opK, wanted, stepK, step, setDst, pureV, arith, intBin, true_and, V.ev, Nat.reduceEqDiff, Nat.reduceLT, getD_ne, getD_eq, List.length_set, if_true, *]; with_reducible show WO _ _ _ _ _) | refine WE.region ?_ | (with_reducible show blockQ _ _ _ _ _; simp only [blockQ]))
    refine ⟨k - i, by have := H'.out; omega, P, Y1, Y0, X ++ S, i, j - i, ⟨?_, ?_, ?_, hY0.out, ?_, ?_, ?_, ?_⟩, s1, by simp only [List.length_set, hl], by (simp only [getD_ne, reduceCtorEq, *]; try rfl), by (simp only [Nat.reduceEqDiff, getD_ne, *]; try rfl), by (simp only [Nat.reduceEqDiff, getD_ne, *]; try rfl), by (simp only [Nat.reduceEqDiff, getD_ne, *]; try rfl), by (simp only [Nat.reduceLT, getD_eq, List.length_set, *]; try rfl)⟩
    all_goals have hk := H'.out
    all_goals have hYl : Y.length = Y0.length + Y1.length := by rw [hY.out]; simp
    all_goals have hy0 := hY0.out
    · rw [← hk.1, hY.out]; simp
    · omega
    · omega
    · omega
    · omega
    · omega
    · rw [← hk.2.2.2.2.2.2.2, hY.out]; simp only [List.length_append]; omega
  · subst hij
    have hd : ((i : Int) == (i : Int)) = true := by simp
    repeat' (first | refine WE.assoc ?_ | refine WE.seqR ?_ | refine WO.nil ?_ | (refine WO.op1s ?_; simp only [opK, wanted, stepK, step, setDst, pureV, arith, intBin, evs, eqVal, eqAt, eqv, Val.isAgg, Val.cells, true_and, and_self, Bool.and_true, List.getElem?_cons_zero, V.ev, Nat.reduceEqDiff, Nat.reduceLT, beq_self_eq_true, getD_ne, getD_eq, List.length_set, if_true, reduceCtorEq, Bool.not_true, *]; with_reducible show WO _ _ _ _ _) | refine WE.seqExit ?_ | (refine WE.seqCond (t := false) ?hc (fun hh => Bool.noConfusion hh) (fun _ => ?_); case hc => simp only [V.ev, Nat.reduceLT, getD_eq, List.length_set, *]) | refine WE.region ?_)
    refine WO.call rfl ?_
    (simp only [evs, V.ev, Nat.reduceEqDiff, Nat.reduceLT, getD_ne, getD_eq, List.length_set, *])
    refine (swapRange_ok w0 (P := P) (X := X) (M := []) (Y := Y) (S := S) (by have := H'.out; rw [← this.2.2.2.2.2.2.2]; simp) hn2 (by have := H'.out; omega) s (by have := H'.out; omega) (by have := H'.out; simp; omega) (by have := H'.out; omega)).mono ?_
    rintro v h1 s1
    simp only [setDst]
    repeat' (first | refine WO.nil ?_)
    ((try dsimp only); refine Exists.intro _ ⟨(by (simp only [readResults, *]; try rfl)), ?_⟩)
    exact s1.cast (by rw [← H'.out.1]; rfl)
  · have hd : ((i : Int) == (j : Int)) = false := by simp; omega
    have hd2 : decide ((i : Int) > (j : Int)) = true := by simp; omega
    have e5 : IntKind.i64.wrap ((i : Int) - (j : Int)) = ((i - j : Nat) : Int) := wrap_sub (by omega) (by have := hlen.out; have := H'.out; omega)
    obtain ⟨X0, X1, hX, hX0⟩ := split_at_len X (i := j) (by have := H'.out; omega)
    replace hX := Hid.mk hX
    replace hX0 := Hid.mk hX0
    repeat' (first | refine WE.assoc ?_ | refine WE.seqR ?_ | refine WO.nil ?_ | (refine WO.op1s ?_; simp only [opK, wanted, stepK, step, setDst, pureV, arith, intBin, evs, eqVal, eqAt, eqv, Val.isAgg, Val.cells, true_and, and_self, Bool.and_true, List.getElem?_cons_zero, V.ev, Nat.reduceEqDiff, Nat.reduceLT, getD_ne, getD_eq, List.length_set, if_true, reduceCtorEq, Bool.not_false, *]; with_reducible show WO _ _ _ _ _) | refine WE.seqSkip ?_ | (refine WE.seqCond (t := true) ?hc (fun _ => ?_) (fun hh => Bool.noConfusion hh); case hc => simp only [V.ev, Nat.reduceLT, getD_eq, List.length_set, *]) | (refine WE.cond2 (t := true) ?hc (fun _ => ?_) (fun hh => Bool.noConfusion hh); case hc => simp only [V.ev, Nat.reduceLT, getD_eq, List.length_set, *]) | refine WE.block ?_)
    refine WO.call rfl ?_
    (simp only [evs, V.ev, Nat.reduceEqDiff, Nat.reduceLT, getD_ne, getD_eq, List.length_set, *])
    have hXl : X.length = X0.length + X1.length := by rw [hX.out]; simp
    refine (swapRange_ok w0 (P := P) (X := X0) (M := X1) (Y := Y) (S := S) (by have := H'.out; rw [← this.2.2.2.2.2.2.2, hX.out]; simp) hn2 (by have := H'.out; have := hX0.out; omega) (s.cast (by rw [hX.out]; simp)) (by have := H'.out; omega) (by have := H'.out; omega) (by have := hX0.out; omega)).mono ?_
    rintro v h1 s1
    clear hXl
    simp only [setDst]
    repeat' (first | refine WO.nil ?_ | (refine WO.op1s ?_; simp only [opK, wanted, stepK, step, setDst, pureV, arith, intBin, true_and, V.ev, Nat.reduceEqDiff, Nat.reduceLT, getD_ne, getD_eq, List.length_set, if_true, *]; with_reducible show WO _ _ _ _ _) | refine WE.region ?_ | (with_reducible show blockQ _ _ _ _ _; simp only [blockQ]))
    refine ⟨k - j, by have := H'.out; omega, P ++ Y, X1, X0, S, i - j, j, ⟨?_, ?_, ?_, hX0.out, ?_, ?_, ?_, ?_⟩, s1.cast (by simp), by simp only [List.length_set, hl], by (simp only [getD_ne, reduceCtorEq, *]; try rfl), by (simp only [Nat.reduceEqDiff, getD_ne, *]; try rfl), by (simp only [Nat.reduceEqDiff, getD_ne, *]; try rfl), by (simp only [Nat.reduceLT, getD_eq, List.length_set, *]; try rfl), by (simp only [Nat.reduceEqDiff, getD_ne, *]; try rfl)⟩
    all_goals have hk := H'.out
    all_goals have hXl : X.length = X0.length + X1.length := by rw [hX.out]; simp
    all_goals have hx0 := hX0.out
    · rw [← hk.1, hX.out]; simp
    · simp; omega
    · omega
    · omega
    · omega
    · omega
    · rw [← hk.2.2.2.2.2.2.2, hX.out]; simp only [List.length_append]; omega

end Go.V
end

section
set_option linter.unusedVariables false
set_option linter.unusedSimpArgs false
set_option linter.unusedSectionVars false
-- DRAWS
-- NEW
set_option maxHeartbeats 1000000
namespace Go.V
attribute [local irreducible] stepK opK opV

theorem nan_ok {h : Heap} {n : Int} : WC E35 55 [.int .i64 n] h fun v h' => Grow h h' ∧ v = .bool false := by
  refine WC.fn1 (n := 6) rfl rfl (by rfl) ?_
  intro fr hl ha
  have f0 : fr.getD 0 .undef = .int .i64 n := ha 0
  clear ha
  unfold v55
  repeat' (first | refine WE.seqR ?_ | refine WO.nil ?_ | (refine WO.op1s ?_; simp only [opK, wanted, stepK, step, setDst, eqVal, eqAt, eqv, Val.isAgg, Val.cells, true_and, and_self, Bool.and_true, List.getElem?_cons_zero, V.ev, Nat.reduceEqDiff, Nat.reduceLT, beq_self_eq_true, getD_ne, getD_eq, List.length_set, if_true, reduceCtorEq, Bool.not_true, *]; with_reducible show WO _ _ _ _ _) | refine WE.ret ?_)
  ((try dsimp only); refine Exists.intro _ ⟨(by (simp only [readResults, Nat.reduceLT, getD_eq, List.length_set, *]; try rfl)), ?_⟩)
  exact ⟨.refl _, by simp [resultOf]⟩

def cmpI (a b : Int) : Int := if a < b then -1 else if a > b then 1 else 0

theorem cmp_ok {h : Heap} (w : Wf h) {m n : Int} : WC E35 47 [.int .i64 m, .int .i64 n] h fun v h' => Grow h h' ∧ v = .int .i64 (cmpI m n) := by
  refine WC.fn1 (n := 20) rfl rfl (by rfl) ?_
  intro fr hl ha
  have f0 : fr.getD 0 .undef = .int .i64 m := ha 0
  have f1 : fr.getD 1 .undef = .int .i64 n := ha 1
  clear ha
  have wB := w
  have gg := Grow.refl h
  unfold v47
  repeat' (first | refine WE.assoc ?_ | refine WE.seqR ?_ | refine WO.nil ?_ | (refine WO.op1s ?_; simp only [opK, wanted, stepK, step, setDst, pureV, arith, intBin, evs, true_and, V.ev, Nat.reduceEqDiff, Nat.reduceLT, Int.reduceNeg, getD_ne, getD_eq, List.length_set, if_true, reduceCtorEq, *]; with_reducible show WO _ _ _ _ _) | (refine WO.callG (f := 55) (g := none) wB gg _ rfl (fun h1 w1 k1 => by (simp only [evs, V.ev, Nat.reduceLT, getD_eq, List.length_set, *]); exact  nan_ok) ?_; clear gg; (rintro _ hh gg rfl; simp only [setDst])) | refine WE.seqSkip ?_ | refine WE.seqRet ?_ | (refine WE.seqCond (t := false) ?hc (fun hh => Bool.noConfusion hh) (fun _ => ?_); case hc => simp only [V.ev, Nat.reduceLT, getD_eq, List.length_set, *]) | (refine WE.seqCondE ?_; simp only [V.ev, Nat.reduceLT, getD_eq, List.length_set, *]; refine ⟨_, rfl, fun hcd => ?_, fun hcd => ?_⟩) | refine WE.ret ?_)
  all_goals ((try dsimp only); refine Exists.intro _ ⟨(by (simp only [readResults, Nat.reduceLT, Int.reduceNeg, getD_eq, List.length_set, *]; try rfl)), ?_⟩)
  all_goals refine ⟨gg, ?_⟩
  all_goals simp only [cmpI, resultOf, Val.int.injEq, true_and, decide_eq_true_eq, decide_eq_false_iff_not] at *
  all_goals first | rw [if_pos (by omega)] | (rw [if_neg (by omega), if_pos (by omega)]) | (rw [if_neg (by omega), if_neg (by omega)])

/-- The effective class of an entry. -/
abbrev keyI (ro ag : Int) (x : Ent) : Int := effI ro ag x.cl x.si

theorem compare_ok {h : Heap} (w : Wf h) {ro ag : Int} (hag : ag ≠ 0) {x y : Ent} : WC E35 39 [.agg [.int .i64 ro, .int .i64 ag], .agg x.cells, .agg y.cells] h fun v h' => Grow h h' ∧ v = .int .i64 (cmpI (keyI ro ag x) (keyI ro ag y)) := by
  refine WC.fn1 (n := 14) rfl rfl (by rfl) ?_
  intro fr hl ha
  have f0 : fr.getD 0 .undef = .agg [.int .i64 ro, .int .i64 ag] := ha 0
  have f1 : fr.getD 1 .undef = .agg x.cells := ha 1
  have f2 : fr.getD 2 .undef = .agg y.cells := ha 2
  clear ha
  unfold v39
  refine WE.seqR ?_
  (refine WO.op1 ?_; simp only [opK, wanted, setDst, *])
  refine stepK_box w (c := [.int .i64 ro, .int .i64 ag]) (by simp only [V.ev, *]; rfl) rfl fun b3 h3 g3 hb3 hg3 hn3 => ?_
  (refine WO.op1 ?_; simp only [opK, wanted, setDst, *])
  refine stepK_box (g3.wf w) (c := x.cells) (by simp only [V.ev, Nat.reduceEqDiff, getD_ne, *]; rfl) rfl fun b4 h4 g4 hb4 hg4 hn4 => ?_
  (refine WO.op1 ?_; simp only [opK, wanted, setDst, *])
  refine stepK_box (g4.wf (g3.wf w)) (c := y.cells) (by simp only [V.ev, Nat.reduceEqDiff, getD_ne, *]; rfl) rfl fun b5 h5 g5 hb5 hg5 hn5 => ?_
  have gA := (g3.trans g4).trans g5
  have w5 := gA.wf w
  have k3 := g5.keep _ _ (g4.keep _ _ hg3)
  have k4 := g5.keep _ _ hg4
  have l3 : h5.load b3 0 2 = some [.int .i64 ro, .int .i64 ag] := load_get k3 (by simp)
  have l4 : h5.load b4 0 3 = some x.cells := load_get k4 (by simp [Ent.cells])
  have l5 : h5.load b5 0 3 = some y.cells := load_get hg5 (by simp [Ent.cells])
  clear hn3 hn4 hn5 g3 g4 g5 k3 k4 hb3 hb4 hb5 hg3 hg4 hg5
  repeat' (first | refine WO.nil ?_ | refine WE.seqD ?_ | (refine WO.op1s ?_; simp only [opK, wanted, stepK, step, setDst, true_and, V.ev, *]; with_reducible show WO _ _ _ _ _) | (refine WD.op2s ?_; simp only [opV, VOp.kind, hiddenOf, unveil_veil, veil_next, below_nil, below_cons, or_self, wanted, stepK, step, setDst, evs, List.nil_append, List.cons_append, true_and, List.getD_cons_zero, V.ev, Nat.reduceEqDiff, Nat.reduceLT, Nat.reduceLeDiff, Bool.false_eq_true, getD_ne, getD_eq, List.length_set, if_true, if_false, *]; with_reducible show WD _ _ _ _ _ _))
  refine WD.callG (h0 := h5) w5 (.refl _) _ trivial (fun h' w' k' => by (simp only [evs, V.ev, Nat.reduceEqDiff, Nat.reduceLT, getD_ne, getD_eq, List.length_set, *]); exact effective_ok w' (id := x.id) hag) ?_
  rintro _ h6 g6 n6 rfl
  simp only [setDst, List.nil_append, List.cons_append]
  have ld1 : Late h5 h6 [(h5.next, h5.next), (h5.next, h5.next), (h5.next, h6.next)] := ⟨.inl (Nat.le_refl _), .inl (Nat.le_refl _), .inr ⟨Nat.le_refl _, Nat.le_refl _⟩, trivial⟩
  refine WD.loadV (b := b3) (o := 0) (cs := [.int .i64 ro, .int .i64 ag]) (v := .agg [.int .i64 ro, .int .i64 ag]) (by (simp only [V.ev, Nat.reduceEqDiff, Nat.reduceLT, getD_ne, getD_eq, *]; try rfl)) ((veil_keep w5 g6 ld1).load l3) (.inl ⟨rfl, rfl⟩) ?_
  simp only [setDst, List.nil_append, List.cons_append]
  have ld2 : Late h5 h6 [(h5.next, h5.next), (h5.next, h5.next), (h5.next, h6.next), (h6.next, h6.next)] := ⟨.inl (Nat.le_refl _), .inl (Nat.le_refl _), .inr ⟨Nat.le_refl _, Nat.le_refl _⟩, .inl (Nat.le_refl _), trivial⟩
  refine WD.loadV (b := b5) (o := 0) (cs := y.cells) (v := .agg y.cells) (by (simp only [V.ev, Nat.reduceEqDiff, Nat.reduceLT, getD_ne, getD_eq, List.length_set, *]; try rfl)) ((veil_keep w5 g6 ld2).load l5) (.inl ⟨rfl, rfl⟩) ?_
  simp only [setDst, List.nil_append, List.cons_append]
  refine WD.callG (h0 := h5) w5 g6 _ trivial (fun h' w' k' => by (simp only [evs, V.ev, Nat.reduceEqDiff, Nat.reduceLT, getD_ne, getD_eq, List.length_set, *]); exact effective_ok w' (id := y.id) hag) ?_
  rintro _ h7 g7 n7 rfl
  simp only [setDst, List.nil_append, List.cons_append]
  refine WD.callG (h0 := h5) w5 g7 _ trivial (fun h' w' k' => by (simp only [evs, V.ev, Nat.reduceEqDiff, Nat.reduceLT, getD_ne, getD_eq, List.length_set, *]); exact cmp_ok w') ?_
  rintro _ h8 g8 n8 rfl
  simp only [setDst, List.nil_append, List.cons_append]
  repeat' (first | refine WD.nil2 ?_ | (refine WD.op2s ?_; simp only [opV, VOp.kind, hiddenOf, unveil_veil, veil_next, or_self, wanted, stepK, step, setDst, List.nil_append, List.cons_append, true_and, V.ev, Nat.reduceLT, Nat.reduceLeDiff, getD_eq, List.length_set, if_true, reduceCtorEq, *]; with_reducible show WD _ _ _ _ _ _) | refine WE.ret ?_)
  ((try dsimp only); refine Exists.intro _ ⟨(by (simp only [readResults, Nat.reduceLT, getD_eq, List.length_set, *]; try rfl)), ?_⟩)
  exact ⟨gA.trans g8, rfl⟩

/-- A call of a function value that runs in a known order, in a region that draws the rest. -/
theorem WD.callvF {E : Env} {rs : List (Nat × Nat)} {fr : List Val} {h : Heap} {d : Option Nat} {x : Opd} {f : FuncId} {fi ca : List Val} {args : List Opd} {hd : List Nat} {l : List VOper} {R : List Val → Heap → Prop} (hx : V.ev fr x = .func (.func f) fi ca)
    (w : WC E f (fi ++ evs fr args ++ ca) h fun v h' => WD E l (rs ++ [(h.next, h'.next)]) (setDst fr d v) h' R) : WD E (⟨d, .callv x args, none, true, hd⟩ :: l) rs fr h R := by
  obtain ⟨n, v, h', e, q⟩ := w
  obtain ⟨m, fr2, h2, e2, q2⟩ := q
  refine ⟨max n m, fr2, h2, ?_, q2⟩
  rw [runDraw]
  simp only [wanted]
  rw [if_pos (.inr trivial)]
  simp only [step, hx]
  rw [run_mono (Nat.le_max_left n m) _ _ _ _ e]
  exact runDraw_mono (run_mono (Nat.le_max_right n m)) _ _ _ _ _ e2

/-- The comparison as a function value. -/
abbrev cmpV (ro ag : Int) : Val := .func (.func 39) [.agg [.int .i64 ro, .int .i64 ag]] []

end Go.V
end

section
set_option linter.unusedVariables false
set_option linter.unusedSimpArgs false
set_option linter.unusedSectionVars false
-- DRAWS
-- NEW
set_option maxHeartbeats 1000000
namespace Go.V
attribute [local irreducible] stepK opK opV

/-- The order of the entries: by class, then by ID. -/
def ltE (k : Ent → Int) (x y : Ent) : Prop := k x < k y ∨ (k x = k y ∧ x.id < y.id)

theorem ltE.trans {k : Ent → Int} {x y z : Ent} (a : ltE k x y) (b : ltE k y z) : ltE k x z := by unfold ltE at *; omega

theorem ins_sorted {k : Ent → Int} {x : Ent} {A B : List Ent} (s : (A ++ B).Pairwise (ltE k)) (h1 : ∀ z ∈ A, ltE k z x) (h2 : ∀ z ∈ B, ltE k x z) : (A ++ x :: B).Pairwise (ltE k) := by
  rw [List.pairwise_append] at s ⊢
  refine ⟨s.1, List.pairwise_cons.2 ⟨h2, s.2.1⟩, ?_⟩
  intro a ha b hb
  rcases List.mem_cons.1 hb with rfl | hb
  · exact h1 a ha
  · exact s.2.2 a ha b hb

theorem cmpI_neg {a b : Int} : decide (cmpI a b < 0) = true ↔ a < b := by
  unfold cmpI
  split
  · simp; omega
  · split
    · simp; omega
    · simp; omega

theorem cmpI_neg' {a b : Int} : decide (cmpI a b < 0) = false ↔ b ≤ a := by
  rw [← Bool.not_eq_true, cmpI_neg]
  omega

theorem snoc_of_pos {α : Type} {l : List α} (h : 0 < l.length) : ∃ A z, l = A ++ [z] := ⟨l.dropLast, l.getLast (by intro e; simp [e] at h), (List.dropLast_concat_getLast _).symm⟩

def InsI (h0 : Heap) (b n cap ls a e : Nat) (ro ag : Int) (P S X : List Ent) (k : Nat) (fr : List Val) (h' : Heap) : Prop :=
  ∃ (Z X0 X1 : List Ent) (i : Nat), Hid (X = X0 ++ X1 ∧ Z.Perm X0 ∧ Z.Pairwise (ltE (keyI ro ag)) ∧ X1.length = k ∧ P.length + Z.length = i) ∧ SB h0 h' b (P ++ (Z ++ (X1 ++ S))) ∧
    fr.length = 53 ∧ fr.getD 0 .undef = .slice b 0 n cap ls ∧ fr.getD 1 .undef = .int .i64 (a : Nat) ∧ fr.getD 2 .undef = .int .i64 (e : Nat) ∧ fr.getD 3 .undef = cmpV ro ag ∧ fr.getD 8 .undef = .int .i64 (i : Nat)

def InsJ (h0 : Heap) (b n cap ls a e i : Nat) (ro ag : Int) (P S Z : List Ent) (x : Ent) (k : Nat) (fr : List Val) (h' : Heap) : Prop :=
  ∃ (Z1 Z2 : List Ent) (j : Nat), Hid (Z = Z1 ++ Z2 ∧ (∀ z ∈ Z2, ltE (keyI ro ag) x z) ∧ Z1.length = k ∧ P.length + Z1.length = j) ∧ SB h0 h' b (P ++ (Z1 ++ (x :: (Z2 ++ S)))) ∧
    fr.length = 53 ∧ fr.getD 0 .undef = .slice b 0 n cap ls ∧ fr.getD 1 .undef = .int .i64 (a : Nat) ∧ fr.getD 2 .undef = .int .i64 (e : Nat) ∧ fr.getD 3 .undef = cmpV ro ag ∧ fr.getD 8 .undef = .int .i64 (i : Nat) ∧ fr.getD 9 .undef = .int .i64 (j : Nat)

theorem insertion_ok {h0 h : Heap} (w0 : Wf h0) {ro ag : Int} (hag : ag ≠ 0) {b n cap ls : Nat} {P X S : List Ent} (hn : n = (P ++ (X ++ S)).length) (hn2 : n ≤ 100000) (hid : X.Pairwise fun x y => x.id < y.id) (s : SB h0 h b (P ++ (X ++ S))) {xa xb : Nat} (ea : xa = P.length) (eb : xb = P.length + X.length) :
    WC E35 53 [.slice b 0 n cap ls, .int .i64 (xa : Nat), .int .i64 (xb : Nat), cmpV ro ag] h fun _ h' => ∃ Z : List Ent, Z.Perm X ∧ Z.Pairwise (ltE (keyI ro ag)) ∧ SB h0 h' b (P ++ (Z ++ S)) := by
  refine WC.fn1 (n := 53) rfl rfl (by rfl) ?_
  intro fr hl ha
  have f0 : fr.getD 0 .undef = .slice b 0 n cap ls := ha 0
  have f1 : fr.getD 1 .undef = .int .i64 (xa : Nat) := ha 1
  have f2 : fr.getD 2 .undef = .int .i64 (xb : Nat) := ha 2
  have f3 : fr.getD 3 .undef = cmpV ro ag := ha 3
  clear ha
  have hnn := hn
  simp only [List.length_append] at hnn
  have e1 : IntKind.i64.wrap ((xa : Int) + 1) = ((xa + 1 : Nat) : Int) := wrap_add (b := 1) (by omega)
  have H := Hid.mk (And.intro hn (And.intro ea (And.intro eb (And.intro hid hnn))))
  clear hn ea eb hid hnn
  unfold v53
  repeat' (first | refine WE.seqR ?_ | refine WO.nil ?_ | (refine WO.op1s ?_; simp only [opK, wanted, stepK, step, setDst, pureV, arith, intBin, true_and, V.ev, Nat.reduceLT, getD_eq, List.length_set, if_true, *]; with_reducible show WO _ _ _ _ _) | refine WE.block ?_)
  match X, H with
  | [], H =>
    refine WE.loop (fun _ fr h' => h' = h ∧ fr.length = 53 ∧ fr.getD 2 .undef = .int .i64 (xb : Nat) ∧ fr.getD 8 .undef = .int .i64 ((xa + 1 : Nat) : Int)) ?_ 0 _ _ ⟨rfl, by simp only [List.length_set, hl], by (simp only [Nat.reduceEqDiff, getD_ne, *]; try rfl), by (simp only [Nat.reduceLT, getD_eq, List.length_set, *]; try rfl)⟩
    have H2 := Hid.mk s
    clear f0 f1 f2 f3 hl e1 s
    rintro k fr h' ⟨rfl, hl, f2, f8⟩
    have hd : decide (((xa + 1 : Nat) : Int) < (xb : Int)) = false := by have := H.out; simp at this ⊢; omega
    repeat' (first | refine WE.assoc ?_ | refine WE.seqR ?_ | refine WO.nil ?_ | (refine WO.op1s ?_; simp only [opK, wanted, stepK, step, setDst, pureV, arith, intBin, true_and, V.ev, Nat.reduceEqDiff, Nat.reduceLT, getD_ne, getD_eq, List.length_set, if_true, *]; with_reducible show WO _ _ _ _ _) | refine WE.seqExit ?_ | (refine WE.seqCond (t := false) ?hc (fun hh => Bool.noConfusion hh) (fun _ => ?_); case hc => simp only [V.ev, Nat.reduceLT, getD_eq, List.length_set, *]) | (with_reducible show blockQ _ _ _ _ _; simp only [blockQ, if_true]))
    ((try dsimp only); refine Exists.intro _ ⟨(by (simp only [readResults, *]; try rfl)), ?_⟩)
    exact ⟨[], .refl _, .nil, H2.out⟩
  | x0 :: X, H =>
    refine WE.loop (InsI h0 b n cap ls xa xb ro ag P S (x0 :: X)) ?_ X.length _ _ ⟨[x0], [x0], X, xa + 1, ⟨rfl, .refl _, by simp, rfl, by have := H.out; simp; omega⟩, s.cast (by simp), by simp only [List.length_set, hl], by (simp only [getD_ne, reduceCtorEq, *]; try rfl), by (simp only [Nat.reduceEqDiff, getD_ne, *]; try rfl), by (simp only [Nat.reduceEqDiff, getD_ne, *]; try rfl), by (simp only [Nat.reduceEqDiff, getD_ne, *]; try rfl), by (simp only [Nat.reduceLT, getD_eq, List.length_set, *]; try rfl)⟩
    generalize x0 :: X = X at *
    clear f0 f1 f2 f3 hl e1 s
    rintro k fr h ⟨Z, X0, X1, i, H1, s, hl, f0, f1, f2, f3, f8⟩
    match X1, k, H1 with
    | [], 0, H1 =>
      have hd : decide ((i : Int) < (xb : Int)) = false := by
        have h1 := H1.out; have h2 := H.out
        have := h1.2.1.length_eq
        have := congrArg List.length h1.1
        simp at this ⊢; omega
      have H2 := Hid.mk s
      repeat' (first | refine WE.assoc ?_ | refine WE.seqR ?_ | refine WO.nil ?_ | (refine WO.op1s ?_; simp only [opK, wanted, stepK, step, setDst, pureV, arith, intBin, true_and, V.ev, Nat.reduceEqDiff, Nat.reduceLT, getD_ne, getD_eq, List.length_set, if_true, *]; with_reducible show WO _ _ _ _ _) | refine WE.seqExit ?_ | (refine WE.seqCond (t := false) ?hc (fun hh => Bool.noConfusion hh) (fun _ => ?_); case hc => simp only [V.ev, Nat.reduceLT, getD_eq, List.length_set, *]) | (with_reducible show blockQ _ _ _ _ _; simp only [blockQ, if_true]))
      ((try dsimp only); refine Exists.intro _ ⟨(by (simp only [readResults, *]; try rfl)), ?_⟩)
      exact ⟨Z, by have := H1.out; rw [this.1]; simpa using this.2.1, H1.out.2.2.1, s.cast (by simp)⟩
    | x :: X1, k + 1, H1 =>
      have hib : i < xb ∧ i < n := by
        have h1 := H1.out; have h2 := H.out
        have := h1.2.1.length_eq
        have := congrArg List.length h1.1
        simp at this; omega
      have hd : decide ((i : Int) < (xb : Int)) = true := by simp; omega
      replace hib := Hid.mk hib
      repeat' (first | refine WE.assoc ?_ | refine WE.seqR ?_ | refine WO.nil ?_ | (refine WO.op1s ?_; simp only [opK, wanted, stepK, step, setDst, pureV, arith, intBin, true_and, V.ev, Nat.reduceEqDiff, Nat.reduceLT, getD_ne, getD_eq, List.length_set, if_true, *]; with_reducible show WO _ _ _ _ _) | refine WE.seqSkip ?_ | (refine WE.seqCond (t := true) ?hc (fun _ => ?_) (fun hh => Bool.noConfusion hh); case hc => simp only [V.ev, Nat.reduceLT, getD_eq, List.length_set, *]) | refine WE.seqBlock ?_ | refine WE.block ?_)
      have hid2 : ∀ z ∈ Z, z.id < x.id := by
        intro z hz
        have h1 := H1.out; have h2 := H.out
        have hp := h2.2.2.2.1
        rw [h1.1, List.pairwise_append] at hp
        exact hp.2.2 z (h1.2.1.mem_iff.1 hz) x (by simp)
      refine WE.loop (InsJ h0 b n cap ls xa xb i ro ag P (X1 ++ S) Z x) ?_ Z.length _ _ ⟨Z, [], i, ⟨by simp, by simp, rfl, H1.out.2.2.2.2⟩, s.cast (by simp), by simp only [List.length_set, hl], by (simp only [getD_ne, reduceCtorEq, *]; try rfl), by (simp only [Nat.reduceEqDiff, getD_ne, *]; try rfl), by (simp only [Nat.reduceEqDiff, getD_ne, *]; try rfl), by (simp only [Nat.reduceEqDiff, getD_ne, *]; try rfl), by (simp only [Nat.reduceEqDiff, getD_ne, *]; try rfl), by (simp only [Nat.reduceLT, getD_eq, List.length_set, *]; try rfl)⟩
      clear f0 f1 f2 f3 f8 hl s hd
      rintro k2 fr h ⟨Z1, Z2, j, H3, s, hl, f0, f1, f2, f3, f8, f9⟩
      have hni : IntKind.i64.wrap ((i : Int) + 1) = ((i + 1 : Nat) : Int) := wrap_add (b := 1) (by have := hib.out; omega)
      have hjn : j < n := by
        have h1 := H1.out; have h2 := H.out; have h3 := H3.out
        have q1 := congrArg List.length h3.1
        have q2 := hib.out
        rw [List.length_append] at q1
        omega
      replace hjn := Hid.mk hjn
      -- the end of a round
      have done : ∀ fr h, (∀ z ∈ Z1, ltE (keyI ro ag) z x) → SB h0 h b (P ++ (Z1 ++ (x :: (Z2 ++ (X1 ++ S))))) → fr.length = 53 → fr.getD 0 .undef = .slice b 0 n cap ls → fr.getD 1 .undef = .int .i64 (xa : Nat) → fr.getD 2 .undef = .int .i64 (xb : Nat) → fr.getD 3 .undef = cmpV ro ag → fr.getD 8 .undef = .int .i64 ((i + 1 : Nat) : Int) →
          ∃ k', k' < k + 1 ∧ InsI h0 b n cap ls xa xb ro ag P S X k' fr h := by
        intro fr h hz s q1 q2 q3 q4 q5 q6
        have h1 := H1.out; have h3 := H3.out
        refine ⟨k, by omega, Z1 ++ x :: Z2, X0 ++ [x], X1, i + 1, ⟨?_, ?_, ?_, ?_, ?_⟩, s.cast (by simp), q1, q2, q3, q4, q5, q6⟩
        · rw [h1.1]; simp
        · refine (List.perm_middle).trans ?_
          refine .trans (.cons x ?_) (List.perm_append_comm (l₁ := [x]) (l₂ := X0))
          rw [← h3.1]; exact h1.2.1
        · refine ins_sorted ?_ hz h3.2.1
          rw [← h3.1]; exact h1.2.2.1
        · have := h1.2.2.2.1
          simpa using this
        · have := h1.2.2.2.2
          rw [h3.1] at this
          simp at this ⊢; omega
      by_cases hz1 : 0 < Z1.length
      · obtain ⟨A, z, rfl⟩ := snoc_of_pos hz1
        have hja : xa < j := by have h2 := H.out; have h3 := H3.out; omega
        have hd2 : decide ((j : Int) > (xa : Int)) = true := by simp; omega
        have ej : IntKind.i64.wrap ((j : Int) - 1) = ((j - 1 : Nat) : Int) := wrap_sub (b := 1) (by omega) (by have := hjn.out; omega)
        have t1 : eltI 3 (.slice b 0 n cap ls) (.int .i64 (j : Int)) = some (.ptr b (j * 3)) := sb_elt hjn.out
        have t2 : eltI 3 (.slice b 0 n cap ls) (.int .i64 ((j - 1 : Nat) : Int)) = some (.ptr b ((j - 1) * 3)) := sb_elt (by have := hjn.out; omega)
        have q1 : P ++ ((A ++ [z]) ++ (x :: (Z2 ++ (X1 ++ S)))) = (P ++ (A ++ [z])) ++ x :: (Z2 ++ (X1 ++ S)) := by simp
        have q2 : P ++ ((A ++ [z]) ++ (x :: (Z2 ++ (X1 ++ S)))) = (P ++ A) ++ z :: (x :: (Z2 ++ (X1 ++ S))) := by simp
        have j1 : j = (P ++ (A ++ [z])).length := by have h3 := H3.out; rw [← h3.2.2.2]; simp
        have j2 : j - 1 = (P ++ A).length := by have h3 := H3.out; rw [← h3.2.2.2]; simp <;> omega
        have l1 := s.load q1 j1
        have l2 := s.load q2 j2
        replace q1 := Hid.mk q1
        replace q2 := Hid.mk q2
        replace j1 := Hid.mk j1
        replace j2 := Hid.mk j2
        replace hid2 := Hid.mk hid2
        replace done := Hid.mk done
        replace hz1 := Hid.mk hz1
        clear hja
        by_cases hc : keyI ro ag x < keyI ro ag z
        · have hc2 := cmpI_neg.2 hc
          replace hc := Hid.mk hc
          repeat' (first | refine WE.assoc ?_ | refine WE.seqD ?_ | (refine WD.iaddrE ?_; simp only [setDst, List.nil_append, List.cons_append, V.ev, Nat.reduceEqDiff, Nat.reduceLT, getD_ne, getD_eq, List.length_set, *]; refine ⟨_, rfl, ?_⟩) | (refine WD.op2s ?_; simp only [opV, VOp.kind, hiddenOf, unveil_veil, veil_next, below_nil, below_cons, or_true, or_false, or_self, wanted, stepK, step, setDst, pureV, arith, intBin, evs, List.nil_append, List.cons_append, true_and, List.getD_cons_zero, List.getD_cons_succ, V.ev, Nat.reduceEqDiff, Nat.reduceLT, Nat.reduceLeDiff, Nat.zero_add, Bool.false_eq_true, beq_self_eq_true, getD_ne, getD_eq, List.length_set, if_true, if_false, reduceCtorEq, *]; with_reducible show WD _ _ _ _ _ _) | (refine WD.known ?hc ?_; case hc => (simp only [wanted, Bool.true_beq, Nat.reduceEqDiff, Nat.reduceLT, getD_ne, getD_eq, List.length_set, *])))
          refine WD.callvF (by (simp only [V.ev, Nat.reduceEqDiff, Nat.reduceLT, getD_ne, getD_eq, List.length_set, *]; try rfl)) ?_
          (simp only [evs, List.nil_append, List.append_nil, List.cons_append, V.ev, Nat.reduceEqDiff, Nat.reduceLT, getD_ne, getD_eq, List.length_set, *])
          refine (compare_ok (s.g.wf w0) hag).mono ?_
          rintro _ h1 ⟨g1, rfl⟩
          simp only [setDst]
          have s1 := s.grow g1
          clear l1 l2
          have l1 := s1.load q1.out j1.out
          have l2 := s1.load q2.out j2.out
          repeat' (first | refine WE.draw ?_ | refine WD.nil2 ?_ | (refine WD.iaddrE ?_; simp only [setDst, List.nil_append, List.cons_append, V.ev, Nat.reduceEqDiff, Nat.reduceLT, getD_ne, getD_eq, List.length_set, *]; refine ⟨_, rfl, ?_⟩) | (refine WD.op2s ?_; simp only [opV, VOp.kind, hiddenOf, unveil_veil, veil_next, below_nil, below_cons, or_true, or_false, or_self, wanted, stepK, step, setDst, pureV, arith, intBin, Val.cells, List.nil_append, List.cons_append, true_and, List.getD_cons_zero, List.getD_cons_succ, V.ev, Nat.reduceEqDiff, Nat.reduceLT, Nat.reduceLeDiff, Bool.false_eq_true, beq_self_eq_true, getD_ne, getD_eq, List.length_set, if_true, if_false, reduceCtorEq, *]; with_reducible show WD _ _ _ _ _ _) | refine WE.seqSkip ?_ | (refine WE.seqCond (t := true) ?hc (fun _ => ?_) (fun hh => Bool.noConfusion hh); case hc => simp only [V.ev, Nat.reduceLT, getD_eq, List.length_set, *]) | refine WE.seqBlock ?_)
          (refine WD.op2 ?_; simp only [opV, VOp.kind, hiddenOf, wanted, setDst, or_true, List.nil_append, List.cons_append, Nat.reduceEqDiff, Nat.reduceLeDiff, if_true, *])
          refine SB.store w0 s1 q1.out (y := z) j1.out (by (simp only [V.ev, Nat.reduceLT, getD_eq, List.length_set, *]; try rfl)) (by (simp only [V.ev, Nat.reduceEqDiff, Nat.reduceLT, getD_ne, getD_eq, List.length_set, *]; try rfl)) fun h2 s2 n2 => ?_
          clear l1 l2 n2
          repeat' (first | (refine WD.iaddrE ?_; simp only [setDst, List.nil_append, List.cons_append, V.ev, Nat.reduceEqDiff, Nat.reduceLT, getD_ne, getD_eq, List.length_set, *]; refine ⟨_, rfl, ?_⟩))
          (refine WD.op2 ?_; simp only [opV, VOp.kind, hiddenOf, wanted, setDst, or_true, List.nil_append, List.cons_append, Nat.reduceEqDiff, Nat.reduceLeDiff, if_true, *])
          refine SB.store w0 s2 (x := z) (A := P ++ A) (R := z :: (Z2 ++ (X1 ++ S))) (by simp) (y := x) j2.out (by (simp only [V.ev, Nat.reduceLT, getD_eq, List.length_set, *]; try rfl)) (by (simp only [V.ev, Nat.reduceEqDiff, Nat.reduceLT, getD_ne, getD_eq, List.length_set, *]; try rfl)) fun h3 s3 n3 => ?_
          clear n3
          repeat' (first | refine WO.nil ?_ | refine WD.nil2 ?_ | (refine WO.op1s ?_; simp only [opK, wanted, stepK, step, setDst, pureV, arith, intBin, true_and, V.ev, Nat.reduceEqDiff, Nat.reduceLT, getD_ne, getD_eq, List.length_set, if_true, *]; with_reducible show WO _ _ _ _ _) | refine WE.region ?_)
          refine ⟨k2 - 1, by have h3 := H3.out; have := hz1.out; omega, A, z :: Z2, j - 1, ⟨?_, ?_, ?_, ?_⟩, s3.cast (by simp), by simp only [List.length_set, hl], by (simp only [getD_ne, reduceCtorEq, *]; try rfl), by (simp only [Nat.reduceEqDiff, getD_ne, *]; try rfl), by (simp only [Nat.reduceEqDiff, getD_ne, *]; try rfl), by (simp only [Nat.reduceEqDiff, getD_ne, *]; try rfl), by (simp only [Nat.reduceEqDiff, getD_ne, *]; try rfl), by (simp only [Nat.reduceLT, getD_eq, List.length_set, *]; try rfl)⟩
          all_goals have h3 := H3.out
          · rw [h3.1]; simp
          · intro y hy
            rcases List.mem_cons.1 hy with rfl | hy
            · exact .inl hc.out
            · exact h3.2.1 y hy
          · have := h3.2.2.1; simp at this; omega
          · have := h3.2.2.2; simp at this; omega
        · have hc2 := cmpI_neg'.2 (Int.not_lt.1 hc)
          replace hc := Hid.mk hc
          repeat' (first | refine WE.assoc ?_ | refine WE.seqD ?_ | (refine WD.iaddrE ?_; simp only [setDst, List.nil_append, List.cons_append, V.ev, Nat.reduceEqDiff, Nat.reduceLT, getD_ne, getD_eq, List.length_set, *]; refine ⟨_, rfl, ?_⟩) | (refine WD.op2s ?_; simp only [opV, VOp.kind, hiddenOf, unveil_veil, veil_next, below_nil, below_cons, or_true, or_false, or_self, wanted, stepK, step, setDst, pureV, arith, intBin, evs, List.nil_append, List.cons_append, true_and, List.getD_cons_zero, List.getD_cons_succ, V.ev, Nat.reduceEqDiff, Nat.reduceLT, Nat.reduceLeDiff, Nat.zero_add, Bool.false_eq_true, beq_self_eq_true, getD_ne, getD_eq, List.length_set, if_true, if_false, reduceCtorEq, *]; with_reducible show WD _ _ _ _ _ _) | (refine WD.known ?hc ?_; case hc => (simp only [wanted, Bool.true_beq, Nat.reduceEqDiff, Nat.reduceLT, getD_ne, getD_eq, List.length_set, *])))
          refine WD.callvF (by (simp only [V.ev, Nat.reduceEqDiff, Nat.reduceLT, getD_ne, getD_eq, List.length_set, *]; try rfl)) ?_
          (simp only [evs, List.nil_append, List.append_nil, List.cons_append, V.ev, Nat.reduceEqDiff, Nat.reduceLT, getD_ne, getD_eq, List.length_set, *])
          refine (compare_ok (s.g.wf w0) hag).mono ?_
          rintro _ h1 ⟨g1, rfl⟩
          simp only [setDst]
          have s1 := s.grow g1
          clear l1 l2
          repeat' (first | refine WO.nil ?_ | refine WD.nil2 ?_ | (refine WO.op1s ?_; simp only [opK, wanted, stepK, step, setDst, pureV, arith, intBin, true_and, V.ev, Nat.reduceEqDiff, Nat.reduceLT, getD_ne, getD_eq, List.length_set, if_true, *]; with_reducible show WO _ _ _ _ _) | (refine WD.op2s ?_; simp only [opV, VOp.kind, hiddenOf, unveil_veil, veil_next, or_self, wanted, stepK, step, setDst, pureV, arith, intBin, List.nil_append, List.cons_append, true_and, V.ev, Nat.reduceEqDiff, Nat.reduceLT, Nat.reduceLeDiff, beq_self_eq_true, getD_ne, getD_eq, List.length_set, if_true, reduceCtorEq, *]; with_reducible show WD _ _ _ _ _ _) | refine WE.seqExit ?_ | (refine WE.seqCond (t := false) ?hc (fun hh => Bool.noConfusion hh) (fun _ => ?_); case hc => simp only [V.ev, Nat.reduceLT, getD_eq, List.length_set, *]) | refine WE.region ?_)
          refine done.out _ _ ?_ s1 (by simp only [List.length_set, hl]) (by (simp only [getD_ne, reduceCtorEq, *]; try rfl)) (by (simp only [Nat.reduceEqDiff, getD_ne, *]; try rfl)) (by (simp only [Nat.reduceEqDiff, getD_ne, *]; try rfl)) (by (simp only [Nat.reduceEqDiff, getD_ne, *]; try rfl)) (by (simp only [Nat.reduceLT, getD_eq, List.length_set, *]; try rfl))
          have h1 := H1.out
          have h3 := H3.out
          have hs := h1.2.2.1
          have hzx : ltE (keyI ro ag) z x := by
            have := hid2.out z (by rw [h3.1]; simp)
            have := hc.out
            unfold ltE; omega
          rw [h3.1, List.pairwise_append] at hs
          have hs := hs.1
          rw [List.pairwise_append] at hs
          intro y hy
          rcases List.mem_append.1 hy with hy | hy
          · exact (hs.2.2 y hy z (by simp)).trans hzx
          · rw [List.mem_singleton] at hy; subst hy; exact hzx
      · obtain rfl : Z1 = [] := List.eq_nil_of_length_eq_zero (by omega)
        have hd2 : decide ((j : Int) > (xa : Int)) = false := by have h2 := H.out; have h3 := H3.out; simp at h3 ⊢; omega
        replace hid2 := Hid.mk hid2
        replace done := Hid.mk done
        repeat' (first | refine WE.assoc ?_ | refine WO.nil ?_ | refine WE.seqD ?_ | refine WD.nil2 ?_ | (refine WO.op1s ?_; simp only [opK, wanted, stepK, step, setDst, pureV, arith, intBin, true_and, V.ev, Nat.reduceEqDiff, Nat.reduceLT, getD_ne, getD_eq, List.length_set, if_true, *]; with_reducible show WO _ _ _ _ _) | (refine WD.op2s ?_; simp only [opV, VOp.kind, hiddenOf, unveil_veil, veil_next, or_self, wanted, stepK, step, setDst, pureV, arith, intBin, List.nil_append, List.cons_append, true_and, V.ev, Nat.reduceEqDiff, Nat.reduceLT, Nat.reduceLeDiff, getD_ne, getD_eq, List.length_set, if_true, reduceCtorEq, Bool.false_beq, Bool.not_true, *]; with_reducible show WD _ _ _ _ _ _) | refine WE.seqExit ?_ | (refine WE.seqCond (t := false) ?hc (fun hh => Bool.noConfusion hh) (fun _ => ?_); case hc => simp only [V.ev, Nat.reduceLT, getD_eq, List.length_set, *]) | refine WE.region ?_)
        exact done.out _ _ (by simp) s (by simp only [List.length_set, hl]) (by (simp only [getD_ne, reduceCtorEq, *]; try rfl)) (by (simp only [Nat.reduceEqDiff, getD_ne, *]; try rfl)) (by (simp only [Nat.reduceEqDiff, getD_ne, *]; try rfl)) (by (simp only [Nat.reduceEqDiff, getD_ne, *]; try rfl)) (by (simp only [Nat.reduceLT, getD_eq, List.length_set, *]; try rfl))

end Go.V
end

section
set_option linter.unusedVariables false
set_option linter.unusedSimpArgs false
set_option linter.unusedSectionVars false
-- DRAWS
-- NEW
set_option maxHeartbeats 1000000
namespace Go.V
attribute [local irreducible] stepK opK opV

def SyaI (h0 : Heap) (b n cap ls a m e : Nat) (ro ag : Int) (L Y : List Ent) (x : Ent) (k : Nat) (fr : List Val) (h' : Heap) : Prop :=
  ∃ (Y1 Y2 Y3 : List Ent) (i j : Nat), Hid (Y = Y1 ++ (Y2 ++ Y3) ∧ (∀ y ∈ Y1, ltE (keyI ro ag) y x) ∧ (∀ y ∈ Y3, ltE (keyI ro ag) x y) ∧ Y2.length = k ∧ m + Y1.length = i ∧ i + Y2.length = j) ∧ SB h0 h' b L ∧
    fr.length = 220 ∧ fr.getD 0 .undef = .slice b 0 n cap ls ∧ fr.getD 1 .undef = .int .i64 (a : Nat) ∧ fr.getD 4 .undef = cmpV ro ag ∧ fr.getD 10 .undef = .int .i64 (i : Nat) ∧ fr.getD 11 .undef = .int .i64 (j : Nat)

def SyaJ (h0 : Heap) (b n cap ls a i : Nat) (P Y1 R : List Ent) (x : Ent) (k : Nat) (fr : List Val) (h' : Heap) : Prop :=
  ∃ (C1 C2 : List Ent) (j : Nat), Hid (Y1 = C1 ++ C2 ∧ C2.length = k ∧ a + C1.length = j) ∧ SB h0 h' b (P ++ (C1 ++ (x :: (C2 ++ R)))) ∧
    fr.length = 220 ∧ fr.getD 0 .undef = .slice b 0 n cap ls ∧ fr.getD 10 .undef = .int .i64 (i : Nat) ∧ fr.getD 13 .undef = .int .i64 (j : Nat)

theorem wrap_u64 {n : Nat} (h : n < 9223372036854775808) : IntKind.u64.wrap (n : Int) = (n : Int) := by
  unfold IntKind.wrap
  simp (decide := true) [IntKind.signed, IntKind.bits]
  omega

theorem half_eq {n : Nat} : Int.fdiv (n : Int) (2 ^ min 1 IntKind.u64.bits) = ((n / 2 : Nat) : Int) := by
  have : min 1 IntKind.u64.bits = 1 := rfl
  rw [this, Int.fdiv_eq_ediv_of_nonneg _ (by omega)]
  omega

theorem mid_of {α : Type} (l : List α) {i : Nat} (h : i < l.length) : ∃ A x B, l = A ++ x :: B ∧ A.length = i := ⟨l.take i, l[i], l.drop (i + 1), by simp, by rw [List.length_take]; omega⟩

theorem sorted_app {k : Ent → Int} {A B : List Ent} {y : Ent} (s : (A ++ y :: B).Pairwise (ltE k)) : (∀ z ∈ A, ltE k z y) ∧ (∀ z ∈ B, ltE k y z) := by
  rw [List.pairwise_append, List.pairwise_cons] at s
  exact ⟨fun z hz => s.2.2 z hz y (by simp), s.2.1.1⟩

theorem symA_ok {h0 h : Heap} (w0 : Wf h0) {ro ag : Int} (hag : ag ≠ 0) {b n cap ls : Nat} {P Y S : List Ent} {x : Ent} (hn : n = (P ++ ([x] ++ (Y ++ S))).length) (hn2 : n ≤ 100000) (hid : ∀ y ∈ Y, x.id < y.id) (hY : Y.Pairwise (ltE (keyI ro ag))) (s : SB h0 h b (P ++ ([x] ++ (Y ++ S)))) {xa xm xb : Nat} (ea : xa = P.length) (em : xm = P.length + 1) (eb : xb = P.length + 1 + Y.length) :
    WC E35 54 [.slice b 0 n cap ls, .int .i64 (xa : Nat), .int .i64 (xm : Nat), .int .i64 (xb : Nat), cmpV ro ag] h fun _ h' => ∃ Z : List Ent, Z.Perm ([x] ++ Y) ∧ Z.Pairwise (ltE (keyI ro ag)) ∧ SB h0 h' b (P ++ (Z ++ S)) := by
  refine WC.fn1 (n := 220) rfl rfl (by rfl) ?_
  intro fr hl ha
  have f0 : fr.getD 0 .undef = .slice b 0 n cap ls := ha 0
  have f1 : fr.getD 1 .undef = .int .i64 (xa : Nat) := ha 1
  have f2 : fr.getD 2 .undef = .int .i64 (xm : Nat) := ha 2
  have f3 : fr.getD 3 .undef = .int .i64 (xb : Nat) := ha 3
  have f4 : fr.getD 4 .undef = cmpV ro ag := ha 4
  clear ha
  have hnn := hn
  simp only [List.length_append, List.length_cons, List.length_nil] at hnn
  have e1 : IntKind.i64.wrap ((xm : Int) - (xa : Int)) = 1 := by rw [wrap_sub (by omega) (by omega), show xm - xa = 1 by omega]; rfl
  have H := Hid.mk (And.intro hn (And.intro ea (And.intro em (And.intro eb (And.intro hid (And.intro hY hnn))))))
  clear hn ea em eb hid hY hnn
  unfold v54
  repeat' (first | refine WE.assoc ?_ | refine WE.seqR ?_ | refine WO.nil ?_ | (refine WO.op1s ?_; simp only [opK, wanted, stepK, step, setDst, pureV, arith, intBin, eqVal, eqAt, eqv, Val.isAgg, Val.cells, List.nil_append, List.cons_append, true_and, and_self, Bool.and_true, List.getElem?_cons_zero, V.ev, Nat.reduceEqDiff, Nat.reduceLT, Bool.false_eq_true, beq_self_eq_true, getD_ne, getD_eq, List.length_set, if_true, if_false, Bool.not_true, *]; with_reducible show WO _ _ _ _ _) | (refine WE.seqCond (t := true) ?hc (fun _ => ?_) (fun hh => Bool.noConfusion hh); case hc => simp only [V.ev, Nat.reduceLT, getD_eq, List.length_set, *]) | refine WE.seqBlock ?_)
  refine WE.loop (SyaI h0 b n cap ls xa xm xb ro ag (P ++ ([x] ++ (Y ++ S))) Y x) ?_ Y.length _ _ ⟨[], Y, [], xm, xb, ⟨by simp, by simp, by simp, rfl, rfl, by have := H.out; omega⟩, s, by simp only [List.length_set, hl], by (simp only [getD_ne, reduceCtorEq, *]; try rfl), by (simp only [Nat.reduceEqDiff, getD_ne, *]; try rfl), by (simp only [Nat.reduceEqDiff, getD_ne, *]; try rfl), by (simp only [Nat.reduceEqDiff, Nat.reduceLT, getD_ne, getD_eq, List.length_set, *]; try rfl), by (simp only [Nat.reduceLT, getD_eq, List.length_set, *]; try rfl)⟩
  clear f0 f1 f2 f3 f4 hl e1 s
  rintro k fr h ⟨Y1, Y2, Y3, i, j, H1, s, hl, f0, f1, f4, f10, f11⟩
  have hlen : i + Y2.length = j ∧ j ≤ n ∧ xm ≤ i := by
    have h := H.out; have h1 := H1.out
    have q1 := congrArg List.length h1.1
    simp only [List.length_append] at q1
    omega
  by_cases h2 : 0 < Y2.length
  · have hd : decide ((i : Int) < (j : Int)) = true := by simp; omega
    have u1 : IntKind.i64.wrap ((i : Int) + (j : Int)) = ((i + j : Nat) : Int) := wrap_add (by omega)
    have u2 : IntKind.u64.wrap ((i + j : Nat) : Int) = ((i + j : Nat) : Int) := wrap_u64 (by omega)
    have u3 : Int.fdiv ((i + j : Nat) : Int) (2 ^ min 1 IntKind.u64.bits) = (((i + j) / 2 : Nat) : Int) := half_eq
    have u4 : IntKind.i64.wrap (((i + j) / 2 : Nat) : Int) = (((i + j) / 2 : Nat) : Int) := wrap_nat (by omega)
    obtain ⟨B1, y, B2, hB, hB1⟩ := mid_of Y2 (i := (i + j) / 2 - i) (by omega)
    have hm : (i + j) / 2 = i + B1.length := by omega
    rw [hm] at u3 u4
    have hmn : i + B1.length < n := by omega
    have u5 : IntKind.i64.wrap (((i + B1.length : Nat) : Int) + 1) = ((i + B1.length + 1 : Nat) : Int) := wrap_add (b := 1) (by omega)
    have t1 : eltI 3 (.slice b 0 n cap ls) (.int .i64 ((i + B1.length : Nat) : Int)) = some (.ptr b ((i + B1.length) * 3)) := sb_elt hmn
    have t2 : eltI 3 (.slice b 0 n cap ls) (.int .i64 (xa : Int)) = some (.ptr b (xa * 3)) := sb_elt (by have := H.out; omega)
    have q1 : P ++ ([x] ++ (Y ++ S)) = (P ++ (x :: (Y1 ++ B1))) ++ y :: (B2 ++ (Y3 ++ S)) := by rw [H1.out.1, hB]; simp
    have l1 := s.load q1 (i := i + B1.length) (by have h := H.out; have h1 := H1.out; simp; omega)
    have l2 := s.load (A := P) (x := x) (R := Y ++ S) (by simp) (i := xa) (by have h := H.out; omega)
    have hyY : y ∈ Y := by rw [H1.out.1, hB]; simp
    have hyid := H.out.2.2.2.2.1 y hyY
    have hs : (Y1 ++ (B1 ++ y :: (B2 ++ Y3))).Pairwise (ltE (keyI ro ag)) := by
      have := H.out.2.2.2.2.2.1
      rw [H1.out.1, hB] at this
      simpa using this
    replace hlen := Hid.mk (And.intro hlen (And.intro hB (And.intro hB1 (And.intro hm (And.intro hmn (And.intro hyid hs))))))
    replace q1 := Hid.mk q1
    clear hB hB1 hm hmn hyid hs hyY
    replace h2 := Hid.mk h2
    by_cases hc : keyI ro ag y < keyI ro ag x
    · have hc2 := cmpI_neg.2 hc
      replace hc := Hid.mk hc
      repeat' (first | refine WE.assoc ?_ | refine WE.seqR ?_ | refine WO.nil ?_ | refine WE.seqD ?_ | (refine WO.op1s ?_; simp only [opK, wanted, stepK, step, setDst, pureV, arith, intBin, List.nil_append, List.cons_append, true_and, V.ev, Nat.reduceEqDiff, Nat.reduceLT, Int.reduceLT, Int.reduceToNat, getD_ne, getD_eq, List.length_set, if_true, if_false, *]; with_reducible show WO _ _ _ _ _) | (refine WD.iaddrE ?_; simp only [setDst, List.nil_append, List.cons_append, V.ev, Nat.reduceEqDiff, Nat.reduceLT, getD_ne, getD_eq, List.length_set, *]; refine ⟨_, rfl, ?_⟩) | (refine WD.op2s ?_; simp only [opV, VOp.kind, hiddenOf, unveil_veil, veil_next, below_nil, below_cons, or_true, or_false, or_self, wanted, stepK, step, setDst, evs, List.nil_append, List.cons_append, true_and, List.getD_cons_zero, List.getD_cons_succ, V.ev, Nat.reduceEqDiff, Nat.reduceLT, Nat.reduceLeDiff, Bool.false_eq_true, getD_ne, getD_eq, List.length_set, if_true, if_false, reduceCtorEq, *]; with_reducible show WD _ _ _ _ _ _) | refine WE.seqSkip ?_ | (refine WE.seqCond (t := true) ?hc (fun _ => ?_) (fun hh => Bool.noConfusion hh); case hc => simp only [V.ev, Nat.reduceLT, getD_eq, List.length_set, *]) | refine WE.block ?_)
      refine WD.callvF (by (simp only [V.ev, Nat.reduceEqDiff, Nat.reduceLT, getD_ne, getD_eq, List.length_set, *]; try rfl)) ?_
      (simp only [evs, List.nil_append, List.append_nil, List.cons_append, V.ev, Nat.reduceEqDiff, Nat.reduceLT, getD_ne, getD_eq, List.length_set, *])
      refine (compare_ok (s.g.wf w0) hag).mono ?_
      rintro _ h1 ⟨g1, rfl⟩
      simp only [setDst]
      have s1 := s.grow g1
      clear l1 l2
      repeat' (first | refine WO.nil ?_ | refine WD.nil2 ?_ | (refine WO.op1s ?_; simp only [opK, wanted, stepK, step, setDst, pureV, arith, intBin, true_and, V.ev, Nat.reduceEqDiff, Nat.reduceLT, getD_ne, getD_eq, List.length_set, if_true, *]; with_reducible show WO _ _ _ _ _) | (refine WD.op2s ?_; simp only [opV, VOp.kind, hiddenOf, unveil_veil, veil_next, or_self, wanted, stepK, step, setDst, pureV, arith, intBin, List.nil_append, List.cons_append, true_and, V.ev, Nat.reduceLT, Nat.reduceLeDiff, getD_eq, List.length_set, if_true, reduceCtorEq, *]; with_reducible show WD _ _ _ _ _ _) | (refine WE.cond2 (t := true) ?hc (fun _ => ?_) (fun hh => Bool.noConfusion hh); case hc => simp only [V.ev, Nat.reduceLT, getD_eq, List.length_set, *]) | refine WE.region ?_ | (with_reducible show blockQ _ _ _ _ _; simp only [blockQ]))
      have c := hlen.out
      have c1 := H1.out
      have hl2 : Y2.length = B1.length + (B2.length + 1) := by rw [c.2.1]; simp
      refine ⟨B2.length, by omega, Y1 ++ (B1 ++ [y]), B2, Y3, i + B1.length + 1, j, ⟨?_, ?_, c1.2.2.1, rfl, ?_, ?_⟩, s1, by simp only [List.length_set, hl], by clear c c1; (simp only [getD_ne, reduceCtorEq, *]; try rfl), by clear c c1; (simp only [Nat.reduceEqDiff, getD_ne, *]; try rfl), by clear c c1; (simp only [Nat.reduceEqDiff, getD_ne, *]; try rfl), by clear c c1; (simp only [Nat.reduceLT, getD_eq, List.length_set, *]; try rfl), by clear c c1; (simp only [Nat.reduceEqDiff, getD_ne, *]; try rfl)⟩
      · rw [c1.1, c.2.1]; simp
      · intro z hz
        have hyx : ltE (keyI ro ag) y x := .inl hc.out
        rcases List.mem_append.1 hz with hz | hz
        · exact c1.2.1 z hz
        · rcases List.mem_append.1 hz with hz | hz
          · have hs := c.2.2.2.2.2.2
            rw [List.pairwise_append] at hs
            exact ((sorted_app hs.2.1).1 z hz).trans hyx
          · rw [List.mem_singleton] at hz; subst hz; exact hyx
      · simp; omega
      · omega
    · have hc2 := cmpI_neg'.2 (Int.not_lt.1 hc)
      replace hc := Hid.mk hc
      repeat' (first | refine WE.assoc ?_ | refine WE.seqR ?_ | refine WO.nil ?_ | refine WE.seqD ?_ | (refine WO.op1s ?_; simp only [opK, wanted, stepK, step, setDst, pureV, arith, intBin, List.nil_append, List.cons_append, true_and, V.ev, Nat.reduceEqDiff, Nat.reduceLT, Int.reduceLT, Int.reduceToNat, getD_ne, getD_eq, List.length_set, if_true, if_false, *]; with_reducible show WO _ _ _ _ _) | (refine WD.iaddrE ?_; simp only [setDst, List.nil_append, List.cons_append, V.ev, Nat.reduceEqDiff, Nat.reduceLT, getD_ne, getD_eq, List.length_set, *]; refine ⟨_, rfl, ?_⟩) | (refine WD.op2s ?_; simp only [opV, VOp.kind, hiddenOf, unveil_veil, veil_next, below_nil, below_cons, or_true, or_false, or_self, wanted, stepK, step, setDst, evs, List.nil_append, List.cons_append, true_and, List.getD_cons_zero, List.getD_cons_succ, V.ev, Nat.reduceEqDiff, Nat.reduceLT, Nat.reduceLeDiff, Bool.false_eq_true, getD_ne, getD_eq, List.length_set, if_true, if_false, reduceCtorEq, *]; with_reducible show WD _ _ _ _ _ _) | refine WE.seqSkip ?_ | (refine WE.seqCond (t := true) ?hc (fun _ => ?_) (fun hh => Bool.noConfusion hh); case hc => simp only [V.ev, Nat.reduceLT, getD_eq, List.length_set, *]) | refine WE.block ?_)
      refine WD.callvF (by (simp only [V.ev, Nat.reduceEqDiff, Nat.reduceLT, getD_ne, getD_eq, List.length_set, *]; try rfl)) ?_
      (simp only [evs, List.nil_append, List.append_nil, List.cons_append, V.ev, Nat.reduceEqDiff, Nat.reduceLT, getD_ne, getD_eq, List.length_set, *])
      refine (compare_ok (s.g.wf w0) hag).mono ?_
      rintro _ h1 ⟨g1, rfl⟩
      simp only [setDst]
      have s1 := s.grow g1
      clear l1 l2
      repeat' (first | refine WO.nil ?_ | refine WD.nil2 ?_ | (refine WO.op1s ?_; simp only [opK, wanted, stepK, step, setDst, true_and, V.ev, Nat.reduceEqDiff, Nat.reduceLT, getD_ne, getD_eq, List.length_set, *]; with_reducible show WO _ _ _ _ _) | (refine WD.op2s ?_; simp only [opV, VOp.kind, hiddenOf, unveil_veil, veil_next, or_self, wanted, stepK, step, setDst, pureV, arith, intBin, List.nil_append, List.cons_append, true_and, V.ev, Nat.reduceLT, Nat.reduceLeDiff, getD_eq, List.length_set, if_true, reduceCtorEq, *]; with_reducible show WD _ _ _ _ _ _) | (refine WE.cond2 (t := false) ?hc (fun hh => Bool.noConfusion hh) (fun _ => ?_); case hc => simp only [V.ev, Nat.reduceLT, getD_eq, List.length_set, *]) | refine WE.region ?_ | (with_reducible show blockQ _ _ _ _ _; simp only [blockQ]))
      have c := hlen.out
      have c1 := H1.out
      have hl2 : Y2.length = B1.length + (B2.length + 1) := by rw [c.2.1]; simp
      refine ⟨B1.length, by omega, Y1, B1, y :: (B2 ++ Y3), i, i + B1.length, ⟨?_, c1.2.1, ?_, rfl, ?_, rfl⟩, s1, by simp only [List.length_set, hl], by clear c c1; (simp only [getD_ne, reduceCtorEq, *]; try rfl), by clear c c1; (simp only [Nat.reduceEqDiff, getD_ne, *]; try rfl), by clear c c1; (simp only [Nat.reduceEqDiff, getD_ne, *]; try rfl), by clear c c1; (simp only [Nat.reduceEqDiff, getD_ne, *]; try rfl), by clear c c1; (simp only [Nat.reduceLT, getD_eq, List.length_set, *]; try rfl)⟩
      · rw [c1.1, c.2.1]; simp
      · intro z hz
        have hxy : ltE (keyI ro ag) x y := by have := hc.out; have := c.2.2.2.2.2.1; unfold ltE; omega
        rcases List.mem_cons.1 hz with rfl | hz
        · exact hxy
        · have hs := c.2.2.2.2.2.2
          rw [List.pairwise_append] at hs
          exact hxy.trans ((sorted_app hs.2.1).2 z hz)
      · omega
  · obtain rfl : Y2 = [] := List.eq_nil_of_length_eq_zero (by omega)
    have hd : decide ((i : Int) < (j : Int)) = false := by simp at hlen ⊢; omega
    replace hlen := Hid.mk hlen
    replace h2 := Hid.mk h2
    have hZ : ∀ h, SB h0 h b (P ++ (Y1 ++ (x :: (Y3 ++ S)))) → ∃ Z : List Ent, Z.Perm ([x] ++ Y) ∧ Z.Pairwise (ltE (keyI ro ag)) ∧ SB h0 h b (P ++ (Z ++ S)) := by
      intro h s
      have c := H.out
      have c1 := H1.out
      have e : Y = Y1 ++ Y3 := by rw [c1.1]; simp
      refine ⟨Y1 ++ x :: Y3, ?_, ins_sorted (by rw [← e]; exact c.2.2.2.2.2.1) c1.2.1 c1.2.2.1, s.cast (by simp)⟩
      rw [e]; exact List.perm_middle
    replace hZ := Hid.mk hZ
    repeat' (first | refine WE.assoc ?_ | refine WE.seqR ?_ | refine WO.nil ?_ | (refine WO.op1s ?_; simp only [opK, wanted, stepK, step, setDst, pureV, arith, intBin, List.nil_append, List.cons_append, true_and, V.ev, Nat.reduceEqDiff, Nat.reduceLT, getD_ne, getD_eq, List.length_set, if_true, *]; with_reducible show WO _ _ _ _ _) | refine WE.seqExit ?_ | (refine WE.seqCond (t := false) ?hc (fun hh => Bool.noConfusion hh) (fun _ => ?_); case hc => simp only [V.ev, Nat.reduceLT, getD_eq, List.length_set, *]) | refine WE.seqBlock ?_)
    refine WE.loop (SyaJ h0 b n cap ls xa i P Y1 (Y3 ++ S) x) ?_ Y1.length _ _ ⟨[], Y1, xa, ⟨rfl, rfl, rfl⟩, s.cast (by rw [H1.out.1]; simp), by simp only [List.length_set, hl], by (simp only [getD_ne, reduceCtorEq, *]; try rfl), by (simp only [Nat.reduceEqDiff, getD_ne, *]; try rfl), by (simp only [Nat.reduceLT, getD_eq, List.length_set, *]; try rfl)⟩
    clear f0 f1 f4 f10 f11 hl s hd
    rintro k2 fr h ⟨C1, C2, c, H3, s, hl, f0, f10, f13⟩
    have e1 : IntKind.i64.wrap ((i : Int) - 1) = ((i - 1 : Nat) : Int) := wrap_sub (b := 1) (by have := H.out; have := H1.out; omega) (by have := H.out; have := hlen.out; omega)
    match C2, k2, H3 with
    | [], 0, H3 =>
      have hd : decide ((c : Int) < ((i - 1 : Nat) : Int)) = false := by
        have h := H.out; have h1 := H1.out; have h3 := H3.out
        have := congrArg List.length h3.1
        simp at this ⊢; omega
      repeat' (first | refine WE.assoc ?_ | refine WE.seqR ?_ | refine WO.nil ?_ | (refine WO.op1s ?_; simp only [opK, wanted, stepK, step, setDst, pureV, arith, intBin, true_and, V.ev, Nat.reduceEqDiff, Nat.reduceLT, getD_ne, getD_eq, List.length_set, if_true, *]; with_reducible show WO _ _ _ _ _) | refine WE.seqRet ?_ | refine WE.seqExit ?_ | (refine WE.seqCond (t := false) ?hc (fun hh => Bool.noConfusion hh) (fun _ => ?_); case hc => simp only [V.ev, Nat.reduceLT, getD_eq, List.length_set, *]))
      ((try dsimp only); refine Exists.intro _ ⟨(by (simp only [readResults, *]; try rfl)), ?_⟩)
      exact hZ.out _ (s.cast (by rw [H3.out.1]; simp))
    | y :: C2, k2 + 1, H3 =>
      have hi : c + 1 < i ∧ i ≤ n := by
        have h := H.out; have h1 := H1.out; have h3 := H3.out; have := hlen.out
        have := congrArg List.length h3.1
        simp at this; omega
      have hd : decide ((c : Int) < ((i - 1 : Nat) : Int)) = true := by simp; omega
      have e2 : IntKind.i64.wrap ((c : Int) + 1) = ((c + 1 : Nat) : Int) := wrap_add (b := 1) (by omega)
      have t1 : eltI 3 (.slice b 0 n cap ls) (.int .i64 (c : Int)) = some (.ptr b (c * 3)) := sb_elt (by omega)
      have t2 : eltI 3 (.slice b 0 n cap ls) (.int .i64 ((c + 1 : Nat) : Int)) = some (.ptr b ((c + 1) * 3)) := sb_elt (by omega)
      have q1 : P ++ (C1 ++ (x :: (y :: C2 ++ (Y3 ++ S)))) = (P ++ C1) ++ x :: (y :: (C2 ++ (Y3 ++ S))) := by simp
      have q2 : P ++ (C1 ++ (x :: (y :: C2 ++ (Y3 ++ S)))) = (P ++ (C1 ++ [x])) ++ y :: (C2 ++ (Y3 ++ S)) := by simp
      have j1 : c = (P ++ C1).length := by have h3 := H3.out; have h := H.out; rw [← h3.2.2]; simp; omega
      have j2 : c + 1 = (P ++ (C1 ++ [x])).length := by have h3 := H3.out; have h := H.out; rw [← h3.2.2]; simp; omega
      have l1 := s.load q1 j1
      have l2 := s.load q2 j2
      replace q1 := Hid.mk q1
      replace q2 := Hid.mk q2
      replace j1 := Hid.mk j1
      replace j2 := Hid.mk j2
      replace hi := Hid.mk hi
      repeat' (first | refine WE.assoc ?_ | refine WE.seqR ?_ | refine WO.nil ?_ | refine WE.draw ?_ | (refine WO.op1s ?_; simp only [opK, wanted, stepK, step, setDst, pureV, arith, intBin, true_and, V.ev, Nat.reduceEqDiff, Nat.reduceLT, getD_ne, getD_eq, List.length_set, if_true, *]; with_reducible show WO _ _ _ _ _) | (refine WD.iaddrE ?_; simp only [setDst, List.nil_append, List.cons_append, V.ev, Nat.reduceEqDiff, Nat.reduceLT, getD_ne, getD_eq, List.length_set, *]; refine ⟨_, rfl, ?_⟩) | (refine WD.op2s ?_; simp only [opV, VOp.kind, hiddenOf, unveil_veil, veil_next, below_nil, below_cons, or_true, or_false, or_self, wanted, stepK, step, setDst, pureV, arith, intBin, Val.cells, List.nil_append, List.cons_append, true_and, List.getD_cons_zero, List.getD_cons_succ, V.ev, Nat.reduceEqDiff, Nat.reduceLT, Nat.reduceLeDiff, Bool.false_eq_true, getD_ne, getD_eq, List.length_set, if_true, if_false, reduceCtorEq, *]; with_reducible show WD _ _ _ _ _ _) | refine WE.seqSkip ?_ | (refine WE.seqCond (t := true) ?hc (fun _ => ?_) (fun hh => Bool.noConfusion hh); case hc => simp only [V.ev, Nat.reduceLT, getD_eq, List.length_set, *]) | refine WE.seqBlock ?_)
      (refine WD.op2 ?_; simp only [opV, VOp.kind, hiddenOf, wanted, setDst, or_true, List.nil_append, List.cons_append, Nat.reduceEqDiff, Nat.reduceLeDiff, if_true, *])
      refine SB.store w0 s q1.out (y := y) j1.out (by (simp only [V.ev, Nat.reduceLT, getD_eq, List.length_set, *]; try rfl)) (by (simp only [V.ev, Nat.reduceEqDiff, Nat.reduceLT, getD_ne, getD_eq, List.length_set, *]; try rfl)) fun h1 s1 n1 => ?_
      clear l1 l2 n1
      repeat' (first | (refine WD.iaddrE ?_; simp only [setDst, List.nil_append, List.cons_append, V.ev, Nat.reduceEqDiff, Nat.reduceLT, getD_ne, getD_eq, List.length_set, *]; refine ⟨_, rfl, ?_⟩))
      (refine WD.op2 ?_; simp only [opV, VOp.kind, hiddenOf, wanted, setDst, or_true, List.nil_append, List.cons_append, Nat.reduceEqDiff, Nat.reduceLeDiff, if_true, *])
      refine SB.store w0 s1 (x := y) (A := P ++ (C1 ++ [y])) (R := C2 ++ (Y3 ++ S)) (by simp) (y := x) (i := c + 1) (by rw [j2.out]; simp) (by (simp only [V.ev, Nat.reduceLT, getD_eq, List.length_set, *]; try rfl)) (by (simp only [V.ev, Nat.reduceEqDiff, Nat.reduceLT, getD_ne, getD_eq, List.length_set, *]; try rfl)) fun h2 s2 n2 => ?_
      clear n2
      repeat' (first | refine WO.nil ?_ | refine WD.nil2 ?_ | (refine WO.op1s ?_; simp only [opK, wanted, stepK, step, setDst, pureV, arith, intBin, true_and, V.ev, Nat.reduceEqDiff, Nat.reduceLT, getD_ne, getD_eq, List.length_set, if_true, *]; with_reducible show WO _ _ _ _ _) | refine WE.region ?_)
      refine ⟨k2, by omega, C1 ++ [y], C2, c + 1, ⟨?_, ?_, ?_⟩, s2.cast (by simp), by simp only [List.length_set, hl], by (simp only [getD_ne, reduceCtorEq, *]; try rfl), by (simp only [Nat.reduceEqDiff, getD_ne, *]; try rfl), by (simp only [Nat.reduceLT, getD_eq, List.length_set, *]; try rfl)⟩
      · rw [H3.out.1]; simp
      · have := H3.out.2.1; simpa using this
      · have := H3.out.2.2; simp; omega

end Go.V
end

section
set_option linter.unusedVariables false
set_option linter.unusedSimpArgs false
set_option linter.unusedSectionVars false
-- DRAWS
-- NEW
set_option maxHeartbeats 1000000
namespace Go.V
attribute [local irreducible] stepK opK opV

def SybI (h0 : Heap) (b n cap ls a m : Nat) (ro ag : Int) (L X : List Ent) (y : Ent) (k : Nat) (fr : List Val) (h' : Heap) : Prop :=
  ∃ (X1 X2 X3 : List Ent) (i j : Nat), Hid (X = X1 ++ (X2 ++ X3) ∧ (∀ z ∈ X1, ltE (keyI ro ag) z y) ∧ (∀ z ∈ X3, ltE (keyI ro ag) y z) ∧ X2.length = k ∧ a + X1.length = i ∧ i + X2.length = j) ∧ SB h0 h' b L ∧
    fr.length = 220 ∧ fr.getD 0 .undef = .slice b 0 n cap ls ∧ fr.getD 2 .undef = .int .i64 (m : Nat) ∧ fr.getD 4 .undef = cmpV ro ag ∧ fr.getD 14 .undef = .int .i64 (i : Nat) ∧ fr.getD 15 .undef = .int .i64 (j : Nat)

def SybJ (h0 : Heap) (b n cap ls i : Nat) (P X3 S : List Ent) (y : Ent) (k : Nat) (fr : List Val) (h' : Heap) : Prop :=
  ∃ (C1 C2 : List Ent) (j : Nat), Hid (X3 = C1 ++ C2 ∧ C1.length = k ∧ i + C1.length = j) ∧ SB h0 h' b (P ++ (C1 ++ (y :: (C2 ++ S)))) ∧
    fr.length = 220 ∧ fr.getD 0 .undef = .slice b 0 n cap ls ∧ fr.getD 14 .undef = .int .i64 (i : Nat) ∧ fr.getD 17 .undef = .int .i64 (j : Nat)

theorem symB_ok {h0 h : Heap} (w0 : Wf h0) {ro ag : Int} (hag : ag ≠ 0) {b n cap ls : Nat} {P X S : List Ent} {y : Ent} (hn : n = (P ++ (X ++ ([y] ++ S))).length) (hn2 : n ≤ 100000) (h1X : X.length ≠ 1) (hid : ∀ x ∈ X, x.id < y.id) (hX : X.Pairwise (ltE (keyI ro ag))) (s : SB h0 h b (P ++ (X ++ ([y] ++ S)))) {xa xm xb : Nat} (ea : xa = P.length) (em : xm = P.length + X.length) (eb : xb = P.length + X.length + 1) :
    WC E35 54 [.slice b 0 n cap ls, .int .i64 (xa : Nat), .int .i64 (xm : Nat), .int .i64 (xb : Nat), cmpV ro ag] h fun _ h' => ∃ Z : List Ent, Z.Perm (X ++ [y]) ∧ Z.Pairwise (ltE (keyI ro ag)) ∧ SB h0 h' b (P ++ (Z ++ S)) := by
  refine WC.fn1 (n := 220) rfl rfl (by rfl) ?_
  intro fr hl ha
  have f0 : fr.getD 0 .undef = .slice b 0 n cap ls := ha 0
  have f1 : fr.getD 1 .undef = .int .i64 (xa : Nat) := ha 1
  have f2 : fr.getD 2 .undef = .int .i64 (xm : Nat) := ha 2
  have f3 : fr.getD 3 .undef = .int .i64 (xb : Nat) := ha 3
  have f4 : fr.getD 4 .undef = cmpV ro ag := ha 4
  clear ha
  have hnn := hn
  simp only [List.length_append, List.length_cons, List.length_nil] at hnn
  have e1 : IntKind.i64.wrap ((xm : Int) - (xa : Int)) = ((xm - xa : Nat) : Int) := wrap_sub (by omega) (by omega)
  have d1 : (((xm - xa : Nat) : Int) == 1) = false := by simp; omega
  have e2 : IntKind.i64.wrap ((xb : Int) - (xm : Int)) = 1 := by rw [wrap_sub (by omega) (by omega), show xb - xm = 1 by omega]; rfl
  have H := Hid.mk (And.intro hn (And.intro ea (And.intro em (And.intro eb (And.intro hid (And.intro hX hnn))))))
  clear hn ea em eb hid hX hnn
  unfold v54
  repeat' (first | refine WE.assoc ?_ | refine WE.seqR ?_ | refine WO.nil ?_ | (refine WO.op1s ?_; simp only [opK, wanted, stepK, step, setDst, pureV, arith, intBin, eqVal, eqAt, eqv, Val.isAgg, Val.cells, true_and, and_self, Bool.and_true, List.getElem?_cons_zero, V.ev, Nat.reduceEqDiff, Nat.reduceLT, Bool.false_eq_true, beq_self_eq_true, getD_ne, getD_eq, List.length_set, if_true, if_false, Bool.not_true, Bool.not_false, *]; with_reducible show WO _ _ _ _ _) | refine WE.seqSkip ?_ | (refine WE.seqCond (t := true) ?hc (fun _ => ?_) (fun hh => Bool.noConfusion hh); case hc => simp only [V.ev, Nat.reduceLT, getD_eq, List.length_set, *]) | (refine WE.seqCond (t := false) ?hc (fun hh => Bool.noConfusion hh) (fun _ => ?_); case hc => simp only [V.ev, Nat.reduceLT, getD_eq, List.length_set, *]) | refine WE.seqBlock ?_)
  refine WE.loop (SybI h0 b n cap ls xa xm ro ag (P ++ (X ++ ([y] ++ S))) X y) ?_ X.length _ _ ⟨[], X, [], xa, xm, ⟨by simp, by simp, by simp, rfl, rfl, by have := H.out; omega⟩, s, by simp only [List.length_set, hl], by (simp only [getD_ne, reduceCtorEq, *]; try rfl), by (simp only [Nat.reduceEqDiff, getD_ne, *]; try rfl), by (simp only [Nat.reduceEqDiff, getD_ne, *]; try rfl), by (simp only [Nat.reduceEqDiff, Nat.reduceLT, getD_ne, getD_eq, List.length_set, *]; try rfl), by (simp only [Nat.reduceLT, getD_eq, List.length_set, *]; try rfl)⟩
  clear f0 f1 f2 f3 f4 hl e1 e2 d1 s
  rintro k fr h ⟨X1, X2, X3, i, j, H1, s, hl, f0, f2, f4, f14, f15⟩
  have hlen : i + X2.length = j ∧ j ≤ xm ∧ xm < n ∧ xa ≤ i := by
    have h := H.out; have h1 := H1.out
    have q1 := congrArg List.length h1.1
    simp only [List.length_append] at q1
    omega
  by_cases h2 : 0 < X2.length
  · have hd : decide ((i : Int) < (j : Int)) = true := by simp; omega
    have u1 : IntKind.i64.wrap ((i : Int) + (j : Int)) = ((i + j : Nat) : Int) := wrap_add (by omega)
    have u2 : IntKind.u64.wrap ((i + j : Nat) : Int) = ((i + j : Nat) : Int) := wrap_u64 (by omega)
    have u3 : Int.fdiv ((i + j : Nat) : Int) (2 ^ min 1 IntKind.u64.bits) = (((i + j) / 2 : Nat) : Int) := half_eq
    have u4 : IntKind.i64.wrap (((i + j) / 2 : Nat) : Int) = (((i + j) / 2 : Nat) : Int) := wrap_nat (by omega)
    obtain ⟨B1, z, B2, hB, hB1⟩ := mid_of X2 (i := (i + j) / 2 - i) (by omega)
    have hm : (i + j) / 2 = i + B1.length := by omega
    rw [hm] at u3 u4
    have hmn : i + B1.length < n := by omega
    have u5 : IntKind.i64.wrap (((i + B1.length : Nat) : Int) + 1) = ((i + B1.length + 1 : Nat) : Int) := wrap_add (b := 1) (by omega)
    have t1 : eltI 3 (.slice b 0 n cap ls) (.int .i64 ((i + B1.length : Nat) : Int)) = some (.ptr b ((i + B1.length) * 3)) := sb_elt hmn
    have t2 : eltI 3 (.slice b 0 n cap ls) (.int .i64 (xm : Int)) = some (.ptr b (xm * 3)) := sb_elt (by omega)
    have q1 : P ++ (X ++ ([y] ++ S)) = (P ++ (X1 ++ B1)) ++ z :: (B2 ++ (X3 ++ ([y] ++ S))) := by rw [H1.out.1, hB]; simp
    have l1 := s.load q1 (i := i + B1.length) (by have h := H.out; have h1 := H1.out; simp; omega)
    have l2 := s.load (A := P ++ X) (x := y) (R := S) (by simp) (i := xm) (by have h := H.out; simp; omega)
    have hzX : z ∈ X := by rw [H1.out.1, hB]; simp
    have hzid := H.out.2.2.2.2.1 z hzX
    have hs : (X1 ++ (B1 ++ z :: (B2 ++ X3))).Pairwise (ltE (keyI ro ag)) := by
      have := H.out.2.2.2.2.2.1
      rw [H1.out.1, hB] at this
      simpa using this
    replace hlen := Hid.mk (And.intro hlen (And.intro hB (And.intro hB1 (And.intro hm (And.intro hmn (And.intro hzid hs))))))
    replace q1 := Hid.mk q1
    clear hB hB1 hm hmn hzid hs hzX
    replace h2 := Hid.mk h2
    replace h1X := Hid.mk h1X
    by_cases hc : keyI ro ag y < keyI ro ag z
    · have hc2 := cmpI_neg.2 hc
      replace hc := Hid.mk hc
      repeat' (first | refine WE.assoc ?_ | refine WE.seqR ?_ | refine WO.nil ?_ | refine WE.seqD ?_ | (refine WO.op1s ?_; simp only [opK, wanted, stepK, step, setDst, pureV, arith, intBin, List.nil_append, List.cons_append, true_and, V.ev, Nat.reduceEqDiff, Nat.reduceLT, Int.reduceLT, Int.reduceToNat, getD_ne, getD_eq, List.length_set, if_true, if_false, *]; with_reducible show WO _ _ _ _ _) | (refine WD.iaddrE ?_; simp only [setDst, List.nil_append, List.cons_append, V.ev, Nat.reduceEqDiff, Nat.reduceLT, getD_ne, getD_eq, List.length_set, *]; refine ⟨_, rfl, ?_⟩) | (refine WD.op2s ?_; simp only [opV, VOp.kind, hiddenOf, unveil_veil, veil_next, below_nil, below_cons, or_true, or_false, or_self, wanted, stepK, step, setDst, evs, List.nil_append, List.cons_append, true_and, List.getD_cons_zero, List.getD_cons_succ, V.ev, Nat.reduceEqDiff, Nat.reduceLT, Nat.reduceLeDiff, Bool.false_eq_true, getD_ne, getD_eq, List.length_set, if_true, if_false, reduceCtorEq, *]; with_reducible show WD _ _ _ _ _ _) | refine WE.seqSkip ?_ | (refine WE.seqCond (t := true) ?hc (fun _ => ?_) (fun hh => Bool.noConfusion hh); case hc => simp only [V.ev, Nat.reduceLT, getD_eq, List.length_set, *]) | refine WE.block ?_)
      refine WD.callvF (by (simp only [V.ev, Nat.reduceEqDiff, Nat.reduceLT, getD_ne, getD_eq, List.length_set, *]; try rfl)) ?_
      (simp only [evs, List.nil_append, List.append_nil, List.cons_append, V.ev, Nat.reduceEqDiff, Nat.reduceLT, getD_ne, getD_eq, List.length_set, *])
      refine (compare_ok (s.g.wf w0) hag).mono ?_
      rintro _ h1 ⟨g1, rfl⟩
      simp only [setDst]
      have s1 := s.grow g1
      clear l1 l2
      repeat' (first | refine WO.nil ?_ | refine WD.nil2 ?_ | (refine WO.op1s ?_; simp only [opK, wanted, stepK, step, setDst, true_and, V.ev, Nat.reduceEqDiff, Nat.reduceLT, getD_ne, getD_eq, List.length_set, *]; with_reducible show WO _ _ _ _ _) | (refine WD.op2s ?_; simp only [opV, VOp.kind, hiddenOf, unveil_veil, veil_next, or_self, wanted, stepK, step, setDst, pureV, arith, intBin, unary, List.nil_append, List.cons_append, true_and, V.ev, Nat.reduceLT, Nat.reduceLeDiff, getD_eq, List.length_set, if_true, reduceCtorEq, Bool.not_true, *]; with_reducible show WD _ _ _ _ _ _) | (refine WE.cond2 (t := false) ?hc (fun hh => Bool.noConfusion hh) (fun _ => ?_); case hc => simp only [V.ev, Nat.reduceLT, getD_eq, List.length_set, *]) | refine WE.region ?_ | (with_reducible show blockQ _ _ _ _ _; simp only [blockQ]))
      have c := hlen.out
      have c1 := H1.out
      have hl2 : X2.length = B1.length + (B2.length + 1) := by rw [c.2.1]; simp
      refine ⟨B1.length, by omega, X1, B1, z :: (B2 ++ X3), i, i + B1.length, ⟨?_, c1.2.1, ?_, rfl, ?_, rfl⟩, s1, by simp only [List.length_set, hl], by clear c c1; (simp only [getD_ne, reduceCtorEq, *]; try rfl), by clear c c1; (simp only [Nat.reduceEqDiff, getD_ne, *]; try rfl), by clear c c1; (simp only [Nat.reduceEqDiff, getD_ne, *]; try rfl), by clear c c1; (simp only [Nat.reduceEqDiff, getD_ne, *]; try rfl), by clear c c1; (simp only [Nat.reduceLT, getD_eq, List.length_set, *]; try rfl)⟩
      · rw [c1.1, c.2.1]; simp
      · intro x hx
        have hyz : ltE (keyI ro ag) y z := .inl hc.out
        rcases List.mem_cons.1 hx with rfl | hx
        · exact hyz
        · have hs := c.2.2.2.2.2.2
          rw [List.pairwise_append] at hs
          exact hyz.trans ((sorted_app hs.2.1).2 x hx)
      · omega
    · have hc2 := cmpI_neg'.2 (Int.not_lt.1 hc)
      replace hc := Hid.mk hc
      repeat' (first | refine WE.assoc ?_ | refine WE.seqR ?_ | refine WO.nil ?_ | refine WE.seqD ?_ | (refine WO.op1s ?_; simp only [opK, wanted, stepK, step, setDst, pureV, arith, intBin, List.nil_append, List.cons_append, true_and, V.ev, Nat.reduceEqDiff, Nat.reduceLT, Int.reduceLT, Int.reduceToNat, getD_ne, getD_eq, List.length_set, if_true, if_false, *]; with_reducible show WO _ _ _ _ _) | (refine WD.iaddrE ?_; simp only [setDst, List.nil_append, List.cons_append, V.ev, Nat.reduceEqDiff, Nat.reduceLT, getD_ne, getD_eq, List.length_set, *]; refine ⟨_, rfl, ?_⟩) | (refine WD.op2s ?_; simp only [opV, VOp.kind, hiddenOf, unveil_veil, veil_next, below_nil, below_cons, or_true, or_false, or_self, wanted, stepK, step, setDst, evs, List.nil_append, List.cons_append, true_and, List.getD_cons_zero, List.getD_cons_succ, V.ev, Nat.reduceEqDiff, Nat.reduceLT, Nat.reduceLeDiff, Bool.false_eq_true, getD_ne, getD_eq, List.length_set, if_true, if_false, reduceCtorEq, *]; with_reducible show WD _ _ _ _ _ _) | refine WE.seqSkip ?_ | (refine WE.seqCond (t := true) ?hc (fun _ => ?_) (fun hh => Bool.noConfusion hh); case hc => simp only [V.ev, Nat.reduceLT, getD_eq, List.length_set, *]) | refine WE.block ?_)
      refine WD.callvF (by (simp only [V.ev, Nat.reduceEqDiff, Nat.reduceLT, getD_ne, getD_eq, List.length_set, *]; try rfl)) ?_
      (simp only [evs, List.nil_append, List.append_nil, List.cons_append, V.ev, Nat.reduceEqDiff, Nat.reduceLT, getD_ne, getD_eq, List.length_set, *])
      refine (compare_ok (s.g.wf w0) hag).mono ?_
      rintro _ h1 ⟨g1, rfl⟩
      simp only [setDst]
      have s1 := s.grow g1
      clear l1 l2
      repeat' (first | refine WO.nil ?_ | refine WD.nil2 ?_ | (refine WO.op1s ?_; simp only [opK, wanted, stepK, step, setDst, pureV, arith, intBin, true_and, V.ev, Nat.reduceEqDiff, Nat.reduceLT, getD_ne, getD_eq, List.length_set, if_true, *]; with_reducible show WO _ _ _ _ _) | (refine WD.op2s ?_; simp only [opV, VOp.kind, hiddenOf, unveil_veil, veil_next, or_self, wanted, stepK, step, setDst, pureV, arith, intBin, unary, List.nil_append, List.cons_append, true_and, V.ev, Nat.reduceLT, Nat.reduceLeDiff, getD_eq, List.length_set, if_true, reduceCtorEq, Bool.not_false, *]; with_reducible show WD _ _ _ _ _ _) | (refine WE.cond2 (t := true) ?hc (fun _ => ?_) (fun hh => Bool.noConfusion hh); case hc => simp only [V.ev, Nat.reduceLT, getD_eq, List.length_set, *]) | refine WE.region ?_ | (with_reducible show blockQ _ _ _ _ _; simp only [blockQ]))
      have c := hlen.out
      have c1 := H1.out
      have hl2 : X2.length = B1.length + (B2.length + 1) := by rw [c.2.1]; simp
      refine ⟨B2.length, by omega, X1 ++ (B1 ++ [z]), B2, X3, i + B1.length + 1, j, ⟨?_, ?_, c1.2.2.1, rfl, ?_, ?_⟩, s1, by simp only [List.length_set, hl], by clear c c1; (simp only [getD_ne, reduceCtorEq, *]; try rfl), by clear c c1; (simp only [Nat.reduceEqDiff, getD_ne, *]; try rfl), by clear c c1; (simp only [Nat.reduceEqDiff, getD_ne, *]; try rfl), by clear c c1; (simp only [Nat.reduceLT, getD_eq, List.length_set, *]; try rfl), by clear c c1; (simp only [Nat.reduceEqDiff, getD_ne, *]; try rfl)⟩
      · rw [c1.1, c.2.1]; simp
      · intro x hx
        have hzy : ltE (keyI ro ag) z y := by have := hc.out; have := c.2.2.2.2.2.1; unfold ltE; omega
        rcases List.mem_append.1 hx with hx | hx
        · exact c1.2.1 x hx
        · rcases List.mem_append.1 hx with hx | hx
          · have hs := c.2.2.2.2.2.2
            rw [List.pairwise_append] at hs
            exact ((sorted_app hs.2.1).1 x hx).trans hzy
          · rw [List.mem_singleton] at hx; subst hx; exact hzy
      · simp; omega
      · omega
  · obtain rfl : X2 = [] := List.eq_nil_of_length_eq_zero (by omega)
    have hd : decide ((i : Int) < (j : Int)) = false := by simp at hlen ⊢; omega
    replace hlen := Hid.mk hlen
    replace h2 := Hid.mk h2
    replace h1X := Hid.mk h1X
    have hZ : ∀ h, SB h0 h b (P ++ (X1 ++ (y :: (X3 ++ S)))) → ∃ Z : List Ent, Z.Perm (X ++ [y]) ∧ Z.Pairwise (ltE (keyI ro ag)) ∧ SB h0 h b (P ++ (Z ++ S)) := by
      intro h s
      have c := H.out
      have c1 := H1.out
      have e : X = X1 ++ X3 := by rw [c1.1]; simp
      refine ⟨X1 ++ y :: X3, ?_, ins_sorted (by rw [← e]; exact c.2.2.2.2.2.1) c1.2.1 c1.2.2.1, s.cast (by simp)⟩
      rw [e]; exact List.perm_middle.trans (List.perm_append_comm (l₁ := [y]))
    replace hZ := Hid.mk hZ
    have hxm : i + X3.length = xm := by
      have h := H.out; have h1 := H1.out
      have q1 := congrArg List.length h1.1
      simp only [List.length_append, List.length_nil] at q1
      omega
    replace hxm := Hid.mk hxm
    repeat' (first | refine WE.assoc ?_ | refine WE.seqR ?_ | refine WO.nil ?_ | (refine WO.op1s ?_; simp only [opK, wanted, stepK, step, setDst, pureV, arith, intBin, List.nil_append, List.cons_append, true_and, V.ev, Nat.reduceEqDiff, Nat.reduceLT, getD_ne, getD_eq, List.length_set, if_true, *]; with_reducible show WO _ _ _ _ _) | refine WE.seqExit ?_ | (refine WE.seqCond (t := false) ?hc (fun hh => Bool.noConfusion hh) (fun _ => ?_); case hc => simp only [V.ev, Nat.reduceLT, getD_eq, List.length_set, *]) | refine WE.seqBlock ?_)
    refine WE.loop (SybJ h0 b n cap ls i (P ++ X1) X3 S y) ?_ X3.length _ _ ⟨X3, [], xm, ⟨by simp, rfl, hxm.out⟩, s.cast (by rw [H1.out.1]; simp), by simp only [List.length_set, hl], by (simp only [getD_ne, reduceCtorEq, *]; try rfl), by (simp only [Nat.reduceEqDiff, getD_ne, *]; try rfl), by (simp only [Nat.reduceLT, getD_eq, List.length_set, *]; try rfl)⟩
    clear f0 f2 f4 f14 f15 hl s hd
    rintro k2 fr h ⟨C1, C2, c, H3, s, hl, f0, f14, f17⟩
    by_cases hz1 : 0 < C1.length
    · obtain ⟨C1, z, rfl⟩ := snoc_of_pos hz1
      have hi : i < c ∧ c < n := by
        have h := H.out; have h1 := H1.out; have h3 := H3.out; have := hlen.out
        have q1 := congrArg List.length h1.1
        have q2 := congrArg List.length h3.1
        simp only [List.length_append, List.length_nil, List.length_cons] at q1 q2 h3
        omega
      have hd : decide ((c : Int) > (i : Int)) = true := by simp; omega
      have e2 : IntKind.i64.wrap ((c : Int) - 1) = ((c - 1 : Nat) : Int) := wrap_sub (b := 1) (by omega) (by omega)
      have t1 : eltI 3 (.slice b 0 n cap ls) (.int .i64 (c : Int)) = some (.ptr b (c * 3)) := sb_elt (by omega)
      have t2 : eltI 3 (.slice b 0 n cap ls) (.int .i64 ((c - 1 : Nat) : Int)) = some (.ptr b ((c - 1) * 3)) := sb_elt (by omega)
      have q1 : (P ++ X1) ++ ((C1 ++ [z]) ++ (y :: (C2 ++ S))) = (P ++ (X1 ++ (C1 ++ [z]))) ++ y :: (C2 ++ S) := by simp
      have q2 : (P ++ X1) ++ ((C1 ++ [z]) ++ (y :: (C2 ++ S))) = (P ++ (X1 ++ C1)) ++ z :: (y :: (C2 ++ S)) := by simp
      have j1 : c = (P ++ (X1 ++ (C1 ++ [z]))).length := by have h3 := H3.out; have h := H.out; have h1 := H1.out; simp at h3 ⊢; omega
      have j2 : c - 1 = (P ++ (X1 ++ C1)).length := by have h3 := H3.out; have h := H.out; have h1 := H1.out; simp at h3 ⊢; omega
      have l1 := s.load q1 j1
      have l2 := s.load q2 j2
      replace q1 := Hid.mk q1
      replace q2 := Hid.mk q2
      replace j1 := Hid.mk j1
      replace j2 := Hid.mk j2
      replace hi := Hid.mk hi
      replace hz1 := Hid.mk hz1
      repeat' (first | refine WE.assoc ?_ | refine WE.seqR ?_ | refine WO.nil ?_ | refine WE.draw ?_ | (refine WO.op1s ?_; simp only [opK, wanted, stepK, step, setDst, pureV, arith, intBin, true_and, V.ev, Nat.reduceEqDiff, Nat.reduceLT, getD_ne, getD_eq, List.length_set, if_true, *]; with_reducible show WO _ _ _ _ _) | (refine WD.iaddrE ?_; simp only [setDst, List.nil_append, List.cons_append, V.ev, Nat.reduceEqDiff, Nat.reduceLT, getD_ne, getD_eq, List.length_set, *]; refine ⟨_, rfl, ?_⟩) | (refine WD.op2s ?_; simp only [opV, VOp.kind, hiddenOf, unveil_veil, veil_next, below_nil, below_cons, or_true, or_false, or_self, wanted, stepK, step, setDst, pureV, arith, intBin, Val.cells, List.nil_append, List.cons_append, true_and, List.getD_cons_zero, List.getD_cons_succ, V.ev, Nat.reduceEqDiff, Nat.reduceLT, Nat.reduceLeDiff, Bool.false_eq_true, getD_ne, getD_eq, List.length_set, if_true, if_false, reduceCtorEq, *]; with_reducible show WD _ _ _ _ _ _) | refine WE.seqSkip ?_ | (refine WE.seqCond (t := true) ?hc (fun _ => ?_) (fun hh => Bool.noConfusion hh); case hc => simp only [V.ev, Nat.reduceLT, getD_eq, List.length_set, *]) | refine WE.seqBlock ?_)
      (refine WD.op2 ?_; simp only [opV, VOp.kind, hiddenOf, wanted, setDst, or_true, List.nil_append, List.cons_append, Nat.reduceEqDiff, Nat.reduceLeDiff, if_true, *])
      refine SB.store w0 s q1.out (y := z) j1.out (by (simp only [V.ev, Nat.reduceLT, getD_eq, List.length_set, *]; try rfl)) (by (simp only [V.ev, Nat.reduceEqDiff, Nat.reduceLT, getD_ne, getD_eq, List.length_set, *]; try rfl)) fun h1 s1 n1 => ?_
      clear l1 l2 n1
      repeat' (first | (refine WD.iaddrE ?_; simp only [setDst, List.nil_append, List.cons_append, V.ev, Nat.reduceEqDiff, Nat.reduceLT, getD_ne, getD_eq, List.length_set, *]; refine ⟨_, rfl, ?_⟩))
      (refine WD.op2 ?_; simp only [opV, VOp.kind, hiddenOf, wanted, setDst, or_true, List.nil_append, List.cons_append, Nat.reduceEqDiff, Nat.reduceLeDiff, if_true, *])
      refine SB.store w0 s1 (x := z) (A := P ++ (X1 ++ C1)) (R := z :: (C2 ++ S)) (by simp) (y := y) j2.out (by (simp only [V.ev, Nat.reduceLT, getD_eq, List.length_set, *]; try rfl)) (by (simp only [V.ev, Nat.reduceEqDiff, Nat.reduceLT, getD_ne, getD_eq, List.length_set, *]; try rfl)) fun h2 s2 n2 => ?_
      clear n2
      repeat' (first | refine WO.nil ?_ | refine WD.nil2 ?_ | (refine WO.op1s ?_; simp only [opK, wanted, stepK, step, setDst, pureV, arith, intBin, true_and, V.ev, Nat.reduceEqDiff, Nat.reduceLT, getD_ne, getD_eq, List.length_set, if_true, *]; with_reducible show WO _ _ _ _ _) | refine WE.region ?_)
      refine ⟨k2 - 1, by have h3 := H3.out; have := hz1.out; omega, C1, z :: C2, c - 1, ⟨?_, ?_, ?_⟩, s2.cast (by simp), by simp only [List.length_set, hl], by (simp only [getD_ne, reduceCtorEq, *]; try rfl), by (simp only [Nat.reduceEqDiff, getD_ne, *]; try rfl), by (simp only [Nat.reduceLT, getD_eq, List.length_set, *]; try rfl)⟩
      · rw [H3.out.1]; simp
      · have := H3.out.2.1; simp at this; omega
      · have := H3.out.2.2; simp at this; omega
    · obtain rfl : C1 = [] := List.eq_nil_of_length_eq_zero (by omega)
      have hd : decide ((c : Int) > (i : Int)) = false := by have h3 := H3.out; simp at h3 ⊢; omega
      repeat' (first | refine WE.assoc ?_ | refine WE.seqR ?_ | refine WO.nil ?_ | (refine WO.op1s ?_; simp only [opK, wanted, stepK, step, setDst, pureV, arith, intBin, true_and, V.ev, Nat.reduceEqDiff, Nat.reduceLT, getD_ne, getD_eq, List.length_set, if_true, *]; with_reducible show WO _ _ _ _ _) | refine WE.seqRet ?_ | refine WE.seqExit ?_ | (refine WE.seqCond (t := false) ?hc (fun hh => Bool.noConfusion hh) (fun _ => ?_); case hc => simp only [V.ev, Nat.reduceLT, getD_eq, List.length_set, *]))
      ((try dsimp only); refine Exists.intro _ ⟨(by (simp only [readResults, *]; try rfl)), ?_⟩)
      exact hZ.out _ (s.cast (by rw [H3.out.1]; simp))

end Go.V
end

section
set_option linter.unusedVariables false
set_option linter.unusedSimpArgs false
set_option linter.unusedSectionVars false
-- DRAWS
-- NEW
set_option maxHeartbeats 2000000
namespace Go.V
attribute [local irreducible] stepK opK opV

/-- The end of a part. -/
structure Norm (M : List Val → Heap → Prop) (ex : Ex) (fr : List Val) (h : Heap) : Prop where
  e : ex = .normal
  m : M fr h

theorem WE.cut {E : Env} {fr : List Val} {h : Heap} {Q : Ex → List Val → Heap → Prop} {a b : VC} (M : List Val → Heap → Prop) (w : WE E a fr h (Norm M)) (k : ∀ fr h, M fr h → WE E b fr h Q) : WE E (.seq a b) fr h Q := by
  refine WE.seq ?_
  obtain ⟨n, ex, fr', h', e, rfl, q⟩ := w
  exact ⟨n, _, fr', h', e, k fr' h' q⟩

theorem crossA {k : Ent → Int} {X Y X1 X2 Y1 Y2 A A' B B' : List Ent} {x y : Ent} (hX : X = X1 ++ X2) (hY : Y = Y1 ++ Y2) (eX : X = A ++ x :: A') (eY : Y = B ++ y :: B') (hA : A.length + 1 = X1.length) (hB : B.length = Y1.length) (sX : X.Pairwise (ltE k)) (sY : Y.Pairwise (ltE k)) (hxy : ltE k x y) :
    ∀ u ∈ X1, ∀ v ∈ Y2, ltE k u v := by
  have h1 : X1 ++ X2 = (A ++ [x]) ++ A' := by rw [← hX, eX]; simp
  have h2 : Y1 ++ Y2 = B ++ (y :: B') := by rw [← hY, eY]
  obtain ⟨rfl, _⟩ := List.append_inj h1 (by simp; omega)
  obtain ⟨rfl, rfl⟩ := List.append_inj h2 (by omega)
  rw [eX] at sX
  rw [eY] at sY
  have q1 := (sorted_app sX).1
  have q2 := (sorted_app sY).2
  intro u hu v hv
  have hu' : u = x ∨ ltE k u x := by
    rcases List.mem_append.1 hu with hu | hu
    · exact .inr (q1 u hu)
    · rw [List.mem_singleton] at hu; exact .inl hu
  have hv' : v = y ∨ ltE k y v := by
    rcases List.mem_cons.1 hv with hv | hv
    · exact .inl hv
    · exact .inr (q2 v hv)
  rcases hu' with rfl | hu' <;> rcases hv' with rfl | hv'
  · exact hxy
  · exact hxy.trans hv'
  · exact hu'.trans hxy
  · exact hu'.trans (hxy.trans hv')

/-- What the search for the cut knows of its two ends. -/
def Inv1 (k : Ent → Int) (X Y : List Ent) (a m nn lo st : Nat) : Prop := st = lo ∨ ∃ A x A' B y B', X = A ++ x :: A' ∧ Y = B ++ y :: B' ∧ a + A.length + 1 = st ∧ m + B.length + st = nn ∧ ltE k x y
def Inv2 (k : Ent → Int) (X Y : List Ent) (a m nn hi r : Nat) : Prop := r = hi ∨ ∃ A x A' B y B', X = A ++ x :: A' ∧ Y = B ++ y :: B' ∧ a + A.length = r ∧ m + B.length + r + 1 = nn ∧ ltE k y x

def SycF (b n cap ls a m e mid nn : Nat) (ro ag : Int) (fr : List Val) : Prop :=
  fr.length = 220 ∧ fr.getD 0 .undef = .slice b 0 n cap ls ∧ fr.getD 1 .undef = .int .i64 (a : Nat) ∧ fr.getD 2 .undef = .int .i64 (m : Nat) ∧ fr.getD 3 .undef = .int .i64 (e : Nat) ∧ fr.getD 4 .undef = cmpV ro ag ∧ fr.getD 18 .undef = .int .i64 (mid : Nat) ∧ fr.getD 19 .undef = .int .i64 (nn : Nat)

def SycI (h0 : Heap) (b n cap ls a m e mid nn lo hi : Nat) (ro ag : Int) (L X Y : List Ent) (k : Nat) (fr : List Val) (h' : Heap) : Prop :=
  ∃ st r : Nat, Hid (lo ≤ st ∧ st ≤ r ∧ r ≤ hi ∧ r - st = k ∧ Inv1 (keyI ro ag) X Y a m nn lo st ∧ Inv2 (keyI ro ag) X Y a m nn hi r) ∧ SB h0 h' b L ∧ SycF b n cap ls a m e mid nn ro ag fr ∧
    fr.getD 20 .undef = .int .i64 (st : Nat) ∧ fr.getD 21 .undef = .int .i64 (r : Nat) ∧ fr.getD 22 .undef = .int .i64 ((nn - 1 : Nat) : Int)

/-- A cut is found. -/
def SycM (h0 : Heap) (b n cap ls a m e mid nn : Nat) (ro ag : Int) (L X Y : List Ent) (fr : List Val) (h' : Heap) : Prop :=
  ∃ (X1 X2 Y1 Y2 : List Ent) (st : Nat), Hid (X = X1 ++ X2 ∧ Y = Y1 ++ Y2 ∧ a + X1.length = st ∧ m + Y1.length + st = nn ∧ (∀ u ∈ X1, ∀ v ∈ Y2, ltE (keyI ro ag) u v) ∧ (∀ v ∈ Y1, ∀ u ∈ X2, ltE (keyI ro ag) v u)) ∧ SB h0 h' b L ∧ SycF b n cap ls a m e mid nn ro ag fr ∧ fr.getD 20 .undef = .int .i64 (st : Nat)

theorem symMerge_ok {h0 : Heap} (w0 : Wf h0) {ro ag : Int} (hag : ag ≠ 0) {b n cap ls : Nat} (hn2 : n ≤ 100000) : ∀ (N : Nat) {h : Heap} {P X Y S : List Ent} (_ : X.length + Y.length = N) (_ : 0 < X.length) (_ : 0 < Y.length) (_ : n = (P ++ (X ++ (Y ++ S))).length) (_ : ∀ x ∈ X, ∀ y ∈ Y, x.id < y.id) (_ : X.Pairwise (ltE (keyI ro ag))) (_ : Y.Pairwise (ltE (keyI ro ag))) (_ : SB h0 h b (P ++ (X ++ (Y ++ S)))) {xa xm xb : Nat} (_ : xa = P.length) (_ : xm = P.length + X.length) (_ : xb = P.length + X.length + Y.length),
    WC E35 54 [.slice b 0 n cap ls, .int .i64 (xa : Nat), .int .i64 (xm : Nat), .int .i64 (xb : Nat), cmpV ro ag] h fun _ h' => ∃ Z : List Ent, Z.Perm (X ++ Y) ∧ Z.Pairwise (ltE (keyI ro ag)) ∧ SB h0 h' b (P ++ (Z ++ S)) := by
  intro N
  induction N using Nat.strongRecOn with
  | ind N ih =>
  intro h P X Y S hN hx hy hn hid hX hY s xa xm xb ea em eb
  by_cases h1X : X.length = 1
  · obtain ⟨x, rfl⟩ : ∃ x, X = [x] := List.length_eq_one_iff.1 h1X
    exact symA_ok w0 hag hn hn2 (fun y hy => hid x (by simp) y hy) hY s ea (by simpa using em) (by simpa using eb)
  by_cases h1Y : Y.length = 1
  · obtain ⟨y, rfl⟩ : ∃ y, Y = [y] := List.length_eq_one_iff.1 h1Y
    exact symB_ok w0 hag hn hn2 h1X (fun x hx => hid x hx y (by simp)) hX s ea em (by simpa using eb)
  refine WC.fn1 (n := 220) rfl rfl (by rfl) ?_
  intro fr hl ha
  have f0 : fr.getD 0 .undef = .slice b 0 n cap ls := ha 0
  have f1 : fr.getD 1 .undef = .int .i64 (xa : Nat) := ha 1
  have f2 : fr.getD 2 .undef = .int .i64 (xm : Nat) := ha 2
  have f3 : fr.getD 3 .undef = .int .i64 (xb : Nat) := ha 3
  have f4 : fr.getD 4 .undef = cmpV ro ag := ha 4
  clear ha
  have hnn := hn
  simp only [List.length_append] at hnn
  have e1 : IntKind.i64.wrap ((xm : Int) - (xa : Int)) = ((xm - xa : Nat) : Int) := wrap_sub (by omega) (by omega)
  have d1 : (((xm - xa : Nat) : Int) == 1) = false := by simp; omega
  have e2 : IntKind.i64.wrap ((xb : Int) - (xm : Int)) = ((xb - xm : Nat) : Int) := wrap_sub (by omega) (by omega)
  have d2 : (((xb - xm : Nat) : Int) == 1) = false := by simp; omega
  have u1 : IntKind.i64.wrap ((xa : Int) + (xb : Int)) = ((xa + xb : Nat) : Int) := wrap_add (by omega)
  have u2 : IntKind.u64.wrap ((xa + xb : Nat) : Int) = ((xa + xb : Nat) : Int) := wrap_u64 (by omega)
  obtain ⟨mid, hmid⟩ : ∃ mid, mid = (xa + xb) / 2 := ⟨_, rfl⟩
  have u3 : Int.fdiv ((xa + xb : Nat) : Int) (2 ^ min 1 IntKind.u64.bits) = (mid : Int) := by rw [hmid]; exact half_eq
  have u4 : IntKind.i64.wrap (mid : Int) = (mid : Int) := wrap_nat (by omega)
  obtain ⟨nn, hnn2⟩ : ∃ nn, nn = mid + xm := ⟨_, rfl⟩
  have u5 : IntKind.i64.wrap ((mid : Int) + (xm : Int)) = (nn : Int) := by rw [hnn2]; exact wrap_add (by omega)
  have u6 : IntKind.i64.wrap ((nn : Int) - (xb : Int)) = ((nn : Int) - (xb : Int)) := wrap_i64 (by omega) (by omega)
  have u7 : IntKind.i64.wrap ((nn : Int) - 1) = ((nn - 1 : Nat) : Int) := wrap_sub (b := 1) (by omega) (by omega)
  have hc : ∃ lo hi : Nat, (xa ≤ lo ∧ lo ≤ hi ∧ hi ≤ xm ∧ hi ≤ mid ∧ nn ≤ lo + xb ∧ (lo = xa ∨ nn = lo + xb) ∧ (hi = xm ∨ hi = mid)) ∧ ((decide ((xm : Int) > (mid : Int)) = true ∧ ((nn : Int) - (xb : Int)) = (lo : Int) ∧ hi = mid) ∨ (decide ((xm : Int) > (mid : Int)) = false ∧ xa = lo ∧ hi = xm)) := by
    by_cases q : mid < xm
    · exact ⟨nn - xb, mid, by omega, .inl ⟨by simp; omega, by omega, rfl⟩⟩
    · exact ⟨xa, xm, by omega, .inr ⟨by simp; omega, rfl, rfl⟩⟩
  obtain ⟨lo, hi, hlh, hcase⟩ := hc
  have u8 : IntKind.i64.wrap (lo : Int) = (lo : Int) := wrap_nat (by omega)
  have H := Hid.mk (And.intro hN (And.intro hx (And.intro hy (And.intro hn (And.intro hid (And.intro hX (And.intro hY (And.intro hnn (And.intro ea (And.intro em (And.intro eb (And.intro h1X (And.intro h1Y (And.intro hmid (And.intro hnn2 hlh)))))))))))))))
  clear hN hx hy hn hid hX hY hnn ea em eb h1X h1Y hmid hnn2 hlh
  replace ih := Hid.mk ih
  unfold v54
  have q1' : Hid ((xm > mid ∧ (nn : Int) - (xb : Int) = (lo : Int)) ∨ (¬ xm > mid ∧ xa = lo)) := by
    rcases hcase with ⟨a, b, _⟩ | ⟨a, b, _⟩
    · exact ⟨.inl ⟨by simpa using a, b⟩⟩
    · exact ⟨.inr ⟨by simpa using a, b⟩⟩
  rcases hcase with ⟨hd, q1, q2⟩ | ⟨hd, q1, q2⟩
  all_goals replace q2 := Hid.mk q2
  rotate_left
  replace q1 := Hid.mk q1
  rotate_left
  all_goals repeat' (first | refine WE.assoc ?_ | refine WE.seqR ?_ | refine WO.nil ?_ | (refine WO.op1s ?_; simp only [opK, wanted, stepK, step, setDst, pureV, arith, intBin, eqVal, eqAt, eqv, Val.isAgg, Val.cells, true_and, and_self, Bool.and_true, List.getElem?_cons_zero, V.ev, Nat.reduceEqDiff, Nat.reduceLT, Int.reduceLT, Int.reduceToNat, Bool.false_eq_true, getD_ne, getD_eq, List.length_set, if_true, if_false, Bool.not_false, *]; with_reducible show WO _ _ _ _ _) | refine WE.seqSkip ?_ | (refine WE.seqCond (t := true) ?hc (fun _ => ?_) (fun hh => Bool.noConfusion hh); case hc => simp only [V.ev, Nat.reduceLT, getD_eq, List.length_set, *]) | (refine WE.seqCond (t := false) ?hc (fun hh => Bool.noConfusion hh) (fun _ => ?_); case hc => simp only [V.ev, Nat.reduceLT, getD_eq, List.length_set, *]) | refine WE.seqBlock ?_)
  all_goals
    refine WE.mono (Q := fun ex fr h => ex = .exit 8 ∧ SycM h0 b n cap ls xa xm xb mid nn ro ag (P ++ (X ++ (Y ++ S))) X Y fr h) ?_ ?_
    · refine WE.loop (SycI h0 b n cap ls xa xm xb mid nn lo hi ro ag (P ++ (X ++ (Y ++ S))) X Y) ?_ (hi - lo) _ _ ⟨lo, hi, ⟨by have := H.out; omega, by have := H.out; omega, by have := H.out; omega, rfl, .inl rfl, .inl rfl⟩, s, ⟨by simp only [List.length_set, hl], by (simp only [getD_ne, reduceCtorEq, *]; try rfl), by (simp only [Nat.reduceEqDiff, getD_ne, *]; try rfl), by (simp only [Nat.reduceEqDiff, getD_ne, *]; try rfl), by (simp only [Nat.reduceEqDiff, getD_ne, *]; try rfl), by (simp only [Nat.reduceEqDiff, getD_ne, *]; try rfl), by (simp only [Nat.reduceEqDiff, Nat.reduceLT, getD_ne, getD_eq, List.length_set, *]; try rfl), by (simp only [Nat.reduceEqDiff, Nat.reduceLT, getD_ne, getD_eq, List.length_set, *]; try rfl)⟩, ?_, ?_, ?_⟩
      rotate_left
      · first | ((simp only [Nat.reduceEqDiff, Nat.reduceLT, getD_ne, getD_eq, List.length_set, *]; try rfl); done) | ((simp only [Nat.reduceEqDiff, Nat.reduceLT, getD_ne, getD_eq, List.length_set, *]; try rfl); rw [q1.out])
      · first | ((simp only [Nat.reduceEqDiff, Nat.reduceLT, getD_ne, getD_eq, List.length_set, *]; try rfl); done) | ((simp only [Nat.reduceEqDiff, Nat.reduceLT, getD_ne, getD_eq, List.length_set, *]; try rfl); rw [q2.out])
      · (simp only [Nat.reduceLT, getD_eq, List.length_set, *]; try rfl)
      clear f0 f1 f2 f3 f4 hl e1 e2 d1 d2 u1 u2 u3 u4 u5 u6 u7 u8 hd q1 q2 s
      rintro k fr h ⟨st, r, H1, s, ⟨hl, f0, f1, f2, f3, f4, f18, f19⟩, f20, f21, f22⟩
      by_cases hsr : st < r
      · have hd : decide ((st : Int) < (r : Int)) = true := by simp; omega
        have hb : st < r ∧ r ≤ xm ∧ xm ≤ n := by have := H.out; have := H1.out; omega
        have u1 : IntKind.i64.wrap ((st : Int) + (r : Int)) = ((st + r : Nat) : Int) := wrap_add (by omega)
        have u2 : IntKind.u64.wrap ((st + r : Nat) : Int) = ((st + r : Nat) : Int) := wrap_u64 (by omega)
        obtain ⟨c, hc⟩ : ∃ c, c = (st + r) / 2 := ⟨_, rfl⟩
        have u3 : Int.fdiv ((st + r : Nat) : Int) (2 ^ min 1 IntKind.u64.bits) = (c : Int) := by rw [hc]; exact half_eq
        have u4 : IntKind.i64.wrap (c : Int) = (c : Int) := wrap_nat (by omega)
        have u5 : IntKind.i64.wrap ((c : Int) + 1) = ((c + 1 : Nat) : Int) := wrap_add (b := 1) (by omega)
        have hb2 : xa ≤ c ∧ c - xa < X.length ∧ c < nn ∧ nn - 1 - c - xm < Y.length ∧ xm ≤ nn - 1 - c ∧ nn - 1 - c < n ∧ c < n ∧ nn < 200000 := by have := H.out; have := H1.out; omega
        have u6 : IntKind.i64.wrap (((nn - 1 : Nat) : Int) - (c : Int)) = ((nn - 1 - c : Nat) : Int) := wrap_sub (by omega) (by omega)
        obtain ⟨A, x, A', hA, hAl⟩ := mid_of X hb2.2.1
        obtain ⟨B, y, B', hB, hBl⟩ := mid_of Y hb2.2.2.2.1
        have t1 : eltI 3 (.slice b 0 n cap ls) (.int .i64 ((nn - 1 - c : Nat) : Int)) = some (.ptr b ((nn - 1 - c) * 3)) := sb_elt (by omega)
        have t2 : eltI 3 (.slice b 0 n cap ls) (.int .i64 (c : Int)) = some (.ptr b (c * 3)) := sb_elt (by omega)
        have l1 := s.load (A := P ++ (X ++ B)) (x := y) (R := B' ++ S) (by rw [hB]; simp) (i := nn - 1 - c) (by have := H.out; simp; omega)
        have l2 := s.load (A := P ++ A) (x := x) (R := A' ++ (Y ++ S)) (by rw [hA]; simp) (i := c) (by have := H.out; simp; omega)
        have hxy := H.out.2.2.2.2.1 x (by rw [hA]; simp) y (by rw [hB]; simp)
        have K := Hid.mk (And.intro hb (And.intro hb2 (And.intro hA (And.intro hAl (And.intro hB (And.intro hBl (And.intro hxy (And.intro hc hsr))))))))
        clear hb hb2 hA hAl hB hBl hxy hc hsr
        by_cases hc : keyI ro ag y < keyI ro ag x
        · have hc2 := cmpI_neg.2 hc
          replace hc := Hid.mk hc
          repeat' (first | refine WE.assoc ?_ | refine WE.seqR ?_ | refine WO.nil ?_ | refine WE.seqD ?_ | (refine WO.op1s ?_; simp only [opK, wanted, stepK, step, setDst, pureV, arith, intBin, true_and, V.ev, Nat.reduceEqDiff, Nat.reduceLT, Int.reduceLT, Int.reduceToNat, getD_ne, getD_eq, List.length_set, if_true, if_false, *]; with_reducible show WO _ _ _ _ _) | (refine WD.iaddrE ?_; simp only [setDst, List.nil_append, List.cons_append, V.ev, Nat.reduceEqDiff, Nat.reduceLT, getD_ne, getD_eq, List.length_set, *]; refine ⟨_, rfl, ?_⟩) | (refine WD.op2s ?_; simp only [opV, VOp.kind, hiddenOf, unveil_veil, veil_next, below_nil, below_cons, or_true, or_false, or_self, wanted, stepK, step, setDst, pureV, arith, intBin, evs, List.nil_append, List.cons_append, true_and, List.getD_cons_zero, List.getD_cons_succ, V.ev, Nat.reduceEqDiff, Nat.reduceLT, Nat.reduceLeDiff, Bool.false_eq_true, getD_ne, getD_eq, List.length_set, if_true, if_false, reduceCtorEq, *]; with_reducible show WD _ _ _ _ _ _) | refine WE.seqSkip ?_ | (refine WE.seqCond (t := true) ?hc (fun _ => ?_) (fun hh => Bool.noConfusion hh); case hc => simp only [V.ev, Nat.reduceLT, getD_eq, List.length_set, *]) | refine WE.block ?_)
          refine WD.callvF (by (simp only [V.ev, Nat.reduceEqDiff, Nat.reduceLT, getD_ne, getD_eq, List.length_set, *]; try rfl)) ?_
          (simp only [evs, List.nil_append, List.append_nil, List.cons_append, V.ev, Nat.reduceEqDiff, Nat.reduceLT, getD_ne, getD_eq, List.length_set, *])
          refine (compare_ok (s.g.wf w0) hag).mono ?_
          rintro _ h1 ⟨g1, rfl⟩
          simp only [setDst]
          have s1 := s.grow g1
          clear l1 l2
          repeat' (first | refine WO.nil ?_ | refine WD.nil2 ?_ | (refine WO.op1s ?_; simp only [opK, wanted, stepK, step, setDst, true_and, V.ev, Nat.reduceEqDiff, Nat.reduceLT, getD_ne, getD_eq, List.length_set, *]; with_reducible show WO _ _ _ _ _) | (refine WD.op2s ?_; simp only [opV, VOp.kind, hiddenOf, unveil_veil, veil_next, or_self, wanted, stepK, step, setDst, pureV, arith, intBin, unary, List.nil_append, List.cons_append, true_and, V.ev, Nat.reduceLT, Nat.reduceLeDiff, getD_eq, List.length_set, if_true, reduceCtorEq, Bool.not_true, *]; with_reducible show WD _ _ _ _ _ _) | (refine WE.cond2 (t := false) ?hc (fun hh => Bool.noConfusion hh) (fun _ => ?_); case hc => simp only [V.ev, Nat.reduceLT, getD_eq, List.length_set, *]) | refine WE.region ?_ | (with_reducible show blockQ _ _ _ _ _; simp only [blockQ]))
          have c1 := H1.out
          have k1 := K.out
          refine ⟨c - st, by omega, st, c, ⟨c1.1, by omega, by omega, rfl, c1.2.2.2.2.1, .inr ⟨A, x, A', B, y, B', k1.2.2.1, k1.2.2.2.2.1, by omega, by omega, .inl hc.out⟩⟩, s1, ⟨by simp only [List.length_set, hl], by clear c1 k1; (simp only [getD_ne, reduceCtorEq, *]; try rfl), by clear c1 k1; (simp only [Nat.reduceEqDiff, getD_ne, *]; try rfl), by clear c1 k1; (simp only [Nat.reduceEqDiff, getD_ne, *]; try rfl), by clear c1 k1; (simp only [Nat.reduceEqDiff, getD_ne, *]; try rfl), by clear c1 k1; (simp only [Nat.reduceEqDiff, getD_ne, *]; try rfl), by clear c1 k1; (simp only [Nat.reduceEqDiff, getD_ne, *]; try rfl), by clear c1 k1; (simp only [Nat.reduceEqDiff, getD_ne, *]; try rfl)⟩, by clear c1 k1; (simp only [Nat.reduceEqDiff, getD_ne, *]; try rfl), by clear c1 k1; (simp only [Nat.reduceLT, getD_eq, List.length_set, *]; try rfl), by clear c1 k1; (simp only [Nat.reduceEqDiff, getD_ne, *]; try rfl)⟩
        · have hc2 := cmpI_neg'.2 (Int.not_lt.1 hc)
          replace hc := Hid.mk hc
          repeat' (first | refine WE.assoc ?_ | refine WE.seqR ?_ | refine WO.nil ?_ | refine WE.seqD ?_ | (refine WO.op1s ?_; simp only [opK, wanted, stepK, step, setDst, pureV, arith, intBin, true_and, V.ev, Nat.reduceEqDiff, Nat.reduceLT, Int.reduceLT, Int.reduceToNat, getD_ne, getD_eq, List.length_set, if_true, if_false, *]; with_reducible show WO _ _ _ _ _) | (refine WD.iaddrE ?_; simp only [setDst, List.nil_append, List.cons_append, V.ev, Nat.reduceEqDiff, Nat.reduceLT, getD_ne, getD_eq, List.length_set, *]; refine ⟨_, rfl, ?_⟩) | (refine WD.op2s ?_; simp only [opV, VOp.kind, hiddenOf, unveil_veil, veil_next, below_nil, below_cons, or_true, or_false, or_self, wanted, stepK, step, setDst, pureV, arith, intBin, evs, List.nil_append, List.cons_append, true_and, List.getD_cons_zero, List.getD_cons_succ, V.ev, Nat.reduceEqDiff, Nat.reduceLT, Nat.reduceLeDiff, Bool.false_eq_true, getD_ne, getD_eq, List.length_set, if_true, if_false, reduceCtorEq, *]; with_reducible show WD _ _ _ _ _ _) | refine WE.seqSkip ?_ | (refine WE.seqCond (t := true) ?hc (fun _ => ?_) (fun hh => Bool.noConfusion hh); case hc => simp only [V.ev, Nat.reduceLT, getD_eq, List.length_set, *]) | refine WE.block ?_)
          refine WD.callvF (by (simp only [V.ev, Nat.reduceEqDiff, Nat.reduceLT, getD_ne, getD_eq, List.length_set, *]; try rfl)) ?_
          (simp only [evs, List.nil_append, List.append_nil, List.cons_append, V.ev, Nat.reduceEqDiff, Nat.reduceLT, getD_ne, getD_eq, List.length_set, *])
          refine (compare_ok (s.g.wf w0) hag).mono ?_
          rintro _ h1 ⟨g1, rfl⟩
          simp only [setDst]
          have s1 := s.grow g1
          clear l1 l2
          repeat' (first | refine WO.nil ?_ | refine WD.nil2 ?_ | (refine WO.op1s ?_; simp only [opK, wanted, stepK, step, setDst, pureV, arith, intBin, true_and, V.ev, Nat.reduceEqDiff, Nat.reduceLT, getD_ne, getD_eq, List.length_set, if_true, *]; with_reducible show WO _ _ _ _ _) | (refine WD.op2s ?_; simp only [opV, VOp.kind, hiddenOf, unveil_veil, veil_next, or_self, wanted, stepK, step, setDst, pureV, arith, intBin, unary, List.nil_append, List.cons_append, true_and, V.ev, Nat.reduceLT, Nat.reduceLeDiff, getD_eq, List.length_set, if_true, reduceCtorEq, Bool.not_false, *]; with_reducible show WD _ _ _ _ _ _) | (refine WE.cond2 (t := true) ?hc (fun _ => ?_) (fun hh => Bool.noConfusion hh); case hc => simp only [V.ev, Nat.reduceLT, getD_eq, List.length_set, *]) | refine WE.region ?_ | (with_reducible show blockQ _ _ _ _ _; simp only [blockQ]))
          have c1 := H1.out
          have k1 := K.out
          have hlt : ltE (keyI ro ag) x y := by have := hc.out; have := k1.2.2.2.2.2.2.1; unfold ltE; omega
          refine ⟨r - (c + 1), by omega, c + 1, r, ⟨by omega, by omega, by omega, rfl, .inr ⟨A, x, A', B, y, B', k1.2.2.1, k1.2.2.2.2.1, by omega, by omega, hlt⟩, c1.2.2.2.2.2⟩, s1, ⟨by simp only [List.length_set, hl], by clear c1 k1 hlt; (simp only [getD_ne, reduceCtorEq, *]; try rfl), by clear c1 k1 hlt; (simp only [Nat.reduceEqDiff, getD_ne, *]; try rfl), by clear c1 k1 hlt; (simp only [Nat.reduceEqDiff, getD_ne, *]; try rfl), by clear c1 k1 hlt; (simp only [Nat.reduceEqDiff, getD_ne, *]; try rfl), by clear c1 k1 hlt; (simp only [Nat.reduceEqDiff, getD_ne, *]; try rfl), by clear c1 k1 hlt; (simp only [Nat.reduceEqDiff, getD_ne, *]; try rfl), by clear c1 k1 hlt; (simp only [Nat.reduceEqDiff, getD_ne, *]; try rfl)⟩, by clear c1 k1 hlt; (simp only [Nat.reduceLT, getD_eq, List.length_set, *]; try rfl), by clear c1 k1 hlt; (simp only [Nat.reduceEqDiff, getD_ne, *]; try rfl), by clear c1 k1 hlt; (simp only [Nat.reduceEqDiff, getD_ne, *]; try rfl)⟩
      · have hd : decide ((st : Int) < (r : Int)) = false := by simp; omega
        replace hsr := Hid.mk hsr
        repeat' (first | refine WE.assoc ?_ | refine WE.seqR ?_ | refine WO.nil ?_ | (refine WO.op1s ?_; simp only [opK, wanted, stepK, step, setDst, pureV, arith, intBin, true_and, V.ev, Nat.reduceEqDiff, Nat.reduceLT, getD_ne, getD_eq, List.length_set, if_true, *]; with_reducible show WO _ _ _ _ _) | refine WE.seqExit ?_ | (refine WE.seqCond (t := false) ?hc (fun hh => Bool.noConfusion hh) (fun _ => ?_); case hc => simp only [V.ev, Nat.reduceLT, getD_eq, List.length_set, *]))
        refine ⟨rfl, ?_⟩
        have c := H.out
        have c1 := H1.out
        have c2 := hsr.out
        obtain rfl : st = r := by omega
        obtain ⟨X1, X2, hX, hX1⟩ := split_at_len X (i := st - xa) (by omega)
        obtain ⟨Y1, Y2, hY, hY1⟩ := split_at_len Y (i := nn - st - xm) (by omega)
        have lX : X.length = X1.length + X2.length := by rw [hX]; simp
        have lY : Y.length = Y1.length + Y2.length := by rw [hY]; simp
        refine ⟨X1, X2, Y1, Y2, st, ⟨hX, hY, by omega, by omega, ?_, ?_⟩, s, ⟨by simp only [List.length_set, hl], ?_, ?_, ?_, ?_, ?_, ?_, ?_⟩, ?_⟩
        · rcases c1.2.2.2.2.1 with q | ⟨A, x, A', B, y, B', q1, q2, q3, q4, q5⟩
          · intro u hu v hv
            exfalso
            have h1 := List.length_pos_of_mem hu
            have h2 := List.length_pos_of_mem hv
            omega
          · exact crossA hX hY q1 q2 (by omega) (by omega) c.2.2.2.2.2.1 c.2.2.2.2.2.2.1 q5
        · rcases c1.2.2.2.2.2 with q | ⟨A, x, A', B, y, B', q1, q2, q3, q4, q5⟩
          · intro u hu v hv
            exfalso
            have h1 := List.length_pos_of_mem hu
            have h2 := List.length_pos_of_mem hv
            omega
          · exact crossA hY hX q2 q1 (by omega) (by omega) c.2.2.2.2.2.2.1 c.2.2.2.2.2.1 q5
        all_goals (clear c c1 c2 hX hX1 hY hY1 lX lY; (simp only [Nat.reduceEqDiff, getD_ne, reduceCtorEq, *]; try rfl))
    · clear f0 f1 f2 f3 f4 hl e1 e2 d1 d2 u1 u2 u3 u4 u5 u6 u7 u8 hd q1 q2 s
      rintro ex fr h ⟨rfl, X1, X2, Y1, Y2, st, H1, s, ⟨hl, f0, f1, f2, f3, f4, f18, f19⟩, f20⟩
      simp only [blockQ, seqQ, if_true]
      have lX : X.length = X1.length + X2.length := by rw [H1.out.1]; simp
      have lY : Y.length = Y1.length + Y2.length := by rw [H1.out.2.1]; simp
      have hk : nn - st = xm + Y1.length ∧ xa + X1.length = st ∧ mid = st + Y1.length ∧ st ≤ nn ∧ nn < 300000 := by have := H.out; have := H1.out; omega
      have n1 : IntKind.i64.wrap ((nn : Int) - (st : Int)) = ((nn - st : Nat) : Int) := wrap_sub (by omega) (by omega)
      have K := Hid.mk (And.intro hk (And.intro lX lY))
      have sX : (X1 ++ X2).Pairwise (ltE (keyI ro ag)) := by rw [← H1.out.1]; exact H.out.2.2.2.2.2.1
      have sY : (Y1 ++ Y2).Pairwise (ltE (keyI ro ag)) := by rw [← H1.out.2.1]; exact H.out.2.2.2.2.2.2.1
      replace sX := Hid.mk (List.pairwise_append.1 sX)
      replace sY := Hid.mk (List.pairwise_append.1 sY)
      clear hk lX lY
      refine WE.cut (fun fr h' => h' = h ∧ SycF b n cap ls xa xm xb mid nn ro ag fr ∧ fr.getD 20 .undef = .int .i64 (st : Nat) ∧ fr.getD 24 .undef = .int .i64 ((nn - st : Nat) : Int)) ?_ ?_
      · refine WE.region ?_
        repeat' (first | refine WO.nil ?_ | (refine WO.op1s ?_; simp only [opK, wanted, stepK, step, setDst, pureV, arith, intBin, true_and, V.ev, Nat.reduceEqDiff, Nat.reduceLT, getD_ne, getD_eq, List.length_set, if_true, *]; with_reducible show WO _ _ _ _ _))
        exact ⟨rfl, rfl, ⟨by simp only [List.length_set, hl], by (simp only [getD_ne, reduceCtorEq, *]; try rfl), by (simp only [Nat.reduceEqDiff, getD_ne, *]; try rfl), by (simp only [Nat.reduceEqDiff, getD_ne, *]; try rfl), by (simp only [Nat.reduceEqDiff, getD_ne, *]; try rfl), by (simp only [Nat.reduceEqDiff, getD_ne, *]; try rfl), by (simp only [Nat.reduceEqDiff, getD_ne, *]; try rfl), by (simp only [Nat.reduceEqDiff, getD_ne, *]; try rfl)⟩, by (simp only [Nat.reduceEqDiff, getD_ne, *]; try rfl), by (simp only [Nat.reduceLT, getD_eq, List.length_set, *]; try rfl)⟩
      clear hl f0 f1 f2 f3 f4 f18 f19 f20 n1
      rintro fr _ ⟨rfl, ⟨hl, f0, f1, f2, f3, f4, f18, f19⟩, f20, f24⟩
      refine WE.cut (fun fr h' => SB h0 h' b (P ++ (X1 ++ (Y1 ++ (X2 ++ (Y2 ++ S))))) ∧ SycF b n cap ls xa xm xb mid nn ro ag fr ∧ fr.getD 20 .undef = .int .i64 (st : Nat) ∧ fr.getD 24 .undef = .int .i64 ((nn - st : Nat) : Int)) ?_ ?_
      · by_cases hX2 : 0 < X2.length
        · have hd : decide ((st : Int) < (xm : Int)) = true := by have := K.out; have := H.out; simp; omega
          by_cases hY1 : 0 < Y1.length
          · have hd2 : decide ((xm : Int) < ((nn - st : Nat) : Int)) = true := by have := K.out; have := H.out; simp; omega
            replace hX2 := Hid.mk hX2
            replace hY1 := Hid.mk hY1
            repeat' (first | refine WE.seqR ?_ | refine WO.nil ?_ | (refine WO.op1s ?_; simp only [opK, wanted, stepK, step, setDst, pureV, arith, intBin, evs, true_and, V.ev, Nat.reduceEqDiff, Nat.reduceLT, beq_self_eq_true, getD_ne, getD_eq, List.length_set, if_true, reduceCtorEq, *]; with_reducible show WO _ _ _ _ _) | (refine WE.cond2 (t := true) ?hc (fun _ => ?_) (fun hh => Bool.noConfusion hh); case hc => simp only [V.ev, Nat.reduceLT, getD_eq, List.length_set, *]) | refine WE.region ?_)
            refine WO.call rfl ?_
            (simp only [evs, V.ev, Nat.reduceEqDiff, Nat.reduceLT, getD_ne, getD_eq, List.length_set, *])
            refine (rotate_ok w0 (P := P ++ X1) (X := X2) (Y := Y1) (S := Y2 ++ S) (by have := H.out; rw [this.2.2.2.1, H1.out.1, H1.out.2.1]; simp) hn2 hX2.out hY1.out (s.cast (by rw [H1.out.1, H1.out.2.1]; simp)) (by have := K.out; have := H.out; simp; omega) (by have := K.out; have := H.out; simp; omega) (by have := K.out; have := H.out; simp; omega)).mono ?_
            rintro v h1 s1
            simp only [setDst]
            repeat' (first | refine WO.nil ?_)
            exact ⟨rfl, s1.cast (by simp), ⟨by simp only [List.length_set, hl], by (simp only [getD_ne, reduceCtorEq, *]; try rfl), by (simp only [Nat.reduceEqDiff, getD_ne, *]; try rfl), by (simp only [Nat.reduceEqDiff, getD_ne, *]; try rfl), by (simp only [Nat.reduceEqDiff, getD_ne, *]; try rfl), by (simp only [Nat.reduceEqDiff, getD_ne, *]; try rfl), by (simp only [Nat.reduceEqDiff, getD_ne, *]; try rfl), by (simp only [Nat.reduceEqDiff, getD_ne, *]; try rfl)⟩, by (simp only [Nat.reduceEqDiff, getD_ne, *]; try rfl), by (simp only [Nat.reduceEqDiff, getD_ne, *]; try rfl)⟩
          · have hd2 : decide ((xm : Int) < ((nn - st : Nat) : Int)) = false := by have := K.out; have := H.out; simp; omega
            obtain rfl : Y1 = [] := List.eq_nil_of_length_eq_zero (by omega)
            replace hX2 := Hid.mk hX2
            replace hY1 := Hid.mk hY1
            repeat' (first | refine WE.seqR ?_ | refine WO.nil ?_ | (refine WO.op1s ?_; simp only [opK, wanted, stepK, step, setDst, pureV, arith, intBin, List.nil_append, true_and, V.ev, Nat.reduceEqDiff, Nat.reduceLT, beq_self_eq_true, getD_ne, getD_eq, List.length_set, if_true, *]; with_reducible show WO _ _ _ _ _) | refine WE.skip ?_ | (refine WE.cond2 (t := false) ?hc (fun hh => Bool.noConfusion hh) (fun _ => ?_); case hc => simp only [V.ev, Nat.reduceLT, getD_eq, List.length_set, *]))
            exact ⟨rfl, s.cast (by rw [H1.out.1, H1.out.2.1]; simp), ⟨by simp only [List.length_set, hl], by (simp only [getD_ne, reduceCtorEq, *]; try rfl), by (simp only [Nat.reduceEqDiff, getD_ne, *]; try rfl), by (simp only [Nat.reduceEqDiff, getD_ne, *]; try rfl), by (simp only [Nat.reduceEqDiff, getD_ne, *]; try rfl), by (simp only [Nat.reduceEqDiff, getD_ne, *]; try rfl), by (simp only [Nat.reduceEqDiff, getD_ne, *]; try rfl), by (simp only [Nat.reduceEqDiff, getD_ne, *]; try rfl)⟩, by (simp only [Nat.reduceEqDiff, getD_ne, *]; try rfl), by (simp only [Nat.reduceEqDiff, getD_ne, *]; try rfl)⟩
        · have hd : decide ((st : Int) < (xm : Int)) = false := by have := K.out; have := H.out; simp; omega
          obtain rfl : X2 = [] := List.eq_nil_of_length_eq_zero (by omega)
          replace hX2 := Hid.mk hX2
          repeat' (first | refine WE.seqR ?_ | refine WO.nil ?_ | (refine WO.op1s ?_; simp only [opK, wanted, stepK, step, setDst, pureV, arith, intBin, List.nil_append, true_and, V.ev, Nat.reduceEqDiff, Nat.reduceLT, getD_ne, getD_eq, List.length_set, if_true, Bool.false_beq, Bool.not_true, *]; with_reducible show WO _ _ _ _ _) | refine WE.skip ?_ | (refine WE.cond2 (t := false) ?hc (fun hh => Bool.noConfusion hh) (fun _ => ?_); case hc => simp only [V.ev, Nat.reduceLT, getD_eq, List.length_set, *]))
          exact ⟨rfl, s.cast (by rw [H1.out.1, H1.out.2.1]; simp), ⟨by simp only [List.length_set, hl], by (simp only [getD_ne, reduceCtorEq, *]; try rfl), by (simp only [Nat.reduceEqDiff, getD_ne, *]; try rfl), by (simp only [Nat.reduceEqDiff, getD_ne, *]; try rfl), by (simp only [Nat.reduceEqDiff, getD_ne, *]; try rfl), by (simp only [Nat.reduceEqDiff, getD_ne, *]; try rfl), by (simp only [Nat.reduceEqDiff, getD_ne, *]; try rfl), by (simp only [Nat.reduceEqDiff, getD_ne, *]; try rfl)⟩, by (simp only [Nat.reduceEqDiff, getD_ne, *]; try rfl), by (simp only [Nat.reduceEqDiff, getD_ne, *]; try rfl)⟩
      clear hl f0 f1 f2 f3 f4 f18 f19 f20 f24 s
      rintro fr h ⟨s, ⟨hl, f0, f1, f2, f3, f4, f18, f19⟩, f20, f24⟩
      refine WE.cut (fun fr h' => (∃ Z1 : List Ent, Hid (Z1.Perm (X1 ++ Y1) ∧ Z1.Pairwise (ltE (keyI ro ag))) ∧ SB h0 h' b (P ++ (Z1 ++ (X2 ++ (Y2 ++ S))))) ∧ SycF b n cap ls xa xm xb mid nn ro ag fr ∧ fr.getD 20 .undef = .int .i64 (st : Nat) ∧ fr.getD 24 .undef = .int .i64 ((nn - st : Nat) : Int)) ?_ ?_
      · by_cases hX1 : 0 < X1.length
        · have hd : decide ((xa : Int) < (st : Int)) = true := by have := K.out; have := H.out; simp; omega
          by_cases hY1 : 0 < Y1.length
          · have hd2 : decide ((st : Int) < (mid : Int)) = true := by have := K.out; have := H.out; simp; omega
            replace hX1 := Hid.mk hX1
            replace hY1 := Hid.mk hY1
            repeat' (first | refine WE.seqR ?_ | refine WO.nil ?_ | (refine WO.op1s ?_; simp only [opK, wanted, stepK, step, setDst, pureV, arith, intBin, evs, true_and, V.ev, Nat.reduceEqDiff, Nat.reduceLT, beq_self_eq_true, getD_ne, getD_eq, List.length_set, if_true, reduceCtorEq, *]; with_reducible show WO _ _ _ _ _) | (refine WE.cond2 (t := true) ?hc (fun _ => ?_) (fun hh => Bool.noConfusion hh); case hc => simp only [V.ev, Nat.reduceLT, getD_eq, List.length_set, *]) | refine WE.region ?_)
            refine WO.call rfl ?_
            (simp only [evs, V.ev, Nat.reduceEqDiff, Nat.reduceLT, getD_ne, getD_eq, List.length_set, *])
            refine (ih.out (X1.length + Y1.length) (by have := K.out; have := H.out; omega) (P := P) (X := X1) (Y := Y1) (S := X2 ++ (Y2 ++ S)) rfl hX1.out hY1.out (by have := H.out; rw [this.2.2.2.1, H1.out.1, H1.out.2.1]; simp; omega) (fun u hu v hv => H.out.2.2.2.2.1 u (by rw [H1.out.1]; simp [hu]) v (by rw [H1.out.2.1]; simp [hv])) sX.out.1 sY.out.1 s (by have := K.out; have := H.out; omega) (by have := K.out; have := H.out; omega) (by have := K.out; have := H.out; omega)).mono ?_
            rintro v h1 ⟨Z1, z1, z2, s1⟩
            replace z1 := Hid.mk z1
            replace z2 := Hid.mk z2
            simp only [setDst]
            repeat' (first | refine WO.nil ?_)
            exact ⟨rfl, ⟨Z1, ⟨z1.out, z2.out⟩, s1⟩, ⟨by simp only [List.length_set, hl], by (simp only [getD_ne, reduceCtorEq, *]; try rfl), by (simp only [Nat.reduceEqDiff, getD_ne, *]; try rfl), by (simp only [Nat.reduceEqDiff, getD_ne, *]; try rfl), by (simp only [Nat.reduceEqDiff, getD_ne, *]; try rfl), by (simp only [Nat.reduceEqDiff, getD_ne, *]; try rfl), by (simp only [Nat.reduceEqDiff, getD_ne, *]; try rfl), by (simp only [Nat.reduceEqDiff, getD_ne, *]; try rfl)⟩, by (simp only [Nat.reduceEqDiff, getD_ne, *]; try rfl), by (simp only [Nat.reduceEqDiff, getD_ne, *]; try rfl)⟩
          · have hd2 : decide ((st : Int) < (mid : Int)) = false := by have := K.out; have := H.out; simp; omega
            obtain rfl : Y1 = [] := List.eq_nil_of_length_eq_zero (by omega)
            replace hX1 := Hid.mk hX1
            replace hY1 := Hid.mk hY1
            repeat' (first | refine WE.seqR ?_ | refine WO.nil ?_ | (refine WO.op1s ?_; simp only [opK, wanted, stepK, step, setDst, pureV, arith, intBin, true_and, V.ev, Nat.reduceEqDiff, Nat.reduceLT, beq_self_eq_true, getD_ne, getD_eq, List.length_set, if_true, *]; with_reducible show WO _ _ _ _ _) | refine WE.skip ?_ | (refine WE.cond2 (t := false) ?hc (fun hh => Bool.noConfusion hh) (fun _ => ?_); case hc => simp only [V.ev, Nat.reduceLT, getD_eq, List.length_set, *]))
            exact ⟨rfl, ⟨X1, ⟨by simp, sX.out.1⟩, s.cast (by simp)⟩, ⟨by simp only [List.length_set, hl], by (simp only [getD_ne, reduceCtorEq, *]; try rfl), by (simp only [Nat.reduceEqDiff, getD_ne, *]; try rfl), by (simp only [Nat.reduceEqDiff, getD_ne, *]; try rfl), by (simp only [Nat.reduceEqDiff, getD_ne, *]; try rfl), by (simp only [Nat.reduceEqDiff, getD_ne, *]; try rfl), by (simp only [Nat.reduceEqDiff, getD_ne, *]; try rfl), by (simp only [Nat.reduceEqDiff, getD_ne, *]; try rfl)⟩, by (simp only [Nat.reduceEqDiff, getD_ne, *]; try rfl), by (simp only [Nat.reduceEqDiff, getD_ne, *]; try rfl)⟩
        · have hd : decide ((xa : Int) < (st : Int)) = false := by have := K.out; have := H.out; simp; omega
          obtain rfl : X1 = [] := List.eq_nil_of_length_eq_zero (by omega)
          replace hX1 := Hid.mk hX1
          repeat' (first | refine WE.seqR ?_ | refine WO.nil ?_ | (refine WO.op1s ?_; simp only [opK, wanted, stepK, step, setDst, pureV, arith, intBin, List.nil_append, true_and, V.ev, Nat.reduceEqDiff, Nat.reduceLT, getD_ne, getD_eq, List.length_set, if_true, Bool.false_beq, Bool.not_true, *]; with_reducible show WO _ _ _ _ _) | refine WE.skip ?_ | (refine WE.cond2 (t := false) ?hc (fun hh => Bool.noConfusion hh) (fun _ => ?_); case hc => simp only [V.ev, Nat.reduceLT, getD_eq, List.length_set, *]))
          exact ⟨rfl, ⟨Y1, ⟨by simp, sY.out.1⟩, s.cast (by simp)⟩, ⟨by simp only [List.length_set, hl], by (simp only [getD_ne, reduceCtorEq, *]; try rfl), by (simp only [Nat.reduceEqDiff, getD_ne, *]; try rfl), by (simp only [Nat.reduceEqDiff, getD_ne, *]; try rfl), by (simp only [Nat.reduceEqDiff, getD_ne, *]; try rfl), by (simp only [Nat.reduceEqDiff, getD_ne, *]; try rfl), by (simp only [Nat.reduceEqDiff, getD_ne, *]; try rfl), by (simp only [Nat.reduceEqDiff, getD_ne, *]; try rfl)⟩, by (simp only [Nat.reduceEqDiff, getD_ne, *]; try rfl), by (simp only [Nat.reduceEqDiff, getD_ne, *]; try rfl)⟩
      clear hl f0 f1 f2 f3 f4 f18 f19 f20 f24 s
      rintro fr h ⟨⟨Z1, z1, s⟩, ⟨hl, f0, f1, f2, f3, f4, f18, f19⟩, f20, f24⟩
      have last : ∀ (Z2 : List Ent) h, Z2.Perm (X2 ++ Y2) → Z2.Pairwise (ltE (keyI ro ag)) → SB h0 h b (P ++ (Z1 ++ (Z2 ++ S))) → ∃ Z : List Ent, Z.Perm (X ++ Y) ∧ Z.Pairwise (ltE (keyI ro ag)) ∧ SB h0 h b (P ++ (Z ++ S)) := by
        intro Z2 h p2 o2 s
        refine ⟨Z1 ++ Z2, ?_, ?_, s.cast (by simp)⟩
        · refine (z1.out.1.append p2).trans ?_
          rw [H1.out.1, H1.out.2.1]
          have : (Y1 ++ (X2 ++ Y2)).Perm (X2 ++ (Y1 ++ Y2)) := by
            rw [← List.append_assoc, ← List.append_assoc]
            exact List.perm_append_comm.append_right _
          simpa using this.append_left X1
        · rw [List.pairwise_append]
          refine ⟨z1.out.2, o2, fun u hu v hv => ?_⟩
          have hu := (z1.out.1.mem_iff).1 hu
          have hv := p2.mem_iff.1 hv
          rcases List.mem_append.1 hu with hu | hu <;> rcases List.mem_append.1 hv with hv | hv
          · exact sX.out.2.2 u hu v hv
          · exact H1.out.2.2.2.2.1 u hu v hv
          · exact H1.out.2.2.2.2.2 u hu v hv
          · exact sY.out.2.2 u hu v hv
      replace last := Hid.mk last
      have z1l : Z1.length = X1.length + Y1.length := by rw [z1.out.1.length_eq]; simp
      replace z1l := Hid.mk z1l
      by_cases hX2 : 0 < X2.length
      · have hd : decide ((mid : Int) < ((nn - st : Nat) : Int)) = true := by have := K.out; have := H.out; simp; omega
        by_cases hY2 : 0 < Y2.length
        · have hd2 : decide (((nn - st : Nat) : Int) < (xb : Int)) = true := by have := K.out; have := H.out; simp; omega
          replace hX2 := Hid.mk hX2
          replace hY2 := Hid.mk hY2
          repeat' (first | refine WE.seqR ?_ | refine WO.nil ?_ | (refine WO.op1s ?_; simp only [opK, wanted, stepK, step, setDst, pureV, arith, intBin, evs, true_and, V.ev, Nat.reduceEqDiff, Nat.reduceLT, beq_self_eq_true, getD_ne, getD_eq, List.length_set, if_true, reduceCtorEq, *]; with_reducible show WO _ _ _ _ _) | (refine WE.cond2 (t := true) ?hc (fun _ => ?_) (fun hh => Bool.noConfusion hh); case hc => simp only [V.ev, Nat.reduceLT, getD_eq, List.length_set, *]) | refine WE.region ?_)
          refine WO.call rfl ?_
          (simp only [evs, V.ev, Nat.reduceEqDiff, Nat.reduceLT, getD_ne, getD_eq, List.length_set, *])
          refine (ih.out (X2.length + Y2.length) (by have := K.out; have := H.out; omega) (P := P ++ Z1) (X := X2) (Y := Y2) (S := S) rfl hX2.out hY2.out (by have := H.out; have := z1l.out; have := K.out; simp; omega) (fun u hu v hv => H.out.2.2.2.2.1 u (by rw [H1.out.1]; simp [hu]) v (by rw [H1.out.2.1]; simp [hv])) sX.out.2.1 sY.out.2.1 (s.cast (by simp)) (by have := z1l.out; have := K.out; have := H.out; simp; omega) (by have := z1l.out; have := K.out; have := H.out; simp; omega) (by have := z1l.out; have := K.out; have := H.out; simp; omega)).mono ?_
          rintro v h1 ⟨Z2, p2, o2, s1⟩
          replace p2 := Hid.mk p2
          replace o2 := Hid.mk o2
          simp only [setDst]
          repeat' (first | refine WO.nil ?_)
          ((try dsimp only); refine Exists.intro _ ⟨(by (simp only [readResults, *]; try rfl)), ?_⟩)
          exact last.out Z2 _ p2.out o2.out (s1.cast (by simp))
        · have hd2 : decide (((nn - st : Nat) : Int) < (xb : Int)) = false := by have := K.out; have := H.out; simp; omega
          obtain rfl : Y2 = [] := List.eq_nil_of_length_eq_zero (by omega)
          replace hX2 := Hid.mk hX2
          replace hY2 := Hid.mk hY2
          repeat' (first | refine WE.seqR ?_ | refine WO.nil ?_ | (refine WO.op1s ?_; simp only [opK, wanted, stepK, step, setDst, pureV, arith, intBin, true_and, V.ev, Nat.reduceEqDiff, Nat.reduceLT, beq_self_eq_true, getD_ne, getD_eq, List.length_set, if_true, *]; with_reducible show WO _ _ _ _ _) | refine WE.skip ?_ | (refine WE.cond2 (t := false) ?hc (fun hh => Bool.noConfusion hh) (fun _ => ?_); case hc => simp only [V.ev, Nat.reduceLT, getD_eq, List.length_set, *]))
          ((try dsimp only); refine Exists.intro _ ⟨(by (simp only [readResults, *]; try rfl)), ?_⟩)
          exact last.out X2 _ (by simp) sX.out.2.1 (s.cast (by simp))
      · have hd : decide ((mid : Int) < ((nn - st : Nat) : Int)) = false := by have := K.out; have := H.out; simp; omega
        obtain rfl : X2 = [] := List.eq_nil_of_length_eq_zero (by omega)
        replace hX2 := Hid.mk hX2
        repeat' (first | refine WE.seqR ?_ | refine WO.nil ?_ | (refine WO.op1s ?_; simp only [opK, wanted, stepK, step, setDst, pureV, arith, intBin, true_and, V.ev, Nat.reduceEqDiff, Nat.reduceLT, getD_ne, getD_eq, List.length_set, if_true, Bool.false_beq, Bool.not_true, *]; with_reducible show WO _ _ _ _ _) | refine WE.skip ?_ | (refine WE.cond2 (t := false) ?hc (fun hh => Bool.noConfusion hh) (fun _ => ?_); case hc => simp only [V.ev, Nat.reduceLT, getD_eq, List.length_set, *]))
        ((try dsimp only); refine Exists.intro _ ⟨(by (simp only [readResults, *]; try rfl)), ?_⟩)
        exact last.out Y2 _ (by simp) sY.out.2.1 (s.cast (by simp))

end Go.V
end

section
set_option linter.unusedVariables false
set_option linter.unusedSimpArgs false
set_option linter.unusedSectionVars false
-- DRAWS
-- NEW
set_option maxHeartbeats 2000000
namespace Go.V
attribute [local irreducible] stepK opK opV

/-- Sorted runs of s entries; the last one may be shorter. -/
inductive Runs (k : Ent → Int) (s : Nat) : List Ent → List Ent → Prop
  | last {D L : List Ent} : D.length ≤ s → D.Pairwise (ltE k) → D.Perm L → Runs k s D L
  | cons {X X' D L : List Ent} : X.length = s → X.Pairwise (ltE k) → X.Perm X' → Runs k s D L → Runs k s (X ++ D) (X' ++ L)

def Pre (k : Ent → Int) (s : Nat) (D L : List Ent) : Prop := ∀ D' L', Runs k s D' L' → Runs k s (D ++ D') (L ++ L')

theorem Pre.nil {k : Ent → Int} {s : Nat} : Pre k s [] [] := fun _ _ h => h

theorem Pre.snoc {k : Ent → Int} {s : Nat} {D L X X' : List Ent} (p : Pre k s D L) (h1 : X.length = s) (h2 : X.Pairwise (ltE k)) (h3 : X.Perm X') : Pre k s (D ++ X) (L ++ X') := by
  intro D' L' r
  rw [List.append_assoc, List.append_assoc]
  exact p _ _ (.cons h1 h2 h3 r)

theorem Runs.nil {k : Ent → Int} {s : Nat} {D L : List Ent} (r : Runs k s D L) (h : D.length = 0) : D = [] ∧ L = [] := by
  cases r with
  | last _ _ h3 =>
    obtain rfl := List.eq_nil_of_length_eq_zero h
    exact ⟨rfl, by simpa using h3.symm.eq_nil⟩
  | @cons X X' D L h1 _ h3 r =>
    simp only [List.length_append] at h
    obtain rfl : X = [] := List.eq_nil_of_length_eq_zero (by omega)
    have hx : X' = [] := by simpa using h3.symm.eq_nil
    have hd : D = [] := List.eq_nil_of_length_eq_zero (by omega)
    subst hx hd
    simp only [List.length_nil] at h1
    subst h1
    refine ⟨rfl, ?_⟩
    clear h h3
    generalize hE : ([] : List Ent) = E at r
    generalize hs : 0 = s at r
    induction r with
    | last _ _ h3 => subst hE; simpa using h3.symm.eq_nil
    | @cons X X' D L h1 _ h3 r ih =>
      have h4 := congrArg List.length hE
      simp only [List.length_append, List.length_nil] at h4
      obtain rfl : X = [] := List.eq_nil_of_length_eq_zero (by omega)
      obtain rfl : D = [] := List.eq_nil_of_length_eq_zero (by omega)
      have hx : X' = [] := by simpa using h3.symm.eq_nil
      rw [hx]; exact ih rfl

/-- At most one run. -/
theorem Runs.one {k : Ent → Int} {s : Nat} {D L : List Ent} (r : Runs k s D L) (h : D.length ≤ s) : D.Pairwise (ltE k) ∧ D.Perm L := by
  cases r with
  | last _ h2 h3 => exact ⟨h2, h3⟩
  | @cons X X' D L h1 h2 h3 r =>
    simp only [List.length_append] at h
    obtain ⟨rfl, rfl⟩ := r.nil (by omega)
    simpa using ⟨h2, h3⟩

/-- Two runs in front. -/
theorem Runs.two {k : Ent → Int} {s : Nat} (hs : 0 < s) {D L : List Ent} (r : Runs k s D L) (h : s < D.length) : ∃ X Y D' X' Y' L', D = X ++ (Y ++ D') ∧ L = X' ++ (Y' ++ L') ∧ X.length = s ∧ 0 < Y.length ∧ Y.length ≤ s ∧ X.Pairwise (ltE k) ∧ Y.Pairwise (ltE k) ∧ X.Perm X' ∧ Y.Perm Y' ∧ Runs k s D' L' ∧ (Y.length = s ∨ D' = []) := by
  cases r with
  | last h1 => omega
  | @cons X X' D L h1 h2 h3 r =>
    simp only [List.length_append] at h
    cases r with
    | last g1 g2 g3 => exact ⟨X, D, [], X', L, [], by simp, by simp, h1, by omega, g1, h2, g2, h3, g3, .last (by simp) .nil (.refl _), .inr rfl⟩
    | @cons Y Y' D L g1 g2 g3 r => exact ⟨X, Y, D, X', Y', L, rfl, rfl, h1, by omega, by omega, h2, g2, h3, g3, r, .inl g1⟩

theorem ids_of {X X' Y Y' A B : List Ent} (h : (A ++ (X' ++ (Y' ++ B))).Pairwise fun x y => x.id < y.id) (hx : X.Perm X') (hy : Y.Perm Y') : ∀ x ∈ X, ∀ y ∈ Y, x.id < y.id := by
  intro x hx' y hy'
  rw [List.pairwise_append] at h
  have h := h.2.1
  rw [List.pairwise_append] at h
  exact h.2.2 x (hx.mem_iff.1 hx') y (by simp [hy.mem_iff.1 hy'])

abbrev StF (b n cap ls : Nat) (ro ag : Int) (fr : List Val) : Prop := fr.length = 63 ∧ fr.getD 0 .undef = .slice b 0 n cap ls ∧ fr.getD 1 .undef = .int .i64 (n : Nat) ∧ fr.getD 2 .undef = cmpV ro ag

def St1 (h0 : Heap) (b n cap ls : Nat) (ro ag : Int) (L : List Ent) (k : Nat) (fr : List Val) (h' : Heap) : Prop :=
  ∃ (D1 L1 R : List Ent) (a : Nat), Hid (L = L1 ++ R ∧ D1.length = a ∧ L1.length = a ∧ R.length = k ∧ Pre (keyI ro ag) 20 D1 L1) ∧ SB h0 h' b (D1 ++ R) ∧ StF b n cap ls ro ag fr ∧
    fr.getD 6 .undef = .int .i64 20 ∧ fr.getD 7 .undef = .int .i64 (a : Nat) ∧ fr.getD 8 .undef = .int .i64 ((a + 20 : Nat) : Int)

def St2 (h0 : Heap) (b n cap ls : Nat) (ro ag : Int) (L : List Ent) (k : Nat) (fr : List Val) (h' : Heap) : Prop :=
  ∃ (D : List Ent) (s : Nat), Hid (Runs (keyI ro ag) s D L ∧ 0 < s ∧ n - s = k ∧ D.length = n) ∧ SB h0 h' b D ∧ StF b n cap ls ro ag fr ∧ fr.getD 6 .undef = .int .i64 (s : Nat)

def St3 (h0 : Heap) (b n cap ls s : Nat) (ro ag : Int) (L : List Ent) (k : Nat) (fr : List Val) (h' : Heap) : Prop :=
  ∃ (D1 L1 D2 L2 : List Ent) (a : Nat), Hid (L = L1 ++ L2 ∧ D1.length = a ∧ D2.length = k ∧ a + k = n ∧ Pre (keyI ro ag) (2 * s) D1 L1 ∧ Runs (keyI ro ag) s D2 L2) ∧ SB h0 h' b (D1 ++ D2) ∧ StF b n cap ls ro ag fr ∧
    fr.getD 6 .undef = .int .i64 (s : Nat) ∧ fr.getD 7 .undef = .int .i64 (a : Nat) ∧ fr.getD 8 .undef = .int .i64 ((a + 2 * s : Nat) : Int)

theorem stable_ok {h0 h : Heap} (w0 : Wf h0) {ro ag : Int} (hag : ag ≠ 0) {b n cap ls : Nat} {L : List Ent} (hn : n = L.length) (hn2 : n ≤ 100000) (hid : L.Pairwise fun x y => x.id < y.id) (s : SB h0 h b L) :
    WC E35 46 [.slice b 0 n cap ls, .int .i64 (n : Nat), cmpV ro ag] h fun _ h' => ∃ Z : List Ent, Z.Perm L ∧ Z.Pairwise (ltE (keyI ro ag)) ∧ SB h0 h' b Z := by
  refine WC.fn1 (n := 63) rfl rfl (by rfl) ?_
  intro fr hl ha
  have f0 : fr.getD 0 .undef = .slice b 0 n cap ls := ha 0
  have f1 : fr.getD 1 .undef = .int .i64 (n : Nat) := ha 1
  have f2 : fr.getD 2 .undef = cmpV ro ag := ha 2
  clear ha
  have H := Hid.mk (And.intro hn hid)
  clear hn hid
  unfold v46
  repeat' (first | refine WE.seqR ?_ | refine WO.nil ?_ | (refine WO.op1s ?_; simp only [opK, wanted, stepK, step, setDst, true_and, V.ev, Nat.reduceEqDiff, Nat.reduceLT, getD_ne, getD_eq, List.length_set, *]; with_reducible show WO _ _ _ _ _) | refine WE.seqBlock ?_)
  refine WE.mono (Q := fun ex fr h => ex = .exit 0 ∧ ∃ k, k < 20 ∧ St1 h0 b n cap ls ro ag L k fr h) ?_ ?_
  · refine WE.loop (St1 h0 b n cap ls ro ag L) ?_ L.length _ _ ⟨[], [], L, 0, ⟨rfl, rfl, rfl, rfl, .nil⟩, s, ⟨by simp only [List.length_set, hl], by (simp only [getD_ne, reduceCtorEq, *]; try rfl), by (simp only [Nat.reduceEqDiff, getD_ne, *]; try rfl), by (simp only [Nat.reduceEqDiff, getD_ne, *]; try rfl)⟩, by (simp only [Nat.reduceEqDiff, Nat.reduceLT, getD_ne, getD_eq, *]; try rfl), by (simp only [Nat.reduceEqDiff, Nat.reduceLT, Int.cast_ofNat_Int, getD_ne, getD_eq, List.length_set, *]; try rfl), by (simp only [Nat.reduceLT, Nat.zero_add, Int.cast_ofNat_Int, getD_eq, List.length_set, *]; try rfl)⟩
    clear f0 f1 f2 hl s
    rintro k fr h ⟨D1, L1, R, a, H1, s, ⟨hl, f0, f1, f2⟩, f6, f7, f8⟩
    have hk : a + k = n := by have h1 := H1.out; have h := H.out; have := congrArg List.length h1.1; simp only [List.length_append] at this; omega
    have e1 : IntKind.i64.wrap (((a + 20 : Nat) : Int) + 20) = ((a + 20 + 20 : Nat) : Int) := wrap_add (b := 20) (by omega)
    by_cases hc : a + 20 ≤ n
    · have hd : decide (((a + 20 : Nat) : Int) ≤ (n : Int)) = true := by simp; omega
      replace hk := Hid.mk (And.intro hk hc)
      clear hc
      obtain ⟨X, R', hR, hX⟩ := split_at_len R (i := 20) (by have := hk.out; have := H1.out; omega)
      replace hX := Hid.mk (And.intro hR hX)
      clear hR
      repeat' (first | refine WE.assoc ?_ | refine WE.seqR ?_ | refine WO.nil ?_ | (refine WO.op1s ?_; simp only [opK, wanted, stepK, step, setDst, pureV, arith, intBin, evs, true_and, V.ev, Nat.reduceEqDiff, Nat.reduceLT, getD_ne, getD_eq, List.length_set, if_true, reduceCtorEq, *]; with_reducible show WO _ _ _ _ _) | refine WE.seqSkip ?_ | (refine WE.seqCond (t := true) ?hc (fun _ => ?_) (fun hh => Bool.noConfusion hh); case hc => simp only [V.ev, Nat.reduceLT, getD_eq, List.length_set, *]) | refine WE.block ?_)
      refine WO.call rfl ?_
      (simp only [evs, V.ev, Nat.reduceEqDiff, Nat.reduceLT, getD_ne, getD_eq, List.length_set, *])
      refine (insertion_ok w0 hag (P := D1) (X := X) (S := R') (by have h1 := H1.out; have h := H.out; have h2 := hX.out; have := hk.out; rw [← h2.1]; simp; omega) hn2 (by have h1 := H1.out; have h := H.out.2; have h2 := hX.out; rw [h1.1, h2.1, List.pairwise_append, List.pairwise_append] at h; exact h.2.1.1) (s.cast (by rw [hX.out.1])) (by have h1 := H1.out; omega) (by have h1 := H1.out; have h2 := hX.out; omega)).mono ?_
      rintro v h1 ⟨Z, p, o, s1⟩
      replace p := Hid.mk (And.intro p o)
      clear o
      simp only [setDst]
      repeat' (first | refine WE.seqR ?_ | refine WO.nil ?_ | (refine WO.op1s ?_; simp only [opK, wanted, stepK, step, setDst, pureV, arith, intBin, true_and, V.ev, Nat.reduceEqDiff, Nat.reduceLT, getD_ne, getD_eq, List.length_set, if_true, *]; with_reducible show WO _ _ _ _ _) | refine WE.region ?_ | (with_reducible show blockQ _ _ _ _ _; simp only [blockQ]))
      refine ⟨k - 20, by have := hk.out; have := H1.out; have h2 := hX.out; have := congrArg List.length h2.1; simp only [List.length_append] at this; omega, D1 ++ Z, L1 ++ X, R', a + 20, ⟨?_, ?_, ?_, ?_, ?_⟩, s1.cast (by simp), ⟨by simp only [List.length_set, hl], by (simp only [getD_ne, reduceCtorEq, *]; try rfl), by (simp only [Nat.reduceEqDiff, getD_ne, *]; try rfl), by (simp only [Nat.reduceEqDiff, getD_ne, *]; try rfl)⟩, by (simp only [Nat.reduceEqDiff, getD_ne, *]; try rfl), by (simp only [Nat.reduceEqDiff, Nat.reduceLT, getD_ne, getD_eq, List.length_set, *]; try rfl), by (simp only [Nat.reduceLT, getD_eq, List.length_set, *]; try rfl)⟩
      all_goals have h1 := H1.out
      all_goals have h2 := hX.out
      all_goals have h3 := p.out
      · rw [h1.1, h2.1]; simp
      · have := h3.1.length_eq; simp; omega
      · simp; omega
      · have := congrArg List.length h2.1; simp only [List.length_append] at this; omega
      · exact h1.2.2.2.2.snoc (by have := h3.1.length_eq; omega) h3.2 h3.1
    · have hd : decide (((a + 20 : Nat) : Int) ≤ (n : Int)) = false := by simp; omega
      replace hk := Hid.mk (And.intro hk hc)
      clear hc
      repeat' (first | refine WE.assoc ?_ | refine WE.seqR ?_ | refine WO.nil ?_ | (refine WO.op1s ?_; simp only [opK, wanted, stepK, step, setDst, pureV, arith, intBin, true_and, V.ev, Nat.reduceEqDiff, Nat.reduceLT, getD_ne, getD_eq, List.length_set, if_true, *]; with_reducible show WO _ _ _ _ _) | refine WE.seqExit ?_ | (refine WE.seqCond (t := false) ?hc (fun hh => Bool.noConfusion hh) (fun _ => ?_); case hc => simp only [V.ev, Nat.reduceLT, getD_eq, List.length_set, *]))
      exact ⟨rfl, k, by have := hk.out; omega, D1, L1, R, a, H1, s, ⟨by simp only [List.length_set, hl], by (simp only [getD_ne, reduceCtorEq, *]; try rfl), by (simp only [Nat.reduceEqDiff, getD_ne, *]; try rfl), by (simp only [Nat.reduceEqDiff, getD_ne, *]; try rfl)⟩, by (simp only [Nat.reduceEqDiff, getD_ne, *]; try rfl), by (simp only [Nat.reduceEqDiff, getD_ne, *]; try rfl), by (simp only [Nat.reduceEqDiff, getD_ne, *]; try rfl)⟩
  clear f0 f1 f2 hl s
  rintro ex fr h ⟨rfl, k, hk20, D1, L1, R, a, H1, s, ⟨hl, f0, f1, f2⟩, f6, f7, f8⟩
  simp only [blockQ, seqQ, if_true]
  replace hk20 := Hid.mk hk20
  repeat' (first | refine WE.seqR ?_ | (refine WO.op1s ?_; simp only [opK, wanted, stepK, step, setDst, evs, true_and, V.ev, Nat.reduceEqDiff, Nat.reduceLT, getD_ne, getD_eq, List.length_set, *]; with_reducible show WO _ _ _ _ _))
  refine WO.call rfl ?_
  (simp only [evs, V.ev, Nat.reduceEqDiff, Nat.reduceLT, getD_ne, getD_eq, List.length_set, *])
  refine (insertion_ok w0 hag (P := D1) (X := R) (S := []) (by have h1 := H1.out; have h := H.out; have := congrArg List.length h1.1; simp only [List.length_append] at this; simp; omega) hn2 (by have h1 := H1.out; have h := H.out.2; rw [h1.1, List.pairwise_append] at h; exact h.2.1) (s.cast (by simp)) (by have h1 := H1.out; omega) (by have h1 := H1.out; have h := H.out; have := congrArg List.length h1.1; simp only [List.length_append] at this; omega)).mono ?_
  rintro v h1 ⟨Z, p, o, s1⟩
  have r0 : Runs (keyI ro ag) 20 (D1 ++ Z) L := by
    have h1 := H1.out
    rw [h1.1]
    exact h1.2.2.2.2 _ _ (.last (by have := p.length_eq; have := hk20.out; omega) o p)
  have hlen : (D1 ++ Z).length = n := by
    have h1 := H1.out; have h := H.out; have := congrArg List.length h1.1; have := p.length_eq
    simp only [List.length_append] at *; omega
  replace r0 := Hid.mk (And.intro r0 hlen)
  clear hlen p o s hk20
  simp only [setDst]
  repeat' (first | refine WO.nil ?_ | refine WE.block ?_)
  refine WE.loop (St2 h0 b n cap ls ro ag L) ?_ (n - 20) _ _ ⟨D1 ++ Z, 20, ⟨r0.out.1, by omega, rfl, r0.out.2⟩, s1.cast (by simp), ⟨by simp only [List.length_set, hl], by (simp only [getD_ne, reduceCtorEq, *]; try rfl), by (simp only [Nat.reduceEqDiff, getD_ne, *]; try rfl), by (simp only [Nat.reduceEqDiff, getD_ne, *]; try rfl)⟩, by (simp only [Nat.reduceEqDiff, Int.cast_ofNat_Int, getD_ne, *]; try rfl)⟩
  clear f0 f1 f2 f6 f7 f8 hl s1 r0 H1
  rintro k fr h ⟨D, z, H1, s, ⟨hl, f0, f1, f2⟩, f6⟩
  by_cases hzn : z < n
  · have hd : decide ((z : Int) < (n : Int)) = true := by simp; omega
    have e1 : IntKind.i64.wrap (2 * (z : Int)) = ((2 * z : Nat) : Int) := by rw [wrap_i64 (by omega) (by omega)]; omega
    have e2 : IntKind.i64.wrap ((z : Int) * 2) = ((2 * z : Nat) : Int) := by rw [wrap_i64 (by omega) (by omega)]; omega
    replace hzn := Hid.mk hzn
    repeat' (first | refine WE.assoc ?_ | refine WE.seqR ?_ | refine WO.nil ?_ | (refine WO.op1s ?_; simp only [opK, wanted, stepK, step, setDst, pureV, arith, intBin, true_and, V.ev, Nat.reduceEqDiff, Nat.reduceLT, getD_ne, getD_eq, List.length_set, if_true, *]; with_reducible show WO _ _ _ _ _) | refine WE.seqSkip ?_ | (refine WE.seqCond (t := true) ?hc (fun _ => ?_) (fun hh => Bool.noConfusion hh); case hc => simp only [V.ev, Nat.reduceLT, getD_eq, List.length_set, *]) | refine WE.seqBlock ?_ | refine WE.block ?_)
    refine WE.mono (Q := fun ex fr h => ex = .exit 4 ∧ ∃ k, k < 2 * z ∧ St3 h0 b n cap ls z ro ag L k fr h) ?_ ?_
    · refine WE.loop (St3 h0 b n cap ls z ro ag L) ?_ n _ _ ⟨[], [], D, L, 0, ⟨rfl, rfl, H1.out.2.2.2, by omega, .nil, H1.out.1⟩, s, ⟨by simp only [List.length_set, hl], by (simp only [getD_ne, reduceCtorEq, *]; try rfl), by (simp only [Nat.reduceEqDiff, getD_ne, *]; try rfl), by (simp only [Nat.reduceEqDiff, getD_ne, *]; try rfl)⟩, by (simp only [Nat.reduceEqDiff, getD_ne, *]; try rfl), by (simp only [Nat.reduceEqDiff, Nat.reduceLT, Int.cast_ofNat_Int, getD_ne, getD_eq, List.length_set, *]; try rfl), by first | ((simp only [Nat.reduceLT, Nat.zero_add, getD_eq, List.length_set, *]; try rfl); done) | ((simp only [V.ev, Nat.reduceEqDiff, Nat.reduceLT, Nat.reduceLeDiff, Nat.reduceAdd, Nat.add_zero, Nat.zero_add, Nat.reduceMul, Int.reduceLE, Int.reduceLT, Int.reduceToNat, Int.reduceNeg, Bool.false_eq_true, Int.reduceBEq, Nat.reduceBEq, beq_self_eq_true, Int.reduceGT, Int.reduceGE, decide_true, decide_false, Int.cast_ofNat_Int, getD_ne, getD_eq, List.length_set, if_true, if_false, reduceIte, reduceCtorEq, Bool.true_beq, Bool.false_beq, Bool.not_true, Bool.not_false, *]; try rfl); simp)⟩
      clear f0 f1 f2 f6 hl s hd
      rintro k2 fr h ⟨D1, L1, D2, L2, a, H2, s, ⟨hl, f0, f1, f2⟩, f6, f7, f8⟩
      have hb : a ≤ n ∧ z < n ∧ a + k2 = n := by have := H2.out; have := hzn.out; omega
      have e3 : IntKind.i64.wrap ((a : Int) + (z : Int)) = ((a + z : Nat) : Int) := wrap_add (by omega)
      have e4 : IntKind.i64.wrap (((a + 2 * z : Nat) : Int) + ((2 * z : Nat) : Int)) = ((a + 2 * z + 2 * z : Nat) : Int) := wrap_add (by omega)
      by_cases hc : a + 2 * z ≤ n
      · have hd : decide (((a + 2 * z : Nat) : Int) ≤ (n : Int)) = true := by simp; omega
        replace hc := Hid.mk (And.intro hc hb)
        clear hb
        have h2 := H2.out
        obtain ⟨X, Y, D', X', Y', L', g1, g2, g3, g4, g5, g6, g7, g8, g9, g10, g11⟩ := h2.2.2.2.2.2.two H1.out.2.1 (by have := hc.out; have := H1.out; omega)
        have gY : Y.length = z := by
          rcases g11 with g | g
          · exact g
          · have := congrArg List.length g1
            subst g
            simp only [List.length_append, List.length_nil] at this
            have := hc.out
            omega
        have G := Hid.mk (And.intro g1 (And.intro g2 (And.intro g3 (And.intro gY (And.intro g6 (And.intro g7 (And.intro g8 (And.intro g9 g10))))))))
        clear g1 g2 g3 g4 g5 g6 g7 g8 g9 g10 g11 gY h2
        repeat' (first | refine WE.assoc ?_ | refine WE.seqR ?_ | refine WO.nil ?_ | (refine WO.op1s ?_; simp only [opK, wanted, stepK, step, setDst, pureV, arith, intBin, evs, true_and, V.ev, Nat.reduceEqDiff, Nat.reduceLT, getD_ne, getD_eq, List.length_set, if_true, reduceCtorEq, *]; with_reducible show WO _ _ _ _ _) | refine WE.seqSkip ?_ | (refine WE.seqCond (t := true) ?hc (fun _ => ?_) (fun hh => Bool.noConfusion hh); case hc => simp only [V.ev, Nat.reduceLT, getD_eq, List.length_set, *]) | refine WE.block ?_)
        refine WO.call rfl ?_
        (simp only [evs, V.ev, Nat.reduceEqDiff, Nat.reduceLT, getD_ne, getD_eq, List.length_set, *])
        refine (symMerge_ok w0 hag hn2 _ (P := D1) (X := X) (Y := Y) (S := D') rfl (by have := G.out; have := H1.out; omega) (by have := G.out; have := H1.out; omega) (by have g := G.out; have h2 := H2.out; rw [← g.1]; simp; omega) (by
          have h := H.out.2
          rw [H2.out.1, G.out.2.1] at h
          exact ids_of h G.out.2.2.2.2.2.2.1 G.out.2.2.2.2.2.2.2.1) G.out.2.2.2.2.1 G.out.2.2.2.2.2.1 (s.cast (by rw [G.out.1])) (by have := H2.out; omega) (by have := H2.out; have := G.out; omega) (by have := H2.out; have := G.out; omega)).mono ?_
        rintro v h1 ⟨Z, p, o, s1⟩
        replace p := Hid.mk (And.intro p o)
        clear o
        simp only [setDst]
        repeat' (first | refine WE.seqR ?_ | refine WO.nil ?_ | (refine WO.op1s ?_; simp only [opK, wanted, stepK, step, setDst, pureV, arith, intBin, true_and, V.ev, Nat.reduceEqDiff, Nat.reduceLT, getD_ne, getD_eq, List.length_set, if_true, *]; with_reducible show WO _ _ _ _ _) | refine WE.region ?_ | (with_reducible show blockQ _ _ _ _ _; simp only [blockQ]))
        refine ⟨k2 - 2 * z, by have := hc.out; have := H1.out; omega, D1 ++ Z, L1 ++ (X' ++ Y'), D', L', a + 2 * z, ⟨?_, ?_, ?_, ?_, ?_, G.out.2.2.2.2.2.2.2.2⟩, s1.cast (by simp), ⟨by simp only [List.length_set, hl], by (simp only [getD_ne, reduceCtorEq, *]; try rfl), by (simp only [Nat.reduceEqDiff, getD_ne, *]; try rfl), by (simp only [Nat.reduceEqDiff, getD_ne, *]; try rfl)⟩, by (simp only [Nat.reduceEqDiff, getD_ne, *]; try rfl), by (simp only [Nat.reduceEqDiff, Nat.reduceLT, getD_ne, getD_eq, List.length_set, *]; try rfl), by (simp only [Nat.reduceLT, getD_eq, List.length_set, *]; try rfl)⟩
        all_goals have h2 := H2.out
        all_goals have g := G.out
        all_goals have h3 := p.out
        all_goals have h4 := hc.out
        · rw [h2.1, g.2.1]; simp
        · have := h3.1.length_eq; simp at this ⊢; omega
        · have := congrArg List.length g.1; simp only [List.length_append] at this; omega
        · omega
        · exact h2.2.2.2.2.1.snoc (by have := h3.1.length_eq; simp at this ⊢; omega) h3.2 (h3.1.trans (g.2.2.2.2.2.2.1.append g.2.2.2.2.2.2.2.1))
      · have hd : decide (((a + 2 * z : Nat) : Int) ≤ (n : Int)) = false := by simp; omega
        replace hc := Hid.mk (And.intro hc hb)
        clear hb
        repeat' (first | refine WE.assoc ?_ | refine WE.seqR ?_ | refine WO.nil ?_ | (refine WO.op1s ?_; simp only [opK, wanted, stepK, step, setDst, pureV, arith, intBin, true_and, V.ev, Nat.reduceEqDiff, Nat.reduceLT, getD_ne, getD_eq, List.length_set, if_true, *]; with_reducible show WO _ _ _ _ _) | refine WE.seqExit ?_ | (refine WE.seqCond (t := false) ?hc (fun hh => Bool.noConfusion hh) (fun _ => ?_); case hc => simp only [V.ev, Nat.reduceLT, getD_eq, List.length_set, *]))
        exact ⟨rfl, k2, by have := hc.out; omega, D1, L1, D2, L2, a, H2, s, ⟨by simp only [List.length_set, hl], by (simp only [getD_ne, reduceCtorEq, *]; try rfl), by (simp only [Nat.reduceEqDiff, getD_ne, *]; try rfl), by (simp only [Nat.reduceEqDiff, getD_ne, *]; try rfl)⟩, by (simp only [Nat.reduceEqDiff, getD_ne, *]; try rfl), by (simp only [Nat.reduceEqDiff, getD_ne, *]; try rfl), by (simp only [Nat.reduceEqDiff, getD_ne, *]; try rfl)⟩
    · clear f0 f1 f2 f6 hl s hd
      rintro ex fr h ⟨rfl, k2, hk2, D1, L1, D2, L2, a, H2, s, ⟨hl, f0, f1, f2⟩, f6, f7, f8⟩
      simp only [blockQ, seqQ, if_true]
      have hb : a ≤ n ∧ z < n ∧ a + k2 = n ∧ k2 < 2 * z := by have := H2.out; have := hzn.out; omega
      have e3 : IntKind.i64.wrap ((a : Int) + (z : Int)) = ((a + z : Nat) : Int) := wrap_add (by omega)
      have next : ∀ (Z : List Ent) fr h, Z.Pairwise (ltE (keyI ro ag)) → Z.Perm L2 → SB h0 h b (D1 ++ Z) → StF b n cap ls ro ag fr → fr.getD 6 .undef = .int .i64 ((2 * z : Nat) : Int) → ∃ k', k' < k ∧ St2 h0 b n cap ls ro ag L k' fr h := by
        intro Z fr h o p s q1 q2
        have h2 := H2.out
        have h1 := H1.out
        have hz := hzn.out
        have hl2 : L2.length = D2.length := by
          have e1 := congrArg List.length h2.1
          have e3 := H.out.1
          have e4 := (h2.2.2.2.2.1 [] [] (.last (by simp) .nil (.refl _)))
          have e5 : ∀ {D L : List Ent}, Runs (keyI ro ag) z D L → D.length = L.length := by
            intro D L r
            induction r with
            | last _ _ h3 => exact h3.length_eq
            | cons _ _ h3 _ ih => simp only [List.length_append]; rw [h3.length_eq, ih]
          exact (e5 h2.2.2.2.2.2).symm
        refine ⟨n - 2 * z, by omega, D1 ++ Z, 2 * z, ⟨?_, by omega, rfl, ?_⟩, s, q1, q2⟩
        · rw [h2.1]
          exact h2.2.2.2.2.1 _ _ (.last (by have := p.length_eq; omega) o p)
        · have := p.length_eq; simp; omega
      replace hb := Hid.mk hb
      replace next := Hid.mk next
      clear hk2
      by_cases hc : a + z < n
      · have hd : decide (((a + z : Nat) : Int) < (n : Int)) = true := by simp; omega
        replace hc := Hid.mk hc
        have h2 := H2.out
        obtain ⟨X, Y, D', X', Y', L', g1, g2, g3, g4, g5, g6, g7, g8, g9, g10, g11⟩ := h2.2.2.2.2.2.two H1.out.2.1 (by have := hc.out; have := hb.out; omega)
        have gD : D' = [] := by
          rcases g11 with g | g
          · have := congrArg List.length g1
            simp only [List.length_append] at this
            exact List.eq_nil_of_length_eq_zero (by have := hb.out; omega)
          · exact g
        subst gD
        have gL := (g10.nil rfl).2
        subst gL
        simp only [List.append_nil] at g1 g2
        have G := Hid.mk (And.intro g1 (And.intro g2 (And.intro g3 (And.intro g4 (And.intro g6 (And.intro g7 (And.intro g8 g9)))))))
        clear g1 g2 g3 g4 g5 g6 g7 g8 g9 g10 g11 h2
        repeat' (first | refine WE.assoc ?_ | refine WE.seqR ?_ | refine WO.nil ?_ | (refine WO.op1s ?_; simp only [opK, wanted, stepK, step, setDst, pureV, arith, intBin, evs, true_and, V.ev, Nat.reduceEqDiff, Nat.reduceLT, getD_ne, getD_eq, List.length_set, if_true, reduceCtorEq, *]; with_reducible show WO _ _ _ _ _) | (refine WE.seqCond (t := true) ?hc (fun _ => ?_) (fun hh => Bool.noConfusion hh); case hc => simp only [V.ev, Nat.reduceLT, getD_eq, List.length_set, *]))
        refine WO.call rfl ?_
        (simp only [evs, V.ev, Nat.reduceEqDiff, Nat.reduceLT, getD_ne, getD_eq, List.length_set, *])
        refine (symMerge_ok w0 hag hn2 _ (P := D1) (X := X) (Y := Y) (S := []) rfl (by have := G.out; have := H1.out; omega) (by have := G.out; have := H1.out; omega) (by have g := G.out; have h2 := H2.out; have := congrArg List.length g.1; simp at this ⊢; omega) (by
          have h := H.out.2
          rw [H2.out.1, G.out.2.1] at h
          exact ids_of (B := []) (by simpa using h) G.out.2.2.2.2.2.2.1 G.out.2.2.2.2.2.2.2) G.out.2.2.2.2.1 G.out.2.2.2.2.2.1 (s.cast (by rw [G.out.1]; simp)) (by have := H2.out; omega) (by have := H2.out; have := G.out; omega) (by have h2 := H2.out; have g := G.out; have := congrArg List.length g.1; simp at this; omega)).mono ?_
        rintro v h1 ⟨Z, p, o, s1⟩
        replace p := Hid.mk (And.intro p o)
        clear o
        simp only [setDst]
        repeat' (first | refine WO.nil ?_ | (refine WO.op1s ?_; simp only [opK, wanted, stepK, step, setDst, pureV, arith, intBin, true_and, V.ev, Nat.reduceEqDiff, Nat.reduceLT, getD_ne, getD_eq, List.length_set, if_true, *]; with_reducible show WO _ _ _ _ _) | refine WE.region ?_ | (with_reducible show blockQ _ _ _ _ _; simp only [blockQ]))
        exact next.out Z _ _ p.out.2 (p.out.1.trans (by have g := G.out; rw [g.2.1]; exact g.2.2.2.2.2.2.1.append g.2.2.2.2.2.2.2)) (s1.cast (by simp)) ⟨by simp only [List.length_set, hl], by (simp only [getD_ne, reduceCtorEq, *]; try rfl), by (simp only [Nat.reduceEqDiff, getD_ne, *]; try rfl), by (simp only [Nat.reduceEqDiff, getD_ne, *]; try rfl)⟩ (by (simp only [Nat.reduceLT, getD_eq, List.length_set, *]; try rfl))
      · have hd : decide (((a + z : Nat) : Int) < (n : Int)) = false := by simp; omega
        replace hc := Hid.mk hc
        have ho := H2.out.2.2.2.2.2.one (by have := hc.out; have := hb.out; have := H2.out; omega)
        replace ho := Hid.mk ho
        repeat' (first | refine WE.assoc ?_ | refine WE.seqR ?_ | refine WO.nil ?_ | (refine WO.op1s ?_; simp only [opK, wanted, stepK, step, setDst, pureV, arith, intBin, true_and, V.ev, Nat.reduceEqDiff, Nat.reduceLT, getD_ne, getD_eq, List.length_set, if_true, *]; with_reducible show WO _ _ _ _ _) | refine WE.seqSkip ?_ | (refine WE.seqCond (t := false) ?hc (fun hh => Bool.noConfusion hh) (fun _ => ?_); case hc => simp only [V.ev, Nat.reduceLT, getD_eq, List.length_set, *]) | refine WE.region ?_ | (with_reducible show blockQ _ _ _ _ _; simp only [blockQ]))
        exact next.out D2 _ _ ho.out.1 ho.out.2 s ⟨by simp only [List.length_set, hl], by (simp only [getD_ne, reduceCtorEq, *]; try rfl), by (simp only [Nat.reduceEqDiff, getD_ne, *]; try rfl), by (simp only [Nat.reduceEqDiff, getD_ne, *]; try rfl)⟩ (by (simp only [Nat.reduceLT, getD_eq, List.length_set, *]; try rfl))
  · have hd : decide ((z : Int) < (n : Int)) = false := by simp; omega
    have ho := H1.out.1.one (by have := H1.out; omega)
    replace ho := Hid.mk ho
    replace hzn := Hid.mk hzn
    repeat' (first | refine WE.assoc ?_ | refine WE.seqR ?_ | refine WO.nil ?_ | (refine WO.op1s ?_; simp only [opK, wanted, stepK, step, setDst, pureV, arith, intBin, true_and, V.ev, Nat.reduceEqDiff, Nat.reduceLT, getD_ne, getD_eq, List.length_set, if_true, *]; with_reducible show WO _ _ _ _ _) | refine WE.seqExit ?_ | (refine WE.seqCond (t := false) ?hc (fun hh => Bool.noConfusion hh) (fun _ => ?_); case hc => simp only [V.ev, Nat.reduceLT, getD_eq, List.length_set, *]) | (with_reducible show blockQ _ _ _ _ _; simp only [blockQ, if_true]))
    ((try dsimp only); refine Exists.intro _ ⟨(by (simp only [readResults, *]; try rfl)), ?_⟩)
    exact ⟨D, ho.out.2, ho.out.1, s⟩

theorem sort_ok {h0 h : Heap} (w0 : Wf h0) {ro ag : Int} (hag : ag ≠ 0) {b n cap ls : Nat} {L : List Ent} (hn : n = L.length) (hn2 : n ≤ 100000) (hid : L.Pairwise fun x y => x.id < y.id) (s : SB h0 h b L) :
    WC E35 38 [.slice b 0 n cap ls, cmpV ro ag] h fun _ h' => ∃ Z : List Ent, Z.Perm L ∧ Z.Pairwise (ltE (keyI ro ag)) ∧ SB h0 h' b Z := by
  refine WC.fn1 (n := 9) rfl rfl (by rfl) ?_
  intro fr hl ha
  have f0 : fr.getD 0 .undef = .slice b 0 n cap ls := ha 0
  have f1 : fr.getD 1 .undef = cmpV ro ag := ha 1
  clear ha
  have e1 : lenI (.slice b 0 n cap ls) = some n := rfl
  have H := Hid.mk (And.intro hn hid)
  clear hn hid
  unfold v38
  repeat' (first | (refine WO.lenOfE ?_; simp only [setDst, V.ev, Nat.reduceLT, getD_eq, List.length_set, *]; refine ⟨_, rfl, ?_⟩) | (refine WO.op1s ?_; simp only [opK, wanted, stepK, step, setDst, evs, true_and, V.ev, Nat.reduceEqDiff, Nat.reduceLT, getD_ne, getD_eq, List.length_set, reduceCtorEq, *]; with_reducible show WO _ _ _ _ _) | refine WE.region ?_)
  refine WO.call rfl ?_
  (simp only [evs, V.ev, Nat.reduceEqDiff, Nat.reduceLT, getD_ne, getD_eq, List.length_set, *])
  refine (stable_ok w0 hag H.out.1 hn2 H.out.2 s).mono ?_
  rintro v h1 z
  replace z := Hid.mk z
  simp only [setDst]
  repeat' (first | refine WO.nil ?_)
  ((try dsimp only); refine Exists.intro _ ⟨(by (simp only [readResults, *]; try rfl)), ?_⟩)
  exact z.out

end Go.V
end

section
set_option linter.unusedVariables false
set_option linter.unusedSimpArgs false
set_option linter.unusedSectionVars false
-- BUILDS
-- NEW
set_option maxHeartbeats 4000000
namespace Go.V
attribute [local irreducible] stepK opK opV

/-- A number's cells. -/
def icell (n : Int) : List Val := [.int .i64 n]

def Ei (h : Heap) (s : Val) (es : List Int) : Prop := Sl h s 1 es.length (es.flatMap icell)

theorem Keep.ei {h h' : Heap} (g : Keep h h') {s : Val} {es : List Int} (e : Ei h s es) : Ei h' s es := Keep.sl g e

theorem icell_eq (es : List Int) : es.flatMap icell = es.map (Val.int .i64) := by
  induction es with
  | nil => rfl
  | cons e es ih => simp [icell, ih]

theorem Ei.elt {h : Heap} {s : Val} {es : List Int} (e : Ei h s es) {k : IntKind} {i : Nat} (hi : i < es.length) : ∃ b o, eltI 1 s (.int k (i : Int)) = some (.ptr b o) ∧ ∀ h', Keep h h' → h'.load b o 1 = some [.int .i64 es[i]] := by
  obtain ⟨b, o, h1, h2⟩ := Sl.elt e (k := k) hi (by omega)
  refine ⟨b, o, h1, fun h' g => ?_⟩
  have := h2 h' g 0 1 (by omega)
  rw [Nat.add_zero, Nat.add_zero, Nat.mul_one, icell_eq, List.take_one] at this
  simpa [List.head?_drop, List.getElem?_eq_getElem hi] using this

abbrev zeroI : List Val := [.int .i64 0]

theorem growi_ok {h : Heap} (w : Wf h) {n : Nat} (hn : n ≤ 1000000) : WC E35 56 [.nils, .int .i64 (n : Int)] h fun v h' => Grow h h' ∧ Own h h' v 1 [] ∧ (0 < n → ∃ b cells, v = .slice b 0 0 n 1 ∧ h.next ≤ b ∧ h'.get b = some (.cells cells) ∧ cells.length = n * 1) := by
  refine WC.fn1 (n := 27) rfl rfl (by rfl) ?_
  intro fr hl ha
  have h0 : fr.getD 0 .undef = .nils := ha 0
  have h1 : fr.getD 1 .undef = .int .i64 (n : Int) := ha 1
  clear ha
  have hd : decide ((n : Int) < 0) = false := by simp <;> omega
  have hw0 : IntKind.i64.wrap (0 - 0) = 0 := rfl
  have hw1 : IntKind.i64.wrap ((n : Int) - 0) = (n : Int) := by rw [Int.sub_zero]; exact wrap_i64 (by omega) (by omega)
  have hlen : lenI .nils = some 0 := rfl
  have hc0 : ((0 : Nat) : Int) = 0 := rfl
  unfold v56
  by_cases hn0 : n = 0
  · have hd2 : decide ((n : Int) > 0) = false := by simp <;> omega
    repeat' (first | refine WE.assoc ?_ | refine WE.seqR ?_ | refine WO.nil ?_ | (refine WO.lenOfE ?_; simp only [setDst, V.ev, Nat.reduceLT, getD_eq, List.length_set, *]; refine ⟨_, rfl, ?_⟩) | (refine WO.op1s ?_; simp only [opK, wanted, stepK, step, setDst, pureV, arith, intBin, true_and, V.ev, Nat.reduceEqDiff, Nat.reduceLT, Nat.reduceMul, Int.reduceLT, Int.reduceGT, decide_false, getD_ne, getD_eq, List.length_set, if_true, reduceCtorEq, *]; with_reducible show WO _ _ _ _ _) | refine WE.seqSkip ?_ | (refine WE.seqCond (t := false) ?hc (fun hh => Bool.noConfusion hh) (fun _ => ?_); case hc => simp only [V.ev, Nat.reduceLT, getD_eq, List.length_set, *]) | refine WE.ret ?_)
    ((try dsimp only); refine Exists.intro _ ⟨(by (simp only [readResults, Nat.reduceLT, getD_eq, List.length_set, *]; try rfl)), ?_⟩)
    exact ⟨.refl _, .inl ⟨rfl, rfl⟩, fun q => by first | omega | (simp at q; done) | exact absurd q (by omega)⟩
  · have hd2 : decide ((n : Int) > 0) = true := by simp <;> omega
    repeat' (first | refine WE.assoc ?_ | refine WE.seqR ?_ | refine WO.nil ?_ | (refine WO.lenOfE ?_; simp only [setDst, V.ev, Nat.reduceLT, getD_eq, List.length_set, *]; refine ⟨_, rfl, ?_⟩) | (refine WO.op1s ?_; simp only [opK, wanted, stepK, step, setDst, pureV, arith, intBin, true_and, V.ev, Nat.reduceEqDiff, Nat.reduceLT, getD_ne, getD_eq, List.length_set, if_true, reduceCtorEq, *]; with_reducible show WO _ _ _ _ _) | refine WE.seqSkip ?_ | (refine WE.seqCond (t := true) ?hc (fun _ => ?_) (fun hh => Bool.noConfusion hh); case hc => simp only [V.ev, Nat.reduceLT, getD_eq, List.length_set, *]) | (refine WE.seqCond (t := false) ?hc (fun hh => Bool.noConfusion hh) (fun _ => ?_); case hc => simp only [V.ev, Nat.reduceLT, getD_eq, List.length_set, *]))
    (refine WO.op1 ?_; simp only [opK, wanted, setDst, *])
    refine stepK_hi_nil (by (simp only [V.ev, Nat.reduceEqDiff, Nat.reduceLT, getD_ne, getD_eq, List.length_set, *]; try rfl)) (by (simp only [V.ev, Nat.reduceLT, getD_eq, List.length_set, *]; try rfl)) ?_
    repeat' (first | (refine WO.op1s ?_; simp only [opK, wanted, stepK, step, setDst, List.length_cons, List.length_nil, true_and, and_true, V.ev, Nat.reduceEqDiff, Nat.reduceLT, Nat.zero_add, getD_ne, getD_eq, List.length_set, *]; with_reducible show WO _ _ _ _ _))
    (refine WO.op1 ?_; simp only [opK, wanted, setDst, *])
    refine stepK_appendZ (n := n) (zero := zeroI) w (.refl _) (by (simp only [V.ev, Nat.reduceEqDiff, Nat.reduceLT, getD_ne, getD_eq, List.length_set, *]; try rfl)) (by (simp only [V.ev, Nat.reduceLT, getD_eq, List.length_set, *]; try rfl)) (by rfl) (by omega) (by omega) (by rw [maxB]; omega) (by rw [maxB]; omega) fun b h2 g hb hg => ?_
    repeat' (first | (refine WO.lenOfE ?_; simp only [setDst, V.ev, Nat.reduceLT, getD_eq, List.length_set, *]; refine ⟨_, rfl, ?_⟩) | (refine WO.op1s ?_; simp only [opK, wanted, stepK, step, setDst, pureV, true_and, V.ev, Nat.reduceEqDiff, Nat.reduceLT, getD_ne, getD_eq, List.length_set, reduceCtorEq, *]; with_reducible show WO _ _ _ _ _))
    refine WO.op1 ?_
    simp only [opK, wanted, setDst]
    refine stepK_hi0 (sz := 1) (x := .t 22) (y := .t 24) (ik := .i64) (b := b) (o := 0) (n := n) (cap := n) (ls := 1) ?_ ?_ ?_ ?_
    · (simp only [V.ev, Nat.reduceEqDiff, Nat.reduceLT, getD_ne, getD_eq, List.length_set, *]; try rfl)
    · (simp only [V.ev, Nat.reduceLT, getD_eq, List.length_set, *]; try rfl)
    · exact .inr rfl
    repeat' (first | refine WE.seqR ?_ | refine WO.nil ?_ | (refine WO.op1s ?_; simp only [opK, wanted, stepK, step, setDst, true_and, V.ev, Nat.reduceLT, getD_eq, List.length_set, *]; with_reducible show WO _ _ _ _ _) | refine WE.ret ?_)
    ((try dsimp only); refine Exists.intro _ ⟨(by (simp only [readResults, Nat.reduceLT, getD_eq, List.length_set, *]; try rfl)), ?_⟩)
    have hcl : (repeatL zeroI n).length = n * 1 := repeatL_length _ _
    exact ⟨g, .inr ⟨b, 0, n, 1, _, rfl, .inr rfl, hb, hg, Nat.zero_le _, hcl, rfl, rfl⟩, fun _ => ⟨b, _, rfl, hb, hg, hcl⟩⟩

/-- A list of lists of entries in memory. -/
structure Eis (h : Heap) (s : Val) (ess : List (List Int)) (vals : List Val) : Prop where
  sl : Sl h s 1 vals.length vals
  len : vals.length = ess.length
  es : ∀ i (hi : i < ess.length), Ei h (vals[i]'(by omega)) ess[i]
  small : ess.length ≤ 1000 ∧ ess.flatten.length ≤ 1000000

def sumLi (ess : List (List Int)) (i : Nat) : Nat := (ess.take i).flatten.length

theorem sumLi_succ {ess : List (List Int)} {i : Nat} (hi : i < ess.length) : sumLi ess (i + 1) = sumLi ess i + ess[i].length := by
  unfold sumLi
  rw [List.take_succ_eq_append_getElem hi, List.flatten_append, List.length_append]
  simp

theorem flatteni_take_le (ess : List (List Int)) (i : Nat) : (ess.take i).flatten.length ≤ ess.flatten.length := by
  have : ess.flatten = (ess.take i).flatten ++ (ess.drop i).flatten := by rw [← List.flatten_append, List.take_append_drop]
  rw [this, List.length_append]; omega

theorem sumLi_le (ess : List (List Int)) (i : Nat) : sumLi ess i ≤ ess.flatten.length := flatteni_take_le ess i

def SumIi (h : Heap) (s : Val) (ess : List (List Int)) (k : Nat) (fr : List Val) (h' : Heap) : Prop := h' = h ∧ ∃ i : Nat, i + k = ess.length ∧ fr.length = 36 ∧ fr.getD 0 .undef = s ∧ fr.getD 9 .undef = s ∧ fr.getD 10 .undef = .int .i64 (ess.length : Int) ∧ fr.getD 11 .undef = .int .i64 (i : Int) ∧ fr.getD 3 .undef = .int .i64 (sumLi ess i : Int)

def CatIi (h : Heap) (s : Val) (ess : List (List Int)) (k : Nat) (fr : List Val) (h' : Heap) : Prop := Grow h h' ∧ ∃ i : Nat, i + k = ess.length ∧ fr.length = 36 ∧ fr.getD 25 .undef = s ∧ fr.getD 26 .undef = .int .i64 (ess.length : Int) ∧ fr.getD 27 .undef = .int .i64 (i : Int) ∧
  Own h h' (fr.getD 6 .undef) 1 ((ess.take i).flatten.flatMap icell)

theorem onesi (es : List Int) : (es.flatMap icell).all Val.one = true := by
  rw [List.all_flatMap]
  simp [icell, Val.one]

theorem celli_len (es : List Int) : (es.flatMap icell).length = es.length * 1 := flat_len (f := icell) (fun _ => rfl) es

theorem concati_ok {h : Heap} (w : Wf h) {s : Val} {ess : List (List Int)} {vals : List Val} (e : Eis h s ess vals) : WC E35 48 [s] h fun v h' => Grow h h' ∧ Own h h' v 1 (ess.flatten.flatMap icell) := by
  refine WC.fn1 (n := 36) rfl rfl (by rfl) ?_
  intro fr hl ha
  have h0 : fr.getD 0 .undef = s := ha 0
  clear ha
  have hlen := e.sl.lenI
  rw [e.len] at hlen
  have hsm := e.small
  unfold v48
  repeat' (first | refine WE.assoc ?_ | refine WE.seqR ?_ | refine WO.nil ?_ | (refine WO.lenOfE ?_; simp only [setDst, V.ev, Nat.reduceLT, getD_eq, List.length_set, *]; refine ⟨_, rfl, ?_⟩) | (refine WO.op1s ?_; simp only [opK, wanted, stepK, step, setDst, true_and, V.ev, getD_ne, reduceCtorEq, *]; with_reducible show WO _ _ _ _ _) | refine WE.seqBlock ?_)
  refine WE.loop (SumIi h s ess) ?_ ess.length _ _ ⟨rfl, 0, by omega, by simp only [List.length_set, hl], by (simp only [getD_ne, reduceCtorEq, *]; try rfl), by (simp only [Nat.reduceEqDiff, Nat.reduceLT, getD_ne, getD_eq, List.length_set, *]; try rfl), by (simp only [Nat.reduceEqDiff, Nat.reduceLT, getD_ne, getD_eq, List.length_set, *]; try rfl), by (simp only [Nat.reduceLT, Int.cast_ofNat_Int, getD_eq, List.length_set, *]; try rfl), by (simp only [Nat.reduceEqDiff, Nat.reduceLT, getD_ne, getD_eq, List.length_set, *]; try rfl)⟩
  clear h0 hl
  rintro k fr2 h2 ⟨rfl, i, hik, hl, h0, h9, h10, h11, hst⟩
  have hsum := sumLi_le ess i
  by_cases hlt : i < ess.length
  · have hd : decide ((i : Int) < (ess.length : Int)) = true := by simp <;> omega
    have hlt' : i < vals.length := by rw [e.len]; exact hlt
    obtain ⟨bx, o, he, l1⟩ := e.sl.elt1 (k := .i64) hlt'
    have l1' := l1 _ (.refl _)
    have hes := (e.es i hlt).lenI
    have hsucc := sumLi_succ hlt
    have hsum2 := sumLi_le ess (i + 1)
    have hw : IntKind.i64.wrap ((sumLi ess i : Int) + (ess[i].length : Int)) = ((sumLi ess (i + 1) : Nat) : Int) := by rw [wrap_i64 (by omega) (by omega)]; omega
    have hd2 : decide (((sumLi ess (i + 1) : Nat) : Int) < 0) = false := by simp <;> omega
    have hwi : IntKind.i64.wrap ((i : Int) + 1) = ((i + 1 : Nat) : Int) := by rw [wrap_i64 (by omega) (by omega)]; omega
    clear l1 hsucc hsum2
    obtain ⟨S, hS⟩ : ∃ S, sumLi ess (i + 1) = S := ⟨_, rfl⟩
    rw [hS] at hw hd2
    repeat' (first | refine WE.seqR ?_ | refine WO.nil ?_ | (refine WO.lenOfE ?_; simp only [setDst, V.ev, Nat.reduceLT, getD_eq, List.length_set, *]; refine ⟨_, rfl, ?_⟩) | (refine WO.iaddrE ?_; simp only [setDst, V.ev, Nat.reduceEqDiff, getD_ne, *]; refine ⟨_, rfl, ?_⟩) | (refine WO.op1s ?_; simp only [opK, wanted, stepK, step, setDst, pureV, arith, intBin, true_and, V.ev, Nat.reduceEqDiff, Nat.reduceLT, Bool.false_eq_true, getD_ne, getD_eq, List.length_set, if_true, if_false, *]; with_reducible show WO _ _ _ _ _) | refine WE.seqSkip ?_ | (refine WE.seqCond (t := true) ?hc (fun _ => ?_) (fun hh => Bool.noConfusion hh); case hc => simp only [V.ev, Nat.reduceLT, getD_eq, *]) | refine WE.skip ?_ | (refine WE.cond2 (t := false) ?hc (fun hh => Bool.noConfusion hh) (fun _ => ?_); case hc => simp only [V.ev, Nat.reduceLT, getD_eq, List.length_set, *]) | refine WE.region ?_ | refine WE.seqBlock ?_)
    exact ⟨k - 1, by omega, rfl, i + 1, by omega, by simp only [List.length_set, hl], by (simp only [getD_ne, reduceCtorEq, *]; try rfl), by (simp only [Nat.reduceEqDiff, getD_ne, *]; try rfl), by (simp only [Nat.reduceEqDiff, getD_ne, *]; try rfl), by (simp only [Nat.reduceLT, getD_eq, List.length_set, *]; try rfl), by (simp only [Nat.reduceEqDiff, Nat.reduceLT, getD_ne, getD_eq, List.length_set, *]; try rfl)⟩
  · have hd : decide ((i : Int) < (ess.length : Int)) = false := by simp <;> omega
    obtain rfl : i = ess.length := by omega
    have hfull : sumLi ess ess.length = ess.flatten.length := by unfold sumLi; rw [List.take_length]
    rw [hfull] at hst hsum
    have wB := w
    have gg := Grow.refl h2
    repeat' (first | refine WE.seqR ?_ | refine WO.nil ?_ | (refine WO.op1s ?_; simp only [opK, wanted, stepK, step, setDst, pureV, arith, intBin, evs, true_and, V.ev, Nat.reduceEqDiff, Nat.reduceLT, getD_ne, getD_eq, List.length_set, if_true, *]; with_reducible show WO _ _ _ _ _) | refine WE.seqExit ?_ | (refine WE.seqCond (t := false) ?hc (fun hh => Bool.noConfusion hh) (fun _ => ?_); case hc => simp only [V.ev, Nat.reduceLT, getD_eq, *]))
    refine WO.call rfl ?_
    (simp only [evs, V.ev, Nat.reduceLT, getD_eq, List.length_set, *])
    refine (growi_ok w (by omega)).mono ?_
    rintro v h3 ⟨g3, ho, _⟩
    simp only [setDst]
    repeat' (first | refine WE.assoc ?_ | refine WE.seqR ?_ | refine WO.nil ?_ | (refine WO.lenOfE ?_; simp only [setDst, V.ev, Nat.reduceLT, getD_eq, List.length_set, *]; refine ⟨_, rfl, ?_⟩) | (refine WO.op1s ?_; simp only [opK, wanted, stepK, step, setDst, true_and, V.ev, Nat.reduceLT, getD_ne, getD_eq, List.length_set, reduceCtorEq, *]; with_reducible show WO _ _ _ _ _) | refine WE.seqBlock ?_)
    refine WE.loop (CatIi h2 s ess) ?_ ess.length _ _ ⟨g3, 0, by omega, by simp only [List.length_set, hl], by (simp only [Nat.reduceEqDiff, Nat.reduceLT, getD_ne, getD_eq, List.length_set, *]; try rfl), by (simp only [Nat.reduceEqDiff, Nat.reduceLT, getD_ne, getD_eq, List.length_set, *]; try rfl), by (simp only [Nat.reduceLT, Int.cast_ofNat_Int, getD_eq, List.length_set, *]; try rfl), by (simp only [Nat.reduceEqDiff, Nat.reduceLT, getD_ne, getD_eq, List.length_set, *]; try rfl); exact ho⟩
    clear hl h0 h9 h10 h11 hst gg ho
    rintro k fr3 h4 ⟨gg, i, hik, hl, h25, h26, h27, ho⟩
    by_cases hlt : i < ess.length
    · have hd : decide ((i : Int) < (ess.length : Int)) = true := by simp <;> omega
      have hlt' : i < vals.length := by rw [e.len]; exact hlt
      obtain ⟨bx, o, he, l1⟩ := e.sl.elt1 (k := .i64) hlt'
      have l1' := l1 _ gg
      have hes := Keep.ei gg.kp (e.es i hlt)
      have hwi : IntKind.i64.wrap ((i : Int) + 1) = ((i + 1 : Nat) : Int) := by rw [wrap_i64 (by omega) (by omega)]; omega
      have hle := flatteni_take_le ess (i + 1)
      have hsucc := sumLi_succ hlt
      unfold sumLi at hsucc
      clear l1
      repeat' (first | refine WE.seqR ?_ | refine WO.nil ?_ | (refine WO.iaddrE ?_; simp only [setDst, V.ev, Nat.reduceEqDiff, getD_ne, *]; refine ⟨_, rfl, ?_⟩) | (refine WO.op1s ?_; simp only [opK, wanted, stepK, step, setDst, pureV, arith, intBin, true_and, V.ev, Nat.reduceEqDiff, Nat.reduceLT, Bool.false_eq_true, getD_ne, getD_eq, List.length_set, if_true, if_false, *]; with_reducible show WO _ _ _ _ _) | refine WE.seqSkip ?_ | (refine WE.seqCond (t := true) ?hc (fun _ => ?_) (fun hh => Bool.noConfusion hh); case hc => simp only [V.ev, Nat.reduceLT, getD_eq, *]) | refine WE.region ?_ | refine WE.seqBlock ?_)
      (refine WO.op1 ?_; simp only [opK, wanted, setDst, *])
      refine stepK_append w gg (by (simp only [V.ev, Nat.reduceEqDiff, Nat.reduceLT, getD_ne, getD_eq, List.length_set, *]; try rfl)) (by (simp only [V.ev, Nat.reduceLT, getD_eq, List.length_set, *]; try rfl)) ho hes (by omega) (onesi _) (by rw [celli_len, celli_len]; rw [maxB]; omega) (by rw [celli_len, celli_len]; rw [maxB]; omega) (by omega) fun v' h5 g5 ho5 => ?_
      repeat' (first | refine WO.nil ?_ | (refine WO.op1s ?_; simp only [opK, wanted, stepK, step, setDst, pureV, arith, intBin, true_and, V.ev, Nat.reduceEqDiff, Nat.reduceLT, getD_ne, getD_eq, List.length_set, if_true, *]; with_reducible show WO _ _ _ _ _) | refine WE.region ?_)
      refine ⟨k - 1, by omega, g5, i + 1, by omega, by simp only [List.length_set, hl], by (simp only [Nat.reduceEqDiff, getD_ne, *]; try rfl), by (simp only [Nat.reduceEqDiff, getD_ne, *]; try rfl), by (simp only [Nat.reduceLT, getD_eq, List.length_set, *]; try rfl), ?_⟩
      simp only [Nat.reduceEqDiff, Nat.reduceLT, getD_ne, getD_eq, List.length_set, *]
      rw [List.take_succ_eq_append_getElem hlt, List.flatten_append, List.flatMap_append]
      simpa using ho5
    · have hd : decide ((i : Int) < (ess.length : Int)) = false := by simp <;> omega
      obtain rfl : i = ess.length := by omega
      rw [List.take_length] at ho
      repeat' (first | refine WE.seqR ?_ | refine WO.nil ?_ | (refine WO.op1s ?_; simp only [opK, wanted, stepK, step, setDst, pureV, arith, intBin, true_and, V.ev, Nat.reduceEqDiff, Nat.reduceLT, getD_ne, getD_eq, List.length_set, if_true, *]; with_reducible show WO _ _ _ _ _) | refine WE.seqExit ?_ | (refine WE.seqCond (t := false) ?hc (fun hh => Bool.noConfusion hh) (fun _ => ?_); case hc => simp only [V.ev, Nat.reduceLT, getD_eq, *]) | refine WE.ret ?_)
      ((try dsimp only); refine Exists.intro _ ⟨(by (simp only [readResults, Nat.reduceLT, getD_eq, List.length_set, *]; try rfl)), ?_⟩)
      exact ⟨gg, ho⟩

/-- What 'own' makes: new memory, without spare capacity. -/
def OwnI (h0 h : Heap) (v : Val) (es : List Int) : Prop := (es = [] ∧ v = .nils) ∨ (es ≠ [] ∧ ∃ b, v = .slice b 0 es.length es.length 0 ∧ h0.next ≤ b ∧ h.get b = some (.cells (es.flatMap icell)))

theorem OwnI.es {h0 h : Heap} {v : Val} {es : List Int} (o : OwnI h0 h v es) : Ei h v es := by
  refine ⟨celli_len es, ?_⟩
  rcases o with ⟨rfl, rfl⟩ | ⟨_, b, rfl, _, hg⟩
  · exact .inl ⟨rfl, rfl⟩
  · refine .inr ⟨b, 0, es.length, 0, rfl, .inl rfl, Nat.le_refl _, .inr ?_⟩
    rw [load_get hg (by rw [celli_len]; omega), List.drop_zero, ← celli_len, List.take_length]

theorem owni_ok {h : Heap} (w : Wf h) {s : Val} {ess : List (List Int)} {vals : List Val} (e : Eis h s ess vals) : WC E35 40 [s] h fun v h' => Grow h h' ∧ OwnI h h' v ess.flatten := by
  refine WC.fn1 (n := 17) rfl rfl (by rfl) ?_
  intro fr hl ha
  have h0 : fr.getD 0 .undef = s := ha 0
  clear ha
  have hsm := e.small
  unfold v40
  repeat' (first | refine WE.seqR ?_ | refine WO.nil ?_ | (refine WO.op1s ?_; simp only [opK, wanted, stepK, step, setDst, evs, true_and, V.ev, Nat.reduceLT, getD_ne, getD_eq, List.length_set, reduceCtorEq, *]; with_reducible show WO _ _ _ _ _))
  refine WO.call rfl ?_
  (simp only [evs, V.ev, Nat.reduceLT, getD_eq, List.length_set, *])
  refine (concati_ok w e).mono ?_
  rintro v h3 ⟨g3, ho⟩
  simp only [setDst]
  obtain ⟨n, hn, hsl⟩ := ho.sl (by omega)
  rw [celli_len] at hn
  obtain rfl : n = ess.flatten.length := by omega
  have hlen := hsl.lenI
  by_cases h0' : ess.flatten = []
  · have hd : ((ess.flatten.length : Int) == 0) = true := by rw [h0']; rfl
    repeat' (first | refine WE.assoc ?_ | refine WE.seqR ?_ | refine WO.nil ?_ | (refine WO.lenOfE ?_; simp only [setDst, V.ev, Nat.reduceLT, getD_eq, List.length_set, *]; refine ⟨_, rfl, ?_⟩) | (refine WO.op1s ?_; simp only [opK, wanted, stepK, step, setDst, eqVal, eqAt, eqv, Val.isAgg, Val.cells, List.length_nil, true_and, and_self, Bool.and_true, List.getElem?_cons_zero, V.ev, Nat.reduceLT, Bool.false_eq_true, beq_self_eq_true, Int.cast_ofNat_Int, getD_eq, List.length_set, if_true, if_false, Bool.not_true, *]; with_reducible show WO _ _ _ _ _) | refine WE.seqRet ?_ | (refine WE.seqCond (t := true) ?hc (fun _ => ?_) (fun hh => Bool.noConfusion hh); case hc => simp only [V.ev, Nat.reduceLT, getD_eq, List.length_set, *]))
    ((try dsimp only); refine Exists.intro _ ⟨(by (simp only [readResults, Nat.reduceLT, getD_eq, List.length_set, *]; try rfl)), ?_⟩)
    exact ⟨g3, by first | exact .inl ⟨h0', rfl⟩ | exact .inl ⟨rfl, rfl⟩⟩
  · have hpos : 0 < ess.flatten.length := List.length_pos_iff.2 h0'
    have hd : ((ess.flatten.length : Int) == 0) = false := by rw [beq_eq_false_iff_ne]; omega
    repeat' (first | refine WE.assoc ?_ | refine WE.seqR ?_ | refine WO.nil ?_ | (refine WO.lenOfE ?_; simp only [setDst, V.ev, Nat.reduceLT, getD_eq, List.length_set, *]; refine ⟨_, rfl, ?_⟩) | (refine WO.op1s ?_; simp only [opK, wanted, stepK, step, setDst, eqVal, eqAt, eqv, Val.isAgg, Val.cells, List.length_cons, List.length_nil, true_and, and_true, and_self, Bool.and_true, List.getElem?_cons_zero, V.ev, Nat.reduceEqDiff, Nat.reduceLT, Nat.zero_add, Bool.false_eq_true, getD_ne, getD_eq, List.length_set, if_true, if_false, Bool.not_false, *]; with_reducible show WO _ _ _ _ _) | refine WE.seqSkip ?_ | (refine WE.seqCond (t := false) ?hc (fun hh => Bool.noConfusion hh) (fun _ => ?_); case hc => simp only [V.ev, Nat.reduceLT, getD_eq, List.length_set, *]))
    (refine WO.op1 ?_; simp only [opK, wanted, setDst, *])
    refine stepK_make w g3 (n := ess.flatten.length) (by (simp only [V.ev, Nat.reduceLT, getD_eq, List.length_set, *]; try rfl)) (by (simp only [V.ev, Nat.reduceLT, getD_eq, List.length_set, *]; try rfl)) (by rfl) (by rw [maxB]; omega) (by rw [maxB]; omega) fun b h4 g4 hb hg4 k4 => ?_
    have hsl4 := Keep.sl k4 hsl
    repeat' (first | refine WE.seqR ?_ | refine WO.nil ?_ | (refine WO.op1s ?_; simp only [opK, wanted, stepK, step, setDst, true_and, V.ev, Nat.reduceEqDiff, Nat.reduceLT, getD_ne, getD_eq, List.length_set, *]; with_reducible show WO _ _ _ _ _))
    (refine WO.op1 ?_; simp only [opK, wanted, setDst, *])
    refine stepK_copy w g4 (by (simp only [V.ev, Nat.reduceEqDiff, Nat.reduceLT, getD_ne, getD_eq, List.length_set, *]; try rfl)) (by (simp only [V.ev, Nat.reduceLT, getD_eq, List.length_set, *]; try rfl)) hsl4 hb hg4 (repeatL_length _ _) (by omega) (onesi _) fun h5 g5 hg5 => ?_
    repeat' (first | refine WE.seqR ?_ | refine WO.nil ?_ | (refine WO.op1s ?_; simp only [opK, wanted, stepK, step, setDst, true_and, V.ev, Nat.reduceEqDiff, Nat.reduceLT, getD_ne, getD_eq, List.length_set, *]; with_reducible show WO _ _ _ _ _) | refine WE.ret ?_)
    ((try dsimp only); refine Exists.intro _ ⟨(by (simp only [readResults, Nat.reduceLT, getD_eq, List.length_set, *]; try rfl)), ?_⟩)
    exact ⟨g5, .inr ⟨h0', b, rfl, hb, hg5⟩⟩

end Go.V
end

section
set_option linter.unusedVariables false
set_option linter.unusedSimpArgs false
set_option linter.unusedSectionVars false
-- DRAWS
-- NEW
set_option maxHeartbeats 1000000
namespace Go.V
attribute [local irreducible] stepK opK opV

def HasI (h : Heap) (s : Val) (l : List Int) (n : Int) (k : Nat) (fr : List Val) (h' : Heap) : Prop := h' = h ∧ ∃ i : Nat, i + k = l.length ∧ fr.length = 18 ∧ fr.getD 0 .undef = s ∧ fr.getD 1 .undef = .int .i64 n ∧ fr.getD 5 .undef = .int .i64 (i : Int) ∧ Hid (n ∉ l.take i)

theorem has_ok {h : Heap} (w : Wf h) {s : Val} {l : List Int} {n : Int} (hs : Ei h s l) (hn : l.length < 4611686018427387904) : WC E35 21 [s, .int .i64 n] h fun v h' => Grow h h' ∧ v = .int .i64 (if n ∈ l then 1 else 0) := by
  refine WC.fn1 (n := 18) rfl rfl (by rfl) ?_
  intro fr hl ha
  have h0 : fr.getD 0 .undef = s := ha 0
  have h1 : fr.getD 1 .undef = .int .i64 n := ha 1
  clear ha
  have hlen := Sl.lenI hs
  unfold v21
  repeat' (first | refine WE.assoc ?_ | refine WE.seqR ?_ | refine WO.nil ?_ | (refine WO.op1s ?_; simp only [opK, wanted, stepK, step, setDst, true_and, V.ev, *]; with_reducible show WO _ _ _ _ _) | refine WE.seqBlock ?_)
  refine WE.loop (HasI h s l n) ?_ l.length _ _ ⟨rfl, 0, by omega, by simp only [List.length_set, hl], by (simp only [getD_ne, reduceCtorEq, *]; try rfl), by (simp only [Nat.reduceEqDiff, getD_ne, *]; try rfl), by (simp only [Nat.reduceLT, Int.cast_ofNat_Int, getD_eq, List.length_set, *]; try rfl), ⟨by simp⟩⟩
  clear h0 h1 hl
  rintro k fr2 h2 ⟨rfl, i, hik, hl, h0, h1, h5, H⟩
  by_cases hlt : i < l.length
  · have hd : decide ((i : Int) < (l.length : Int)) = true := by simp; omega
    obtain ⟨bx, o, he, l1⟩ := Ei.elt hs (k := .i64) hlt
    replace l1 := l1 _ (.refl _)
    have hwi : IntKind.i64.wrap ((i : Int) + 1) = ((i + 1 : Nat) : Int) := wrap_add (b := 1) (by omega)
    by_cases hx : l[i] = n
    · have hd2 : (l[i] == n) = true := by simpa using hx
      replace hx := Hid.mk hx
      repeat' (first | refine WE.assoc ?_ | refine WE.seqR ?_ | refine WO.nil ?_ | (refine WO.lenOfE ?_; simp only [setDst, V.ev, Nat.reduceLT, getD_eq, List.length_set, *]; refine ⟨_, rfl, ?_⟩) | (refine WO.iaddrE ?_; simp only [setDst, V.ev, Nat.reduceEqDiff, Nat.reduceLT, getD_ne, getD_eq, List.length_set, *]; refine ⟨_, rfl, ?_⟩) | (refine WO.op1s ?_; simp only [opK, wanted, stepK, step, setDst, pureV, arith, intBin, eqVal, eqAt, eqv, Val.isAgg, Val.cells, true_and, and_self, Bool.and_true, List.getElem?_cons_zero, V.ev, Nat.reduceEqDiff, Nat.reduceLT, Bool.false_eq_true, getD_ne, getD_eq, List.length_set, if_true, if_false, reduceCtorEq, Bool.not_true, *]; with_reducible show WO _ _ _ _ _) | refine WE.seqSkip ?_ | (refine WE.seqCond (t := true) ?hc (fun _ => ?_) (fun hh => Bool.noConfusion hh); case hc => simp only [V.ev, Nat.reduceLT, getD_eq, List.length_set, *]) | (refine WE.cond2 (t := true) ?hc (fun _ => ?_) (fun hh => Bool.noConfusion hh); case hc => simp only [V.ev, Nat.reduceLT, getD_eq, List.length_set, *]) | refine WE.ret ?_ | refine WE.seqBlock ?_ | (with_reducible show blockQ _ _ _ _ _; simp only [blockQ, seqQ]))
      ((try dsimp only); refine Exists.intro _ ⟨(by (simp only [readResults, Nat.reduceLT, getD_eq, List.length_set, *]; try rfl)), ?_⟩)
      refine ⟨.refl _, ?_⟩
      rw [if_pos (by rw [← hx.out]; exact List.getElem_mem hlt)]
      rfl
    · have hd2 : (l[i] == n) = false := by simpa using hx
      replace hx := Hid.mk hx
      repeat' (first | refine WE.assoc ?_ | refine WE.seqR ?_ | refine WO.nil ?_ | (refine WO.lenOfE ?_; simp only [setDst, V.ev, Nat.reduceLT, getD_eq, List.length_set, *]; refine ⟨_, rfl, ?_⟩) | (refine WO.iaddrE ?_; simp only [setDst, V.ev, Nat.reduceEqDiff, Nat.reduceLT, getD_ne, getD_eq, List.length_set, *]; refine ⟨_, rfl, ?_⟩) | (refine WO.op1s ?_; simp only [opK, wanted, stepK, step, setDst, pureV, arith, intBin, eqVal, eqAt, eqv, Val.isAgg, Val.cells, true_and, and_self, Bool.and_true, List.getElem?_cons_zero, V.ev, Nat.reduceEqDiff, Nat.reduceLT, Bool.false_eq_true, getD_ne, getD_eq, List.length_set, if_true, if_false, reduceCtorEq, Bool.not_false, *]; with_reducible show WO _ _ _ _ _) | refine WE.seqSkip ?_ | (refine WE.seqCond (t := true) ?hc (fun _ => ?_) (fun hh => Bool.noConfusion hh); case hc => simp only [V.ev, Nat.reduceLT, getD_eq, List.length_set, *]) | refine WE.skip ?_ | (refine WE.cond2 (t := false) ?hc (fun hh => Bool.noConfusion hh) (fun _ => ?_); case hc => simp only [V.ev, Nat.reduceLT, getD_eq, List.length_set, *]) | refine WE.region ?_ | refine WE.seqBlock ?_)
      refine ⟨k - 1, by omega, rfl, i + 1, by omega, by simp only [List.length_set, hl], by (simp only [getD_ne, reduceCtorEq, *]; try rfl), by (simp only [Nat.reduceEqDiff, getD_ne, *]; try rfl), by (simp only [Nat.reduceLT, getD_eq, List.length_set, *]; try rfl), ⟨?_⟩⟩
      rw [List.take_succ_eq_append_getElem hlt, List.mem_append, List.mem_singleton]
      rintro (q | q)
      · exact H.out q
      · exact hx.out q.symm
  · have hd : decide ((i : Int) < (l.length : Int)) = false := by simp; omega
    obtain rfl : i = l.length := by omega
    repeat' (first | refine WE.assoc ?_ | refine WE.seqR ?_ | refine WO.nil ?_ | (refine WO.lenOfE ?_; simp only [setDst, V.ev, Nat.reduceLT, getD_eq, List.length_set, *]; refine ⟨_, rfl, ?_⟩) | (refine WO.op1s ?_; simp only [opK, wanted, stepK, step, setDst, pureV, arith, intBin, true_and, V.ev, Nat.reduceEqDiff, Nat.reduceLT, getD_ne, getD_eq, List.length_set, if_true, reduceCtorEq, *]; with_reducible show WO _ _ _ _ _) | refine WE.seqExit ?_ | (refine WE.seqCond (t := false) ?hc (fun hh => Bool.noConfusion hh) (fun _ => ?_); case hc => simp only [V.ev, Nat.reduceLT, getD_eq, List.length_set, *]) | refine WE.ret ?_)
    ((try dsimp only); refine Exists.intro _ ⟨(by (simp only [readResults, Nat.reduceLT, getD_eq, List.length_set, *]; try rfl)), ?_⟩)
    have := H.out
    rw [List.take_length] at this
    exact ⟨.refl _, by rw [if_neg this]; rfl⟩

def IdiI (h : Heap) (s : Val) (l : List Int) (n : Int) (k : Nat) (fr : List Val) (h' : Heap) : Prop := h' = h ∧ ∃ i : Nat, i + k = l.length ∧ fr.length = 19 ∧ fr.getD 0 .undef = s ∧ fr.getD 1 .undef = .int .i64 n ∧ fr.getD 7 .undef = .int .i64 (l.length : Int) ∧ fr.getD 8 .undef = .int .i64 (i : Int) ∧ Hid (n ∉ l.take i)

theorem indexi_ok {h : Heap} (w : Wf h) {s : Val} {l : List Int} {n : Int} (hs : Ei h s l) (hn : l.length < 4611686018427387904) : WC E35 49 [s, .int .i64 n] h fun v h' => Grow h h' ∧ ∃ r : Int, v = .int .i64 r ∧ (r ≥ 0 ↔ n ∈ l) := by
  refine WC.fn1 (n := 19) rfl rfl (by rfl) ?_
  intro fr hl ha
  have h0 : fr.getD 0 .undef = s := ha 0
  have h1 : fr.getD 1 .undef = .int .i64 n := ha 1
  clear ha
  have hlen := Sl.lenI hs
  unfold v49
  repeat' (first | refine WE.assoc ?_ | refine WE.seqR ?_ | refine WO.nil ?_ | (refine WO.lenOfE ?_; simp only [setDst, V.ev, Nat.reduceLT, getD_eq, List.length_set, *]; refine ⟨_, rfl, ?_⟩) | (refine WO.op1s ?_; simp only [opK, wanted, stepK, step, setDst, true_and, V.ev, Int.reduceNeg, getD_ne, reduceCtorEq, *]; with_reducible show WO _ _ _ _ _) | refine WE.seqBlock ?_)
  refine WE.loop (IdiI h s l n) ?_ l.length _ _ ⟨rfl, 0, by omega, by simp only [List.length_set, hl], by (simp only [getD_ne, reduceCtorEq, *]; try rfl), by (simp only [Nat.reduceEqDiff, getD_ne, *]; try rfl), by (simp only [Nat.reduceEqDiff, Nat.reduceLT, getD_ne, getD_eq, List.length_set, *]; try rfl), by (simp only [Nat.reduceLT, Int.cast_ofNat_Int, getD_eq, List.length_set, *]; try rfl), ⟨by simp⟩⟩
  clear h0 h1 hl
  rintro k fr2 h2 ⟨rfl, i, hik, hl, h0, h1, h7, h8, H⟩
  by_cases hlt : i < l.length
  · have hd : decide ((i : Int) < (l.length : Int)) = true := by simp; omega
    obtain ⟨bx, o, he, l1⟩ := Ei.elt hs (k := .i64) hlt
    replace l1 := l1 _ (.refl _)
    have hwi : IntKind.i64.wrap ((i : Int) + 1) = ((i + 1 : Nat) : Int) := wrap_add (b := 1) (by omega)
    by_cases hx : l[i] = n
    · have hd2 : (n == l[i]) = true := by simpa using hx.symm
      replace hx := Hid.mk hx
      repeat' (first | refine WE.seqR ?_ | refine WO.nil ?_ | (refine WO.iaddrE ?_; simp only [setDst, V.ev, Nat.reduceEqDiff, Nat.reduceLT, getD_ne, getD_eq, List.length_set, *]; refine ⟨_, rfl, ?_⟩) | (refine WO.op1s ?_; simp only [opK, wanted, stepK, step, setDst, pureV, arith, intBin, eqVal, eqAt, eqv, Val.isAgg, Val.cells, true_and, and_self, Bool.and_true, List.getElem?_cons_zero, V.ev, Nat.reduceEqDiff, Nat.reduceLT, Int.reduceNeg, Bool.false_eq_true, getD_ne, getD_eq, List.length_set, if_true, if_false, reduceCtorEq, Bool.not_true, *]; with_reducible show WO _ _ _ _ _) | refine WE.seqSkip ?_ | (refine WE.seqCond (t := true) ?hc (fun _ => ?_) (fun hh => Bool.noConfusion hh); case hc => simp only [V.ev, Nat.reduceLT, getD_eq, *]) | (refine WE.cond2 (t := true) ?hc (fun _ => ?_) (fun hh => Bool.noConfusion hh); case hc => simp only [V.ev, Nat.reduceLT, getD_eq, List.length_set, *]) | refine WE.ret ?_ | refine WE.seqBlock ?_ | (with_reducible show blockQ _ _ _ _ _; simp only [blockQ, seqQ]))
      ((try dsimp only); refine Exists.intro _ ⟨(by (simp only [readResults, Nat.reduceLT, getD_eq, List.length_set, *]; try rfl)), ?_⟩)
      exact ⟨.refl _, _, rfl, by simp only [ge_iff_le, Int.natCast_nonneg, true_iff]; rw [← hx.out]; exact List.getElem_mem hlt⟩
    · have hd2 : (n == l[i]) = false := by simpa using fun e => hx (Eq.symm e)
      replace hx := Hid.mk hx
      repeat' (first | refine WE.seqR ?_ | refine WO.nil ?_ | (refine WO.iaddrE ?_; simp only [setDst, V.ev, Nat.reduceEqDiff, Nat.reduceLT, getD_ne, getD_eq, List.length_set, *]; refine ⟨_, rfl, ?_⟩) | (refine WO.op1s ?_; simp only [opK, wanted, stepK, step, setDst, pureV, arith, intBin, eqVal, eqAt, eqv, Val.isAgg, Val.cells, true_and, and_self, Bool.and_true, List.getElem?_cons_zero, V.ev, Nat.reduceEqDiff, Nat.reduceLT, Int.reduceNeg, Bool.false_eq_true, getD_ne, getD_eq, List.length_set, if_true, if_false, reduceCtorEq, Bool.not_false, *]; with_reducible show WO _ _ _ _ _) | refine WE.seqSkip ?_ | (refine WE.seqCond (t := true) ?hc (fun _ => ?_) (fun hh => Bool.noConfusion hh); case hc => simp only [V.ev, Nat.reduceLT, getD_eq, *]) | refine WE.skip ?_ | (refine WE.cond2 (t := false) ?hc (fun hh => Bool.noConfusion hh) (fun _ => ?_); case hc => simp only [V.ev, Nat.reduceLT, getD_eq, List.length_set, *]) | refine WE.region ?_ | refine WE.seqBlock ?_)
      refine ⟨k - 1, by omega, rfl, i + 1, by omega, by simp only [List.length_set, hl], by (simp only [getD_ne, reduceCtorEq, *]; try rfl), by (simp only [Nat.reduceEqDiff, getD_ne, *]; try rfl), by (simp only [Nat.reduceEqDiff, getD_ne, *]; try rfl), by (simp only [Nat.reduceLT, getD_eq, List.length_set, *]; try rfl), ⟨?_⟩⟩
      rw [List.take_succ_eq_append_getElem hlt, List.mem_append, List.mem_singleton]
      rintro (q | q)
      · exact H.out q
      · exact hx.out q.symm
  · have hd : decide ((i : Int) < (l.length : Int)) = false := by simp; omega
    obtain rfl : i = l.length := by omega
    repeat' (first | refine WE.seqR ?_ | refine WO.nil ?_ | (refine WO.op1s ?_; simp only [opK, wanted, stepK, step, setDst, pureV, arith, intBin, true_and, V.ev, Int.reduceNeg, if_true, *]; with_reducible show WO _ _ _ _ _) | refine WE.seqExit ?_ | (refine WE.seqCond (t := false) ?hc (fun hh => Bool.noConfusion hh) (fun _ => ?_); case hc => simp only [V.ev, Nat.reduceLT, getD_eq, *]) | refine WE.ret ?_)
    ((try dsimp only); refine Exists.intro _ ⟨(by (simp only [readResults, Nat.reduceLT, Int.reduceNeg, getD_eq, List.length_set, *]; try rfl)), ?_⟩)
    have := H.out
    rw [List.take_length] at this
    exact ⟨.refl _, _, rfl, by simp [this]⟩

theorem contains_ok {h : Heap} (w : Wf h) {s : Val} {l : List Int} {n : Int} (hs : Ei h s l) (hn : l.length < 4611686018427387904) : WC E35 41 [s, .int .i64 n] h fun v h' => Grow h h' ∧ v = .bool (decide (n ∈ l)) := by
  refine WC.fn1 (n := 9) rfl rfl (by rfl) ?_
  intro fr hl ha
  have h0 : fr.getD 0 .undef = s := ha 0
  have h1 : fr.getD 1 .undef = .int .i64 n := ha 1
  clear ha
  unfold v41
  repeat' (first | refine WE.seqR ?_ | refine WO.nil ?_ | (refine WO.op1s ?_; simp only [opK, wanted, stepK, step, setDst, evs, true_and, V.ev, Nat.reduceEqDiff, Nat.reduceLT, getD_ne, getD_eq, List.length_set, reduceCtorEq, *]; with_reducible show WO _ _ _ _ _))
  refine WO.call rfl ?_
  (simp only [evs, V.ev, Nat.reduceEqDiff, Nat.reduceLT, getD_ne, getD_eq, List.length_set, *])
  refine (indexi_ok w hs hn).mono ?_
  rintro v h2 ⟨g2, r, rfl, hr⟩
  replace hr := Hid.mk hr
  simp only [setDst]
  repeat' (first | refine WO.nil ?_ | (refine WO.op1s ?_; simp only [opK, wanted, stepK, step, setDst, pureV, arith, intBin, true_and, V.ev, Nat.reduceLT, getD_eq, List.length_set, if_true, *]; with_reducible show WO _ _ _ _ _) | refine WE.ret ?_)
  ((try dsimp only); refine Exists.intro _ ⟨(by (simp only [readResults, Nat.reduceLT, getD_eq, List.length_set, *]; try rfl)), ?_⟩)
  refine ⟨g2, ?_⟩
  simp only [resultOf, Val.bool.injEq]
  exact decide_eq_decide.2 hr.out

end Go.V
end

section
set_option linter.unusedVariables false
set_option linter.unusedSimpArgs false
set_option linter.unusedSectionVars false
-- BUILDS
-- NEW
set_option maxHeartbeats 4000000
namespace Go.V
attribute [local irreducible] stepK opK opV

theorem hid_intro {p : Prop} (h : p) : Hid p := ⟨h⟩

/-- A round that is before an entry. -/
def badR (es : List Ent) (ro : Int) : Bool := es.any fun e => decide (ro < e.si)

/-- The IDs of the entries of one class. -/
def clsL (k : Ent → Int) (es : List Ent) (c : Nat) : List Int := (es.filter fun e => k e == (c : Int)).map Ent.id

def ordL (k : Ent → Int) (es : List Ent) (n : Nat) : List Int := (List.range n).flatMap (clsL k es)

def ordRes (es : List Ent) (ro ag : Int) : List Int × Int := if 0 < chk es then ([], chk es) else if rightB ro ag = false ∨ badR es ro = true then ([], 4) else (ordL (keyI ro ag) es 8, 0)

theorem clsL_len (k : Ent → Int) (es : List Ent) (c : Nat) : (clsL k es c).length ≤ es.length := by
  unfold clsL
  rw [List.length_map]; exact List.length_filter_le _ _

theorem ordL_len (k : Ent → Int) (es : List Ent) : ∀ n, (ordL k es n).length ≤ n * es.length
  | 0 => by simp [ordL]
  | n + 1 => by
    have := ordL_len k es n
    have h2 := clsL_len k es n
    unfold ordL at *
    rw [List.range_succ, List.flatMap_append, List.length_append, Nat.succ_mul]
    simp only [List.flatMap_cons, List.flatMap_nil, List.append_nil]
    omega

theorem key_refEff {es : List Ent} (hc : chk es = 0) {ro ag : Int} (hr : rightB ro ag = true) (hb : badR es ro = false) {i : Nat} (hi : i < es.length) : (0 ≤ es[i].cl ∧ es[i].cl < 8) ∧ (1 ≤ ag ∧ ag ≤ 64) ∧ (0 ≤ es[i].si ∧ es[i].si ≤ ro ∧ ro ≤ 4611686018427387904) ∧ refEff es[i].cl (ro - es[i].si) ag es[i].cl.toNat = keyI ro ag es[i] := by
  have hv := validB_iff.1 ((chk_zero hc).2 i hi).1
  have hr := rightB_iff.1 hr
  have hsi : es[i].si ≤ ro := by
    unfold badR at hb
    rw [List.any_eq_false] at hb
    have := hb es[i] (List.getElem_mem hi)
    simp at this; omega
  refine ⟨by omega, by omega, by omega, ?_⟩
  unfold keyI
  rw [refEff_eq' (by omega) (by omega) (by omega), effI_eq (by omega) (by omega) (by omega)]

end Go.V
end

section
set_option linter.unusedVariables false
set_option linter.unusedSimpArgs false
set_option linter.unusedSectionVars false
-- BUILDS
-- NEW
set_option maxHeartbeats 4000000
namespace Go.V
attribute [local irreducible] stepK opK opV

theorem ltE.irr {k : Ent → Int} {x : Ent} : ¬ ltE k x x := by unfold ltE; omega

/-- Strictly sorted lists with the same elements are equal. -/
theorem sorted_eq {k : Ent → Int} : ∀ {A B : List Ent}, A.Pairwise (ltE k) → B.Pairwise (ltE k) → (∀ x, x ∈ A ↔ x ∈ B) → A = B
  | [], B, _, _, h => by
    cases B with
    | nil => rfl
    | cons b B => have := (h b).2 (by simp); simp at this
  | a :: A, [], _, _, h => by have := (h a).1 (by simp); simp at this
  | a :: A, b :: B, sa, sb, h => by
    rw [List.pairwise_cons] at sa sb
    have hab : a = b := by
      have h1 := (h a).1 (by simp)
      have h2 := (h b).2 (by simp)
      rcases List.mem_cons.1 h1 with e | h1
      · exact e
      · rcases List.mem_cons.1 h2 with e | h2
        · exact e.symm
        · exact absurd ((sa.1 b h2).trans (sb.1 a h1)) ltE.irr
    subst hab
    congr 1
    refine sorted_eq sa.2 sb.2 fun x => ⟨fun hx => ?_, fun hx => ?_⟩
    · rcases List.mem_cons.1 ((h x).1 (by simp [hx])) with e | q
      · subst e; exact absurd (sa.1 x hx) ltE.irr
      · exact q
    · rcases List.mem_cons.1 ((h x).2 (by simp [hx])) with e | q
      · subst e; exact absurd (sb.1 x hx) ltE.irr
      · exact q

/-- The entries, class by class. -/
def clsE (k : Ent → Int) (es : List Ent) (c : Nat) : List Ent := es.filter fun e => k e == (c : Int)

theorem cls_sorted {k : Ent → Int} {es : List Ent} (hid : es.Pairwise fun x y => x.id < y.id) (n : Nat) : ((List.range n).flatMap (clsE k es)).Pairwise (ltE k) := by
  rw [List.pairwise_flatMap]
  refine ⟨fun c _ => ?_, ?_⟩
  · unfold clsE
    have := hid.filter (fun e => k e == (c : Int))
    refine List.Pairwise.imp_of_mem ?_ this
    intro x y hx hy hxy
    have h1 := (List.mem_filter.1 hx).2
    have h2 := (List.mem_filter.1 hy).2
    simp at h1 h2
    exact .inr ⟨by omega, hxy⟩
  · refine List.Pairwise.imp ?_ (List.pairwise_lt_range)
    intro a b hab x hx y hy
    have h1 := (List.mem_filter.1 hx).2
    have h2 := (List.mem_filter.1 hy).2
    simp at h1 h2
    exact .inl (by omega)

theorem ord_of_sorted {k : Ent → Int} {es Z : List Ent} (hid : es.Pairwise fun x y => x.id < y.id) (hk : ∀ e ∈ es, 0 ≤ k e ∧ k e < 8) (hp : Z.Perm es) (hs : Z.Pairwise (ltE k)) : Z.map Ent.id = ordL k es 8 := by
  have : Z = (List.range 8).flatMap (clsE k es) := by
    refine sorted_eq hs (cls_sorted hid 8) fun x => ?_
    rw [hp.mem_iff, List.mem_flatMap]
    constructor
    · intro hx
      have := hk x hx
      refine ⟨(k x).toNat, by simp; omega, ?_⟩
      unfold clsE
      rw [List.mem_filter]
      exact ⟨hx, by simp; omega⟩
    · rintro ⟨c, _, hx⟩
      exact (List.mem_filter.1 hx).1
  rw [this, List.map_flatMap]
  rfl

theorem pairwise_of_get {α : Type} {R : α → α → Prop} {l : List α} (h : ∀ i j (hi : i < l.length) (hj : j < l.length), i < j → R l[i] l[j]) : l.Pairwise R := List.pairwise_iff_getElem.2 h

theorem chk_ids {es : List Ent} (h : chk es = 0) : es.Pairwise fun x y => x.id < y.id := pairwise_of_get fun i j _ hj hij => chk_mono h j i hij hj

theorem si_mono {es : List Ent} (h : chk es = 0) : ∀ (j i : Nat) (hi : i ≤ j) (hj : j < es.length), es[i].si ≤ es[j].si
  | 0, i, hi, _ => by
    obtain rfl : i = 0 := by omega
    exact Int.le_refl _
  | j + 1, i, hi, hj => by
    rcases Nat.eq_or_lt_of_le hi with rfl | h2
    · exact Int.le_refl _
    · have h1 := (chk_zero h).2 (j + 1) hj |>.2 (by omega)
      simp only [Nat.add_sub_cancel] at h1
      have := si_mono h j i (by omega) (by omega)
      omega

theorem badR_last {es : List Ent} (h : chk es = 0) (hp : 0 < es.length) {ro : Int} : badR es ro = decide (ro < es[es.length - 1].si) := by
  unfold badR
  by_cases q : ro < es[es.length - 1].si
  · simp only [q, decide_true]
    rw [List.any_eq_true]
    exact ⟨es[es.length - 1], List.getElem_mem (by omega), decide_eq_true q⟩
  · simp only [q, decide_false]
    rw [List.any_eq_false]
    intro x hx
    obtain ⟨i, hi, rfl⟩ := List.getElem_of_mem hx
    have := si_mono h (es.length - 1) i (by omega) (by omega)
    simp; omega

theorem key_range {es : List Ent} (hc : chk es = 0) {ro ag : Int} (hr : rightB ro ag = true) (hb : badR es ro = false) : ∀ e ∈ es, 0 ≤ keyI ro ag e ∧ keyI ro ag e < 8 := by
  intro e he
  obtain ⟨i, hi, rfl⟩ := List.getElem_of_mem he
  obtain ⟨h1, h2, h3, h4⟩ := key_refEff hc hr hb hi
  rw [← h4, refEff_eq' (by omega) (by omega) (by omega)]
  have := Int.ediv_nonneg (show 0 ≤ ro - es[i].si by omega) (show 0 ≤ ag by omega)
  omega

end Go.V
end

section
set_option linter.unusedVariables false
set_option linter.unusedSimpArgs false
set_option linter.unusedSectionVars false
-- BUILDS
-- NEW
set_option maxHeartbeats 4000000
namespace Go.V
attribute [local irreducible] stepK opK opV

/-- What the program makes, and a number. -/
def ProResI (h h' : Heap) (v : Val) (r : List Int × Int) : Prop := Grow h h' ∧ ∃ u, v = .tup [u, .int .i64 r.2] ∧ OwnI h h' u r.1

theorem insertion_nil {h : Heap} {ro ag : Int} : WC E35 53 [.nils, .int .i64 0, .int .i64 0, cmpV ro ag] h fun _ h' => h' = h := by
  refine WC.fn1 (n := 53) rfl rfl (by rfl) ?_
  intro fr hl ha
  have f1 : fr.getD 1 .undef = .int .i64 0 := ha 1
  have f2 : fr.getD 2 .undef = .int .i64 0 := ha 2
  clear ha
  have e1 : IntKind.i64.wrap (0 + 1) = 1 := rfl
  unfold v53
  repeat' (first | refine WE.seqR ?_ | refine WO.nil ?_ | (refine WO.op1s ?_; simp only [opK, wanted, stepK, step, setDst, pureV, arith, intBin, true_and, V.ev, Nat.reduceLT, getD_eq, List.length_set, if_true, *]; with_reducible show WO _ _ _ _ _) | refine WE.block ?_)
  refine WE.loop (fun _ fr h' => h' = h ∧ fr.length = 53 ∧ fr.getD 2 .undef = .int .i64 0 ∧ fr.getD 8 .undef = .int .i64 1) ?_ 0 _ _ ⟨rfl, by simp only [List.length_set, hl], by (simp only [Nat.reduceEqDiff, getD_ne, *]; try rfl), by (simp only [Nat.reduceLT, getD_eq, List.length_set, *]; try rfl)⟩
  clear f1 f2 hl e1
  rintro k fr h' ⟨rfl, hl, f2, f8⟩
  have hd : decide ((1 : Int) < 0) = false := rfl
  repeat' (first | refine WE.assoc ?_ | refine WE.seqR ?_ | refine WO.nil ?_ | (refine WO.op1s ?_; simp only [opK, wanted, stepK, step, setDst, pureV, arith, intBin, true_and, V.ev, Nat.reduceEqDiff, Nat.reduceLT, Int.reduceLT, decide_false, getD_ne, getD_eq, List.length_set, if_true, *]; with_reducible show WO _ _ _ _ _) | refine WE.seqExit ?_ | (refine WE.seqCond (t := false) ?hc (fun hh => Bool.noConfusion hh) (fun _ => ?_); case hc => simp only [V.ev, Nat.reduceLT, getD_eq, List.length_set, *]) | (with_reducible show blockQ _ _ _ _ _; simp only [blockQ, if_true]))
  ((try dsimp only); refine Exists.intro _ ⟨(by (simp only [readResults, *]; try rfl)), ?_⟩)
  first | rfl | trivial

theorem sort_nil {h : Heap} {ro ag : Int} : WC E35 38 [.nils, cmpV ro ag] h fun _ h' => h' = h := by
  refine WC.fn1 (n := 9) rfl rfl (by rfl) ?_
  intro fr hl ha
  have f0 : fr.getD 0 .undef = .nils := ha 0
  have f1 : fr.getD 1 .undef = cmpV ro ag := ha 1
  clear ha
  have e1 : lenI .nils = some 0 := rfl
  have hc0 : ((0 : Nat) : Int) = 0 := rfl
  unfold v38
  repeat' (first | (refine WO.lenOfE ?_; simp only [setDst, V.ev, Nat.reduceLT, getD_eq, List.length_set, *]; refine ⟨_, rfl, ?_⟩) | (refine WO.op1s ?_; simp only [opK, wanted, stepK, step, setDst, evs, true_and, V.ev, Nat.reduceEqDiff, Nat.reduceLT, getD_ne, getD_eq, List.length_set, reduceCtorEq, *]; with_reducible show WO _ _ _ _ _) | refine WE.region ?_)
  refine WO.call rfl ?_
  (simp only [evs, V.ev, Nat.reduceEqDiff, Nat.reduceLT, getD_ne, getD_eq, List.length_set, *])
  refine WC.mono (R := fun _ h' => h' = h) ?_ ?_
  · clear f0 f1 hl
    refine WC.fn1 (n := 63) rfl rfl (by rfl) ?_
    intro fr hl ha
    have f0 : fr.getD 0 .undef = .nils := ha 0
    have f1 : fr.getD 1 .undef = .int .i64 0 := ha 1
    have f2 : fr.getD 2 .undef = cmpV ro ag := ha 2
    clear ha
    unfold v46
    repeat' (first | refine WE.seqR ?_ | refine WO.nil ?_ | (refine WO.op1s ?_; simp only [opK, wanted, stepK, step, setDst, true_and, V.ev, Nat.reduceEqDiff, Nat.reduceLT, getD_ne, getD_eq, List.length_set, *]; with_reducible show WO _ _ _ _ _) | refine WE.seqBlock ?_)
    refine WE.loop (fun _ fr h' => h' = h ∧ fr.length = 63 ∧ fr.getD 0 .undef = .nils ∧ fr.getD 1 .undef = .int .i64 0 ∧ fr.getD 2 .undef = cmpV ro ag ∧ fr.getD 6 .undef = .int .i64 20 ∧ fr.getD 7 .undef = .int .i64 0 ∧ fr.getD 8 .undef = .int .i64 20) ?_ 0 _ _ ⟨rfl, by simp only [List.length_set, hl], by (simp only [getD_ne, reduceCtorEq, *]; try rfl), by (simp only [Nat.reduceEqDiff, getD_ne, *]; try rfl), by (simp only [Nat.reduceEqDiff, getD_ne, *]; try rfl), by (simp only [Nat.reduceEqDiff, Nat.reduceLT, getD_ne, getD_eq, *]; try rfl), by (simp only [Nat.reduceEqDiff, Nat.reduceLT, getD_ne, getD_eq, List.length_set, *]; try rfl), by (simp only [Nat.reduceLT, getD_eq, List.length_set, *]; try rfl)⟩
    clear f0 f1 f2 hl
    rintro k fr h' ⟨rfl, hl, f0, f1, f2, f6, f7, f8⟩
    have hd : decide ((20 : Int) ≤ 0) = false := rfl
    repeat' (first | refine WE.assoc ?_ | refine WE.seqR ?_ | refine WO.nil ?_ | (refine WO.op1s ?_; simp only [opK, wanted, stepK, step, setDst, pureV, arith, intBin, evs, true_and, V.ev, Nat.reduceEqDiff, Nat.reduceLT, Int.reduceLE, decide_false, getD_ne, getD_eq, List.length_set, if_true, reduceCtorEq, *]; with_reducible show WO _ _ _ _ _) | refine WE.seqExit ?_ | (refine WE.seqCond (t := false) ?hc (fun hh => Bool.noConfusion hh) (fun _ => ?_); case hc => simp only [V.ev, Nat.reduceLT, getD_eq, List.length_set, *]))
    refine WO.call rfl ?_
    (simp only [evs, V.ev, Nat.reduceEqDiff, Nat.reduceLT, getD_ne, getD_eq, List.length_set, *])
    refine insertion_nil.mono ?_
    rintro v h9 e
    rw [e]
    clear e
    simp only [setDst]
    repeat' (first | refine WO.nil ?_ | refine WE.block ?_)
    refine WE.loop (fun _ fr h2 => h2 = h' ∧ fr.length = 63 ∧ fr.getD 1 .undef = .int .i64 0 ∧ fr.getD 6 .undef = .int .i64 20) ?_ 0 _ _ ⟨rfl, by simp only [List.length_set, hl], by (simp only [Nat.reduceEqDiff, getD_ne, *]; try rfl), by (simp only [Nat.reduceEqDiff, getD_ne, *]; try rfl)⟩
    clear f0 f1 f2 f6 f7 f8 hl hd
    rintro k fr h2 ⟨rfl, hl, f1, f6⟩
    have hd : decide ((20 : Int) < 0) = false := rfl
    repeat' (first | refine WE.assoc ?_ | refine WE.seqR ?_ | refine WO.nil ?_ | (refine WO.op1s ?_; simp only [opK, wanted, stepK, step, setDst, pureV, arith, intBin, true_and, V.ev, Nat.reduceEqDiff, Nat.reduceLT, Int.reduceLT, decide_false, getD_ne, getD_eq, List.length_set, if_true, *]; with_reducible show WO _ _ _ _ _) | refine WE.seqExit ?_ | (refine WE.seqCond (t := false) ?hc (fun hh => Bool.noConfusion hh) (fun _ => ?_); case hc => simp only [V.ev, Nat.reduceLT, getD_eq, List.length_set, *]) | (with_reducible show blockQ _ _ _ _ _; simp only [blockQ, if_true]))
    ((try dsimp only); refine Exists.intro _ ⟨(by (simp only [readResults, *]; try rfl)), ?_⟩)
    first | rfl | trivial
  rintro v h9 e
  rw [e]
  clear e
  simp only [setDst]
  repeat' (first | refine WO.nil ?_)
  ((try dsimp only); refine Exists.intro _ ⟨(by (simp only [readResults, *]; try rfl)), ?_⟩)
  first | rfl | trivial

/-- The sort at what 'own' made. -/
theorem sort_own {h0 h : Heap} (w0 : Wf h0) {ro ag : Int} (hag : ag ≠ 0) {v : Val} {L : List Ent} (g : Grow h0 h) (o : OwnE h0 h v L) (hn2 : L.length ≤ 100000) (hid : L.Pairwise fun x y => x.id < y.id) :
    WC E35 38 [v, cmpV ro ag] h fun _ h' => Grow h0 h' ∧ ∃ Z : List Ent, Z.Perm L ∧ Z.Pairwise (ltE (keyI ro ag)) ∧ OwnE h0 h' v Z := by
  rcases o with ⟨rfl, rfl⟩ | ⟨hne, b, rfl, hb, hg⟩
  · exact sort_nil.mono fun v' h' e => by subst e; exact ⟨g, [], .refl _, .nil, .inl ⟨rfl, rfl⟩⟩
  · refine (sort_ok w0 hag rfl hn2 hid ⟨g, hb, hg⟩).mono ?_
    rintro v' h' ⟨Z, p, s, sb⟩
    refine ⟨sb.g, Z, p, s, .inr ⟨?_, b, by rw [p.length_eq], hb, sb.at_⟩⟩
    intro e
    subst e
    exact hne p.symm.eq_nil

theorem Eis.one {h : Heap} {s u : Val} {es : List Int} (hs : Sl h s 1 1 [u]) (h1 : Ei h u es) (hn : es.length ≤ 1000000) : Eis h s [es] [u] := by
  refine ⟨hs, rfl, ?_, by simp, by simpa using hn⟩
  intro i hi
  match i, hi with
  | 0, _ => exact h1

theorem OwnI.down {h0 h1 h : Heap} {v : Val} {es : List Int} (o : OwnI h1 h v es) (g : h0.next ≤ h1.next) : OwnI h0 h v es := by
  rcases o with o | ⟨a, b, c, d, e⟩
  · exact .inl o
  · exact .inr ⟨a, b, c, Nat.le_trans g d, e⟩

def idV (e : Ent) : Val := .int .i64 e.id

def IdsI (h0 : Heap) (b2 n : Nat) (v : Val) (Z : List Ent) (k : Nat) (fr : List Val) (h' : Heap) : Prop :=
  ∃ (Z1 Z2 : List Ent), Hid (Z = Z1 ++ Z2 ∧ Z2.length = k) ∧ Grow h0 h' ∧ OwnE h0 h' v Z ∧ h'.get b2 = some (.cells (Z1.map idV ++ repeatL [.int .i64 0] Z2.length)) ∧ fr.length = 71 ∧ fr.getD 55 .undef = v ∧ fr.getD 56 .undef = .int .i64 (n : Nat) ∧ fr.getD 57 .undef = .int .i64 (Z1.length : Nat) ∧ fr.getD 11 .undef = .slice b2 0 n n 0

theorem OwnE.lt {h0 h : Heap} {v : Val} {es : List Ent} (w : Wf h) (o : OwnE h0 h v es) : ∀ b n m l, v = .slice b 0 n m l → b < h.next := by
  intro b n m l e
  rcases o with ⟨_, rfl⟩ | ⟨_, b', rfl, _, hg⟩
  · cases e
  · cases e; exact lt_of_get w hg

theorem OwnE.wrote2 {h0 h h' : Heap} {v : Val} {es : List Ent} {b2 : Nat} {cs : List Val} (o : OwnE h0 h v es) (hne : ∀ b n m l, v = .slice b 0 n m l → b < b2) (k : Wrote h b2 cs h') : OwnE h0 h' v es := by
  rcases o with o | ⟨a, b, c, d, e⟩
  · exact .inl o
  · exact .inr ⟨a, b, c, d, by rw [k.else_ b (by have := hne _ _ _ _ c; omega)]; exact e⟩

theorem elt_any {b n cap ls i sz : Nat} {k : IntKind} (hi : i < n) : eltI sz (.slice b 0 n cap ls) (.int k (i : Int)) = some (.ptr b (i * sz)) := by
  simp only [eltI]
  rw [if_pos ⟨by omega, by omega⟩]
  simp

theorem ids_splice {A B : List Ent} {z : Ent} : splice (A.map idV ++ repeatL [.int .i64 0] (z :: B).length) (A.length * 1) [idV z] = (A ++ [z]).map idV ++ repeatL [.int .i64 0] B.length := by
  unfold splice
  rw [List.take_left' (by simp)]
  have : A.map idV ++ repeatL [.int .i64 0] (z :: B).length = (A.map idV ++ [.int .i64 0]) ++ repeatL [.int .i64 0] B.length := by simp [repeatL]
  rw [this, List.drop_left' (by simp)]
  simp

theorem order_ok {h : Heap} (w : Wf h) {s : Val} {es : List Ent} {ro ag : Int} (hs : Es h s es) (hn : es.length ≤ 100000) : WC E35 10 [.agg [s], .int .i64 ro, .int .i64 ag] h fun v h' => ProResI h h' v (ordRes es ro ag) := by
  refine WC.fn1 (n := 71) rfl rfl (by rfl) ?_
  intro fr hl ha
  have h0 : fr.getD 0 .undef = .agg [s] := ha 0
  have h1 : fr.getD 1 .undef = .int .i64 ro := ha 1
  have h2 : fr.getD 2 .undef = .int .i64 ag := ha 2
  clear ha
  have hlen := hs.lenI
  have hlt : es.length < 4611686018427387904 := by omega
  unfold v10
  refine WE.seqR ?_
  (refine WO.op1 ?_; simp only [opK, wanted, setDst, *])
  refine stepK_box w (c := [s]) (by simp only [V.ev, *]; rfl) rfl fun b3 hB g hb3 hg3 hnx => ?_
  have l3 : ∀ h', Grow hB h' → h'.load b3 0 1 = some [s] := fun h' g => g.part hg3 (by simp)
  have hsB := g.kp.es hs
  have wB := g.wf w
  have gg := Grow.refl hB
  clear hnx hg3 hb3
  by_cases hc : chk es = 0
  case neg =>
    have hd : (!(chk es == 0)) = true := by simpa using hc
    have hd2 : (chk es == 0) = false := by simpa using hc
    replace hc := hid_intro hc
    repeat' (first | refine WE.assoc ?_ | refine WE.seqR ?_ | refine WO.nil ?_ | (refine WO.op1s ?_; simp only [opK, wanted, stepK, step, setDst, evs, eqVal, eqAt, eqv, Val.isAgg, Val.cells, true_and, and_self, Bool.and_true, List.getElem?_cons_zero, V.ev, Nat.reduceEqDiff, Nat.reduceLT, getD_ne, getD_eq, List.length_set, if_true, Bool.not_false, *]; with_reducible show WO _ _ _ _ _) | (refine WO.callG (f := 30) (g := none) wB gg _ rfl (fun h1 w1 k1 => by (simp only [evs, V.ev, Nat.reduceLT, getD_eq, List.length_set, *]); exact  check_ok w1 (k1.es hsB) hlt) ?_; clear gg; (rintro _ hh gg rfl; simp only [setDst])) | refine WE.seqRet ?_ | (refine WE.seqCond (t := true) ?hc (fun _ => ?_) (fun hh => Bool.noConfusion hh); case hc => simp only [V.ev, Nat.reduceLT, getD_eq, List.length_set, *]))
    ((try dsimp only); refine Exists.intro _ ⟨(by (simp only [readResults, Nat.reduceEqDiff, Nat.reduceLT, getD_ne, getD_eq, List.length_set, *]; try rfl)), ?_⟩)
    have hp : 0 < chk es := by have := chk_nonneg es; have := hc.out; omega
    exact ⟨g.trans gg, .nils, by simp only [ordRes, if_pos hp]; rfl, by simp only [ordRes, if_pos hp]; exact .inl ⟨rfl, rfl⟩⟩
  have hd2 : (chk es == 0) = true := by simpa using hc
  have hcH := hid_intro hc
  clear hc
  repeat' (first | refine WE.assoc ?_ | refine WE.seqR ?_ | refine WO.nil ?_ | (refine WO.op1s ?_; simp only [opK, wanted, stepK, step, setDst, evs, eqVal, eqAt, eqv, Val.isAgg, Val.cells, fill, splice, List.take_zero, List.take_succ_cons, List.drop_zero, List.drop_succ_cons, List.nil_append, List.cons_append, List.length_cons, List.length_nil, List.drop_nil, true_and, and_self, Nat.le_refl, Bool.and_true, List.getElem?_cons_zero, V.ev, Nat.reduceEqDiff, Nat.reduceLT, Nat.reduceLeDiff, Nat.reduceAdd, Nat.zero_add, getD_ne, getD_eq, List.length_set, if_true, Bool.not_true, *]; with_reducible show WO _ _ _ _ _) | (refine WO.callG (f := 30) (g := none) wB gg _ rfl (fun h1 w1 k1 => by (simp only [evs, V.ev, Nat.reduceLT, getD_eq, List.length_set, *]); exact  check_ok w1 (k1.es hsB) hlt) ?_; clear gg; (rintro _ hh gg rfl; simp only [setDst])) | refine WE.seqSkip ?_ | (refine WE.seqCond (t := false) ?hc (fun hh => Bool.noConfusion hh) (fun _ => ?_); case hc => simp only [V.ev, Nat.reduceLT, getD_eq, List.length_set, *]))
  (refine WO.op1 ?_; simp only [opK, wanted, setDst, *])
  refine stepK_alloc (gg.wf wB) fun b9 h4 g4 hb4 hg4 hn4 => ?_
  (refine WO.op1 ?_; simp only [opK, wanted, setDst, *])
  refine stepK_store (b := b9) (o := 0) (cs := [.int .i64 0, .int .i64 0]) (us := [.int .i64 ro, .int .i64 ag]) (by (simp only [V.ev, Nat.reduceLT, getD_eq, List.length_set, *]; try rfl)) (by (simp only [V.ev, Nat.reduceEqDiff, Nat.reduceLT, getD_ne, getD_eq, List.length_set, *]; try rfl)) (by rfl) hg4 (by rw [g4.floor, gg.floor]; have := wB.fl; have := gg.next; omega) (by simp) (by rfl) fun h5 k5 => ?_
  have g5 : Grow hB h5 := gg.trans (g4.wrote hb4 (gg.wf wB) k5)
  have e5 : h5.get b9 = some (.cells [.int .i64 ro, .int .i64 ag]) := k5.at_
  have m9 : ∀ h', Grow h5 h' → h'.load b9 0 2 = some [.int .i64 ro, .int .i64 ag] := fun h' g => g.part e5 (by simp)
  have l3' : ∀ h', Grow h5 h' → h'.load b3 0 1 = some [s] := fun h' g => l3 h' (g5.trans g)
  have hs5 := g5.kp.es hsB
  have gA := g.trans g5
  have w5 := gA.wf w
  clear l3 wB hsB g4 hb4 hg4 hn4 k5 gg g5 g e5
  have wB := w5
  have gg := Grow.refl h5
  have fail : ∀ h', Grow h h' → rightB ro ag = false ∨ badR es ro = true → ProResI h h' (.tup [.nils, .int .i64 4]) (ordRes es ro ag) := by
    intro h' g hr
    have hc := hcH.out
    refine ⟨g, .nils, ?_, ?_⟩
    · simp only [ordRes, hc, Int.lt_irrefl, if_false, if_pos hr]
    · simp only [ordRes, hc, Int.lt_irrefl, if_false, if_pos hr]; exact .inl ⟨rfl, rfl⟩
  replace fail := hid_intro fail
  by_cases hr : rightB ro ag = true
  case neg =>
    have hr2 : rightB ro ag = false := by simpa using hr
    clear hr
    repeat' (first | refine WE.assoc ?_ | refine WE.seqR ?_ | refine WO.nil ?_ | (refine WO.op1s ?_; simp only [opK, wanted, stepK, step, setDst, pureV, unary, evs, true_and, V.ev, Nat.reduceEqDiff, Nat.reduceLT, getD_ne, getD_eq, List.length_set, if_true, Bool.true_beq, Bool.not_false, *]; with_reducible show WO _ _ _ _ _) | (refine WO.callG (f := 36) (g := none) wB gg _ rfl (fun h1 w1 k1 => by (simp only [evs, V.ev, Nat.reduceLT, getD_eq, List.length_set, *]); exact  right_ok w1) ?_; clear gg; (rintro _ hh gg rfl; simp only [setDst])) | refine WE.seqRet ?_ | (refine WE.seqCond (t := true) ?hc (fun _ => ?_) (fun hh => Bool.noConfusion hh); case hc => simp only [V.ev, Nat.reduceLT, getD_eq, List.length_set, *]))
    ((try dsimp only); refine Exists.intro _ ⟨(by (simp only [readResults, Nat.reduceEqDiff, Nat.reduceLT, getD_ne, getD_eq, List.length_set, *]; try rfl)), ?_⟩)
    exact fail.out _ (gA.trans gg) (.inl hr2)
  by_cases hb : badR es ro = true
  · have hp : 0 < es.length := by
      rcases es with _ | ⟨e, es⟩
      · simp [badR] at hb
      · simp
    have hd : decide ((es.length : Int) > 0) = true := by simp; omega
    have hbl := badR_last (ro := ro) hcH.out hp
    rw [hb] at hbl
    replace hbl := hbl.symm
    have hw : IntKind.i64.wrap ((es.length : Int) - 1) = ((es.length - 1 : Nat) : Int) := wrap_sub (b := 1) (by omega) (by omega)
    obtain ⟨bx, o, he, _, _, _, l2⟩ := hs5.elt (k := .i64) (i := es.length - 1) (by omega)
    repeat' (first | refine WE.assoc ?_ | refine WE.seqR ?_ | refine WO.nil ?_ | (refine WO.lenOfE ?_; simp only [setDst, V.ev, Nat.reduceLT, getD_eq, List.length_set, *]; refine ⟨_, rfl, ?_⟩) | (refine WO.iaddrE ?_; simp only [setDst, V.ev, Nat.reduceEqDiff, Nat.reduceLT, getD_ne, getD_eq, List.length_set, *]; refine ⟨_, rfl, ?_⟩) | (refine WO.op1s ?_; simp only [opK, wanted, stepK, step, setDst, pureV, arith, intBin, unary, evs, true_and, V.ev, Nat.reduceEqDiff, Nat.reduceLT, Nat.add_zero, Bool.false_eq_true, beq_self_eq_true, getD_ne, getD_eq, List.length_set, if_true, if_false, Bool.not_true, *]; with_reducible show WO _ _ _ _ _) | (refine WO.callG (f := 36) (g := none) wB gg _ rfl (fun h1 w1 k1 => by (simp only [evs, V.ev, Nat.reduceLT, getD_eq, List.length_set, *]); exact  right_ok w1) ?_; clear gg; (rintro _ hh gg rfl; simp only [setDst])) | refine WE.seqRet ?_ | (refine WE.seqCond (t := true) ?hc (fun _ => ?_) (fun hh => Bool.noConfusion hh); case hc => simp only [V.ev, Nat.reduceLT, getD_eq, List.length_set, *]) | (refine WO.known ?hc ?_; case hc => (simp only [wanted, Bool.true_beq, Bool.false_beq, Nat.reduceEqDiff, Nat.reduceLT, getD_ne, getD_eq, List.length_set, Bool.not_false, *])))
    ((try dsimp only); refine Exists.intro _ ⟨(by (simp only [readResults, Nat.reduceEqDiff, Nat.reduceLT, getD_ne, getD_eq, List.length_set, *]; try rfl)), ?_⟩)
    exact fail.out _ (gA.trans gg) (.inr hb)
  have hb2 : badR es ro = false := by simpa using hb
  have hres : ordRes es ro ag = (ordL (keyI ro ag) es 8, 0) := by
    have hc := hcH.out
    simp only [ordRes, hc, Int.lt_irrefl, if_false, hr, hb2, Bool.true_eq_false, Bool.false_eq_true, or_self]
  have hag : ag ≠ 0 := by have := rightB_iff.1 hr; omega
  have hsm := (chk_zero hcH.out).1
  replace hag := hid_intro hag
  replace hres := hid_intro hres
  have cont : ∀ h6 fr, Grow h5 h6 → fr.length = 71 → fr.getD 3 .undef = .ptr b3 0 → fr.getD 9 .undef = .ptr b9 0 → WE E35 (.seq .skip .skip) fr h6 (fun _ _ _ => True) := fun _ _ _ _ _ _ => WE.seqSkip (WE.skip trivial)
  clear cont
  have c1 := hs.cells1.1
  replace hsm := hid_intro hsm
  have hcs : (0 < es.length ∧ ∃ bx o, decide ((es.length : Int) > 0) = true ∧ IntKind.i64.wrap ((es.length : Int) - 1) = ((es.length - 1 : Nat) : Int) ∧ eltI 3 s (.int .i64 ((es.length - 1 : Nat) : Int)) = some (.ptr bx o) ∧ ∃ si, (∀ h', Grow h5 h' → h'.load bx (o + 2) 1 = some [.int .i64 si]) ∧ decide (ro < si) = false) ∨ decide ((es.length : Int) > 0) = false := by
    by_cases hp : 0 < es.length
    · have hbl := badR_last (ro := ro) hcH.out hp
      rw [hb2] at hbl
      obtain ⟨bx, o, he, _, _, _, l2⟩ := hs5.elt (k := .i64) (i := es.length - 1) (by omega)
      exact .inl ⟨hp, bx, o, by simp; omega, wrap_sub (b := 1) (by omega) (by omega), he, _, l2, hbl.symm⟩
    · exact .inr (decide_eq_false (by omega))
  rcases hcs with ⟨hp, bx, o, hd, hw, he, si, l2, hbl⟩ | hd
  · skip
    repeat' (first | refine WE.assoc ?_ | refine WE.seqR ?_ | refine WO.nil ?_ | (refine WO.lenOfE ?_; simp only [setDst, V.ev, Nat.reduceLT, getD_eq, List.length_set, *]; refine ⟨_, rfl, ?_⟩) | (refine WO.iaddrE ?_; simp only [setDst, V.ev, Nat.reduceEqDiff, Nat.reduceLT, getD_ne, getD_eq, List.length_set, *]; refine ⟨_, rfl, ?_⟩) | (refine WO.op1s ?_; simp only [opK, wanted, stepK, step, setDst, pureV, arith, intBin, unary, evs, Val.cells, fill, splice, List.take_zero, List.nil_append, List.length_cons, List.length_nil, true_and, and_true, Nat.le_refl, V.ev, Nat.reduceEqDiff, Nat.reduceLT, Nat.add_zero, Nat.zero_add, Bool.false_eq_true, beq_self_eq_true, getD_ne, getD_eq, List.length_set, if_true, if_false, Bool.not_true, *]; with_reducible show WO _ _ _ _ _) | (refine WO.callG (f := 36) (g := none) wB gg _ rfl (fun h1 w1 k1 => by (simp only [evs, V.ev, Nat.reduceLT, getD_eq, List.length_set, *]); exact  right_ok w1) ?_; clear gg; (rintro _ hh gg rfl; simp only [setDst])) | refine WE.seqSkip ?_ | (refine WE.seqCond (t := false) ?hc (fun hh => Bool.noConfusion hh) (fun _ => ?_); case hc => simp only [V.ev, Nat.reduceLT, getD_eq, List.length_set, *]) | (refine WO.known ?hc ?_; case hc => (simp only [wanted, Bool.true_beq, Bool.false_beq, Nat.reduceEqDiff, Nat.reduceLT, getD_ne, getD_eq, List.length_set, Bool.not_false, *])))
    clear hbl hw he l2 hd hp
    (refine WO.op1 ?_; simp only [opK, wanted, setDst, *])
    refine stepK_one wB gg (cs := [s]) (by (simp only [V.ev, Nat.reduceLT, getD_eq, List.length_set, *]; try rfl)) (by rfl) (by rfl) fun v6 h6 g6 k6 s6 => ?_
    have w6 := g6.wf wB
    have he6 : Ess h6 v6 [es] [s] := Ess.one s6 (g6.kp.es hs5) (by have := hsm.out; omega)
    skip
    refine WO.call rfl ?_
    (simp only [evs, V.ev, Nat.reduceLT, getD_eq, List.length_set, *])
    refine (own_ok w6 he6).mono ?_
    rintro v7 h7 ⟨g7, o7⟩
    have e7 : [es].flatten = es := by simp
    rw [e7] at o7
    simp only [setDst]
    have g57 := g6.trans g7
    have o57 := o7.down g6.next
    replace gg' := hid_intro gg
    clear g6 k6 s6 he6 e7 o7 gg
    have m7 := m9 _ g57
    repeat' (first | refine WE.seqR ?_ | refine WO.nil ?_ | (refine WO.op1s ?_; simp only [opK, wanted, stepK, step, setDst, evs, true_and, V.ev, Nat.reduceEqDiff, Nat.reduceLT, getD_ne, getD_eq, List.length_set, if_true, *]; with_reducible show WO _ _ _ _ _))
    refine WO.call rfl ?_
    (simp only [evs, V.ev, Nat.reduceEqDiff, Nat.reduceLT, getD_ne, getD_eq, List.length_set, *])
    refine (sort_own (h0 := h5) wB hag.out g57 o57 (by have := hsm.out; omega) (chk_ids hcH.out)).mono ?_
    rintro v8 h8 ⟨g8, Z, pz, sz, o8⟩
    have hZ := hid_intro (ord_of_sorted (chk_ids hcH.out) (key_range hcH.out hr hb2) pz sz)
    have hZl := pz.length_eq
    replace hZl := hid_intro hZl
    clear pz sz m7
    simp only [setDst]
    have l7 := o57.es.lenI
    have w8 := g8.wf wB
    have lt8 := o8.lt w8
    replace lt8 := hid_intro lt8
    repeat' (first | refine WE.seqR ?_ | refine WO.nil ?_ | (refine WO.lenOfE ?_; simp only [setDst, V.ev, Nat.reduceLT, getD_eq, List.length_set, *]; refine ⟨_, rfl, ?_⟩) | (refine WO.op1s ?_; simp only [opK, wanted, stepK, step, setDst, List.length_cons, List.length_nil, true_and, and_true, V.ev, Nat.reduceEqDiff, Nat.reduceLT, Nat.zero_add, getD_ne, getD_eq, List.length_set, *]; with_reducible show WO _ _ _ _ _))
    (refine WO.op1 ?_; simp only [opK, wanted, setDst, *])
    refine stepK_make w8 (.refl _) (n := es.length) (by (simp only [V.ev, Nat.reduceLT, getD_eq, List.length_set, *]; try rfl)) (by (simp only [V.ev, Nat.reduceLT, getD_eq, List.length_set, *]; try rfl)) (by rfl) (by rw [maxB]; have := hsm.out; omega) (by rw [maxB]; have := hsm.out; omega) fun b2 h9 g9 hb2' hg2 k9 => ?_
    have lt2 : ∀ b n m l, v7 = .slice b 0 n m l → b < b2 := fun b n m l e => by have := lt8.out b n m l e; omega
    replace lt2 := hid_intro lt2
    have hb5 := hid_intro (show h5.next ≤ b2 by have := g8.next; omega)
    have g59 := g8.trans g9
    have o9 := o8.keep g9.kp
    clear k9 g9 g8 o8 o57 lt8 hb2' g57
    repeat' (first | refine WE.assoc ?_ | refine WE.seqR ?_ | refine WO.nil ?_ | (refine WO.lenOfE ?_; simp only [setDst, V.ev, Nat.reduceLT, getD_eq, List.length_set, *]; refine ⟨_, rfl, ?_⟩) | (refine WO.op1s ?_; simp only [opK, wanted, stepK, step, setDst, true_and, V.ev, Nat.reduceEqDiff, Nat.reduceLT, getD_ne, getD_eq, List.length_set, *]; with_reducible show WO _ _ _ _ _) | refine WE.seqBlock ?_)
    refine WE.loop (IdsI h5 b2 es.length v7 Z) ?_ es.length _ _ ⟨[], Z, ⟨rfl, hZl.out⟩, g59, o9, by rw [hZl.out]; exact hg2, by simp only [List.length_set, hl], by (simp only [Nat.reduceEqDiff, Nat.reduceLT, getD_ne, getD_eq, List.length_set, *]; try rfl), by (simp only [Nat.reduceEqDiff, Nat.reduceLT, getD_ne, getD_eq, List.length_set, *]; try rfl), by (simp only [Nat.reduceLT, getD_eq, List.length_set, *]; try rfl), by (simp only [Nat.reduceEqDiff, Nat.reduceLT, getD_ne, getD_eq, List.length_set, *]; try rfl)⟩
    clear hl h0 h1 h2 g59 o9 hg2 l7
    rintro k fr h' ⟨Z1, Z2, H, g, o, hg, hl, f55, f56, f57, f11⟩
    match Z2, k, H with
    | [], 0, H =>
      have hZ1 : Z = Z1 := by have := H.out.1; simpa using this
      have hd : decide ((Z1.length : Int) < (es.length : Int)) = false := decide_eq_false (by rw [← hZ1, hZl.out]; omega)
      have hei : Ei h' (.slice b2 0 es.length es.length 0) (ordL (keyI ro ag) es 8) := by
        rw [← hZ.out]
        have hc : (Z.map Ent.id).flatMap icell = Z1.map idV := by rw [icell_eq, ← hZ1, List.map_map]; rfl
        refine ⟨celli_len _, .inr ⟨b2, 0, es.length, 0, by rw [List.length_map, hZl.out], .inl rfl, by rw [List.length_map, hZl.out]; exact Nat.le_refl _, .inr ?_⟩⟩
        rw [load_get hg (by simp [repeatL, ← hZ1]), hc, List.drop_zero]
        congr 1
        simp [repeatL, ← hZ1]
        exact List.take_of_length_le (by simp)
      have hol : (ordL (keyI ro ag) es 8).length ≤ 1000000 := by rw [← hZ.out, List.length_map, hZl.out]; have := hsm.out; omega
      replace hol := hid_intro hol
      have wC := g.wf wB
      clear hZ1 hg
      repeat' (first | refine WE.seqR ?_ | refine WO.nil ?_ | (refine WO.op1s ?_; simp only [opK, wanted, stepK, step, setDst, pureV, arith, intBin, Val.cells, fill, splice, List.take_zero, List.drop_succ_cons, List.nil_append, List.cons_append, List.length_cons, List.length_nil, List.drop_nil, true_and, and_self, Nat.le_refl, V.ev, Nat.reduceEqDiff, Nat.reduceLT, Nat.zero_add, getD_ne, getD_eq, List.length_set, if_true, *]; with_reducible show WO _ _ _ _ _) | refine WE.seqExit ?_ | (refine WE.seqCond (t := false) ?hc (fun hh => Bool.noConfusion hh) (fun _ => ?_); case hc => simp only [V.ev, Nat.reduceLT, getD_eq, *]))
      (refine WO.op1 ?_; simp only [opK, wanted, setDst, *])
      refine stepK_one wC (.refl _) (cs := [.slice b2 0 es.length es.length 0]) (by (simp only [V.ev, Nat.reduceLT, getD_eq, List.length_set, *]; try rfl)) (by rfl) (by rfl) fun v10 h10 g10 k10 s10 => ?_
      have w10 := g10.wf wC
      have he10 : Eis h10 v10 [ordL (keyI ro ag) es 8] [.slice b2 0 es.length es.length 0] := Eis.one s10 (Keep.ei g10.kp hei) hol.out
      skip
      refine WO.call rfl ?_
      (simp only [evs, V.ev, Nat.reduceLT, getD_eq, List.length_set, *])
      refine (owni_ok w10 he10).mono ?_
      rintro v11 h11 ⟨g11, o11⟩
      have e11 : [ordL (keyI ro ag) es 8].flatten = ordL (keyI ro ag) es 8 := by simp
      rw [e11] at o11
      replace hei := hid_intro hei
      clear s10 k10 he10 e11
      simp only [setDst]
      repeat' (first | refine WO.nil ?_ | (refine WO.op1s ?_; simp only [opK, wanted, stepK, step, setDst, true_and, V.ev, Nat.reduceLT, getD_eq, List.length_set, *]; with_reducible show WO _ _ _ _ _) | refine WE.ret ?_)
      ((try dsimp only); refine Exists.intro _ ⟨(by (simp only [readResults, Nat.reduceEqDiff, Nat.reduceLT, getD_ne, getD_eq, List.length_set, *]; try rfl)), ?_⟩)
      have gF := gA.trans (g.trans (g10.trans g11))
      refine ⟨gF, v11, by rw [hres.out]; rfl, by rw [hres.out]; exact o11.down (by have := gA.next; have := g.next; have := g10.next; omega)⟩
    | z :: Z2, k + 1, H =>
      have hlt : Z1.length < Z.length := by rw [H.out.1]; simp
      have hz : Z[Z1.length] = z := by
        have := H.out.1
        simp [this]
      have hd : decide ((Z1.length : Int) < (es.length : Int)) = true := decide_eq_true (by have := hZl.out; omega)
      obtain ⟨bx, ox, he, l3, _, _, _⟩ := o.es.elt (k := .i64) hlt
      rw [hz] at l3
      replace l3 := l3 _ (.refl _)
      have t2 : eltI 1 (.slice b2 0 es.length es.length 0) (.int .i64 (Z1.length : Int)) = some (.ptr b2 (Z1.length * 1)) := elt_any (by have := hZl.out; omega)
      have hwi : IntKind.i64.wrap ((Z1.length : Int) + 1) = ((Z1.length + 1 : Nat) : Int) := wrap_add (b := 1) (by have := hZl.out; have := hsm.out; omega)
      have wC := g.wf wB
      replace hlt := hid_intro hlt
      replace hz := hid_intro hz
      repeat' (first | refine WE.seqR ?_ | refine WO.nil ?_ | (refine WO.iaddrE ?_; simp only [setDst, V.ev, Nat.reduceEqDiff, getD_ne, *]; refine ⟨_, rfl, ?_⟩) | (refine WO.op1s ?_; simp only [opK, wanted, stepK, step, setDst, pureV, arith, intBin, true_and, V.ev, Nat.reduceEqDiff, Nat.reduceLT, getD_ne, getD_eq, List.length_set, if_true, *]; with_reducible show WO _ _ _ _ _) | refine WE.seqSkip ?_ | (refine WE.seqCond (t := true) ?hc (fun _ => ?_) (fun hh => Bool.noConfusion hh); case hc => simp only [V.ev, Nat.reduceLT, getD_eq, *]) | refine WE.seqBlock ?_)
      (refine WO.op1 ?_; simp only [opK, wanted, setDst, *])
      refine stepK_alloc wC fun b13 h13 g13 hb13 hg13 hn13 => ?_
      clear l3
      repeat' (first | (refine WO.op1s ?_; simp only [opK, wanted, stepK, step, setDst, Val.cells, true_and, V.ev, Nat.reduceEqDiff, Nat.reduceLT, getD_ne, getD_eq, List.length_set, *]; with_reducible show WO _ _ _ _ _))
      (refine WO.op1 ?_; simp only [opK, wanted, setDst, *])
      refine stepK_store (b := b13) (o := 0) (cs := [.int .i64 0, .int .i64 0, .int .i64 0]) (us := z.cells) (by (simp only [V.ev, Nat.reduceEqDiff, Nat.reduceLT, getD_ne, getD_eq, List.length_set, *]; try rfl)) (by (simp only [V.ev, Nat.reduceEqDiff, Nat.reduceLT, getD_ne, getD_eq, List.length_set, *]; try rfl)) (by simp [Ent.cells]) hg13 (by rw [g13.floor]; have := wC.fl; omega) (by simp) (by simp [Ent.cells, Val.one]) fun h14 k14 => ?_
      have g14 : Grow h' h14 := g13.wrote hb13 wC k14
      have e14 : h14.load b13 0 1 = some [.int .i64 z.id] := load_get k14.at_ (by simp [splice, Ent.cells])
      clear g13 hg13 hn13 k14 hb13
      repeat' (first | refine WO.nil ?_ | (refine WO.iaddrE ?_; simp only [setDst, V.ev, Nat.reduceEqDiff, Nat.reduceLT, getD_ne, getD_eq, List.length_set, *]; refine ⟨_, rfl, ?_⟩) | (refine WO.op1s ?_; simp only [opK, wanted, stepK, step, setDst, Val.cells, List.length_cons, List.length_nil, true_and, V.ev, Nat.reduceEqDiff, Nat.reduceLT, Nat.add_zero, Nat.zero_add, Bool.false_eq_true, getD_ne, getD_eq, List.length_set, if_true, if_false, *]; with_reducible show WO _ _ _ _ _) | refine WE.region ?_)
      (refine WO.op1 ?_; simp only [opK, wanted, setDst, *])
      refine stepK_store (b := b2) (o := Z1.length * 1) (cs := Z1.map idV ++ repeatL [.int .i64 0] (z :: Z2).length) (us := [idV z]) (by (simp only [V.ev, Nat.reduceLT, getD_eq, List.length_set, *]; try rfl)) (by (simp only [V.ev, Nat.reduceEqDiff, Nat.reduceLT, getD_ne, getD_eq, List.length_set, *]; try rfl)) (by rfl) (g14.keep _ _ hg) (by rw [g14.floor, g.floor]; have := wB.fl; have := hb5.out; omega) (by simp [repeatL]) (by rfl) fun h15 k15 => ?_
      rw [ids_splice] at k15
      have g15 : Grow h5 h15 := (g.trans g14).wrote hb5.out wB k15
      have o15 := (o.keep g14.kp).wrote2 lt2.out k15
      have a15 := k15.at_
      clear e14 k15 he
      repeat' (first | refine WO.nil ?_ | (refine WO.op1s ?_; simp only [opK, wanted, stepK, step, setDst, pureV, arith, intBin, true_and, V.ev, Nat.reduceEqDiff, Nat.reduceLT, getD_ne, getD_eq, List.length_set, if_true, *]; with_reducible show WO _ _ _ _ _) | refine WE.region ?_)
      refine ⟨k, by omega, Z1 ++ [z], Z2, ⟨by have := H.out.1; simp [this], by have := H.out.2; simpa using this⟩, g15, o15, a15, by simp only [List.length_set, hl], by (simp only [Nat.reduceEqDiff, getD_ne, *]; try rfl), by (simp only [Nat.reduceEqDiff, getD_ne, *]; try rfl), by first | ((simp only [Nat.reduceLT, getD_eq, List.length_set, *]; try rfl); done) | ((simp only [Nat.reduceLT, getD_eq, List.length_set, *]; try rfl); simp), by (simp only [Nat.reduceEqDiff, getD_ne, *]; try rfl)⟩
  · skip
    repeat' (first | refine WE.assoc ?_ | refine WE.seqR ?_ | refine WO.nil ?_ | (refine WO.lenOfE ?_; simp only [setDst, V.ev, Nat.reduceLT, getD_eq, List.length_set, *]; refine ⟨_, rfl, ?_⟩) | (refine WO.op1s ?_; simp only [opK, wanted, stepK, step, setDst, pureV, arith, intBin, unary, evs, Val.cells, fill, splice, List.take_zero, List.nil_append, List.length_cons, List.length_nil, true_and, and_true, Nat.le_refl, V.ev, Nat.reduceEqDiff, Nat.reduceLT, Nat.add_zero, Nat.zero_add, Bool.false_eq_true, beq_self_eq_true, getD_ne, getD_eq, List.length_set, if_true, if_false, Bool.false_beq, Bool.not_true, *]; with_reducible show WO _ _ _ _ _) | (refine WO.callG (f := 36) (g := none) wB gg _ rfl (fun h1 w1 k1 => by (simp only [evs, V.ev, Nat.reduceLT, getD_eq, List.length_set, *]); exact  right_ok w1) ?_; clear gg; (rintro _ hh gg rfl; simp only [setDst])) | refine WE.seqSkip ?_ | (refine WE.seqCond (t := false) ?hc (fun hh => Bool.noConfusion hh) (fun _ => ?_); case hc => simp only [V.ev, Nat.reduceLT, getD_eq, List.length_set, *]) | (refine WO.known ?hc ?_; case hc => (simp only [wanted, Bool.false_beq, Nat.reduceEqDiff, Nat.reduceLT, getD_ne, getD_eq, List.length_set, Bool.not_false, *])))
    clear hd
    (refine WO.op1 ?_; simp only [opK, wanted, setDst, *])
    refine stepK_one wB gg (cs := [s]) (by (simp only [V.ev, Nat.reduceLT, getD_eq, List.length_set, *]; try rfl)) (by rfl) (by rfl) fun v6 h6 g6 k6 s6 => ?_
    have w6 := g6.wf wB
    have he6 : Ess h6 v6 [es] [s] := Ess.one s6 (g6.kp.es hs5) (by have := hsm.out; omega)
    skip
    refine WO.call rfl ?_
    (simp only [evs, V.ev, Nat.reduceLT, getD_eq, List.length_set, *])
    refine (own_ok w6 he6).mono ?_
    rintro v7 h7 ⟨g7, o7⟩
    have e7 : [es].flatten = es := by simp
    rw [e7] at o7
    simp only [setDst]
    have g57 := g6.trans g7
    have o57 := o7.down g6.next
    replace gg' := hid_intro gg
    clear g6 k6 s6 he6 e7 o7 gg
    have m7 := m9 _ g57
    repeat' (first | refine WE.seqR ?_ | refine WO.nil ?_ | (refine WO.op1s ?_; simp only [opK, wanted, stepK, step, setDst, evs, true_and, V.ev, Nat.reduceEqDiff, Nat.reduceLT, getD_ne, getD_eq, List.length_set, if_true, *]; with_reducible show WO _ _ _ _ _))
    refine WO.call rfl ?_
    (simp only [evs, V.ev, Nat.reduceEqDiff, Nat.reduceLT, getD_ne, getD_eq, List.length_set, *])
    refine (sort_own (h0 := h5) wB hag.out g57 o57 (by have := hsm.out; omega) (chk_ids hcH.out)).mono ?_
    rintro v8 h8 ⟨g8, Z, pz, sz, o8⟩
    have hZ := hid_intro (ord_of_sorted (chk_ids hcH.out) (key_range hcH.out hr hb2) pz sz)
    have hZl := pz.length_eq
    replace hZl := hid_intro hZl
    clear pz sz m7
    simp only [setDst]
    have l7 := o57.es.lenI
    have w8 := g8.wf wB
    have lt8 := o8.lt w8
    replace lt8 := hid_intro lt8
    repeat' (first | refine WE.seqR ?_ | refine WO.nil ?_ | (refine WO.lenOfE ?_; simp only [setDst, V.ev, Nat.reduceLT, getD_eq, List.length_set, *]; refine ⟨_, rfl, ?_⟩) | (refine WO.op1s ?_; simp only [opK, wanted, stepK, step, setDst, List.length_cons, List.length_nil, true_and, and_true, V.ev, Nat.reduceEqDiff, Nat.reduceLT, Nat.zero_add, getD_ne, getD_eq, List.length_set, *]; with_reducible show WO _ _ _ _ _))
    (refine WO.op1 ?_; simp only [opK, wanted, setDst, *])
    refine stepK_make w8 (.refl _) (n := es.length) (by (simp only [V.ev, Nat.reduceLT, getD_eq, List.length_set, *]; try rfl)) (by (simp only [V.ev, Nat.reduceLT, getD_eq, List.length_set, *]; try rfl)) (by rfl) (by rw [maxB]; have := hsm.out; omega) (by rw [maxB]; have := hsm.out; omega) fun b2 h9 g9 hb2' hg2 k9 => ?_
    have lt2 : ∀ b n m l, v7 = .slice b 0 n m l → b < b2 := fun b n m l e => by have := lt8.out b n m l e; omega
    replace lt2 := hid_intro lt2
    have hb5 := hid_intro (show h5.next ≤ b2 by have := g8.next; omega)
    have g59 := g8.trans g9
    have o9 := o8.keep g9.kp
    clear k9 g9 g8 o8 o57 lt8 hb2' g57
    repeat' (first | refine WE.assoc ?_ | refine WE.seqR ?_ | refine WO.nil ?_ | (refine WO.lenOfE ?_; simp only [setDst, V.ev, Nat.reduceLT, getD_eq, List.length_set, *]; refine ⟨_, rfl, ?_⟩) | (refine WO.op1s ?_; simp only [opK, wanted, stepK, step, setDst, true_and, V.ev, Nat.reduceEqDiff, Nat.reduceLT, getD_ne, getD_eq, List.length_set, *]; with_reducible show WO _ _ _ _ _) | refine WE.seqBlock ?_)
    refine WE.loop (IdsI h5 b2 es.length v7 Z) ?_ es.length _ _ ⟨[], Z, ⟨rfl, hZl.out⟩, g59, o9, by rw [hZl.out]; exact hg2, by simp only [List.length_set, hl], by (simp only [Nat.reduceEqDiff, Nat.reduceLT, getD_ne, getD_eq, List.length_set, *]; try rfl), by (simp only [Nat.reduceEqDiff, Nat.reduceLT, getD_ne, getD_eq, List.length_set, *]; try rfl), by (simp only [Nat.reduceLT, getD_eq, List.length_set, *]; try rfl), by (simp only [Nat.reduceEqDiff, Nat.reduceLT, getD_ne, getD_eq, List.length_set, *]; try rfl)⟩
    clear hl h0 h1 h2 g59 o9 hg2 l7
    rintro k fr h' ⟨Z1, Z2, H, g, o, hg, hl, f55, f56, f57, f11⟩
    match Z2, k, H with
    | [], 0, H =>
      have hZ1 : Z = Z1 := by have := H.out.1; simpa using this
      have hd : decide ((Z1.length : Int) < (es.length : Int)) = false := decide_eq_false (by rw [← hZ1, hZl.out]; omega)
      have hei : Ei h' (.slice b2 0 es.length es.length 0) (ordL (keyI ro ag) es 8) := by
        rw [← hZ.out]
        have hc : (Z.map Ent.id).flatMap icell = Z1.map idV := by rw [icell_eq, ← hZ1, List.map_map]; rfl
        refine ⟨celli_len _, .inr ⟨b2, 0, es.length, 0, by rw [List.length_map, hZl.out], .inl rfl, by rw [List.length_map, hZl.out]; exact Nat.le_refl _, .inr ?_⟩⟩
        rw [load_get hg (by simp [repeatL, ← hZ1]), hc, List.drop_zero]
        congr 1
        simp [repeatL, ← hZ1]
        exact List.take_of_length_le (by simp)
      have hol : (ordL (keyI ro ag) es 8).length ≤ 1000000 := by rw [← hZ.out, List.length_map, hZl.out]; have := hsm.out; omega
      replace hol := hid_intro hol
      have wC := g.wf wB
      clear hZ1 hg
      repeat' (first | refine WE.seqR ?_ | refine WO.nil ?_ | (refine WO.op1s ?_; simp only [opK, wanted, stepK, step, setDst, pureV, arith, intBin, Val.cells, fill, splice, List.take_zero, List.drop_succ_cons, List.nil_append, List.cons_append, List.length_cons, List.length_nil, List.drop_nil, true_and, and_self, Nat.le_refl, V.ev, Nat.reduceEqDiff, Nat.reduceLT, Nat.zero_add, getD_ne, getD_eq, List.length_set, if_true, *]; with_reducible show WO _ _ _ _ _) | refine WE.seqExit ?_ | (refine WE.seqCond (t := false) ?hc (fun hh => Bool.noConfusion hh) (fun _ => ?_); case hc => simp only [V.ev, Nat.reduceLT, getD_eq, *]))
      (refine WO.op1 ?_; simp only [opK, wanted, setDst, *])
      refine stepK_one wC (.refl _) (cs := [.slice b2 0 es.length es.length 0]) (by (simp only [V.ev, Nat.reduceLT, getD_eq, List.length_set, *]; try rfl)) (by rfl) (by rfl) fun v10 h10 g10 k10 s10 => ?_
      have w10 := g10.wf wC
      have he10 : Eis h10 v10 [ordL (keyI ro ag) es 8] [.slice b2 0 es.length es.length 0] := Eis.one s10 (Keep.ei g10.kp hei) hol.out
      skip
      refine WO.call rfl ?_
      (simp only [evs, V.ev, Nat.reduceLT, getD_eq, List.length_set, *])
      refine (owni_ok w10 he10).mono ?_
      rintro v11 h11 ⟨g11, o11⟩
      have e11 : [ordL (keyI ro ag) es 8].flatten = ordL (keyI ro ag) es 8 := by simp
      rw [e11] at o11
      replace hei := hid_intro hei
      clear s10 k10 he10 e11
      simp only [setDst]
      repeat' (first | refine WO.nil ?_ | (refine WO.op1s ?_; simp only [opK, wanted, stepK, step, setDst, true_and, V.ev, Nat.reduceLT, getD_eq, List.length_set, *]; with_reducible show WO _ _ _ _ _) | refine WE.ret ?_)
      ((try dsimp only); refine Exists.intro _ ⟨(by (simp only [readResults, Nat.reduceEqDiff, Nat.reduceLT, getD_ne, getD_eq, List.length_set, *]; try rfl)), ?_⟩)
      have gF := gA.trans (g.trans (g10.trans g11))
      refine ⟨gF, v11, by rw [hres.out]; rfl, by rw [hres.out]; exact o11.down (by have := gA.next; have := g.next; have := g10.next; omega)⟩
    | z :: Z2, k + 1, H =>
      have hlt : Z1.length < Z.length := by rw [H.out.1]; simp
      have hz : Z[Z1.length] = z := by
        have := H.out.1
        simp [this]
      have hd : decide ((Z1.length : Int) < (es.length : Int)) = true := decide_eq_true (by have := hZl.out; omega)
      obtain ⟨bx, ox, he, l3, _, _, _⟩ := o.es.elt (k := .i64) hlt
      rw [hz] at l3
      replace l3 := l3 _ (.refl _)
      have t2 : eltI 1 (.slice b2 0 es.length es.length 0) (.int .i64 (Z1.length : Int)) = some (.ptr b2 (Z1.length * 1)) := elt_any (by have := hZl.out; omega)
      have hwi : IntKind.i64.wrap ((Z1.length : Int) + 1) = ((Z1.length + 1 : Nat) : Int) := wrap_add (b := 1) (by have := hZl.out; have := hsm.out; omega)
      have wC := g.wf wB
      replace hlt := hid_intro hlt
      replace hz := hid_intro hz
      repeat' (first | refine WE.seqR ?_ | refine WO.nil ?_ | (refine WO.iaddrE ?_; simp only [setDst, V.ev, Nat.reduceEqDiff, getD_ne, *]; refine ⟨_, rfl, ?_⟩) | (refine WO.op1s ?_; simp only [opK, wanted, stepK, step, setDst, pureV, arith, intBin, true_and, V.ev, Nat.reduceEqDiff, Nat.reduceLT, getD_ne, getD_eq, List.length_set, if_true, *]; with_reducible show WO _ _ _ _ _) | refine WE.seqSkip ?_ | (refine WE.seqCond (t := true) ?hc (fun _ => ?_) (fun hh => Bool.noConfusion hh); case hc => simp only [V.ev, Nat.reduceLT, getD_eq, *]) | refine WE.seqBlock ?_)
      (refine WO.op1 ?_; simp only [opK, wanted, setDst, *])
      refine stepK_alloc wC fun b13 h13 g13 hb13 hg13 hn13 => ?_
      clear l3
      repeat' (first | (refine WO.op1s ?_; simp only [opK, wanted, stepK, step, setDst, Val.cells, true_and, V.ev, Nat.reduceEqDiff, Nat.reduceLT, getD_ne, getD_eq, List.length_set, *]; with_reducible show WO _ _ _ _ _))
      (refine WO.op1 ?_; simp only [opK, wanted, setDst, *])
      refine stepK_store (b := b13) (o := 0) (cs := [.int .i64 0, .int .i64 0, .int .i64 0]) (us := z.cells) (by (simp only [V.ev, Nat.reduceEqDiff, Nat.reduceLT, getD_ne, getD_eq, List.length_set, *]; try rfl)) (by (simp only [V.ev, Nat.reduceEqDiff, Nat.reduceLT, getD_ne, getD_eq, List.length_set, *]; try rfl)) (by simp [Ent.cells]) hg13 (by rw [g13.floor]; have := wC.fl; omega) (by simp) (by simp [Ent.cells, Val.one]) fun h14 k14 => ?_
      have g14 : Grow h' h14 := g13.wrote hb13 wC k14
      have e14 : h14.load b13 0 1 = some [.int .i64 z.id] := load_get k14.at_ (by simp [splice, Ent.cells])
      clear g13 hg13 hn13 k14 hb13
      repeat' (first | refine WO.nil ?_ | (refine WO.iaddrE ?_; simp only [setDst, V.ev, Nat.reduceEqDiff, Nat.reduceLT, getD_ne, getD_eq, List.length_set, *]; refine ⟨_, rfl, ?_⟩) | (refine WO.op1s ?_; simp only [opK, wanted, stepK, step, setDst, Val.cells, List.length_cons, List.length_nil, true_and, V.ev, Nat.reduceEqDiff, Nat.reduceLT, Nat.add_zero, Nat.zero_add, Bool.false_eq_true, getD_ne, getD_eq, List.length_set, if_true, if_false, *]; with_reducible show WO _ _ _ _ _) | refine WE.region ?_)
      (refine WO.op1 ?_; simp only [opK, wanted, setDst, *])
      refine stepK_store (b := b2) (o := Z1.length * 1) (cs := Z1.map idV ++ repeatL [.int .i64 0] (z :: Z2).length) (us := [idV z]) (by (simp only [V.ev, Nat.reduceLT, getD_eq, List.length_set, *]; try rfl)) (by (simp only [V.ev, Nat.reduceEqDiff, Nat.reduceLT, getD_ne, getD_eq, List.length_set, *]; try rfl)) (by rfl) (g14.keep _ _ hg) (by rw [g14.floor, g.floor]; have := wB.fl; have := hb5.out; omega) (by simp [repeatL]) (by rfl) fun h15 k15 => ?_
      rw [ids_splice] at k15
      have g15 : Grow h5 h15 := (g.trans g14).wrote hb5.out wB k15
      have o15 := (o.keep g14.kp).wrote2 lt2.out k15
      have a15 := k15.at_
      clear e14 k15 he
      repeat' (first | refine WO.nil ?_ | (refine WO.op1s ?_; simp only [opK, wanted, stepK, step, setDst, pureV, arith, intBin, true_and, V.ev, Nat.reduceEqDiff, Nat.reduceLT, getD_ne, getD_eq, List.length_set, if_true, *]; with_reducible show WO _ _ _ _ _) | refine WE.region ?_)
      refine ⟨k, by omega, Z1 ++ [z], Z2, ⟨by have := H.out.1; simp [this], by have := H.out.2; simpa using this⟩, g15, o15, a15, by simp only [List.length_set, hl], by (simp only [Nat.reduceEqDiff, getD_ne, *]; try rfl), by (simp only [Nat.reduceEqDiff, getD_ne, *]; try rfl), by first | ((simp only [Nat.reduceLT, getD_eq, List.length_set, *]; try rfl); done) | ((simp only [Nat.reduceLT, getD_eq, List.length_set, *]; try rfl); simp), by (simp only [Nat.reduceEqDiff, getD_ne, *]; try rfl)⟩

end Go.V
end

section
set_option linter.unusedVariables false
set_option linter.unusedSimpArgs false
set_option linter.unusedSectionVars false
-- DRAWS
-- BUILDS
-- NEW
set_option maxHeartbeats 1000000
namespace Go.V
attribute [local irreducible] stepK opK opV

def lowOf (es : List Ent) (j : Nat) (c : Int) : List Ent := es.modify j fun e => { e with cl := min e.cl c }

def lowerRes (es : List Ent) (id c : Int) : List Ent × Int := if 0 < chk es then ([], chk es) else if c < 0 ∨ c > 7 then ([], 4) else if atI es id < 0 then ([], 8) else (lowOf es (atI es id).toNat c, 0)

theorem lowOf_len (es : List Ent) (j : Nat) (c : Int) : (lowOf es j c).length = es.length := by simp [lowOf]

/-- One cell of an entry, written anew. -/
theorem flat_splice (es : List Ent) (j : Nat) (hj : j < es.length) (c : Int) : splice (es.flatMap Ent.cells) (j * 3 + 1) [.int .i64 (min es[j].cl c)] = (lowOf es j c).flatMap Ent.cells := by
  have h1 : es = es.take j ++ es[j] :: es.drop (j + 1) := by rw [← List.drop_eq_getElem_cons hj, List.take_append_drop]
  have hl : ((es.take j).flatMap Ent.cells).length = j * 3 := by rw [cells_len, List.length_take]; congr 1; omega
  have h2 : es.flatMap Ent.cells = (es.take j).flatMap Ent.cells ++ ([.int .i64 es[j].id] ++ [.int .i64 es[j].cl] ++ [.int .i64 es[j].si] ++ (es.drop (j + 1)).flatMap Ent.cells) := by
    have : es.flatMap Ent.cells = (es.take j ++ es[j] :: es.drop (j + 1)).flatMap Ent.cells := by rw [← h1]
    rw [this, List.flatMap_append, List.flatMap_cons]
    simp [Ent.cells]
  have h3 : lowOf es j c = es.take j ++ { es[j] with cl := min es[j].cl c } :: es.drop (j + 1) := by
    unfold lowOf
    rw [List.modify_eq_take_cons_drop hj]
  rw [h3, List.flatMap_append, List.flatMap_cons, h2]
  unfold splice
  have e1 : ∀ (a b : List Val), a.length = j * 3 → (a ++ b).take (j * 3 + 1) = a ++ b.take 1 := fun a b q => by rw [← q, List.take_length_add_append]
  have e2 : ∀ (a b : List Val), a.length = j * 3 → (a ++ b).drop (j * 3 + 1 + 1) = b.drop 2 := fun a b q => by rw [← q, Nat.add_assoc, List.drop_length_add_append]
  simp only [List.length_cons, List.length_nil, Nat.zero_add]
  rw [e1 _ _ hl, e2 _ _ hl]
  simp [Ent.cells]

theorem lower_ok {h : Heap} (w : Wf h) {s : Val} {es : List Ent} {id c : Int} (hs : Es h s es) (hn : es.length ≤ 100000) : WC E35 23 [.agg [s], .int .i64 id, .int .i64 c] h fun v h' => ProRes h h' v (lowerRes es id c) := by
  refine WC.fn1 (n := 49) rfl rfl (by rfl) ?_
  intro fr hl ha
  have h0 : fr.getD 0 .undef = .agg [s] := ha 0
  have h1 : fr.getD 1 .undef = .int .i64 id := ha 1
  have h2 : fr.getD 2 .undef = .int .i64 c := ha 2
  clear ha
  unfold v23
  refine WE.seqR ?_
  (refine WO.op1 ?_; simp only [opK, wanted, setDst, *])
  refine stepK_box w (c := [s]) (by simp only [V.ev, *]; rfl) rfl fun b h2' g2 hb2 hg2 hn2 => ?_
  (refine WO.op1 ?_; simp only [opK, wanted, setDst, *])
  refine stepK_alloc (g2.wf w) fun b4 h4 g4 hb4 hg4 hn4 => ?_
  have gA := g2.trans g4
  have wB := gA.wf w
  have gg := Grow.refl h4
  have l0 : ∀ h', Grow h4 h' → h'.load b 0 1 = some [s] := fun h' g => g.part (g4.keep _ _ hg2) (by simp)
  have hs4 := gA.kp.es hs
  have hlen : es.length < 4611686018427387904 := by omega
  have hf4 : h4.floor ≤ b4 := by rw [gA.floor]; have := w.fl; have := g2.next; omega
  have hhb4 : h.next ≤ b4 := by have := g2.next; omega
  have hb4' : b4 < h4.next := by omega
  clear g2 g4 hg2 hn2 hn4 hb4 hb2
  have cs1 := hs.cells1.1
  by_cases hc : chk es = 0
  case neg =>
    have hd : (chk es == 0) = false := by simpa using hc
    have hp : 0 < chk es := by have := chk_nonneg es; omega
    repeat' (first | refine WE.assoc ?_ | refine WE.seqR ?_ | refine WO.nil ?_ | (refine WO.op1s ?_; simp only [opK, wanted, stepK, step, setDst, evs, eqVal, eqAt, eqv, Val.isAgg, Val.cells, fill, List.length_cons, List.length_nil, true_and, and_self, Bool.and_true, List.getElem?_cons_zero, V.ev, Nat.reduceEqDiff, Nat.reduceLT, Nat.zero_add, getD_ne, getD_eq, List.length_set, if_true, Bool.not_false, *]; with_reducible show WO _ _ _ _ _) | (refine WO.callG (f := 30) (g := none) wB gg _ rfl (fun h1 w1 k1 => by (simp only [evs, V.ev, Nat.reduceLT, getD_eq, List.length_set, *]); exact  check_ok w1 (k1.es hs4) hlen) ?_; clear gg; (rintro _ hh gg rfl; simp only [setDst])) | (refine WE.seqCond (t := true) ?hc (fun _ => ?_) (fun hh => Bool.noConfusion hh); case hc => simp only [V.ev, Nat.reduceLT, getD_eq, List.length_set, *]))
    (refine WO.op1 ?_; simp only [opK, wanted, setDst, *])
    refine stepK_store (b := b4) (o := 0) (cs := [.nils]) (us := [.nils]) (by (simp only [V.ev, Nat.reduceEqDiff, Nat.reduceLT, getD_ne, getD_eq, List.length_set, *]; try rfl)) (by (simp only [V.ev, Nat.reduceEqDiff, Nat.reduceLT, getD_ne, getD_eq, List.length_set, *]; try rfl)) (by rfl) (gg.keep _ _ hg4) (by rw [gg.floor]; exact hf4) (by simp) (by rfl) fun h10 k10 => ?_
    have m10 : h10.load b4 0 1 = some [.nils] := load_get k10.at_ (by simp [splice])
    have gh := (gA.trans gg).wrote hhb4 w k10
    repeat' (first | refine WO.nil ?_ | (refine WO.op1s ?_; simp only [opK, wanted, stepK, step, setDst, true_and, V.ev, Nat.reduceLT, getD_eq, List.length_set, *]; with_reducible show WO _ _ _ _ _) | refine WE.seqRet ?_)
    ((try dsimp only); refine Exists.intro _ ⟨(by (simp only [readResults, Nat.reduceEqDiff, Nat.reduceLT, getD_ne, getD_eq, List.length_set, if_true, *]; try rfl)), ?_⟩)
    refine ⟨gh, .nils, ?_, ?_⟩
    · simp only [lowerRes, if_pos hp]; rfl
    · simp only [lowerRes, if_pos hp]; exact .inl ⟨rfl, rfl⟩
  have hp : ¬ 0 < chk es := by omega
  have hd : (chk es == 0) = true := by simpa using hc
  by_cases hr : c < 0 ∨ c > 7
  · have done_ : ∀ h', Grow h h' → ProRes h h' (.tup [.agg [.nils], .int .i64 4]) (lowerRes es id c) := fun h' g => by
      simp only [lowerRes, if_neg hp, if_pos hr]
      exact ⟨g, .nils, rfl, .inl ⟨rfl, rfl⟩⟩
    by_cases hc0 : c < 0
    · have hd1 : decide (c < 0) = true := by simpa using hc0
      clear hr
      repeat' (first | refine WE.assoc ?_ | refine WE.seqR ?_ | refine WO.nil ?_ | (refine WO.op1s ?_; simp only [opK, wanted, stepK, step, setDst, pureV, arith, intBin, evs, eqVal, eqAt, eqv, Val.isAgg, Val.cells, fill, List.length_cons, List.length_nil, true_and, and_self, Bool.and_true, List.getElem?_cons_zero, V.ev, Nat.reduceEqDiff, Nat.reduceLT, Nat.zero_add, beq_self_eq_true, decide_true, getD_ne, getD_eq, List.length_set, if_true, Bool.true_beq, Bool.not_true, *]; with_reducible show WO _ _ _ _ _) | (refine WO.callG (f := 30) (g := none) wB gg _ rfl (fun h1 w1 k1 => by (simp only [evs, V.ev, Nat.reduceLT, getD_eq, List.length_set, *]); exact  check_ok w1 (k1.es hs4) hlen) ?_; clear gg; (rintro _ hh gg rfl; simp only [setDst])) | refine WE.seqSkip ?_ | (refine WE.seqCond (t := true) ?hc (fun _ => ?_) (fun hh => Bool.noConfusion hh); case hc => simp only [V.ev, Nat.reduceLT, getD_eq, List.length_set, *]) | (refine WE.seqCond (t := false) ?hc (fun hh => Bool.noConfusion hh) (fun _ => ?_); case hc => simp only [V.ev, Nat.reduceLT, getD_eq, List.length_set, *]))
      (refine WO.op1 ?_; simp only [opK, wanted, setDst, *])
      refine stepK_store (b := b4) (o := 0) (cs := [.nils]) (us := [.nils]) (by (simp only [V.ev, Nat.reduceEqDiff, Nat.reduceLT, getD_ne, getD_eq, List.length_set, *]; try rfl)) (by (simp only [V.ev, Nat.reduceLT, getD_eq, List.length_set, *]; try rfl)) (by rfl) (gg.keep _ _ hg4) (by rw [gg.floor]; exact hf4) (by simp) (by rfl) fun h10 k10 => ?_
      have m10 : h10.load b4 0 1 = some [.nils] := load_get k10.at_ (by simp [splice])
      have gh := (gA.trans gg).wrote hhb4 w k10
      repeat' (first | refine WO.nil ?_ | (refine WO.op1s ?_; simp only [opK, wanted, stepK, step, setDst, true_and, V.ev, *]; with_reducible show WO _ _ _ _ _) | refine WE.seqRet ?_)
      ((try dsimp only); refine Exists.intro _ ⟨(by (simp only [readResults, Nat.reduceEqDiff, Nat.reduceLT, getD_ne, getD_eq, List.length_set, if_true, *]; try rfl)), ?_⟩)
      exact done_ _ gh
    · have hd1 : decide (c < 0) = false := by simpa using hc0
      have hd2 : decide (c ≥ 8) = true := by simp; omega
      clear hr
      repeat' (first | refine WE.assoc ?_ | refine WE.seqR ?_ | refine WO.nil ?_ | (refine WO.op1s ?_; simp only [opK, wanted, stepK, step, setDst, pureV, arith, intBin, evs, eqVal, eqAt, eqv, Val.isAgg, Val.cells, fill, List.length_cons, List.length_nil, true_and, and_self, Bool.and_true, List.getElem?_cons_zero, V.ev, Nat.reduceEqDiff, Nat.reduceLT, Nat.zero_add, beq_self_eq_true, decide_false, getD_ne, getD_eq, List.length_set, if_true, Bool.not_true, *]; with_reducible show WO _ _ _ _ _) | (refine WO.callG (f := 30) (g := none) wB gg _ rfl (fun h1 w1 k1 => by (simp only [evs, V.ev, Nat.reduceLT, getD_eq, List.length_set, *]); exact  check_ok w1 (k1.es hs4) hlen) ?_; clear gg; (rintro _ hh gg rfl; simp only [setDst])) | refine WE.seqSkip ?_ | (refine WE.seqCond (t := true) ?hc (fun _ => ?_) (fun hh => Bool.noConfusion hh); case hc => simp only [V.ev, Nat.reduceLT, getD_eq, List.length_set, *]) | (refine WE.seqCond (t := false) ?hc (fun hh => Bool.noConfusion hh) (fun _ => ?_); case hc => simp only [V.ev, Nat.reduceLT, getD_eq, List.length_set, *]))
      (refine WO.op1 ?_; simp only [opK, wanted, setDst, *])
      refine stepK_store (b := b4) (o := 0) (cs := [.nils]) (us := [.nils]) (by (simp only [V.ev, Nat.reduceEqDiff, Nat.reduceLT, getD_ne, getD_eq, List.length_set, *]; try rfl)) (by (simp only [V.ev, Nat.reduceLT, getD_eq, List.length_set, *]; try rfl)) (by rfl) (gg.keep _ _ hg4) (by rw [gg.floor]; exact hf4) (by simp) (by rfl) fun h10 k10 => ?_
      have m10 : h10.load b4 0 1 = some [.nils] := load_get k10.at_ (by simp [splice])
      have gh := (gA.trans gg).wrote hhb4 w k10
      repeat' (first | refine WO.nil ?_ | (refine WO.op1s ?_; simp only [opK, wanted, stepK, step, setDst, true_and, V.ev, *]; with_reducible show WO _ _ _ _ _) | refine WE.seqRet ?_)
      ((try dsimp only); refine Exists.intro _ ⟨(by (simp only [readResults, Nat.reduceEqDiff, Nat.reduceLT, getD_ne, getD_eq, List.length_set, if_true, *]; try rfl)), ?_⟩)
      exact done_ _ gh
  have hd1 : decide (c < 0) = false := by simp; omega
  have hd2 : decide (c ≥ 8) = false := by simp; omega
  rcases atI_range es id with hat | ⟨j, hat, hj, _, hid⟩
  · have hneg : atI es id < 0 := by omega
    have hd3 : decide (atI es id < 0) = true := by simpa using hneg
    have done_ : ∀ h', Grow h h' → ProRes h h' (.tup [.agg [.nils], .int .i64 8]) (lowerRes es id c) := fun h' g => by
      simp only [lowerRes, if_neg hp, if_neg hr, if_pos hneg]
      exact ⟨g, .nils, rfl, .inl ⟨rfl, rfl⟩⟩
    clear hr
    repeat' (first | refine WE.assoc ?_ | refine WE.seqR ?_ | refine WO.nil ?_ | (refine WO.op1s ?_; simp only [opK, wanted, stepK, step, setDst, pureV, arith, intBin, evs, eqVal, eqAt, eqv, Val.isAgg, Val.cells, fill, List.length_cons, List.length_nil, true_and, and_self, Bool.and_true, List.getElem?_cons_zero, V.ev, Nat.reduceEqDiff, Nat.reduceLT, Nat.zero_add, Int.reduceLT, Int.reduceNeg, beq_self_eq_true, decide_true, getD_ne, getD_eq, List.length_set, if_true, Bool.not_true, *]; with_reducible show WO _ _ _ _ _) | (refine WO.callG (f := 30) (g := none) wB gg _ rfl (fun h1 w1 k1 => by (simp only [evs, V.ev, Nat.reduceLT, getD_eq, List.length_set, *]); exact  check_ok w1 (k1.es hs4) hlen) ?_; clear gg; (rintro _ hh gg rfl; simp only [setDst])) | (refine WO.callG (f := 44) (g := none) wB gg _ rfl (fun h1 w1 k1 => by (simp only [evs, V.ev, Nat.reduceEqDiff, Nat.reduceLT, getD_ne, getD_eq, List.length_set, *]); exact  place_ok w1 (k1.es hs4) hlen) ?_; clear gg; (rintro _ hh gg rfl; simp only [setDst])) | refine WE.seqSkip ?_ | (refine WE.seqCond (t := true) ?hc (fun _ => ?_) (fun hh => Bool.noConfusion hh); case hc => simp only [V.ev, Nat.reduceLT, getD_eq, List.length_set, *]) | (refine WE.seqCond (t := false) ?hc (fun hh => Bool.noConfusion hh) (fun _ => ?_); case hc => simp only [V.ev, Nat.reduceLT, getD_eq, List.length_set, *]))
    (refine WO.op1 ?_; simp only [opK, wanted, setDst, Int.reduceNeg, *])
    refine stepK_store (b := b4) (o := 0) (cs := [.nils]) (us := [.nils]) (by (simp only [V.ev, Nat.reduceEqDiff, Nat.reduceLT, Int.reduceNeg, getD_ne, getD_eq, List.length_set, *]; try rfl)) (by (simp only [V.ev, Nat.reduceLT, Int.reduceNeg, getD_eq, List.length_set, *]; try rfl)) (by rfl) (gg.keep _ _ hg4) (by rw [gg.floor]; exact hf4) (by simp) (by rfl) fun h10 k10 => ?_
    have m10 : h10.load b4 0 1 = some [.nils] := load_get k10.at_ (by simp [splice])
    have gh := (gA.trans gg).wrote hhb4 w k10
    repeat' (first | refine WO.nil ?_ | (refine WO.op1s ?_; simp only [opK, wanted, stepK, step, setDst, true_and, V.ev, Int.reduceNeg, *]; with_reducible show WO _ _ _ _ _) | refine WE.seqRet ?_)
    ((try dsimp only); refine Exists.intro _ ⟨(by (simp only [readResults, Nat.reduceEqDiff, Nat.reduceLT, Int.reduceNeg, getD_ne, getD_eq, List.length_set, if_true, *]; try rfl)), ?_⟩)
    exact done_ _ gh
  have hneg : ¬ atI es id < 0 := by omega
  have hres : (lowOf es j c, (0 : Int)) = lowerRes es id c := by rw [lowerRes, if_neg hp, if_neg hr, if_neg hneg, hat]; rfl
  have hd3 : decide ((j : Int) < 0) = false := by simp <;> omega
  clear hr hneg
  repeat' (first | refine WE.assoc ?_ | refine WE.seqR ?_ | refine WO.nil ?_ | (refine WO.op1s ?_; simp only [opK, wanted, stepK, step, setDst, pureV, arith, intBin, evs, eqVal, eqAt, eqv, Val.isAgg, Val.cells, fill, splice, List.take_zero, List.nil_append, List.length_cons, List.length_nil, true_and, and_true, and_self, Nat.le_refl, Bool.and_true, List.getElem?_cons_zero, V.ev, Nat.reduceEqDiff, Nat.reduceLT, Nat.add_zero, Nat.zero_add, Bool.false_eq_true, beq_self_eq_true, getD_ne, getD_eq, List.length_set, if_true, if_false, Bool.not_true, *]; with_reducible show WO _ _ _ _ _) | (refine WO.callG (f := 30) (g := none) wB gg _ rfl (fun h1 w1 k1 => by (simp only [evs, V.ev, Nat.reduceLT, getD_eq, List.length_set, *]); exact  check_ok w1 (k1.es hs4) hlen) ?_; clear gg; (rintro _ hh gg rfl; simp only [setDst])) | (refine WO.callG (f := 44) (g := none) wB gg _ rfl (fun h1 w1 k1 => by (simp only [evs, V.ev, Nat.reduceEqDiff, Nat.reduceLT, getD_ne, getD_eq, List.length_set, *]); exact  place_ok w1 (k1.es hs4) hlen) ?_; clear gg; (rintro _ hh gg rfl; simp only [setDst])) | refine WE.seqSkip ?_ | (refine WE.seqCond (t := false) ?hc (fun hh => Bool.noConfusion hh) (fun _ => ?_); case hc => simp only [V.ev, Nat.reduceLT, getD_eq, List.length_set, *]))
  (refine WO.op1 ?_; simp only [opK, wanted, setDst, *])
  refine stepK_one wB gg (cs := [s]) (by (simp only [V.ev, Nat.reduceLT, getD_eq, List.length_set, *]; try rfl)) (by rfl) (by rfl) fun v5 h5 g5 k5 s5 => ?_
  have he : Ess h5 v5 [es] [s] := Ess.one s5 (g5.kp.es hs4) (by omega)
  have w5 := g5.wf wB
  clear gg s5 k5
  refine WO.call rfl ?_
  (simp only [evs, V.ev, Nat.reduceLT, getD_eq, List.length_set, *])
  refine (own_ok w5 he).mono ?_
  rintro v7 h7 ⟨g7, o7⟩
  have e7 : [es].flatten = es := by simp
  rw [e7] at o7
  simp only [setDst]
  have c71 := o7.one.1
  have g47 := g5.trans g7
  (refine WO.op1 ?_; simp only [opK, wanted, setDst, *])
  refine stepK_build1 (v := v7) (by (simp only [V.ev, Nat.reduceLT, getD_eq, List.length_set, *]; try rfl)) ?_
  (refine WO.op1 ?_; simp only [opK, wanted, setDst, *])
  refine stepK_alloc (g7.wf w5) fun b8 h8 g8 hb8 hg8 hn8 => ?_
  (refine WO.op1 ?_; simp only [opK, wanted, setDst, *])
  refine stepK_store (b := b8) (o := 0) (cs := [.nils]) (us := [v7]) (by (simp only [V.ev, Nat.reduceLT, getD_eq, List.length_set, *]; try rfl)) (by (simp only [V.ev, Nat.reduceEqDiff, Nat.reduceLT, getD_ne, getD_eq, List.length_set, *]; try rfl)) (by rfl) hg8 (by rw [g8.floor, g47.floor]; have := wB.fl; have := g47.next; omega) (by simp) (by simp [o7.one.2]) fun h9 k9 => ?_
  have g9 : Grow h7 h9 := g8.wrote hb8 (g7.wf w5) k9
  have g49 := g47.trans g9
  have o9 := o7.keep g9.kp
  rcases o9 with ⟨e, _⟩ | ⟨_, b7, rfl, hb7, hg7⟩
  · rw [e] at hj; simp at hj
  have hne : b8 ≠ b7 := by
    rintro rfl
    rcases o7 with ⟨e, _⟩ | ⟨_, b7', e7', hb7', hg7'⟩
    · rw [e] at hj; simp at hj
    · cases e7'
      have := lt_of_get (g7.wf w5) hg7'; omega
  have a9 : h9.load b8 0 1 = some [.slice b7 0 es.length es.length 0] := load_get k9.at_ (by simp [splice])
  have el : eltI 3 (.slice b7 0 es.length es.length 0) (.int .i64 (j : Int)) = some (.ptr b7 (j * 3)) := by
    simp only [eltI]
    rw [if_pos ⟨by omega, by omega⟩]
    simp
  have hfd := flat_drop (f := Ent.cells) (sz := 3) (fun _ => rfl) es j hj
  have l1 : h9.load b7 (j * 3 + 1) 1 = some [.int .i64 es[j].cl] := by
    rw [load_get hg7 (by rw [cells_len]; omega)]
    congr 1
    rw [← List.drop_drop, hfd]
    simp [Ent.cells]
  have hmin : (if c < es[j].cl then c else es[j].cl) = min es[j].cl c := by split <;> omega
  repeat' (first | refine WO.nil ?_ | refine WE.seqD ?_ | (refine WD.iaddrE ?_; simp only [setDst, List.nil_append, List.cons_append, V.ev, Nat.reduceEqDiff, Nat.reduceLT, getD_ne, getD_eq, List.length_set, *]; refine ⟨_, rfl, ?_⟩) | (refine WD.op2s ?_; simp only [opV, VOp.kind, hiddenOf, unveil_veil, veil_next, below_nil, below_cons, or_true, or_false, or_self, wanted, stepK, step, setDst, pureV, evs, minmaxL, Val.cells, List.nil_append, List.cons_append, List.length_cons, List.length_nil, true_and, List.getD_cons_zero, List.getD_cons_succ, V.ev, Nat.reduceEqDiff, Nat.reduceLT, Nat.reduceLeDiff, Nat.add_zero, Nat.zero_add, Bool.false_eq_true, getD_ne, getD_eq, List.length_set, if_true, if_false, reduceCtorEq, *]; with_reducible show WD _ _ _ _ _ _))
  (refine WD.op2 ?_; simp only [opV, VOp.kind, hiddenOf, wanted, setDst, or_true, List.nil_append, List.cons_append, Nat.reduceEqDiff, Nat.reduceLeDiff, if_true, *])
  refine stepK_store (b := b7) (o := j * 3 + 1) (cs := es.flatMap Ent.cells) (us := [.int .i64 (min es[j].cl c)]) (by (simp only [V.ev, Nat.reduceLT, getD_eq, List.length_set, *]; try rfl)) (by (simp only [V.ev, Nat.reduceEqDiff, Nat.reduceLT, getD_ne, getD_eq, List.length_set, *]; try rfl)) (by rfl) hg7 (by rw [g49.floor]; have := wB.fl; have := g5.next; omega) (by rw [cells_len]; omega) (by rfl) fun h10 k10 => ?_
  rw [flat_splice es j hj c] at k10
  have a10 : h10.load b8 0 1 = some [.slice b7 0 es.length es.length 0] := by
    have e1 := k10.else_ b8 hne
    rw [k9.at_] at e1
    exact load_get e1 (by simp [splice])
  have g10 : Grow h4 h10 := g49.wrote (by have := g5.next; omega) wB k10
  repeat' (first | refine WE.seqR ?_ | refine WD.nil2 ?_ | (refine WO.op1s ?_; simp only [opK, wanted, stepK, step, setDst, Val.cells, List.length_cons, List.length_nil, true_and, V.ev, Nat.reduceEqDiff, Nat.reduceLT, Nat.zero_add, getD_ne, getD_eq, List.length_set, if_true, *]; with_reducible show WO _ _ _ _ _))
  (refine WO.op1 ?_; simp only [opK, wanted, setDst, *])
  refine stepK_store (b := b4) (o := 0) (cs := [.nils]) (us := [.slice b7 0 es.length es.length 0]) (by (simp only [V.ev, Nat.reduceEqDiff, Nat.reduceLT, getD_ne, getD_eq, List.length_set, *]; try rfl)) (by (simp only [V.ev, Nat.reduceLT, getD_eq, List.length_set, *]; try rfl)) (by rfl) (g10.keep _ _ hg4) (by rw [g10.floor]; exact hf4) (by simp) (by rfl) fun h11 k11 => ?_
  have m11 : h11.load b4 0 1 = some [.slice b7 0 es.length es.length 0] := load_get k11.at_ (by simp [splice])
  have gh := (gA.trans g10).wrote hhb4 w k11
  have hb74 : b7 ≠ b4 := by have := g5.next; omega
  have c11 : h11.get b7 = some (.cells ((lowOf es j c).flatMap Ent.cells)) := by rw [k11.else_ b7 hb74]; exact k10.at_
  have hne0 : lowOf es j c ≠ [] := by intro q; have := congrArg List.length q; rw [lowOf_len] at this; simp at this; rw [this] at hj; simp at hj
  repeat' (first | refine WO.nil ?_ | (refine WO.op1s ?_; simp only [opK, wanted, stepK, step, setDst, true_and, V.ev, *]; with_reducible show WO _ _ _ _ _) | refine WE.ret ?_)
  ((try dsimp only); refine Exists.intro _ ⟨(by (simp only [readResults, Nat.reduceEqDiff, Nat.reduceLT, getD_ne, getD_eq, List.length_set, if_true, *]; try rfl)), ?_⟩)
  rw [← hres]
  refine ⟨gh, _, rfl, .inr ⟨hne0, b7, by rw [lowOf_len], by have := gA.next; have := g5.next; omega, c11⟩⟩

end Go.V
end

section
set_option linter.unusedVariables false
set_option linter.unusedSimpArgs false
set_option linter.unusedSectionVars false
namespace Go.V

def ltB (k : Ent → Int) (x y : Ent) : Bool := decide (k x < k y) || (decide (k x = k y) && decide (x.id < y.id))

theorem ltB_iff {k : Ent → Int} {x y : Ent} : ltB k x y = true ↔ ltE k x y := by unfold ltB ltE; simp

theorem ltE.asymm {k : Ent → Int} {x y : Ent} (h : ltE k x y) : ¬ ltE k y x := fun q => ltE.irr (h.trans q)

/-- Where an entry stands in the order: behind as many as come before it. -/
theorem place_count {k : Ent → Int} {e : Ent} : ∀ {Z : List Ent}, Z.Pairwise (ltE k) → (∀ x ∈ Z, x.id = e.id → x = e) → e ∈ Z → (Z.map Ent.id).findIdx (fun n => n == e.id) = Z.countP fun z => ltB k z e
  | [], _, _, h => by simp at h
  | z :: Z, s, hu, h => by
    rw [List.pairwise_cons] at s
    rw [List.map_cons, List.findIdx_cons, List.countP_cons]
    by_cases hz : z.id = e.id
    · obtain rfl := hu z (by simp) hz
      have h0 : Z.countP (fun x => ltB k x z) = 0 := by
        rw [List.countP_eq_zero]
        intro x hx
        rw [ltB_iff]
        exact (s.1 x hx).asymm
      have h1 : ltB k z z = false := by
        rw [← Bool.not_eq_true, ltB_iff]; exact ltE.irr
      simp [h0, h1]
    · have he : e ∈ Z := by
        rcases List.mem_cons.1 h with q | q
        · subst q; exact absurd rfl hz
        · exact q
      have h1 : ltB k z e = true := ltB_iff.2 (s.1 e he)
      have := place_count s.2 (fun x hx => hu x (by simp [hx])) he
      have hz' : (z.id == e.id) = false := by simpa using hz
      simp [hz', h1, this]

theorem count_set {p q : Ent → Bool} {A B : List Ent} {e e' : Ent} (h1 : ∀ x ∈ A, q x = true → p x = true) (h2 : ∀ x ∈ B, q x = true → p x = true) (h3 : q e' = true → p e = true) : (A ++ e' :: B).countP q ≤ (A ++ e :: B).countP p := by
  rw [List.countP_append, List.countP_append, List.countP_cons, List.countP_cons]
  have a := List.countP_mono_left h1
  have b := List.countP_mono_left h2
  have c : (if q e' = true then 1 else 0) ≤ (if p e = true then 1 else 0) := by
    split
    · rw [if_pos (h3 (by assumption))]; exact Nat.le_refl _
    · omega
  omega

theorem uniq_id {es : List Ent} (hid : es.Pairwise fun x y => x.id < y.id) {x y : Ent} (hx : x ∈ es) (hy : y ∈ es) (e : x.id = y.id) : x = y := by
  obtain ⟨i, hi, rfl⟩ := List.getElem_of_mem hx
  obtain ⟨j, hj, rfl⟩ := List.getElem_of_mem hy
  rw [List.pairwise_iff_getElem] at hid
  rcases Nat.lt_trichotomy i j with q | q | q
  · have := hid i j hi hj q; omega
  · subst q; rfl
  · have := hid j i hj hi q; omega

theorem chkFrom_zero {es : List Ent} : ∀ (k i : Nat), (∀ j, i ≤ j → j < i + k → chkAt es j = 0) → chkFrom es i k = 0
  | 0, _, _ => rfl
  | k + 1, i, h => by
    rw [chkFrom, if_pos (h i (by omega) (by omega))]
    exact chkFrom_zero k (i + 1) fun j h1 h2 => h j (by omega) (by omega)

theorem chk_of {es : List Ent} (hl : es.length ≤ 64) (hv : ∀ e ∈ es, validB e.id e.cl e.si = true) (hp : es.Pairwise fun x y => x.id < y.id ∧ x.si ≤ y.si) : chk es = 0 := by
  unfold chk
  rw [if_neg (by omega)]
  refine chkFrom_zero _ _ fun j _ h2 => ?_
  have hj : j < es.length := by omega
  rw [chkAt_eq hj, if_neg (by rw [hv _ (List.getElem_mem hj)]; simp)]
  split
  · rename_i h0
    have := List.pairwise_iff_getElem.1 hp (j - 1) j (by omega) hj (by omega)
    rw [if_neg]
    simp only [badB, Bool.not_eq_true, Bool.or_eq_false_iff, decide_eq_false_iff_not]
    omega
  · rfl

theorem chk_valid {es : List Ent} (h : chk es = 0) : es.length ≤ 64 ∧ (∀ e ∈ es, validB e.id e.cl e.si = true) ∧ es.Pairwise fun x y => x.id < y.id ∧ x.si ≤ y.si := by
  refine ⟨(chk_zero h).1, fun e he => ?_, pairwise_of_get fun i j hi hj hij => ⟨chk_mono h j i hij hj, si_mono h j i (by omega) hj⟩⟩
  obtain ⟨i, hi, rfl⟩ := List.getElem_of_mem he
  exact ((chk_zero h).2 i hi).1

theorem low_split {es : List Ent} {j : Nat} (hj : j < es.length) (c : Int) : lowOf es j c = es.take j ++ { es[j] with cl := min es[j].cl c } :: es.drop (j + 1) := by
  unfold lowOf
  rw [List.modify_eq_take_cons_drop hj]

theorem split_mid {es : List Ent} {j : Nat} (hj : j < es.length) : es = es.take j ++ es[j] :: es.drop (j + 1) := by rw [← List.drop_eq_getElem_cons hj, List.take_append_drop]

theorem chk_low {es : List Ent} (h : chk es = 0) {j : Nat} (hj : j < es.length) {c : Int} (hc : 0 ≤ c) : chk (lowOf es j c) = 0 := by
  obtain ⟨h1, h2, h3⟩ := chk_valid h
  have hs := split_mid hj
  have hmem : ∀ x ∈ es.take j ++ es.drop (j + 1), x ∈ es := by
    intro x hx
    rcases List.mem_append.1 hx with hx | hx
    · exact List.mem_of_mem_take hx
    · exact List.mem_of_mem_drop hx
  refine chk_of (by rw [lowOf_len]; exact h1) ?_ ?_
  · rw [low_split hj]
    intro e he
    rcases List.mem_append.1 he with he | he
    · exact h2 e (hmem e (by simp [he]))
    · rcases List.mem_cons.1 he with rfl | he
      · have := validB_iff.1 (h2 _ (List.getElem_mem hj))
        rw [validB_iff]; simp only; omega
      · exact h2 e (hmem e (by simp [he]))
  · rw [hs, List.pairwise_append, List.pairwise_cons] at h3
    rw [low_split hj, List.pairwise_append, List.pairwise_cons]
    refine ⟨h3.1, ⟨h3.2.1.1, h3.2.1.2⟩, fun a ha b hb => ?_⟩
    rcases List.mem_cons.1 hb with rfl | hb
    · exact h3.2.2 a ha es[j] List.mem_cons_self
    · exact h3.2.2 a ha b (List.mem_cons_of_mem _ hb)

theorem key_low {ro ag : Int} {e : Ent} {c : Int} (hag : 1 ≤ ag ∧ ag ≤ 64) (hv : validB e.id e.cl e.si = true) (hc : 0 ≤ c) (hsi : e.si ≤ ro ∧ ro ≤ 4611686018427387904) : keyI ro ag { e with cl := min e.cl c } ≤ keyI ro ag e := by
  have hv := validB_iff.1 hv
  unfold keyI
  simp only
  rw [effI_eq (by omega) hag (by omega), effI_eq (by omega) hag (by omega)]
  omega

/-- An entry that is lowered comes no later. -/
theorem low_place {es Z Z' : List Ent} {ro ag : Int} (hc : chk es = 0) {j : Nat} (hj : j < es.length) {c : Int} (hc0 : 0 ≤ c) (hag : 1 ≤ ag ∧ ag ≤ 64) (hro : ro ≤ 4611686018427387904) (hb : badR es ro = false)
    (p : Z.Perm es) (s : Z.Pairwise (ltE (keyI ro ag))) (p' : Z'.Perm (lowOf es j c)) (s' : Z'.Pairwise (ltE (keyI ro ag))) :
    (Z'.map Ent.id).findIdx (fun n => n == es[j].id) ≤ (Z.map Ent.id).findIdx (fun n => n == es[j].id) := by
  have hv := (chk_valid hc).2.1 _ (List.getElem_mem hj)
  have hc' := chk_low hc hj hc0
  have u := chk_ids hc
  have u' := chk_ids hc'
  have hsi : es[j].si ≤ ro := by
    unfold badR at hb
    rw [List.any_eq_false] at hb
    have := hb es[j] (List.getElem_mem hj)
    simp at this; omega
  have hm' : { es[j] with cl := min es[j].cl c } ∈ lowOf es j c := by rw [low_split hj]; simp
  have h1 := place_count (e := es[j]) s (fun x hx q => uniq_id u (p.mem_iff.1 hx) (List.getElem_mem hj) q) (p.mem_iff.2 (List.getElem_mem hj))
  have h2 := place_count (e := { es[j] with cl := min es[j].cl c }) s' (fun x hx q => uniq_id u' (p'.mem_iff.1 hx) hm' q) (p'.mem_iff.2 hm')
  simp only at h2
  rw [h1, h2, p.countP_eq, p'.countP_eq]
  have hk := key_low (ro := ro) hag hv hc0 ⟨hsi, hro⟩
  have hs : ∀ q, es.countP q = (es.take j ++ es[j] :: es.drop (j + 1)).countP q := fun q => congrArg (List.countP q) (split_mid hj)
  rw [low_split hj, hs]
  refine count_set ?_ ?_ ?_
  · intro x _ q
    rw [ltB_iff] at q ⊢
    unfold ltE at q ⊢
    simp only at q
    omega
  · intro x _ q
    rw [ltB_iff] at q ⊢
    unfold ltE at q ⊢
    simp only at q
    omega
  · intro q
    rw [ltB_iff] at q
    exact absurd q ltE.irr

theorem atI_of {es : List Ent} (hc : chk es = 0) {i : Nat} (hi : i < es.length) : atI es es[i].id = i := by
  rcases atI_range es es[i].id with q | ⟨j, q1, _, hj, q2⟩
  · exfalso
    have : ∀ (k s : Nat), s + k = es.length → s ≤ i → atFrom es es[i].id s k ≠ -1 := by
      intro k
      induction k with
      | zero => intro s h1 h2; omega
      | succ k ih =>
        intro s h1 h2
        rw [atFrom, List.getElem?_eq_getElem (by omega)]
        simp only
        by_cases e : es[s].id = es[i].id
        · rw [if_pos e]; omega
        · rw [if_neg e]
          refine ih (s + 1) (by omega) ?_
          rcases Nat.eq_or_lt_of_le h2 with rfl | h2
          · exact absurd rfl e
          · omega
    exact this es.length 0 (by omega) (by omega) q
  · have := uniq_id (chk_ids hc) (List.getElem_mem hj) (List.getElem_mem hi) q2
    have hij : j = i := by
      rcases Nat.lt_trichotomy i j with r | r | r
      · have := chk_mono hc j i r hj; omega
      · exact r.symm
      · have := chk_mono hc i j r hi; omega
    rw [q1, hij]

/-- What comes before an entry that is ripe stands before it. -/
theorem ripe_before {es Z : List Ent} {ro ag : Int} (hc : chk es = 0) (hk : ∀ e ∈ es, 0 ≤ keyI ro ag e ∧ keyI ro ag e < 8) (p : Z.Perm es) (s : Z.Pairwise (ltE (keyI ro ag))) {i : Nat} (hi : i < es.length) (hr : keyI ro ag es[i] = 0)
    {A B : List Int} {n : Int} (hz : Z.map Ent.id = A ++ n :: B) (hA : es[i].id ∉ A) (hn : n ≠ es[i].id) : ∃ j : Nat, atI es n = j ∧ j ≤ i := by
  obtain ⟨ZA, ZB, rfl, e1, e2⟩ := List.map_eq_append_iff.1 hz
  obtain ⟨z, ZC, rfl, e3, e4⟩ := List.map_eq_cons_iff.1 e2
  have hi' : es[i] ∈ ZA ++ z :: ZC := p.mem_iff.2 (List.getElem_mem hi)
  have hiC : es[i] ∈ ZC := by
    rcases List.mem_append.1 hi' with q | q
    · exact absurd (by rw [← e1]; exact List.mem_map_of_mem q) hA
    · rcases List.mem_cons.1 q with q | q
      · rw [q, e3] at hn; exact absurd rfl hn
      · exact q
  have hlt : ltE (keyI ro ag) z es[i] := by
    rw [List.pairwise_append, List.pairwise_cons] at s
    exact s.2.1.1 _ hiC
  have hzm : z ∈ es := p.mem_iff.1 (by simp)
  obtain ⟨j, hj, rfl⟩ := List.getElem_of_mem hzm
  refine ⟨j, by rw [← e3]; exact atI_of hc hj, ?_⟩
  have := hk _ hzm
  unfold ltE at hlt
  rcases Nat.lt_or_ge i j with r | r
  · have := chk_mono hc j i r hj; omega
  · exact r

end Go.V
end
