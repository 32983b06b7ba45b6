/-
  For any two lists of revisions and any place PinsAny returns true, and the arguments read as before. No condition.
-/
import Derived.Test.YtalokejcacejpaaD2

section
set_option linter.unusedVariables false
set_option linter.unusedSimpArgs false
set_option linter.unusedSectionVars false
namespace Go.V

theorem find_ok {h : Heap} (w : Wf h) {s : Val} {ps : PinL} {n r : Int} (hs : Ps h s ps) (ha : Asc ps) (hn : ps.length < 4611686018427387904) :
    WC E09 28 [.agg [s, .int .i64 n], .int .u64 r] h fun v h' => Grow h h' ∧ v = .tup [.int .i64 (lowerB ps r : Int), .bool (ps.any fun p => p.1 == r)] := by
  refine WC.fn rfl rfl ?_
  unfold v28
  simp only
  have hl : (enter 12 [.agg [s, .int .i64 n], .int .u64 r]).length = 12 := by simp [length_enter]
  have h0 : (enter 12 [.agg [s, .int .i64 n], .int .u64 r]).getD 0 .undef = .agg [s, .int .i64 n] := by rw [getD_enter]; rfl
  have h1 : (enter 12 [.agg [s, .int .i64 n], .int .u64 r]).getD 1 .undef = .int .u64 r := by rw [getD_enter]; rfl
  generalize enter 12 [.agg [s, .int .i64 n], .int .u64 r] = fr at *
  refine WE.seq (WE.region ?_)
  (refine WO.op1 ?_; simp only [opK, wanted, setDst])
  refine stepK_box w (c := [s, .int .i64 n]) (by simp (decide := true) only [V.ev, *]; rfl) rfl fun b h2 g hb hg hnx => ?_
  (refine WO.op1 ?_; simp (decide := true) only [opK, wanted, stepK, step, V.ev, setDst, *])
  (refine WO.op1 ?_; simp (decide := true) only [opK, wanted, stepK, step, V.ev, setDst, *])
  refine WO.nil ?_
  have ld : h2.load b (0 + 0) 1 = some [s] := load_get hg (by simp)
  refine WE.seq (WE.region ?_)
  (refine WO.op1 ?_; simp (decide := true) only [opK, wanted, stepK, step, V.ev, setDst, getD_set, List.length_set, if_true, if_false, *])
  (refine WO.op1 ?_; simp (decide := true) only [opK, wanted, stepK, step, V.ev, setDst, getD_set, List.length_set, if_true, if_false, *])
  (refine WO.op1 ?_; simp (decide := true) only [opK, wanted, stepK, step, V.ev, setDst, getD_set, List.length_set, if_false, *])
  refine WO.call rfl ?_
  simp (decide := true) only [evs, V.ev, getD_set, List.length_set, if_true, if_false, *]
  refine (bsearch_ok (g.wf w) (g.ps hs) ha hn).mono ?_
  rintro v h' ⟨g2, rfl⟩
  simp only [setDst]
  (refine WO.op1 ?_; simp (decide := true) only [opK, wanted, stepK, step, V.ev, setDst, getD_set, List.length_set, if_true, if_false, List.getElem?_cons_zero, *])
  (refine WO.op1 ?_; simp (decide := true) only [opK, wanted, stepK, step, V.ev, setDst, getD_set, List.length_set, if_true, if_false, List.getElem?_cons_zero, List.getElem?_cons_succ, *])
  (refine WO.op1 ?_; simp (decide := true) only [opK, wanted, stepK, step, V.ev, setDst, getD_set, List.length_set, if_true, if_false, *])
  (refine WO.op1 ?_; simp (decide := true) only [opK, wanted, stepK, step, V.ev, setDst, getD_set, List.length_set, if_true, if_false, *])
  refine WO.nil (WE.ret ⟨[.int .i64 (lowerB ps r : Int), .bool (ps.any fun p => p.1 == r)], ?_, g.trans g2, rfl⟩)
  simp only [readResults]
  simp (decide := true) only [getD_set, List.length_set, if_true, if_false, *]

end Go.V
end

section
set_option linter.unusedVariables false
set_option linter.unusedSimpArgs false
set_option linter.unusedSectionVars false
namespace Go.V

end Go.V
end

section
set_option linter.unusedVariables false
set_option linter.unusedSimpArgs false
set_option linter.unusedSectionVars false
namespace Go.V

def cntP (ps : PinL) (r : Int) : Int := if (ps.any fun p => p.1 == r) then (ps.getD (lowerB ps r) (0, 0)).2 else 0

theorem pcount_ok {h : Heap} (w : Wf h) {s : Val} {ps : PinL} {n r : Int} (hs : Ps h s ps) (ha : Asc ps) (hn : ps.length < 4611686018427387904) : WC E09 14 [.agg [s, .int .i64 n], .int .u64 r] h fun v h' => Grow h h' ∧ v = .int .i64 (cntP ps r) := by
  refine WC.fn rfl rfl ?_
  unfold v14
  simp only
  have hl : (enter 20 [.agg [s, .int .i64 n], .int .u64 r]).length = 20 := by simp [length_enter]
  have h0 : (enter 20 [.agg [s, .int .i64 n], .int .u64 r]).getD 0 .undef = .agg [s, .int .i64 n] := by rw [getD_enter]; rfl
  have h1 : (enter 20 [.agg [s, .int .i64 n], .int .u64 r]).getD 1 .undef = .int .u64 r := by rw [getD_enter]; rfl
  generalize enter 20 [.agg [s, .int .i64 n], .int .u64 r] = fr at *
  refine WE.seq (WE.region ?_)
  (refine WO.op1 ?_; simp only [opK, wanted, setDst])
  refine stepK_box w (c := [s, .int .i64 n]) (by simp (decide := true) only [V.ev, *]; rfl) rfl fun b h2 g hb hg hnx => ?_
  (refine WO.op1 ?_; simp (decide := true) only [opK, wanted, stepK, step, V.ev, setDst, *])
  refine WO.nil ?_
  have ld : h2.load b 0 2 = some [s, .int .i64 n] := load_get hg (by simp)
  refine WE.seq (WE.seq (WE.region ?_))
  (refine WO.op1 ?_; simp (decide := true) only [opK, wanted, stepK, step, V.ev, setDst, getD_set, List.length_set, if_true, if_false, *])
  (refine WO.op1 ?_; simp (decide := true) only [opK, wanted, stepK, step, V.ev, setDst, getD_set, List.length_set, if_false, *])
  refine WO.call rfl ?_
  simp (decide := true) only [evs, V.ev, getD_set, List.length_set, if_true, if_false, *]
  refine (find_ok (g.wf w) (g.ps hs) ha hn).mono ?_
  rintro v h3 ⟨g2, rfl⟩
  simp only [setDst]
  (refine WO.op1 ?_; simp (decide := true) only [opK, wanted, stepK, step, V.ev, setDst, getD_set, List.length_set, if_true, if_false, *])
  (refine WO.op1 ?_; simp (decide := true) only [opK, wanted, stepK, step, V.ev, setDst, getD_set, List.length_set, if_true, if_false, List.getElem?_cons_zero, *])
  (refine WO.op1 ?_; simp (decide := true) only [opK, wanted, stepK, step, V.ev, setDst, getD_set, List.length_set, if_true, if_false, List.getElem?_cons_zero, List.getElem?_cons_succ, *])
  (refine WO.op1 ?_; simp (decide := true) only [opK, wanted, stepK, step, V.ev, setDst, getD_set, List.length_set, if_true, if_false, *])
  (refine WO.op1 ?_; simp (decide := true) only [opK, wanted, stepK, step, V.ev, setDst, getD_set, List.length_set, if_true, if_false, *])
  refine WO.nil (WE.seq (WE.region ?_))
  (refine WO.op1 ?_; simp (decide := true) only [opK, wanted, stepK, step, V.ev, setDst, getD_set, List.length_set, if_true, if_false, *])
  refine WO.nil ?_
  have hs3 := g2.ps (g.ps hs)
  have ld3 : h3.load b (0 + 0) 1 = some [s] := load_get (g2.keep _ _ hg) (by simp)
  cases hany : ps.any fun p => p.1 == r with
  | true =>
    have hlb : lowerB ps r < ps.length := by
      rcases Nat.lt_or_ge (lowerB ps r) ps.length with q | q
      · exact q
      · rw [any_none ha (by have := lowerB_le ps r; omega)] at hany; cases hany
    refine WE.cond (t := true) (by simp (decide := true) only [V.ev, getD_set, List.length_set, if_true, if_false, *]) (WE.seq (WE.region ?_))
    (refine WO.op1 ?_; simp (decide := true) only [opK, wanted, stepK, step, V.ev, setDst, getD_set, List.length_set, if_true, if_false, *])
    (refine WO.op1 ?_; simp (decide := true) only [opK, wanted, stepK, step, V.ev, setDst, getD_set, List.length_set, if_true, if_false, *])
    (refine WO.op1 ?_; simp (decide := true) only [opK, wanted, stepK, step, V.ev, setDst, getD_set, List.length_set, if_true, if_false, *])
    (refine WO.op1 ?_; simp only [opK, wanted, setDst])
    refine hs3.at (ik := .i64) (i := lowerB ps r) (by simp (decide := true) only [V.ev, getD_set, List.length_set, if_true, if_false, *]) (by simp (decide := true) only [V.ev, getD_set, List.length_set, if_true, if_false, *]) hlb fun b2 o2 hld => ?_
    have ld2 : h3.load b2 (o2 + 1) 1 = some [.int .i64 ps[lowerB ps r].2] := by
      have := load_part hld (i := 1) (m := 1) (by omega)
      simpa using this
    (refine WO.op1 ?_; simp (decide := true) only [opK, wanted, stepK, step, V.ev, setDst, getD_set, List.length_set, if_true, if_false, *])
    (refine WO.op1 ?_; simp (decide := true) only [opK, wanted, stepK, step, V.ev, setDst, getD_set, List.length_set, if_true, if_false, *])
    (refine WO.op1 ?_; simp (decide := true) only [opK, wanted, stepK, step, V.ev, setDst, getD_set, List.length_set, if_true, if_false, *])
    refine WO.nil (WE.ret ⟨[.int .i64 ps[lowerB ps r].2], ?_, g.trans g2, ?_⟩)
    · simp only [readResults]
      simp (decide := true) only [getD_set, List.length_set, if_true, if_false, *]
    · simp [cntP, hany, resultOf, List.getD_eq_getElem?_getD, hlb]
  | false =>
    refine WE.cond (t := false) (by simp (decide := true) only [V.ev, getD_set, List.length_set, if_true, if_false, *]) (WE.skip ?_)
    refine WE.seq (WE.region ?_)
    (refine WO.op1 ?_; simp (decide := true) only [opK, wanted, stepK, step, V.ev, setDst, *])
    refine WO.nil (WE.ret ⟨[.int .i64 0], ?_, g.trans g2, ?_⟩)
    · simp only [readResults]
      simp (decide := true) only [getD_set, List.length_set, if_true, if_false, *]
    · simp [cntP, hany, resultOf]

end Go.V
end

section
set_option linter.unusedVariables false
set_option linter.unusedSimpArgs false
set_option linter.unusedSectionVars false
-- DRAWS
-- BUILDS
-- NEW
set_option maxHeartbeats 1000000
namespace Go.V
attribute [local irreducible] stepK opK opV

/-- A call in a region that draws its order, whose result is read in the heap. -/
theorem WD.callH {E : Env} {rs : List (Nat × Nat)} {fr : List Val} {h0 h : Heap} {d : Option Nat} {f : FuncId} {args : List Opd} {fu : Bool} {hd : List Nat} {l : List VOper} {R : List Val → Heap → Prop} (w0 : Wf h0) (g0 : Grow h0 h) (P : Val → Heap → Prop) (hP : ∀ v h h', Keep h h' → P v h → P v h')
    (hl : Late h0 h (hiddenOf rs hd)) (hw : ∀ h1, Wf h1 → Keep h0 h1 → WC E f (evs fr args) h1 fun v h' => Grow h1 h' ∧ P v h') (k : ∀ v h', Grow h0 h' → h.next ≤ h'.next → P v h' → WD E l (rs ++ [(h.next, h'.next)]) (setDst fr d v) h' R) : WD E (⟨d, .call f args, none, fu, hd⟩ :: l) rs fr h R := by
  cases fu with
  | true =>
    obtain ⟨n, v, h', e, a, b⟩ := hw h (g0.wf w0) g0.kp
    obtain ⟨m, fr2, h2, e2, q⟩ := k v h' (g0.trans a) a.next b
    refine ⟨max n m, fr2, h2, ?_, q⟩
    rw [runDraw]
    simp only [wanted]
    rw [if_pos (.inr trivial)]
    simp only [step]
    rw [run_mono (Nat.le_max_left n m) _ _ _ _ e]
    exact runDraw_mono (run_mono (Nat.le_max_right n m)) _ _ _ _ _ e2
  | false =>
    obtain ⟨n, v, h', e, a, b⟩ := hw (h.veil (hiddenOf rs hd)) (veil_wf (g0.wf w0) hl) (veil_keep w0 g0 hl)
    have hk : Keep h' (h.unveil h') := by
      intro j x e
      have hh := Heap.get_nh e
      have : (h.unveil h').hidden j = false := by
        have h1 : h'.hid = hiddenOf rs hd ++ h.hid := a.hid
        unfold Heap.hidden at hh ⊢
        rw [h1, List.any_append, Bool.or_eq_false_iff] at hh
        exact hh.2
      unfold Heap.get at e ⊢
      rw [this]
      rw [hh] at e
      exact e
    obtain ⟨m, fr2, h2, e2, q⟩ := k v (h.unveil h') (unveil_grow w0 g0 hl a) a.next (hP _ _ _ hk b)
    refine ⟨max n m, fr2, h2, ?_, q⟩
    rw [runDraw]
    simp only [wanted]
    rw [if_neg (by simp [VOp.kind]), if_pos (show (VOp.call f args).kind = 2 from rfl)]
    simp only [step]
    have := run_mono (Nat.le_max_left n m) _ _ _ _ e
    unfold Heap.veil at this
    rw [this]
    exact runDraw_mono (run_mono (Nat.le_max_right n m)) _ _ _ _ _ e2

/-- A copy of one's own. -/
def Cl (h h' : Heap) (v : Val) (ps : PinL) : Prop := (ps = [] ∧ (v = .nils ∨ ∃ b, v = .slice b 0 0 0 0)) ∨ (∃ b n, 0 < n ∧ n = ps.length ∧ v = .slice b 0 n n 2 ∧ h.next ≤ b ∧ h'.get b = some (.cells (ps.flatMap pcell)))

theorem plen (ps : PinL) : (ps.flatMap pcell).length = ps.length * 2 := flat_len (f := pcell) (sz := 2) (fun _ => rfl) ps

theorem stepK_apC {E : Env} {fr : List Val} {h : Heap} (w : Wf h) {x y : Opd} {b n : Nat} {s : Val} {cs : List Val} (hx : V.ev fr x = .slice b 0 0 0 0) (hy : V.ev fr y = s) (hs : Sl h s 2 n cs) (hn : n < 4294967296) {K : Val → Heap → Prop}
    (k0 : n = 0 → K (.slice b 0 0 0 0) h) (k1 : 0 < n → ∀ h', Grow h h' → h'.get h.next = some (.cells cs) → K (.slice h.next 0 n n 2) h') : stepK E fr h (.append 2 16 x y) K := by
  unfold stepK
  obtain ⟨l1, l2⟩ := firstCells_sl hs
  simp only [step, append, hx, hy, l1, l2, appendN]
  by_cases h0 : n = 0
  · subst h0
    rw [if_pos (by omega), if_pos (by omega)]
    exact k0 rfl
  · have f0 : firstCells h 2 0 (.slice b 0 0 0 0) = some [] := by simp [firstCells]
    rw [if_neg (by omega), if_pos ⟨by rw [maxB]; omega, by rw [maxB]; omega, by omega⟩, f0]
    simp only [if_true, List.nil_append, Nat.zero_add]
    exact k1 (by omega) _ (Grow.new w _) (new_self w _)

theorem clone_ok {h : Heap} (w : Wf h) {s : Val} {ps : PinL} (hs : Ps h s ps) (hn : ps.length ≤ 100000) : WC E09 30 [s] h fun v h' => Grow h h' ∧ Cl h h' v ps := by
  refine WC.fn1 (n := 8) rfl rfl (by rfl) ?_
  intro fr hl ha
  have f0 : fr.getD 0 .undef = s := ha 0
  clear ha
  unfold v30
  rcases hs.2 with ⟨rfl, h0⟩ | ⟨b, o, cap, ls, e, _⟩
  · have d1 : eqNil .s .nils .nils = some true := rfl
    have hp := Hid.mk (List.eq_nil_of_length_eq_zero h0)
    clear hs
    repeat' (first | refine WE.assoc ?_ | refine WE.seqR ?_ | refine WO.nil ?_ | (refine WO.op1s ?_; simp only [opK, wanted, stepK, step, setDst, true_and, V.ev, Nat.reduceLT, Bool.false_eq_true, getD_ne, getD_eq, List.length_set, if_false, reduceCtorEq, Bool.not_true, *]; with_reducible show WO _ _ _ _ _) | refine WE.seqRet ?_ | (refine WE.seqCond (t := true) ?hc (fun _ => ?_) (fun hh => Bool.noConfusion hh); case hc => simp only [V.ev, Nat.reduceLT, getD_eq, List.length_set, *]))
    ((try dsimp only); refine Exists.intro _ ⟨(by (simp only [readResults, Nat.reduceLT, getD_eq, List.length_set, *]; try rfl)), ?_⟩)
    exact ⟨Grow.refl _, .inl ⟨hp.out, .inl rfl⟩⟩
  · have d1 : eqNil .s s .nils = some false := by rw [e]; rfl
    clear e
    repeat' (first | refine WE.assoc ?_ | refine WE.seqR ?_ | refine WO.nil ?_ | (refine WO.op1s ?_; simp only [opK, wanted, stepK, step, setDst, fill, true_and, V.ev, Nat.reduceLT, Bool.false_eq_true, getD_ne, getD_eq, List.length_set, if_false, reduceCtorEq, Bool.not_false, *]; with_reducible show WO _ _ _ _ _) | refine WE.seqSkip ?_ | (refine WE.seqCond (t := false) ?hc (fun hh => Bool.noConfusion hh) (fun _ => ?_); case hc => simp only [V.ev, Nat.reduceLT, getD_eq, List.length_set, *]))
    (refine WO.op1 ?_; simp only [opK, wanted, setDst, *])
    unfold stepK
    simp only [step, fill]
    have gn := Grow.new w (.cells [])
    have w1 := gn.wf w
    generalize hh1 : (h.new (.cells [])).2 = h1 at gn w1
    have e1 : h.new (.cells []) = (h.next, h1) := by rw [← hh1]; rfl
    rw [e1]
    simp only
    clear e1 hh1
    have hs1 := gn.ps hs
    clear hs
    repeat' (first | (refine WO.op1s ?_; simp only [opK, wanted, stepK, step, setDst, true_and, V.ev, Nat.reduceEqDiff, Nat.reduceLT, getD_ne, getD_eq, List.length_set, reduceCtorEq, *]; with_reducible show WO _ _ _ _ _))
    (refine WO.op1 ?_; simp only [opK, wanted, setDst, *])
    refine stepK_apC w1 (b := h.next) (s := s) (by (simp only [V.ev, Nat.reduceEqDiff, Nat.reduceLT, getD_ne, getD_eq, List.length_set, *]; try rfl)) (by (simp only [V.ev, Nat.reduceLT, getD_eq, List.length_set, *]; try rfl)) hs1 (by omega) (fun h0 => ?_) (fun h0 h2 g2 e2 => ?_)
    · repeat' (first | refine WO.nil ?_ | (refine WO.op1s ?_; simp only [opK, wanted, stepK, step, setDst, true_and, V.ev, Nat.reduceLT, getD_eq, List.length_set, *]; with_reducible show WO _ _ _ _ _) | refine WE.ret ?_)
      ((try dsimp only); refine Exists.intro _ ⟨(by (simp only [readResults, Nat.reduceLT, getD_eq, List.length_set, *]; try rfl)), ?_⟩)
      exact ⟨gn, .inl ⟨List.eq_nil_of_length_eq_zero h0, .inr ⟨_, rfl⟩⟩⟩
    · clear hs1
      repeat' (first | refine WO.nil ?_ | (refine WO.op1s ?_; simp only [opK, wanted, stepK, step, setDst, true_and, V.ev, Nat.reduceLT, getD_eq, List.length_set, *]; with_reducible show WO _ _ _ _ _) | refine WE.ret ?_)
      ((try dsimp only); refine Exists.intro _ ⟨(by (simp only [readResults, Nat.reduceLT, getD_eq, List.length_set, *]; try rfl)), ?_⟩)
      exact ⟨gn.trans g2, .inr ⟨h1.next, _, h0, rfl, rfl, gn.next, e2⟩⟩

end Go.V
end

section
set_option linter.unusedVariables false
set_option linter.unusedSimpArgs false
set_option linter.unusedSectionVars false
-- BUILDS
-- NEW
set_option maxHeartbeats 1000000
namespace Go.V
attribute [local irreducible] stepK opK opV

abbrev u64s (xs : List Int) : List Val := xs.map (Val.int .u64)

end Go.V
end

section
set_option linter.unusedVariables false
set_option linter.unusedSimpArgs false
set_option linter.unusedSectionVars false
-- BUILDS
-- NEW
set_option maxHeartbeats 1000000
namespace Go.V
attribute [local irreducible] stepK opK opV

theorem same1_ok {h : Heap} (w : Wf h) {a b c d : Int} : WC E09 34 [.agg [.int .u64 a, .int .i64 b], .agg [.int .u64 c, .int .i64 d]] h fun v h' => Grow h h' ∧ v = .bool (a == c && (b == d && true)) := by
  refine WC.fn1 (n := 8) rfl rfl (by rfl) ?_
  intro fr hl ha
  have f0 : fr.getD 0 .undef = .agg [.int .u64 a, .int .i64 b] := ha 0
  have f1 : fr.getD 1 .undef = .agg [.int .u64 c, .int .i64 d] := ha 1
  clear ha
  unfold v34
  refine WE.seqR ?_
  (refine WO.op1 ?_; simp only [opK, wanted, setDst, *])
  refine stepK_box w (c := [.int .u64 a, .int .i64 b]) (by simp only [V.ev, *]; rfl) rfl fun b1 h1 g1 hb1 hg1 hn1 => ?_
  (refine WO.op1 ?_; simp only [opK, wanted, setDst, *])
  refine stepK_box (g1.wf w) (c := [.int .u64 c, .int .i64 d]) (by simp only [V.ev, Nat.reduceEqDiff, getD_ne, *]; rfl) rfl fun b2 h2 g2 hb2 hg2 hn2 => ?_
  have l1 : h2.load b1 0 2 = some [.int .u64 a, .int .i64 b] := load_get (g2.keep _ _ hg1) (by simp)
  have l2 : h2.load b2 0 2 = some [.int .u64 c, .int .i64 d] := load_get hg2 (by simp)
  clear hg1 hg2 hn1 hn2
  repeat' (first | refine WE.seqR ?_ | refine WO.nil ?_ | (refine WO.op1s ?_; simp only [opK, wanted, stepK, step, setDst, eqVal, eqAt, eqv, Val.isAgg, Val.cells, true_and, and_self, Bool.and_true, List.getElem?_cons_zero, List.getElem?_cons_succ, V.ev, Nat.reduceEqDiff, Nat.reduceLT, Bool.false_eq_true, getD_ne, getD_eq, List.length_set, if_true, if_false, *]; with_reducible show WO _ _ _ _ _) | refine WE.ret ?_)
  ((try dsimp only); refine Exists.intro _ ⟨(by (simp only [readResults, Nat.reduceLT, getD_eq, List.length_set, *]; try rfl)), ?_⟩)
  exact ⟨g1.trans g2, by simp [resultOf]⟩

def EqI (h0 : Heap) (s t : Val) (n : Nat) (ps qs : PinL) (k : Nat) (fr : List Val) (h' : Heap) : Prop := Grow h0 h' ∧ ∃ i : Nat, Hid (i + k = n ∧ ps.take i = qs.take i) ∧ fr.length = 32 ∧ fr.getD 1 .undef = t ∧ fr.getD 2 .undef = .func (.func 34) [] [] ∧ fr.getD 15 .undef = s ∧ fr.getD 16 .undef = .int .i64 (n : Nat) ∧ fr.getD 17 .undef = .int .i64 (i : Nat)

theorem ps_load {h h1 : Heap} {s : Val} {ps : PinL} (hs : Ps h s ps) {i : Nat} (hi : i < ps.length) (g : Keep h h1) : ∃ b o, eltI 2 s (.int .i64 (i : Int)) = some (.ptr b o) ∧ ∀ h2, Keep h1 h2 → h2.load b o 2 = some [.int .u64 ps[i].1, .int .i64 ps[i].2] := by
  obtain ⟨bx, o, he, le⟩ := Sl.elt hs (k := .i64) hi (by omega)
  have hfd := flat_drop (f := pcell) (sz := 2) (fun _ => rfl) ps i hi
  refine ⟨bx, o, he, fun h2 g2 => ?_⟩
  have := le h2 (g.trans g2) 0 2 (by omega)
  rw [Nat.add_zero, Nat.add_zero, hfd] at this
  simpa [pcell] using this

theorem equal_ok {h : Heap} (w : Wf h) {s t : Val} {ps qs : PinL} (hs : Ps h s ps) (ht : Ps h t qs) (hn : ps.length ≤ 100000) (hn2 : qs.length ≤ 100000) : WC E09 33 [s, t, .func (.func 34) [] []] h fun v h' => Grow h h' ∧ v = .bool (decide (ps = qs)) := by
  refine WC.fn1 (n := 32) rfl rfl (by rfl) ?_
  intro fr hl ha
  have f0 : fr.getD 0 .undef = s := ha 0
  have f1 : fr.getD 1 .undef = t := ha 1
  have f2 : fr.getD 2 .undef = .func (.func 34) [] [] := ha 2
  clear ha
  have hlen := hs.lenI
  have hlen2 := ht.lenI
  obtain ⟨n, hnn⟩ : ∃ n, n = ps.length := ⟨_, rfl⟩
  obtain ⟨m, hmm⟩ : ∃ m, m = qs.length := ⟨_, rfl⟩
  rw [← hnn] at hlen
  rw [← hmm] at hlen2
  replace hnn := Hid.mk hnn
  replace hmm := Hid.mk hmm
  unfold v33
  by_cases hnm : n = m
  case neg =>
    have d1 : ((n : Int) == (m : Int)) = false := by simp; omega
    replace hnm := Hid.mk hnm
    repeat' (first | refine WE.assoc ?_ | refine WE.seqR ?_ | refine WO.nil ?_ | (refine WO.lenOfE ?_; simp only [setDst, V.ev, Nat.reduceLT, getD_eq, List.length_set, *]; refine ⟨_, rfl, ?_⟩) | (refine WO.op1s ?_; simp only [opK, wanted, stepK, step, setDst, eqVal, eqAt, eqv, Val.isAgg, Val.cells, true_and, and_self, Bool.and_true, List.getElem?_cons_zero, V.ev, Nat.reduceEqDiff, Nat.reduceLT, getD_ne, getD_eq, List.length_set, if_true, reduceCtorEq, Bool.not_false, *]; with_reducible show WO _ _ _ _ _) | refine WE.seqRet ?_ | (refine WE.seqCond (t := true) ?hc (fun _ => ?_) (fun hh => Bool.noConfusion hh); case hc => simp only [V.ev, Nat.reduceLT, getD_eq, List.length_set, *]))
    ((try dsimp only); refine Exists.intro _ ⟨(by (simp only [readResults, Nat.reduceLT, getD_eq, List.length_set, *]; try rfl)), ?_⟩)
    refine ⟨Grow.refl _, ?_⟩
    rw [decide_eq_false (fun e => hnm.out (by rw [hnn.out, hmm.out, e]))]
    rfl
  subst hnm
  have hn3 := hn
  replace hn := Hid.mk hn
  replace hn2 := Hid.mk hn2
  repeat' (first | refine WE.assoc ?_ | refine WE.seqR ?_ | refine WO.nil ?_ | (refine WO.lenOfE ?_; simp only [setDst, V.ev, Nat.reduceLT, getD_eq, List.length_set, *]; refine ⟨_, rfl, ?_⟩) | (refine WO.op1s ?_; simp only [opK, wanted, stepK, step, setDst, eqVal, eqAt, eqv, Val.isAgg, Val.cells, true_and, and_self, Bool.and_true, List.getElem?_cons_zero, V.ev, Nat.reduceEqDiff, Nat.reduceLT, beq_self_eq_true, getD_ne, getD_eq, List.length_set, if_true, reduceCtorEq, Bool.not_true, *]; with_reducible show WO _ _ _ _ _) | refine WE.seqSkip ?_ | (refine WE.seqCond (t := false) ?hc (fun hh => Bool.noConfusion hh) (fun _ => ?_); case hc => simp only [V.ev, Nat.reduceLT, getD_eq, List.length_set, *]) | refine WE.seqBlock ?_)
  refine WE.loop (EqI h s t n ps qs) ?_ n _ _ ⟨Grow.refl _, 0, ⟨by omega, rfl⟩, by simp only [List.length_set, hl], by (simp only [Nat.reduceEqDiff, getD_ne, *]; try rfl), by (simp only [Nat.reduceEqDiff, getD_ne, *]; try rfl), by (simp only [Nat.reduceEqDiff, Nat.reduceLT, getD_ne, getD_eq, List.length_set, *]; try rfl), by (simp only [Nat.reduceEqDiff, Nat.reduceLT, getD_ne, getD_eq, List.length_set, *]; try rfl), by (simp only [Nat.reduceLT, Int.cast_ofNat_Int, getD_eq, List.length_set, *]; try rfl)⟩
  clear f0 f1 f2 hl
  rintro k fr h1 ⟨g, i, hk, hl, f1, f2, f15, f16, f17⟩
  have w2 := g.wf w
  by_cases hi : i < n
  · have hd : decide ((i : Int) < (n : Int)) = true := decide_eq_true (by omega)
    have hips : i < ps.length := by have := hnn.out; omega
    have hiqs : i < qs.length := by have := hmm.out; omega
    obtain ⟨bx, ox, hex, lex⟩ := ps_load hs hips g.kp
    obtain ⟨by_, oy, hey, ley⟩ := ps_load ht hiqs g.kp
    have wn : IntKind.i64.wrap ((i : Int) + 1) = ((i + 1 : Nat) : Int) := wrap_add (b := 1) (by have := hn.out; have := hnn.out; omega)
    have htk := List.take_succ_eq_append_getElem hips
    have htk2 := List.take_succ_eq_append_getElem hiqs
    have heq : ps[i] ≠ qs[i] → ps ≠ qs := fun hne e => hne (by subst e; rfl)
    replace htk := Hid.mk (And.intro htk (And.intro htk2 heq))
    generalize hp : ps[i] = p at *
    generalize hq : qs[i] = q at *
    clear hp hq htk2 heq
    have x0 := lex _ (Keep.refl _)
    repeat' (first | refine WE.seqR ?_ | refine WO.nil ?_ | (refine WO.iaddrE ?_; simp only [setDst, V.ev, Nat.reduceEqDiff, getD_ne, *]; refine ⟨_, rfl, ?_⟩) | (refine WO.op1s ?_; simp only [opK, wanted, stepK, step, setDst, pureV, arith, intBin, true_and, V.ev, Nat.reduceEqDiff, Nat.reduceLT, getD_ne, getD_eq, List.length_set, if_true, *]; with_reducible show WO _ _ _ _ _) | refine WE.seqSkip ?_ | (refine WE.seqCond (t := true) ?hc (fun _ => ?_) (fun hh => Bool.noConfusion hh); case hc => simp only [V.ev, Nat.reduceLT, getD_eq, *]) | refine WE.seqBlock ?_)
    (refine WO.op1 ?_; simp only [opK, wanted, setDst, *])
    refine stepK_alloc w2 fun b5 h5 g5 hb5 hg5 hn5 => ?_
    clear x0
    repeat' (first | (refine WO.op1s ?_; simp only [opK, wanted, stepK, step, setDst, Val.cells, List.length_cons, List.length_nil, true_and, V.ev, Nat.reduceEqDiff, Nat.reduceLT, Nat.reduceAdd, Nat.zero_add, getD_ne, getD_eq, List.length_set, if_true, *]; with_reducible show WO _ _ _ _ _))
    (refine WO.op1 ?_; simp only [opK, wanted, setDst, *])
    refine stepK_store (b := b5) (o := 0) (us := [.int .u64 p.1, .int .i64 p.2]) (by (simp only [V.ev, Nat.reduceEqDiff, Nat.reduceLT, getD_ne, getD_eq, List.length_set, *]; try rfl)) (by (simp only [V.ev, Nat.reduceEqDiff, Nat.reduceLT, getD_ne, getD_eq, List.length_set, *]; try rfl)) (by rfl) hg5 (by rw [g5.floor]; exact Nat.le_trans w2.fl hb5) (by simp) (by rfl) fun h6 k6 => ?_
    have g6 := g5.wrote hb5 w2 k6
    have w6 := g6.wf w2
    have e6 := k6.at_
    have y0 := ley _ g6.kp
    clear k6 hg5
    repeat' (first | refine WE.seqR ?_ | refine WO.nil ?_ | (refine WO.iaddrE ?_; simp only [setDst, V.ev, Nat.reduceEqDiff, Nat.reduceLT, getD_ne, getD_eq, List.length_set, *]; refine ⟨_, rfl, ?_⟩) | (refine WO.op1s ?_; simp only [opK, wanted, stepK, step, setDst, true_and, V.ev, Nat.reduceEqDiff, Nat.reduceLT, getD_ne, getD_eq, List.length_set, if_true, *]; with_reducible show WO _ _ _ _ _))
    (refine WO.op1 ?_; simp only [opK, wanted, setDst, *])
    refine stepK_alloc w6 fun b7 h7 g7 hb7 hg7 hn7 => ?_
    skip
    (refine WO.op1 ?_; simp only [opK, wanted, setDst, *])
    refine stepK_store (b := b7) (o := 0) (us := [.int .u64 q.1, .int .i64 q.2]) (by (simp only [V.ev, Nat.reduceLT, getD_eq, List.length_set, *]; try rfl)) (by (simp only [V.ev, Nat.reduceEqDiff, Nat.reduceLT, getD_ne, getD_eq, List.length_set, *]; try rfl)) (by rfl) hg7 (by rw [g7.floor]; exact Nat.le_trans w6.fl hb7) (by simp) (by rfl) fun h8 k8 => ?_
    have g8 := g7.wrote hb7 w6 k8
    have w8 := g8.wf w6
    have z1 : h8.load b5 0 2 = some [.int .u64 p.1, .int .i64 p.2] := load_get (g8.keep _ _ e6) (by simp [splice])
    have z2 : h8.load b7 0 2 = some [.int .u64 q.1, .int .i64 q.2] := load_get k8.at_ (by simp [splice])
    have gA := g.trans (g6.trans g8)
    clear k8 hg7 e6 y0 lex ley g5 g7
    repeat' (first | refine WE.seqR ?_ | refine WO.nil ?_ | (refine WO.op1s ?_; simp only [opK, wanted, stepK, step, setDst, evs, List.nil_append, List.cons_append, true_and, V.ev, Nat.reduceEqDiff, Nat.reduceLT, getD_ne, getD_eq, List.length_set, if_true, *]; with_reducible show WO _ _ _ _ _))
    refine WO.callvG w8 (Grow.refl _) (fun v => v = .bool (p.1 == q.1 && (p.2 == q.2 && true))) (f := 34) (a := []) (c := []) (by (simp only [V.ev, Nat.reduceEqDiff, Nat.reduceLT, getD_ne, getD_eq, List.length_set, *]; try rfl)) (fun h9 w9 _ => by (simp only [evs, List.nil_append, List.append_nil, V.ev, Nat.reduceEqDiff, Nat.reduceLT, getD_ne, getD_eq, List.length_set, *]); exact same1_ok w9) ?_
    rintro _ h9 g9 rfl
    simp only [setDst]
    have gB := gA.trans g9
    clear z1 z2
    cases hc : (p.1 == q.1 && (p.2 == q.2 && true)) with
    | true =>
      repeat' (first | refine WO.nil ?_ | (refine WO.op1s ?_; simp only [opK, wanted, stepK, step, setDst, pureV, arith, intBin, unary, true_and, V.ev, Nat.reduceEqDiff, Nat.reduceLT, getD_ne, getD_eq, List.length_set, if_true, Bool.not_true, *]; with_reducible show WO _ _ _ _ _) | refine WE.skip ?_ | (refine WE.cond2 (t := false) ?hc (fun hh => Bool.noConfusion hh) (fun _ => ?_); case hc => simp only [V.ev, Nat.reduceLT, getD_eq, List.length_set, *]) | refine WE.region ?_)
      have hpq : p = q := by
        simp at hc
        exact Prod.ext hc.1 hc.2
      refine ⟨k - 1, by have := hk.out; omega, gB, i + 1, ⟨by have := hk.out; omega, ?_⟩, by simp only [List.length_set, hl], by (simp only [Nat.reduceEqDiff, getD_ne, *]; try rfl), by (simp only [Nat.reduceEqDiff, getD_ne, *]; try rfl), by (simp only [Nat.reduceEqDiff, getD_ne, *]; try rfl), by (simp only [Nat.reduceEqDiff, getD_ne, *]; try rfl), by (simp only [Nat.reduceLT, getD_eq, List.length_set, *]; try rfl)⟩
      rw [htk.out.1, htk.out.2.1, hk.out.2, hpq]
    | false =>
      repeat' (first | refine WE.seqR ?_ | refine WO.nil ?_ | (refine WO.op1s ?_; simp only [opK, wanted, stepK, step, setDst, pureV, unary, true_and, V.ev, Nat.reduceLT, getD_eq, List.length_set, Bool.not_false, *]; with_reducible show WO _ _ _ _ _) | (refine WE.cond2 (t := true) ?hc (fun _ => ?_) (fun hh => Bool.noConfusion hh); case hc => simp only [V.ev, Nat.reduceLT, getD_eq, List.length_set, *]) | refine WE.ret ?_ | (with_reducible show blockQ _ _ _ _ _; simp only [blockQ, seqQ]))
      ((try dsimp only); refine Exists.intro _ ⟨(by (simp only [readResults, Nat.reduceLT, getD_eq, List.length_set, *]; try rfl)), ?_⟩)
      refine ⟨gB, ?_⟩
      rw [decide_eq_false (htk.out.2.2 fun e => by subst e; simp at hc)]
      rfl
  · have hd : decide ((i : Int) < (n : Int)) = false := decide_eq_false (by omega)
    have hin := Hid.mk (show i = n by have := hk.out; omega)
    repeat' (first | refine WE.seqR ?_ | refine WO.nil ?_ | (refine WO.op1s ?_; simp only [opK, wanted, stepK, step, setDst, pureV, arith, intBin, true_and, V.ev, if_true, *]; with_reducible show WO _ _ _ _ _) | refine WE.seqExit ?_ | (refine WE.seqCond (t := false) ?hc (fun hh => Bool.noConfusion hh) (fun _ => ?_); case hc => simp only [V.ev, Nat.reduceLT, getD_eq, *]) | refine WE.ret ?_)
    ((try dsimp only); refine Exists.intro _ ⟨(by (simp only [readResults, Nat.reduceLT, getD_eq, List.length_set, *]; try rfl)), ?_⟩)
    refine ⟨g, ?_⟩
    have h1 := hk.out.2
    rw [List.take_of_length_le (by have := hnn.out; have := hin.out; omega), List.take_of_length_le (by have := hmm.out; have := hin.out; omega)] at h1
    rw [decide_eq_true h1]
    rfl

theorem psame_ok {h : Heap} (w : Wf h) {s t : Val} {ps qs : PinL} {x y : Int} (hs : Ps h s ps) (ht : Ps h t qs) (hn : ps.length ≤ 100000) (hn2 : qs.length ≤ 100000) : WC E09 25 [.agg [s, .int .i64 x], .agg [t, .int .i64 y]] h fun v h' => Grow h h' ∧ v = .bool (decide (ps = qs)) := by
  refine WC.fn1 (n := 10) rfl rfl (by rfl) ?_
  intro fr hl ha
  have f0 : fr.getD 0 .undef = .agg [s, .int .i64 x] := ha 0
  have f1 : fr.getD 1 .undef = .agg [t, .int .i64 y] := ha 1
  clear ha
  unfold v25
  refine WE.seqR ?_
  (refine WO.op1 ?_; simp only [opK, wanted, setDst, *])
  refine stepK_box w (c := [s, .int .i64 x]) (by simp only [V.ev, *]; rfl) rfl fun b1 h1 g1 hb1 hg1 hn1 => ?_
  (refine WO.op1 ?_; simp only [opK, wanted, setDst, *])
  refine stepK_box (g1.wf w) (c := [t, .int .i64 y]) (by simp only [V.ev, Nat.reduceEqDiff, getD_ne, *]; rfl) rfl fun b2 h2 g2 hb2 hg2 hn2 => ?_
  have l1 : h2.load b1 0 1 = some [s] := load_get (g2.keep _ _ hg1) (by simp)
  have l2 : h2.load b2 0 1 = some [t] := load_get hg2 (by simp)
  have gA := g1.trans g2
  have wB := gA.wf w
  have hs2 := gA.ps hs
  have ht2 := gA.ps ht
  have gg := Grow.refl h2
  clear hg1 hg2 hn1 hn2 g1 g2
  repeat' (first | refine WE.seqR ?_ | refine WO.nil ?_ | (refine WO.op1s ?_; simp only [opK, wanted, stepK, step, setDst, evs, true_and, V.ev, Nat.reduceEqDiff, Nat.reduceLT, Nat.add_zero, Bool.false_eq_true, getD_ne, getD_eq, List.length_set, if_false, *]; with_reducible show WO _ _ _ _ _) | (refine WO.callG (f := 33) (g := none) wB gg _ rfl (fun h1 w1 k1 => by (simp only [evs, V.ev, Nat.reduceEqDiff, Nat.reduceLT, getD_ne, getD_eq, List.length_set, *]); exact  equal_ok w1 (Keep.sl k1 hs2) (Keep.sl k1 ht2) hn hn2) ?_; clear gg; (rintro _ hh gg rfl; simp only [setDst])) | refine WE.ret ?_)
  ((try dsimp only); refine Exists.intro _ ⟨(by (simp only [readResults, Nat.reduceLT, getD_eq, List.length_set, *]; try rfl)), ?_⟩)
  exact ⟨gA.trans gg, rfl⟩

end Go.V
end

section
set_option linter.unusedVariables false
set_option linter.unusedSimpArgs false
set_option linter.unusedSectionVars false
-- BUILDS
-- NEW
set_option maxHeartbeats 2000000
namespace Go.V
attribute [local irreducible] stepK opK opV

theorem stepK_one2 {E : Env} {fr : List Val} {h : Heap} (w : Wf h) {x : Opd} {a b z1 z2 : Val} (hx : (V.ev fr x).cells = [a, b]) {K : Val → Heap → Prop}
    (k : ∀ vb h', Grow h h' → h.next ≤ vb → h'.get vb = some (.cells [a, b]) → K (.slice vb 0 1 1 0) h') : stepK E fr h (.bslice 1 [z1, z2] [(0, 2, x)]) K := by
  unfold stepK
  have hf : fill fr [z1, z2] [(0, 2, x)] = some [a, b] := by
    simp [fill, hx, splice]
  simp only [step, hf]
  exact k _ _ (Grow.new w _) (Nat.le_refl _) (new_self w _)

theorem pint (ps : PinL) : (ps.flatMap pcell).all isInt = true := by
  rw [List.all_eq_true]
  intro x hx
  obtain ⟨p, _, hx⟩ := List.mem_flatMap.1 hx
  simp only [pcell, List.mem_cons, List.not_mem_nil, or_false] at hx
  rcases hx with rfl | rfl <;> rfl

theorem flat_take (ps : PinL) (i : Nat) : (ps.flatMap pcell).take (i * 2) = (ps.take i).flatMap pcell := by
  induction ps generalizing i with
  | nil => simp
  | cons p ps ih =>
    cases i with
    | zero => simp
    | succ i =>
      have := ih i
      rw [show (i + 1) * 2 = i * 2 + 2 by omega]
      simp [pcell] at this ⊢
      exact this

theorem flat_dropP (ps : PinL) (i : Nat) : (ps.flatMap pcell).drop (i * 2) = (ps.drop i).flatMap pcell := by
  induction ps generalizing i with
  | nil => simp
  | cons p ps ih =>
    cases i with
    | zero => simp
    | succ i =>
      have := ih i
      rw [show (i + 1) * 2 = i * 2 + 2 by omega]
      simp [pcell] at this ⊢
      exact this

theorem Cl.up {h0 h h' : Heap} {v : Val} {ps : PinL} (c : Cl h h' v ps) (g : h0.next ≤ h.next) : Cl h0 h' v ps := by
  rcases c with c | ⟨b, n, e0, e1, e2, e3, e4⟩
  · exact .inl c
  · exact .inr ⟨b, n, e0, e1, e2, Nat.le_trans g e3, e4⟩

theorem ins_ok {h0 h1 h : Heap} (w0 : Wf h0) (g1 : Grow h0 h1) (g : Grow h1 h) {v : Val} {ps : PinL} (hc : Cl h0 h1 v ps) (hn : ps.length ≤ 100000) {vb i : Nat} {r c : Int} (hvb : h1.next ≤ vb) (hv : h.get vb = some (.cells [.int .u64 r, .int .i64 c])) (hi : i ≤ ps.length) :
    WC E09 31 [v, .int .i64 (i : Int), .slice vb 0 1 1 0] h fun u h' => Grow h0 h' ∧ ∃ b, u = .slice b 0 (ps.length + 1) (ps.length + 1) 2 ∧ h0.next ≤ b ∧ h'.get b = some (.cells ((ps.take i ++ [(r, c)] ++ ps.drop i).flatMap pcell)) := by
  have g0 := g1.trans g
  have w := g0.wf w0
  have wc := wfC_of w
  rcases hc with ⟨rfl, hv0⟩ | ⟨b, n, hn0, rfl, rfl, hb, hg⟩
  · obtain rfl : i = 0 := by simpa using hi
    refine WC.prim (v := .slice h.next 0 1 1 2) (h' := (h.new (.cells [.int .u64 r, .int .i64 c])).2) rfl ?_ ⟨g0.trans (Grow.new w _), h.next, rfl, g0.next, by rw [new_self w]; rfl⟩
    rcases hv0 with rfl | ⟨b, rfl⟩
    · unfold insP; simp [wc, hv, isInt]
    · unfold insP; simp [wc, hv, isInt]
  · have hg2 := g.keep _ _ hg
    have hbl := lt_of_get (g1.wf w0) hg
    have hf : h.floor ≤ b := by rw [g0.floor]; have := w0.fl; omega
    have hf2 : h.floor ≤ vb := by rw [g0.floor]; have := w0.fl; have := g1.next; omega
    have hpl := plen ps
    have e : insP wfC [.slice b 0 ps.length ps.length 2, .int .i64 (i : Int), .slice vb 0 1 1 0] h = some (.slice h.next 0 (ps.length + 1) (ps.length + 1) 2, ((h.put b none).new (.cells ((ps.take i ++ [(r, c)] ++ ps.drop i).flatMap pcell))).2) := by
      unfold insP
      simp only [wc, if_true, hv, isInt, and_self]
      rw [if_neg (by omega), if_pos ⟨trivial, Nat.le_refl _, by omega, by omega, by omega, hf, by omega, hf2⟩, hg2]
      simp only
      rw [if_pos ⟨by omega, pint ps⟩]
      have e1 : (ps.flatMap pcell).take (ps.length * 2) = ps.flatMap pcell := List.take_of_length_le (by omega)
      rw [e1, Int.toNat_natCast, flat_take, flat_dropP]
      simp [pcell]
    obtain ⟨gm, em⟩ := g0.move w0 hb (.cells ((ps.take i ++ [(r, c)] ++ ps.drop i).flatMap pcell))
    exact WC.prim rfl e ⟨gm, _, rfl, g0.next, em⟩

/-- The count at a place is changed. -/
def setN (q : PinL) (i : Nat) (n : Int) : PinL := q.set i ((q.getD i (0, 0)).1, (q.getD i (0, 0)).2 + n)

def hasP (ps : PinL) (r : Int) : Bool := ps.any fun p => p.1 == r

def slot (ps : PinL) (r : Int) : PinL := if hasP ps r then ps else ps.take (lowerB ps r) ++ [(r, 0)] ++ ps.drop (lowerB ps r)

def bump (ps : PinL) (r n : Int) : PinL := setN (slot ps r) (lowerB ps r) n

/-- More: the pins, their number, the error. -/
def moreR (ps : PinL) (t r n : Int) : PinL × Int × Int :=
  if n < 0 then ([], 0, 4) else if r = 0 then ([], 0, 14) else if n = 0 then (ps, t, 0)
  else if n > 4096 - cntP ps r ∨ (hasP ps r = false ∧ ps.length = 1024) then ([], 0, 3) else (bump ps r n, t + n, 0)

theorem setN_splice {q : PinL} {i : Nat} (hi : i < q.length) (m : Int) : splice (q.flatMap pcell) (i * 2 + 1) [.int .i64 m] = (q.set i ((q.getD i (0, 0)).1, m)).flatMap pcell := by
  induction q generalizing i with
  | nil => simp at hi
  | cons p q ih =>
    cases i with
    | zero => simp [splice, pcell]
    | succ i =>
      have := ih (i := i) (by simpa using hi)
      rw [show (i + 1) * 2 + 1 = (i * 2 + 1) + 2 by omega]
      simp [splice, pcell] at this ⊢
      exact this

theorem cell_atP {q : PinL} {i : Nat} (hi : i < q.length) : ((q.flatMap pcell).drop (i * 2 + 1)).take 1 = [.int .i64 (q.getD i (0, 0)).2] := by
  rw [← List.drop_drop, flat_drop (f := pcell) (sz := 2) (fun _ => rfl) q i hi]
  simp [pcell, List.getD_eq_getElem?_getD, hi]

/-- A result: pins and an error. -/
def PRes (h : Heap) (v : Val) (x : PinL × Int × Int) : Prop := ∃ s, v = .tup [.agg [s, .int .i64 x.2.1], .int .i64 x.2.2] ∧ Ps h s x.1

theorem Keep.ps {h h' : Heap} (k : Keep h h') {s : Val} {ps : PinL} (e : Ps h s ps) : Ps h' s ps := Keep.sl k e

theorem ps_nil {h : Heap} : Ps h .nils [] := ⟨rfl, .inl ⟨rfl, rfl⟩⟩

theorem one2 {s : Val} (hs : Val.one s = true) (k : IntKind) (d : Int) : [s, .int k d].all Val.one = true := by
  simp only [List.all_cons, List.all_nil, hs, Bool.and_true]; rfl

theorem ps_one {h : Heap} {s : Val} {ps : PinL} (hs : Ps h s ps) : s.cells = [s] ∧ Val.one s = true := by
  rcases hs.2 with ⟨rfl, _⟩ | ⟨_, _, _, _, rfl, _⟩ <;> exact ⟨rfl, rfl⟩

theorem has_lt {ps : PinL} {r : Int} (ha : Asc ps) (h : hasP ps r = true) : lowerB ps r < ps.length := by
  rcases Nat.lt_or_ge (lowerB ps r) ps.length with q | q
  · exact q
  · have := any_none ha (r := r) (by have := lowerB_le ps r; omega)
    unfold hasP at h
    rw [this] at h; cases h

theorem slot_lt {ps : PinL} {r : Int} (ha : Asc ps) : lowerB ps r < (slot ps r).length := by
  unfold slot
  split
  · rename_i h; exact has_lt ha h
  · have := lowerB_le ps r
    simp; omega

theorem more_ok {h : Heap} (w : Wf h) {s : Val} {ps : PinL} {t r n : Int} (hs : Ps h s ps) (ha : Asc ps) (hn : ps.length ≤ 1024) (hc : ∀ p ∈ ps, 0 ≤ p.2 ∧ p.2 ≤ 4096) (ht : 0 ≤ t ∧ t ≤ 1099511627776) :
    WC E09 16 [.agg [s, .int .i64 t], .int .u64 r, .int .i64 n] h fun v h' => Grow h h' ∧ PRes h' v (moreR ps t r n) := by
  refine WC.fn1 (n := 72) rfl rfl (by rfl) ?_
  intro fr hl ha'
  have f0 : fr.getD 0 .undef = .agg [s, .int .i64 t] := ha' 0
  have f1 : fr.getD 1 .undef = .int .u64 r := ha' 1
  have f2 : fr.getD 2 .undef = .int .i64 n := ha' 2
  clear ha'
  have hso := ps_one hs
  have hlen := hs.lenI
  have hn4 : ps.length < 4611686018427387904 := by omega
  have hn5 : ps.length ≤ 100000 := by omega
  have hcnt : 0 ≤ cntP ps r ∧ cntP ps r ≤ 4096 := by
    unfold cntP
    split
    · rename_i h
      have h1 := has_lt ha h
      have := hc _ (List.getElem_mem h1)
      simpa [List.getD_eq_getElem?_getD, h1] using this
    · omega
  replace hc := Hid.mk hc
  replace hn := Hid.mk hn
  replace ht := Hid.mk ht
  unfold v16
  refine WE.seqR ?_
  (refine WO.op1 ?_; simp only [opK, wanted, setDst, *])
  refine stepK_box w (c := [s, .int .i64 t]) (by simp only [V.ev, *]; rfl) rfl fun b1 h1 g1 hb1 hg1 hn1 => ?_
  (refine WO.op1 ?_; simp only [opK, wanted, setDst, *])
  refine stepK_alloc (g1.wf w) fun b6 h2 g2 hb6 hg6 hn2 => ?_
  have gA := g1.trans g2
  have wB := gA.wf w
  have ld : ∀ h', Grow h2 h' → h'.load b1 0 2 = some [s, .int .i64 t] := fun h' g => g.part (g2.keep _ _ hg1) (by simp)
  have ld1 : ∀ h', Grow h2 h' → h'.load b1 0 1 = some [s] := fun h' g => g.part (g2.keep _ _ hg1) (by simp)
  have ld2 : ∀ h', Grow h2 h' → h'.load b1 1 1 = some [.int .i64 t] := fun h' g => g.part (g2.keep _ _ hg1) (by simp)
  have hs2 := gA.ps hs
  have gg := Grow.refl h2
  have hfl : h2.floor ≤ b6 := by rw [gA.floor]; have := w.fl; have := g1.next; omega
  have hb6' : h.next ≤ b6 := by have := g1.next; omega
  have B := Hid.mk (And.intro hfl (And.intro hb6' hg6))
  -- what is stored in the end
  have done : ∀ (h3 : Heap) (x : Val) (d : Int), Grow h2 h3 → ∀ h4, Wrote h3 b6 (splice [.nils, .int .i64 0] 0 [x, .int .i64 d]) h4 → Grow h h4 ∧ h4.load b6 0 2 = some [x, .int .i64 d] ∧ ∀ j y, j ≠ b6 → h3.get j = some y → h4.get j = some y :=
    fun h3 x d g h4 k => ⟨(gA.trans g).wrote B.out.2.1 w k, load_get k.at_ (by simp [splice]), fun j y hj e => by rw [k.else_ j hj]; exact e⟩
  have at6 : ∀ h3, Grow h2 h3 → h3.get b6 = some (.cells [.nils, .int .i64 0]) ∧ h3.floor ≤ b6 := fun h3 g => ⟨g.keep _ _ B.out.2.2, by rw [g.floor]; exact B.out.1⟩
  replace done := Hid.mk done
  replace at6 := Hid.mk at6
  replace gA := Hid.mk gA
  clear hg1 hg6 hn1 hn2 g1 g2 hb1 hb6 hfl hb6'
  have hs := Hid.mk hs
  unfold moreR
  by_cases c1 : n < 0
  · have d1 : decide (n < 0) = true := decide_eq_true c1
    rw [if_pos c1]
    replace c1 := Hid.mk c1
    repeat' (first | refine WE.seqR ?_ | refine WO.nil ?_ | (refine WO.op1s ?_; simp only [opK, wanted, stepK, step, setDst, pureV, arith, intBin, Val.cells, fill, List.length_cons, List.length_nil, true_and, V.ev, Nat.reduceEqDiff, Nat.reduceLT, Nat.reduceAdd, Nat.zero_add, getD_ne, getD_eq, List.length_set, if_true, *]; with_reducible show WO _ _ _ _ _) | (refine WE.cond2 (t := true) ?hc (fun _ => ?_) (fun hh => Bool.noConfusion hh); case hc => simp only [V.ev, Nat.reduceLT, getD_eq, List.length_set, *]) | refine WE.seqBlock ?_)
    (refine WO.op1 ?_; simp only [opK, wanted, setDst, *])
    refine stepK_store (b := b6) (o := 0) (us := [.nils, .int .i64 0]) (by (simp only [V.ev, Nat.reduceEqDiff, Nat.reduceLT, getD_ne, getD_eq, List.length_set, *]; try rfl)) (by (simp only [V.ev, Nat.reduceLT, getD_eq, List.length_set, *]; try rfl)) (by rfl) (at6.out _ gg).1 (at6.out _ gg).2 (by simp) (by rfl) fun h4 k4 => ?_
    obtain ⟨g4, m4, p4⟩ := done.out _ _ _ gg _ k4
    clear k4
    repeat' (first | refine WO.nil ?_ | (refine WO.op1s ?_; simp only [opK, wanted, stepK, step, setDst, true_and, V.ev, *]; with_reducible show WO _ _ _ _ _) | refine WE.ret ?_ | (with_reducible show blockQ _ _ _ _ _; simp only [blockQ, seqQ]))
    ((try dsimp only); refine Exists.intro _ ⟨(by (simp only [readResults, Nat.reduceEqDiff, Nat.reduceLT, getD_ne, getD_eq, List.length_set, if_true, *]; try rfl)), ?_⟩)
    exact ⟨g4, .nils, rfl, ps_nil⟩
  have d1 : decide (n < 0) = false := decide_eq_false c1
  rw [if_neg c1]
  by_cases c2 : r = 0
  · have d2 : (r == 0) = true := by simp [c2]
    rw [if_pos c2]
    replace c2 := Hid.mk c2
    repeat' (first | refine WE.seqR ?_ | refine WO.nil ?_ | (refine WO.op1s ?_; simp only [opK, wanted, stepK, step, setDst, pureV, arith, intBin, eqVal, eqAt, eqv, Val.isAgg, Val.cells, fill, List.length_cons, List.length_nil, true_and, and_self, Bool.and_true, List.getElem?_cons_zero, V.ev, Nat.reduceEqDiff, Nat.reduceLT, Nat.reduceAdd, Nat.zero_add, Bool.false_eq_true, decide_false, getD_ne, getD_eq, List.length_set, if_true, if_false, Bool.not_true, *]; with_reducible show WO _ _ _ _ _) | (refine WE.cond2 (t := true) ?hc (fun _ => ?_) (fun hh => Bool.noConfusion hh); case hc => simp only [V.ev, Nat.reduceLT, getD_eq, List.length_set, *]) | (refine WE.cond2 (t := false) ?hc (fun hh => Bool.noConfusion hh) (fun _ => ?_); case hc => simp only [V.ev, Nat.reduceLT, getD_eq, List.length_set, *]) | refine WE.seqBlock ?_)
    (refine WO.op1 ?_; simp only [opK, wanted, setDst, *])
    refine stepK_store (b := b6) (o := 0) (us := [.nils, .int .i64 0]) (by (simp only [V.ev, Nat.reduceEqDiff, Nat.reduceLT, getD_ne, getD_eq, List.length_set, *]; try rfl)) (by (simp only [V.ev, Nat.reduceLT, getD_eq, List.length_set, *]; try rfl)) (by rfl) (at6.out _ gg).1 (at6.out _ gg).2 (by simp) (by rfl) fun h4 k4 => ?_
    obtain ⟨g4, m4, p4⟩ := done.out _ _ _ gg _ k4
    clear k4
    repeat' (first | refine WO.nil ?_ | (refine WO.op1s ?_; simp only [opK, wanted, stepK, step, setDst, true_and, V.ev, *]; with_reducible show WO _ _ _ _ _) | refine WE.ret ?_ | (with_reducible show blockQ _ _ _ _ _; simp only [blockQ, seqQ]))
    ((try dsimp only); refine Exists.intro _ ⟨(by (simp only [readResults, Nat.reduceEqDiff, Nat.reduceLT, getD_ne, getD_eq, List.length_set, if_true, *]; try rfl)), ?_⟩)
    exact ⟨g4, .nils, rfl, ps_nil⟩
  have d2 : (r == 0) = false := by simp [c2]
  rw [if_neg c2]
  replace c2 := Hid.mk c2
  by_cases c3 : n = 0
  · have d3 : (n == 0) = true := by simp [c3]
    rw [if_pos c3]
    replace c3 := Hid.mk c3
    have ld0 := ld _ gg
    repeat' (first | refine WE.seqR ?_ | refine WO.nil ?_ | (refine WO.op1s ?_; simp only [opK, wanted, stepK, step, setDst, pureV, arith, intBin, eqVal, eqAt, eqv, Val.isAgg, Val.cells, List.length_cons, List.length_nil, true_and, and_self, Bool.and_true, List.getElem?_cons_zero, V.ev, Nat.reduceEqDiff, Nat.reduceLT, Nat.reduceAdd, Nat.zero_add, Bool.false_eq_true, decide_false, getD_ne, getD_eq, List.length_set, if_true, if_false, Bool.not_true, Bool.not_false, *]; with_reducible show WO _ _ _ _ _) | (refine WE.cond2 (t := true) ?hc (fun _ => ?_) (fun hh => Bool.noConfusion hh); case hc => simp only [V.ev, Nat.reduceLT, getD_eq, List.length_set, *]) | (refine WE.cond2 (t := false) ?hc (fun hh => Bool.noConfusion hh) (fun _ => ?_); case hc => simp only [V.ev, Nat.reduceLT, getD_eq, List.length_set, *]) | refine WE.seqBlock ?_)
    (refine WO.op1 ?_; simp only [opK, wanted, setDst, *])
    refine stepK_store (b := b6) (o := 0) (us := [s, .int .i64 t]) (by (simp only [V.ev, Nat.reduceEqDiff, Nat.reduceLT, getD_ne, getD_eq, List.length_set, *]; try rfl)) (by (simp only [V.ev, Nat.reduceLT, getD_eq, List.length_set, *]; try rfl)) (by rfl) (at6.out _ gg).1 (at6.out _ gg).2 (by simp) (one2 hso.2 _ _) fun h4 k4 => ?_
    obtain ⟨g4, m4, p4⟩ := done.out _ _ _ gg _ k4
    clear k4
    repeat' (first | refine WO.nil ?_ | (refine WO.op1s ?_; simp only [opK, wanted, stepK, step, setDst, true_and, V.ev, *]; with_reducible show WO _ _ _ _ _) | refine WE.ret ?_ | (with_reducible show blockQ _ _ _ _ _; simp only [blockQ, seqQ]))
    ((try dsimp only); refine Exists.intro _ ⟨(by (simp only [readResults, Nat.reduceEqDiff, Nat.reduceLT, getD_ne, getD_eq, List.length_set, if_true, *]; try rfl)), ?_⟩)
    exact ⟨g4, s, rfl, g4.ps hs.out⟩
  have d3 : (n == 0) = false := by simp [c3]
  rw [if_neg c3]
  replace c3 := Hid.mk c3
  have u1 : IntKind.i64.wrap (4096 - cntP ps r) = 4096 - cntP ps r := wrap_i64 (by omega) (by omega)
  have ld0 := ld _ gg
  by_cases c4 : n > 4096 - cntP ps r
  · have d4 : decide (n > 4096 - cntP ps r) = true := decide_eq_true c4
    rw [if_pos (.inl c4)]
    replace c4 := Hid.mk c4
    repeat' (first | refine WE.assoc ?_ | refine WE.seqR ?_ | refine WO.nil ?_ | (refine WO.op1s ?_; simp only [opK, wanted, stepK, step, setDst, pureV, arith, intBin, evs, eqVal, eqAt, eqv, Val.isAgg, Val.cells, fill, List.length_cons, List.length_nil, true_and, and_self, Bool.and_true, List.getElem?_cons_zero, List.getElem?_cons_succ, V.ev, Nat.reduceEqDiff, Nat.reduceLT, Nat.reduceAdd, Nat.zero_add, Bool.false_eq_true, decide_false, getD_ne, getD_eq, List.length_set, if_true, if_false, Bool.true_beq, Bool.not_false, *]; with_reducible show WO _ _ _ _ _) | (refine WO.callG (f := 28) (g := none) wB gg _ rfl (fun h1 w1 k1 => by (simp only [evs, V.ev, Nat.reduceEqDiff, Nat.reduceLT, getD_ne, getD_eq, List.length_set, *]); exact  find_ok w1 (Keep.sl k1 hs2) ha hn4) ?_; clear gg; (rintro _ hh gg rfl; simp only [setDst])) | (refine WO.callG (f := 14) (g := none) wB gg _ rfl (fun h1 w1 k1 => by (simp only [evs, V.ev, Nat.reduceEqDiff, Nat.reduceLT, getD_ne, getD_eq, List.length_set, *]); exact  pcount_ok w1 (Keep.sl k1 hs2) ha hn4) ?_; clear gg; (rintro _ hh gg rfl; simp only [setDst])) | (refine WE.seqCond (t := true) ?hc (fun _ => ?_) (fun hh => Bool.noConfusion hh); case hc => simp only [V.ev, Nat.reduceLT, getD_eq, List.length_set, *]) | refine WE.skip ?_ | (refine WE.cond2 (t := false) ?hc (fun hh => Bool.noConfusion hh) (fun _ => ?_); case hc => simp only [V.ev, Nat.reduceLT, getD_eq, List.length_set, *]) | refine WE.seqBlock ?_)
    (refine WO.op1 ?_; simp only [opK, wanted, setDst, *])
    refine stepK_store (b := b6) (o := 0) (us := [.nils, .int .i64 0]) (by (simp only [V.ev, Nat.reduceEqDiff, Nat.reduceLT, getD_ne, getD_eq, List.length_set, *]; try rfl)) (by (simp only [V.ev, Nat.reduceLT, getD_eq, List.length_set, *]; try rfl)) (by rfl) (at6.out _ gg).1 (at6.out _ gg).2 (by simp) (by rfl) fun h4 k4 => ?_
    obtain ⟨g4, m4, p4⟩ := done.out _ _ _ gg _ k4
    clear k4
    repeat' (first | refine WO.nil ?_ | (refine WO.op1s ?_; simp only [opK, wanted, stepK, step, setDst, true_and, V.ev, *]; with_reducible show WO _ _ _ _ _) | refine WE.seqRet ?_)
    ((try dsimp only); refine Exists.intro _ ⟨(by (simp only [readResults, Nat.reduceEqDiff, Nat.reduceLT, getD_ne, getD_eq, List.length_set, if_true, *]; try rfl)), ?_⟩)
    exact ⟨g4, .nils, rfl, ps_nil⟩
  have d4 : decide (n > 4096 - cntP ps r) = false := decide_eq_false c4
  have hn9 : 0 < n ∧ n ≤ 4096 := by have := c3.out; omega
  have hslot : ((slot ps r).getD (lowerB ps r) (0, 0)).2 = cntP ps r := by
    unfold slot cntP hasP
    split
    · rfl
    · have := lowerB_le ps r
      rw [List.append_assoc, List.getD_eq_getElem?_getD, List.getElem?_append_right (by rw [List.length_take]; omega), List.length_take, Nat.min_eq_left this]
      simp
  have u2 : IntKind.i64.wrap (((slot ps r).getD (lowerB ps r) (0, 0)).2 + n) = ((slot ps r).getD (lowerB ps r) (0, 0)).2 + n := by rw [hslot]; exact wrap_i64 (by omega) (by omega)
  have u3 : IntKind.i64.wrap (t + n) = t + n := by have := ht.out; exact wrap_i64 (by omega) (by omega)
  have hsl := slot_lt (r := r) ha
  replace c4 := Hid.mk c4
  replace hslot := Hid.mk hslot
  cases hh : (ps.any fun p => p.1 == r) with
  | false =>
    have hh2 : hasP ps r = false := hh
    by_cases c5 : ps.length = 1024
    · have d5 : ((ps.length : Int) == 1024) = true := by simp; omega
      rw [if_pos (.inr ⟨hh2, c5⟩)]
      replace c5 := Hid.mk c5
      repeat' (first | refine WE.assoc ?_ | refine WE.seqR ?_ | refine WO.nil ?_ | (refine WO.lenOfE ?_; simp only [setDst, V.ev, Nat.reduceLT, getD_eq, List.length_set, *]; refine ⟨_, rfl, ?_⟩) | (refine WO.op1s ?_; simp only [opK, wanted, stepK, step, setDst, pureV, arith, intBin, unary, evs, eqVal, eqAt, eqv, Val.isAgg, Val.cells, fill, List.length_cons, List.length_nil, true_and, and_self, Bool.and_true, List.getElem?_cons_zero, List.getElem?_cons_succ, V.ev, Nat.reduceEqDiff, Nat.reduceLT, Nat.reduceAdd, Nat.add_zero, Nat.zero_add, Bool.false_eq_true, beq_self_eq_true, decide_false, getD_ne, getD_eq, List.length_set, if_true, if_false, Bool.not_true, Bool.not_false, *]; with_reducible show WO _ _ _ _ _) | (refine WO.callG (f := 28) (g := none) wB gg _ rfl (fun h1 w1 k1 => by (simp only [evs, V.ev, Nat.reduceEqDiff, Nat.reduceLT, getD_ne, getD_eq, List.length_set, *]); exact  find_ok w1 (Keep.sl k1 hs2) ha hn4) ?_; clear gg; (rintro _ hh gg rfl; simp only [setDst])) | (refine WO.callG (f := 14) (g := none) wB gg _ rfl (fun h1 w1 k1 => by (simp only [evs, V.ev, Nat.reduceEqDiff, Nat.reduceLT, getD_ne, getD_eq, List.length_set, *]); exact  pcount_ok w1 (Keep.sl k1 hs2) ha hn4) ?_; clear gg; (rintro _ hh gg rfl; simp only [setDst])) | (refine WE.seqCond (t := true) ?hc (fun _ => ?_) (fun hh => Bool.noConfusion hh); case hc => simp only [V.ev, Nat.reduceLT, getD_eq, List.length_set, *]) | refine WE.skip ?_ | (refine WE.cond2 (t := false) ?hc (fun hh => Bool.noConfusion hh) (fun _ => ?_); case hc => simp only [V.ev, Nat.reduceLT, getD_eq, List.length_set, *]) | (refine WO.known ?hc ?_; case hc => (simp only [wanted, Bool.true_beq, Nat.reduceEqDiff, Nat.reduceLT, getD_ne, getD_eq, List.length_set, *])) | refine WE.seqBlock ?_)
      (refine WO.op1 ?_; simp only [opK, wanted, setDst, *])
      refine stepK_store (b := b6) (o := 0) (us := [.nils, .int .i64 0]) (by (simp only [V.ev, Nat.reduceEqDiff, Nat.reduceLT, getD_ne, getD_eq, List.length_set, *]; try rfl)) (by (simp only [V.ev, Nat.reduceLT, getD_eq, List.length_set, *]; try rfl)) (by rfl) (at6.out _ gg).1 (at6.out _ gg).2 (by simp) (by rfl) fun h4 k4 => ?_
      obtain ⟨g4, m4, p4⟩ := done.out _ _ _ gg _ k4
      clear k4
      repeat' (first | refine WO.nil ?_ | (refine WO.op1s ?_; simp only [opK, wanted, stepK, step, setDst, true_and, V.ev, *]; with_reducible show WO _ _ _ _ _) | refine WE.seqRet ?_)
      ((try dsimp only); refine Exists.intro _ ⟨(by (simp only [readResults, Nat.reduceEqDiff, Nat.reduceLT, getD_ne, getD_eq, List.length_set, if_true, *]; try rfl)), ?_⟩)
      exact ⟨g4, .nils, rfl, ps_nil⟩
    · have d5 : ((ps.length : Int) == 1024) = false := by simp; omega
      rw [if_neg (by rintro (q | ⟨_, q⟩); exact c4.out q; exact c5 q)]
      replace c5 := Hid.mk c5
      repeat' (first | refine WE.assoc ?_ | refine WE.seqR ?_ | refine WO.nil ?_ | (refine WO.lenOfE ?_; simp only [setDst, V.ev, Nat.reduceLT, getD_eq, List.length_set, *]; refine ⟨_, rfl, ?_⟩) | (refine WO.op1s ?_; simp only [opK, wanted, stepK, step, setDst, pureV, arith, intBin, unary, evs, eqVal, eqAt, eqv, Val.isAgg, Val.cells, true_and, and_self, Bool.and_true, List.getElem?_cons_zero, List.getElem?_cons_succ, V.ev, Nat.reduceEqDiff, Nat.reduceLT, Nat.add_zero, Bool.false_eq_true, beq_self_eq_true, decide_false, getD_ne, getD_eq, List.length_set, if_true, if_false, Bool.not_false, *]; with_reducible show WO _ _ _ _ _) | (refine WO.callG (f := 28) (g := none) wB gg _ rfl (fun h1 w1 k1 => by (simp only [evs, V.ev, Nat.reduceEqDiff, Nat.reduceLT, getD_ne, getD_eq, List.length_set, *]); exact  find_ok w1 (Keep.sl k1 hs2) ha hn4) ?_; clear gg; (rintro _ hh gg rfl; simp only [setDst])) | (refine WO.callG (f := 14) (g := none) wB gg _ rfl (fun h1 w1 k1 => by (simp only [evs, V.ev, Nat.reduceEqDiff, Nat.reduceLT, getD_ne, getD_eq, List.length_set, *]); exact  pcount_ok w1 (Keep.sl k1 hs2) ha hn4) ?_; clear gg; (rintro _ hh gg rfl; simp only [setDst])) | refine WE.seqSkip ?_ | (refine WE.seqCond (t := false) ?hc (fun hh => Bool.noConfusion hh) (fun _ => ?_); case hc => simp only [V.ev, Nat.reduceLT, getD_eq, List.length_set, *]) | refine WE.skip ?_ | (refine WE.cond2 (t := false) ?hc (fun hh => Bool.noConfusion hh) (fun _ => ?_); case hc => simp only [V.ev, Nat.reduceLT, getD_eq, List.length_set, *]) | (refine WO.known ?hc ?_; case hc => (simp only [wanted, Bool.true_beq, Nat.reduceEqDiff, Nat.reduceLT, getD_ne, getD_eq, List.length_set, *])) | refine WE.seqBlock ?_)
      rename_i h3
      have w3 := gg.wf wB
      refine WO.call rfl ?_
      (simp only [evs, V.ev, Nat.reduceLT, getD_eq, List.length_set, *])
      refine (clone_ok w3 (gg.ps hs2) hn5).mono ?_
      rintro v4 h4 ⟨g4, hc4⟩
      simp only [setDst]
      replace gg := Hid.mk gg
      repeat' (first | refine WE.assoc ?_ | refine WE.seqR ?_ | refine WO.nil ?_ | (refine WO.op1s ?_; simp only [opK, wanted, stepK, step, setDst, pureV, unary, Val.cells, fill, splice, List.take_zero, List.drop_zero, List.drop_succ_cons, List.nil_append, List.cons_append, List.length_cons, List.length_nil, List.drop_nil, true_and, and_self, Nat.le_refl, V.ev, Nat.reduceEqDiff, Nat.reduceLT, Nat.reduceLeDiff, Nat.reduceAdd, Nat.zero_add, getD_ne, getD_eq, List.length_set, if_true, Bool.not_false, *]; with_reducible show WO _ _ _ _ _) | (refine WE.seqCond (t := true) ?hc (fun _ => ?_) (fun hh => Bool.noConfusion hh); case hc => simp only [V.ev, Nat.reduceLT, getD_eq, List.length_set, *]))
      (refine WO.op1 ?_; simp only [opK, wanted, setDst, *])
      refine stepK_one2 (g4.wf w3) (a := .int .u64 r) (b := .int .i64 0) (by (simp only [V.ev, Nat.reduceLT, getD_eq, List.length_set, *]; try rfl)) fun vb hA gA5 hvb hgA => ?_
      skip
      refine WO.call rfl ?_
      (simp only [evs, V.ev, Nat.reduceEqDiff, Nat.reduceLT, getD_ne, getD_eq, List.length_set, *])
      refine (ins_ok wB (gg.out.trans g4) gA5 (hc4.up gg.out.next) hn5 hvb hgA (lowerB_le ps r)).mono ?_
      rintro v6 h5 ⟨g5, b, rfl, hb6, hg5⟩
      simp only [setDst]
      obtain ⟨m, hm⟩ : ∃ m, m = ps.length + 1 := ⟨_, rfl⟩
      rw [← hm]
      have hq : slot ps r = ps.take (lowerB ps r) ++ [(r, 0)] ++ ps.drop (lowerB ps r) := by unfold slot; rw [hh2]; rfl
      rw [← hq] at hg5
      have hm2 : (slot ps r).length = m := by
        have := lowerB_le ps r
        rw [hq, hm]; simp; omega
      replace hm := Hid.mk (show m = (slot ps r).length ∧ lowerB ps r < m by omega)
      replace hbb := Hid.mk hb6
      clear hb6 hm2 hc4 hgA g4 gA5 hq
      have hel : eltI 2 (.slice b 0 m m 2) (.int .i64 (lowerB ps r : Int)) = some (.ptr b (lowerB ps r * 2)) := by
        simp only [eltI]; rw [if_pos ⟨by omega, by have := hm.out; omega⟩]; simp
      have ldc : h5.load b (lowerB ps r * 2 + 1) 1 = some [.int .i64 ((slot ps r).getD (lowerB ps r) (0, 0)).2] := by
        have := hm.out
        rw [load_get hg5 (by rw [plen]; omega), cell_atP (by omega)]
      have w5 := g5.wf wB
      have ld2' := ld2 _ g5
      replace g5 := Hid.mk g5
      repeat' (first | refine WE.seqR ?_ | refine WO.nil ?_ | (refine WO.iaddrE ?_; simp only [setDst, V.ev, Nat.reduceEqDiff, Nat.reduceLT, getD_ne, getD_eq, List.length_set, *]; refine ⟨_, rfl, ?_⟩) | (refine WO.op1s ?_; simp only [opK, wanted, stepK, step, setDst, pureV, arith, intBin, Val.cells, List.length_cons, List.length_nil, true_and, V.ev, Nat.reduceEqDiff, Nat.reduceLT, Nat.zero_add, Bool.false_eq_true, getD_ne, getD_eq, List.length_set, if_true, if_false, *]; with_reducible show WO _ _ _ _ _))
      (refine WO.op1 ?_; simp only [opK, wanted, setDst, *])
      refine stepK_store (b := b) (o := lowerB ps r * 2 + 1) (us := [.int .i64 (((slot ps r).getD (lowerB ps r) (0, 0)).2 + n)]) (by (simp only [V.ev, Nat.reduceLT, getD_eq, List.length_set, *]; try rfl)) (by (simp only [V.ev, Nat.reduceEqDiff, Nat.reduceLT, getD_ne, getD_eq, List.length_set, *]; try rfl)) (by rfl) hg5 (by rw [g5.out.floor]; have := wB.fl; have := hbb.out; omega) (by have := hm.out; rw [plen]; omega) (by rfl) fun h6 k6 => ?_
      have g6 := g5.out.wrote hbb.out wB k6
      have hg6 : h6.get b = some (.cells ((bump ps r n).flatMap pcell)) := by
        have := hm.out
        rw [k6.at_, setN_splice (by omega)]; rfl
      have ld2' := ld2 _ g6
      clear k6 hg5 ldc
      repeat' (first | refine WE.seqR ?_ | refine WO.nil ?_ | (refine WO.op1s ?_; simp only [opK, wanted, stepK, step, setDst, pureV, arith, intBin, Val.cells, fill, splice, List.take_zero, List.take_succ_cons, List.drop_zero, List.drop_succ_cons, List.nil_append, List.cons_append, List.length_cons, List.length_nil, List.drop_nil, true_and, and_self, Nat.le_refl, V.ev, Nat.reduceEqDiff, Nat.reduceLT, Nat.reduceLeDiff, Nat.reduceAdd, Nat.zero_add, Bool.false_eq_true, getD_ne, getD_eq, List.length_set, if_true, if_false, *]; with_reducible show WO _ _ _ _ _))
      (refine WO.op1 ?_; simp only [opK, wanted, setDst, *])
      refine stepK_store (b := b6) (o := 0) (us := [.slice b 0 m m 2, .int .i64 (t + n)]) (by (simp only [V.ev, Nat.reduceEqDiff, Nat.reduceLT, getD_ne, getD_eq, List.length_set, *]; try rfl)) (by (simp only [V.ev, Nat.reduceLT, getD_eq, List.length_set, *]; try rfl)) (by rfl) (at6.out _ g6).1 (at6.out _ g6).2 (by simp) (by rfl) fun h7 k7 => ?_
      obtain ⟨g7, m7, p7⟩ := done.out _ _ _ g6 _ k7
      have hbn : b ≠ b6 := by
        have := lt_of_get wB B.out.2.2
        have := hbb.out
        omega
      have hg7 := p7 _ _ hbn hg6
      clear k7 hg6
      repeat' (first | refine WO.nil ?_ | (refine WO.op1s ?_; simp only [opK, wanted, stepK, step, setDst, true_and, V.ev, *]; with_reducible show WO _ _ _ _ _) | refine WE.ret ?_)
      ((try dsimp only); refine Exists.intro _ ⟨(by (simp only [readResults, Nat.reduceEqDiff, Nat.reduceLT, getD_ne, getD_eq, List.length_set, if_true, *]; try rfl)), ?_⟩)
      refine ⟨g7, .slice b 0 m m 2, rfl, ?_⟩
      show Ps h7 (.slice b 0 m m 2) (bump ps r n)
      have hml : (bump ps r n).length = m := by unfold bump setN; rw [List.length_set]; have := hm.out; omega
      refine ⟨by rw [plen], .inr ⟨b, 0, m, 2, by rw [hml], .inr rfl, by rw [hml]; exact Nat.le_refl _, .inr ?_⟩⟩
      rw [load_get hg7 (by rw [plen]; omega), List.drop_zero, List.take_of_length_le (by rw [plen]; omega)]
  | true =>
    have hh2 : hasP ps r = true := hh
    rw [if_neg (by rintro (q | ⟨q, _⟩); exact c4.out q; rw [hh2] at q; cases q)]
    repeat' (first | refine WE.assoc ?_ | refine WE.seqR ?_ | refine WO.nil ?_ | (refine WO.op1s ?_; simp only [opK, wanted, stepK, step, setDst, pureV, arith, intBin, unary, evs, eqVal, eqAt, eqv, Val.isAgg, Val.cells, true_and, and_self, Bool.and_true, List.getElem?_cons_zero, List.getElem?_cons_succ, V.ev, Nat.reduceEqDiff, Nat.reduceLT, Nat.add_zero, Bool.false_eq_true, beq_self_eq_true, decide_false, getD_ne, getD_eq, List.length_set, if_true, if_false, Bool.false_beq, Bool.not_true, Bool.not_false, *]; with_reducible show WO _ _ _ _ _) | (refine WO.callG (f := 28) (g := none) wB gg _ rfl (fun h1 w1 k1 => by (simp only [evs, V.ev, Nat.reduceEqDiff, Nat.reduceLT, getD_ne, getD_eq, List.length_set, *]); exact  find_ok w1 (Keep.sl k1 hs2) ha hn4) ?_; clear gg; (rintro _ hh gg rfl; simp only [setDst])) | (refine WO.callG (f := 14) (g := none) wB gg _ rfl (fun h1 w1 k1 => by (simp only [evs, V.ev, Nat.reduceEqDiff, Nat.reduceLT, getD_ne, getD_eq, List.length_set, *]); exact  pcount_ok w1 (Keep.sl k1 hs2) ha hn4) ?_; clear gg; (rintro _ hh gg rfl; simp only [setDst])) | refine WE.seqSkip ?_ | (refine WE.seqCond (t := false) ?hc (fun hh => Bool.noConfusion hh) (fun _ => ?_); case hc => simp only [V.ev, Nat.reduceLT, getD_eq, List.length_set, *]) | refine WE.skip ?_ | (refine WE.cond2 (t := false) ?hc (fun hh => Bool.noConfusion hh) (fun _ => ?_); case hc => simp only [V.ev, Nat.reduceLT, getD_eq, List.length_set, *]) | refine WE.seqBlock ?_)
    rename_i h3
    have w3 := gg.wf wB
    refine WO.call rfl ?_
    (simp only [evs, V.ev, Nat.reduceLT, getD_eq, List.length_set, *])
    refine (clone_ok w3 (gg.ps hs2) hn5).mono ?_
    rintro v4 h5 ⟨g4, hc4⟩
    simp only [setDst]
    have hq : slot ps r = ps := by unfold slot; rw [hh2]; rfl
    rcases hc4 with ⟨rfl, _⟩ | ⟨b, m, hm0, hm, rfl, hb4, hg5⟩
    · cases hh
    rw [← hq] at hg5
    have hbb := Hid.mk (show h2.next ≤ b by have := gg.next; omega)
    have hm2 := has_lt ha hh2
    have g5 := gg.trans g4
    replace hm := Hid.mk (show m = (slot ps r).length ∧ lowerB ps r < m by rw [hq]; omega)
    clear hb4 g4 hm2 hm0 gg
    replace hq := Hid.mk hq
    have hel : eltI 2 (.slice b 0 m m 2) (.int .i64 (lowerB ps r : Int)) = some (.ptr b (lowerB ps r * 2)) := by
      simp only [eltI]; rw [if_pos ⟨by omega, by have := hm.out; omega⟩]; simp
    have ldc : h5.load b (lowerB ps r * 2 + 1) 1 = some [.int .i64 ((slot ps r).getD (lowerB ps r) (0, 0)).2] := by
      have := hm.out
      rw [load_get hg5 (by rw [plen]; omega), cell_atP (by omega)]
    have w5 := g5.wf wB
    have ld2' := ld2 _ g5
    replace g5 := Hid.mk g5
    repeat' (first | refine WE.assoc ?_ | refine WE.seqR ?_ | refine WO.nil ?_ | (refine WO.iaddrE ?_; simp only [setDst, V.ev, Nat.reduceEqDiff, Nat.reduceLT, getD_ne, getD_eq, List.length_set, *]; refine ⟨_, rfl, ?_⟩) | (refine WO.op1s ?_; simp only [opK, wanted, stepK, step, setDst, pureV, arith, intBin, unary, Val.cells, List.length_cons, List.length_nil, true_and, V.ev, Nat.reduceEqDiff, Nat.reduceLT, Nat.zero_add, Bool.false_eq_true, getD_ne, getD_eq, List.length_set, if_true, if_false, Bool.not_true, *]; with_reducible show WO _ _ _ _ _) | refine WE.seqSkip ?_ | (refine WE.seqCond (t := false) ?hc (fun hh => Bool.noConfusion hh) (fun _ => ?_); case hc => simp only [V.ev, Nat.reduceLT, getD_eq, List.length_set, *]))
    (refine WO.op1 ?_; simp only [opK, wanted, setDst, *])
    refine stepK_store (b := b) (o := lowerB ps r * 2 + 1) (us := [.int .i64 (((slot ps r).getD (lowerB ps r) (0, 0)).2 + n)]) (by (simp only [V.ev, Nat.reduceLT, getD_eq, List.length_set, *]; try rfl)) (by (simp only [V.ev, Nat.reduceEqDiff, Nat.reduceLT, getD_ne, getD_eq, List.length_set, *]; try rfl)) (by rfl) hg5 (by rw [g5.out.floor]; have := wB.fl; have := hbb.out; omega) (by have := hm.out; rw [plen]; omega) (by rfl) fun h6 k6 => ?_
    have g6 := g5.out.wrote hbb.out wB k6
    have hg6 : h6.get b = some (.cells ((bump ps r n).flatMap pcell)) := by
      have := hm.out
      rw [k6.at_, setN_splice (by omega)]; rfl
    have ld2' := ld2 _ g6
    clear k6 hg5 ldc
    repeat' (first | refine WE.seqR ?_ | refine WO.nil ?_ | (refine WO.op1s ?_; simp only [opK, wanted, stepK, step, setDst, pureV, arith, intBin, Val.cells, fill, splice, List.take_zero, List.take_succ_cons, List.drop_zero, List.drop_succ_cons, List.nil_append, List.cons_append, List.length_cons, List.length_nil, List.drop_nil, true_and, and_self, Nat.le_refl, V.ev, Nat.reduceEqDiff, Nat.reduceLT, Nat.reduceLeDiff, Nat.reduceAdd, Nat.zero_add, Bool.false_eq_true, getD_ne, getD_eq, List.length_set, if_true, if_false, *]; with_reducible show WO _ _ _ _ _))
    (refine WO.op1 ?_; simp only [opK, wanted, setDst, *])
    refine stepK_store (b := b6) (o := 0) (us := [.slice b 0 m m 2, .int .i64 (t + n)]) (by (simp only [V.ev, Nat.reduceEqDiff, Nat.reduceLT, getD_ne, getD_eq, List.length_set, *]; try rfl)) (by (simp only [V.ev, Nat.reduceLT, getD_eq, List.length_set, *]; try rfl)) (by rfl) (at6.out _ g6).1 (at6.out _ g6).2 (by simp) (by rfl) fun h7 k7 => ?_
    obtain ⟨g7, m7, p7⟩ := done.out _ _ _ g6 _ k7
    have hbn : b ≠ b6 := by
      have := lt_of_get wB B.out.2.2
      have := hbb.out
      omega
    have hg7 := p7 _ _ hbn hg6
    clear k7 hg6
    repeat' (first | refine WO.nil ?_ | (refine WO.op1s ?_; simp only [opK, wanted, stepK, step, setDst, true_and, V.ev, *]; with_reducible show WO _ _ _ _ _) | refine WE.ret ?_)
    ((try dsimp only); refine Exists.intro _ ⟨(by (simp only [readResults, Nat.reduceEqDiff, Nat.reduceLT, getD_ne, getD_eq, List.length_set, if_true, *]; try rfl)), ?_⟩)
    refine ⟨g7, .slice b 0 m m 2, rfl, ?_⟩
    show Ps h7 (.slice b 0 m m 2) (bump ps r n)
    have hml : (bump ps r n).length = m := by unfold bump setN; rw [List.length_set]; have := hm.out; omega
    refine ⟨by rw [plen], .inr ⟨b, 0, m, 2, by rw [hml], .inr rfl, by rw [hml]; exact Nat.le_refl _, .inr ?_⟩⟩
    rw [load_get hg7 (by rw [plen]; omega), List.drop_zero, List.take_of_length_le (by rw [plen]; omega)]

end Go.V
end

section
set_option linter.unusedVariables false
set_option linter.unusedSimpArgs false
set_option linter.unusedSectionVars false
-- BUILDS
-- NEW
set_option maxHeartbeats 2000000
namespace Go.V
attribute [local irreducible] stepK opK opV

theorem ps_wrote {h3 h4 : Heap} {s : Val} {ps : PinL} (hs : Ps h3 s ps) {b4 : Nat} {cs : List Val} {d : Val} (hg : h3.get b4 = some (.cells [.nils, d])) (k : Wrote h3 b4 cs h4) : Ps h4 s ps := by
  refine ⟨hs.1, ?_⟩
  rcases hs.2 with q | ⟨b, o, cap, ls, e1, e2, e3, e4⟩
  · exact .inl q
  · refine .inr ⟨b, o, cap, ls, e1, e2, e3, ?_⟩
    rcases e4 with e4 | e4
    · exact .inl e4
    · by_cases hb : b = b4
      · subst hb
        obtain ⟨c, h1, h2, h3⟩ := Heap.load_some e4
        rw [hg] at h1
        cases h1
        simp only [List.length_cons, List.length_nil] at h2
        cases ps with
        | nil => exact .inl (by simp)
        | cons p ps =>
          simp only [List.length_cons] at h2
          have : o = 0 := by omega
          subst this
          have : ps.length = 0 := by omega
          obtain rfl := List.eq_nil_of_length_eq_zero this
          simp [pcell] at h3
      · right
        unfold Heap.load at e4 ⊢
        rw [k.else_ b hb]
        exact e4

/-- A result at the end of a call. -/
theorem pin_ok {h : Heap} (w : Wf h) {s : Val} {ps : PinL} {t r : Int} (hs : Ps h s ps) (ha : Asc ps) (hn : ps.length ≤ 1024) (hc : ∀ p ∈ ps, 0 ≤ p.2 ∧ p.2 ≤ 4096) (ht : 0 ≤ t ∧ t ≤ 1099511627776) :
    WC E09 21 [.agg [s, .int .i64 t], .int .u64 r] h fun v h' => Grow h h' ∧ PRes h' v (moreR ps t r 1) := by
  refine WC.fn1 (n := 11) rfl rfl (by rfl) ?_
  intro fr hl ha'
  have f0 : fr.getD 0 .undef = .agg [s, .int .i64 t] := ha' 0
  have f1 : fr.getD 1 .undef = .int .u64 r := ha' 1
  clear ha'
  unfold v21
  refine WE.seqR ?_
  (refine WO.op1 ?_; simp only [opK, wanted, setDst, *])
  refine stepK_box w (c := [s, .int .i64 t]) (by simp only [V.ev, *]; rfl) rfl fun b1 h1 g1 hb1 hg1 hn1 => ?_
  (refine WO.op1 ?_; simp only [opK, wanted, setDst, *])
  refine stepK_alloc (g1.wf w) fun b6 h2 g2 hb6 hg6 hn2 => ?_
  have gA := g1.trans g2
  have wB := gA.wf w
  have ld : h2.load b1 0 2 = some [s, .int .i64 t] := g2.part hg1 (by simp)
  have hs2 := gA.ps hs
  have hb6' := Hid.mk (show h.next ≤ b6 by have := g1.next; omega)
  clear hg1 hn1 hn2 g1 g2 hb1 hb6
  have hg6' := Hid.mk hg6
  clear hg6
  repeat' (first | refine WE.seqR ?_ | refine WO.nil ?_ | (refine WO.op1s ?_; simp only [opK, wanted, stepK, step, setDst, evs, true_and, V.ev, Nat.reduceEqDiff, Nat.reduceLT, getD_ne, getD_eq, List.length_set, if_true, *]; with_reducible show WO _ _ _ _ _))
  refine WO.call rfl ?_
  (simp only [evs, V.ev, Nat.reduceEqDiff, Nat.reduceLT, getD_ne, getD_eq, List.length_set, *])
  refine (more_ok wB hs2 ha hn hc ht).mono ?_
  rintro _ h3 ⟨g3, s3, rfl, hp⟩
  simp only [setDst]
  clear hs2 ld hs
  have hg3 := g3.keep _ _ hg6'.out
  have w3 := g3.wf wB
  have hso := ps_one hp
  generalize moreR ps t r 1 = x at *
  clear ha hn hc ht
  repeat' (first | (refine WO.op1s ?_; simp only [opK, wanted, stepK, step, setDst, Val.cells, List.length_cons, List.length_nil, true_and, List.getElem?_cons_zero, List.getElem?_cons_succ, V.ev, Nat.reduceEqDiff, Nat.reduceLT, Nat.reduceAdd, Nat.zero_add, getD_ne, getD_eq, List.length_set, if_true, *]; with_reducible show WO _ _ _ _ _))
  (refine WO.op1 ?_; simp only [opK, wanted, setDst, *])
  refine stepK_store (b := b6) (o := 0) (us := [s3, .int .i64 x.2.1]) (by (simp only [V.ev, Nat.reduceEqDiff, Nat.reduceLT, getD_ne, getD_eq, List.length_set, *]; try rfl)) (by (simp only [V.ev, Nat.reduceEqDiff, Nat.reduceLT, getD_ne, getD_eq, List.length_set, *]; try rfl)) (by rfl) hg3 (by rw [(gA.trans g3).floor]; have := w.fl; have := hb6'.out; omega) (by simp) (one2 hso.2 _ _) fun h4 k4 => ?_
  have g4 := (gA.trans g3).wrote hb6'.out w k4
  have hp4 := ps_wrote hp hg3 k4
  have m4 : h4.load b6 0 2 = some [s3, .int .i64 x.2.1] := load_get k4.at_ (by simp [splice])
  clear k4 hg3 hp
  repeat' (first | refine WO.nil ?_ | (refine WO.op1s ?_; simp only [opK, wanted, stepK, step, setDst, true_and, V.ev, Nat.reduceLT, getD_eq, List.length_set, *]; with_reducible show WO _ _ _ _ _) | refine WE.ret ?_)
  ((try dsimp only); refine Exists.intro _ ⟨(by (simp only [readResults, Nat.reduceEqDiff, Nat.reduceLT, getD_ne, getD_eq, List.length_set, if_true, *]; try rfl)), ?_⟩)
  exact ⟨g4, s3, rfl, hp4⟩

end Go.V
end

section
set_option linter.unusedVariables false
set_option linter.unusedSimpArgs false
set_option linter.unusedSectionVars false
-- BUILDS
-- NEW
set_option maxHeartbeats 2000000
namespace Go.V
attribute [local irreducible] stepK opK opV

theorem us_load {h h1 : Heap} {s : Val} {xs : List Int} (hs : Us h s xs) {i : Nat} (hi : i < xs.length) (g : Keep h h1) : ∃ b o, eltI 1 s (.int .i64 (i : Int)) = some (.ptr b o) ∧ ∀ h2, Keep h1 h2 → h2.load b o 1 = some [.int .u64 xs[i]] := by
  obtain ⟨bx, o, he, le⟩ := Sl.elt hs (k := .i64) hi (by omega)
  refine ⟨bx, o, he, fun h2 g2 => ?_⟩
  have := le h2 (g.trans g2) 0 1 (by omega)
  rw [Nat.add_zero, Nat.mul_one, Nat.add_zero, List.drop_eq_getElem_cons (by simpa using hi)] at this
  simpa using this

end Go.V
end

section
set_option linter.unusedVariables false
set_option linter.unusedSimpArgs false
set_option linter.unusedSectionVars false
-- DRAWS
-- BUILDS
-- NEW
set_option maxHeartbeats 2000000
namespace Go.V
attribute [local irreducible] stepK opK opV

theorem count_okG {h : Heap} {s : Val} {xs : List Int} {r : Int} (hs : Us h s xs) (hn : xs.length ≤ 100000) :
    WC E09 18 [s, .int .u64 r] h fun v h' => Grow h h' ∧ v = .int .i64 (cnt xs r : Int) :=
  (count_ok hs (by omega)).mono fun v h' e => ⟨by rw [e.1]; exact Grow.refl _, e.2⟩

/-- The revisions that are held, ascending. -/
def HeldOf (xs o : List Int) : Prop := o.Pairwise (· < ·) ∧ ∀ x, x ∈ o ↔ x ∈ xs ∧ 0 < x

theorem asc_ext : ∀ {a b : List Int}, a.Pairwise (· < ·) → b.Pairwise (· < ·) → (∀ x, x ∈ a ↔ x ∈ b) → a = b
  | [], [], _, _, _ => rfl
  | [], y :: b, _, _, h => by have := (h y).2 (by simp); simp at this
  | x :: a, [], _, _, h => by have := (h x).1 (by simp); simp at this
  | x :: a, y :: b, ha, hb, h => by
    obtain ⟨a1, a2⟩ := List.pairwise_cons.1 ha
    obtain ⟨b1, b2⟩ := List.pairwise_cons.1 hb
    have hxy : x = y := by
      have h1 := (h x).1 (by simp)
      have h2 := (h y).2 (by simp)
      rcases List.mem_cons.1 h1 with q | q
      · exact q
      · rcases List.mem_cons.1 h2 with p | p
        · exact p.symm
        · have := b1 _ q; have := a1 _ p; omega
    subst hxy
    rw [asc_ext a2 b2 fun z => ?_]
    constructor
    · intro hz
      have := (h z).1 (List.mem_cons_of_mem _ hz)
      rcases List.mem_cons.1 this with q | q
      · subst q; have := a1 _ hz; omega
      · exact q
    · intro hz
      have := (h z).2 (List.mem_cons_of_mem _ hz)
      rcases List.mem_cons.1 this with q | q
      · subst q; have := b1 _ hz; omega
      · exact q

end Go.V
end

section
set_option linter.unusedVariables false
set_option linter.unusedSimpArgs false
set_option linter.unusedSectionVars false
-- DRAWS
-- BUILDS
-- NEW
set_option maxHeartbeats 2000000
namespace Go.V
attribute [local irreducible] stepK opK opV

theorem us_nil {h : Heap} : Us h .nils [] := ⟨rfl, .inl ⟨rfl, rfl⟩⟩

end Go.V
end

section
set_option linter.unusedVariables false
set_option linter.unusedSimpArgs false
set_option linter.unusedSectionVars false
namespace Go.V

def look : PinL → Int → Int
  | [], _ => 0
  | p :: ps, r => if p.1 = r then p.2 else look ps r

theorem look_none {r : Int} : ∀ {ps : PinL}, (∀ p ∈ ps, p.1 ≠ r) → look ps r = 0
  | [], _ => rfl
  | p :: ps, h => by
    unfold look
    rw [if_neg (h p (by simp)), look_none fun q hq => h q (List.mem_cons_of_mem _ hq)]

theorem look_mid {r c : Int} {B : PinL} : ∀ {A : PinL}, (∀ p ∈ A, p.1 ≠ r) → look (A ++ (r, c) :: B) r = c
  | [], _ => by simp [look]
  | p :: A, h => by
    rw [List.cons_append]
    unfold look
    rw [if_neg (h p (by simp)), look_mid fun q hq => h q (List.mem_cons_of_mem _ hq)]

theorem look_other {r r' c : Int} {B : PinL} (hr : r' ≠ r) : ∀ (A : PinL), look (A ++ (r, c) :: B) r' = look (A ++ B) r'
  | [] => by simp only [List.nil_append]; rw [look, if_neg (fun e => hr e.symm)]
  | p :: A => by
    rw [List.cons_append, List.cons_append]
    unfold look
    rw [look_other hr A]

theorem split_at {r : Int} : ∀ {ps : PinL}, Asc ps → ∃ A B : PinL, (∀ a ∈ A, a.1 < r) ∧ (∀ b ∈ B, r < b.1) ∧ lowerB ps r = A.length ∧ ((hasP ps r = true ∧ ∃ c, ps = A ++ (r, c) :: B) ∨ (hasP ps r = false ∧ ps = A ++ B))
  | [], _ => ⟨[], [], by simp, by simp, rfl, .inr ⟨rfl, rfl⟩⟩
  | p :: ps, h => by
    have h1 := List.pairwise_cons.1 h
    have zero : ¬ p.1 < r → lowerB (p :: ps) r = 0 := by
      intro hp
      unfold lowerB
      rw [List.countP_eq_zero]
      intro q hq
      rcases List.mem_cons.1 hq with rfl | hq
      · simpa using hp
      · have := h1.1 q hq; simp; omega
    rcases Int.lt_trichotomy p.1 r with hp | hp | hp
    · obtain ⟨A, B, a1, a2, a3, a4⟩ := split_at (r := r) h1.2
      have e : lowerB (p :: ps) r = lowerB ps r + 1 := by simp [lowerB, hp]
      have hh : hasP (p :: ps) r = hasP ps r := by
        unfold hasP
        rw [List.any_cons]
        have : (p.1 == r) = false := by simp; omega
        rw [this, Bool.false_or]
      refine ⟨p :: A, B, ?_, a2, by rw [e, a3]; rfl, ?_⟩
      · intro a ha
        rcases List.mem_cons.1 ha with rfl | ha
        · exact hp
        · exact a1 a ha
      · rw [hh]
        rcases a4 with ⟨q, c, rfl⟩ | ⟨q, rfl⟩
        · exact .inl ⟨q, c, rfl⟩
        · exact .inr ⟨q, rfl⟩
    · refine ⟨[], ps, by simp, fun b hb => by have := h1.1 b hb; omega, zero (by omega), .inl ⟨?_, p.2, by rw [← hp]; rfl⟩⟩
      unfold hasP
      rw [List.any_cons]
      simp [hp]
    · refine ⟨[], p :: ps, by simp, ?_, zero (by omega), .inr ⟨?_, rfl⟩⟩
      · intro b hb
        rcases List.mem_cons.1 hb with rfl | hb
        · exact hp
        · have := h1.1 b hb; omega
      · unfold hasP
        rw [List.any_eq_false]
        intro q hq
        rcases List.mem_cons.1 hq with rfl | hq
        · simp; omega
        · have := h1.1 q hq; simp; omega

theorem getD_mid {A B : PinL} {x : Int × Int} : (A ++ x :: B).getD A.length (0, 0) = x := by
  simp [List.getD_eq_getElem?_getD]

theorem cntP_look {ps : PinL} {r : Int} (h : Asc ps) : cntP ps r = look ps r := by
  obtain ⟨A, B, a1, a2, a3, ⟨hh, c, rfl⟩ | ⟨hh, rfl⟩⟩ := split_at (r := r) h
  · rw [look_mid fun p hp => by have := a1 p hp; omega]
    unfold cntP
    unfold hasP at hh
    rw [hh, if_pos rfl, a3, getD_mid]
  · rw [look_none fun p hp => by
      rcases List.mem_append.1 hp with q | q
      · have := a1 p q; omega
      · have := a2 p q; omega]
    unfold cntP
    unfold hasP at hh
    rw [hh]; rfl

theorem look_mem {ps : PinL} (h : Asc ps) {p : Int × Int} (hp : p ∈ ps) : look ps p.1 = p.2 := by
  obtain ⟨A, B, rfl⟩ := List.append_of_mem hp
  have h1 := List.pairwise_append.1 h
  exact look_mid (c := p.2) fun q hq => by have := h1.2.2 q hq p (by simp); omega

theorem setN_mid {A B : PinL} {r c n : Int} : setN (A ++ (r, c) :: B) A.length n = A ++ (r, c + n) :: B := by
  unfold setN
  rw [getD_mid, List.set_append_right _ _ (Nat.le_refl _), Nat.sub_self]
  rfl

theorem bump_eq {ps : PinL} {r : Int} (n : Int) (h : Asc ps) : ∃ A B : PinL, (∀ a ∈ A, a.1 < r) ∧ (∀ b ∈ B, r < b.1) ∧ bump ps r n = A ++ (r, cntP ps r + n) :: B ∧ ((hasP ps r = true ∧ ps = A ++ (r, cntP ps r) :: B) ∨ (hasP ps r = false ∧ ps = A ++ B)) := by
  have hc := cntP_look (r := r) h
  obtain ⟨A, B, a1, a2, a3, ⟨hh, c, rfl⟩ | ⟨hh, rfl⟩⟩ := split_at (r := r) h
  · rw [look_mid fun p hp => by have := a1 p hp; omega] at hc
    refine ⟨A, B, a1, a2, ?_, .inl ⟨hh, by rw [hc]⟩⟩
    unfold bump slot
    rw [hh, if_pos rfl, a3, setN_mid, hc]
  · have hc0 : cntP (A ++ B) r = 0 := by unfold cntP; unfold hasP at hh; rw [hh]; rfl
    refine ⟨A, B, a1, a2, ?_, .inr ⟨hh, rfl⟩⟩
    unfold bump slot
    rw [hh, a3]
    simp only [Bool.false_eq_true, if_false]
    rw [List.take_left, List.drop_left, List.append_assoc, List.cons_append, List.nil_append, setN_mid, hc0]

theorem asc_mid {A B : PinL} {r c : Int} (hA : Asc A) (hB : Asc B) (h1 : ∀ a ∈ A, a.1 < r) (h2 : ∀ b ∈ B, r < b.1) : Asc (A ++ (r, c) :: B) := by
  unfold Asc at *
  rw [List.pairwise_append]
  refine ⟨hA, List.pairwise_cons.2 ⟨h2, hB⟩, fun a ha b hb => ?_⟩
  rcases List.mem_cons.1 hb with rfl | hb
  · exact h1 a ha
  · have := h1 a ha; have := h2 b hb; omega

theorem asc_parts {A B : PinL} (h : Asc (A ++ B)) : Asc A ∧ Asc B := by
  have := List.pairwise_append.1 h
  exact ⟨this.1, this.2.1⟩

/-- Pins and the list of their revisions. -/
structure Pn (ps : PinL) (xs : List Int) : Prop where
  asc : Asc ps
  pos : ∀ p ∈ ps, 0 < p.1 ∧ 0 < p.2 ∧ p.2 ≤ 4096
  len : ps.length ≤ 1024
  ct : ∀ r, cntP ps r = (cnt xs r : Int)

theorem cnt_app (a b : List Int) (r : Int) : cnt (a ++ b) r = cnt a r + cnt b r := List.countP_append

theorem has_iff {ps : PinL} {r : Int} : hasP ps r = true ↔ ∃ p ∈ ps, p.1 = r := by
  unfold hasP
  rw [List.any_eq_true]
  simp

theorem Pn.has {ps : PinL} {xs : List Int} (h : Pn ps xs) (r : Int) : hasP ps r = true ↔ cnt xs r ≠ 0 := by
  have hc := h.ct r
  rw [cntP_look h.asc] at hc
  rw [has_iff]
  constructor
  · rintro ⟨p, hp, rfl⟩
    rw [look_mem h.asc hp] at hc
    have := h.pos p hp
    omega
  · intro hne
    apply Classical.byContradiction
    intro hn
    rw [look_none fun p hp e => hn ⟨p, hp, e⟩] at hc
    omega

theorem cnt_mem {xs : List Int} {r : Int} : cnt xs r ≠ 0 ↔ r ∈ xs := by
  unfold cnt
  rw [Nat.ne_zero_iff_zero_lt, List.countP_pos_iff]
  simp

theorem Pn.held {ps : PinL} {xs : List Int} (h : Pn ps xs) : HeldOf xs (ps.map (·.1)) := by
  refine ⟨?_, fun x => ?_⟩
  · rw [List.pairwise_map]
    exact h.asc
  · have := h.has x
    rw [cnt_mem, has_iff] at this
    constructor
    · intro hx
      obtain ⟨p, hp, rfl⟩ := List.mem_map.1 hx
      exact ⟨this.1 ⟨p, hp, rfl⟩, (h.pos p hp).1⟩
    · rintro ⟨hx, _⟩
      obtain ⟨p, hp, rfl⟩ := this.2 hx
      exact List.mem_map_of_mem hp

theorem Pn.nil : Pn [] [] := ⟨by simp [Asc], by simp, by simp, fun r => by simp [cntP, V.cnt]⟩

theorem Pn.ext {ps qs : PinL} {xs ys : List Int} (h : Pn ps xs) (k : Pn qs ys) (e : ∀ r, V.cnt xs r = V.cnt ys r) : ps = qs := by
  have hm : ps.map (·.1) = qs.map (·.1) := by
    refine asc_ext h.held.1 k.held.1 fun x => ?_
    rw [h.held.2 x, k.held.2 x, ← cnt_mem, ← cnt_mem, e x]
  have hl : ps.length = qs.length := by simpa using congrArg List.length hm
  refine List.ext_getElem hl fun i h1 h2 => ?_
  have e1 : ps[i].1 = qs[i].1 := by
    have := congrArg (fun l => l[i]?) hm
    simpa [h1, h2] using this
  refine Prod.ext e1 ?_
  have a1 := look_mem h.asc (List.getElem_mem h1)
  have a2 := look_mem k.asc (List.getElem_mem h2)
  rw [← cntP_look h.asc, h.ct, e, ← k.ct, cntP_look k.asc, e1, a2] at a1
  exact a1.symm

theorem Pn.bump {ps : PinL} {xs : List Int} (h : Pn ps xs) {r : Int} {n : Nat} (hr : 0 < r) (hn : 0 < n) (hc : (n : Int) ≤ 4096 - cntP ps r) (hl : ¬ (hasP ps r = false ∧ ps.length = 1024)) : Pn (bump ps r n) (xs ++ List.replicate n r) := by
  obtain ⟨A, B, a1, a2, e, a4⟩ := bump_eq (r := r) (n : Int) h.asc
  have hcn := h.ct r
  have hp : Asc A ∧ Asc B ∧ (∀ p ∈ A ++ B, 0 < p.1 ∧ 0 < p.2 ∧ p.2 ≤ 4096) ∧ (A ++ B).length + 1 ≤ 1024 ∧ ∀ r', r' ≠ r → look ps r' = look (A ++ B) r' := by
    rcases a4 with ⟨hh, e2⟩ | ⟨hh, e2⟩
    · have h1 := h.asc
      rw [e2] at h1
      have h2 := asc_parts h1
      refine ⟨h2.1, (List.pairwise_cons.1 h2.2).2, fun p hp => h.pos p ?_, ?_, fun r' hr' => ?_⟩
      · rw [e2]
        rcases List.mem_append.1 hp with q | q <;> simp [q]
      · have := h.len
        have := congrArg List.length e2
        simp at this ⊢; omega
      · rw [e2]; rw [look_other hr' A]
    · have h1 := h.asc
      rw [e2] at h1
      have h2 := asc_parts h1
      refine ⟨h2.1, h2.2, fun p hp => h.pos p (by rw [e2]; exact hp), ?_, fun r' _ => by rw [← e2]⟩
      have := h.len
      have : ps.length ≠ 1024 := fun q => hl ⟨hh, q⟩
      rw [← e2]; omega
  obtain ⟨hA, hB, hpos, hlen, hlk⟩ := hp
  have hasc : Asc (V.bump ps r n) := by rw [e]; exact asc_mid hA hB a1 a2
  refine ⟨hasc, ?_, ?_, fun r' => ?_⟩
  · intro p hp
    rw [e] at hp
    rcases List.mem_append.1 hp with q | q
    · exact hpos p (List.mem_append_left _ q)
    · rcases List.mem_cons.1 q with rfl | q
      · simp only; omega
      · exact hpos p (List.mem_append_right _ q)
  · rw [e]; simp at hlen ⊢; omega
  · rw [cntP_look hasc, cnt_app, e]
    have hrep : V.cnt (List.replicate n r) r' = if r = r' then n else 0 := by
      unfold V.cnt
      rw [List.countP_replicate]
      simp
    rw [hrep]
    by_cases q : r' = r
    · subst q
      rw [look_mid fun p hp => by have := a1 p hp; omega, if_pos rfl]
      omega
    · rw [look_other q, ← hlk r' q, ← cntP_look h.asc, h.ct, if_neg (fun z => q z.symm)]
      omega

end Go.V
end

section
set_option linter.unusedVariables false
set_option linter.unusedSimpArgs false
set_option linter.unusedSectionVars false
-- DRAWS
-- BUILDS
-- NEW
set_option maxHeartbeats 2000000
namespace Go.V
attribute [local irreducible] stepK opK opV

theorem cnt_nil_of {xs : List Int} {r : Int} (h : ¬ r ∈ xs) : cnt xs r = 0 := by
  have := mt cnt_mem.1 h
  omega

end Go.V
end

section
set_option linter.unusedVariables false
set_option linter.unusedSimpArgs false
set_option linter.unusedSectionVars false
-- DRAWS
-- BUILDS
-- NEW
set_option maxHeartbeats 2000000
namespace Go.V
attribute [local irreducible] stepK opK opV

end Go.V
end

section
set_option linter.unusedVariables false
set_option linter.unusedSimpArgs false
set_option linter.unusedSectionVars false
namespace Go.V
open Go.Proofs

end Go.V
end

section
set_option linter.unusedVariables false
set_option linter.unusedSimpArgs false
set_option linter.unusedSectionVars false
-- DRAWS
-- BUILDS
-- NEW
set_option maxHeartbeats 4000000
namespace Go.V
attribute [local irreducible] stepK opK opV

theorem lives_okG {h : Heap} : WC E09 8 [] h fun v h' => Grow h h' ∧ v = .bool true :=
  WC.prim (p := wholeP (.bool true)) rfl (by rfl) ⟨Grow.refl _, rfl⟩

/-- Writing a block of pins does not touch a list. -/
theorem sl_wrote {h3 h4 : Heap} {s : Val} {sz n : Nat} {cs : List Val} (hs : Sl h3 s sz n cs) {b4 : Nat} {dd : List Val} {x : Val} {t : Int} (hg : h3.get b4 = some (.cells [x, .int .i64 t])) (hx : isInt x = false) (hc : 0 < n * sz → ∃ (k : IntKind) (z : Int) (r : List Val), cs = .int k z :: r ∧ k ≠ .i64) (k : Wrote h3 b4 dd h4) : Sl h4 s sz n cs := by
  refine ⟨hs.1, ?_⟩
  rcases hs.2 with q | ⟨b, o, cap, ls, e1, e2, e3, e4⟩
  · exact .inl q
  · refine .inr ⟨b, o, cap, ls, e1, e2, e3, ?_⟩
    rcases e4 with e4 | e4
    · exact .inl e4
    · by_cases hb : b = b4
      · subst hb
        obtain ⟨c, h1, h2, h3⟩ := Heap.load_some e4
        rw [hg] at h1
        cases h1
        rcases Nat.eq_zero_or_pos (n * sz) with q | q
        · exact .inl q
        · obtain ⟨k, z, r, rfl, hk⟩ := hc q
          simp only [List.length_cons, List.length_nil] at h2
          have ho : o = 0 ∨ o = 1 := by omega
          obtain ⟨m, hm⟩ : ∃ m, n * sz = m + 1 := ⟨n * sz - 1, by omega⟩
          rw [hm] at h3
          rcases ho with rfl | rfl
          · simp at h3
            obtain ⟨rfl, _⟩ := h3
            cases hx
          · simp at h3
            exact absurd h3.1.1 hk
      · right
        unfold Heap.load at e4 ⊢
        rw [k.else_ b hb]
        exact e4

theorem us_wrote {h3 h4 : Heap} {s : Val} {xs : List Int} (hs : Us h3 s xs) {b4 : Nat} {dd : List Val} {x : Val} {t : Int} (hg : h3.get b4 = some (.cells [x, .int .i64 t])) (hx : isInt x = false) (k : Wrote h3 b4 dd h4) : Us h4 s xs :=
  sl_wrote hs hg hx (fun h => by
    cases xs with
    | nil => simp at h
    | cons z zs => exact ⟨_, _, _, rfl, by decide⟩) k

theorem ps_wrote2 {h3 h4 : Heap} {s : Val} {ps : PinL} (hs : Ps h3 s ps) {b4 : Nat} {dd : List Val} {x : Val} {t : Int} (hg : h3.get b4 = some (.cells [x, .int .i64 t])) (hx : isInt x = false) (k : Wrote h3 b4 dd h4) : Ps h4 s ps :=
  sl_wrote hs hg hx (fun h => by
    cases ps with
    | nil => simp at h
    | cons z zs => exact ⟨.u64, z.1, _, rfl, by decide⟩) k

theorem ps_int {h : Heap} {s : Val} {ps : PinL} (hs : Ps h s ps) : isInt s = false := by
  rcases hs.2 with ⟨rfl, _⟩ | ⟨_, _, _, _, rfl, _⟩ <;> rfl

end Go.V
end

section
set_option linter.unusedVariables false
set_option linter.unusedSimpArgs false
set_option linter.unusedSectionVars false
-- DRAWS
-- BUILDS
-- NEW
set_option maxHeartbeats 4000000
namespace Go.V
attribute [local irreducible] stepK opK opV

theorem asc_len : ∀ {o xs : List Int}, o.Pairwise (· < ·) → (∀ x ∈ o, x ∈ xs) → o.length ≤ xs.length
  | [], _, _, _ => Nat.zero_le _
  | x :: o, xs, h, hs => by
    obtain ⟨h1, h2⟩ := List.pairwise_cons.1 h
    have hx := hs x (by simp)
    have := asc_len (xs := xs.erase x) h2 fun y hy => (List.mem_erase_of_ne (by have := h1 y hy; omega)).2 (hs y (List.mem_cons_of_mem _ hy))
    rw [List.length_erase_of_mem hx] at this
    have := List.length_pos_of_mem hx
    simp only [List.length_cons]; omega

theorem Pn.short {ps : PinL} {xs : List Int} (h : Pn ps xs) : ps.length ≤ xs.length := by
  have := asc_len h.held.1 fun x hx => ((h.held.2 x).1 hx).1
  simpa using this

end Go.V
end

section
set_option linter.unusedVariables false
set_option linter.unusedSimpArgs false
set_option linter.unusedSectionVars false
-- DRAWS
-- BUILDS
-- NEW
set_option maxHeartbeats 8000000
namespace Go.V
attribute [local irreducible] stepK opK opV

end Go.V
end

section
set_option linter.unusedVariables false
set_option linter.unusedSimpArgs false
set_option linter.unusedSectionVars false
-- DRAWS
-- BUILDS
-- NEW
set_option maxHeartbeats 8000000
namespace Go.V
attribute [local irreducible] stepK opK opV

theorem pin_step {ps : PinL} {xs : List Int} (h : Pn ps xs) {r t : Int} (hr : 0 < r) (hc : cnt xs r < 4096) (hl : cnt xs r = 0 → ps.length < 1024) : moreR ps t r 1 = (bump ps r 1, t + 1, 0) ∧ Pn (bump ps r 1) (xs ++ [r]) := by
  have hct := h.ct r
  have hlim : ¬ ((1 : Int) > 4096 - cntP ps r ∨ (hasP ps r = false ∧ ps.length = 1024)) := by
    rintro (q | ⟨q1, q2⟩)
    · omega
    · have : cnt xs r = 0 := by
        apply Classical.byContradiction
        intro z
        rw [(h.has r).2 z] at q1; cases q1
      have := hl this
      omega
  refine ⟨?_, ?_⟩
  · unfold moreR
    rw [if_neg (by omega), if_neg (by omega), if_neg (by omega), if_neg hlim]
  · have := h.bump (r := r) (n := 1) hr (by omega) (by have := fun q => hlim (.inl q); omega) (fun q => hlim (.inr q))
    simpa using this

/-- Pins of a list, as a result. -/
def PGood (h : Heap) (v : Val) (ys : List Int) : Prop := ∃ (s : Val) (q : PinL), v = .tup [.agg [s, .int .i64 (ys.length : Nat)], .int .i64 0] ∧ Ps h s q ∧ Pn q ys

theorem Keep.pgood {h h' : Heap} (k : Keep h h') {v : Val} {ys : List Int} (e : PGood h v ys) : PGood h' v ys := by
  obtain ⟨s, q, e1, e2, e3⟩ := e
  exact ⟨s, q, e1, k.ps e2, e3⟩

theorem pinS_ok {h : Heap} (w : Wf h) {s : Val} {ps : PinL} {xs : List Int} {r : Int} (hs : Ps h s ps) (hp : Pn ps xs) (hr : 0 < r) (hc : cnt xs r < 4096) (hl : cnt xs r = 0 → ps.length < 1024) (hx : xs.length ≤ 100000) :
    WC E09 21 [.agg [s, .int .i64 (xs.length : Nat)], .int .u64 r] h fun v h' => Grow h h' ∧ PGood h' v (xs ++ [r]) := by
  refine (pin_ok w hs hp.asc hp.len (fun p h => by have := hp.pos p h; omega) (by omega)).mono ?_
  rintro v h' ⟨g, s', e1, e2⟩
  obtain ⟨e3, e4⟩ := pin_step hp (t := (xs.length : Nat)) hr hc hl
  rw [e3] at e1 e2
  exact ⟨g, s', _, by rw [e1]; simp, e2, e4⟩

/-- Pins of a list, in a block. -/
def PinS (h : Heap) (b : Nat) (ps : PinL) (xs : List Int) : Prop := ∃ s, h.get b = some (.cells [s, .int .i64 (xs.length : Nat)]) ∧ Ps h s ps ∧ Pn ps xs

def L8 (h : Heap) (s : Val) (ls : List Int) : Prop := Sl h s 1 ls.length (ls.map (Val.int .u8)) ∧ ∀ x ∈ ls, 0 ≤ x ∧ x < 256

theorem l8_load {h h1 : Heap} {s : Val} {xs : List Int} (hs : L8 h s xs) {i : Nat} (hi : i < xs.length) (g : Keep h h1) : ∃ b o, eltI 1 s (.int .i64 (i : Int)) = some (.ptr b o) ∧ ∀ h2, Keep h1 h2 → h2.load b o 1 = some [.int .u8 xs[i]] := by
  obtain ⟨bx, o, he, le⟩ := Sl.elt hs.1 (k := .i64) hi (by omega)
  refine ⟨bx, o, he, fun h2 g2 => ?_⟩
  have := le h2 (g.trans g2) 0 1 (by omega)
  rw [Nat.add_zero, Nat.mul_one, Nat.add_zero, List.drop_eq_getElem_cons (by simpa using hi)] at this
  simpa using this

def rot (ls : List Int) (by_ i : Nat) : List Int := (List.range i).map fun j => 1 + ls.getD ((j + by_) % ls.length) 0

theorem rot_succ (ls : List Int) (k i : Nat) : rot ls k (i + 1) = rot ls k i ++ [1 + ls.getD ((i + k) % ls.length) 0] := by
  unfold rot
  rw [List.range_succ, List.map_append]
  rfl

theorem rot_perm (ls : List Int) (k : Nat) (hn : 0 < ls.length) : (rot ls k ls.length).Perm (ls.map (1 + ·)) := by
  have e : rot ls k ls.length = (ls.drop (k % ls.length) ++ ls.take (k % ls.length)).map (1 + ·) := by
    have hk := Nat.mod_lt k hn
    apply List.ext_getElem
    · simp [rot]; omega
    · intro j h1 h2
      have hj : j < ls.length := by simpa [rot] using h1
      have hm : (j + k) % ls.length = if j + k % ls.length < ls.length then j + k % ls.length else j + k % ls.length - ls.length := by
        rw [Nat.add_mod, Nat.mod_eq_of_lt hj]
        split
        · exact Nat.mod_eq_of_lt (by assumption)
        · rw [Nat.mod_eq_sub_mod (by omega), Nat.mod_eq_of_lt (by omega)]
      simp only [rot, List.getElem_map, List.getElem_range]
      rw [hm]
      congr 1
      rw [List.getElem_append]
      by_cases q : j + k % ls.length < ls.length
      · rw [if_pos q, dif_pos (by rw [List.length_drop]; omega), List.getElem_drop, List.getD_eq_getElem?_getD, List.getElem?_eq_getElem q]
        simp [Nat.add_comm]
      · rw [if_neg q, dif_neg (by rw [List.length_drop]; omega), List.getElem_take, List.getD_eq_getElem?_getD, List.getElem?_eq_getElem (by omega)]
        simp only [Option.getD_some, List.length_drop]
        congr 1
        omega
  rw [e]
  refine List.Perm.map _ ?_
  have := List.perm_append_comm (l₁ := ls.drop (k % ls.length)) (l₂ := ls.take (k % ls.length))
  rwa [List.take_append_drop] at this

theorem cnt_perm {a b : List Int} (h : a.Perm b) (r : Int) : cnt a r = cnt b r := h.countP_eq _

theorem perm_cnt {a b : List Int} (h : ∀ r, cnt a r = cnt b r) : a.Perm b := List.perm_iff_count.2 h

/-- Two lists are the same but for the order. -/
theorem same_iff {ps qs : PinL} {xs ys : List Int} (h : Pn ps xs) (k : Pn qs ys) : ps = qs ↔ (xs.length = ys.length ∧ ∀ x ∈ xs, cnt xs x = cnt ys x) := by
  constructor
  · rintro rfl
    have hc : ∀ r, cnt xs r = cnt ys r := fun r => by have h1 := h.ct r; rw [k.ct r] at h1; omega
    exact ⟨(perm_cnt hc).length_eq, fun x _ => hc x⟩
  · rintro ⟨hl, hc⟩
    have hp : xs.Perm (ys.filter fun z => decide (z ∈ xs)) := by
      refine perm_cnt fun r => ?_
      have hf : cnt (ys.filter fun z => decide (z ∈ xs)) r = if r ∈ xs then cnt ys r else 0 := by
        unfold cnt
        rw [List.countP_filter]
        by_cases q : r ∈ xs
        · rw [if_pos q]
          congr 1
          funext z
          by_cases e : z = r
          · subst e; simp [q]
          · simp [e]
        · rw [if_neg q, List.countP_eq_zero]
          intro z _
          by_cases e : z = r
          · subst e; simp [q]
          · simp [e]
      rw [hf]
      split
      · exact hc r (by assumption)
      · exact cnt_nil_of (by assumption)
    have hlen := hp.length_eq
    have hall : (ys.filter fun z => decide (z ∈ xs)) = ys := List.filter_eq_self.2 (by
      have := List.length_filter_eq_length_iff (p := fun z => decide (z ∈ xs)) (l := ys)
      exact this.1 (by omega))
    rw [hall] at hp
    exact h.ext k fun r => cnt_perm hp r

def plus1 (ls : List Int) (i : Nat) : List Int := (ls.take i).map (1 + ·)

theorem plus1_succ {ls : List Int} {i : Nat} (hi : i < ls.length) : plus1 ls (i + 1) = plus1 ls i ++ [1 + ls[i]] := by
  unfold plus1
  rw [List.take_succ_eq_append_getElem hi, List.map_append]
  rfl

theorem plus1_len {ls : List Int} {i : Nat} (hi : i ≤ ls.length) : (plus1 ls i).length = i := by
  unfold plus1; simp; omega

theorem rot_len (ls : List Int) (k i : Nat) : (rot ls k i).length = i := by unfold rot; simp

/-- A list of numbers of one's own, whole. -/
def OwnU (h0 h : Heap) (v : Val) (xs : List Int) : Prop := (v = .nils ∧ xs = []) ∨ ∃ b n ls, v = .slice b 0 n n ls ∧ (ls = 0 ∨ ls = 1) ∧ h0.next ≤ b ∧ h.get b = some (.cells (u64s xs)) ∧ n = xs.length

theorem OwnU.us {h0 h : Heap} {v : Val} {xs : List Int} (o : OwnU h0 h v xs) : Us h v xs := by
  rcases o with ⟨rfl, rfl⟩ | ⟨b, n, ls, rfl, h1, h2, hg, rfl⟩
  · exact us_nil
  · refine ⟨by simp, .inr ⟨b, 0, _, ls, rfl, h1, Nat.le_refl _, .inr ?_⟩⟩
    rw [load_get hg (by simp), List.drop_zero, List.take_of_length_le (by simp)]

theorem OwnU.keep {h0 h h' : Heap} {v : Val} {xs : List Int} (o : OwnU h0 h v xs) (k : Keep h h') : OwnU h0 h' v xs := by
  rcases o with o | ⟨b, n, ls, e, h1, h2, hg, h3⟩
  · exact .inl o
  · exact .inr ⟨b, n, ls, e, h1, h2, k _ _ hg, h3⟩

theorem u64s_no {xs : List Int} {x : Val} {t : Int} : [x, Val.int .i64 t] ≠ u64s xs := by
  intro e
  have : Val.int .i64 t ∈ u64s xs := by rw [← e]; simp
  obtain ⟨y, _, hy⟩ := List.mem_map.1 this
  cases hy

theorem OwnU.wrote {h0 h h' : Heap} {v : Val} {xs : List Int} (o : OwnU h0 h v xs) {b2 : Nat} {x : Val} {t : Int} {dd : List Val} (hg2 : h.get b2 = some (.cells [x, .int .i64 t])) (k : Wrote h b2 dd h') : OwnU h0 h' v xs := by
  rcases o with o | ⟨b, n, ls, e, h1, h2, hg, h3⟩
  · exact .inl o
  · refine .inr ⟨b, n, ls, e, h1, h2, ?_, h3⟩
    rw [k.else_ b]
    · exact hg
    · rintro rfl
      rw [hg2] at hg
      simp only [Option.some.injEq, Blk.cells.injEq] at hg
      exact u64s_no hg

/-- What an append to such a list leaves: pins are as they were. -/
theorem stepK_appU {E : Env} {fr : List Val} {h0 h : Heap} (w0 : Wf h0) (g : Grow h0 h) {x y : Opd} {v s : Val} {xs : List Int} {r : Int} (hx : V.ev fr x = v) (hy : V.ev fr y = s) (ho : OwnU h0 h v xs) (hs : Sl h s 1 1 [.int .u64 r]) (hn : xs.length ≤ 100000) {K : Val → Heap → Prop}
    (k : ∀ v' h', Grow h0 h' → OwnU h0 h' v' (xs ++ [r]) → (∀ s ps, Ps h s ps → Ps h' s ps) → (∀ j x t, h.get j = some (.cells [x, .int .i64 t]) → h'.get j = some (.cells [x, .int .i64 t])) → (∀ s zs, Us h s zs → (∀ b o n c l o2 n2 c2 l2, s = .slice b o n c l → v = .slice b o2 n2 c2 l2 → False) → Us h' s zs) → (∀ b o n c l, v' = .slice b o n c l → h.next ≤ b) → h.next ≤ h'.next → K v' h') : stepK E fr h (.append 1 8 x y) K := by
  unfold stepK
  obtain ⟨l1, l2⟩ := firstCells_sl hs
  simp only [step, append, hx, hy, l1, l2]
  have w := g.wf w0
  have e1 : u64s xs ++ [Val.int .u64 r] = u64s (xs ++ [r]) := by simp [u64s]
  rcases ho with ⟨rfl, rfl⟩ | ⟨b, n, ls, rfl, hls, hb, hg, rfl⟩
  · simp only [appendN]
    rw [if_neg (by omega), if_pos ⟨by rw [maxB]; omega, by rw [maxB]; omega, by omega⟩]
    have gn := Grow.new w (.cells [Val.int .u64 r])
    refine k _ _ (g.trans gn) (.inr ⟨h.next, 1, 1, rfl, .inr rfl, g.next, new_self w _, rfl⟩) (fun s ps e => gn.ps e) (fun j x t e => gn.keep _ _ e) (fun s zs e _ => gn.us e) (fun b o n c l e => by cases e; exact Nat.le_refl _) gn.next
  · simp only [appendN]
    have old : firstCells h 1 xs.length (.slice b 0 xs.length xs.length ls) = some (u64s xs) := by
      rw [fc_slice (Nat.le_refl _) hg (by simp), List.drop_zero, List.take_of_length_le (by simp)]
    rw [if_neg (by omega), if_pos ⟨by rw [maxB]; omega, by rw [maxB]; omega, by omega⟩, old]
    simp only
    rw [e1]
    have fin2 : ∀ h', Grow h0 h' → h'.get h.next = some (.cells (u64s (xs ++ [r]))) → OwnU h0 h' (.slice h.next 0 (xs.length + 1) (xs.length + 1) 1) (xs ++ [r]) := fun h' g' e => .inr ⟨h.next, _, 1, rfl, .inr rfl, g.next, e, by simp⟩
    by_cases hl0 : ls = 0
    · rw [if_pos hl0]
      have gn := Grow.new w (.cells (u64s (xs ++ [r])))
      exact k _ _ (g.trans gn) (fin2 _ (g.trans gn) (new_self w _)) (fun s ps e => gn.ps e) (fun j x t e => gn.keep _ _ e) (fun s zs e _ => gn.us e) (fun b o n c l e => by cases e; exact Nat.le_refl _) gn.next
    · rw [if_neg hl0]
      have hl1 : ls = 1 := hls.resolve_left hl0
      rw [if_pos ⟨by rw [g.floor]; have := w0.fl; omega, hl1, by simp [Val.one], by simp only [Heap.endsBy, hg, decide_eq_true_eq]; simp⟩]
      obtain ⟨gm, em⟩ := g.move w0 hb (.cells (u64s (xs ++ [r])))
      have rest : ∀ j y, j ≠ b → h.get j = some y → ((h.put b none).new (.cells (u64s (xs ++ [r])))).2.get j = some y := by
        intro j y hj e
        have hlt := lt_of_get w e
        have h1 : ((h.put b none).new (.cells (u64s (xs ++ [r])))).2.get j = if (h.put b none).hidden j then none else if j = (h.put b none).next then some (.cells (u64s (xs ++ [r]))) else (h.put b none).t.get j := Heap.new_get _ _ _
        have h2 : (h.put b none).hidden j = h.hidden j := rfl
        have h3 : (h.put b none).next = h.next := rfl
        have h4 : (h.put b none).t = h.t.set (b + 1) b none := rfl
        rw [h1, h2, h3, if_neg (show ¬ j = h.next by omega), h4, Tr.get_set _ _ _ _ _ (by omega), if_neg hj]
        exact e
      refine k _ _ gm (fin2 _ gm em) (fun s ps e => ?_) (fun j x t e => ?_) (fun s zs e hne => ?_) (fun b o n c l e => by cases e; exact Nat.le_refl _) (Nat.le_succ _)
      · refine ⟨e.1, ?_⟩
        rcases e.2 with q | ⟨b', o, cap, ls', q1, q2, q3, q4⟩
        · exact .inl q
        · refine .inr ⟨b', o, cap, ls', q1, q2, q3, ?_⟩
          rcases q4 with q4 | q4
          · exact .inl q4
          · by_cases hbb : b' = b
            · subst hbb
              obtain ⟨c, d1, d2, d3⟩ := Heap.load_some q4
              rw [hg] at d1
              cases d1
              cases ps with
              | nil => exact .inl (by simp)
              | cons p ps =>
                have : Val.int .i64 p.2 ∈ u64s xs := by
                  have : Val.int .i64 p.2 ∈ ((u64s xs).drop o).take ((p :: ps).length * 2) := by rw [← d3]; simp [pcell]
                  exact List.mem_of_mem_drop (List.mem_of_mem_take this)
                obtain ⟨z, _, hz⟩ := List.mem_map.1 this
                cases hz
            · right
              obtain ⟨c, d1, d2, d3⟩ := Heap.load_some q4
              rw [d3]
              exact load_get (rest _ _ hbb d1) d2
      · by_cases hj : j = b
        · subst hj
          rw [hg] at e
          simp only [Option.some.injEq, Blk.cells.injEq] at e
          exact absurd e.symm u64s_no
        · exact rest j _ hj e
      · refine ⟨e.1, ?_⟩
        rcases e.2 with q | ⟨b', o, cap, ls', q1, q2, q3, q4⟩
        · exact .inl q
        · refine .inr ⟨b', o, cap, ls', q1, q2, q3, q4.imp id fun q4 => ?_⟩
          obtain ⟨c, d1, d2, d3⟩ := Heap.load_some q4
          rw [d3]
          exact load_get (rest _ _ (fun hbb => by subst hbb; exact hne _ _ _ _ _ _ _ _ _ q1 rfl) d1) d2

theorem PinS.keep {h h' : Heap} {b : Nat} {ps : PinL} {xs : List Int} (e : PinS h b ps xs) (k : Keep h h') : PinS h' b ps xs := by
  obtain ⟨s, e1, e2, e3⟩ := e
  exact ⟨s, k _ _ e1, k.ps e2, e3⟩

theorem PinS.wrote {h h' : Heap} {b : Nat} {ps : PinL} {xs : List Int} (e : PinS h b ps xs) {b2 : Nat} {x : Val} {t : Int} {dd : List Val} (hg : h.get b2 = some (.cells [x, .int .i64 t])) (hx : isInt x = false) (k : Wrote h b2 dd h') (hne : b ≠ b2) : PinS h' b ps xs := by
  obtain ⟨s, e1, e2, e3⟩ := e
  exact ⟨s, by rw [k.else_ b hne]; exact e1, ps_wrote2 e2 hg hx k, e3⟩

theorem PinS.load {h : Heap} {b : Nat} {ps : PinL} {xs : List Int} (e : PinS h b ps xs) : ∃ s, h.load b 0 2 = some [s, .int .i64 (xs.length : Nat)] ∧ h.get b = some (.cells [s, .int .i64 (xs.length : Nat)]) ∧ Ps h s ps := by
  obtain ⟨s, e1, e2, e3⟩ := e
  exact ⟨s, load_get e1 (by simp), e1, e2⟩

theorem PinS.pn {h : Heap} {b : Nat} {ps : PinL} {xs : List Int} (e : PinS h b ps xs) : Pn ps xs := by
  obtain ⟨s, e1, e2, e3⟩ := e
  exact e3

theorem u64w {v : Int} (h : 0 ≤ v ∧ v < 256) : IntKind.u64.wrap v = v ∧ IntKind.u64.wrap (1 + v) = 1 + v := ⟨wrap_u64 (by omega) (by omega), wrap_u64 (by omega) (by omega)⟩

def AnA (h0 : Heap) (b7 b8 b9 : Nat) (l m : Val) (ls : List Int) (bb : Int) (k : Nat) (fr : List Val) (h' : Heap) : Prop := Grow h0 h' ∧ ∃ (i : Nat) (u : Val) (ps qs : PinL), Hid (i + k = ls.length) ∧ fr.length = 156 ∧ fr.getD 0 .undef = l ∧ fr.getD 1 .undef = m ∧ fr.getD 2 .undef = .int .u8 bb ∧
  fr.getD 7 .undef = .ptr b7 0 ∧ fr.getD 8 .undef = .ptr b8 0 ∧ fr.getD 9 .undef = .ptr b9 0 ∧ fr.getD 10 .undef = u ∧ fr.getD 11 .undef = .nils ∧ fr.getD 12 .undef = .int .i64 (i : Nat) ∧
  OwnU h0 h' u (plus1 ls i) ∧ PinS h' b7 ps (plus1 ls i) ∧ PinS h' b8 qs (rot ls bb.toNat i) ∧ PinS h' b9 [] []

def AnB (h0 : Heap) (b7 b8 b9 : Nat) (l m x : Val) (ls ms : List Int) (bn N : Nat) (ps qs : PinL) (k : Nat) (fr : List Val) (h' : Heap) : Prop := Grow h0 h' ∧ ∃ (i : Nat) (u : Val) (rs : PinL), Hid (i + k = ms.length) ∧ fr.length = 156 ∧ fr.getD 1 .undef = m ∧
  fr.getD 7 .undef = .ptr b7 0 ∧ fr.getD 8 .undef = .ptr b8 0 ∧ fr.getD 9 .undef = .ptr b9 0 ∧ fr.getD 10 .undef = x ∧ fr.getD 11 .undef = u ∧ fr.getD 17 .undef = .int .i64 (i : Nat) ∧
  OwnU h0 h' u (plus1 ms i) ∧ Hid ((∀ b o n c l, x = .slice b o n c l → b < N) ∧ (∀ b o n c l, u = .slice b o n c l → N ≤ b) ∧ N ≤ h'.next) ∧ Us h' x (plus1 ls ls.length) ∧ PinS h' b7 ps (plus1 ls ls.length) ∧ PinS h' b8 qs (rot ls bn ls.length) ∧ PinS h' b9 rs (plus1 ms i)

def AnC (h0 : Heap) (b7 b8 b9 : Nat) (x y : Val) (xs ys zs : List Int) (ps qs rs : PinL) (k : Nat) (fr : List Val) (h' : Heap) : Prop := Grow h0 h' ∧ ∃ (i : Nat) (tt : Bool), Hid (i + k = xs.length ∧ (tt = true ↔ (xs.length = ys.length ∧ ∀ z ∈ xs.take i, cnt xs z = cnt ys z))) ∧ fr.length = 156 ∧
  fr.getD 7 .undef = .ptr b7 0 ∧ fr.getD 8 .undef = .ptr b8 0 ∧ fr.getD 9 .undef = .ptr b9 0 ∧ fr.getD 10 .undef = x ∧ fr.getD 11 .undef = y ∧ fr.getD 20 .undef = .bool tt ∧ fr.getD 21 .undef = .int .i64 (i : Nat) ∧
  Us h' x xs ∧ Us h' y ys ∧ PinS h' b7 ps xs ∧ PinS h' b8 qs zs ∧ PinS h' b9 rs ys

theorem stepK_oneN {E : Env} {fr : List Val} {h0 h : Heap} (w0 : Wf h0) (g : Grow h0 h) {x : Opd} {sz : Nat} {zero cs : List Val} (hx : (V.ev fr x).cells = cs) (hc : cs.length = sz) (hz : zero.length = sz) {K : Val → Heap → Prop}
    (k : ∀ v h', Grow h0 h' → Keep h h' → Sl h' v sz 1 cs → h.next ≤ h'.next → K v h') : stepK E fr h (.bslice 1 zero [(0, sz, x)]) K := by
  unfold stepK
  have w := g.wf w0
  have hf : fill fr zero [(0, sz, x)] = some cs := by
    simp only [fill, hx]
    rw [if_pos ⟨hc, by omega⟩]
    unfold splice
    rw [List.take_zero, List.nil_append, List.drop_eq_nil_of_le (by omega), List.append_nil]
  simp only [step, hf]
  have gn := Grow.new w (.cells cs)
  refine k _ _ (g.trans gn) gn.kp ⟨by omega, .inr ⟨h.next, 0, 1, 0, rfl, .inl rfl, Nat.le_refl _, .inr ?_⟩⟩ gn.next
  rw [load_get (new_self w _) (by omega), List.drop_zero, ← hc]
  simp

theorem lawAny_ok {h : Heap} (w : Wf h) {l m : Val} {ls ms : List Int} {bb : Int} (hL : L8 h l ls) (hM : L8 h m ms) (hbb : 0 ≤ bb ∧ bb < 256) : WC E09 7 [l, m, .int .u8 bb] h fun v h' => Grow h h' ∧ v = .bool true := by
  refine WC.fn1 (n := 156) rfl rfl (by rfl) ?_
  intro fr hl ha'
  have f0 : fr.getD 0 .undef = l := ha' 0
  have f1 : fr.getD 1 .undef = m := ha' 1
  have f2 : fr.getD 2 .undef = .int .u8 bb := ha' 2
  clear ha'
  have hll := hL.1.lenI
  have hml := hM.1.lenI
  have gg := Grow.refl h
  have wB := w
  unfold v7
  by_cases c1 : ls.length > 30
  · have d1 : decide ((ls.length : Int) > 30) = true := decide_eq_true (by omega)
    repeat' (first | refine WE.assoc ?_ | refine WE.seqR ?_ | refine WO.nil ?_ | (refine WO.lenOfE ?_; simp only [setDst, V.ev, Nat.reduceLT, getD_eq, List.length_set, *]; refine ⟨_, rfl, ?_⟩) | (refine WO.op1s ?_; simp only [opK, wanted, stepK, step, setDst, pureV, arith, intBin, evs, true_and, V.ev, Nat.reduceEqDiff, Nat.reduceLT, getD_ne, getD_eq, List.length_set, if_true, reduceCtorEq, Bool.true_beq, *]; with_reducible show WO _ _ _ _ _) | (refine WO.callG (f := 8) (g := none) wB gg _ rfl (fun h1 w1 k1 => by (simp only [evs, *]); exact  lives_okG) ?_; clear gg; (rintro _ hh gg rfl; simp only [setDst])) | refine WE.seqRet ?_ | (refine WE.seqCond (t := true) ?hc (fun _ => ?_) (fun hh => Bool.noConfusion hh); case hc => simp only [V.ev, Nat.reduceLT, getD_eq, List.length_set, *]))
    ((try dsimp only); refine Exists.intro _ ⟨(by (simp only [readResults, Nat.reduceLT, getD_eq, List.length_set, *]; try rfl)), ?_⟩)
    exact ⟨gg, rfl⟩
  have d1 : decide ((ls.length : Int) > 30) = false := decide_eq_false (by omega)
  by_cases c2 : ms.length > 30
  · have d2 : decide ((ms.length : Int) > 30) = true := decide_eq_true (by omega)
    repeat' (first | refine WE.assoc ?_ | refine WE.seqR ?_ | refine WO.nil ?_ | (refine WO.lenOfE ?_; simp only [setDst, V.ev, Nat.reduceLT, getD_eq, List.length_set, *]; refine ⟨_, rfl, ?_⟩) | (refine WO.op1s ?_; simp only [opK, wanted, stepK, step, setDst, pureV, arith, intBin, evs, true_and, V.ev, Nat.reduceEqDiff, Nat.reduceLT, beq_self_eq_true, getD_ne, getD_eq, List.length_set, if_true, reduceCtorEq, *]; with_reducible show WO _ _ _ _ _) | (refine WO.callG (f := 8) (g := none) wB gg _ rfl (fun h1 w1 k1 => by (simp only [evs, *]); exact  lives_okG) ?_; clear gg; (rintro _ hh gg rfl; simp only [setDst])) | refine WE.seqRet ?_ | (refine WE.seqCond (t := true) ?hc (fun _ => ?_) (fun hh => Bool.noConfusion hh); case hc => simp only [V.ev, Nat.reduceLT, getD_eq, List.length_set, *]) | (refine WO.known ?hc ?_; case hc => (simp only [wanted, Bool.false_beq, Nat.reduceEqDiff, Nat.reduceLT, getD_ne, getD_eq, List.length_set, Bool.not_false, *])))
    ((try dsimp only); refine Exists.intro _ ⟨(by (simp only [readResults, Nat.reduceLT, getD_eq, List.length_set, *]; try rfl)), ?_⟩)
    exact ⟨gg, rfl⟩
  have d2 : decide ((ms.length : Int) > 30) = false := decide_eq_false (by omega)
  repeat' (first | refine WE.assoc ?_ | refine WE.seqR ?_ | refine WO.nil ?_ | (refine WO.lenOfE ?_; simp only [setDst, V.ev, Nat.reduceLT, getD_eq, List.length_set, *]; refine ⟨_, rfl, ?_⟩) | (refine WO.op1s ?_; simp only [opK, wanted, stepK, step, setDst, pureV, arith, intBin, true_and, V.ev, Nat.reduceEqDiff, Nat.reduceLT, beq_self_eq_true, getD_ne, getD_eq, List.length_set, if_true, reduceCtorEq, *]; with_reducible show WO _ _ _ _ _) | refine WE.seqSkip ?_ | (refine WE.seqCond (t := false) ?hc (fun hh => Bool.noConfusion hh) (fun _ => ?_); case hc => simp only [V.ev, Nat.reduceLT, getD_eq, List.length_set, *]) | (refine WO.known ?hc ?_; case hc => (simp only [wanted, Bool.false_beq, Nat.reduceEqDiff, Nat.reduceLT, getD_ne, getD_eq, List.length_set, Bool.not_false, *])))
  (refine WO.op1 ?_; simp only [opK, wanted, setDst, *])
  refine stepK_alloc w fun b7 h7 g7 hb7 hg7 hn7 => ?_
  (refine WO.op1 ?_; simp only [opK, wanted, setDst, *])
  refine stepK_alloc (g7.wf w) fun b8 h8 g8 hb8 hg8 hn8 => ?_
  (refine WO.op1 ?_; simp only [opK, wanted, setDst, *])
  refine stepK_alloc (g8.wf (g7.wf w)) fun b9 h9 g9 hb9 hg9 hn9 => ?_
  have g09 := (g7.trans g8).trans g9
  have B := Hid.mk (show h.next ≤ b7 ∧ h.next ≤ b8 ∧ h.next ≤ b9 ∧ b7 < b8 ∧ b8 < b9 from ⟨hb7, by omega, by omega, by omega, by omega⟩)
  have e7 : h9.get b7 = some (.cells [.nils, .int .i64 0]) := (g8.trans g9).keep _ _ hg7
  have e8 : h9.get b8 = some (.cells [.nils, .int .i64 0]) := g9.keep _ _ hg8
  clear hn7 hn8 hn9 hb7 hb8 hb9 hg7 hg8 g7 g8 g9 gg
  repeat' (first | refine WE.assoc ?_ | refine WE.seqR ?_ | refine WO.nil ?_ | (refine WO.op1s ?_; simp only [opK, wanted, stepK, step, setDst, true_and, V.ev, *]; with_reducible show WO _ _ _ _ _) | refine WE.seqBlock ?_)
  refine WE.loop (AnA h b7 b8 b9 l m ls bb) ?_ ls.length _ _ ⟨g09, 0, .nils, [], [], ⟨by omega⟩, by simp only [List.length_set, hl], by (simp only [getD_ne, reduceCtorEq, *]; try rfl), by (simp only [Nat.reduceEqDiff, getD_ne, *]; try rfl), by (simp only [Nat.reduceEqDiff, getD_ne, *]; try rfl), by (simp only [Nat.reduceEqDiff, Nat.reduceLT, getD_ne, getD_eq, List.length_set, *]; try rfl), by (simp only [Nat.reduceEqDiff, Nat.reduceLT, getD_ne, getD_eq, List.length_set, *]; try rfl), by (simp only [Nat.reduceEqDiff, Nat.reduceLT, getD_ne, getD_eq, List.length_set, *]; try rfl), by (simp only [Nat.reduceEqDiff, Nat.reduceLT, getD_ne, getD_eq, List.length_set, *]; try rfl), by (simp only [Nat.reduceEqDiff, Nat.reduceLT, getD_ne, getD_eq, List.length_set, *]; try rfl), by (simp only [Nat.reduceLT, Int.cast_ofNat_Int, getD_eq, List.length_set, *]; try rfl), .inl ⟨rfl, rfl⟩, ⟨.nils, e7, ps_nil, Pn.nil⟩, ⟨.nils, e8, ps_nil, Pn.nil⟩, ⟨.nils, hg9, ps_nil, Pn.nil⟩⟩
  clear f0 f1 f2 hl e7 e8 hg9 g09
  rintro k fr hc ⟨gg, i, u, ps, qs, hk, hl, f0, f1, f2, f7, f8, f9, f10, f11, f12, ho, p7, p8, p9⟩
  have wc := gg.wf w
  by_cases hi : i < ls.length
  ·
    have hd : decide ((i : Int) < (ls.length : Int)) = true := decide_eq_true (by omega)
    have wn : IntKind.i64.wrap ((i : Int) + 1) = ((i + 1 : Nat) : Int) := wrap_add (b := 1) (by omega)
    have w00 : IntKind.i64.wrap (0 + 0) = 0 := by decide
    obtain ⟨bx, ox, hex, lexh⟩ := l8_load hL hi (Keep.refl h)
    have lex := fun h2 (g : Keep hc h2) => lexh h2 (gg.kp.trans g)
    have hj : (i + bb.toNat) % ls.length < ls.length := Nat.mod_lt _ (by omega)
    obtain ⟨by_, oy, hey, ley⟩ := l8_load hL hj gg.kp
    have c0 : IntKind.i64.wrap bb = bb := wrap_i64 (by omega) (by omega)
    have c3 : IntKind.i64.wrap ((i : Int) + bb) = ((i + bb.toNat : Nat) : Int) := by rw [wrap_i64 (by omega) (by omega)]; omega
    have c4 : ((i + bb.toNat : Nat) : Int).tmod (ls.length : Int) = (((i + bb.toNat) % ls.length : Nat) : Int) := by
      rw [Int.tmod_eq_emod_of_nonneg (by omega)]; rfl
    have zN : ((ls.length : Int) = 0) = False := eq_false (by omega)
    have hv := hL.2 _ (List.getElem_mem hi)
    have hu := hL.2 _ (List.getElem_mem hj)
    obtain ⟨a1, a2⟩ := u64w hv
    obtain ⟨a3, a4⟩ := u64w hu
    have hp1 := plus1_succ hi
    have hr1 := rot_succ ls bb.toNat i
    have hgd : ls.getD ((i + bb.toNat) % ls.length) 0 = ls[(i + bb.toNat) % ls.length] := by simp [List.getD_eq_getElem?_getD, hj]
    rw [hgd] at hr1
    have hpl := plus1_len (ls := ls) (i := i) (by omega)
    have hrl := rot_len ls bb.toNat i
    have x0 := lex _ (Keep.refl _)
    obtain ⟨s7, l7, e7, q7⟩ := p7.load
    obtain ⟨s8, l8, e8, q8⟩ := p8.load
    have k7 : ∀ h1, Wf h1 → Keep hc h1 → WC E09 21 [.agg [s7, .int .i64 ((plus1 ls i).length : Nat)], .int .u64 (1 + ls[i])] h1 fun v h' => Grow h1 h' ∧ PGood h' v (plus1 ls (i + 1)) := fun h1 w1 kk => by
      rw [hp1]
      have := List.countP_le_length (p := (· == 1 + ls[i])) (l := plus1 ls i)
      exact pinS_ok w1 (kk.ps q7) p7.pn (by omega) (by unfold cnt; omega) (fun _ => by have := p7.pn.short; omega) (by omega)
    have k8 : ∀ h1, Wf h1 → Keep hc h1 → WC E09 21 [.agg [s8, .int .i64 ((rot ls bb.toNat i).length : Nat)], .int .u64 (1 + ls[(i + bb.toNat) % ls.length])] h1 fun v h' => Grow h1 h' ∧ PGood h' v (rot ls bb.toNat (i + 1)) := fun h1 w1 kk => by
      rw [hr1]
      have := List.countP_le_length (p := (· == 1 + ls[(i + bb.toNat) % ls.length])) (l := rot ls bb.toNat i)
      exact pinS_ok w1 (kk.ps q8) p8.pn (by omega) (by unfold cnt; omega) (fun _ => by have := p8.pn.short; omega) (by omega)
    have hi' := Hid.mk hi
    replace k7 := Hid.mk k7
    replace k8 := Hid.mk k8
    replace hp1 := Hid.mk hp1
    generalize ls[i] = v at *
    generalize ls[(i + bb.toNat) % ls.length] = v2 at *
    replace hr1 := Hid.mk hr1
    replace hpl := Hid.mk hpl
    replace hrl := Hid.mk hrl
    replace hgd := Hid.mk hgd
    clear hi hj
    repeat' (first | refine WE.assoc ?_ | refine WE.seqR ?_ | refine WO.nil ?_ | refine WE.seqD ?_ | (refine WO.lenOfE ?_; simp only [setDst, V.ev, Nat.reduceLT, getD_eq, List.length_set, *]; refine ⟨_, rfl, ?_⟩) | (refine WO.op1s ?_; simp only [opK, wanted, stepK, step, setDst, pureV, arith, intBin, true_and, V.ev, Nat.reduceEqDiff, Nat.reduceLT, getD_ne, getD_eq, List.length_set, if_true, reduceCtorEq, *]; with_reducible show WO _ _ _ _ _) | (refine WD.iaddrE ?_; simp only [setDst, List.nil_append, List.cons_append, V.ev, Nat.reduceEqDiff, Nat.reduceLT, getD_ne, getD_eq, List.length_set, *]; refine ⟨_, rfl, ?_⟩) | (refine WD.op2s ?_; simp only [opV, VOp.kind, hiddenOf, unveil_veil, veil_next, below_nil, below_cons, or_false, or_self, wanted, stepK, step, setDst, pureV, arith, intBin, evs, List.nil_append, List.cons_append, true_and, List.getD_cons_zero, V.ev, Nat.reduceEqDiff, Nat.reduceLT, Nat.reduceLeDiff, Bool.false_eq_true, getD_ne, getD_eq, List.length_set, if_true, if_false, reduceCtorEq, *]; with_reducible show WD _ _ _ _ _ _) | refine WE.seqSkip ?_ | (refine WE.seqCond (t := true) ?hc (fun _ => ?_) (fun hh => Bool.noConfusion hh); case hc => simp only [V.ev, Nat.reduceLT, getD_eq, List.length_set, *]) | refine WE.seqBlock ?_)
    refine WD.callH (h0 := hc) wc (Grow.refl _) (fun v h => PGood h v (plus1 ls (i + 1))) (fun v h h' k e => k.pgood e) trivial (fun h1 w1 k1 => by (simp only [evs, V.ev, Nat.reduceEqDiff, Nat.reduceLT, getD_ne, getD_eq, List.length_set, *]); exact k7.out h1 w1 k1) ?_
    rintro _ h5 g5 n5 ⟨s5, ps2, rfl, hp5, hn5⟩
    simp only [setDst, List.nil_append, List.cons_append]
    have w5 := g5.wf wc
    repeat' (first | (refine WD.op2s ?_; simp only [opV, VOp.kind, hiddenOf, unveil_veil, veil_next, or_false, wanted, stepK, step, setDst, List.nil_append, List.cons_append, true_and, Nat.le_refl, List.getElem?_cons_zero, List.getElem?_cons_succ, List.getD_cons_zero, List.getD_cons_succ, V.ev, Nat.reduceEqDiff, Nat.reduceLT, Nat.reduceLeDiff, Bool.false_eq_true, getD_ne, getD_eq, List.length_set, if_true, reduceCtorEq, *]; with_reducible show WD _ _ _ _ _ _))
    (refine WD.op2 ?_; simp only [opV, VOp.kind, hiddenOf, wanted, setDst, true_or, List.nil_append, List.cons_append, Nat.reduceEqDiff, Nat.reduceLeDiff, Bool.false_eq_true, if_true, *])
    refine stepK_alloc w5 fun b13 h6 g6 hb13 hg13 hn13 => ?_
    have hp6 := g6.ps hp5
    have hso := ps_one hp6
    skip
    (refine WD.op2 ?_; simp only [opV, VOp.kind, hiddenOf, wanted, setDst, or_true, List.nil_append, List.cons_append, Nat.reduceEqDiff, Nat.reduceLeDiff, if_true, *])
    refine stepK_store (b := b13) (o := 0) (us := [s5, .int .i64 ((plus1 ls (i + 1)).length : Nat)]) (by (simp only [V.ev, Nat.reduceLT, getD_eq, List.length_set, *]; try rfl)) (by (simp only [V.ev, Nat.reduceEqDiff, Nat.reduceLT, getD_ne, getD_eq, List.length_set, *]; try rfl)) (by rfl) hg13 (by rw [g6.floor]; exact Nat.le_trans w5.fl hb13) (by simp) (one2 hso.2 _ _) fun hA kA => ?_
    have gA : Grow hc hA := g5.trans (g6.wrote hb13 w5 kA)
    have hpA := ps_wrote2 hp6 hg13 rfl kA
    have eA : hA.get b13 = some (.cells [s5, .int .i64 ((plus1 ls (i + 1)).length : Nat)]) := kA.at_
    have wA := gA.wf wc
    have y0 := ley _ gA.kp
    have l8A := gA.load l8
    have hb13' : b9 < b13 := by
      obtain ⟨s9, _, e9, _⟩ := p9.load
      have := lt_of_get wc e9
      have := g5.next
      omega
    clear kA hg13 hp6 hp5 g6 hn13 x0 l7
    repeat' (first | refine WE.seqD ?_ | refine WD.nil2 ?_ | (refine WD.lenOfE ?_; simp only [setDst, List.nil_append, List.cons_append, V.ev, Nat.reduceLT, getD_eq, List.length_set, *]; refine ⟨_, rfl, ?_⟩) | (refine WD.iaddrE ?_; simp only [setDst, List.nil_append, List.cons_append, V.ev, Nat.reduceEqDiff, Nat.reduceLT, getD_ne, getD_eq, List.length_set, *]; refine ⟨_, rfl, ?_⟩) | (refine WD.op2s ?_; simp only [opV, VOp.kind, hiddenOf, unveil_veil, veil_next, below_nil, below_cons, or_false, or_self, wanted, stepK, step, setDst, pureV, arith, intBin, evs, List.nil_append, List.cons_append, true_and, List.getD_cons_zero, V.ev, Nat.reduceEqDiff, Nat.reduceLT, Nat.reduceLeDiff, Bool.false_eq_true, getD_ne, getD_eq, List.length_set, if_true, if_false, reduceCtorEq, *]; with_reducible show WD _ _ _ _ _ _))
    refine WD.callH (h0 := hA) wA (Grow.refl _) (fun v h => PGood h v (rot ls bb.toNat (i + 1))) (fun v h h' k e => k.pgood e) trivial (fun h1 w1 k1 => by (simp only [evs, V.ev, Nat.reduceEqDiff, Nat.reduceLT, getD_ne, getD_eq, List.length_set, *]); exact k8.out h1 w1 (gA.kp.trans k1)) ?_
    rintro _ h8 g8 n8 ⟨s6, qs2, rfl, hp8, hn8⟩
    simp only [setDst, List.nil_append, List.cons_append]
    have w8 := g8.wf wA
    repeat' (first | (refine WD.op2s ?_; simp only [opV, VOp.kind, hiddenOf, unveil_veil, veil_next, or_false, wanted, stepK, step, setDst, List.nil_append, List.cons_append, true_and, Nat.le_refl, List.getElem?_cons_zero, List.getElem?_cons_succ, List.getD_cons_zero, List.getD_cons_succ, V.ev, Nat.reduceEqDiff, Nat.reduceLT, Nat.reduceLeDiff, Bool.false_eq_true, getD_ne, getD_eq, List.length_set, if_true, reduceCtorEq, *]; with_reducible show WD _ _ _ _ _ _))
    (refine WD.op2 ?_; simp only [opV, VOp.kind, hiddenOf, wanted, setDst, true_or, List.nil_append, List.cons_append, Nat.reduceEqDiff, Nat.reduceLeDiff, Bool.false_eq_true, if_true, *])
    refine stepK_alloc w8 fun b15 h9 g9 hb15 hg15 hn15 => ?_
    have hp9 := g9.ps hp8
    have hso6 := ps_one hp9
    skip
    (refine WD.op2 ?_; simp only [opV, VOp.kind, hiddenOf, wanted, setDst, or_true, List.nil_append, List.cons_append, Nat.reduceEqDiff, Nat.reduceLeDiff, if_true, *])
    refine stepK_store (b := b15) (o := 0) (us := [s6, .int .i64 ((rot ls bb.toNat (i + 1)).length : Nat)]) (by (simp only [V.ev, Nat.reduceLT, getD_eq, List.length_set, *]; try rfl)) (by (simp only [V.ev, Nat.reduceEqDiff, Nat.reduceLT, getD_ne, getD_eq, List.length_set, *]; try rfl)) (by rfl) hg15 (by rw [g9.floor]; exact Nat.le_trans w8.fl hb15) (by simp) (one2 hso6.2 _ _) fun hB kB => ?_
    have gAB : Grow hA hB := g8.trans (g9.wrote hb15 w8 kB)
    have gB : Grow hc hB := gA.trans gAB
    have hpB6 := ps_wrote2 hp9 hg15 rfl kB
    have hpB5 := gAB.ps hpA
    have l15 : hB.load b15 0 2 = some [s6, .int .i64 ((rot ls bb.toNat (i + 1)).length : Nat)] := load_get kB.at_ (by simp [splice])
    have l13 : hB.load b13 0 2 = some [s5, .int .i64 ((plus1 ls (i + 1)).length : Nat)] := load_get (gAB.keep _ _ eA) (by simp)
    have e15 := kB.at_
    have hb15' : b9 < b15 := by have := g8.next; have := lt_of_get wA eA; omega
    have wB' := gB.wf wc
    have flB : hB.floor = h.floor := (gg.trans gB).floor
    have e7B := gB.keep _ _ e7
    have p8B := p8.keep gB.kp
    have p9B := p9.keep gB.kp
    have hoB := ho.keep gB.kp
    clear kB hg15 hp9 hp8 g9 hn15 y0 l8 l8A hpA eA g8 g5 w5 w8
    repeat' (first | refine WE.assoc ?_ | refine WE.seqR ?_ | refine WO.nil ?_ | refine WD.nil2 ?_ | (refine WO.op1s ?_; simp only [opK, wanted, stepK, step, setDst, pureV, arith, intBin, eqVal, eqAt, eqv, Val.isAgg, Val.cells, List.length_cons, List.length_nil, true_and, and_self, Bool.and_true, List.getElem?_cons_zero, V.ev, Nat.reduceEqDiff, Nat.reduceLT, Nat.reduceAdd, Nat.zero_add, beq_self_eq_true, getD_ne, getD_eq, List.length_set, if_true, Bool.not_true, *]; with_reducible show WO _ _ _ _ _) | (refine WD.op2s ?_; simp only [opV, VOp.kind, hiddenOf, unveil_veil, veil_next, or_self, wanted, stepK, step, setDst, List.nil_append, List.cons_append, true_and, V.ev, Nat.reduceEqDiff, Nat.reduceLT, Nat.reduceLeDiff, getD_ne, getD_eq, List.length_set, if_true, reduceCtorEq, *]; with_reducible show WD _ _ _ _ _ _) | refine WE.seqSkip ?_ | (refine WE.seqCond (t := false) ?hc (fun hh => Bool.noConfusion hh) (fun _ => ?_); case hc => simp only [V.ev, Nat.reduceLT, getD_eq, List.length_set, *]))
    (refine WO.op1 ?_; simp only [opK, wanted, setDst, *])
    refine stepK_store (b := b7) (o := 0) (us := [s5, .int .i64 ((plus1 ls (i + 1)).length : Nat)]) (by (simp only [V.ev, Nat.reduceEqDiff, getD_ne, *]; try rfl)) (by (simp only [V.ev, Nat.reduceLT, getD_eq, List.length_set, *]; try rfl)) (by rfl) e7B (by rw [flB]; have := w.fl; have := B.out.1; omega) (by simp) (one2 hso.2 _ _) fun hC kC => ?_
    have gC := (gg.trans gB).wrote B.out.1 w kC
    have p7C : PinS hC b7 ps2 (plus1 ls (i + 1)) := ⟨s5, kC.at_, ps_wrote2 hpB5 e7B (ps_int q7) kC, hn5⟩
    have p8C := p8B.wrote e7B (ps_int q7) kC (by have := B.out; omega)
    have p9C := p9B.wrote e7B (ps_int q7) kC (by have := B.out; omega)
    have hoC := hoB.wrote e7B kC
    have hpC6 := ps_wrote2 hpB6 e7B (ps_int q7) kC
    have l15C : hC.load b15 0 2 = some [s6, .int .i64 ((rot ls bb.toNat (i + 1)).length : Nat)] := by
      unfold Heap.load at l15 ⊢
      rw [kC.else_ b15 (by have := B.out; omega)]
      exact l15
    have flC : hC.floor = h.floor := kC.floor.trans flB
    clear kC l15 l13 hpB5 hpB6 p8B p9B hoB e7B e15
    obtain ⟨s8c, l8c, e8c, q8c⟩ := p8C.load
    repeat' (first | refine WE.seqR ?_ | refine WO.nil ?_ | (refine WO.op1s ?_; simp only [opK, wanted, stepK, step, setDst, Val.cells, List.length_cons, List.length_nil, true_and, V.ev, Nat.reduceEqDiff, Nat.reduceLT, Nat.reduceAdd, Nat.zero_add, getD_ne, getD_eq, List.length_set, if_true, *]; with_reducible show WO _ _ _ _ _))
    (refine WO.op1 ?_; simp only [opK, wanted, setDst, *])
    refine stepK_store (b := b8) (o := 0) (us := [s6, .int .i64 ((rot ls bb.toNat (i + 1)).length : Nat)]) (by (simp only [V.ev, Nat.reduceEqDiff, getD_ne, *]; try rfl)) (by (simp only [V.ev, Nat.reduceLT, getD_eq, List.length_set, *]; try rfl)) (by rfl) e8c (by rw [flC]; have := w.fl; have := B.out.2.1; omega) (by simp) (one2 hso6.2 _ _) fun hD kD => ?_
    have gD := gC.wrote B.out.2.1 w kD
    have p8D : PinS hD b8 qs2 (rot ls bb.toNat (i + 1)) := ⟨s6, kD.at_, ps_wrote2 hpC6 e8c (ps_int q8c) kD, hn8⟩
    have p7D := p7C.wrote e8c (ps_int q8c) kD (by have := B.out; omega)
    have p9D := p9C.wrote e8c (ps_int q8c) kD (by have := B.out; omega)
    have hoD := hoC.wrote e8c kD
    clear kD hpC6 l8c e8c q8c p8C p7C p9C hoC l15C
    have x9 := lexh _ gD.kp
    have wD := gD.wf w
    repeat' (first | refine WO.nil ?_ | (refine WO.iaddrE ?_; simp only [setDst, V.ev, Nat.reduceEqDiff, Nat.reduceLT, getD_ne, getD_eq, List.length_set, *]; refine ⟨_, rfl, ?_⟩) | (refine WO.op1s ?_; simp only [opK, wanted, stepK, step, setDst, pureV, arith, intBin, Val.cells, fill, splice, List.take_zero, List.drop_succ_cons, List.nil_append, List.cons_append, List.length_cons, List.length_nil, List.drop_nil, true_and, and_self, Nat.le_refl, V.ev, Nat.reduceEqDiff, Nat.reduceLT, Nat.zero_add, Bool.false_eq_true, getD_ne, getD_eq, List.length_set, if_true, if_false, reduceCtorEq, *]; with_reducible show WO _ _ _ _ _) | refine WE.region ?_)
    (refine WO.op1 ?_; simp only [opK, wanted, setDst, *])
    refine stepK_one w gD (cs := [.int .u64 (1 + v)]) (by (simp only [V.ev, Nat.reduceLT, getD_eq, List.length_set, *]; try rfl)) (by rfl) (by rfl) fun v5 hE gE qE sE => ?_
    have hoE := hoD.keep qE
    skip
    (refine WO.op1 ?_; simp only [opK, wanted, setDst, *])
    refine stepK_appU w gE (v := u) (s := v5) (by (simp only [V.ev, Nat.reduceEqDiff, Nat.reduceLT, getD_ne, getD_eq, List.length_set, *]; try rfl)) (by (simp only [V.ev, Nat.reduceLT, getD_eq, List.length_set, *]; try rfl)) hoE sE (by have := hpl.out; have := hi'.out; omega) fun v6 hF gF hoF pF cF uF nF nnF => ?_
    rw [← hp1.out] at hoF
    have pin : ∀ (b : Nat) (rs : PinL) (zs : List Int), PinS hD b rs zs → PinS hF b rs zs := fun b rs zs q => by
      obtain ⟨s', e1, e2, e3⟩ := q.keep qE
      exact ⟨s', cF _ _ _ e1, pF _ _ e2, e3⟩
    have p7F := pin _ _ _ p7D
    have p8F := pin _ _ _ p8D
    have p9F := pin _ _ _ p9D
    clear pin pF cF uF nF nnF hoE sE qE p7D p8D p9D hoD x9
    repeat' (first | refine WO.nil ?_ | (refine WO.op1s ?_; simp only [opK, wanted, stepK, step, setDst, pureV, arith, intBin, true_and, V.ev, Nat.reduceEqDiff, Nat.reduceLT, getD_ne, getD_eq, List.length_set, if_true, *]; with_reducible show WO _ _ _ _ _) | refine WE.region ?_)
    exact ⟨k - 1, by have := hk.out; have := hi'.out; omega, gF, i + 1, v6, ps2, qs2, ⟨by have := hk.out; have := hi'.out; omega⟩, by simp only [List.length_set, hl], by (simp only [getD_ne, reduceCtorEq, *]; try rfl), by (simp only [Nat.reduceEqDiff, getD_ne, *]; try rfl), by (simp only [Nat.reduceEqDiff, getD_ne, *]; try rfl), by (simp only [Nat.reduceEqDiff, getD_ne, *]; try rfl), by (simp only [Nat.reduceEqDiff, getD_ne, *]; try rfl), by (simp only [Nat.reduceEqDiff, getD_ne, *]; try rfl), by (simp only [Nat.reduceEqDiff, Nat.reduceLT, getD_ne, getD_eq, List.length_set, *]; try rfl), by (simp only [Nat.reduceEqDiff, getD_ne, *]; try rfl), by (simp only [Nat.reduceLT, getD_eq, List.length_set, *]; try rfl), hoF, p7F, p8F, p9F⟩
  ·
    have hd : decide ((i : Int) < (ls.length : Int)) = false := decide_eq_false (by omega)
    have hil : i = ls.length := by have := hk.out; omega
    subst hil
    have hlx := ho.us
    have hN : ∀ b o n c l, u = .slice b o n c l → b < hc.next := by
      intro b o n c l e
      rcases ho with ⟨rfl, _⟩ | ⟨b', n', ls', e', _, _, hg', _⟩
      · cases e
      · rw [e] at e'; cases e'; exact lt_of_get wc hg'
    replace hN := Hid.mk hN
    obtain ⟨x, hxu0⟩ : ∃ x, x = u := ⟨_, rfl⟩
    subst hxu0
    repeat' (first | refine WE.assoc ?_ | refine WE.seqR ?_ | refine WO.nil ?_ | (refine WO.lenOfE ?_; simp only [setDst, V.ev, Nat.reduceLT, getD_eq, List.length_set, *]; refine ⟨_, rfl, ?_⟩) | (refine WO.op1s ?_; simp only [opK, wanted, stepK, step, setDst, pureV, arith, intBin, true_and, V.ev, Nat.reduceEqDiff, Nat.reduceLT, getD_ne, getD_eq, List.length_set, if_true, reduceCtorEq, *]; with_reducible show WO _ _ _ _ _) | refine WE.seqExit ?_ | (refine WE.seqCond (t := false) ?hc (fun hh => Bool.noConfusion hh) (fun _ => ?_); case hc => simp only [V.ev, Nat.reduceLT, getD_eq, List.length_set, *]) | refine WE.seqBlock ?_)
    refine WE.loop (AnB h b7 b8 b9 l m x ls ms bb.toNat hc.next ps qs) ?_ ms.length _ _ ⟨gg, 0, .nils, [], ⟨by omega⟩, by simp only [List.length_set, hl], by (simp only [Nat.reduceEqDiff, getD_ne, *]; try rfl), by (simp only [Nat.reduceEqDiff, getD_ne, *]; try rfl), by (simp only [Nat.reduceEqDiff, getD_ne, *]; try rfl), by (simp only [Nat.reduceEqDiff, getD_ne, *]; try rfl), by (simp only [Nat.reduceEqDiff, getD_ne, *]; try rfl), by (simp only [Nat.reduceEqDiff, getD_ne, *]; try rfl), by (simp only [Nat.reduceLT, Int.cast_ofNat_Int, getD_eq, List.length_set, *]; try rfl), .inl ⟨rfl, rfl⟩, ⟨⟨hN.out, fun b o n c l e => (by cases e), Nat.le_refl _⟩⟩, hlx, p7, p8, p9⟩
    have hperm : ∀ r, cnt (rot ls bb.toNat ls.length) r = cnt (plus1 ls ls.length) r := by
      intro r
      rcases Nat.eq_zero_or_pos ls.length with z | z
      · have : ls = [] := List.eq_nil_of_length_eq_zero z
        subst this; rfl
      · have := cnt_perm (rot_perm ls bb.toNat z) r
        rw [this]; unfold plus1; rw [List.take_length]
    generalize hcn : hc.next = N at *
    clear gg wc ho p7 p8 p9 hlx hN f0 f1 f2 f7 f8 f9 f10 f11 f12 hl hk hi hd hcn hll
    rintro k fr hc ⟨gg, i, u, rs, hk, hl, f1, f7, f8, f9, f10, f11, f17, ho, hN, hxu, p7, p8, p9⟩
    have wc := gg.wf w
    by_cases hi : i < ms.length
    ·
      have hd : decide ((i : Int) < (ms.length : Int)) = true := decide_eq_true (by omega)
      have wn : IntKind.i64.wrap ((i : Int) + 1) = ((i + 1 : Nat) : Int) := wrap_add (b := 1) (by omega)
      obtain ⟨bx, ox, hex, lexh⟩ := l8_load hM hi (Keep.refl h)
      have lex := fun h2 (g : Keep hc h2) => lexh h2 (gg.kp.trans g)
      have hv := hM.2 _ (List.getElem_mem hi)
      obtain ⟨a1, a2⟩ := u64w hv
      have hp1 := plus1_succ hi
      have hpl := plus1_len (ls := ms) (i := i) (by omega)
      have x0 := lex _ (Keep.refl _)
      obtain ⟨s9, l9, e9, q9⟩ := p9.load
      have k9 : ∀ h1, Wf h1 → Keep hc h1 → WC E09 21 [.agg [s9, .int .i64 ((plus1 ms i).length : Nat)], .int .u64 (1 + ms[i])] h1 fun v h' => Grow h1 h' ∧ PGood h' v (plus1 ms (i + 1)) := fun h1 w1 kk => by
        rw [hp1]
        have := List.countP_le_length (p := (· == 1 + ms[i])) (l := plus1 ms i)
        exact pinS_ok w1 (kk.ps q9) p9.pn (by omega) (by unfold cnt; omega) (fun _ => by have := p9.pn.short; omega) (by omega)
      have hi' := Hid.mk hi
      replace k9 := Hid.mk k9
      replace hp1 := Hid.mk hp1
      generalize ms[i] = v at *
      replace hpl := Hid.mk hpl
      clear hi
      repeat' (first | refine WE.assoc ?_ | refine WE.seqR ?_ | refine WO.nil ?_ | refine WE.seqD ?_ | (refine WO.lenOfE ?_; simp only [setDst, V.ev, Nat.reduceLT, getD_eq, List.length_set, *]; refine ⟨_, rfl, ?_⟩) | (refine WO.op1s ?_; simp only [opK, wanted, stepK, step, setDst, pureV, arith, intBin, true_and, V.ev, Nat.reduceEqDiff, Nat.reduceLT, getD_ne, getD_eq, List.length_set, if_true, *]; with_reducible show WO _ _ _ _ _) | (refine WD.iaddrE ?_; simp only [setDst, List.nil_append, List.cons_append, V.ev, Nat.reduceEqDiff, Nat.reduceLT, getD_ne, getD_eq, List.length_set, *]; refine ⟨_, rfl, ?_⟩) | (refine WD.op2s ?_; simp only [opV, VOp.kind, hiddenOf, unveil_veil, veil_next, below_nil, below_cons, or_false, or_self, wanted, stepK, step, setDst, pureV, arith, intBin, evs, List.nil_append, List.cons_append, true_and, List.getD_cons_zero, V.ev, Nat.reduceEqDiff, Nat.reduceLT, Nat.reduceLeDiff, Bool.false_eq_true, getD_ne, getD_eq, List.length_set, if_true, if_false, reduceCtorEq, *]; with_reducible show WD _ _ _ _ _ _) | refine WE.seqSkip ?_ | (refine WE.seqCond (t := true) ?hc (fun _ => ?_) (fun hh => Bool.noConfusion hh); case hc => simp only [V.ev, Nat.reduceLT, getD_eq, List.length_set, *]) | refine WE.seqBlock ?_)
      refine WD.callH (h0 := hc) wc (Grow.refl _) (fun v h => PGood h v (plus1 ms (i + 1))) (fun v h h' k e => k.pgood e) trivial (fun h1 w1 k1 => by (simp only [evs, V.ev, Nat.reduceEqDiff, Nat.reduceLT, getD_ne, getD_eq, List.length_set, *]); exact k9.out h1 w1 k1) ?_
      rintro _ h5 g5 n5 ⟨s5, rs2, rfl, hp5, hn5⟩
      simp only [setDst, List.nil_append, List.cons_append]
      have w5 := g5.wf wc
      repeat' (first | (refine WD.op2s ?_; simp only [opV, VOp.kind, hiddenOf, unveil_veil, veil_next, or_false, wanted, stepK, step, setDst, List.nil_append, List.cons_append, true_and, Nat.le_refl, List.getElem?_cons_zero, List.getElem?_cons_succ, List.getD_cons_zero, List.getD_cons_succ, V.ev, Nat.reduceEqDiff, Nat.reduceLT, Nat.reduceLeDiff, Bool.false_eq_true, getD_ne, getD_eq, List.length_set, if_true, reduceCtorEq, *]; with_reducible show WD _ _ _ _ _ _))
      (refine WD.op2 ?_; simp only [opV, VOp.kind, hiddenOf, wanted, setDst, true_or, List.nil_append, List.cons_append, Nat.reduceEqDiff, Nat.reduceLeDiff, Bool.false_eq_true, if_true, *])
      refine stepK_alloc w5 fun b18 h6 g6 hb18 hg18 hn18 => ?_
      have hp6 := g6.ps hp5
      have hso := ps_one hp6
      skip
      (refine WD.op2 ?_; simp only [opV, VOp.kind, hiddenOf, wanted, setDst, or_true, List.nil_append, List.cons_append, Nat.reduceEqDiff, Nat.reduceLeDiff, if_true, *])
      refine stepK_store (b := b18) (o := 0) (us := [s5, .int .i64 ((plus1 ms (i + 1)).length : Nat)]) (by (simp only [V.ev, Nat.reduceLT, getD_eq, List.length_set, *]; try rfl)) (by (simp only [V.ev, Nat.reduceEqDiff, Nat.reduceLT, getD_ne, getD_eq, List.length_set, *]; try rfl)) (by rfl) hg18 (by rw [g6.floor]; exact Nat.le_trans w5.fl hb18) (by simp) (one2 hso.2 _ _) fun hB kA => ?_
      have gB : Grow hc hB := g5.trans (g6.wrote hb18 w5 kA)
      have hpB5 := ps_wrote2 hp6 hg18 rfl kA
      have l18 : hB.load b18 0 2 = some [s5, .int .i64 ((plus1 ms (i + 1)).length : Nat)] := load_get kA.at_ (by simp [splice])
      have wB' := gB.wf wc
      have flB : hB.floor = h.floor := (gg.trans gB).floor
      have e9B := gB.keep _ _ e9
      have p7B := p7.keep gB.kp
      have p8B := p8.keep gB.kp
      have hoB := ho.keep gB.kp
      have hxB := gB.us hxu
      clear kA hg18 hp6 hp5 g6 hn18 x0 l9
      repeat' (first | refine WE.assoc ?_ | refine WE.seqR ?_ | refine WO.nil ?_ | refine WD.nil2 ?_ | (refine WO.op1s ?_; simp only [opK, wanted, stepK, step, setDst, eqVal, eqAt, eqv, Val.isAgg, Val.cells, List.length_cons, List.length_nil, true_and, and_self, Bool.and_true, List.getElem?_cons_zero, V.ev, Nat.reduceEqDiff, Nat.reduceLT, Nat.reduceAdd, Nat.zero_add, beq_self_eq_true, getD_ne, getD_eq, List.length_set, if_true, Bool.not_true, *]; with_reducible show WO _ _ _ _ _) | (refine WD.op2s ?_; simp only [opV, VOp.kind, hiddenOf, unveil_veil, veil_next, or_self, wanted, stepK, step, setDst, List.nil_append, List.cons_append, true_and, V.ev, Nat.reduceEqDiff, Nat.reduceLT, Nat.reduceLeDiff, getD_ne, getD_eq, List.length_set, if_true, reduceCtorEq, *]; with_reducible show WD _ _ _ _ _ _) | refine WE.seqSkip ?_ | (refine WE.seqCond (t := false) ?hc (fun hh => Bool.noConfusion hh) (fun _ => ?_); case hc => simp only [V.ev, Nat.reduceLT, getD_eq, List.length_set, *]))
      (refine WO.op1 ?_; simp only [opK, wanted, setDst, *])
      refine stepK_store (b := b9) (o := 0) (us := [s5, .int .i64 ((plus1 ms (i + 1)).length : Nat)]) (by (simp only [V.ev, Nat.reduceEqDiff, getD_ne, *]; try rfl)) (by (simp only [V.ev, Nat.reduceLT, getD_eq, List.length_set, *]; try rfl)) (by rfl) e9B (by rw [flB]; have := w.fl; have := B.out.2.2.1; omega) (by simp) (one2 hso.2 _ _) fun hD kD => ?_
      have gD := (gg.trans gB).wrote B.out.2.2.1 w kD
      have p9D : PinS hD b9 rs2 (plus1 ms (i + 1)) := ⟨s5, kD.at_, ps_wrote2 hpB5 e9B (ps_int q9) kD, hn5⟩
      have p7D := p7B.wrote e9B (ps_int q9) kD (by have := B.out; omega)
      have p8D := p8B.wrote e9B (ps_int q9) kD (by have := B.out; omega)
      have hoD := hoB.wrote e9B kD
      have hxD := us_wrote hxB e9B (ps_int q9) kD
      have nD : N ≤ hD.next := by rw [kD.next]; have := hN.out.2.2; have := gB.next; omega
      clear kD l18 hpB5 p7B p8B hoB hxB e9B
      have x9 := lexh _ gD.kp
      have wD := gD.wf w
      repeat' (first | refine WO.nil ?_ | (refine WO.iaddrE ?_; simp only [setDst, V.ev, Nat.reduceEqDiff, Nat.reduceLT, getD_ne, getD_eq, List.length_set, *]; refine ⟨_, rfl, ?_⟩) | (refine WO.op1s ?_; simp only [opK, wanted, stepK, step, setDst, pureV, arith, intBin, Val.cells, fill, splice, List.take_zero, List.drop_succ_cons, List.nil_append, List.cons_append, List.length_cons, List.length_nil, List.drop_nil, true_and, and_self, Nat.le_refl, V.ev, Nat.reduceEqDiff, Nat.reduceLT, Nat.zero_add, Bool.false_eq_true, getD_ne, getD_eq, List.length_set, if_true, if_false, *]; with_reducible show WO _ _ _ _ _) | refine WE.region ?_)
      (refine WO.op1 ?_; simp only [opK, wanted, setDst, *])
      refine stepK_oneN w gD (cs := [.int .u64 (1 + v)]) (by (simp only [V.ev, Nat.reduceLT, getD_eq, List.length_set, *]; try rfl)) (by rfl) (by rfl) fun v5 hE gE qE sE nqE => ?_
      have hoE := hoD.keep qE
      have hxE := qE.us hxD
      have nE : N ≤ hE.next := Nat.le_trans nD nqE
      skip
      (refine WO.op1 ?_; simp only [opK, wanted, setDst, *])
      refine stepK_appU w gE (v := u) (s := v5) (by (simp only [V.ev, Nat.reduceEqDiff, Nat.reduceLT, getD_ne, getD_eq, List.length_set, *]; try rfl)) (by (simp only [V.ev, Nat.reduceLT, getD_eq, List.length_set, *]; try rfl)) hoE sE (by have := hpl.out; have := hi'.out; omega) fun v6 hF gF hoF pF cF uF nF nnF => ?_
      rw [← hp1.out] at hoF
      have pin : ∀ (b : Nat) (rs : PinL) (zs : List Int), PinS hD b rs zs → PinS hF b rs zs := fun b rs zs q => by
        obtain ⟨s', e1, e2, e3⟩ := q.keep qE
        exact ⟨s', cF _ _ _ e1, pF _ _ e2, e3⟩
      have p7F := pin _ _ _ p7D
      have p8F := pin _ _ _ p8D
      have p9F := pin _ _ _ p9D
      have hxF := uF _ _ hxE (fun b o n c l o2 n2 c2 l2 e1 e2 => by have := hN.out.1 _ _ _ _ _ e1; have := hN.out.2.1 _ _ _ _ _ e2; omega)
      have hN2 : (∀ b o n c l, x = .slice b o n c l → b < N) ∧ (∀ b o n c l, v6 = .slice b o n c l → N ≤ b) ∧ N ≤ hF.next := ⟨hN.out.1, fun b o n c l e => by have := nF _ _ _ _ _ e; omega, by omega⟩
      clear pin pF cF uF nF nnF hoE sE qE p7D p8D p9D hoD x9 hxD hxE nE nD
      repeat' (first | refine WO.nil ?_ | (refine WO.op1s ?_; simp only [opK, wanted, stepK, step, setDst, pureV, arith, intBin, true_and, V.ev, Nat.reduceEqDiff, Nat.reduceLT, getD_ne, getD_eq, List.length_set, if_true, *]; with_reducible show WO _ _ _ _ _) | refine WE.region ?_)
      exact ⟨k - 1, by have := hk.out; have := hi'.out; omega, gF, i + 1, v6, rs2, ⟨by have := hk.out; have := hi'.out; omega⟩, by simp only [List.length_set, hl], by (simp only [Nat.reduceEqDiff, getD_ne, *]; try rfl), by (simp only [Nat.reduceEqDiff, getD_ne, *]; try rfl), by (simp only [Nat.reduceEqDiff, getD_ne, *]; try rfl), by (simp only [Nat.reduceEqDiff, getD_ne, *]; try rfl), by (simp only [Nat.reduceEqDiff, getD_ne, *]; try rfl), by (simp only [Nat.reduceEqDiff, Nat.reduceLT, getD_ne, getD_eq, List.length_set, *]; try rfl), by (simp only [Nat.reduceLT, getD_eq, List.length_set, *]; try rfl), hoF, ⟨hN2⟩, hxF, p7F, p8F, p9F⟩
    · have hd : decide ((i : Int) < (ms.length : Int)) = false := decide_eq_false (by omega)
      have hil : i = ms.length := by have := hk.out; omega
      subst hil
      have hyu := ho.us
      have hpl1 := plus1_len (ls := ls) (i := ls.length) (Nat.le_refl _)
      have hpl2 := plus1_len (ls := ms) (i := ms.length) (Nat.le_refl _)
      generalize plus1 ls ls.length = xs at *
      generalize plus1 ms ms.length = ys at *
      have hxl : xs.length ≤ 100000 := by omega
      have hyl : ys.length ≤ 100000 := by omega
      have hlx := hxu.lenI
      have hly := hyu.lenI
      obtain ⟨tt0, htt0⟩ : ∃ tt0, ((xs.length : Int) == (ys.length : Int)) = tt0 := ⟨_, rfl⟩
      have hst : tt0 = true ↔ (xs.length = ys.length ∧ ∀ z ∈ xs.take 0, cnt xs z = cnt ys z) := by
        rw [← htt0]; simp; omega
      replace hst := Hid.mk hst
      replace hpl1 := Hid.mk hpl1
      replace hpl2 := Hid.mk hpl2
      clear ho
      repeat' (first | refine WE.assoc ?_ | refine WE.seqR ?_ | refine WO.nil ?_ | (refine WO.lenOfE ?_; simp only [setDst, V.ev, Nat.reduceLT, getD_eq, List.length_set, *]; refine ⟨_, rfl, ?_⟩) | (refine WO.op1s ?_; simp only [opK, wanted, stepK, step, setDst, pureV, arith, intBin, eqVal, eqAt, eqv, Val.isAgg, Val.cells, true_and, and_self, Bool.and_true, List.getElem?_cons_zero, V.ev, Nat.reduceEqDiff, Nat.reduceLT, Bool.false_eq_true, getD_ne, getD_eq, List.length_set, if_true, if_false, *]; with_reducible show WO _ _ _ _ _) | refine WE.seqExit ?_ | (refine WE.seqCond (t := false) ?hc (fun hh => Bool.noConfusion hh) (fun _ => ?_); case hc => simp only [V.ev, Nat.reduceLT, getD_eq, List.length_set, *]) | refine WE.seqBlock ?_)
      refine WE.loop (AnC h b7 b8 b9 x u xs ys (rot ls bb.toNat ls.length) ps qs rs) ?_ xs.length _ _ ⟨gg, 0, tt0, ⟨by omega, hst.out⟩, by simp only [List.length_set, hl], by (simp only [Nat.reduceEqDiff, getD_ne, *]; try rfl), by (simp only [Nat.reduceEqDiff, getD_ne, *]; try rfl), by (simp only [Nat.reduceEqDiff, getD_ne, *]; try rfl), by (simp only [Nat.reduceEqDiff, getD_ne, *]; try rfl), by (simp only [Nat.reduceEqDiff, getD_ne, *]; try rfl), by (simp only [Nat.reduceEqDiff, Nat.reduceLT, getD_ne, getD_eq, List.length_set, *]; try rfl), by (simp only [Nat.reduceLT, Int.cast_ofNat_Int, getD_eq, List.length_set, *]; try rfl), hxu, hyu, p7, p8, p9⟩
      clear gg wc p7 p8 p9 hxu hyu f1 hml f7 f8 f9 f10 f11 f17 hl hk hi hd hN htt0 hst
      rintro k fr hc ⟨gg, i, tt, hk, hl, f7, f8, f9, f10, f11, f20, f21, hxu, hyu, p7, p8, p9⟩
      have wc := gg.wf w
      by_cases hi : i < xs.length
      ·
        have hd : decide ((i : Int) < (xs.length : Int)) = true := decide_eq_true (by omega)
        have wn : IntKind.i64.wrap ((i : Int) + 1) = ((i + 1 : Nat) : Int) := wrap_add (b := 1) (by omega)
        have htk := List.take_succ_eq_append_getElem hi
        have hiff : ∀ p : Bool, (p = true ↔ cnt xs xs[i] = cnt ys xs[i]) → ((tt && p) = true ↔ (xs.length = ys.length ∧ ∀ z ∈ xs.take (i + 1), cnt xs z = cnt ys z)) := by
          intro p hp
          rw [Bool.and_eq_true, hk.out.2, hp, htk]
          constructor
          · rintro ⟨⟨a1, a2⟩, a3⟩
            refine ⟨a1, fun z hz => ?_⟩
            rcases List.mem_append.1 hz with q | q
            · exact a2 z q
            · rw [List.mem_singleton] at q; subst q; exact a3
          · rintro ⟨a1, a2⟩
            exact ⟨⟨a1, fun z hz => a2 z (List.mem_append_left _ hz)⟩, a2 _ (List.mem_append_right _ (by simp))⟩
        have hi' := Hid.mk hi
        cases tt with
        | false =>
          have hf := hiff false
          have hbase : ((false = true) ↔ (xs.length = ys.length ∧ ∀ z ∈ xs.take (i + 1), cnt xs z = cnt ys z)) := by
            refine ⟨fun q => (by cases q), fun q => ?_⟩
            exact hk.out.2.2 ⟨q.1, fun z hz => q.2 z (by rw [htk]; exact List.mem_append_left _ hz)⟩
          replace hbase := Hid.mk hbase
          clear hf hiff htk
          repeat' (first | refine WE.assoc ?_ | refine WE.seqR ?_ | refine WO.nil ?_ | refine WE.draw ?_ | refine WD.nil2 ?_ | (refine WO.lenOfE ?_; simp only [setDst, V.ev, Nat.reduceLT, getD_eq, List.length_set, *]; refine ⟨_, rfl, ?_⟩) | (refine WO.op1s ?_; simp only [opK, wanted, stepK, step, setDst, pureV, arith, intBin, true_and, V.ev, Nat.reduceEqDiff, Nat.reduceLT, getD_ne, getD_eq, List.length_set, if_true, *]; with_reducible show WO _ _ _ _ _) | (refine WD.op2s ?_; simp only [opV, VOp.kind, hiddenOf, unveil_veil, veil_next, or_self, wanted, stepK, step, setDst, List.nil_append, List.cons_append, true_and, V.ev, Nat.reduceEqDiff, Nat.reduceLT, Nat.reduceLeDiff, getD_ne, getD_eq, List.length_set, if_true, reduceCtorEq, Bool.false_beq, Bool.not_true, *]; with_reducible show WD _ _ _ _ _ _) | refine WE.seqSkip ?_ | (refine WE.seqCond (t := true) ?hc (fun _ => ?_) (fun hh => Bool.noConfusion hh); case hc => simp only [V.ev, Nat.reduceLT, getD_eq, List.length_set, *]) | refine WE.region ?_ | refine WE.seqBlock ?_)
          exact ⟨k - 1, by have := hk.out.1; have := hi'.out; omega, gg, i + 1, false, ⟨by have := hk.out.1; have := hi'.out; omega, hbase.out⟩, by simp only [List.length_set, hl], by (simp only [Nat.reduceEqDiff, getD_ne, *]; try rfl), by (simp only [Nat.reduceEqDiff, getD_ne, *]; try rfl), by (simp only [Nat.reduceEqDiff, getD_ne, *]; try rfl), by (simp only [Nat.reduceEqDiff, getD_ne, *]; try rfl), by (simp only [Nat.reduceEqDiff, getD_ne, *]; try rfl), by (simp only [Nat.reduceEqDiff, Nat.reduceLT, getD_ne, getD_eq, List.length_set, *]; try rfl), by (simp only [Nat.reduceLT, getD_eq, List.length_set, *]; try rfl), hxu, hyu, p7, p8, p9⟩
        | true =>
          obtain ⟨bx, ox, hex, lex⟩ := us_load hxu hi (Keep.refl _)
          have x0 := lex _ (Keep.refl _)
          generalize xs[i] = z at *
          replace hiff := Hid.mk hiff
          replace htk := Hid.mk htk
          clear hi
          repeat' (first | refine WE.assoc ?_ | refine WE.seqR ?_ | refine WO.nil ?_ | refine WE.draw ?_ | (refine WO.lenOfE ?_; simp only [setDst, V.ev, Nat.reduceLT, getD_eq, List.length_set, *]; refine ⟨_, rfl, ?_⟩) | (refine WO.op1s ?_; simp only [opK, wanted, stepK, step, setDst, pureV, arith, intBin, true_and, V.ev, Nat.reduceEqDiff, Nat.reduceLT, getD_ne, getD_eq, List.length_set, if_true, *]; with_reducible show WO _ _ _ _ _) | (refine WD.iaddrE ?_; simp only [setDst, List.nil_append, List.cons_append, V.ev, Nat.reduceEqDiff, Nat.reduceLT, getD_ne, getD_eq, List.length_set, *]; refine ⟨_, rfl, ?_⟩) | (refine WD.op2s ?_; simp only [opV, VOp.kind, hiddenOf, unveil_veil, veil_next, below_nil, or_false, or_self, wanted, stepK, step, setDst, evs, List.nil_append, List.cons_append, true_and, V.ev, Nat.reduceEqDiff, Nat.reduceLT, Nat.reduceLeDiff, Bool.false_eq_true, beq_self_eq_true, getD_ne, getD_eq, List.length_set, if_true, if_false, reduceCtorEq, *]; with_reducible show WD _ _ _ _ _ _) | refine WE.seqSkip ?_ | (refine WE.seqCond (t := true) ?hc (fun _ => ?_) (fun hh => Bool.noConfusion hh); case hc => simp only [V.ev, Nat.reduceLT, getD_eq, List.length_set, *]) | (refine WD.known ?hc ?_; case hc => (simp only [wanted, Bool.true_beq, Nat.reduceEqDiff, Nat.reduceLT, getD_ne, getD_eq, List.length_set, *])) | refine WE.seqBlock ?_)
          refine WD.callG (h0 := hc) wc (Grow.refl _) (fun v => v = .int .i64 (cnt xs z : Int)) trivial (fun h1 w1 k1 => by (simp only [evs, V.ev, Nat.reduceEqDiff, Nat.reduceLT, getD_ne, getD_eq, List.length_set, *]); exact count_okG (k1.us hxu) hxl) ?_
          rintro _ h5 g5 n5 rfl
          simp only [setDst, List.nil_append, List.cons_append]
          have late : Late hc h5 [(hc.next, hc.next), (hc.next, h5.next)] := ⟨.inl (Nat.le_refl _), .inr ⟨Nat.le_refl _, Nat.le_refl _⟩, trivial⟩
          have y6 := lex _ (veil_keep wc g5 late)
          repeat' (first | (refine WD.iaddrE ?_; simp only [setDst, List.nil_append, List.cons_append, V.ev, Nat.reduceEqDiff, Nat.reduceLT, getD_ne, getD_eq, List.length_set, *]; refine ⟨_, rfl, ?_⟩) | (refine WD.op2s ?_; simp only [opV, VOp.kind, hiddenOf, unveil_veil, veil_next, or_true, or_false, or_self, wanted, stepK, step, setDst, evs, List.nil_append, List.cons_append, true_and, List.getD_cons_zero, List.getD_cons_succ, V.ev, Nat.reduceEqDiff, Nat.reduceLT, Nat.reduceLeDiff, Bool.false_eq_true, beq_self_eq_true, getD_ne, getD_eq, List.length_set, if_true, if_false, reduceCtorEq, *]; with_reducible show WD _ _ _ _ _ _) | (refine WD.known ?hc ?_; case hc => (simp only [wanted, Bool.true_beq, Nat.reduceEqDiff, Nat.reduceLT, getD_ne, getD_eq, List.length_set, *])))
          refine WD.callG (h0 := hc) wc g5 (fun v => v = .int .i64 (cnt ys z : Int)) trivial (fun h1 w1 k1 => by (simp only [evs, V.ev, Nat.reduceEqDiff, Nat.reduceLT, getD_ne, getD_eq, List.length_set, *]); exact count_okG (k1.us hyu) hyl) ?_
          rintro _ h6 g6 n6 rfl
          simp only [setDst, List.nil_append, List.cons_append]
          have hres := hiff.out ((cnt xs z : Int) == (cnt ys z : Int)) (by simp; omega)
          rw [Bool.true_and] at hres
          obtain ⟨pb, hpb⟩ : ∃ pb, ((cnt xs z : Int) == (cnt ys z : Int)) = pb := ⟨_, rfl⟩
          rw [hpb] at hres
          replace hres := Hid.mk hres
          have gY := gg.trans g6
          have p7' := p7.keep g6.kp
          have p8' := p8.keep g6.kp
          have p9' := p9.keep g6.kp
          have hx' := g6.us hxu
          have hy' := g6.us hyu
          clear x0 y6 late lex n5 n6
          repeat' (first | refine WO.nil ?_ | refine WD.nil2 ?_ | (refine WO.op1s ?_; simp only [opK, wanted, stepK, step, setDst, pureV, arith, intBin, true_and, V.ev, Nat.reduceEqDiff, Nat.reduceLT, getD_ne, getD_eq, List.length_set, if_true, *]; with_reducible show WO _ _ _ _ _) | (refine WD.op2s ?_; simp only [opV, VOp.kind, hiddenOf, unveil_veil, veil_next, or_self, wanted, stepK, step, setDst, eqVal, eqAt, eqv, Val.isAgg, Val.cells, List.nil_append, List.cons_append, true_and, and_self, Bool.and_true, List.getElem?_cons_zero, V.ev, Nat.reduceEqDiff, Nat.reduceLT, Nat.reduceLeDiff, Bool.false_eq_true, beq_self_eq_true, getD_ne, getD_eq, List.length_set, if_true, if_false, reduceCtorEq, *]; with_reducible show WD _ _ _ _ _ _) | refine WE.region ?_)
          exact ⟨k - 1, by have := hk.out.1; have := hi'.out; omega, gY, i + 1, pb, ⟨by have := hk.out.1; have := hi'.out; omega, hres.out⟩, by simp only [List.length_set, hl], by (simp only [Nat.reduceEqDiff, getD_ne, *]; try rfl), by (simp only [Nat.reduceEqDiff, getD_ne, *]; try rfl), by (simp only [Nat.reduceEqDiff, getD_ne, *]; try rfl), by (simp only [Nat.reduceEqDiff, getD_ne, *]; try rfl), by (simp only [Nat.reduceEqDiff, getD_ne, *]; try rfl), by (simp only [Nat.reduceEqDiff, Nat.reduceLT, getD_ne, getD_eq, List.length_set, *]; try rfl), by (simp only [Nat.reduceLT, getD_eq, List.length_set, *]; try rfl), hx', hy', p7', p8', p9'⟩
      ·
        have hd : decide ((i : Int) < (xs.length : Int)) = false := decide_eq_false (by omega)
        have hil : i = xs.length := by have := hk.out.1; omega
        have hfin := hk.out.2
        rw [hil, List.take_length] at hfin
        have hsame : decide (ps = rs) = tt := by
          have := same_iff p7.pn p9.pn
          rw [← hfin] at this
          cases tt <;> simp_all
        have hsame2 : decide (rs = ps) = tt := by rw [← hsame]; exact decide_eq_decide.2 ⟨Eq.symm, Eq.symm⟩
        have hpq : decide (ps = qs) = true := decide_eq_true (p7.pn.ext p8.pn fun r => (hperm r).symm)
        obtain ⟨s7, l7, e7, q7⟩ := p7.load
        obtain ⟨s8, l8, e8, q8⟩ := p8.load
        obtain ⟨s9, l9, e9, q9⟩ := p9.load
        have n7 : ps.length ≤ 100000 := by have := p7.pn.len; omega
        have n8 : qs.length ≤ 100000 := by have := p8.pn.len; omega
        have n9 : rs.length ≤ 100000 := by have := p9.pn.len; omega
        have htt : (tt == tt) = true := by cases tt <;> rfl
        have l7' : ∀ h', Grow hc h' → h'.load b7 0 2 = some [s7, .int .i64 (xs.length : Nat)] := fun h' g => g.part e7 (by simp)
        have l9' : ∀ h', Grow hc h' → h'.load b9 0 2 = some [s9, .int .i64 (ys.length : Nat)] := fun h' g => g.part e9 (by simp)
        replace hfin := Hid.mk hfin
        replace hil := Hid.mk hil
        replace hsame := Hid.mk hsame
        replace hsame2 := Hid.mk hsame2
        replace hpq := Hid.mk hpq
        replace e7 := Hid.mk e7
        replace e8 := Hid.mk e8
        replace e9 := Hid.mk e9
        repeat' (first | refine WE.assoc ?_ | refine WE.seqR ?_ | refine WO.nil ?_ | (refine WO.lenOfE ?_; simp only [setDst, V.ev, Nat.reduceLT, getD_eq, List.length_set, *]; refine ⟨_, rfl, ?_⟩) | (refine WO.op1s ?_; simp only [opK, wanted, stepK, step, setDst, pureV, arith, intBin, evs, true_and, V.ev, Nat.reduceEqDiff, Nat.reduceLT, getD_ne, getD_eq, List.length_set, if_true, *]; with_reducible show WO _ _ _ _ _) | refine WE.seqExit ?_ | (refine WE.seqCond (t := false) ?hc (fun hh => Bool.noConfusion hh) (fun _ => ?_); case hc => simp only [V.ev, Nat.reduceLT, getD_eq, List.length_set, *]))
        refine WO.callG (h0 := hc) wc (Grow.refl _) (fun v => v = .bool true) rfl (fun h1 w1 k1 => by (simp only [evs, V.ev, Nat.reduceEqDiff, Nat.reduceLT, getD_ne, getD_eq, List.length_set, *]); exact (psame_ok w1 (k1.ps q7) (k1.ps q8) n7 n8).mono fun v h' e => ⟨e.1, by rw [e.2, hpq.out]⟩) ?_
        rintro _ hA gA rfl
        simp only [setDst]
        have l7A := l7' _ gA
        have l9A := l9' _ gA
        repeat' (first | (refine WO.op1s ?_; simp only [opK, wanted, stepK, step, setDst, evs, true_and, V.ev, Nat.reduceEqDiff, Nat.reduceLT, beq_self_eq_true, getD_ne, getD_eq, List.length_set, if_true, *]; with_reducible show WO _ _ _ _ _) | (refine WO.known ?hc ?_; case hc => (simp only [wanted, Bool.true_beq, Nat.reduceEqDiff, Nat.reduceLT, getD_ne, getD_eq, List.length_set, *])))
        refine WO.callG (h0 := hc) wc gA (fun v => v = .bool tt) rfl (fun h1 w1 k1 => by (simp only [evs, V.ev, Nat.reduceEqDiff, Nat.reduceLT, getD_ne, getD_eq, List.length_set, *]); exact (psame_ok w1 (k1.ps q7) (k1.ps q9) n7 n9).mono fun v h' e => ⟨e.1, by rw [e.2, hsame.out]⟩) ?_
        rintro _ hB gB rfl
        simp only [setDst]
        have l7B := l7' _ gB
        have l9B := l9' _ gB
        repeat' (first | (refine WO.op1s ?_; simp only [opK, wanted, stepK, step, setDst, evs, eqVal, eqAt, eqv, Val.isAgg, Val.cells, true_and, and_self, Bool.and_true, List.getElem?_cons_zero, V.ev, Nat.reduceEqDiff, Nat.reduceLT, Bool.false_eq_true, beq_self_eq_true, getD_ne, getD_eq, List.length_set, if_true, if_false, Bool.not_true, *]; with_reducible show WO _ _ _ _ _) | (refine WO.known ?hc ?_; case hc => (simp only [wanted, Bool.true_beq, Nat.reduceEqDiff, Nat.reduceLT, getD_ne, getD_eq, List.length_set, *])))
        refine WO.callG (h0 := hc) wc gB (fun v => v = .bool tt) rfl (fun h1 w1 k1 => by (simp only [evs, V.ev, Nat.reduceEqDiff, Nat.reduceLT, getD_ne, getD_eq, List.length_set, *]); exact (psame_ok w1 (k1.ps q9) (k1.ps q7) n9 n7).mono fun v h' e => ⟨e.1, by rw [e.2, hsame2.out]⟩) ?_
        rintro _ hC gC rfl
        simp only [setDst]
        repeat' (first | (refine WO.op1s ?_; simp only [opK, wanted, stepK, step, setDst, evs, eqVal, eqAt, eqv, Val.isAgg, Val.cells, true_and, and_self, Bool.and_true, List.getElem?_cons_zero, V.ev, Nat.reduceEqDiff, Nat.reduceLT, Bool.false_eq_true, beq_self_eq_true, getD_ne, getD_eq, List.length_set, if_true, if_false, Bool.not_true, *]; with_reducible show WO _ _ _ _ _) | (refine WO.known ?hc ?_; case hc => (simp only [wanted, Bool.true_beq, Nat.reduceLT, getD_eq, List.length_set, *])))
        refine WO.callG (h0 := hc) wc gC (fun v => v = .bool true) rfl (fun h1 w1 k1 => by (simp only [evs, *]); exact lives_okG) ?_
        rintro _ hD gD rfl
        simp only [setDst]
        repeat' (first | refine WO.nil ?_ | (refine WO.op1s ?_; simp only [opK, wanted, stepK, step, setDst, true_and, V.ev, Nat.reduceEqDiff, Nat.reduceLT, getD_ne, getD_eq, List.length_set, *]; with_reducible show WO _ _ _ _ _) | refine WE.ret ?_)
        ((try dsimp only); refine Exists.intro _ ⟨(by (simp only [readResults, Nat.reduceLT, getD_eq, List.length_set, *]; try rfl)), ?_⟩)
        exact ⟨gg.trans gD, rfl⟩

end Go.V
end

section
set_option linter.unusedVariables false
set_option linter.unusedSimpArgs false
set_option linter.unusedSectionVars false
set_option maxRecDepth 100000
namespace Go.V

abbrev BOk := { x : Int // 0 ≤ x ∧ x < 256 }

theorem bs_of : ∀ (n : Nat) (l : List Value), Ints (List.replicate n [.u8]).flatten l → ∃ es : List BOk, es.length = n ∧ ∀ ρ, VRels ρ (es.flatMap fun t => [Val.int .u8 t.1]) l
  | 0, [], _ => ⟨[], rfl, fun _ => .nil⟩
  | 0, _ :: _, h => h.elim
  | n + 1, l, h => by
    rw [List.replicate_succ, List.flatten_cons] at h
    match l, h with
    | _ :: l, ⟨⟨a, h1, w1⟩, h4⟩ =>
      obtain ⟨es, e1, e2⟩ := bs_of n l h4
      refine ⟨⟨a, wf_u8 w1⟩ :: es, by simp [e1], fun ρ => ?_⟩
      rw [List.flatMap_cons]
      subst h1
      exact .cons (by simp only [VRel]) (e2 ρ)
    | [], h => exact h.elim

theorem bs_flat : ∀ (xs : List BOk), xs.flatMap (fun t => [Val.int .u8 t.1]) = (xs.map Subtype.val).map (Val.int .u8)
  | [] => rfl
  | x :: xs => by rw [List.flatMap_cons, bs_flat xs]; rfl

theorem l8_of {h : Heap} {s : Val} {xs : List BOk} (e : Sl h s 1 xs.length (xs.flatMap fun t => [Val.int .u8 t.1])) : L8 h s (xs.map Subtype.val) := by
  rw [bs_flat] at e
  exact ⟨by rw [List.length_map]; exact e, fun x hx => by obtain ⟨t, _, rfl⟩ := List.mem_map.1 hx; exact t.2⟩

end Go.V
namespace Go.Proofs.Ytalokejcacejpaa.any
open Go.ChangeShapes Go.WideShapes Go.ChangeAt Go.RowKit Go.V

theorem own : ownKnob Try.prog.godebug = none := by kernel_rfl
theorem flatU : flatT Try.prog 4 5 = some [.u8] := by kernel_rfl
theorem sizeU : Try.prog.cellsOf 5 = 1 := by kernel_rfl

theorem contract (H : Type) (enc : TypeId × Value → H) (W : World) (base : Nat) (args : Array Value) (ds gs : List (DataW H)) (before : List MemPlace)
    (hval : ∀ (j : Nat) t v, Try.f7.params[j]? = some t → args[j]? = some v → Value.okWide Try.prog W .any base t v)
    (hW : DataW.Whole enc Try.prog Try.f7.params.toList Rows.pinsAnySpec.vars false W args.toList ds gs before) :
    Calls Try.prog 7 args W fun e W' => ∃ v, e = .returned v ∧ Rows.pinsAnySpec.post enc Try.prog Try.f7 false true false false W args v W' := by
  have hW' := hW
  obtain ⟨p, q, hA0, hV, rfl, hfz, hnd⟩ := hW
  have hA : DataW.TrodAll enc Try.prog W 0 (fun _ => true) true Try.f7.params.toList args.toList ds p := hA0
  rw [Try.params7] at hA hval
  obtain ⟨v0, vs0, d0, ds0, p0, q0, hargs, rfl, rfl, ⟨n0, h0⟩, r0⟩ := trodAll_cons hA
  obtain ⟨v1, vs1, d1, ds1, p1, q1, rfl, rfl, rfl, ⟨n1, h1⟩, r1⟩ := trodAll_cons r0
  obtain ⟨v2, vs2, d2, ds2, p2, q2, rfl, rfl, rfl, ⟨n2, h2⟩, r2⟩ := trodAll_cons r1
  obtain ⟨rfl, rfl, rfl⟩ := trodAll_nil r2
  obtain rfl : args = #[v0, v1, v2] := by cases args; simp_all
  obtain ⟨rfl, rfl⟩ := trodVars_none hV
  have hv0 : v0.cells.toList = [v0] := by
    obtain ⟨a, l, c, q⟩ := okWide_slice Try.underlying52 (hval 0 52 v0 rfl rfl)
    rw [q]; rfl
  have hv1 : v1.cells.toList = [v1] := by
    obtain ⟨a, l, c, q⟩ := okWide_slice Try.underlying52 (hval 1 52 v1 rfl rfl)
    rw [q]; rfl
  obtain ⟨ke, rfl⟩ := okWide_int Try.underlying5 (hval 2 5 v2 rfl rfl)
  obtain ⟨i2, _⟩ := flat_trod 4 5 _ n2 _ _ flatU h2
  have j2 : Ints [.u8] [.int .u8 ke] := by simpa [Value.cells] using i2
  have hke : 0 ≤ ke ∧ ke < 256 := by
    obtain ⟨⟨n, e1, e2⟩, _⟩ := j2
    cases e1
    exact wf_u8 e2
  rw [hv0] at h0
  rw [hv1] at h1
  have hsa := slice_arg Try.underlying52 flatU (by rw [sizeU]; rfl) (by rw [sizeU]; omega) h0 fun bb off hx => hfz bb off (by simp only [List.append_nil, List.mem_append]; exact .inl hx)
  have hsb := slice_arg Try.underlying52 flatU (by rw [sizeU]; rfl) (by rw [sizeU]; omega) h1 fun bb off hx => hfz bb off (by simp only [List.append_nil, List.mem_append]; exact .inr (.inl hx))
  rw [sizeU] at hsa
  rw [sizeU] at hsb
  obtain ⟨ρ1, h1', s, xs, A1, _, _, hv, hxs⟩ := (ArgS.nil W).slice (cellsD := fun t : BOk => [Val.int .u8 t.1]) (fun _ => rfl) bs_of hsa
  obtain ⟨ρ, hp0, a, ys, A2, hle, hk, hva, hys⟩ := A1.slice (cellsD := fun t : BOk => [Val.int .u8 t.1]) (fun _ => rfl) bs_of hsb
  obtain ⟨n, v, h', er, _, rfl⟩ := lawAny_ok (bb := ke) A2.wf (l8_of (Keep.sl hk hxs)) (l8_of hys) hke
  have hvr : VRels ρ [s, a, .int .u8 ke] #[v0, v1, Value.int .u8 ke].toList := .cons (VRel.mono hle _ _ hv) (.cons hva (.cons (by simp only [VRel]) .nil))
  refine (law_args env09 ext09 A2.hr A2.low hvr er).mono ?_
  rintro en W' ⟨he, hs, ho, hp⟩
  exact ⟨_, he, post_law (by kernel_rfl) hW' rfl (by rfl) Try.underlying4 rfl hs ho hp⟩

theorem lifted (os : Os) (started : os.Started) (H : Type) (enc : TypeId × Value → H) :
    ReturnsInHanded {} Try.checked os 7 .any (Rows.pinsAnySpec.pre6 enc Try.prog Try.f7 Rows.pinsAnyRow.domain false) (Rows.pinsAnySpec.post enc Try.prog Try.f7 false true false false) := by
  refine returnsInHanded_of_change (C := Try.checked) own started ?_ Try.func7 ?_ ?_
  · kernel_rfl
  · refine ChangeSpec.witness6 (enc := enc) (C := Try.checked) false ⟨#[], #[.slice none 0 0, .slice none 0 0, .int .u8 0], []⟩ 8 ?_ ?_ ?_ ?_
    · kernel_rfl
    · kernel_rfl
    · kernel_rfl
    · kernel_rfl
  intro W base args ds gs before hval hW _ _
  exact contract H enc W base args ds gs before hval hW

theorem any_holds : Rows.PinsAnySaid :=
  OpenClaim.holds_of_wide 7 Try.f7 rfl rfl rfl rfl rfl rfl rfl ⟨rfl, rfl, rfl, rfl, rfl⟩ rfl rfl rfl rfl rfl (by kernel_rfl) Try.func7 (by kernel_rfl)
    (of_decide_eq_true (by kernel_rfl)) (by unfold Func.isWrapper; first | (rw [if_pos (by decide +kernel)]; kernel_rfl) | (rw [if_neg (by decide +kernel)]; exact ⟨rfl, rfl⟩))
    (fun os started H enc _ => lifted os started H enc)
end Go.Proofs.Ytalokejcacejpaa.any
end
