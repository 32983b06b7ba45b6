/-
  PinsKnown returns true, and nothing is asked. No condition.
-/
import Derived.Test.YtalokejcacejpaaE2

section
set_option linter.unusedVariables false
set_option linter.unusedSimpArgs false
set_option linter.unusedSectionVars false
namespace Go.V

def cntP (ps : PinL) (r : Int) : Int := if (ps.any fun p => p.1 == r) then (ps.getD (lowerB ps r) (0, 0)).2 else 0

theorem pcount_ok {h : Heap} (w : Wf h) {s : Val} {ps : PinL} {n r : Int} (hs : Ps h s ps) (ha : Asc ps) (hn : ps.length < 4611686018427387904) : WC E09 14 [.agg [s, .int .i64 n], .int .u64 r] h fun v h' => Grow h h' ∧ v = .int .i64 (cntP ps r) := by
  refine WC.fn rfl rfl ?_
  unfold v14
  simp only
  have hl : (enter 20 [.agg [s, .int .i64 n], .int .u64 r]).length = 20 := by simp [length_enter]
  have h0 : (enter 20 [.agg [s, .int .i64 n], .int .u64 r]).getD 0 .undef = .agg [s, .int .i64 n] := by rw [getD_enter]; rfl
  have h1 : (enter 20 [.agg [s, .int .i64 n], .int .u64 r]).getD 1 .undef = .int .u64 r := by rw [getD_enter]; rfl
  generalize enter 20 [.agg [s, .int .i64 n], .int .u64 r] = fr at *
  refine WE.seq (WE.region ?_)
  (refine WO.op1 ?_; simp only [opK, wanted, setDst])
  refine stepK_box w (c := [s, .int .i64 n]) (by simp (decide := true) only [V.ev, *]; rfl) rfl fun b h2 g hb hg hnx => ?_
  (refine WO.op1 ?_; simp (decide := true) only [opK, wanted, stepK, step, V.ev, setDst, *])
  refine WO.nil ?_
  have ld : h2.load b 0 2 = some [s, .int .i64 n] := load_get hg (by simp)
  refine WE.seq (WE.seq (WE.region ?_))
  (refine WO.op1 ?_; simp (decide := true) only [opK, wanted, stepK, step, V.ev, setDst, getD_set, List.length_set, if_true, if_false, *])
  (refine WO.op1 ?_; simp (decide := true) only [opK, wanted, stepK, step, V.ev, setDst, getD_set, List.length_set, if_false, *])
  refine WO.call rfl ?_
  simp (decide := true) only [evs, V.ev, getD_set, List.length_set, if_true, if_false, *]
  refine (find_ok (g.wf w) (g.ps hs) ha hn).mono ?_
  rintro v h3 ⟨g2, rfl⟩
  simp only [setDst]
  (refine WO.op1 ?_; simp (decide := true) only [opK, wanted, stepK, step, V.ev, setDst, getD_set, List.length_set, if_true, if_false, *])
  (refine WO.op1 ?_; simp (decide := true) only [opK, wanted, stepK, step, V.ev, setDst, getD_set, List.length_set, if_true, if_false, List.getElem?_cons_zero, *])
  (refine WO.op1 ?_; simp (decide := true) only [opK, wanted, stepK, step, V.ev, setDst, getD_set, List.length_set, if_true, if_false, List.getElem?_cons_zero, List.getElem?_cons_succ, *])
  (refine WO.op1 ?_; simp (decide := true) only [opK, wanted, stepK, step, V.ev, setDst, getD_set, List.length_set, if_true, if_false, *])
  (refine WO.op1 ?_; simp (decide := true) only [opK, wanted, stepK, step, V.ev, setDst, getD_set, List.length_set, if_true, if_false, *])
  refine WO.nil (WE.seq (WE.region ?_))
  (refine WO.op1 ?_; simp (decide := true) only [opK, wanted, stepK, step, V.ev, setDst, getD_set, List.length_set, if_true, if_false, *])
  refine WO.nil ?_
  have hs3 := g2.ps (g.ps hs)
  have ld3 : h3.load b (0 + 0) 1 = some [s] := load_get (g2.keep _ _ hg) (by simp)
  cases hany : ps.any fun p => p.1 == r with
  | true =>
    have hlb : lowerB ps r < ps.length := by
      rcases Nat.lt_or_ge (lowerB ps r) ps.length with q | q
      · exact q
      · rw [any_none ha (by have := lowerB_le ps r; omega)] at hany; cases hany
    refine WE.cond (t := true) (by simp (decide := true) only [V.ev, getD_set, List.length_set, if_true, if_false, *]) (WE.seq (WE.region ?_))
    (refine WO.op1 ?_; simp (decide := true) only [opK, wanted, stepK, step, V.ev, setDst, getD_set, List.length_set, if_true, if_false, *])
    (refine WO.op1 ?_; simp (decide := true) only [opK, wanted, stepK, step, V.ev, setDst, getD_set, List.length_set, if_true, if_false, *])
    (refine WO.op1 ?_; simp (decide := true) only [opK, wanted, stepK, step, V.ev, setDst, getD_set, List.length_set, if_true, if_false, *])
    (refine WO.op1 ?_; simp only [opK, wanted, setDst])
    refine hs3.at (ik := .i64) (i := lowerB ps r) (by simp (decide := true) only [V.ev, getD_set, List.length_set, if_true, if_false, *]) (by simp (decide := true) only [V.ev, getD_set, List.length_set, if_true, if_false, *]) hlb fun b2 o2 hld => ?_
    have ld2 : h3.load b2 (o2 + 1) 1 = some [.int .i64 ps[lowerB ps r].2] := by
      have := load_part hld (i := 1) (m := 1) (by omega)
      simpa using this
    (refine WO.op1 ?_; simp (decide := true) only [opK, wanted, stepK, step, V.ev, setDst, getD_set, List.length_set, if_true, if_false, *])
    (refine WO.op1 ?_; simp (decide := true) only [opK, wanted, stepK, step, V.ev, setDst, getD_set, List.length_set, if_true, if_false, *])
    (refine WO.op1 ?_; simp (decide := true) only [opK, wanted, stepK, step, V.ev, setDst, getD_set, List.length_set, if_true, if_false, *])
    refine WO.nil (WE.ret ⟨[.int .i64 ps[lowerB ps r].2], ?_, g.trans g2, ?_⟩)
    · simp only [readResults]
      simp (decide := true) only [getD_set, List.length_set, if_true, if_false, *]
    · simp [cntP, hany, resultOf, List.getD_eq_getElem?_getD, hlb]
  | false =>
    refine WE.cond (t := false) (by simp (decide := true) only [V.ev, getD_set, List.length_set, if_true, if_false, *]) (WE.skip ?_)
    refine WE.seq (WE.region ?_)
    (refine WO.op1 ?_; simp (decide := true) only [opK, wanted, stepK, step, V.ev, setDst, *])
    refine WO.nil (WE.ret ⟨[.int .i64 0], ?_, g.trans g2, ?_⟩)
    · simp only [readResults]
      simp (decide := true) only [getD_set, List.length_set, if_true, if_false, *]
    · simp [cntP, hany, resultOf]

end Go.V
end

section
set_option linter.unusedVariables false
set_option linter.unusedSimpArgs false
set_option linter.unusedSectionVars false
-- DRAWS
-- BUILDS
-- NEW
set_option maxHeartbeats 1000000
namespace Go.V
attribute [local irreducible] stepK opK opV

/-- A copy of one's own. -/
def Cl (h h' : Heap) (v : Val) (ps : PinL) : Prop := (ps = [] ∧ (v = .nils ∨ ∃ b, v = .slice b 0 0 0 0)) ∨ (∃ b n, 0 < n ∧ n = ps.length ∧ v = .slice b 0 n n 2 ∧ h.next ≤ b ∧ h'.get b = some (.cells (ps.flatMap pcell)))

theorem plen (ps : PinL) : (ps.flatMap pcell).length = ps.length * 2 := flat_len (f := pcell) (sz := 2) (fun _ => rfl) ps

theorem pone (ps : PinL) : (ps.flatMap pcell).all Val.one = true := by
  rw [List.all_eq_true]
  intro x hx
  obtain ⟨p, _, hx⟩ := List.mem_flatMap.1 hx
  simp only [pcell, List.mem_cons, List.not_mem_nil, or_false] at hx
  rcases hx with rfl | rfl <;> rfl

theorem stepK_apC {E : Env} {fr : List Val} {h : Heap} (w : Wf h) {x y : Opd} {b n : Nat} {s : Val} {cs : List Val} (hx : V.ev fr x = .slice b 0 0 0 0) (hy : V.ev fr y = s) (hs : Sl h s 2 n cs) (hn : n < 4294967296) {K : Val → Heap → Prop}
    (k0 : n = 0 → K (.slice b 0 0 0 0) h) (k1 : 0 < n → ∀ h', Grow h h' → h'.get h.next = some (.cells cs) → K (.slice h.next 0 n n 2) h') : stepK E fr h (.append 2 16 x y) K := by
  unfold stepK
  obtain ⟨l1, l2⟩ := firstCells_sl hs
  simp only [step, append, hx, hy, l1, l2, appendN]
  by_cases h0 : n = 0
  · subst h0
    rw [if_pos (by omega), if_pos (by omega)]
    exact k0 rfl
  · have f0 : firstCells h 2 0 (.slice b 0 0 0 0) = some [] := by simp [firstCells]
    rw [if_neg (by omega), if_pos ⟨by rw [maxB]; omega, by rw [maxB]; omega, by omega⟩, f0]
    simp only [if_true, List.nil_append, Nat.zero_add]
    exact k1 (by omega) _ (Grow.new w _) (new_self w _)

theorem clone_ok {h : Heap} (w : Wf h) {s : Val} {ps : PinL} (hs : Ps h s ps) (hn : ps.length ≤ 100000) : WC E09 30 [s] h fun v h' => Grow h h' ∧ Cl h h' v ps := by
  refine WC.fn1 (n := 8) rfl rfl (by rfl) ?_
  intro fr hl ha
  have f0 : fr.getD 0 .undef = s := ha 0
  clear ha
  unfold v30
  rcases hs.2 with ⟨rfl, h0⟩ | ⟨b, o, cap, ls, e, _⟩
  · have d1 : eqNil .s .nils .nils = some true := rfl
    have hp := Hid.mk (List.eq_nil_of_length_eq_zero h0)
    clear hs
    repeat' (first | refine WE.assoc ?_ | refine WE.seqR ?_ | refine WO.nil ?_ | (refine WO.op1s ?_; simp only [opK, wanted, stepK, step, setDst, true_and, V.ev, Nat.reduceLT, Bool.false_eq_true, getD_ne, getD_eq, List.length_set, if_false, reduceCtorEq, Bool.not_true, *]; with_reducible show WO _ _ _ _ _) | refine WE.seqRet ?_ | (refine WE.seqCond (t := true) ?hc (fun _ => ?_) (fun hh => Bool.noConfusion hh); case hc => simp only [V.ev, Nat.reduceLT, getD_eq, List.length_set, *]))
    ((try dsimp only); refine Exists.intro _ ⟨(by (simp only [readResults, Nat.reduceLT, getD_eq, List.length_set, *]; try rfl)), ?_⟩)
    exact ⟨Grow.refl _, .inl ⟨hp.out, .inl rfl⟩⟩
  · have d1 : eqNil .s s .nils = some false := by rw [e]; rfl
    clear e
    repeat' (first | refine WE.assoc ?_ | refine WE.seqR ?_ | refine WO.nil ?_ | (refine WO.op1s ?_; simp only [opK, wanted, stepK, step, setDst, fill, true_and, V.ev, Nat.reduceLT, Bool.false_eq_true, getD_ne, getD_eq, List.length_set, if_false, reduceCtorEq, Bool.not_false, *]; with_reducible show WO _ _ _ _ _) | refine WE.seqSkip ?_ | (refine WE.seqCond (t := false) ?hc (fun hh => Bool.noConfusion hh) (fun _ => ?_); case hc => simp only [V.ev, Nat.reduceLT, getD_eq, List.length_set, *]))
    (refine WO.op1 ?_; simp only [opK, wanted, setDst, *])
    unfold stepK
    simp only [step, fill]
    have gn := Grow.new w (.cells [])
    have w1 := gn.wf w
    generalize hh1 : (h.new (.cells [])).2 = h1 at gn w1
    have e1 : h.new (.cells []) = (h.next, h1) := by rw [← hh1]; rfl
    rw [e1]
    simp only
    clear e1 hh1
    have hs1 := gn.ps hs
    clear hs
    repeat' (first | (refine WO.op1s ?_; simp only [opK, wanted, stepK, step, setDst, true_and, V.ev, Nat.reduceEqDiff, Nat.reduceLT, getD_ne, getD_eq, List.length_set, reduceCtorEq, *]; with_reducible show WO _ _ _ _ _))
    (refine WO.op1 ?_; simp only [opK, wanted, setDst, *])
    refine stepK_apC w1 (b := h.next) (s := s) (by (simp only [V.ev, Nat.reduceEqDiff, Nat.reduceLT, getD_ne, getD_eq, List.length_set, *]; try rfl)) (by (simp only [V.ev, Nat.reduceLT, getD_eq, List.length_set, *]; try rfl)) hs1 (by omega) (fun h0 => ?_) (fun h0 h2 g2 e2 => ?_)
    · repeat' (first | refine WO.nil ?_ | (refine WO.op1s ?_; simp only [opK, wanted, stepK, step, setDst, true_and, V.ev, Nat.reduceLT, getD_eq, List.length_set, *]; with_reducible show WO _ _ _ _ _) | refine WE.ret ?_)
      ((try dsimp only); refine Exists.intro _ ⟨(by (simp only [readResults, Nat.reduceLT, getD_eq, List.length_set, *]; try rfl)), ?_⟩)
      exact ⟨gn, .inl ⟨List.eq_nil_of_length_eq_zero h0, .inr ⟨_, rfl⟩⟩⟩
    · clear hs1
      repeat' (first | refine WO.nil ?_ | (refine WO.op1s ?_; simp only [opK, wanted, stepK, step, setDst, true_and, V.ev, Nat.reduceLT, getD_eq, List.length_set, *]; with_reducible show WO _ _ _ _ _) | refine WE.ret ?_)
      ((try dsimp only); refine Exists.intro _ ⟨(by (simp only [readResults, Nat.reduceLT, getD_eq, List.length_set, *]; try rfl)), ?_⟩)
      exact ⟨gn.trans g2, .inr ⟨h1.next, _, h0, rfl, rfl, gn.next, e2⟩⟩

theorem stepK_s3 {E : Env} {fr : List Val} {h : Heap} {x y z u : Opd} {b o n cap ls sz l k m : Nat} {i1 i2 i3 : IntKind} (hx : V.ev fr x = .slice b o n cap ls) (hls : ls = 0 ∨ ls = sz) (hy : V.ev fr y = .int i1 (l : Int)) (hz : V.ev fr z = .int i2 (k : Int)) (hu : V.ev fr u = .int i3 (m : Int)) (h1 : l ≤ k) (h2 : k ≤ m) (h3 : m ≤ cap)
    {K : Val → Heap → Prop} (kk : K (.slice b (o + l * sz) (k - l) (m - l) 0) h) : stepK E fr h (.slice sz x (some y) (some z) (some u)) K := by
  unfold stepK
  have hb : bounds fr n cap (some y) (some z) (some u) = some (l, k, m) := by
    simp only [bounds, bnd, hy, hz, hu]
    rw [if_pos ⟨by omega, by omega⟩]
    simp only [Int.toNat_natCast]
    rw [if_pos ⟨by omega, by omega⟩]
    simp only []
    rw [if_pos ⟨by omega, by omega⟩]
    try simp
  simp only [step, hx, sliceVal, hb, pureV, if_pos hls, Option.isSome_some, if_true]
  exact kk

theorem stepK_s2 {E : Env} {fr : List Val} {h : Heap} {x y z : Opd} {b o n cap ls sz l k : Nat} {i1 i2 : IntKind} (hx : V.ev fr x = .slice b o n cap ls) (hls : ls = 0 ∨ ls = sz) (hy : V.ev fr y = .int i1 (l : Int)) (hz : V.ev fr z = .int i2 (k : Int)) (h1 : l ≤ k) (h2 : k ≤ cap)
    {K : Val → Heap → Prop} (kk : K (.slice b (o + l * sz) (k - l) (cap - l) ls) h) : stepK E fr h (.slice sz x (some y) (some z) none) K := by
  unfold stepK
  have hb : bounds fr n cap (some y) (some z) none = some (l, k, cap) := by
    simp only [bounds, bnd, hy, hz]
    rw [if_pos ⟨by omega, by omega⟩]
    simp only [Int.toNat_natCast]
    rw [if_pos ⟨by omega, by omega⟩]
    try simp
  simp only [step, hx, sliceVal, hb, pureV, if_pos hls, Option.isSome_none, Bool.false_eq_true, if_false]
  exact kk

theorem splice_nil (C : List Val) (o : Nat) : splice C o [] = C := by
  unfold splice; simp

theorem stepK_apI {E : Env} {fr : List Val} {h : Heap} {x y : Opd} {b i m cap ls sz bytes : Nat} {s : Val} {C new : List Val} (hx : V.ev fr x = .slice b 0 i cap ls) (hy : V.ev fr y = s) (hs : Sl h s sz m new) (hc : i + m ≤ cap) (hg : h.get b = some (.cells C)) (hf : h.floor ≤ b) (hcap : cap * sz ≤ C.length) (hone : new.all Val.one = true)
    {K : Val → Heap → Prop} (k : ∀ h', Wrote h b (splice C (i * sz) new) h' → K (.slice b 0 (i + m) cap ls) h') : stepK E fr h (.append sz bytes x y) K := by
  unfold stepK
  obtain ⟨l1, l2⟩ := firstCells_sl hs
  simp only [step, append, hx, hy, l1, l2, appendN]
  rw [if_pos hc]
  by_cases h0 : m * sz = 0
  · rw [if_pos h0]
    have : new = [] := List.eq_nil_of_length_eq_zero (by rw [hs.1, h0])
    subst this
    exact k h (by rw [splice_nil]; exact ⟨hg, fun _ _ => rfl, rfl, rfl, rfl, fun w => w⟩)
  · rw [if_neg h0]
    have := Nat.mul_le_mul_right sz hc
    rw [Nat.add_mul] at this
    simp only [Heap.store, hg, Nat.zero_add]
    rw [if_pos hf, if_pos ⟨by rw [hs.1]; omega, hone⟩]
    exact k _ (put_wrote hg _)

theorem stepK_clr {E : Env} {fr : List Val} {h : Heap} {x : Opd} {b o n cap ls : Nat} {C zero : List Val} (hx : V.ev fr x = .slice b o n cap ls) (h0 : 0 < n * zero.length) (hg : h.get b = some (.cells C)) (hf : h.floor ≤ b) (hl : o + n * zero.length ≤ C.length) (hone : (repeatL zero n).all Val.one = true)
    {K : Val → Heap → Prop} (k : ∀ h', Wrote h b (splice C o (repeatL zero n)) h' → K (.tup []) h') : stepK E fr h (.clear zero x) K := by
  unfold stepK
  simp only [step, hx]
  rw [if_neg (by omega)]
  simp only [Heap.store, hg]
  rw [if_pos hf, if_pos ⟨by rw [repeatL_length]; exact hl, hone⟩]
  exact k _ (put_wrote hg _)

/-- A slice whose capacity is its length. -/
def Tight (v : Val) (n : Nat) : Prop := (v = .nils ∧ n = 0) ∨ ∃ b o, v = .slice b o n n 0

theorem erase_flat {ps : PinL} {i : Nat} (hi : i < ps.length) : (ps.eraseIdx i).flatMap pcell = (ps.flatMap pcell).take (i * 2) ++ (ps.flatMap pcell).drop ((i + 1) * 2) := by
  have h1 : ∀ (ps : PinL) (i : Nat), (ps.flatMap pcell).take (i * 2) = (ps.take i).flatMap pcell := by
    intro ps
    induction ps with
    | nil => intro i; simp
    | cons p ps ih =>
      intro i
      cases i with
      | zero => simp
      | succ i =>
        have := ih i
        rw [show (i + 1) * 2 = i * 2 + 2 by omega]
        simp [pcell] at this ⊢
        exact this
  have h2 : ∀ (ps : PinL) (i : Nat), (ps.flatMap pcell).drop (i * 2) = (ps.drop i).flatMap pcell := by
    intro ps
    induction ps with
    | nil => intro i; simp
    | cons p ps ih =>
      intro i
      cases i with
      | zero => simp
      | succ i =>
        have := ih i
        rw [show (i + 1) * 2 = i * 2 + 2 by omega]
        simp [pcell] at this ⊢
        exact this
  rw [h1, h2, ← List.flatMap_append, List.eraseIdx_eq_take_drop_succ]

theorem delete_ok {h0 h : Heap} (w0 : Wf h0) (g : Grow h0 h) {b n i : Nat} {ps : PinL} (hb : h0.next ≤ b) (hg : h.get b = some (.cells (ps.flatMap pcell))) (hn : n = ps.length) (hi : i < n) (hn2 : n ≤ 100000) :
    WC E09 32 [.slice b 0 n n 2, .int .i64 (i : Int), .int .i64 ((i + 1 : Nat) : Int)] h fun v h' => Grow h0 h' ∧ Ps h' v (ps.eraseIdx i) := by
  refine WC.fn1 (n := 33) rfl rfl (by rfl) ?_
  intro fr hl ha
  have f0 : fr.getD 0 .undef = .slice b 0 n n 2 := ha 0
  have f1 : fr.getD 1 .undef = .int .i64 (i : Int) := ha 1
  have f2 : fr.getD 2 .undef = .int .i64 ((i + 1 : Nat) : Int) := ha 2
  clear ha
  have l0 : lenI (.slice b 0 n n 2) = some n := rfl
  have l1 : lenI (.slice b 0 (i + (n - (i + 1))) n 2) = some (i + (n - (i + 1))) := rfl
  have d1 : ((i : Int) == ((i + 1 : Nat) : Int)) = false := by simp; omega
  have hpl := plen ps
  rw [← hn] at hpl
  have hfl : h.floor ≤ b := by rw [g.floor]; have := w0.fl; omega
  have hD : Sl h (.slice b ((i + 1) * 2) (n - (i + 1)) (n - (i + 1)) 2) 2 (n - (i + 1)) ((ps.flatMap pcell).drop ((i + 1) * 2)) := by
    refine ⟨by rw [List.length_drop, hpl, Nat.sub_mul], .inr ⟨_, _, _, _, rfl, .inr rfl, Nat.le_refl _, .inr ?_⟩⟩
    rw [load_get hg (by rw [hpl]; omega), List.take_of_length_le (by rw [List.length_drop, hpl]; omega)]
  have hDo : ((ps.flatMap pcell).drop ((i + 1) * 2)).all Val.one = true := by
    have := pone ps
    rw [List.all_eq_true] at this ⊢
    exact fun x hx => this x (List.mem_of_mem_drop hx)
  have hE := erase_flat (ps := ps) (i := i) (by omega)
  have hEl : (ps.eraseIdx i).length = n - 1 := by rw [List.length_eraseIdx_of_lt (by omega), hn]
  replace hn := Hid.mk hn
  have hEp := plen (ps.eraseIdx i)
  rw [hEl] at hEp
  replace hE := Hid.mk hE
  unfold v32
  repeat' (first | refine WE.seqR ?_ | refine WO.nil ?_ | (refine WO.lenOfE ?_; simp only [setDst, V.ev, Nat.reduceLT, getD_eq, List.length_set, *]; refine ⟨_, rfl, ?_⟩) | (refine WO.op1s ?_; simp only [opK, wanted, stepK, step, setDst, pureV, true_and, V.ev, Nat.reduceEqDiff, Nat.reduceLT, getD_ne, getD_eq, List.length_set, reduceCtorEq, *]; with_reducible show WO _ _ _ _ _))
  (refine WO.op1 ?_; simp only [opK, wanted, setDst, *])
  refine stepK_s3 (l := i) (k := i + 1) (m := n) (by (simp only [V.ev, Nat.reduceEqDiff, Nat.reduceLT, getD_ne, getD_eq, List.length_set, *]; try rfl)) (.inr rfl) (by (simp only [V.ev, Nat.reduceEqDiff, Nat.reduceLT, getD_ne, getD_eq, List.length_set, *]; try rfl)) (by (simp only [V.ev, Nat.reduceEqDiff, Nat.reduceLT, getD_ne, getD_eq, List.length_set, *]; try rfl)) (by (simp only [V.ev, Nat.reduceLT, getD_eq, List.length_set, *]; try rfl)) (by omega) (by omega) (Nat.le_refl _) ?_
  repeat' (first | refine WE.assoc ?_ | refine WE.seqR ?_ | refine WO.nil ?_ | refine WE.seqD ?_ | (refine WO.lenOfE ?_; simp only [setDst, V.ev, Nat.reduceLT, getD_eq, List.length_set, *]; refine ⟨_, rfl, ?_⟩) | (refine WO.op1s ?_; simp only [opK, wanted, stepK, step, setDst, eqVal, eqAt, eqv, Val.isAgg, Val.cells, true_and, and_self, Bool.and_true, List.getElem?_cons_zero, V.ev, Nat.reduceEqDiff, Nat.reduceLT, Nat.zero_add, Bool.false_eq_true, getD_ne, getD_eq, List.length_set, if_true, if_false, reduceCtorEq, Bool.not_false, *]; with_reducible show WO _ _ _ _ _) | (refine WD.op2s ?_; simp only [opV, VOp.kind, hiddenOf, unveil_veil, veil_next, or_self, wanted, stepK, step, setDst, pureV, List.nil_append, List.cons_append, true_and, V.ev, Nat.reduceEqDiff, Nat.reduceLT, Nat.reduceLeDiff, getD_ne, getD_eq, List.length_set, if_true, reduceCtorEq, *]; with_reducible show WD _ _ _ _ _ _) | refine WE.seqSkip ?_ | (refine WE.seqCond (t := false) ?hc (fun hh => Bool.noConfusion hh) (fun _ => ?_); case hc => simp only [V.ev, Nat.reduceLT, getD_eq, List.length_set, *]))
  (refine WD.op2 ?_; simp only [opV, VOp.kind, hiddenOf, wanted, setDst, or_true, List.nil_append, List.cons_append, Nat.reduceLeDiff, if_true, reduceCtorEq, *])
  refine stepK_hiC (ls := 2) (l := i) (by (simp only [V.ev, Nat.reduceEqDiff, Nat.reduceLT, getD_ne, getD_eq, List.length_set, *]; try rfl)) (.inr rfl) (by (simp only [V.ev, Nat.reduceLT, getD_eq, List.length_set, *]; try rfl)) (by omega) ?_
  repeat' (first | (refine WD.op2s ?_; simp only [opV, VOp.kind, hiddenOf, unveil_veil, veil_next, or_self, wanted, stepK, step, setDst, pureV, List.nil_append, List.cons_append, true_and, V.ev, Nat.reduceEqDiff, Nat.reduceLT, Nat.reduceLeDiff, getD_ne, getD_eq, List.length_set, if_true, reduceCtorEq, *]; with_reducible show WD _ _ _ _ _ _))
  (refine WD.op2 ?_; simp only [opV, VOp.kind, hiddenOf, wanted, setDst, or_true, List.nil_append, List.cons_append, Nat.reduceLeDiff, if_true, reduceCtorEq, *])
  refine stepK_lo0 (ls := 2) (l := i + 1) (by (simp only [V.ev, Nat.reduceEqDiff, Nat.reduceLT, getD_ne, getD_eq, List.length_set, *]; try rfl)) (.inr rfl) (by (simp only [V.ev, Nat.reduceLT, getD_eq, List.length_set, *]; try rfl)) (by omega) ?_
  skip
  (refine WD.op2 ?_; simp only [opV, VOp.kind, hiddenOf, wanted, setDst, or_true, List.nil_append, List.cons_append, Nat.reduceEqDiff, Nat.reduceLeDiff, Nat.zero_add, if_true, *])
  refine stepK_apI (m := n - (i + 1)) (cap := n) (by (simp only [V.ev, Nat.reduceEqDiff, Nat.reduceLT, getD_ne, getD_eq, List.length_set, *]; try rfl)) (by (simp only [V.ev, Nat.reduceLT, getD_eq, List.length_set, *]; try rfl)) (by simpa using hD) (by omega) hg hfl (by rw [hpl]; exact Nat.le_refl _) hDo fun h1 k1 => ?_
  obtain ⟨z, hz, e1⟩ : ∃ z, z.length = 2 ∧ h1.get b = some (.cells (((ps.eraseIdx i).flatMap pcell) ++ z ++ [])) := by
    refine ⟨(ps.flatMap pcell).drop ((n - 1) * 2), by rw [List.length_drop, hpl]; omega, ?_⟩
    rw [k1.at_, hE.out, List.append_nil]
    unfold splice
    rw [hD.1, show i * 2 + (n - (i + 1)) * 2 = (n - 1) * 2 by omega]
  have g1 := g.wrote hb w0 k1
  have hfl1 : h1.floor ≤ b := by rw [k1.floor]; exact hfl
  clear k1 hD hg
  repeat' (first | refine WE.seqR ?_ | refine WD.nil2 ?_ | (refine WO.lenOfE ?_; simp only [setDst, V.ev, Nat.reduceLT, getD_eq, List.length_set, *]; refine ⟨_, rfl, ?_⟩) | (refine WO.op1s ?_; simp only [opK, wanted, stepK, step, setDst, pureV, true_and, V.ev, Nat.reduceEqDiff, Nat.reduceLT, getD_ne, getD_eq, List.length_set, reduceCtorEq, *]; with_reducible show WO _ _ _ _ _) | (refine WD.op2s ?_; simp only [opV, VOp.kind, hiddenOf, unveil_veil, veil_next, or_self, wanted, stepK, step, setDst, List.nil_append, List.cons_append, true_and, V.ev, Nat.reduceLT, Nat.reduceLeDiff, getD_eq, List.length_set, if_true, reduceCtorEq, *]; with_reducible show WD _ _ _ _ _ _))
  (refine WO.op1 ?_; simp only [opK, wanted, setDst, *])
  refine stepK_s2 (ls := 2) (l := i + (n - (i + 1))) (k := n) (by (simp only [V.ev, Nat.reduceEqDiff, Nat.reduceLT, getD_ne, getD_eq, List.length_set, *]; try rfl)) (.inr rfl) (by (simp only [V.ev, Nat.reduceEqDiff, Nat.reduceLT, getD_ne, getD_eq, List.length_set, *]; try rfl)) (by (simp only [V.ev, Nat.reduceLT, getD_eq, List.length_set, *]; try rfl)) (by omega) (Nat.le_refl _) ?_
  (refine WO.op1 ?_; simp only [opK, wanted, setDst, Nat.zero_add, *])
  refine stepK_clr (by (simp only [V.ev, Nat.reduceLT, getD_eq, List.length_set, *]; try rfl)) (by simp; omega) e1 hfl1 (by simp only [List.length_append, hEp, hz, List.length_cons, List.length_nil]; omega) (by rw [List.all_eq_true]; rw [show n - (i + (n - (i + 1))) = 1 by omega]; simp [repeatL, Val.one]) fun h2 k2 => ?_
  have g2 := g1.wrote hb w0 k2
  have e2 : h2.get b = some (.cells ((ps.eraseIdx i).flatMap pcell ++ [.int .u64 0, .int .i64 0] ++ [])) := by
    rw [k2.at_, show n - (i + (n - (i + 1))) = 1 by omega, splice_mid (by rw [hEp]; omega) (by rw [hz]; rfl)]
    rfl
  clear k2 e1
  repeat' (first | refine WE.seqR ?_ | refine WO.nil ?_ | (refine WO.op1s ?_; simp only [opK, wanted, stepK, step, setDst, true_and, V.ev, Nat.reduceLT, getD_ne, getD_eq, List.length_set, reduceCtorEq, *]; with_reducible show WO _ _ _ _ _) | refine WE.ret ?_)
  ((try dsimp only); refine Exists.intro _ ⟨(by (simp only [readResults, Nat.reduceLT, getD_eq, List.length_set, *]; try rfl)), ?_⟩)
  refine ⟨g2, by rw [hEl]; exact hEp, .inr ⟨b, 0, n, 2, ?_, .inr rfl, by omega, .inr ?_⟩⟩
  · rw [hEl, show i + (n - (i + 1)) = n - 1 by omega]
    rfl
  · rw [load_get e2 (by simp only [List.length_append, hEp, hEl]; omega), List.drop_zero, hEl, List.append_nil, ← hEp, List.take_left]

end Go.V
end

section
set_option linter.unusedVariables false
set_option linter.unusedSimpArgs false
set_option linter.unusedSectionVars false
-- BUILDS
-- NEW
set_option maxHeartbeats 1000000
namespace Go.V
attribute [local irreducible] stepK opK opV

abbrev u64s (xs : List Int) : List Val := xs.map (Val.int .u64)

def HeI (h0 : Heap) (b1 bo : Nat) (s : Val) (n : Nat) (ps : PinL) (k : Nat) (fr : List Val) (h' : Heap) : Prop := Grow h0 h' ∧ ∃ i : Nat, Hid (i + k = n) ∧ fr.length = 25 ∧ fr.getD 1 .undef = .ptr b1 0 ∧ fr.getD 3 .undef = .slice bo 0 n n 0 ∧ fr.getD 11 .undef = s ∧ fr.getD 12 .undef = .int .i64 (n : Nat) ∧
  fr.getD 13 .undef = .int .i64 (i : Nat) ∧ h'.get bo = some (.cells (u64s ((ps.take i).map (·.1)) ++ repeatL [.int .u64 0] k))

theorem held_ok {h : Heap} (w : Wf h) {s t : Val} {ps : PinL} (hs : Ps h s ps) (hn : ps.length ≤ 100000) (ht : t.cells = [t]) : WC E09 23 [.agg [s, t]] h fun v h' => Grow h h' ∧ Us h' v (ps.map (·.1)) ∧ Tight v ps.length := by
  refine WC.fn1 (n := 25) rfl rfl (by rfl) ?_
  intro fr hl ha
  have f0 : fr.getD 0 .undef = .agg [s, t] := ha 0
  clear ha
  have hlen := hs.lenI
  unfold v23
  refine WE.seqR ?_
  (refine WO.op1 ?_; simp only [opK, wanted, setDst, *])
  refine stepK_box w (c := [s, t]) (by simp only [V.ev, *]; rfl) rfl fun b1 h1 g1 hb1 hg1 hn1 => ?_
  have w1 := g1.wf w
  have ld : ∀ h', Grow h1 h' → h'.load b1 0 1 = some [s] := fun h' g => g.part hg1 (by simp)
  have ld1 := ld _ (Grow.refl _)
  have hs1 := g1.ps hs
  obtain ⟨n, hnn⟩ : ∃ n, n = ps.length := ⟨_, rfl⟩
  rw [← hnn] at hlen
  have hn3 : n ≤ 100000 := by omega
  replace hnn := Hid.mk hnn
  replace hn := Hid.mk hn
  clear hs
  repeat' (first | refine WE.seqR ?_ | refine WO.nil ?_ | (refine WO.lenOfE ?_; simp only [setDst, V.ev, Nat.reduceLT, getD_eq, List.length_set, *]; refine ⟨_, rfl, ?_⟩) | (refine WO.op1s ?_; simp only [opK, wanted, stepK, step, setDst, List.length_cons, List.length_nil, true_and, and_true, V.ev, Nat.reduceEqDiff, Nat.reduceLT, Nat.add_zero, Nat.zero_add, Bool.false_eq_true, getD_ne, getD_eq, List.length_set, if_false, *]; with_reducible show WO _ _ _ _ _))
  (refine WO.op1 ?_; simp only [opK, wanted, setDst, *])
  refine stepK_make w1 (Grow.refl _) (n := n) (by (simp only [V.ev, Nat.reduceLT, getD_eq, List.length_set, *]; try rfl)) (by (simp only [V.ev, Nat.reduceLT, getD_eq, List.length_set, *]; try rfl)) (by rfl) (by rw [maxB]; omega) (by rw [maxB]; omega) fun bo h2 g2 hbo hg2 _ => ?_
  have ld2 := ld _ g2
  clear ld1
  repeat' (first | refine WE.assoc ?_ | refine WE.seqR ?_ | refine WO.nil ?_ | (refine WO.lenOfE ?_; simp only [setDst, V.ev, Nat.reduceLT, getD_eq, List.length_set, *]; refine ⟨_, rfl, ?_⟩) | (refine WO.op1s ?_; simp only [opK, wanted, stepK, step, setDst, true_and, V.ev, Nat.reduceEqDiff, Nat.reduceLT, Nat.add_zero, Bool.false_eq_true, getD_ne, getD_eq, List.length_set, if_false, *]; with_reducible show WO _ _ _ _ _) | refine WE.seqBlock ?_)
  refine WE.loop (HeI h1 b1 bo s n ps) ?_ n _ _ ⟨g2, 0, ⟨by omega⟩, by simp only [List.length_set, hl], by (simp only [Nat.reduceEqDiff, Nat.reduceLT, getD_ne, getD_eq, *]; try rfl), by (simp only [Nat.reduceEqDiff, Nat.reduceLT, getD_ne, getD_eq, List.length_set, *]; try rfl), by (simp only [Nat.reduceEqDiff, Nat.reduceLT, getD_ne, getD_eq, List.length_set, *]; try rfl), by (simp only [Nat.reduceEqDiff, Nat.reduceLT, getD_ne, getD_eq, List.length_set, *]; try rfl), by (simp only [Nat.reduceLT, Int.cast_ofNat_Int, getD_eq, List.length_set, *]; try rfl), by simpa using hg2⟩
  clear f0 hl hg2 g2 ld2
  rintro k fr h ⟨g, i, hk, hl, f1, f3, f11, f12, f13, hg⟩
  have ld2 := ld _ g
  have w2 := g.wf w1
  by_cases hi : i < n
  · have hd : decide ((i : Int) < (n : Int)) = true := decide_eq_true (by omega)
    have hips : i < ps.length := by have := hnn.out; omega
    obtain ⟨bx, o, he, le⟩ := Sl.elt hs1 (k := .i64) hips (by omega)
    have hfd := flat_drop (f := pcell) (sz := 2) (fun _ => rfl) ps i hips
    have x0 : h.load bx o 2 = some [.int .u64 ps[i].1, .int .i64 ps[i].2] := by
      have := le h g.kp 0 2 (by omega)
      rw [Nat.add_zero, Nat.add_zero, hfd] at this
      simpa [pcell] using this
    have wn : IntKind.i64.wrap ((i : Int) + 1) = ((i + 1 : Nat) : Int) := wrap_add (b := 1) (by have := hn.out; have := hnn.out; omega)
    have hob : eltI 1 (.slice bo 0 n n 0) (.int .i64 (i : Int)) = some (.ptr bo i) := by
      simp only [eltI]; rw [if_pos ⟨by omega, by omega⟩]; simp
    have htk := List.take_succ_eq_append_getElem hips
    replace htk := Hid.mk htk
    generalize hp : ps[i] = p at *
    clear le hfd hp
    repeat' (first | refine WE.seqR ?_ | refine WO.nil ?_ | (refine WO.iaddrE ?_; simp only [setDst, V.ev, Nat.reduceEqDiff, getD_ne, *]; refine ⟨_, rfl, ?_⟩) | (refine WO.op1s ?_; simp only [opK, wanted, stepK, step, setDst, pureV, arith, intBin, true_and, V.ev, Nat.reduceEqDiff, Nat.reduceLT, getD_ne, getD_eq, List.length_set, if_true, *]; with_reducible show WO _ _ _ _ _) | refine WE.seqSkip ?_ | (refine WE.seqCond (t := true) ?hc (fun _ => ?_) (fun hh => Bool.noConfusion hh); case hc => simp only [V.ev, Nat.reduceLT, getD_eq, *]) | refine WE.seqBlock ?_)
    (refine WO.op1 ?_; simp only [opK, wanted, setDst, *])
    refine stepK_alloc w2 fun b5 h5 g5 hb5 hg5 hn5 => ?_
    have y0 := g5.load x0
    repeat' (first | (refine WO.op1s ?_; simp only [opK, wanted, stepK, step, setDst, Val.cells, List.length_cons, List.length_nil, true_and, V.ev, Nat.reduceEqDiff, Nat.reduceLT, Nat.reduceAdd, Nat.zero_add, getD_ne, getD_eq, List.length_set, if_true, *]; with_reducible show WO _ _ _ _ _))
    (refine WO.op1 ?_; simp only [opK, wanted, setDst, *])
    refine stepK_store (b := b5) (o := 0) (us := [.int .u64 p.1, .int .i64 p.2]) (by (simp only [V.ev, Nat.reduceEqDiff, Nat.reduceLT, getD_ne, getD_eq, List.length_set, *]; try rfl)) (by (simp only [V.ev, Nat.reduceEqDiff, Nat.reduceLT, getD_ne, getD_eq, List.length_set, *]; try rfl)) (by rfl) hg5 (by rw [g5.floor]; exact Nat.le_trans w2.fl hb5) (by simp) (by rfl) fun h6 k6 => ?_
    have g6 := (Grow.refl h).trans g5 |>.wrote hb5 w2 k6
    have z0 : h6.load b5 0 1 = some [.int .u64 p.1] := load_get k6.at_ (by simp [splice])
    have hg6 := g6.keep _ _ hg
    have hg' : h6.get bo = some (.cells (u64s ((ps.take i).map (·.1)) ++ [.int .u64 0] ++ repeatL [.int .u64 0] (k - 1))) := by
      rw [hg6]
      have : k = (k - 1) + 1 := by have := hk.out; omega
      rw [this]
      simp [repeatL]
    have g7 := g.trans g6
    clear k6 hg5 hg6 hg y0 x0 g5 g
    repeat' (first | refine WO.nil ?_ | (refine WO.iaddrE ?_; simp only [setDst, V.ev, Nat.reduceEqDiff, Nat.reduceLT, getD_ne, getD_eq, List.length_set, *]; refine ⟨_, rfl, ?_⟩) | (refine WO.op1s ?_; simp only [opK, wanted, stepK, step, setDst, Val.cells, List.length_cons, List.length_nil, true_and, V.ev, Nat.reduceEqDiff, Nat.reduceLT, Nat.add_zero, Nat.zero_add, Bool.false_eq_true, getD_ne, getD_eq, List.length_set, if_true, if_false, *]; with_reducible show WO _ _ _ _ _) | refine WE.region ?_)
    (refine WO.op1 ?_; simp only [opK, wanted, setDst, *])
    refine stepK_store (b := bo) (o := i) (us := [.int .u64 p.1]) (by (simp only [V.ev, Nat.reduceLT, getD_eq, List.length_set, *]; try rfl)) (by (simp only [V.ev, Nat.reduceEqDiff, Nat.reduceLT, getD_ne, getD_eq, List.length_set, *]; try rfl)) (by rfl) hg' (by rw [g7.floor]; have := w1.fl; omega) (by simp [u64s]; omega) (by rfl) fun h8 k8 => ?_
    have g8 := g7.wrote hbo w1 k8
    have hg8 : h8.get bo = some (.cells (u64s ((ps.take (i + 1)).map (·.1)) ++ repeatL [.int .u64 0] (k - 1))) := by
      rw [k8.at_, splice_mid (by simp [u64s]; omega) (by rfl), htk.out]
      simp [u64s]
    clear k8 hg'
    repeat' (first | refine WO.nil ?_ | (refine WO.op1s ?_; simp only [opK, wanted, stepK, step, setDst, pureV, arith, intBin, true_and, V.ev, Nat.reduceEqDiff, Nat.reduceLT, getD_ne, getD_eq, List.length_set, if_true, *]; with_reducible show WO _ _ _ _ _) | refine WE.region ?_)
    exact ⟨k - 1, by have := hk.out; omega, g8, i + 1, ⟨by have := hk.out; omega⟩, by simp only [List.length_set, hl], by (simp only [Nat.reduceEqDiff, getD_ne, *]; try rfl), by (simp only [Nat.reduceEqDiff, getD_ne, *]; try rfl), by (simp only [Nat.reduceEqDiff, getD_ne, *]; try rfl), by (simp only [Nat.reduceEqDiff, getD_ne, *]; try rfl), by (simp only [Nat.reduceLT, getD_eq, List.length_set, *]; try rfl), hg8⟩
  · have hd : decide ((i : Int) < (n : Int)) = false := decide_eq_false (by omega)
    have hk0 : k = 0 := by have := hk.out; omega
    have hin : i = n := by have := hk.out; omega
    subst hk0
    rw [hin, hnn.out, List.take_length] at hg
    replace hin := Hid.mk hin
    repeat' (first | refine WE.seqR ?_ | refine WO.nil ?_ | (refine WO.op1s ?_; simp only [opK, wanted, stepK, step, setDst, pureV, arith, intBin, true_and, V.ev, Nat.reduceEqDiff, Nat.reduceLT, getD_ne, getD_eq, List.length_set, if_true, *]; with_reducible show WO _ _ _ _ _) | refine WE.seqExit ?_ | (refine WE.seqCond (t := false) ?hc (fun hh => Bool.noConfusion hh) (fun _ => ?_); case hc => simp only [V.ev, Nat.reduceLT, getD_eq, *]) | refine WE.ret ?_)
    ((try dsimp only); refine Exists.intro _ ⟨(by (simp only [readResults, Nat.reduceLT, getD_eq, List.length_set, *]; try rfl)), ?_⟩)
    have e1 : h.load bo 0 (n * 1) = some (u64s (ps.map (·.1))) := by
      have hl2 : (u64s (ps.map (·.1))).length = n := by simp [u64s, hnn.out]
      rw [load_get hg (by simp [u64s, hnn.out]), List.drop_zero]
      simp only [repeatL, List.append_nil, Nat.mul_one]
      rw [List.take_of_length_le (by omega)]
    refine ⟨g1.trans g, ?_, ?_⟩
    · show Sl h (.slice bo 0 n n 0) 1 _ _
      rw [List.length_map, ← hnn.out]
      exact ⟨by simp [hnn.out], .inr ⟨bo, 0, n, 0, rfl, .inl rfl, Nat.le_refl _, .inr e1⟩⟩
    · rw [← hnn.out]
      exact .inr ⟨bo, 0, rfl⟩

end Go.V
end

section
set_option linter.unusedVariables false
set_option linter.unusedSimpArgs false
set_option linter.unusedSectionVars false
-- BUILDS
-- NEW
set_option maxHeartbeats 1000000
namespace Go.V
attribute [local irreducible] stepK opK opV

end Go.V
end

section
set_option linter.unusedVariables false
set_option linter.unusedSimpArgs false
set_option linter.unusedSectionVars false
-- BUILDS
-- NEW
set_option maxHeartbeats 2000000
namespace Go.V
attribute [local irreducible] stepK opK opV

theorem stepK_one2 {E : Env} {fr : List Val} {h : Heap} (w : Wf h) {x : Opd} {a b z1 z2 : Val} (hx : (V.ev fr x).cells = [a, b]) {K : Val → Heap → Prop}
    (k : ∀ vb h', Grow h h' → h.next ≤ vb → h'.get vb = some (.cells [a, b]) → K (.slice vb 0 1 1 0) h') : stepK E fr h (.bslice 1 [z1, z2] [(0, 2, x)]) K := by
  unfold stepK
  have hf : fill fr [z1, z2] [(0, 2, x)] = some [a, b] := by
    simp [fill, hx, splice]
  simp only [step, hf]
  exact k _ _ (Grow.new w _) (Nat.le_refl _) (new_self w _)

theorem pint (ps : PinL) : (ps.flatMap pcell).all isInt = true := by
  rw [List.all_eq_true]
  intro x hx
  obtain ⟨p, _, hx⟩ := List.mem_flatMap.1 hx
  simp only [pcell, List.mem_cons, List.not_mem_nil, or_false] at hx
  rcases hx with rfl | rfl <;> rfl

theorem flat_take (ps : PinL) (i : Nat) : (ps.flatMap pcell).take (i * 2) = (ps.take i).flatMap pcell := by
  induction ps generalizing i with
  | nil => simp
  | cons p ps ih =>
    cases i with
    | zero => simp
    | succ i =>
      have := ih i
      rw [show (i + 1) * 2 = i * 2 + 2 by omega]
      simp [pcell] at this ⊢
      exact this

theorem flat_dropP (ps : PinL) (i : Nat) : (ps.flatMap pcell).drop (i * 2) = (ps.drop i).flatMap pcell := by
  induction ps generalizing i with
  | nil => simp
  | cons p ps ih =>
    cases i with
    | zero => simp
    | succ i =>
      have := ih i
      rw [show (i + 1) * 2 = i * 2 + 2 by omega]
      simp [pcell] at this ⊢
      exact this

theorem Cl.up {h0 h h' : Heap} {v : Val} {ps : PinL} (c : Cl h h' v ps) (g : h0.next ≤ h.next) : Cl h0 h' v ps := by
  rcases c with c | ⟨b, n, e0, e1, e2, e3, e4⟩
  · exact .inl c
  · exact .inr ⟨b, n, e0, e1, e2, Nat.le_trans g e3, e4⟩

theorem ins_ok {h0 h1 h : Heap} (w0 : Wf h0) (g1 : Grow h0 h1) (g : Grow h1 h) {v : Val} {ps : PinL} (hc : Cl h0 h1 v ps) (hn : ps.length ≤ 100000) {vb i : Nat} {r c : Int} (hvb : h1.next ≤ vb) (hv : h.get vb = some (.cells [.int .u64 r, .int .i64 c])) (hi : i ≤ ps.length) :
    WC E09 31 [v, .int .i64 (i : Int), .slice vb 0 1 1 0] h fun u h' => Grow h0 h' ∧ ∃ b, u = .slice b 0 (ps.length + 1) (ps.length + 1) 2 ∧ h0.next ≤ b ∧ h'.get b = some (.cells ((ps.take i ++ [(r, c)] ++ ps.drop i).flatMap pcell)) := by
  have g0 := g1.trans g
  have w := g0.wf w0
  have wc := wfC_of w
  rcases hc with ⟨rfl, hv0⟩ | ⟨b, n, hn0, rfl, rfl, hb, hg⟩
  · obtain rfl : i = 0 := by simpa using hi
    refine WC.prim (v := .slice h.next 0 1 1 2) (h' := (h.new (.cells [.int .u64 r, .int .i64 c])).2) rfl ?_ ⟨g0.trans (Grow.new w _), h.next, rfl, g0.next, by rw [new_self w]; rfl⟩
    rcases hv0 with rfl | ⟨b, rfl⟩
    · unfold insP; simp [wc, hv, isInt]
    · unfold insP; simp [wc, hv, isInt]
  · have hg2 := g.keep _ _ hg
    have hbl := lt_of_get (g1.wf w0) hg
    have hf : h.floor ≤ b := by rw [g0.floor]; have := w0.fl; omega
    have hf2 : h.floor ≤ vb := by rw [g0.floor]; have := w0.fl; have := g1.next; omega
    have hpl := plen ps
    have e : insP wfC [.slice b 0 ps.length ps.length 2, .int .i64 (i : Int), .slice vb 0 1 1 0] h = some (.slice h.next 0 (ps.length + 1) (ps.length + 1) 2, ((h.put b none).new (.cells ((ps.take i ++ [(r, c)] ++ ps.drop i).flatMap pcell))).2) := by
      unfold insP
      simp only [wc, if_true, hv, isInt, and_self]
      rw [if_neg (by omega), if_pos ⟨trivial, Nat.le_refl _, by omega, by omega, by omega, hf, by omega, hf2⟩, hg2]
      simp only
      rw [if_pos ⟨by omega, pint ps⟩]
      have e1 : (ps.flatMap pcell).take (ps.length * 2) = ps.flatMap pcell := List.take_of_length_le (by omega)
      rw [e1, Int.toNat_natCast, flat_take, flat_dropP]
      simp [pcell]
    obtain ⟨gm, em⟩ := g0.move w0 hb (.cells ((ps.take i ++ [(r, c)] ++ ps.drop i).flatMap pcell))
    exact WC.prim rfl e ⟨gm, _, rfl, g0.next, em⟩

/-- The count at a place is changed. -/
def setN (q : PinL) (i : Nat) (n : Int) : PinL := q.set i ((q.getD i (0, 0)).1, (q.getD i (0, 0)).2 + n)

def hasP (ps : PinL) (r : Int) : Bool := ps.any fun p => p.1 == r

def slot (ps : PinL) (r : Int) : PinL := if hasP ps r then ps else ps.take (lowerB ps r) ++ [(r, 0)] ++ ps.drop (lowerB ps r)

def bump (ps : PinL) (r n : Int) : PinL := setN (slot ps r) (lowerB ps r) n

/-- More: the pins, their number, the error. -/
def moreR (ps : PinL) (t r n : Int) : PinL × Int × Int :=
  if n < 0 then ([], 0, 4) else if r = 0 then ([], 0, 14) else if n = 0 then (ps, t, 0)
  else if n > 4096 - cntP ps r ∨ (hasP ps r = false ∧ ps.length = 1024) then ([], 0, 3) else (bump ps r n, t + n, 0)

theorem setN_splice {q : PinL} {i : Nat} (hi : i < q.length) (m : Int) : splice (q.flatMap pcell) (i * 2 + 1) [.int .i64 m] = (q.set i ((q.getD i (0, 0)).1, m)).flatMap pcell := by
  induction q generalizing i with
  | nil => simp at hi
  | cons p q ih =>
    cases i with
    | zero => simp [splice, pcell]
    | succ i =>
      have := ih (i := i) (by simpa using hi)
      rw [show (i + 1) * 2 + 1 = (i * 2 + 1) + 2 by omega]
      simp [splice, pcell] at this ⊢
      exact this

theorem cell_atP {q : PinL} {i : Nat} (hi : i < q.length) : ((q.flatMap pcell).drop (i * 2 + 1)).take 1 = [.int .i64 (q.getD i (0, 0)).2] := by
  rw [← List.drop_drop, flat_drop (f := pcell) (sz := 2) (fun _ => rfl) q i hi]
  simp [pcell, List.getD_eq_getElem?_getD, hi]

/-- A result: pins and an error. -/
def PRes (h : Heap) (v : Val) (x : PinL × Int × Int) : Prop := ∃ s, v = .tup [.agg [s, .int .i64 x.2.1], .int .i64 x.2.2] ∧ Ps h s x.1

theorem Keep.ps {h h' : Heap} (k : Keep h h') {s : Val} {ps : PinL} (e : Ps h s ps) : Ps h' s ps := Keep.sl k e

theorem ps_nil {h : Heap} : Ps h .nils [] := ⟨rfl, .inl ⟨rfl, rfl⟩⟩

theorem one2 {s : Val} (hs : Val.one s = true) (k : IntKind) (d : Int) : [s, .int k d].all Val.one = true := by
  simp only [List.all_cons, List.all_nil, hs, Bool.and_true]; rfl

theorem ps_one {h : Heap} {s : Val} {ps : PinL} (hs : Ps h s ps) : s.cells = [s] ∧ Val.one s = true := by
  rcases hs.2 with ⟨rfl, _⟩ | ⟨_, _, _, _, rfl, _⟩ <;> exact ⟨rfl, rfl⟩

theorem has_lt {ps : PinL} {r : Int} (ha : Asc ps) (h : hasP ps r = true) : lowerB ps r < ps.length := by
  rcases Nat.lt_or_ge (lowerB ps r) ps.length with q | q
  · exact q
  · have := any_none ha (r := r) (by have := lowerB_le ps r; omega)
    unfold hasP at h
    rw [this] at h; cases h

theorem slot_lt {ps : PinL} {r : Int} (ha : Asc ps) : lowerB ps r < (slot ps r).length := by
  unfold slot
  split
  · rename_i h; exact has_lt ha h
  · have := lowerB_le ps r
    simp; omega

theorem more_ok {h : Heap} (w : Wf h) {s : Val} {ps : PinL} {t r n : Int} (hs : Ps h s ps) (ha : Asc ps) (hn : ps.length ≤ 1024) (hc : ∀ p ∈ ps, 0 ≤ p.2 ∧ p.2 ≤ 4096) (ht : 0 ≤ t ∧ t ≤ 1099511627776) :
    WC E09 16 [.agg [s, .int .i64 t], .int .u64 r, .int .i64 n] h fun v h' => Grow h h' ∧ PRes h' v (moreR ps t r n) := by
  refine WC.fn1 (n := 72) rfl rfl (by rfl) ?_
  intro fr hl ha'
  have f0 : fr.getD 0 .undef = .agg [s, .int .i64 t] := ha' 0
  have f1 : fr.getD 1 .undef = .int .u64 r := ha' 1
  have f2 : fr.getD 2 .undef = .int .i64 n := ha' 2
  clear ha'
  have hso := ps_one hs
  have hlen := hs.lenI
  have hn4 : ps.length < 4611686018427387904 := by omega
  have hn5 : ps.length ≤ 100000 := by omega
  have hcnt : 0 ≤ cntP ps r ∧ cntP ps r ≤ 4096 := by
    unfold cntP
    split
    · rename_i h
      have h1 := has_lt ha h
      have := hc _ (List.getElem_mem h1)
      simpa [List.getD_eq_getElem?_getD, h1] using this
    · omega
  replace hc := Hid.mk hc
  replace hn := Hid.mk hn
  replace ht := Hid.mk ht
  unfold v16
  refine WE.seqR ?_
  (refine WO.op1 ?_; simp only [opK, wanted, setDst, *])
  refine stepK_box w (c := [s, .int .i64 t]) (by simp only [V.ev, *]; rfl) rfl fun b1 h1 g1 hb1 hg1 hn1 => ?_
  (refine WO.op1 ?_; simp only [opK, wanted, setDst, *])
  refine stepK_alloc (g1.wf w) fun b6 h2 g2 hb6 hg6 hn2 => ?_
  have gA := g1.trans g2
  have wB := gA.wf w
  have ld : ∀ h', Grow h2 h' → h'.load b1 0 2 = some [s, .int .i64 t] := fun h' g => g.part (g2.keep _ _ hg1) (by simp)
  have ld1 : ∀ h', Grow h2 h' → h'.load b1 0 1 = some [s] := fun h' g => g.part (g2.keep _ _ hg1) (by simp)
  have ld2 : ∀ h', Grow h2 h' → h'.load b1 1 1 = some [.int .i64 t] := fun h' g => g.part (g2.keep _ _ hg1) (by simp)
  have hs2 := gA.ps hs
  have gg := Grow.refl h2
  have hfl : h2.floor ≤ b6 := by rw [gA.floor]; have := w.fl; have := g1.next; omega
  have hb6' : h.next ≤ b6 := by have := g1.next; omega
  have B := Hid.mk (And.intro hfl (And.intro hb6' hg6))
  -- what is stored in the end
  have done : ∀ (h3 : Heap) (x : Val) (d : Int), Grow h2 h3 → ∀ h4, Wrote h3 b6 (splice [.nils, .int .i64 0] 0 [x, .int .i64 d]) h4 → Grow h h4 ∧ h4.load b6 0 2 = some [x, .int .i64 d] ∧ ∀ j y, j ≠ b6 → h3.get j = some y → h4.get j = some y :=
    fun h3 x d g h4 k => ⟨(gA.trans g).wrote B.out.2.1 w k, load_get k.at_ (by simp [splice]), fun j y hj e => by rw [k.else_ j hj]; exact e⟩
  have at6 : ∀ h3, Grow h2 h3 → h3.get b6 = some (.cells [.nils, .int .i64 0]) ∧ h3.floor ≤ b6 := fun h3 g => ⟨g.keep _ _ B.out.2.2, by rw [g.floor]; exact B.out.1⟩
  replace done := Hid.mk done
  replace at6 := Hid.mk at6
  replace gA := Hid.mk gA
  clear hg1 hg6 hn1 hn2 g1 g2 hb1 hb6 hfl hb6'
  have hs := Hid.mk hs
  unfold moreR
  by_cases c1 : n < 0
  · have d1 : decide (n < 0) = true := decide_eq_true c1
    rw [if_pos c1]
    replace c1 := Hid.mk c1
    repeat' (first | refine WE.seqR ?_ | refine WO.nil ?_ | (refine WO.op1s ?_; simp only [opK, wanted, stepK, step, setDst, pureV, arith, intBin, Val.cells, fill, List.length_cons, List.length_nil, true_and, V.ev, Nat.reduceEqDiff, Nat.reduceLT, Nat.reduceAdd, Nat.zero_add, getD_ne, getD_eq, List.length_set, if_true, *]; with_reducible show WO _ _ _ _ _) | (refine WE.cond2 (t := true) ?hc (fun _ => ?_) (fun hh => Bool.noConfusion hh); case hc => simp only [V.ev, Nat.reduceLT, getD_eq, List.length_set, *]) | refine WE.seqBlock ?_)
    (refine WO.op1 ?_; simp only [opK, wanted, setDst, *])
    refine stepK_store (b := b6) (o := 0) (us := [.nils, .int .i64 0]) (by (simp only [V.ev, Nat.reduceEqDiff, Nat.reduceLT, getD_ne, getD_eq, List.length_set, *]; try rfl)) (by (simp only [V.ev, Nat.reduceLT, getD_eq, List.length_set, *]; try rfl)) (by rfl) (at6.out _ gg).1 (at6.out _ gg).2 (by simp) (by rfl) fun h4 k4 => ?_
    obtain ⟨g4, m4, p4⟩ := done.out _ _ _ gg _ k4
    clear k4
    repeat' (first | refine WO.nil ?_ | (refine WO.op1s ?_; simp only [opK, wanted, stepK, step, setDst, true_and, V.ev, *]; with_reducible show WO _ _ _ _ _) | refine WE.ret ?_ | (with_reducible show blockQ _ _ _ _ _; simp only [blockQ, seqQ]))
    ((try dsimp only); refine Exists.intro _ ⟨(by (simp only [readResults, Nat.reduceEqDiff, Nat.reduceLT, getD_ne, getD_eq, List.length_set, if_true, *]; try rfl)), ?_⟩)
    exact ⟨g4, .nils, rfl, ps_nil⟩
  have d1 : decide (n < 0) = false := decide_eq_false c1
  rw [if_neg c1]
  by_cases c2 : r = 0
  · have d2 : (r == 0) = true := by simp [c2]
    rw [if_pos c2]
    replace c2 := Hid.mk c2
    repeat' (first | refine WE.seqR ?_ | refine WO.nil ?_ | (refine WO.op1s ?_; simp only [opK, wanted, stepK, step, setDst, pureV, arith, intBin, eqVal, eqAt, eqv, Val.isAgg, Val.cells, fill, List.length_cons, List.length_nil, true_and, and_self, Bool.and_true, List.getElem?_cons_zero, V.ev, Nat.reduceEqDiff, Nat.reduceLT, Nat.reduceAdd, Nat.zero_add, Bool.false_eq_true, decide_false, getD_ne, getD_eq, List.length_set, if_true, if_false, Bool.not_true, *]; with_reducible show WO _ _ _ _ _) | (refine WE.cond2 (t := true) ?hc (fun _ => ?_) (fun hh => Bool.noConfusion hh); case hc => simp only [V.ev, Nat.reduceLT, getD_eq, List.length_set, *]) | (refine WE.cond2 (t := false) ?hc (fun hh => Bool.noConfusion hh) (fun _ => ?_); case hc => simp only [V.ev, Nat.reduceLT, getD_eq, List.length_set, *]) | refine WE.seqBlock ?_)
    (refine WO.op1 ?_; simp only [opK, wanted, setDst, *])
    refine stepK_store (b := b6) (o := 0) (us := [.nils, .int .i64 0]) (by (simp only [V.ev, Nat.reduceEqDiff, Nat.reduceLT, getD_ne, getD_eq, List.length_set, *]; try rfl)) (by (simp only [V.ev, Nat.reduceLT, getD_eq, List.length_set, *]; try rfl)) (by rfl) (at6.out _ gg).1 (at6.out _ gg).2 (by simp) (by rfl) fun h4 k4 => ?_
    obtain ⟨g4, m4, p4⟩ := done.out _ _ _ gg _ k4
    clear k4
    repeat' (first | refine WO.nil ?_ | (refine WO.op1s ?_; simp only [opK, wanted, stepK, step, setDst, true_and, V.ev, *]; with_reducible show WO _ _ _ _ _) | refine WE.ret ?_ | (with_reducible show blockQ _ _ _ _ _; simp only [blockQ, seqQ]))
    ((try dsimp only); refine Exists.intro _ ⟨(by (simp only [readResults, Nat.reduceEqDiff, Nat.reduceLT, getD_ne, getD_eq, List.length_set, if_true, *]; try rfl)), ?_⟩)
    exact ⟨g4, .nils, rfl, ps_nil⟩
  have d2 : (r == 0) = false := by simp [c2]
  rw [if_neg c2]
  replace c2 := Hid.mk c2
  by_cases c3 : n = 0
  · have d3 : (n == 0) = true := by simp [c3]
    rw [if_pos c3]
    replace c3 := Hid.mk c3
    have ld0 := ld _ gg
    repeat' (first | refine WE.seqR ?_ | refine WO.nil ?_ | (refine WO.op1s ?_; simp only [opK, wanted, stepK, step, setDst, pureV, arith, intBin, eqVal, eqAt, eqv, Val.isAgg, Val.cells, List.length_cons, List.length_nil, true_and, and_self, Bool.and_true, List.getElem?_cons_zero, V.ev, Nat.reduceEqDiff, Nat.reduceLT, Nat.reduceAdd, Nat.zero_add, Bool.false_eq_true, decide_false, getD_ne, getD_eq, List.length_set, if_true, if_false, Bool.not_true, Bool.not_false, *]; with_reducible show WO _ _ _ _ _) | (refine WE.cond2 (t := true) ?hc (fun _ => ?_) (fun hh => Bool.noConfusion hh); case hc => simp only [V.ev, Nat.reduceLT, getD_eq, List.length_set, *]) | (refine WE.cond2 (t := false) ?hc (fun hh => Bool.noConfusion hh) (fun _ => ?_); case hc => simp only [V.ev, Nat.reduceLT, getD_eq, List.length_set, *]) | refine WE.seqBlock ?_)
    (refine WO.op1 ?_; simp only [opK, wanted, setDst, *])
    refine stepK_store (b := b6) (o := 0) (us := [s, .int .i64 t]) (by (simp only [V.ev, Nat.reduceEqDiff, Nat.reduceLT, getD_ne, getD_eq, List.length_set, *]; try rfl)) (by (simp only [V.ev, Nat.reduceLT, getD_eq, List.length_set, *]; try rfl)) (by rfl) (at6.out _ gg).1 (at6.out _ gg).2 (by simp) (one2 hso.2 _ _) fun h4 k4 => ?_
    obtain ⟨g4, m4, p4⟩ := done.out _ _ _ gg _ k4
    clear k4
    repeat' (first | refine WO.nil ?_ | (refine WO.op1s ?_; simp only [opK, wanted, stepK, step, setDst, true_and, V.ev, *]; with_reducible show WO _ _ _ _ _) | refine WE.ret ?_ | (with_reducible show blockQ _ _ _ _ _; simp only [blockQ, seqQ]))
    ((try dsimp only); refine Exists.intro _ ⟨(by (simp only [readResults, Nat.reduceEqDiff, Nat.reduceLT, getD_ne, getD_eq, List.length_set, if_true, *]; try rfl)), ?_⟩)
    exact ⟨g4, s, rfl, g4.ps hs.out⟩
  have d3 : (n == 0) = false := by simp [c3]
  rw [if_neg c3]
  replace c3 := Hid.mk c3
  have u1 : IntKind.i64.wrap (4096 - cntP ps r) = 4096 - cntP ps r := wrap_i64 (by omega) (by omega)
  have ld0 := ld _ gg
  by_cases c4 : n > 4096 - cntP ps r
  · have d4 : decide (n > 4096 - cntP ps r) = true := decide_eq_true c4
    rw [if_pos (.inl c4)]
    replace c4 := Hid.mk c4
    repeat' (first | refine WE.assoc ?_ | refine WE.seqR ?_ | refine WO.nil ?_ | (refine WO.op1s ?_; simp only [opK, wanted, stepK, step, setDst, pureV, arith, intBin, evs, eqVal, eqAt, eqv, Val.isAgg, Val.cells, fill, List.length_cons, List.length_nil, true_and, and_self, Bool.and_true, List.getElem?_cons_zero, List.getElem?_cons_succ, V.ev, Nat.reduceEqDiff, Nat.reduceLT, Nat.reduceAdd, Nat.zero_add, Bool.false_eq_true, decide_false, getD_ne, getD_eq, List.length_set, if_true, if_false, Bool.true_beq, Bool.not_false, *]; with_reducible show WO _ _ _ _ _) | (refine WO.callG (f := 28) (g := none) wB gg _ rfl (fun h1 w1 k1 => by (simp only [evs, V.ev, Nat.reduceEqDiff, Nat.reduceLT, getD_ne, getD_eq, List.length_set, *]); exact  find_ok w1 (Keep.sl k1 hs2) ha hn4) ?_; clear gg; (rintro _ hh gg rfl; simp only [setDst])) | (refine WO.callG (f := 14) (g := none) wB gg _ rfl (fun h1 w1 k1 => by (simp only [evs, V.ev, Nat.reduceEqDiff, Nat.reduceLT, getD_ne, getD_eq, List.length_set, *]); exact  pcount_ok w1 (Keep.sl k1 hs2) ha hn4) ?_; clear gg; (rintro _ hh gg rfl; simp only [setDst])) | (refine WE.seqCond (t := true) ?hc (fun _ => ?_) (fun hh => Bool.noConfusion hh); case hc => simp only [V.ev, Nat.reduceLT, getD_eq, List.length_set, *]) | refine WE.skip ?_ | (refine WE.cond2 (t := false) ?hc (fun hh => Bool.noConfusion hh) (fun _ => ?_); case hc => simp only [V.ev, Nat.reduceLT, getD_eq, List.length_set, *]) | refine WE.seqBlock ?_)
    (refine WO.op1 ?_; simp only [opK, wanted, setDst, *])
    refine stepK_store (b := b6) (o := 0) (us := [.nils, .int .i64 0]) (by (simp only [V.ev, Nat.reduceEqDiff, Nat.reduceLT, getD_ne, getD_eq, List.length_set, *]; try rfl)) (by (simp only [V.ev, Nat.reduceLT, getD_eq, List.length_set, *]; try rfl)) (by rfl) (at6.out _ gg).1 (at6.out _ gg).2 (by simp) (by rfl) fun h4 k4 => ?_
    obtain ⟨g4, m4, p4⟩ := done.out _ _ _ gg _ k4
    clear k4
    repeat' (first | refine WO.nil ?_ | (refine WO.op1s ?_; simp only [opK, wanted, stepK, step, setDst, true_and, V.ev, *]; with_reducible show WO _ _ _ _ _) | refine WE.seqRet ?_)
    ((try dsimp only); refine Exists.intro _ ⟨(by (simp only [readResults, Nat.reduceEqDiff, Nat.reduceLT, getD_ne, getD_eq, List.length_set, if_true, *]; try rfl)), ?_⟩)
    exact ⟨g4, .nils, rfl, ps_nil⟩
  have d4 : decide (n > 4096 - cntP ps r) = false := decide_eq_false c4
  have hn9 : 0 < n ∧ n ≤ 4096 := by have := c3.out; omega
  have hslot : ((slot ps r).getD (lowerB ps r) (0, 0)).2 = cntP ps r := by
    unfold slot cntP hasP
    split
    · rfl
    · have := lowerB_le ps r
      rw [List.append_assoc, List.getD_eq_getElem?_getD, List.getElem?_append_right (by rw [List.length_take]; omega), List.length_take, Nat.min_eq_left this]
      simp
  have u2 : IntKind.i64.wrap (((slot ps r).getD (lowerB ps r) (0, 0)).2 + n) = ((slot ps r).getD (lowerB ps r) (0, 0)).2 + n := by rw [hslot]; exact wrap_i64 (by omega) (by omega)
  have u3 : IntKind.i64.wrap (t + n) = t + n := by have := ht.out; exact wrap_i64 (by omega) (by omega)
  have hsl := slot_lt (r := r) ha
  replace c4 := Hid.mk c4
  replace hslot := Hid.mk hslot
  cases hh : (ps.any fun p => p.1 == r) with
  | false =>
    have hh2 : hasP ps r = false := hh
    by_cases c5 : ps.length = 1024
    · have d5 : ((ps.length : Int) == 1024) = true := by simp; omega
      rw [if_pos (.inr ⟨hh2, c5⟩)]
      replace c5 := Hid.mk c5
      repeat' (first | refine WE.assoc ?_ | refine WE.seqR ?_ | refine WO.nil ?_ | (refine WO.lenOfE ?_; simp only [setDst, V.ev, Nat.reduceLT, getD_eq, List.length_set, *]; refine ⟨_, rfl, ?_⟩) | (refine WO.op1s ?_; simp only [opK, wanted, stepK, step, setDst, pureV, arith, intBin, unary, evs, eqVal, eqAt, eqv, Val.isAgg, Val.cells, fill, List.length_cons, List.length_nil, true_and, and_self, Bool.and_true, List.getElem?_cons_zero, List.getElem?_cons_succ, V.ev, Nat.reduceEqDiff, Nat.reduceLT, Nat.reduceAdd, Nat.add_zero, Nat.zero_add, Bool.false_eq_true, beq_self_eq_true, decide_false, getD_ne, getD_eq, List.length_set, if_true, if_false, Bool.not_true, Bool.not_false, *]; with_reducible show WO _ _ _ _ _) | (refine WO.callG (f := 28) (g := none) wB gg _ rfl (fun h1 w1 k1 => by (simp only [evs, V.ev, Nat.reduceEqDiff, Nat.reduceLT, getD_ne, getD_eq, List.length_set, *]); exact  find_ok w1 (Keep.sl k1 hs2) ha hn4) ?_; clear gg; (rintro _ hh gg rfl; simp only [setDst])) | (refine WO.callG (f := 14) (g := none) wB gg _ rfl (fun h1 w1 k1 => by (simp only [evs, V.ev, Nat.reduceEqDiff, Nat.reduceLT, getD_ne, getD_eq, List.length_set, *]); exact  pcount_ok w1 (Keep.sl k1 hs2) ha hn4) ?_; clear gg; (rintro _ hh gg rfl; simp only [setDst])) | (refine WE.seqCond (t := true) ?hc (fun _ => ?_) (fun hh => Bool.noConfusion hh); case hc => simp only [V.ev, Nat.reduceLT, getD_eq, List.length_set, *]) | refine WE.skip ?_ | (refine WE.cond2 (t := false) ?hc (fun hh => Bool.noConfusion hh) (fun _ => ?_); case hc => simp only [V.ev, Nat.reduceLT, getD_eq, List.length_set, *]) | (refine WO.known ?hc ?_; case hc => (simp only [wanted, Bool.true_beq, Nat.reduceEqDiff, Nat.reduceLT, getD_ne, getD_eq, List.length_set, *])) | refine WE.seqBlock ?_)
      (refine WO.op1 ?_; simp only [opK, wanted, setDst, *])
      refine stepK_store (b := b6) (o := 0) (us := [.nils, .int .i64 0]) (by (simp only [V.ev, Nat.reduceEqDiff, Nat.reduceLT, getD_ne, getD_eq, List.length_set, *]; try rfl)) (by (simp only [V.ev, Nat.reduceLT, getD_eq, List.length_set, *]; try rfl)) (by rfl) (at6.out _ gg).1 (at6.out _ gg).2 (by simp) (by rfl) fun h4 k4 => ?_
      obtain ⟨g4, m4, p4⟩ := done.out _ _ _ gg _ k4
      clear k4
      repeat' (first | refine WO.nil ?_ | (refine WO.op1s ?_; simp only [opK, wanted, stepK, step, setDst, true_and, V.ev, *]; with_reducible show WO _ _ _ _ _) | refine WE.seqRet ?_)
      ((try dsimp only); refine Exists.intro _ ⟨(by (simp only [readResults, Nat.reduceEqDiff, Nat.reduceLT, getD_ne, getD_eq, List.length_set, if_true, *]; try rfl)), ?_⟩)
      exact ⟨g4, .nils, rfl, ps_nil⟩
    · have d5 : ((ps.length : Int) == 1024) = false := by simp; omega
      rw [if_neg (by rintro (q | ⟨_, q⟩); exact c4.out q; exact c5 q)]
      replace c5 := Hid.mk c5
      repeat' (first | refine WE.assoc ?_ | refine WE.seqR ?_ | refine WO.nil ?_ | (refine WO.lenOfE ?_; simp only [setDst, V.ev, Nat.reduceLT, getD_eq, List.length_set, *]; refine ⟨_, rfl, ?_⟩) | (refine WO.op1s ?_; simp only [opK, wanted, stepK, step, setDst, pureV, arith, intBin, unary, evs, eqVal, eqAt, eqv, Val.isAgg, Val.cells, true_and, and_self, Bool.and_true, List.getElem?_cons_zero, List.getElem?_cons_succ, V.ev, Nat.reduceEqDiff, Nat.reduceLT, Nat.add_zero, Bool.false_eq_true, beq_self_eq_true, decide_false, getD_ne, getD_eq, List.length_set, if_true, if_false, Bool.not_false, *]; with_reducible show WO _ _ _ _ _) | (refine WO.callG (f := 28) (g := none) wB gg _ rfl (fun h1 w1 k1 => by (simp only [evs, V.ev, Nat.reduceEqDiff, Nat.reduceLT, getD_ne, getD_eq, List.length_set, *]); exact  find_ok w1 (Keep.sl k1 hs2) ha hn4) ?_; clear gg; (rintro _ hh gg rfl; simp only [setDst])) | (refine WO.callG (f := 14) (g := none) wB gg _ rfl (fun h1 w1 k1 => by (simp only [evs, V.ev, Nat.reduceEqDiff, Nat.reduceLT, getD_ne, getD_eq, List.length_set, *]); exact  pcount_ok w1 (Keep.sl k1 hs2) ha hn4) ?_; clear gg; (rintro _ hh gg rfl; simp only [setDst])) | refine WE.seqSkip ?_ | (refine WE.seqCond (t := false) ?hc (fun hh => Bool.noConfusion hh) (fun _ => ?_); case hc => simp only [V.ev, Nat.reduceLT, getD_eq, List.length_set, *]) | refine WE.skip ?_ | (refine WE.cond2 (t := false) ?hc (fun hh => Bool.noConfusion hh) (fun _ => ?_); case hc => simp only [V.ev, Nat.reduceLT, getD_eq, List.length_set, *]) | (refine WO.known ?hc ?_; case hc => (simp only [wanted, Bool.true_beq, Nat.reduceEqDiff, Nat.reduceLT, getD_ne, getD_eq, List.length_set, *])) | refine WE.seqBlock ?_)
      rename_i h3
      have w3 := gg.wf wB
      refine WO.call rfl ?_
      (simp only [evs, V.ev, Nat.reduceLT, getD_eq, List.length_set, *])
      refine (clone_ok w3 (gg.ps hs2) hn5).mono ?_
      rintro v4 h4 ⟨g4, hc4⟩
      simp only [setDst]
      replace gg := Hid.mk gg
      repeat' (first | refine WE.assoc ?_ | refine WE.seqR ?_ | refine WO.nil ?_ | (refine WO.op1s ?_; simp only [opK, wanted, stepK, step, setDst, pureV, unary, Val.cells, fill, splice, List.take_zero, List.drop_zero, List.drop_succ_cons, List.nil_append, List.cons_append, List.length_cons, List.length_nil, List.drop_nil, true_and, and_self, Nat.le_refl, V.ev, Nat.reduceEqDiff, Nat.reduceLT, Nat.reduceLeDiff, Nat.reduceAdd, Nat.zero_add, getD_ne, getD_eq, List.length_set, if_true, Bool.not_false, *]; with_reducible show WO _ _ _ _ _) | (refine WE.seqCond (t := true) ?hc (fun _ => ?_) (fun hh => Bool.noConfusion hh); case hc => simp only [V.ev, Nat.reduceLT, getD_eq, List.length_set, *]))
      (refine WO.op1 ?_; simp only [opK, wanted, setDst, *])
      refine stepK_one2 (g4.wf w3) (a := .int .u64 r) (b := .int .i64 0) (by (simp only [V.ev, Nat.reduceLT, getD_eq, List.length_set, *]; try rfl)) fun vb hA gA5 hvb hgA => ?_
      skip
      refine WO.call rfl ?_
      (simp only [evs, V.ev, Nat.reduceEqDiff, Nat.reduceLT, getD_ne, getD_eq, List.length_set, *])
      refine (ins_ok wB (gg.out.trans g4) gA5 (hc4.up gg.out.next) hn5 hvb hgA (lowerB_le ps r)).mono ?_
      rintro v6 h5 ⟨g5, b, rfl, hb6, hg5⟩
      simp only [setDst]
      obtain ⟨m, hm⟩ : ∃ m, m = ps.length + 1 := ⟨_, rfl⟩
      rw [← hm]
      have hq : slot ps r = ps.take (lowerB ps r) ++ [(r, 0)] ++ ps.drop (lowerB ps r) := by unfold slot; rw [hh2]; rfl
      rw [← hq] at hg5
      have hm2 : (slot ps r).length = m := by
        have := lowerB_le ps r
        rw [hq, hm]; simp; omega
      replace hm := Hid.mk (show m = (slot ps r).length ∧ lowerB ps r < m by omega)
      replace hbb := Hid.mk hb6
      clear hb6 hm2 hc4 hgA g4 gA5 hq
      have hel : eltI 2 (.slice b 0 m m 2) (.int .i64 (lowerB ps r : Int)) = some (.ptr b (lowerB ps r * 2)) := by
        simp only [eltI]; rw [if_pos ⟨by omega, by have := hm.out; omega⟩]; simp
      have ldc : h5.load b (lowerB ps r * 2 + 1) 1 = some [.int .i64 ((slot ps r).getD (lowerB ps r) (0, 0)).2] := by
        have := hm.out
        rw [load_get hg5 (by rw [plen]; omega), cell_atP (by omega)]
      have w5 := g5.wf wB
      have ld2' := ld2 _ g5
      replace g5 := Hid.mk g5
      repeat' (first | refine WE.seqR ?_ | refine WO.nil ?_ | (refine WO.iaddrE ?_; simp only [setDst, V.ev, Nat.reduceEqDiff, Nat.reduceLT, getD_ne, getD_eq, List.length_set, *]; refine ⟨_, rfl, ?_⟩) | (refine WO.op1s ?_; simp only [opK, wanted, stepK, step, setDst, pureV, arith, intBin, Val.cells, List.length_cons, List.length_nil, true_and, V.ev, Nat.reduceEqDiff, Nat.reduceLT, Nat.zero_add, Bool.false_eq_true, getD_ne, getD_eq, List.length_set, if_true, if_false, *]; with_reducible show WO _ _ _ _ _))
      (refine WO.op1 ?_; simp only [opK, wanted, setDst, *])
      refine stepK_store (b := b) (o := lowerB ps r * 2 + 1) (us := [.int .i64 (((slot ps r).getD (lowerB ps r) (0, 0)).2 + n)]) (by (simp only [V.ev, Nat.reduceLT, getD_eq, List.length_set, *]; try rfl)) (by (simp only [V.ev, Nat.reduceEqDiff, Nat.reduceLT, getD_ne, getD_eq, List.length_set, *]; try rfl)) (by rfl) hg5 (by rw [g5.out.floor]; have := wB.fl; have := hbb.out; omega) (by have := hm.out; rw [plen]; omega) (by rfl) fun h6 k6 => ?_
      have g6 := g5.out.wrote hbb.out wB k6
      have hg6 : h6.get b = some (.cells ((bump ps r n).flatMap pcell)) := by
        have := hm.out
        rw [k6.at_, setN_splice (by omega)]; rfl
      have ld2' := ld2 _ g6
      clear k6 hg5 ldc
      repeat' (first | refine WE.seqR ?_ | refine WO.nil ?_ | (refine WO.op1s ?_; simp only [opK, wanted, stepK, step, setDst, pureV, arith, intBin, Val.cells, fill, splice, List.take_zero, List.take_succ_cons, List.drop_zero, List.drop_succ_cons, List.nil_append, List.cons_append, List.length_cons, List.length_nil, List.drop_nil, true_and, and_self, Nat.le_refl, V.ev, Nat.reduceEqDiff, Nat.reduceLT, Nat.reduceLeDiff, Nat.reduceAdd, Nat.zero_add, Bool.false_eq_true, getD_ne, getD_eq, List.length_set, if_true, if_false, *]; with_reducible show WO _ _ _ _ _))
      (refine WO.op1 ?_; simp only [opK, wanted, setDst, *])
      refine stepK_store (b := b6) (o := 0) (us := [.slice b 0 m m 2, .int .i64 (t + n)]) (by (simp only [V.ev, Nat.reduceEqDiff, Nat.reduceLT, getD_ne, getD_eq, List.length_set, *]; try rfl)) (by (simp only [V.ev, Nat.reduceLT, getD_eq, List.length_set, *]; try rfl)) (by rfl) (at6.out _ g6).1 (at6.out _ g6).2 (by simp) (by rfl) fun h7 k7 => ?_
      obtain ⟨g7, m7, p7⟩ := done.out _ _ _ g6 _ k7
      have hbn : b ≠ b6 := by
        have := lt_of_get wB B.out.2.2
        have := hbb.out
        omega
      have hg7 := p7 _ _ hbn hg6
      clear k7 hg6
      repeat' (first | refine WO.nil ?_ | (refine WO.op1s ?_; simp only [opK, wanted, stepK, step, setDst, true_and, V.ev, *]; with_reducible show WO _ _ _ _ _) | refine WE.ret ?_)
      ((try dsimp only); refine Exists.intro _ ⟨(by (simp only [readResults, Nat.reduceEqDiff, Nat.reduceLT, getD_ne, getD_eq, List.length_set, if_true, *]; try rfl)), ?_⟩)
      refine ⟨g7, .slice b 0 m m 2, rfl, ?_⟩
      show Ps h7 (.slice b 0 m m 2) (bump ps r n)
      have hml : (bump ps r n).length = m := by unfold bump setN; rw [List.length_set]; have := hm.out; omega
      refine ⟨by rw [plen], .inr ⟨b, 0, m, 2, by rw [hml], .inr rfl, by rw [hml]; exact Nat.le_refl _, .inr ?_⟩⟩
      rw [load_get hg7 (by rw [plen]; omega), List.drop_zero, List.take_of_length_le (by rw [plen]; omega)]
  | true =>
    have hh2 : hasP ps r = true := hh
    rw [if_neg (by rintro (q | ⟨q, _⟩); exact c4.out q; rw [hh2] at q; cases q)]
    repeat' (first | refine WE.assoc ?_ | refine WE.seqR ?_ | refine WO.nil ?_ | (refine WO.op1s ?_; simp only [opK, wanted, stepK, step, setDst, pureV, arith, intBin, unary, evs, eqVal, eqAt, eqv, Val.isAgg, Val.cells, true_and, and_self, Bool.and_true, List.getElem?_cons_zero, List.getElem?_cons_succ, V.ev, Nat.reduceEqDiff, Nat.reduceLT, Nat.add_zero, Bool.false_eq_true, beq_self_eq_true, decide_false, getD_ne, getD_eq, List.length_set, if_true, if_false, Bool.false_beq, Bool.not_true, Bool.not_false, *]; with_reducible show WO _ _ _ _ _) | (refine WO.callG (f := 28) (g := none) wB gg _ rfl (fun h1 w1 k1 => by (simp only [evs, V.ev, Nat.reduceEqDiff, Nat.reduceLT, getD_ne, getD_eq, List.length_set, *]); exact  find_ok w1 (Keep.sl k1 hs2) ha hn4) ?_; clear gg; (rintro _ hh gg rfl; simp only [setDst])) | (refine WO.callG (f := 14) (g := none) wB gg _ rfl (fun h1 w1 k1 => by (simp only [evs, V.ev, Nat.reduceEqDiff, Nat.reduceLT, getD_ne, getD_eq, List.length_set, *]); exact  pcount_ok w1 (Keep.sl k1 hs2) ha hn4) ?_; clear gg; (rintro _ hh gg rfl; simp only [setDst])) | refine WE.seqSkip ?_ | (refine WE.seqCond (t := false) ?hc (fun hh => Bool.noConfusion hh) (fun _ => ?_); case hc => simp only [V.ev, Nat.reduceLT, getD_eq, List.length_set, *]) | refine WE.skip ?_ | (refine WE.cond2 (t := false) ?hc (fun hh => Bool.noConfusion hh) (fun _ => ?_); case hc => simp only [V.ev, Nat.reduceLT, getD_eq, List.length_set, *]) | refine WE.seqBlock ?_)
    rename_i h3
    have w3 := gg.wf wB
    refine WO.call rfl ?_
    (simp only [evs, V.ev, Nat.reduceLT, getD_eq, List.length_set, *])
    refine (clone_ok w3 (gg.ps hs2) hn5).mono ?_
    rintro v4 h5 ⟨g4, hc4⟩
    simp only [setDst]
    have hq : slot ps r = ps := by unfold slot; rw [hh2]; rfl
    rcases hc4 with ⟨rfl, _⟩ | ⟨b, m, hm0, hm, rfl, hb4, hg5⟩
    · cases hh
    rw [← hq] at hg5
    have hbb := Hid.mk (show h2.next ≤ b by have := gg.next; omega)
    have hm2 := has_lt ha hh2
    have g5 := gg.trans g4
    replace hm := Hid.mk (show m = (slot ps r).length ∧ lowerB ps r < m by rw [hq]; omega)
    clear hb4 g4 hm2 hm0 gg
    replace hq := Hid.mk hq
    have hel : eltI 2 (.slice b 0 m m 2) (.int .i64 (lowerB ps r : Int)) = some (.ptr b (lowerB ps r * 2)) := by
      simp only [eltI]; rw [if_pos ⟨by omega, by have := hm.out; omega⟩]; simp
    have ldc : h5.load b (lowerB ps r * 2 + 1) 1 = some [.int .i64 ((slot ps r).getD (lowerB ps r) (0, 0)).2] := by
      have := hm.out
      rw [load_get hg5 (by rw [plen]; omega), cell_atP (by omega)]
    have w5 := g5.wf wB
    have ld2' := ld2 _ g5
    replace g5 := Hid.mk g5
    repeat' (first | refine WE.assoc ?_ | refine WE.seqR ?_ | refine WO.nil ?_ | (refine WO.iaddrE ?_; simp only [setDst, V.ev, Nat.reduceEqDiff, Nat.reduceLT, getD_ne, getD_eq, List.length_set, *]; refine ⟨_, rfl, ?_⟩) | (refine WO.op1s ?_; simp only [opK, wanted, stepK, step, setDst, pureV, arith, intBin, unary, Val.cells, List.length_cons, List.length_nil, true_and, V.ev, Nat.reduceEqDiff, Nat.reduceLT, Nat.zero_add, Bool.false_eq_true, getD_ne, getD_eq, List.length_set, if_true, if_false, Bool.not_true, *]; with_reducible show WO _ _ _ _ _) | refine WE.seqSkip ?_ | (refine WE.seqCond (t := false) ?hc (fun hh => Bool.noConfusion hh) (fun _ => ?_); case hc => simp only [V.ev, Nat.reduceLT, getD_eq, List.length_set, *]))
    (refine WO.op1 ?_; simp only [opK, wanted, setDst, *])
    refine stepK_store (b := b) (o := lowerB ps r * 2 + 1) (us := [.int .i64 (((slot ps r).getD (lowerB ps r) (0, 0)).2 + n)]) (by (simp only [V.ev, Nat.reduceLT, getD_eq, List.length_set, *]; try rfl)) (by (simp only [V.ev, Nat.reduceEqDiff, Nat.reduceLT, getD_ne, getD_eq, List.length_set, *]; try rfl)) (by rfl) hg5 (by rw [g5.out.floor]; have := wB.fl; have := hbb.out; omega) (by have := hm.out; rw [plen]; omega) (by rfl) fun h6 k6 => ?_
    have g6 := g5.out.wrote hbb.out wB k6
    have hg6 : h6.get b = some (.cells ((bump ps r n).flatMap pcell)) := by
      have := hm.out
      rw [k6.at_, setN_splice (by omega)]; rfl
    have ld2' := ld2 _ g6
    clear k6 hg5 ldc
    repeat' (first | refine WE.seqR ?_ | refine WO.nil ?_ | (refine WO.op1s ?_; simp only [opK, wanted, stepK, step, setDst, pureV, arith, intBin, Val.cells, fill, splice, List.take_zero, List.take_succ_cons, List.drop_zero, List.drop_succ_cons, List.nil_append, List.cons_append, List.length_cons, List.length_nil, List.drop_nil, true_and, and_self, Nat.le_refl, V.ev, Nat.reduceEqDiff, Nat.reduceLT, Nat.reduceLeDiff, Nat.reduceAdd, Nat.zero_add, Bool.false_eq_true, getD_ne, getD_eq, List.length_set, if_true, if_false, *]; with_reducible show WO _ _ _ _ _))
    (refine WO.op1 ?_; simp only [opK, wanted, setDst, *])
    refine stepK_store (b := b6) (o := 0) (us := [.slice b 0 m m 2, .int .i64 (t + n)]) (by (simp only [V.ev, Nat.reduceEqDiff, Nat.reduceLT, getD_ne, getD_eq, List.length_set, *]; try rfl)) (by (simp only [V.ev, Nat.reduceLT, getD_eq, List.length_set, *]; try rfl)) (by rfl) (at6.out _ g6).1 (at6.out _ g6).2 (by simp) (by rfl) fun h7 k7 => ?_
    obtain ⟨g7, m7, p7⟩ := done.out _ _ _ g6 _ k7
    have hbn : b ≠ b6 := by
      have := lt_of_get wB B.out.2.2
      have := hbb.out
      omega
    have hg7 := p7 _ _ hbn hg6
    clear k7 hg6
    repeat' (first | refine WO.nil ?_ | (refine WO.op1s ?_; simp only [opK, wanted, stepK, step, setDst, true_and, V.ev, *]; with_reducible show WO _ _ _ _ _) | refine WE.ret ?_)
    ((try dsimp only); refine Exists.intro _ ⟨(by (simp only [readResults, Nat.reduceEqDiff, Nat.reduceLT, getD_ne, getD_eq, List.length_set, if_true, *]; try rfl)), ?_⟩)
    refine ⟨g7, .slice b 0 m m 2, rfl, ?_⟩
    show Ps h7 (.slice b 0 m m 2) (bump ps r n)
    have hml : (bump ps r n).length = m := by unfold bump setN; rw [List.length_set]; have := hm.out; omega
    refine ⟨by rw [plen], .inr ⟨b, 0, m, 2, by rw [hml], .inr rfl, by rw [hml]; exact Nat.le_refl _, .inr ?_⟩⟩
    rw [load_get hg7 (by rw [plen]; omega), List.drop_zero, List.take_of_length_le (by rw [plen]; omega)]

end Go.V
end

section
set_option linter.unusedVariables false
set_option linter.unusedSimpArgs false
set_option linter.unusedSectionVars false
-- BUILDS
-- NEW
set_option maxHeartbeats 2000000
namespace Go.V
attribute [local irreducible] stepK opK opV

theorem ps_wrote {h3 h4 : Heap} {s : Val} {ps : PinL} (hs : Ps h3 s ps) {b4 : Nat} {cs : List Val} {d : Val} (hg : h3.get b4 = some (.cells [.nils, d])) (k : Wrote h3 b4 cs h4) : Ps h4 s ps := by
  refine ⟨hs.1, ?_⟩
  rcases hs.2 with q | ⟨b, o, cap, ls, e1, e2, e3, e4⟩
  · exact .inl q
  · refine .inr ⟨b, o, cap, ls, e1, e2, e3, ?_⟩
    rcases e4 with e4 | e4
    · exact .inl e4
    · by_cases hb : b = b4
      · subst hb
        obtain ⟨c, h1, h2, h3⟩ := Heap.load_some e4
        rw [hg] at h1
        cases h1
        simp only [List.length_cons, List.length_nil] at h2
        cases ps with
        | nil => exact .inl (by simp)
        | cons p ps =>
          simp only [List.length_cons] at h2
          have : o = 0 := by omega
          subst this
          have : ps.length = 0 := by omega
          obtain rfl := List.eq_nil_of_length_eq_zero this
          simp [pcell] at h3
      · right
        unfold Heap.load at e4 ⊢
        rw [k.else_ b hb]
        exact e4

theorem stepK_build2 {E : Env} {fr : List Val} {h : Heap} {x y : Opd} {a b z1 z2 : Val} (hx : (V.ev fr x).cells = [a]) (hy : (V.ev fr y).cells = [b]) {K : Val → Heap → Prop} (k : K (.agg [a, b]) h) : stepK E fr h (.build [z1, z2] [(0, 1, x), (1, 1, y)]) K := by
  unfold stepK
  have hf : fill fr [z1, z2] [(0, 1, x), (1, 1, y)] = some [a, b] := by simp [fill, hx, hy, splice]
  simp only [step, hf]
  exact k

/-- A result at the end of a call. -/
theorem pin_ok {h : Heap} (w : Wf h) {s : Val} {ps : PinL} {t r : Int} (hs : Ps h s ps) (ha : Asc ps) (hn : ps.length ≤ 1024) (hc : ∀ p ∈ ps, 0 ≤ p.2 ∧ p.2 ≤ 4096) (ht : 0 ≤ t ∧ t ≤ 1099511627776) :
    WC E09 21 [.agg [s, .int .i64 t], .int .u64 r] h fun v h' => Grow h h' ∧ PRes h' v (moreR ps t r 1) := by
  refine WC.fn1 (n := 11) rfl rfl (by rfl) ?_
  intro fr hl ha'
  have f0 : fr.getD 0 .undef = .agg [s, .int .i64 t] := ha' 0
  have f1 : fr.getD 1 .undef = .int .u64 r := ha' 1
  clear ha'
  unfold v21
  refine WE.seqR ?_
  (refine WO.op1 ?_; simp only [opK, wanted, setDst, *])
  refine stepK_box w (c := [s, .int .i64 t]) (by simp only [V.ev, *]; rfl) rfl fun b1 h1 g1 hb1 hg1 hn1 => ?_
  (refine WO.op1 ?_; simp only [opK, wanted, setDst, *])
  refine stepK_alloc (g1.wf w) fun b6 h2 g2 hb6 hg6 hn2 => ?_
  have gA := g1.trans g2
  have wB := gA.wf w
  have ld : h2.load b1 0 2 = some [s, .int .i64 t] := g2.part hg1 (by simp)
  have hs2 := gA.ps hs
  have hb6' := Hid.mk (show h.next ≤ b6 by have := g1.next; omega)
  clear hg1 hn1 hn2 g1 g2 hb1 hb6
  have hg6' := Hid.mk hg6
  clear hg6
  repeat' (first | refine WE.seqR ?_ | refine WO.nil ?_ | (refine WO.op1s ?_; simp only [opK, wanted, stepK, step, setDst, evs, true_and, V.ev, Nat.reduceEqDiff, Nat.reduceLT, getD_ne, getD_eq, List.length_set, if_true, *]; with_reducible show WO _ _ _ _ _))
  refine WO.call rfl ?_
  (simp only [evs, V.ev, Nat.reduceEqDiff, Nat.reduceLT, getD_ne, getD_eq, List.length_set, *])
  refine (more_ok wB hs2 ha hn hc ht).mono ?_
  rintro _ h3 ⟨g3, s3, rfl, hp⟩
  simp only [setDst]
  clear hs2 ld hs
  have hg3 := g3.keep _ _ hg6'.out
  have w3 := g3.wf wB
  have hso := ps_one hp
  generalize moreR ps t r 1 = x at *
  clear ha hn hc ht
  repeat' (first | (refine WO.op1s ?_; simp only [opK, wanted, stepK, step, setDst, Val.cells, List.length_cons, List.length_nil, true_and, List.getElem?_cons_zero, List.getElem?_cons_succ, V.ev, Nat.reduceEqDiff, Nat.reduceLT, Nat.reduceAdd, Nat.zero_add, getD_ne, getD_eq, List.length_set, if_true, *]; with_reducible show WO _ _ _ _ _))
  (refine WO.op1 ?_; simp only [opK, wanted, setDst, *])
  refine stepK_store (b := b6) (o := 0) (us := [s3, .int .i64 x.2.1]) (by (simp only [V.ev, Nat.reduceEqDiff, Nat.reduceLT, getD_ne, getD_eq, List.length_set, *]; try rfl)) (by (simp only [V.ev, Nat.reduceEqDiff, Nat.reduceLT, getD_ne, getD_eq, List.length_set, *]; try rfl)) (by rfl) hg3 (by rw [(gA.trans g3).floor]; have := w.fl; have := hb6'.out; omega) (by simp) (one2 hso.2 _ _) fun h4 k4 => ?_
  have g4 := (gA.trans g3).wrote hb6'.out w k4
  have hp4 := ps_wrote hp hg3 k4
  have m4 : h4.load b6 0 2 = some [s3, .int .i64 x.2.1] := load_get k4.at_ (by simp [splice])
  clear k4 hg3 hp
  repeat' (first | refine WO.nil ?_ | (refine WO.op1s ?_; simp only [opK, wanted, stepK, step, setDst, true_and, V.ev, Nat.reduceLT, getD_eq, List.length_set, *]; with_reducible show WO _ _ _ _ _) | refine WE.ret ?_)
  ((try dsimp only); refine Exists.intro _ ⟨(by (simp only [readResults, Nat.reduceEqDiff, Nat.reduceLT, getD_ne, getD_eq, List.length_set, if_true, *]; try rfl)), ?_⟩)
  exact ⟨g4, s3, rfl, hp4⟩

def drop1 (ps : PinL) (r : Int) : PinL :=
  if ((setN ps (lowerB ps r) (-1)).getD (lowerB ps r) (0, 0)).2 = 0 then (setN ps (lowerB ps r) (-1)).eraseIdx (lowerB ps r) else setN ps (lowerB ps r) (-1)

def unpinR (ps : PinL) (t r : Int) : PinL × Int × Int := if hasP ps r then (drop1 ps r, t - 1, 0) else ([], 0, 8)

theorem setN_at {ps : PinL} {i : Nat} {n : Int} (hi : i < ps.length) : ((setN ps i n).getD i (0, 0)).2 = (ps.getD i (0, 0)).2 + n := by
  unfold setN
  simp [List.getD_eq_getElem?_getD, hi]

theorem setN_len (ps : PinL) (i : Nat) (n : Int) : (setN ps i n).length = ps.length := by
  unfold setN; simp

theorem unpin_ok {h : Heap} (w : Wf h) {s : Val} {ps : PinL} {t r : Int} (hs : Ps h s ps) (ha : Asc ps) (hn : ps.length ≤ 1024) (hc : ∀ p ∈ ps, 0 ≤ p.2 ∧ p.2 ≤ 4096) (ht : 0 ≤ t ∧ t ≤ 1099511627776) :
    WC E09 22 [.agg [s, .int .i64 t], .int .u64 r] h fun v h' => Grow h h' ∧ PRes h' v (unpinR ps t r) := by
  refine WC.fn1 (n := 45) rfl rfl (by rfl) ?_
  intro fr hl ha'
  have f0 : fr.getD 0 .undef = .agg [s, .int .i64 t] := ha' 0
  have f1 : fr.getD 1 .undef = .int .u64 r := ha' 1
  clear ha'
  have hso := ps_one hs
  have hlen := hs.lenI
  have hn4 : ps.length < 4611686018427387904 := by omega
  have hn5 : ps.length ≤ 100000 := by omega
  unfold v22
  refine WE.seqR ?_
  (refine WO.op1 ?_; simp only [opK, wanted, setDst, *])
  refine stepK_box w (c := [s, .int .i64 t]) (by simp only [V.ev, *]; rfl) rfl fun b1 h1 g1 hb1 hg1 hn1 => ?_
  (refine WO.op1 ?_; simp only [opK, wanted, setDst, *])
  refine stepK_alloc (g1.wf w) fun b6 h2 g2 hb6 hg6 hn2 => ?_
  have gA := g1.trans g2
  have wB := gA.wf w
  have ld : ∀ h', Grow h2 h' → h'.load b1 0 2 = some [s, .int .i64 t] := fun h' g => g.part (g2.keep _ _ hg1) (by simp)
  have ld1 : ∀ h', Grow h2 h' → h'.load b1 0 1 = some [s] := fun h' g => g.part (g2.keep _ _ hg1) (by simp)
  have ld2 : ∀ h', Grow h2 h' → h'.load b1 1 1 = some [.int .i64 t] := fun h' g => g.part (g2.keep _ _ hg1) (by simp)
  have hs2 := gA.ps hs
  have gg := Grow.refl h2
  have ld0 := ld _ gg
  have hb6' := Hid.mk (show h.next ≤ b6 by have := g1.next; omega)
  have hg6' := Hid.mk hg6
  have at6 : ∀ h3, Grow h2 h3 → h3.get b6 = some (.cells [.nils, .int .i64 0]) ∧ h3.floor ≤ b6 := fun h3 g => ⟨g.keep _ _ hg6, by rw [g.floor, gA.floor]; have := w.fl; have := hb6'.out; omega⟩
  clear hg1 hn1 hn2 g1 g2 hb1 hb6 hg6
  replace at6 := Hid.mk at6
  replace gA := Hid.mk gA
  unfold unpinR
  cases hh : (ps.any fun p => p.1 == r) with
  | false =>
    have hh2 : hasP ps r = false := hh
    rw [hh2]
    simp only [Bool.false_eq_true, if_false]
    repeat' (first | refine WE.assoc ?_ | refine WE.seqR ?_ | refine WO.nil ?_ | (refine WO.op1s ?_; simp only [opK, wanted, stepK, step, setDst, pureV, unary, evs, Val.cells, fill, List.length_cons, List.length_nil, true_and, List.getElem?_cons_zero, List.getElem?_cons_succ, V.ev, Nat.reduceEqDiff, Nat.reduceLT, Nat.reduceAdd, Nat.zero_add, getD_ne, getD_eq, List.length_set, if_true, Bool.not_false, *]; with_reducible show WO _ _ _ _ _) | (refine WO.callG (f := 28) (g := none) wB gg _ rfl (fun h1 w1 k1 => by (simp only [evs, V.ev, Nat.reduceEqDiff, Nat.reduceLT, getD_ne, getD_eq, List.length_set, *]); exact  find_ok w1 (Keep.sl k1 hs2) ha hn4) ?_; clear gg; (rintro _ hh gg rfl; simp only [setDst])) | (refine WE.seqCond (t := true) ?hc (fun _ => ?_) (fun hh => Bool.noConfusion hh); case hc => simp only [V.ev, Nat.reduceLT, getD_eq, List.length_set, *]))
    (refine WO.op1 ?_; simp only [opK, wanted, setDst, *])
    refine stepK_store (b := b6) (o := 0) (us := [.nils, .int .i64 0]) (by (simp only [V.ev, Nat.reduceEqDiff, Nat.reduceLT, getD_ne, getD_eq, List.length_set, *]; try rfl)) (by (simp only [V.ev, Nat.reduceLT, getD_eq, List.length_set, *]; try rfl)) (by rfl) (at6.out _ gg).1 (at6.out _ gg).2 (by simp) (by rfl) fun h4 k4 => ?_
    have g4 := (gA.out.trans gg).wrote hb6'.out w k4
    have m4 : h4.load b6 0 2 = some [.nils, .int .i64 0] := load_get k4.at_ (by simp [splice])
    clear k4
    repeat' (first | refine WO.nil ?_ | (refine WO.op1s ?_; simp only [opK, wanted, stepK, step, setDst, true_and, V.ev, *]; with_reducible show WO _ _ _ _ _) | refine WE.seqRet ?_)
    ((try dsimp only); refine Exists.intro _ ⟨(by (simp only [readResults, Nat.reduceEqDiff, Nat.reduceLT, getD_ne, getD_eq, List.length_set, if_true, *]; try rfl)), ?_⟩)
    exact ⟨g4, .nils, rfl, ps_nil⟩
  | true =>
    have hh2 : hasP ps r = true := hh
    have hlt := has_lt ha hh2
    have hcb := hc _ (List.getElem_mem hlt)
    have hgd : ps.getD (lowerB ps r) (0, 0) = ps[lowerB ps r] := by simp [List.getD_eq_getElem?_getD, hlt]
    rw [← hgd] at hcb
    rw [hh2]
    simp only [if_true]
    have u2 : IntKind.i64.wrap ((ps.getD (lowerB ps r) (0, 0)).2 - 1) = (ps.getD (lowerB ps r) (0, 0)).2 + -1 := by rw [wrap_i64 (by omega) (by omega)]; omega
    have u3 : IntKind.i64.wrap (t - 1) = t - 1 := wrap_i64 (by omega) (by omega)
    have u4 : IntKind.i64.wrap ((lowerB ps r : Int) + 1) = ((lowerB ps r + 1 : Nat) : Int) := wrap_add (b := 1) (by omega)
    replace hc := Hid.mk hc
    replace hn := Hid.mk hn
    replace ht := Hid.mk ht
    replace hcb := Hid.mk hcb
    replace hgd := Hid.mk hgd
    repeat' (first | refine WE.assoc ?_ | refine WE.seqR ?_ | refine WO.nil ?_ | (refine WO.op1s ?_; simp only [opK, wanted, stepK, step, setDst, pureV, unary, evs, true_and, List.getElem?_cons_zero, List.getElem?_cons_succ, V.ev, Nat.reduceEqDiff, Nat.reduceLT, Nat.add_zero, Bool.false_eq_true, getD_ne, getD_eq, List.length_set, if_true, if_false, Bool.not_true, *]; with_reducible show WO _ _ _ _ _) | (refine WO.callG (f := 28) (g := none) wB gg _ rfl (fun h1 w1 k1 => by (simp only [evs, V.ev, Nat.reduceEqDiff, Nat.reduceLT, getD_ne, getD_eq, List.length_set, *]); exact  find_ok w1 (Keep.sl k1 hs2) ha hn4) ?_; clear gg; (rintro _ hh gg rfl; simp only [setDst])) | refine WE.seqSkip ?_ | (refine WE.seqCond (t := false) ?hc (fun hh => Bool.noConfusion hh) (fun _ => ?_); case hc => simp only [V.ev, Nat.reduceLT, getD_eq, List.length_set, *]))
    have w3 := gg.wf wB
    refine WO.call rfl ?_
    (simp only [evs, V.ev, Nat.reduceLT, getD_eq, List.length_set, *])
    refine (clone_ok w3 (gg.ps hs2) hn5).mono ?_
    rintro v4 h5 ⟨g4, hc4⟩
    simp only [setDst]
    rcases hc4 with ⟨rfl, _⟩ | ⟨b, m, hm0, hm, rfl, hb4, hg5⟩
    · cases hh
    have hbb := Hid.mk (show h2.next ≤ b by have := gg.next; omega)
    have g5 := gg.trans g4
    have w5 := g5.wf wB
    have hel : eltI 2 (.slice b 0 m m 2) (.int .i64 (lowerB ps r : Int)) = some (.ptr b (lowerB ps r * 2)) := by
      simp only [eltI]; rw [if_pos ⟨by omega, by omega⟩]; simp
    have ldc : h5.load b (lowerB ps r * 2 + 1) 1 = some [.int .i64 (ps.getD (lowerB ps r) (0, 0)).2] := by
      rw [load_get hg5 (by rw [plen]; omega), cell_atP hlt]
    have fl5 : h5.floor ≤ b := by rw [g5.floor]; have := wB.fl; have := hbb.out; omega
    replace hm := Hid.mk hm
    clear hb4 hm0 gg g4
    replace g5 := Hid.mk g5
    repeat' (first | refine WE.assoc ?_ | refine WE.seqR ?_ | refine WO.nil ?_ | (refine WO.iaddrE ?_; simp only [setDst, V.ev, Nat.reduceEqDiff, Nat.reduceLT, getD_ne, getD_eq, List.length_set, *]; refine ⟨_, rfl, ?_⟩) | (refine WO.op1s ?_; simp only [opK, wanted, stepK, step, setDst, pureV, arith, intBin, Val.cells, List.length_cons, List.length_nil, true_and, V.ev, Nat.reduceEqDiff, Nat.reduceLT, Nat.zero_add, Int.reduceNeg, Bool.false_eq_true, getD_ne, getD_eq, List.length_set, if_true, if_false, *]; with_reducible show WO _ _ _ _ _))
    (refine WO.op1 ?_; simp only [opK, wanted, setDst, Int.reduceNeg, *])
    refine stepK_store (b := b) (o := lowerB ps r * 2 + 1) (us := [.int .i64 ((ps.getD (lowerB ps r) (0, 0)).2 + -1)]) (by (simp only [V.ev, Nat.reduceLT, Int.reduceNeg, getD_eq, List.length_set, *]; try rfl)) (by (simp only [V.ev, Nat.reduceEqDiff, Nat.reduceLT, Int.reduceNeg, getD_ne, getD_eq, List.length_set, *]; try rfl)) (by rfl) hg5 fl5 (by rw [plen]; omega) (by rfl) fun h6 k6 => ?_
    have g6 := g5.out.wrote hbb.out wB k6
    have hg6 : h6.get b = some (.cells ((setN ps (lowerB ps r) (-1)).flatMap pcell)) := by
      rw [k6.at_, setN_splice hlt]; rfl
    obtain ⟨q, hq⟩ : ∃ q, q = setN ps (lowerB ps r) (-1) := ⟨_, rfl⟩
    have hql : q.length = ps.length := by rw [hq, setN_len]
    have hqa : (q.getD (lowerB ps r) (0, 0)).2 = (ps.getD (lowerB ps r) (0, 0)).2 + -1 := by rw [hq, setN_at hlt]
    have hd1 : drop1 ps r = if (q.getD (lowerB ps r) (0, 0)).2 = 0 then q.eraseIdx (lowerB ps r) else q := by unfold drop1; rw [← hq]
    rw [← hq] at hg6
    have ldd : h6.load b (lowerB ps r * 2 + 1) 1 = some [.int .i64 (q.getD (lowerB ps r) (0, 0)).2] := by
      rw [load_get hg6 (by rw [plen]; omega), cell_atP (by omega)]
    have ld6 := ld2 _ g6
    rw [hd1]
    replace hq := Hid.mk (And.intro hq (And.intro hqa hd1))
    clear k6 hg5 ldc fl5 hqa hd1
    by_cases hz : (q.getD (lowerB ps r) (0, 0)).2 = 0
    · have dz : ((q.getD (lowerB ps r) (0, 0)).2 == 0) = true := by simpa using hz
      rw [if_pos hz]
      replace hz := Hid.mk hz
      repeat' (first | refine WE.assoc ?_ | refine WE.seqR ?_ | refine WO.nil ?_ | (refine WO.iaddrE ?_; simp only [setDst, V.ev, Nat.reduceEqDiff, Nat.reduceLT, getD_ne, getD_eq, List.length_set, *]; refine ⟨_, rfl, ?_⟩) | (refine WO.op1s ?_; simp only [opK, wanted, stepK, step, setDst, pureV, arith, intBin, evs, eqVal, eqAt, eqv, Val.isAgg, Val.cells, true_and, and_self, Bool.and_true, List.getElem?_cons_zero, V.ev, Nat.reduceEqDiff, Nat.reduceLT, Int.reduceNeg, Bool.false_eq_true, getD_ne, getD_eq, List.length_set, if_true, if_false, Bool.not_true, *]; with_reducible show WO _ _ _ _ _) | (refine WE.seqCond (t := true) ?hc (fun _ => ?_) (fun hh => Bool.noConfusion hh); case hc => simp only [V.ev, Nat.reduceLT, getD_eq, List.length_set, *]))
      refine WO.call rfl ?_
      (simp only [evs, V.ev, Nat.reduceEqDiff, Nat.reduceLT, Int.reduceNeg, getD_ne, getD_eq, List.length_set, *])
      refine (delete_ok wB g6 hbb.out hg6 (by rw [hql]; exact hm.out) (by have := hm.out; omega) (by have := hm.out; omega)).mono ?_
      rintro v7 h7 ⟨g7, hp7⟩
      simp only [setDst]
      have ld7 := ld2 _ g7
      have hs7 := ps_one hp7
      clear ld6 g6 hg6 ldd
      repeat' (first | refine WE.seqR ?_ | refine WO.nil ?_ | (refine WO.op1s ?_; simp only [opK, wanted, stepK, step, setDst, pureV, arith, intBin, Val.cells, fill, splice, List.take_zero, List.nil_append, List.length_cons, List.length_nil, true_and, and_true, V.ev, Nat.reduceEqDiff, Nat.reduceLT, Nat.reduceLeDiff, Nat.reduceAdd, Nat.zero_add, Int.reduceNeg, Bool.false_eq_true, getD_ne, getD_eq, List.length_set, if_true, if_false, *]; with_reducible show WO _ _ _ _ _))
      (refine WO.op1 ?_; simp only [opK, wanted, setDst, Int.reduceNeg, *])
      refine stepK_build2 (a := v7) (b := .int .i64 (t - 1)) (by (simp only [V.ev, Nat.reduceEqDiff, Nat.reduceLT, Int.reduceNeg, getD_ne, getD_eq, List.length_set, *]; try rfl)) (by (simp only [V.ev, Nat.reduceLT, Int.reduceNeg, getD_eq, List.length_set, *]; try rfl)) ?_
      skip
      (refine WO.op1 ?_; simp only [opK, wanted, setDst, Int.reduceNeg, *])
      refine stepK_store (b := b6) (o := 0) (us := [v7, .int .i64 (t - 1)]) (by (simp only [V.ev, Nat.reduceEqDiff, Nat.reduceLT, Int.reduceNeg, getD_ne, getD_eq, List.length_set, *]; try rfl)) (by (simp only [V.ev, Nat.reduceLT, Int.reduceNeg, getD_eq, List.length_set, *]; try rfl)) (by rfl) (at6.out _ g7).1 (at6.out _ g7).2 (by simp) (one2 hs7.2 _ _) fun h8 k8 => ?_
      have g8 := (gA.out.trans g7).wrote hb6'.out w k8
      have hp8 := ps_wrote hp7 (at6.out _ g7).1 k8
      have m8 : h8.load b6 0 2 = some [v7, .int .i64 (t - 1)] := load_get k8.at_ (by simp [splice])
      clear k8 hp7
      repeat' (first | refine WO.nil ?_ | (refine WO.op1s ?_; simp only [opK, wanted, stepK, step, setDst, true_and, V.ev, Int.reduceNeg, *]; with_reducible show WO _ _ _ _ _) | refine WE.ret ?_)
      ((try dsimp only); refine Exists.intro _ ⟨(by (simp only [readResults, Nat.reduceEqDiff, Nat.reduceLT, Int.reduceNeg, getD_ne, getD_eq, List.length_set, if_true, *]; try rfl)), ?_⟩)
      exact ⟨g8, v7, rfl, hp8⟩
    · have dz : ((q.getD (lowerB ps r) (0, 0)).2 == 0) = false := by simpa using hz
      rw [if_neg hz]
      replace hz := Hid.mk hz
      have hp6 : Ps h6 (.slice b 0 m m 2) q := by
        refine ⟨by rw [plen], .inr ⟨b, 0, m, 2, by rw [hql, ← hm.out], .inr rfl, by rw [hql, ← hm.out]; exact Nat.le_refl _, .inr ?_⟩⟩
        rw [load_get hg6 (by rw [plen]; omega), List.drop_zero, List.take_of_length_le (by rw [plen]; omega)]
      repeat' (first | refine WE.assoc ?_ | refine WE.seqR ?_ | refine WO.nil ?_ | (refine WO.iaddrE ?_; simp only [setDst, V.ev, Nat.reduceEqDiff, Nat.reduceLT, getD_ne, getD_eq, List.length_set, *]; refine ⟨_, rfl, ?_⟩) | (refine WO.op1s ?_; simp only [opK, wanted, stepK, step, setDst, pureV, arith, intBin, eqVal, eqAt, eqv, Val.isAgg, Val.cells, fill, splice, List.take_zero, List.take_succ_cons, List.drop_zero, List.drop_succ_cons, List.nil_append, List.cons_append, List.length_cons, List.length_nil, List.drop_nil, true_and, and_self, Nat.le_refl, Bool.and_true, List.getElem?_cons_zero, V.ev, Nat.reduceEqDiff, Nat.reduceLT, Nat.reduceLeDiff, Nat.reduceAdd, Nat.zero_add, Int.reduceNeg, Bool.false_eq_true, getD_ne, getD_eq, List.length_set, if_true, if_false, Bool.not_false, *]; with_reducible show WO _ _ _ _ _) | refine WE.seqSkip ?_ | (refine WE.seqCond (t := false) ?hc (fun hh => Bool.noConfusion hh) (fun _ => ?_); case hc => simp only [V.ev, Nat.reduceLT, getD_eq, List.length_set, *]))
      (refine WO.op1 ?_; simp only [opK, wanted, setDst, Int.reduceNeg, *])
      refine stepK_store (b := b6) (o := 0) (us := [.slice b 0 m m 2, .int .i64 (t - 1)]) (by (simp only [V.ev, Nat.reduceEqDiff, Nat.reduceLT, Int.reduceNeg, getD_ne, getD_eq, List.length_set, *]; try rfl)) (by (simp only [V.ev, Nat.reduceLT, Int.reduceNeg, getD_eq, List.length_set, *]; try rfl)) (by rfl) (at6.out _ g6).1 (at6.out _ g6).2 (by simp) (by rfl) fun h8 k8 => ?_
      have g8 := (gA.out.trans g6).wrote hb6'.out w k8
      have hp8 := ps_wrote hp6 (at6.out _ g6).1 k8
      have m8 : h8.load b6 0 2 = some [.slice b 0 m m 2, .int .i64 (t - 1)] := load_get k8.at_ (by simp [splice])
      clear k8 hp6
      repeat' (first | refine WO.nil ?_ | (refine WO.op1s ?_; simp only [opK, wanted, stepK, step, setDst, true_and, V.ev, Int.reduceNeg, *]; with_reducible show WO _ _ _ _ _) | refine WE.ret ?_)
      ((try dsimp only); refine Exists.intro _ ⟨(by (simp only [readResults, Nat.reduceEqDiff, Nat.reduceLT, Int.reduceNeg, getD_ne, getD_eq, List.length_set, if_true, *]; try rfl)), ?_⟩)
      exact ⟨g8, .slice b 0 m m 2, rfl, hp8⟩

end Go.V
end

section
set_option linter.unusedVariables false
set_option linter.unusedSimpArgs false
set_option linter.unusedSectionVars false
-- BUILDS
-- NEW
set_option maxHeartbeats 2000000
namespace Go.V
attribute [local irreducible] stepK opK opV

theorem us_load {h h1 : Heap} {s : Val} {xs : List Int} (hs : Us h s xs) {i : Nat} (hi : i < xs.length) (g : Keep h h1) : ∃ b o, eltI 1 s (.int .i64 (i : Int)) = some (.ptr b o) ∧ ∀ h2, Keep h1 h2 → h2.load b o 1 = some [.int .u64 xs[i]] := by
  obtain ⟨bx, o, he, le⟩ := Sl.elt hs (k := .i64) hi (by omega)
  refine ⟨bx, o, he, fun h2 g2 => ?_⟩
  have := le h2 (g.trans g2) 0 1 (by omega)
  rw [Nat.add_zero, Nat.mul_one, Nat.add_zero, List.drop_eq_getElem_cons (by simpa using hi)] at this
  simpa using this

end Go.V
end

section
set_option linter.unusedVariables false
set_option linter.unusedSimpArgs false
set_option linter.unusedSectionVars false
-- DRAWS
-- BUILDS
-- NEW
set_option maxHeartbeats 2000000
namespace Go.V
attribute [local irreducible] stepK opK opV

/-- The revisions that are held, ascending. -/
def HeldOf (xs o : List Int) : Prop := o.Pairwise (· < ·) ∧ ∀ x, x ∈ o ↔ x ∈ xs ∧ 0 < x

theorem asc_ext : ∀ {a b : List Int}, a.Pairwise (· < ·) → b.Pairwise (· < ·) → (∀ x, x ∈ a ↔ x ∈ b) → a = b
  | [], [], _, _, _ => rfl
  | [], y :: b, _, _, h => by have := (h y).2 (by simp); simp at this
  | x :: a, [], _, _, h => by have := (h x).1 (by simp); simp at this
  | x :: a, y :: b, ha, hb, h => by
    obtain ⟨a1, a2⟩ := List.pairwise_cons.1 ha
    obtain ⟨b1, b2⟩ := List.pairwise_cons.1 hb
    have hxy : x = y := by
      have h1 := (h x).1 (by simp)
      have h2 := (h y).2 (by simp)
      rcases List.mem_cons.1 h1 with q | q
      · exact q
      · rcases List.mem_cons.1 h2 with p | p
        · exact p.symm
        · have := b1 _ q; have := a1 _ p; omega
    subst hxy
    rw [asc_ext a2 b2 fun z => ?_]
    constructor
    · intro hz
      have := (h z).1 (List.mem_cons_of_mem _ hz)
      rcases List.mem_cons.1 this with q | q
      · subst q; have := a1 _ hz; omega
      · exact q
    · intro hz
      have := (h z).2 (List.mem_cons_of_mem _ hz)
      rcases List.mem_cons.1 this with q | q
      · subst q; have := b1 _ hz; omega
      · exact q

theorem HeldOf.uniq {xs a b : List Int} (ha : HeldOf xs a) (hb : HeldOf xs b) : a = b := asc_ext ha.1 hb.1 fun x => (ha.2 x).trans (hb.2 x).symm

end Go.V
end

section
set_option linter.unusedVariables false
set_option linter.unusedSimpArgs false
set_option linter.unusedSectionVars false
-- DRAWS
-- BUILDS
-- NEW
set_option maxHeartbeats 2000000
namespace Go.V
attribute [local irreducible] stepK opK opV

end Go.V
end

section
set_option linter.unusedVariables false
set_option linter.unusedSimpArgs false
set_option linter.unusedSectionVars false
namespace Go.V

def look : PinL → Int → Int
  | [], _ => 0
  | p :: ps, r => if p.1 = r then p.2 else look ps r

theorem look_none {r : Int} : ∀ {ps : PinL}, (∀ p ∈ ps, p.1 ≠ r) → look ps r = 0
  | [], _ => rfl
  | p :: ps, h => by
    unfold look
    rw [if_neg (h p (by simp)), look_none fun q hq => h q (List.mem_cons_of_mem _ hq)]

theorem look_mid {r c : Int} {B : PinL} : ∀ {A : PinL}, (∀ p ∈ A, p.1 ≠ r) → look (A ++ (r, c) :: B) r = c
  | [], _ => by simp [look]
  | p :: A, h => by
    rw [List.cons_append]
    unfold look
    rw [if_neg (h p (by simp)), look_mid fun q hq => h q (List.mem_cons_of_mem _ hq)]

theorem look_other {r r' c : Int} {B : PinL} (hr : r' ≠ r) : ∀ (A : PinL), look (A ++ (r, c) :: B) r' = look (A ++ B) r'
  | [] => by simp only [List.nil_append]; rw [look, if_neg (fun e => hr e.symm)]
  | p :: A => by
    rw [List.cons_append, List.cons_append]
    unfold look
    rw [look_other hr A]

theorem split_at {r : Int} : ∀ {ps : PinL}, Asc ps → ∃ A B : PinL, (∀ a ∈ A, a.1 < r) ∧ (∀ b ∈ B, r < b.1) ∧ lowerB ps r = A.length ∧ ((hasP ps r = true ∧ ∃ c, ps = A ++ (r, c) :: B) ∨ (hasP ps r = false ∧ ps = A ++ B))
  | [], _ => ⟨[], [], by simp, by simp, rfl, .inr ⟨rfl, rfl⟩⟩
  | p :: ps, h => by
    have h1 := List.pairwise_cons.1 h
    have zero : ¬ p.1 < r → lowerB (p :: ps) r = 0 := by
      intro hp
      unfold lowerB
      rw [List.countP_eq_zero]
      intro q hq
      rcases List.mem_cons.1 hq with rfl | hq
      · simpa using hp
      · have := h1.1 q hq; simp; omega
    rcases Int.lt_trichotomy p.1 r with hp | hp | hp
    · obtain ⟨A, B, a1, a2, a3, a4⟩ := split_at (r := r) h1.2
      have e : lowerB (p :: ps) r = lowerB ps r + 1 := by simp [lowerB, hp]
      have hh : hasP (p :: ps) r = hasP ps r := by
        unfold hasP
        rw [List.any_cons]
        have : (p.1 == r) = false := by simp; omega
        rw [this, Bool.false_or]
      refine ⟨p :: A, B, ?_, a2, by rw [e, a3]; rfl, ?_⟩
      · intro a ha
        rcases List.mem_cons.1 ha with rfl | ha
        · exact hp
        · exact a1 a ha
      · rw [hh]
        rcases a4 with ⟨q, c, rfl⟩ | ⟨q, rfl⟩
        · exact .inl ⟨q, c, rfl⟩
        · exact .inr ⟨q, rfl⟩
    · refine ⟨[], ps, by simp, fun b hb => by have := h1.1 b hb; omega, zero (by omega), .inl ⟨?_, p.2, by rw [← hp]; rfl⟩⟩
      unfold hasP
      rw [List.any_cons]
      simp [hp]
    · refine ⟨[], p :: ps, by simp, ?_, zero (by omega), .inr ⟨?_, rfl⟩⟩
      · intro b hb
        rcases List.mem_cons.1 hb with rfl | hb
        · exact hp
        · have := h1.1 b hb; omega
      · unfold hasP
        rw [List.any_eq_false]
        intro q hq
        rcases List.mem_cons.1 hq with rfl | hq
        · simp; omega
        · have := h1.1 q hq; simp; omega

theorem getD_mid {A B : PinL} {x : Int × Int} : (A ++ x :: B).getD A.length (0, 0) = x := by
  simp [List.getD_eq_getElem?_getD]

theorem cntP_look {ps : PinL} {r : Int} (h : Asc ps) : cntP ps r = look ps r := by
  obtain ⟨A, B, a1, a2, a3, ⟨hh, c, rfl⟩ | ⟨hh, rfl⟩⟩ := split_at (r := r) h
  · rw [look_mid fun p hp => by have := a1 p hp; omega]
    unfold cntP
    unfold hasP at hh
    rw [hh, if_pos rfl, a3, getD_mid]
  · rw [look_none fun p hp => by
      rcases List.mem_append.1 hp with q | q
      · have := a1 p q; omega
      · have := a2 p q; omega]
    unfold cntP
    unfold hasP at hh
    rw [hh]; rfl

theorem look_mem {ps : PinL} (h : Asc ps) {p : Int × Int} (hp : p ∈ ps) : look ps p.1 = p.2 := by
  obtain ⟨A, B, rfl⟩ := List.append_of_mem hp
  have h1 := List.pairwise_append.1 h
  exact look_mid (c := p.2) fun q hq => by have := h1.2.2 q hq p (by simp); omega

theorem setN_mid {A B : PinL} {r c n : Int} : setN (A ++ (r, c) :: B) A.length n = A ++ (r, c + n) :: B := by
  unfold setN
  rw [getD_mid, List.set_append_right _ _ (Nat.le_refl _), Nat.sub_self]
  rfl

theorem bump_eq {ps : PinL} {r : Int} (n : Int) (h : Asc ps) : ∃ A B : PinL, (∀ a ∈ A, a.1 < r) ∧ (∀ b ∈ B, r < b.1) ∧ bump ps r n = A ++ (r, cntP ps r + n) :: B ∧ ((hasP ps r = true ∧ ps = A ++ (r, cntP ps r) :: B) ∨ (hasP ps r = false ∧ ps = A ++ B)) := by
  have hc := cntP_look (r := r) h
  obtain ⟨A, B, a1, a2, a3, ⟨hh, c, rfl⟩ | ⟨hh, rfl⟩⟩ := split_at (r := r) h
  · rw [look_mid fun p hp => by have := a1 p hp; omega] at hc
    refine ⟨A, B, a1, a2, ?_, .inl ⟨hh, by rw [hc]⟩⟩
    unfold bump slot
    rw [hh, if_pos rfl, a3, setN_mid, hc]
  · have hc0 : cntP (A ++ B) r = 0 := by unfold cntP; unfold hasP at hh; rw [hh]; rfl
    refine ⟨A, B, a1, a2, ?_, .inr ⟨hh, rfl⟩⟩
    unfold bump slot
    rw [hh, a3]
    simp only [Bool.false_eq_true, if_false]
    rw [List.take_left, List.drop_left, List.append_assoc, List.cons_append, List.nil_append, setN_mid, hc0]

theorem drop1_eq {ps : PinL} {r : Int} (h : Asc ps) (hh : hasP ps r = true) : ∃ A B : PinL, (∀ a ∈ A, a.1 < r) ∧ (∀ b ∈ B, r < b.1) ∧ ps = A ++ (r, cntP ps r) :: B ∧ drop1 ps r = if cntP ps r - 1 = 0 then A ++ B else A ++ (r, cntP ps r - 1) :: B := by
  have hc := cntP_look (r := r) h
  obtain ⟨A, B, a1, a2, a3, ⟨_, c, rfl⟩ | ⟨hn, rfl⟩⟩ := split_at (r := r) h
  · rw [look_mid fun p hp => by have := a1 p hp; omega] at hc
    refine ⟨A, B, a1, a2, by rw [hc], ?_⟩
    unfold drop1
    rw [a3, setN_mid, getD_mid, hc]
    have e : c + -1 = c - 1 := by omega
    simp only [e]
    split
    · rw [List.eraseIdx_append_of_length_le (Nat.le_refl _), Nat.sub_self]; rfl
    · rfl
  · rw [hn] at hh; cases hh

theorem asc_mid {A B : PinL} {r c : Int} (hA : Asc A) (hB : Asc B) (h1 : ∀ a ∈ A, a.1 < r) (h2 : ∀ b ∈ B, r < b.1) : Asc (A ++ (r, c) :: B) := by
  unfold Asc at *
  rw [List.pairwise_append]
  refine ⟨hA, List.pairwise_cons.2 ⟨h2, hB⟩, fun a ha b hb => ?_⟩
  rcases List.mem_cons.1 hb with rfl | hb
  · exact h1 a ha
  · have := h1 a ha; have := h2 b hb; omega

theorem asc_parts {A B : PinL} (h : Asc (A ++ B)) : Asc A ∧ Asc B := by
  have := List.pairwise_append.1 h
  exact ⟨this.1, this.2.1⟩

/-- Pins and the list of their revisions. -/
structure Pn (ps : PinL) (xs : List Int) : Prop where
  asc : Asc ps
  pos : ∀ p ∈ ps, 0 < p.1 ∧ 0 < p.2 ∧ p.2 ≤ 4096
  len : ps.length ≤ 1024
  ct : ∀ r, cntP ps r = (cnt xs r : Int)

theorem cnt_app (a b : List Int) (r : Int) : cnt (a ++ b) r = cnt a r + cnt b r := List.countP_append

theorem has_iff {ps : PinL} {r : Int} : hasP ps r = true ↔ ∃ p ∈ ps, p.1 = r := by
  unfold hasP
  rw [List.any_eq_true]
  simp

theorem Pn.has {ps : PinL} {xs : List Int} (h : Pn ps xs) (r : Int) : hasP ps r = true ↔ cnt xs r ≠ 0 := by
  have hc := h.ct r
  rw [cntP_look h.asc] at hc
  rw [has_iff]
  constructor
  · rintro ⟨p, hp, rfl⟩
    rw [look_mem h.asc hp] at hc
    have := h.pos p hp
    omega
  · intro hne
    apply Classical.byContradiction
    intro hn
    rw [look_none fun p hp e => hn ⟨p, hp, e⟩] at hc
    omega

theorem cnt_mem {xs : List Int} {r : Int} : cnt xs r ≠ 0 ↔ r ∈ xs := by
  unfold cnt
  rw [Nat.ne_zero_iff_zero_lt, List.countP_pos_iff]
  simp

theorem Pn.held {ps : PinL} {xs : List Int} (h : Pn ps xs) : HeldOf xs (ps.map (·.1)) := by
  refine ⟨?_, fun x => ?_⟩
  · rw [List.pairwise_map]
    exact h.asc
  · have := h.has x
    rw [cnt_mem, has_iff] at this
    constructor
    · intro hx
      obtain ⟨p, hp, rfl⟩ := List.mem_map.1 hx
      exact ⟨this.1 ⟨p, hp, rfl⟩, (h.pos p hp).1⟩
    · rintro ⟨hx, _⟩
      obtain ⟨p, hp, rfl⟩ := this.2 hx
      exact List.mem_map_of_mem hp

theorem Pn.nil : Pn [] [] := ⟨by simp [Asc], by simp, by simp, fun r => by simp [cntP, V.cnt]⟩

theorem Pn.bump {ps : PinL} {xs : List Int} (h : Pn ps xs) {r : Int} {n : Nat} (hr : 0 < r) (hn : 0 < n) (hc : (n : Int) ≤ 4096 - cntP ps r) (hl : ¬ (hasP ps r = false ∧ ps.length = 1024)) : Pn (bump ps r n) (xs ++ List.replicate n r) := by
  obtain ⟨A, B, a1, a2, e, a4⟩ := bump_eq (r := r) (n : Int) h.asc
  have hcn := h.ct r
  have hp : Asc A ∧ Asc B ∧ (∀ p ∈ A ++ B, 0 < p.1 ∧ 0 < p.2 ∧ p.2 ≤ 4096) ∧ (A ++ B).length + 1 ≤ 1024 ∧ ∀ r', r' ≠ r → look ps r' = look (A ++ B) r' := by
    rcases a4 with ⟨hh, e2⟩ | ⟨hh, e2⟩
    · have h1 := h.asc
      rw [e2] at h1
      have h2 := asc_parts h1
      refine ⟨h2.1, (List.pairwise_cons.1 h2.2).2, fun p hp => h.pos p ?_, ?_, fun r' hr' => ?_⟩
      · rw [e2]
        rcases List.mem_append.1 hp with q | q <;> simp [q]
      · have := h.len
        have := congrArg List.length e2
        simp at this ⊢; omega
      · rw [e2]; rw [look_other hr' A]
    · have h1 := h.asc
      rw [e2] at h1
      have h2 := asc_parts h1
      refine ⟨h2.1, h2.2, fun p hp => h.pos p (by rw [e2]; exact hp), ?_, fun r' _ => by rw [← e2]⟩
      have := h.len
      have : ps.length ≠ 1024 := fun q => hl ⟨hh, q⟩
      rw [← e2]; omega
  obtain ⟨hA, hB, hpos, hlen, hlk⟩ := hp
  have hasc : Asc (V.bump ps r n) := by rw [e]; exact asc_mid hA hB a1 a2
  refine ⟨hasc, ?_, ?_, fun r' => ?_⟩
  · intro p hp
    rw [e] at hp
    rcases List.mem_append.1 hp with q | q
    · exact hpos p (List.mem_append_left _ q)
    · rcases List.mem_cons.1 q with rfl | q
      · simp only; omega
      · exact hpos p (List.mem_append_right _ q)
  · rw [e]; simp at hlen ⊢; omega
  · rw [cntP_look hasc, cnt_app, e]
    have hrep : V.cnt (List.replicate n r) r' = if r = r' then n else 0 := by
      unfold V.cnt
      rw [List.countP_replicate]
      simp
    rw [hrep]
    by_cases q : r' = r
    · subst q
      rw [look_mid fun p hp => by have := a1 p hp; omega, if_pos rfl]
      omega
    · rw [look_other q, ← hlk r' q, ← cntP_look h.asc, h.ct, if_neg (fun z => q z.symm)]
      omega

theorem Pn.drop1 {ps : PinL} {xs : List Int} (h : Pn ps xs) {r : Int} (hh : hasP ps r = true) : Pn (drop1 ps r) (xs.erase r) := by
  obtain ⟨A, B, a1, a2, e2, e⟩ := drop1_eq h.asc hh
  have hcn := h.ct r
  have hne := (h.has r).1 hh
  obtain ⟨c, hcd⟩ : ∃ c, cntP ps r = c := ⟨_, rfl⟩
  rw [hcd] at e2 e hcn
  have h1 := h.asc
  rw [e2] at h1
  have h2 := asc_parts h1
  have hA := h2.1
  have hB := (List.pairwise_cons.1 h2.2).2
  have hpos : ∀ p ∈ A ++ B, 0 < p.1 ∧ 0 < p.2 ∧ p.2 ≤ 4096 := fun p hp => h.pos p (by
    rw [e2]
    rcases List.mem_append.1 hp with q | q <;> simp [q])
  have hrp := h.pos (r, c) (by rw [e2]; simp)
  simp only at hrp
  have hlen : (A ++ B).length + 1 = ps.length := by
    have := congrArg List.length e2
    simp at this ⊢; omega
  have hll := h.len
  have hAB : Asc (A ++ B) := by
    unfold Asc at *
    rw [List.pairwise_append]
    exact ⟨hA, hB, fun a ha b hb => by have := a1 a ha; have := a2 b hb; omega⟩
  have hasc : Asc (V.drop1 ps r) := by
    rw [e]
    split
    · exact hAB
    · exact asc_mid hA hB a1 a2
  refine ⟨hasc, ?_, ?_, fun r' => ?_⟩
  · intro p hp
    rw [e] at hp
    split at hp
    · exact hpos p hp
    · rcases List.mem_append.1 hp with q | q
      · exact hpos p (List.mem_append_left _ q)
      · rcases List.mem_cons.1 q with rfl | q
        · simp only; omega
        · exact hpos p (List.mem_append_right _ q)
  · rw [e]
    split
    · omega
    · simp at hlen ⊢; omega
  · have hce : V.cnt (xs.erase r) r' = V.cnt xs r' - if r = r' then 1 else 0 := by
      have := List.count_erase (a := r') (b := r) (l := xs)
      unfold List.count at this
      unfold V.cnt
      rw [this]
      simp
    rw [cntP_look hasc, hce, e]
    by_cases q : r' = r
    · subst q
      rw [if_pos rfl]
      split
      · rw [look_none fun p hp => by
          rcases List.mem_append.1 hp with z | z
          · have := a1 p z; omega
          · have := a2 p z; omega]
        omega
      · rw [look_mid fun p hp => by have := a1 p hp; omega]
        omega
    · simp only [if_neg (fun z : r = r' => q z.symm)]
      have : look (A ++ B) r' = (V.cnt xs r' : Int) := by
        rw [← h.ct, cntP_look h.asc, e2, look_other q]
      split
      · rw [this]; omega
      · rw [look_other q, this]; omega

end Go.V
end

section
set_option linter.unusedVariables false
set_option linter.unusedSimpArgs false
set_option linter.unusedSectionVars false
-- DRAWS
-- BUILDS
-- NEW
set_option maxHeartbeats 2000000
namespace Go.V
attribute [local irreducible] stepK opK opV

theorem cnt_nil_of {xs : List Int} {r : Int} (h : ¬ r ∈ xs) : cnt xs r = 0 := by
  have := mt cnt_mem.1 h
  omega

end Go.V
end

section
set_option linter.unusedVariables false
set_option linter.unusedSimpArgs false
set_option linter.unusedSectionVars false
-- DRAWS
-- BUILDS
-- NEW
set_option maxHeartbeats 2000000
namespace Go.V
attribute [local irreducible] stepK opK opV

end Go.V
end

section
set_option linter.unusedVariables false
set_option linter.unusedSimpArgs false
set_option linter.unusedSectionVars false
namespace Go.V
open Go.Proofs

end Go.V
end

section
set_option linter.unusedVariables false
set_option linter.unusedSimpArgs false
set_option linter.unusedSectionVars false
-- DRAWS
-- BUILDS
-- NEW
set_option maxHeartbeats 4000000
namespace Go.V
attribute [local irreducible] stepK opK opV

theorem lives_okG {h : Heap} : WC E09 8 [] h fun v h' => Grow h h' ∧ v = .bool true :=
  WC.prim (p := wholeP (.bool true)) rfl (by rfl) ⟨Grow.refl _, rfl⟩

/-- Writing a block of pins does not touch a list. -/
theorem sl_wrote {h3 h4 : Heap} {s : Val} {sz n : Nat} {cs : List Val} (hs : Sl h3 s sz n cs) {b4 : Nat} {dd : List Val} {x : Val} {t : Int} (hg : h3.get b4 = some (.cells [x, .int .i64 t])) (hx : isInt x = false) (hc : 0 < n * sz → ∃ (k : IntKind) (z : Int) (r : List Val), cs = .int k z :: r ∧ k ≠ .i64) (k : Wrote h3 b4 dd h4) : Sl h4 s sz n cs := by
  refine ⟨hs.1, ?_⟩
  rcases hs.2 with q | ⟨b, o, cap, ls, e1, e2, e3, e4⟩
  · exact .inl q
  · refine .inr ⟨b, o, cap, ls, e1, e2, e3, ?_⟩
    rcases e4 with e4 | e4
    · exact .inl e4
    · by_cases hb : b = b4
      · subst hb
        obtain ⟨c, h1, h2, h3⟩ := Heap.load_some e4
        rw [hg] at h1
        cases h1
        rcases Nat.eq_zero_or_pos (n * sz) with q | q
        · exact .inl q
        · obtain ⟨k, z, r, rfl, hk⟩ := hc q
          simp only [List.length_cons, List.length_nil] at h2
          have ho : o = 0 ∨ o = 1 := by omega
          obtain ⟨m, hm⟩ : ∃ m, n * sz = m + 1 := ⟨n * sz - 1, by omega⟩
          rw [hm] at h3
          rcases ho with rfl | rfl
          · simp at h3
            obtain ⟨rfl, _⟩ := h3
            cases hx
          · simp at h3
            exact absurd h3.1.1 hk
      · right
        unfold Heap.load at e4 ⊢
        rw [k.else_ b hb]
        exact e4

theorem ps_wrote2 {h3 h4 : Heap} {s : Val} {ps : PinL} (hs : Ps h3 s ps) {b4 : Nat} {dd : List Val} {x : Val} {t : Int} (hg : h3.get b4 = some (.cells [x, .int .i64 t])) (hx : isInt x = false) (k : Wrote h3 b4 dd h4) : Ps h4 s ps :=
  sl_wrote hs hg hx (fun h => by
    cases ps with
    | nil => simp at h
    | cons z zs => exact ⟨.u64, z.1, _, rfl, by decide⟩) k

theorem ps_int {h : Heap} {s : Val} {ps : PinL} (hs : Ps h s ps) : isInt s = false := by
  rcases hs.2 with ⟨rfl, _⟩ | ⟨_, _, _, _, rfl, _⟩ <;> rfl

end Go.V
end

section
set_option linter.unusedVariables false
set_option linter.unusedSimpArgs false
set_option linter.unusedSectionVars false
-- DRAWS
-- BUILDS
-- NEW
set_option maxHeartbeats 4000000
namespace Go.V
attribute [local irreducible] stepK opK opV

theorem asc_len : ∀ {o xs : List Int}, o.Pairwise (· < ·) → (∀ x ∈ o, x ∈ xs) → o.length ≤ xs.length
  | [], _, _, _ => Nat.zero_le _
  | x :: o, xs, h, hs => by
    obtain ⟨h1, h2⟩ := List.pairwise_cons.1 h
    have hx := hs x (by simp)
    have := asc_len (xs := xs.erase x) h2 fun y hy => (List.mem_erase_of_ne (by have := h1 y hy; omega)).2 (hs y (List.mem_cons_of_mem _ hy))
    rw [List.length_erase_of_mem hx] at this
    have := List.length_pos_of_mem hx
    simp only [List.length_cons]; omega

theorem Pn.short {ps : PinL} {xs : List Int} (h : Pn ps xs) : ps.length ≤ xs.length := by
  have := asc_len h.held.1 fun x hx => ((h.held.2 x).1 hx).1
  simpa using this

end Go.V
end

section
set_option linter.unusedVariables false
set_option linter.unusedSimpArgs false
set_option linter.unusedSectionVars false
-- DRAWS
-- BUILDS
-- NEW
set_option maxHeartbeats 8000000
namespace Go.V
attribute [local irreducible] stepK opK opV

end Go.V
end

section
set_option linter.unusedVariables false
set_option linter.unusedSimpArgs false
set_option linter.unusedSectionVars false
-- DRAWS
-- BUILDS
-- NEW
set_option maxHeartbeats 8000000
namespace Go.V
attribute [local irreducible] stepK opK opV

theorem pin_step {ps : PinL} {xs : List Int} (h : Pn ps xs) {r t : Int} (hr : 0 < r) (hc : cnt xs r < 4096) (hl : cnt xs r = 0 → ps.length < 1024) : moreR ps t r 1 = (bump ps r 1, t + 1, 0) ∧ Pn (bump ps r 1) (xs ++ [r]) := by
  have hct := h.ct r
  have hlim : ¬ ((1 : Int) > 4096 - cntP ps r ∨ (hasP ps r = false ∧ ps.length = 1024)) := by
    rintro (q | ⟨q1, q2⟩)
    · omega
    · have : cnt xs r = 0 := by
        apply Classical.byContradiction
        intro z
        rw [(h.has r).2 z] at q1; cases q1
      have := hl this
      omega
  refine ⟨?_, ?_⟩
  · unfold moreR
    rw [if_neg (by omega), if_neg (by omega), if_neg (by omega), if_neg hlim]
  · have := h.bump (r := r) (n := 1) hr (by omega) (by have := fun q => hlim (.inl q); omega) (fun q => hlim (.inr q))
    simpa using this

/-- Pins of a list, as a result. -/
def PGood (h : Heap) (v : Val) (ys : List Int) : Prop := ∃ (s : Val) (q : PinL), v = .tup [.agg [s, .int .i64 (ys.length : Nat)], .int .i64 0] ∧ Ps h s q ∧ Pn q ys

theorem pinS_ok {h : Heap} (w : Wf h) {s : Val} {ps : PinL} {xs : List Int} {r : Int} (hs : Ps h s ps) (hp : Pn ps xs) (hr : 0 < r) (hc : cnt xs r < 4096) (hl : cnt xs r = 0 → ps.length < 1024) (hx : xs.length ≤ 100000) :
    WC E09 21 [.agg [s, .int .i64 (xs.length : Nat)], .int .u64 r] h fun v h' => Grow h h' ∧ PGood h' v (xs ++ [r]) := by
  refine (pin_ok w hs hp.asc hp.len (fun p h => by have := hp.pos p h; omega) (by omega)).mono ?_
  rintro v h' ⟨g, s', e1, e2⟩
  obtain ⟨e3, e4⟩ := pin_step hp (t := (xs.length : Nat)) hr hc hl
  rw [e3] at e1 e2
  exact ⟨g, s', _, by rw [e1]; simp, e2, e4⟩

/-- Pins of a list, in a block. -/
def PinS (h : Heap) (b : Nat) (ps : PinL) (xs : List Int) : Prop := ∃ s, h.get b = some (.cells [s, .int .i64 (xs.length : Nat)]) ∧ Ps h s ps ∧ Pn ps xs

theorem PinS.keep {h h' : Heap} {b : Nat} {ps : PinL} {xs : List Int} (e : PinS h b ps xs) (k : Keep h h') : PinS h' b ps xs := by
  obtain ⟨s, e1, e2, e3⟩ := e
  exact ⟨s, k _ _ e1, k.ps e2, e3⟩

theorem PinS.wrote {h h' : Heap} {b : Nat} {ps : PinL} {xs : List Int} (e : PinS h b ps xs) {b2 : Nat} {x : Val} {t : Int} {dd : List Val} (hg : h.get b2 = some (.cells [x, .int .i64 t])) (hx : isInt x = false) (k : Wrote h b2 dd h') (hne : b ≠ b2) : PinS h' b ps xs := by
  obtain ⟨s, e1, e2, e3⟩ := e
  exact ⟨s, by rw [k.else_ b hne]; exact e1, ps_wrote2 e2 hg hx k, e3⟩

theorem PinS.load {h : Heap} {b : Nat} {ps : PinL} {xs : List Int} (e : PinS h b ps xs) : ∃ s, h.load b 0 2 = some [s, .int .i64 (xs.length : Nat)] ∧ h.get b = some (.cells [s, .int .i64 (xs.length : Nat)]) ∧ Ps h s ps := by
  obtain ⟨s, e1, e2, e3⟩ := e
  exact ⟨s, load_get e1 (by simp), e1, e2⟩

theorem PinS.pn {h : Heap} {b : Nat} {ps : PinL} {xs : List Int} (e : PinS h b ps xs) : Pn ps xs := by
  obtain ⟨s, e1, e2, e3⟩ := e
  exact e3

end Go.V
end

section
set_option linter.unusedVariables false
set_option linter.unusedSimpArgs false
set_option linter.unusedSectionVars false
-- BUILDS
-- NEW
set_option maxHeartbeats 8000000
namespace Go.V
attribute [local irreducible] stepK opK opV

def dn (i : Nat) : List Int := (List.range i).map fun j : Nat => 2000 - (j : Int)

theorem dn_succ (i : Nat) : dn (i + 1) = dn i ++ [2000 - (i : Int)] := by
  unfold dn
  rw [List.range_succ, List.map_append]
  rfl

theorem dn_len (i : Nat) : (dn i).length = i := by unfold dn; simp

theorem dn_mem {i : Nat} {r : Int} : r ∈ dn i ↔ 2000 - (i : Int) < r ∧ r ≤ 2000 := by
  unfold dn
  rw [List.mem_map]
  constructor
  · rintro ⟨j, hj, rfl⟩
    have := List.mem_range.1 hj
    omega
  · rintro ⟨h1, h2⟩
    exact ⟨(2000 - r).toNat, List.mem_range.2 (by omega), by omega⟩

theorem dn_held {i : Nat} (hi : i ≤ 1024) : HeldOf (dn i) (dn i).reverse := by
  refine ⟨?_, fun x => ?_⟩
  · rw [List.pairwise_reverse]
    unfold dn
    rw [List.pairwise_map]
    exact List.pairwise_lt_range.imp fun {a b} h => by omega
  · rw [List.mem_reverse]
    constructor
    · intro h; exact ⟨h, by have := dn_mem.1 h; omega⟩
    · exact fun h => h.1

theorem dn_cnt {i : Nat} {r : Int} (h : ¬ r ∈ dn i) : cnt (dn i) r = 0 := cnt_nil_of h

theorem dn_least {ps : PinL} {i : Nat} (h : Pn ps (dn (i + 1))) (hi : i + 1 ≤ 1024) : ps.length = i + 1 ∧ leastP ps = 2000 - (i : Int) := by
  have e := h.held.uniq (dn_held hi)
  rw [dn_succ, List.reverse_append] at e
  constructor
  · have := congrArg List.length e
    simpa [dn_len] using this
  · cases ps with
    | nil => simp at e
    | cons p ps =>
      simp at e
      exact e.1

theorem dn_erase (i : Nat) : (dn (i + 1)).erase (2000 - (i : Int)) = dn i := by
  rw [dn_succ, List.erase_append_right _ (by rw [dn_mem]; omega)]
  simp

abbrev sevens (i : Nat) : List Int := List.replicate i 7

theorem sevens_cnt (i : Nat) (r : Int) : cnt (sevens i) r = if r = 7 then i else 0 := by
  unfold cnt
  rw [List.countP_replicate]
  by_cases h : r = 7
  · subst h; simp
  · have : ((7 : Int) == r) = false := by simp; omega
    simp [h, this]

theorem sevens_held {ps : PinL} {i : Nat} (h : Pn ps (sevens (i + 1))) : ps.length = 1 := by
  have e := h.held.uniq (b := [7]) ⟨by simp, fun x => by simp [List.mem_replicate]; omega⟩
  have := congrArg List.length e
  simpa using this

def KnI (h0 : Heap) (tb te tl : Nat) (b1 b2 : Nat) (ps qs : Nat → List Int) (n : Nat) (it : Nat) (k : Nat) (fr : List Val) (h' : Heap) : Prop := Grow h0 h' ∧ ∃ (i : Nat) (p q : PinL), Hid (i + k = n) ∧ fr.length = 137 ∧ fr.getD 1 .undef = .ptr b1 0 ∧ fr.getD 2 .undef = .ptr b2 0 ∧ fr.getD it .undef = .int .i64 (i : Nat) ∧ PinS h' b1 p (ps i) ∧ PinS h' b2 q (qs i)

theorem pinP_ok {h : Heap} (w : Wf h) {s : Val} {ps : PinL} {xs : List Int} {r t : Int} {q : PinL} {t' er : Int} (hs : Ps h s ps) (hp : Pn ps xs) (ht : 0 ≤ t ∧ t ≤ 1099511627776) (e : moreR ps t r 1 = (q, t', er)) :
    WC E09 21 [.agg [s, .int .i64 t], .int .u64 r] h fun v h' => Grow h h' ∧ ∃ s', v = .tup [.agg [s', .int .i64 t'], .int .i64 er] ∧ Ps h' s' q := by
  refine (pin_ok w hs hp.asc hp.len (fun p h => by have := hp.pos p h; omega) ht).mono ?_
  rintro v h' ⟨g, s', e1, e2⟩
  rw [e] at e1 e2
  exact ⟨g, s', e1, e2⟩

theorem unpinP_ok {h : Heap} (w : Wf h) {s : Val} {ps : PinL} {xs : List Int} {r t : Int} {q : PinL} {t' er : Int} (hs : Ps h s ps) (hp : Pn ps xs) (ht : 0 ≤ t ∧ t ≤ 1099511627776) (e : unpinR ps t r = (q, t', er)) :
    WC E09 22 [.agg [s, .int .i64 t], .int .u64 r] h fun v h' => Grow h h' ∧ ∃ s', v = .tup [.agg [s', .int .i64 t'], .int .i64 er] ∧ Ps h' s' q := by
  refine (unpin_ok w hs hp.asc hp.len (fun p h => by have := hp.pos p h; omega) ht).mono ?_
  rintro v h' ⟨g, s', e1, e2⟩
  rw [e] at e1 e2
  exact ⟨g, s', e1, e2⟩

theorem full1 {ps : PinL} {xs : List Int} (h : Pn ps xs) {r t : Int} (hr : 0 < r) (hl : ps.length = 1024) (hc : cnt xs r = 0) : moreR ps t r 1 = ([], 0, 3) := by
  have hh : hasP ps r = false := by
    cases q : hasP ps r with
    | false => rfl
    | true => exact absurd hc ((h.has r).1 q)
  unfold moreR
  rw [if_neg (by omega), if_neg (by omega), if_neg (by omega), if_pos (.inr ⟨hh, hl⟩)]

theorem full2 {ps : PinL} {xs : List Int} (h : Pn ps xs) {r t : Int} (hr : 0 < r) (hc : cnt xs r = 4096) : moreR ps t r 1 = ([], 0, 3) := by
  have := h.ct r
  unfold moreR
  rw [if_neg (by omega), if_neg (by omega), if_neg (by omega), if_pos (.inl (by omega))]

theorem lawKnown_ok {h : Heap} (w : Wf h) : WC E09 5 [] h fun v h' => Grow h h' ∧ v = .bool true := by
  refine WC.fn1 (n := 137) rfl rfl (by rfl) ?_
  intro fr hl _
  unfold v5
  repeat' (first | refine WE.seqR ?_ | refine WO.nil ?_ | (refine WO.op1s ?_; simp only [opK, wanted, stepK, step, setDst, true_and, V.ev, *]; with_reducible show WO _ _ _ _ _))
  (refine WO.op1 ?_; simp only [opK, wanted, setDst, *])
  refine stepK_alloc w fun b1 h1 g1 hb1 hg1 hn1 => ?_
  (refine WO.op1 ?_; simp only [opK, wanted, setDst, *])
  refine stepK_alloc (g1.wf w) fun b2 h2 g2 hb2 hg2 hn2 => ?_
  have g02 := g1.trans g2
  have B := Hid.mk (show h.next ≤ b1 ∧ h.next ≤ b2 ∧ b1 < b2 from ⟨hb1, by omega, by omega⟩)
  have e1 := g2.keep _ _ hg1
  clear hn1 hn2 hb1 hb2 hg1 g1 g2
  repeat' (first | refine WE.assoc ?_ | refine WE.seqR ?_ | refine WO.nil ?_ | (refine WO.op1s ?_; simp only [opK, wanted, stepK, step, setDst, true_and, V.ev, *]; with_reducible show WO _ _ _ _ _) | refine WE.seqBlock ?_)
  refine WE.loop (KnI h 1 2 3 b1 b2 dn (fun _ => []) 1024 3) ?_ 1024 _ _ ⟨g02, 0, [], [], ⟨by omega⟩, by simp only [List.length_set, hl], by (simp only [Nat.reduceEqDiff, Nat.reduceLT, getD_ne, getD_eq, List.length_set, *]; try rfl), by (simp only [Nat.reduceEqDiff, Nat.reduceLT, getD_ne, getD_eq, List.length_set, *]; try rfl), by (simp only [Nat.reduceLT, Int.cast_ofNat_Int, getD_eq, List.length_set, *]; try rfl), ⟨.nils, e1, ps_nil, Pn.nil⟩, ⟨.nils, hg2, ps_nil, Pn.nil⟩⟩
  clear hl e1 hg2 g02
  rintro k fr hc ⟨gg, i, ps, qs, hk, hl, f1, f2, f3, p1, p2⟩
  have wc := gg.wf w
  obtain ⟨s1, l1, e1, q1⟩ := p1.load
  by_cases hi : i < 1024
  ·
    have hd : decide ((i : Int) < 1024) = true := decide_eq_true (by omega)
    have wn : IntKind.i64.wrap ((i : Int) + 1) = ((i + 1 : Nat) : Int) := wrap_add (b := 1) (by omega)
    have u1 : IntKind.i64.wrap (2000 - (i : Int)) = 2000 - (i : Int) := wrap_i64 (by omega) (by omega)
    have u2 : IntKind.u64.wrap (2000 - (i : Int)) = 2000 - (i : Int) := wrap_u64 (by omega) (by omega)
    have kk : ∀ h1, Wf h1 → Keep hc h1 → WC E09 21 [.agg [s1, .int .i64 ((dn i).length : Nat)], .int .u64 (2000 - (i : Int))] h1 fun v h' => Grow h1 h' ∧ PGood h' v (dn (i + 1)) := fun h1 w1 k1 => by
      rw [show dn (i + 1) = dn i ++ [(2000 - (i : Int))] from dn_succ i]
      have hlen : (dn i).length = i := by exact dn_len i
      exact pinS_ok w1 (k1.ps q1) p1.pn (by omega) (by rw [dn_cnt (by rw [dn_mem]; omega)]; omega) (fun hz => by have := p1.pn.short; omega) (by omega)
    have hi' := Hid.mk hi
    clear hi
    repeat' (first | refine WE.assoc ?_ | refine WE.seqR ?_ | refine WO.nil ?_ | (refine WO.op1s ?_; simp only [opK, wanted, stepK, step, setDst, pureV, arith, intBin, evs, true_and, V.ev, Nat.reduceEqDiff, Nat.reduceLT, getD_ne, getD_eq, List.length_set, if_true, *]; with_reducible show WO _ _ _ _ _) | refine WE.seqSkip ?_ | (refine WE.seqCond (t := true) ?hc (fun _ => ?_) (fun hh => Bool.noConfusion hh); case hc => simp only [V.ev, Nat.reduceLT, getD_eq, List.length_set, *]) | refine WE.seqBlock ?_)
    refine WO.call rfl ?_
    (simp only [evs, V.ev, Nat.reduceEqDiff, Nat.reduceLT, getD_ne, getD_eq, List.length_set, *])
    refine (kk hc wc (Keep.refl _)).mono ?_
    rintro _ h5 ⟨g5, s5, ps2, rfl, hp5, hn5⟩
    simp only [setDst]
    have w5 := g5.wf wc
    clear kk
    repeat' (first | (refine WO.op1s ?_; simp only [opK, wanted, stepK, step, setDst, true_and, List.getElem?_cons_zero, List.getElem?_cons_succ, V.ev, Nat.reduceEqDiff, Nat.reduceLT, getD_ne, getD_eq, List.length_set, *]; with_reducible show WO _ _ _ _ _))
    (refine WO.op1 ?_; simp only [opK, wanted, setDst, *])
    refine stepK_alloc w5 fun b4 h6 g6 hb4 hg4 hn4 => ?_
    have hp6 := g6.ps hp5
    have hso := ps_one hp6
    skip
    (refine WO.op1 ?_; simp only [opK, wanted, setDst, *])
    refine stepK_store (b := b4) (o := 0) (us := [s5, .int .i64 ((dn (i + 1)).length : Nat)]) (by (simp only [V.ev, Nat.reduceLT, getD_eq, List.length_set, *]; try rfl)) (by (simp only [V.ev, Nat.reduceEqDiff, Nat.reduceLT, getD_ne, getD_eq, List.length_set, *]; try rfl)) (by rfl) hg4 (by rw [g6.floor]; exact Nat.le_trans w5.fl hb4) (by simp) (one2 hso.2 _ _) fun hA kA => ?_
    have gA : Grow hc hA := g5.trans (g6.wrote hb4 w5 kA)
    have hpA := ps_wrote2 hp6 hg4 rfl kA
    have l4 : hA.load b4 0 2 = some [s5, .int .i64 ((dn (i + 1)).length : Nat)] := load_get kA.at_ (by simp [splice])
    have e1A := gA.keep _ _ e1
    have p2A := p2.keep gA.kp
    have flA : hA.floor = h.floor := (gg.trans gA).floor
    clear kA hg4 hp6 hp5 g6 hn4 l1
    repeat' (first | refine WE.assoc ?_ | refine WE.seqR ?_ | refine WO.nil ?_ | (refine WO.op1s ?_; simp only [opK, wanted, stepK, step, setDst, eqVal, eqAt, eqv, Val.isAgg, Val.cells, List.length_cons, List.length_nil, true_and, and_self, Bool.and_true, List.getElem?_cons_zero, V.ev, Nat.reduceEqDiff, Nat.reduceLT, Nat.reduceAdd, Nat.zero_add, beq_self_eq_true, getD_ne, getD_eq, List.length_set, if_true, Bool.not_true, *]; with_reducible show WO _ _ _ _ _) | refine WE.seqSkip ?_ | (refine WE.seqCond (t := false) ?hc (fun hh => Bool.noConfusion hh) (fun _ => ?_); case hc => simp only [V.ev, Nat.reduceLT, getD_eq, List.length_set, *]) | refine WE.region ?_)
    (refine WO.op1 ?_; simp only [opK, wanted, setDst, *])
    refine stepK_store (b := b1) (o := 0) (us := [s5, .int .i64 ((dn (i + 1)).length : Nat)]) (by (simp only [V.ev, Nat.reduceEqDiff, getD_ne, *]; try rfl)) (by (simp only [V.ev, Nat.reduceLT, getD_eq, List.length_set, *]; try rfl)) (by rfl) e1A (by rw [flA]; have := w.fl; have := B.out; omega) (by simp) (one2 hso.2 _ _) fun hC kC => ?_
    have gC := (gg.trans gA).wrote B.out.1 w kC
    have p1C : PinS hC b1 ps2 (dn (i + 1)) := ⟨s5, kC.at_, ps_wrote2 hpA e1A (ps_int q1) kC, hn5⟩
    have p2C := p2A.wrote e1A (ps_int q1) kC (by have := B.out; omega)
    clear kC l4 hpA p2A e1A
    repeat' (first | refine WO.nil ?_ | (refine WO.op1s ?_; simp only [opK, wanted, stepK, step, setDst, pureV, arith, intBin, true_and, V.ev, Nat.reduceEqDiff, Nat.reduceLT, getD_ne, getD_eq, List.length_set, if_true, *]; with_reducible show WO _ _ _ _ _) | refine WE.region ?_)
    exact ⟨k - 1, by have := hk.out; have := hi'.out; omega, gC, i + 1, ps2, qs, ⟨by have := hk.out; have := hi'.out; omega⟩, by simp only [List.length_set, hl], by (simp only [Nat.reduceEqDiff, getD_ne, *]; try rfl), by (simp only [Nat.reduceEqDiff, getD_ne, *]; try rfl), by (simp only [Nat.reduceLT, getD_eq, List.length_set, *]; try rfl), p1C, p2C⟩
  · have hd : decide ((i : Int) < 1024) = false := decide_eq_false (by omega)
    have hin : i = 1024 := by have := hk.out; omega
    subst hin
    repeat' (first | refine WE.assoc ?_ | refine WE.seqR ?_ | refine WO.nil ?_ | (refine WO.op1s ?_; simp only [opK, wanted, stepK, step, setDst, pureV, arith, intBin, true_and, V.ev, Nat.reduceLT, Int.reduceLT, decide_false, Int.cast_ofNat_Int, getD_eq, if_true, *]; with_reducible show WO _ _ _ _ _) | refine WE.seqExit ?_ | (refine WE.seqCond (t := false) ?hc (fun hh => Bool.noConfusion hh) (fun _ => ?_); case hc => simp only [V.ev, Nat.reduceLT, getD_eq, List.length_set, *]) | refine WE.seqBlock ?_)
    refine WE.loop (KnI h 1 2 3 b1 b2 (fun _ => dn 1024) sevens 4096 6) ?_ 4096 _ _ ⟨gg, 0, ps, qs, ⟨by omega⟩, by simp only [List.length_set, hl], by (simp only [Nat.reduceEqDiff, getD_ne, *]; try rfl), by (simp only [Nat.reduceEqDiff, getD_ne, *]; try rfl), by (simp only [Nat.reduceLT, Int.cast_ofNat_Int, getD_eq, List.length_set, *]; try rfl), p1, p2⟩
    clear hl p1 p2 gg wc l1 e1 q1 f1 f2 f3 hd hk hi
    rintro k fr hc ⟨gg, i, ps, qs, hk, hl, f1, f2, f3, p1, p2⟩
    have wc := gg.wf w
    by_cases hi : i < 4096
    · obtain ⟨s1, l1, e1, q1⟩ := p2.load
      have hd : decide ((i : Int) < 4096) = true := decide_eq_true (by omega)
      have wn : IntKind.i64.wrap ((i : Int) + 1) = ((i + 1 : Nat) : Int) := wrap_add (b := 1) (by omega)
      have kk : ∀ h1, Wf h1 → Keep hc h1 → WC E09 21 [.agg [s1, .int .i64 ((sevens i).length : Nat)], .int .u64 7] h1 fun v h' => Grow h1 h' ∧ PGood h' v (sevens (i + 1)) := fun h1 w1 k1 => by
        rw [show sevens (i + 1) = sevens i ++ [7] from List.replicate_succ']
        have hlen : (sevens i).length = i := by simp
        exact pinS_ok w1 (k1.ps q1) p2.pn (by omega) (by rw [sevens_cnt, if_pos rfl]; omega) (fun hz => by rw [sevens_cnt, if_pos rfl] at hz; have := p2.pn.short; omega) (by omega)
      have hi' := Hid.mk hi
      clear hi
      repeat' (first | refine WE.assoc ?_ | refine WE.seqR ?_ | refine WO.nil ?_ | (refine WO.op1s ?_; simp only [opK, wanted, stepK, step, setDst, pureV, arith, intBin, evs, true_and, V.ev, Nat.reduceEqDiff, Nat.reduceLT, getD_ne, getD_eq, List.length_set, if_true, *]; with_reducible show WO _ _ _ _ _) | refine WE.seqSkip ?_ | (refine WE.seqCond (t := true) ?hc (fun _ => ?_) (fun hh => Bool.noConfusion hh); case hc => simp only [V.ev, Nat.reduceLT, getD_eq, List.length_set, *]) | refine WE.seqBlock ?_)
      refine WO.call rfl ?_
      (simp only [evs, V.ev, Nat.reduceLT, getD_eq, List.length_set, *])
      refine (kk hc wc (Keep.refl _)).mono ?_
      rintro _ h5 ⟨g5, s5, ps2, rfl, hp5, hn5⟩
      simp only [setDst]
      have w5 := g5.wf wc
      clear kk
      repeat' (first | (refine WO.op1s ?_; simp only [opK, wanted, stepK, step, setDst, true_and, List.getElem?_cons_zero, List.getElem?_cons_succ, V.ev, Nat.reduceEqDiff, Nat.reduceLT, getD_ne, getD_eq, List.length_set, *]; with_reducible show WO _ _ _ _ _))
      (refine WO.op1 ?_; simp only [opK, wanted, setDst, *])
      refine stepK_alloc w5 fun b4 h6 g6 hb4 hg4 hn4 => ?_
      have hp6 := g6.ps hp5
      have hso := ps_one hp6
      skip
      (refine WO.op1 ?_; simp only [opK, wanted, setDst, *])
      refine stepK_store (b := b4) (o := 0) (us := [s5, .int .i64 ((sevens (i + 1)).length : Nat)]) (by (simp only [V.ev, Nat.reduceLT, getD_eq, List.length_set, *]; try rfl)) (by (simp only [V.ev, Nat.reduceEqDiff, Nat.reduceLT, getD_ne, getD_eq, List.length_set, *]; try rfl)) (by rfl) hg4 (by rw [g6.floor]; exact Nat.le_trans w5.fl hb4) (by simp) (one2 hso.2 _ _) fun hA kA => ?_
      have gA : Grow hc hA := g5.trans (g6.wrote hb4 w5 kA)
      have hpA := ps_wrote2 hp6 hg4 rfl kA
      have l4 : hA.load b4 0 2 = some [s5, .int .i64 ((sevens (i + 1)).length : Nat)] := load_get kA.at_ (by simp [splice])
      have e1A := gA.keep _ _ e1
      have p2A := p1.keep gA.kp
      have flA : hA.floor = h.floor := (gg.trans gA).floor
      clear kA hg4 hp6 hp5 g6 hn4 l1
      repeat' (first | refine WE.assoc ?_ | refine WE.seqR ?_ | refine WO.nil ?_ | (refine WO.op1s ?_; simp only [opK, wanted, stepK, step, setDst, eqVal, eqAt, eqv, Val.isAgg, Val.cells, List.length_cons, List.length_nil, true_and, and_self, Bool.and_true, List.getElem?_cons_zero, V.ev, Nat.reduceEqDiff, Nat.reduceLT, Nat.reduceAdd, Nat.zero_add, beq_self_eq_true, getD_ne, getD_eq, List.length_set, if_true, Bool.not_true, *]; with_reducible show WO _ _ _ _ _) | refine WE.seqSkip ?_ | (refine WE.seqCond (t := false) ?hc (fun hh => Bool.noConfusion hh) (fun _ => ?_); case hc => simp only [V.ev, Nat.reduceLT, getD_eq, List.length_set, *]) | refine WE.region ?_)
      (refine WO.op1 ?_; simp only [opK, wanted, setDst, *])
      refine stepK_store (b := b2) (o := 0) (us := [s5, .int .i64 ((sevens (i + 1)).length : Nat)]) (by (simp only [V.ev, Nat.reduceEqDiff, getD_ne, *]; try rfl)) (by (simp only [V.ev, Nat.reduceLT, getD_eq, List.length_set, *]; try rfl)) (by rfl) e1A (by rw [flA]; have := w.fl; have := B.out; omega) (by simp) (one2 hso.2 _ _) fun hC kC => ?_
      have gC := (gg.trans gA).wrote B.out.2.1 w kC
      have p1C : PinS hC b2 ps2 (sevens (i + 1)) := ⟨s5, kC.at_, ps_wrote2 hpA e1A (ps_int q1) kC, hn5⟩
      have p2C := p2A.wrote e1A (ps_int q1) kC (by have := B.out; omega)
      clear kC l4 hpA p2A e1A
      repeat' (first | refine WO.nil ?_ | (refine WO.op1s ?_; simp only [opK, wanted, stepK, step, setDst, pureV, arith, intBin, true_and, V.ev, Nat.reduceEqDiff, Nat.reduceLT, getD_ne, getD_eq, List.length_set, if_true, *]; with_reducible show WO _ _ _ _ _) | refine WE.region ?_)
      exact ⟨k - 1, by have := hk.out; have := hi'.out; omega, gC, i + 1, ps, ps2, ⟨by have := hk.out; have := hi'.out; omega⟩, by simp only [List.length_set, hl], by (simp only [Nat.reduceEqDiff, getD_ne, *]; try rfl), by (simp only [Nat.reduceEqDiff, getD_ne, *]; try rfl), by (simp only [Nat.reduceLT, getD_eq, List.length_set, *]; try rfl), p2C, p1C⟩
    ·
      have hd : decide ((i : Int) < 4096) = false := decide_eq_false (by omega)
      have hin : i = 4096 := by have := hk.out; omega
      subst hin
      obtain ⟨s1, l1, e1, q1⟩ := (show PinS hc b1 ps (dn 1024) from p1).load
      obtain ⟨s2, l2, e2, q2⟩ := (show PinS hc b2 qs (sevens 4096) from p2).load
      have n1 : Pn ps (dn 1024) := p1.pn
      have n2 : Pn qs (sevens 4096) := p2.pn
      obtain ⟨hpl, hple⟩ := dn_least (i := 1023) n1 (by omega)
      have hple : leastP ps = 977 := by rw [hple]; rfl
      have hql := sevens_held (i := 4095) n2
      have hx1 : (((dn 1024).length : Nat) : Int) = 1024 := by rw [dn_len]; rfl
      have hx2 : (((sevens 4096).length : Nat) : Int) = 4096 := by rw [List.length_replicate]; rfl
      rw [hx1] at e1
      rw [hx2] at e2
      clear l1 l2 hx1 hx2
      have l1 : ∀ h', Grow hc h' → h'.load b1 0 2 = some [s1, .int .i64 1024] := fun h' g => g.part e1 (by simp)
      have l2 : ∀ h', Grow hc h' → h'.load b2 0 2 = some [s2, .int .i64 4096] := fun h' g => g.part e2 (by simp)
      have c5 : cnt (dn 1024) 5 = 0 := dn_cnt (by rw [dn_mem]; omega)
      have mA : moreR ps 1024 5 1 = ([], 0, 3) := full1 n1 (by omega) hpl c5
      obtain ⟨mB, _⟩ := pin_step n1 (r := 2000) (t := 1024) (by omega) (by have := List.countP_le_length (p := (· == (2000 : Int))) (l := dn 1024); rw [dn_len] at this; unfold cnt; omega) (fun z => absurd z (cnt_mem.2 (dn_mem.2 (by omega))))
      have mC : moreR qs 4096 7 1 = ([], 0, 3) := full2 n2 (by omega) (by rw [sevens_cnt, if_pos rfl])
      obtain ⟨mD, nD⟩ := pin_step n2 (r := 18446744073709551615) (t := 4096) (by omega) (by rw [sevens_cnt, if_neg (by omega)]; omega) (fun _ => by omega)
      have h977 : hasP ps 977 = true := (n1.has 977).2 (cnt_mem.2 (dn_mem.2 (by omega)))
      have mE : unpinR ps 1024 977 = (drop1 ps 977, 1023, 0) := by unfold unpinR; rw [h977]; rfl
      have nE : Pn (drop1 ps 977) (dn 1023) := by
        have := n1.drop1 h977
        have e := dn_erase 1023
        have e' : (2000 : Int) - ((1023 : Nat) : Int) = 977 := rfl
        rw [e'] at e
        rwa [e] at this
      obtain ⟨hEl, hEe⟩ := dn_least (i := 1022) nE (by omega)
      have hEe : leastP (drop1 ps 977) = 978 := by rw [hEe]; rfl
      obtain ⟨mF, _⟩ := pin_step nE (r := 5) (t := 1023) (by omega) (by rw [dn_cnt (by rw [dn_mem]; omega)]; omega) (fun _ => by omega)
      have hDh : (bump qs 18446744073709551615 1).map (·.1) = [7, 18446744073709551615] := by
        refine nD.held.uniq ⟨by simp, fun x => ?_⟩
        simp [List.mem_replicate]
        omega
      have l1c := l1 _ (Grow.refl hc)
      have l2c := l2 _ (Grow.refl hc)
      have hnd : (bump qs 18446744073709551615 1).length ≤ 100000 := by have := nD.len; omega
      replace e1 := Hid.mk e1
      replace e2 := Hid.mk e2
      replace mA := Hid.mk mA
      replace mB := Hid.mk mB
      replace mC := Hid.mk mC
      replace mD := Hid.mk mD
      replace mE := Hid.mk mE
      replace mF := Hid.mk mF
      replace hple := Hid.mk hple
      replace hEe := Hid.mk hEe
      replace hDh := Hid.mk hDh
      clear p1 p2 hk hi h977 hpl hql hEl c5
      repeat' (first | refine WE.assoc ?_ | refine WE.seqR ?_ | refine WO.nil ?_ | (refine WO.op1s ?_; simp only [opK, wanted, stepK, step, setDst, pureV, arith, intBin, evs, true_and, V.ev, Nat.reduceEqDiff, Nat.reduceLT, Int.reduceLT, decide_false, Int.cast_ofNat_Int, getD_ne, getD_eq, List.length_set, if_true, *]; with_reducible show WO _ _ _ _ _) | refine WE.seqExit ?_ | (refine WE.seqCond (t := false) ?hc (fun hh => Bool.noConfusion hh) (fun _ => ?_); case hc => simp only [V.ev, Nat.reduceLT, getD_eq, List.length_set, *]))
      refine WO.call rfl ?_
      (simp only [evs, V.ev, Nat.reduceLT, getD_eq, List.length_set, *])
      refine (pinP_ok wc q1 n1 (by omega) mA.out).mono ?_
      rintro _ hXa ⟨gXa, sa, rfl, hpa⟩
      simp only [setDst]
      have wXa := gXa.wf wc
      repeat' (first | (refine WO.op1s ?_; simp only [opK, wanted, stepK, step, setDst, true_and, List.getElem?_cons_zero, List.getElem?_cons_succ, V.ev, Nat.reduceEqDiff, Nat.reduceLT, getD_ne, getD_eq, List.length_set, *]; with_reducible show WO _ _ _ _ _))
      (refine WO.op1 ?_; simp only [opK, wanted, setDst, *])
      refine stepK_alloc wXa fun ca hYa gYa hca hgca hnca => ?_
      have hqa := gYa.ps hpa
      have soa := ps_one hqa
      skip
      (refine WO.op1 ?_; simp only [opK, wanted, setDst, *])
      refine stepK_store (b := ca) (o := 0) (us := [sa, .int .i64 0]) (by (simp only [V.ev, Nat.reduceLT, getD_eq, List.length_set, *]; try rfl)) (by (simp only [V.ev, Nat.reduceEqDiff, Nat.reduceLT, getD_ne, getD_eq, List.length_set, *]; try rfl)) (by rfl) hgca (by rw [gYa.floor]; exact Nat.le_trans wXa.fl hca) (by simp) (one2 soa.2 _ _) fun hZa kZa => ?_
      have gSa : Grow hc hZa := gXa.trans (gYa.wrote hca wXa kZa)
      have gZa : Grow hc hZa := (Grow.refl hc).trans (gXa.trans (gYa.wrote hca wXa kZa))
      have wa := gZa.wf wc
      have hra := ps_wrote2 hqa hgca rfl kZa
      have eca : hZa.get ca = some (.cells [sa, .int .i64 0]) := kZa.at_
      have l1a := l1 _ gZa
      have l2a := l2 _ gZa
      clear kZa hgca hqa hpa gYa hnca wXa
      repeat' (first | refine WE.seqR ?_ | refine WO.nil ?_ | (refine WO.op1s ?_; simp only [opK, wanted, stepK, step, setDst, evs, true_and, V.ev, Nat.reduceEqDiff, Nat.reduceLT, getD_ne, getD_eq, List.length_set, if_true, *]; with_reducible show WO _ _ _ _ _))
      refine WO.call rfl ?_
      (simp only [evs, V.ev, Nat.reduceLT, getD_eq, List.length_set, *])
      refine (pinP_ok wa (gZa.ps q1) n1 (by omega) mB.out).mono ?_
      rintro _ hXb ⟨gXb, sb, rfl, hpb⟩
      simp only [setDst]
      have wXb := gXb.wf wa
      repeat' (first | (refine WO.op1s ?_; simp only [opK, wanted, stepK, step, setDst, true_and, List.getElem?_cons_zero, List.getElem?_cons_succ, V.ev, Nat.reduceEqDiff, Nat.reduceLT, getD_ne, getD_eq, List.length_set, *]; with_reducible show WO _ _ _ _ _))
      (refine WO.op1 ?_; simp only [opK, wanted, setDst, *])
      refine stepK_alloc wXb fun cb hYb gYb hcb hgcb hncb => ?_
      have hqb := gYb.ps hpb
      have sob := ps_one hqb
      skip
      (refine WO.op1 ?_; simp only [opK, wanted, setDst, *])
      refine stepK_store (b := cb) (o := 0) (us := [sb, .int .i64 (1024 + 1)]) (by (simp only [V.ev, Nat.reduceLT, getD_eq, List.length_set, *]; try rfl)) (by (simp only [V.ev, Nat.reduceEqDiff, Nat.reduceLT, getD_ne, getD_eq, List.length_set, *]; try rfl)) (by rfl) hgcb (by rw [gYb.floor]; exact Nat.le_trans wXb.fl hcb) (by simp) (one2 sob.2 _ _) fun hZb kZb => ?_
      have gSb : Grow hZa hZb := gXb.trans (gYb.wrote hcb wXb kZb)
      have gZb : Grow hc hZb := gZa.trans (gXb.trans (gYb.wrote hcb wXb kZb))
      have wb := gZb.wf wc
      have hrb := ps_wrote2 hqb hgcb rfl kZb
      have ecb : hZb.get cb = some (.cells [sb, .int .i64 (1024 + 1)]) := kZb.at_
      have l1b := l1 _ gZb
      have l2b := l2 _ gZb
      clear kZb hgcb hqb hpb gYb hncb wXb
      repeat' (first | refine WE.seqR ?_ | refine WO.nil ?_ | (refine WO.op1s ?_; simp only [opK, wanted, stepK, step, setDst, evs, true_and, V.ev, Nat.reduceEqDiff, Nat.reduceLT, getD_ne, getD_eq, List.length_set, if_true, *]; with_reducible show WO _ _ _ _ _))
      refine WO.call rfl ?_
      (simp only [evs, V.ev, Nat.reduceLT, getD_eq, List.length_set, *])
      refine (pinP_ok wb (gZb.ps q2) n2 (by omega) mC.out).mono ?_
      rintro _ hXc ⟨gXc, sc, rfl, hpc⟩
      simp only [setDst]
      have wXc := gXc.wf wb
      repeat' (first | (refine WO.op1s ?_; simp only [opK, wanted, stepK, step, setDst, true_and, List.getElem?_cons_zero, List.getElem?_cons_succ, V.ev, Nat.reduceEqDiff, Nat.reduceLT, getD_ne, getD_eq, List.length_set, *]; with_reducible show WO _ _ _ _ _))
      (refine WO.op1 ?_; simp only [opK, wanted, setDst, *])
      refine stepK_alloc wXc fun cc hYc gYc hcc hgcc hncc => ?_
      have hqc := gYc.ps hpc
      have soc := ps_one hqc
      skip
      (refine WO.op1 ?_; simp only [opK, wanted, setDst, *])
      refine stepK_store (b := cc) (o := 0) (us := [sc, .int .i64 0]) (by (simp only [V.ev, Nat.reduceLT, getD_eq, List.length_set, *]; try rfl)) (by (simp only [V.ev, Nat.reduceEqDiff, Nat.reduceLT, getD_ne, getD_eq, List.length_set, *]; try rfl)) (by rfl) hgcc (by rw [gYc.floor]; exact Nat.le_trans wXc.fl hcc) (by simp) (one2 soc.2 _ _) fun hZc kZc => ?_
      have gSc : Grow hZb hZc := gXc.trans (gYc.wrote hcc wXc kZc)
      have gZc : Grow hc hZc := gZb.trans (gXc.trans (gYc.wrote hcc wXc kZc))
      have wcc := gZc.wf wc
      have hrc := ps_wrote2 hqc hgcc rfl kZc
      have ecc : hZc.get cc = some (.cells [sc, .int .i64 0]) := kZc.at_
      have l1c := l1 _ gZc
      have l2c := l2 _ gZc
      clear kZc hgcc hqc hpc gYc hncc wXc
      repeat' (first | refine WE.seqR ?_ | refine WO.nil ?_ | (refine WO.op1s ?_; simp only [opK, wanted, stepK, step, setDst, evs, true_and, V.ev, Nat.reduceEqDiff, Nat.reduceLT, getD_ne, getD_eq, List.length_set, if_true, *]; with_reducible show WO _ _ _ _ _))
      refine WO.call rfl ?_
      (simp only [evs, V.ev, Nat.reduceLT, getD_eq, List.length_set, *])
      refine (pinP_ok wcc (gZc.ps q2) n2 (by omega) mD.out).mono ?_
      rintro _ hXd ⟨gXd, sd, rfl, hpd⟩
      simp only [setDst]
      have wXd := gXd.wf wcc
      repeat' (first | (refine WO.op1s ?_; simp only [opK, wanted, stepK, step, setDst, true_and, List.getElem?_cons_zero, List.getElem?_cons_succ, V.ev, Nat.reduceEqDiff, Nat.reduceLT, getD_ne, getD_eq, List.length_set, *]; with_reducible show WO _ _ _ _ _))
      (refine WO.op1 ?_; simp only [opK, wanted, setDst, *])
      refine stepK_alloc wXd fun cd hYd gYd hcd hgcd hncd => ?_
      have hqd := gYd.ps hpd
      have sod := ps_one hqd
      skip
      (refine WO.op1 ?_; simp only [opK, wanted, setDst, *])
      refine stepK_store (b := cd) (o := 0) (us := [sd, .int .i64 (4096 + 1)]) (by (simp only [V.ev, Nat.reduceLT, getD_eq, List.length_set, *]; try rfl)) (by (simp only [V.ev, Nat.reduceEqDiff, Nat.reduceLT, getD_ne, getD_eq, List.length_set, *]; try rfl)) (by rfl) hgcd (by rw [gYd.floor]; exact Nat.le_trans wXd.fl hcd) (by simp) (one2 sod.2 _ _) fun hZd kZd => ?_
      have gSd : Grow hZc hZd := gXd.trans (gYd.wrote hcd wXd kZd)
      have gZd : Grow hc hZd := gZc.trans (gXd.trans (gYd.wrote hcd wXd kZd))
      have wd := gZd.wf wc
      have hrd := ps_wrote2 hqd hgcd rfl kZd
      have ecd : hZd.get cd = some (.cells [sd, .int .i64 (4096 + 1)]) := kZd.at_
      have l1d := l1 _ gZd
      have l2d := l2 _ gZd
      clear kZd hgcd hqd hpd gYd hncd wXd
      repeat' (first | refine WE.seqR ?_ | refine WO.nil ?_ | (refine WO.op1s ?_; simp only [opK, wanted, stepK, step, setDst, evs, true_and, V.ev, Nat.reduceEqDiff, Nat.reduceLT, getD_ne, getD_eq, List.length_set, if_true, *]; with_reducible show WO _ _ _ _ _))
      refine WO.call rfl ?_
      (simp only [evs, V.ev, Nat.reduceLT, getD_eq, List.length_set, *])
      refine (unpinP_ok wd (gZd.ps q1) n1 (by omega) mE.out).mono ?_
      rintro _ hXe ⟨gXe, se, rfl, hpe⟩
      simp only [setDst]
      have wXe := gXe.wf wd
      repeat' (first | (refine WO.op1s ?_; simp only [opK, wanted, stepK, step, setDst, true_and, List.getElem?_cons_zero, List.getElem?_cons_succ, V.ev, Nat.reduceEqDiff, Nat.reduceLT, getD_ne, getD_eq, List.length_set, *]; with_reducible show WO _ _ _ _ _))
      (refine WO.op1 ?_; simp only [opK, wanted, setDst, *])
      refine stepK_alloc wXe fun ce hYe gYe hce hgce hnce => ?_
      have hqe := gYe.ps hpe
      have soe := ps_one hqe
      skip
      (refine WO.op1 ?_; simp only [opK, wanted, setDst, *])
      refine stepK_store (b := ce) (o := 0) (us := [se, .int .i64 1023]) (by (simp only [V.ev, Nat.reduceLT, getD_eq, List.length_set, *]; try rfl)) (by (simp only [V.ev, Nat.reduceEqDiff, Nat.reduceLT, getD_ne, getD_eq, List.length_set, *]; try rfl)) (by rfl) hgce (by rw [gYe.floor]; exact Nat.le_trans wXe.fl hce) (by simp) (one2 soe.2 _ _) fun hZe kZe => ?_
      have gSe : Grow hZd hZe := gXe.trans (gYe.wrote hce wXe kZe)
      have gZe : Grow hc hZe := gZd.trans (gXe.trans (gYe.wrote hce wXe kZe))
      have we := gZe.wf wc
      have hre := ps_wrote2 hqe hgce rfl kZe
      have ece : hZe.get ce = some (.cells [se, .int .i64 1023]) := kZe.at_
      have l1e := l1 _ gZe
      have l2e := l2 _ gZe
      clear kZe hgce hqe hpe gYe hnce wXe
      have l17 := load_get ece (o := 0) (n := 2) (by simp)
      simp only [List.drop_zero, List.take_succ_cons, List.take_nil] at l17
      repeat' (first | refine WE.seqR ?_ | refine WO.nil ?_ | (refine WO.op1s ?_; simp only [opK, wanted, stepK, step, setDst, evs, true_and, V.ev, Nat.reduceEqDiff, Nat.reduceLT, getD_ne, getD_eq, List.length_set, if_true, *]; with_reducible show WO _ _ _ _ _))
      refine WO.call rfl ?_
      (simp only [evs, V.ev, Nat.reduceLT, getD_eq, List.length_set, *])
      refine (pinP_ok we hre nE (by omega) mF.out).mono ?_
      rintro _ hXf ⟨gXf, sf, rfl, hpf⟩
      simp only [setDst]
      have wXf := gXf.wf we
      repeat' (first | (refine WO.op1s ?_; simp only [opK, wanted, stepK, step, setDst, true_and, List.getElem?_cons_zero, List.getElem?_cons_succ, V.ev, Nat.reduceEqDiff, Nat.reduceLT, getD_ne, getD_eq, List.length_set, *]; with_reducible show WO _ _ _ _ _))
      (refine WO.op1 ?_; simp only [opK, wanted, setDst, *])
      refine stepK_alloc wXf fun cf hYf gYf hcf hgcf hncf => ?_
      have hqf := gYf.ps hpf
      have sof := ps_one hqf
      skip
      (refine WO.op1 ?_; simp only [opK, wanted, setDst, *])
      refine stepK_store (b := cf) (o := 0) (us := [sf, .int .i64 (1023 + 1)]) (by (simp only [V.ev, Nat.reduceLT, getD_eq, List.length_set, *]; try rfl)) (by (simp only [V.ev, Nat.reduceEqDiff, Nat.reduceLT, getD_ne, getD_eq, List.length_set, *]; try rfl)) (by rfl) hgcf (by rw [gYf.floor]; exact Nat.le_trans wXf.fl hcf) (by simp) (one2 sof.2 _ _) fun hZf kZf => ?_
      have gSf : Grow hZe hZf := gXf.trans (gYf.wrote hcf wXf kZf)
      have gZf : Grow hc hZf := gZe.trans (gXf.trans (gYf.wrote hcf wXf kZf))
      have wf := gZf.wf wc
      have hrf := ps_wrote2 hqf hgcf rfl kZf
      have ecf : hZf.get cf = some (.cells [sf, .int .i64 (1023 + 1)]) := kZf.at_
      have l1f := l1 _ gZf
      have l2f := l2 _ gZf
      clear kZf hgcf hqf hpf gYf hncf wXf
      have l15 : hZf.load cd 0 2 = some [sd, .int .i64 (4096 + 1)] := (gSe.trans gSf).part ecd (by simp)
      repeat' (first | refine WE.seqR ?_ | refine WO.nil ?_ | (refine WO.op1s ?_; simp only [opK, wanted, stepK, step, setDst, evs, true_and, V.ev, Nat.reduceEqDiff, Nat.reduceLT, getD_ne, getD_eq, List.length_set, if_true, *]; with_reducible show WO _ _ _ _ _))
      refine WO.call rfl ?_
      (simp only [evs, V.ev, Nat.reduceLT, getD_eq, List.length_set, *])
      refine (held_ok wf ((gSe.trans gSf).ps hrd) hnd (by rfl)).mono ?_
      rintro vh hH ⟨gH, huH, _⟩
      simp only [setDst]
      rw [hDh.out] at huH
      have lH : lenI vh = some 2 := huH.lenI
      obtain ⟨bx, ox, hex, lex⟩ := us_load huH (i := 1) (by simp) (Keep.refl _)
      have hex1 : eltI 1 vh (.int .i64 1) = some (.ptr bx ox) := hex
      have gC := gZf.trans gH
      have wH := gC.wf wc
      have l1H := l1 _ gC
      have l17H : ∀ h', Grow hH h' → h'.load ce 0 2 = some [se, .int .i64 1023] := fun h' g => ((gSf.trans gH).trans g).part ece (by simp)
      have hrE := (gSf.trans gH).ps hre
      replace hex := Hid.mk hex
      clear l15 l1a l2a l1b l2b l1c l2c l1d l2d l1e l2e l1f l2f huH
      repeat' (first | refine WE.seqR ?_ | refine WO.nil ?_ | (refine WO.op1s ?_; simp only [opK, wanted, stepK, step, setDst, evs, eqVal, eqAt, eqv, Val.isAgg, Val.cells, true_and, and_self, Bool.and_true, List.getElem?_cons_zero, V.ev, Nat.reduceEqDiff, Nat.reduceLT, Bool.false_eq_true, beq_self_eq_true, getD_ne, getD_eq, List.length_set, if_true, if_false, Bool.not_true, *]; with_reducible show WO _ _ _ _ _) | (refine WO.known ?hc ?_; case hc => (simp only [wanted, Bool.true_beq, Nat.reduceEqDiff, Nat.reduceLT, getD_ne, getD_eq, List.length_set, *])))
      refine WO.callG (h0 := hH) wH (Grow.refl _) (fun v => v = .int .u64 977) rfl (fun h1 w1 k1 => by (simp only [evs, V.ev, Nat.reduceLT, getD_eq, List.length_set, *]); exact (least_ok w1 (k1.ps (gC.ps q1))).mono fun v h' e => ⟨e.1, by rw [e.2, hple.out]⟩) ?_
      rintro _ hI gI rfl
      simp only [setDst]
      have l17I := l17H _ gI
      repeat' (first | (refine WO.op1s ?_; simp only [opK, wanted, stepK, step, setDst, evs, eqVal, eqAt, eqv, Val.isAgg, Val.cells, true_and, and_self, Bool.and_true, List.getElem?_cons_zero, V.ev, Nat.reduceEqDiff, Nat.reduceLT, Bool.false_eq_true, beq_self_eq_true, getD_ne, getD_eq, List.length_set, if_true, if_false, Bool.not_true, *]; with_reducible show WO _ _ _ _ _) | (refine WO.known ?hc ?_; case hc => (simp only [wanted, Bool.true_beq, Nat.reduceEqDiff, Nat.reduceLT, getD_ne, getD_eq, List.length_set, *])))
      refine WO.callG (h0 := hH) wH gI (fun v => v = .int .u64 978) rfl (fun h1 w1 k1 => by (simp only [evs, V.ev, Nat.reduceLT, getD_eq, List.length_set, *]); exact (least_ok w1 (k1.ps hrE)).mono fun v h' e => ⟨e.1, by rw [e.2, hEe.out]⟩) ?_
      rintro _ hJ gJ rfl
      simp only [setDst]
      have l1J := l1 _ (gC.trans gJ)
      repeat' (first | (refine WO.op1s ?_; simp only [opK, wanted, stepK, step, setDst, evs, eqVal, eqAt, eqv, Val.isAgg, Val.cells, true_and, and_self, Bool.and_true, List.getElem?_cons_zero, V.ev, Nat.reduceEqDiff, Nat.reduceLT, Bool.false_eq_true, beq_self_eq_true, getD_ne, getD_eq, List.length_set, if_true, if_false, Bool.not_true, *]; with_reducible show WO _ _ _ _ _) | (refine WO.known ?hc ?_; case hc => (simp only [wanted, Bool.true_beq, Nat.reduceEqDiff, Nat.reduceLT, getD_ne, getD_eq, List.length_set, *])))
      refine WO.callG (h0 := hH) wH gJ (fun v => v = .int .i64 1024) rfl (fun h1 w1 k1 => by (simp only [evs, V.ev, Nat.reduceLT, getD_eq, List.length_set, *]); exact total_ok w1) ?_
      rintro _ hK gK rfl
      simp only [setDst]
      have l2K := l2 _ (gC.trans gK)
      repeat' (first | (refine WO.op1s ?_; simp only [opK, wanted, stepK, step, setDst, evs, eqVal, eqAt, eqv, Val.isAgg, Val.cells, true_and, and_self, Bool.and_true, List.getElem?_cons_zero, V.ev, Nat.reduceEqDiff, Nat.reduceLT, Bool.false_eq_true, beq_self_eq_true, getD_ne, getD_eq, List.length_set, if_true, if_false, Bool.not_true, *]; with_reducible show WO _ _ _ _ _) | (refine WO.known ?hc ?_; case hc => (simp only [wanted, Bool.true_beq, Nat.reduceEqDiff, Nat.reduceLT, getD_ne, getD_eq, List.length_set, *])))
      refine WO.callG (h0 := hH) wH gK (fun v => v = .int .i64 4096) rfl (fun h1 w1 k1 => by (simp only [evs, V.ev, Nat.reduceLT, getD_eq, List.length_set, *]); exact total_ok w1) ?_
      rintro _ hL gL rfl
      simp only [setDst]
      have x0 : hL.load bx ox 1 = some [.int .u64 18446744073709551615] := lex _ gL.kp
      repeat' (first | (refine WO.lenOfE ?_; simp only [setDst, V.ev, Nat.reduceLT, getD_eq, List.length_set, *]; refine ⟨_, rfl, ?_⟩) | (refine WO.iaddrE ?_; simp only [setDst, V.ev, Nat.reduceLT, getD_eq, List.length_set, *]; refine ⟨_, rfl, ?_⟩) | (refine WO.op1s ?_; simp only [opK, wanted, stepK, step, setDst, evs, eqVal, eqAt, eqv, Val.isAgg, Val.cells, true_and, and_self, Bool.and_true, List.getElem?_cons_zero, V.ev, Nat.reduceEqDiff, Nat.reduceLT, Bool.false_eq_true, beq_self_eq_true, Int.cast_ofNat_Int, getD_ne, getD_eq, List.length_set, if_true, if_false, Bool.not_true, *]; with_reducible show WO _ _ _ _ _) | (refine WO.known ?hc ?_; case hc => (simp only [wanted, Bool.true_beq, Nat.reduceEqDiff, Nat.reduceLT, getD_ne, getD_eq, List.length_set, *])))
      refine WO.callG (h0 := hH) wH gL (fun v => v = .bool true) rfl (fun h1 w1 k1 => by (simp only [evs, *]); exact lives_okG) ?_
      rintro _ hM gM rfl
      simp only [setDst]
      repeat' (first | refine WO.nil ?_ | (refine WO.op1s ?_; simp only [opK, wanted, stepK, step, setDst, true_and, V.ev, Nat.reduceEqDiff, Nat.reduceLT, getD_ne, getD_eq, List.length_set, *]; with_reducible show WO _ _ _ _ _) | refine WE.ret ?_)
      ((try dsimp only); refine Exists.intro _ ⟨(by (simp only [readResults, Nat.reduceLT, getD_eq, List.length_set, *]; try rfl)), ?_⟩)
      exact ⟨gg.trans (gC.trans gM), rfl⟩

end Go.V
end

section
set_option linter.unusedVariables false
set_option linter.unusedSimpArgs false
set_option linter.unusedSectionVars false
set_option maxRecDepth 100000
namespace Go.Proofs.Ytalokejcacejpaa.known
open Go.ChangeShapes Go.WideShapes Go.ChangeAt Go.RowKit Go.V

theorem own : ownKnob Try.prog.godebug = none := by kernel_rfl

theorem contract (H : Type) (enc : TypeId × Value → H) (W : World) (base : Nat) (args : Array Value) (ds gs : List (DataW H)) (before : List MemPlace)
    (hval : ∀ (j : Nat) t v, Try.f5.params[j]? = some t → args[j]? = some v → Value.okWide Try.prog W .any base t v)
    (hW : DataW.Whole enc Try.prog Try.f5.params.toList Rows.pinsKnownSpec.vars false W args.toList ds gs before) :
    Calls Try.prog 5 args W fun e W' => ∃ v, e = .returned v ∧ Rows.pinsKnownSpec.post enc Try.prog Try.f5 false true false false W args v W' := by
  have hW' := hW
  obtain ⟨p, q, hA0, hV, rfl, hfz, hnd⟩ := hW
  have hA : DataW.TrodAll enc Try.prog W 0 (fun _ => true) true Try.f5.params.toList args.toList ds p := hA0
  rw [Try.params5] at hA
  obtain ⟨hnil, rfl, rfl⟩ := trodAll_nil hA
  obtain ⟨rfl, rfl⟩ := trodVars_none hV
  obtain rfl : args = #[] := by cases args; simp_all
  obtain ⟨n, v, h1, er, _, rfl⟩ := lawKnown_ok (h := heap0) ⟨wf0.1, wf0.2.1, wf0.2.2⟩
  have hr : VRels (fun _ => none) [] (#[] : Array Value).toList := .nil
  refine (law_closed env09 ext09 hr er W).mono ?_
  rintro en W' ⟨he, hs, ho, hp⟩
  exact ⟨_, he, post_law (by kernel_rfl) hW' rfl (by rfl) Try.underlying4 rfl hs ho hp⟩

theorem lifted (os : Os) (started : os.Started) (H : Type) (enc : TypeId × Value → H) :
    ReturnsInHanded {} Try.checked os 5 .any (Rows.pinsKnownSpec.pre6 enc Try.prog Try.f5 Rows.pinsKnownRow.domain false) (Rows.pinsKnownSpec.post enc Try.prog Try.f5 false true false false) := by
  refine returnsInHanded_of_change (C := Try.checked) own started ?_ Try.func5 ?_ ?_
  · kernel_rfl
  · refine ChangeSpec.witness6 (enc := enc) (C := Try.checked) false ⟨#[], #[], []⟩ 8 ?_ ?_ ?_ ?_
    · kernel_rfl
    · kernel_rfl
    · kernel_rfl
    · kernel_rfl
  intro W base args ds gs before hval hW _ _
  exact contract H enc W base args ds gs before hval hW

theorem known_holds : Rows.PinsKnownSaid :=
  OpenClaim.holds_of_wide 5 Try.f5 rfl rfl rfl rfl rfl rfl rfl ⟨rfl, rfl, rfl, rfl, rfl⟩ rfl rfl rfl rfl rfl (by kernel_rfl) Try.func5 (by kernel_rfl)
    (of_decide_eq_true (by kernel_rfl)) (by unfold Func.isWrapper; first | (rw [if_pos (by decide +kernel)]; kernel_rfl) | (rw [if_neg (by decide +kernel)]; exact ⟨rfl, rfl⟩))
    (fun os started H enc _ => lifted os started H enc)
end Go.Proofs.Ytalokejcacejpaa.known
end
