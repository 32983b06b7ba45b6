/-
  Parts of the proof:
  The functions of the layer: BinarySearchFunc.
  The functions of the layer: find.
  The functions of the layer: Count, Total, Least.
  The functions of the layer: Pins.Count.
  Layer 09: Clone, Clip, Delete, Held.
  Layer 09: Held.
  Layer 09: Same of two pins.
  Layer 09: More.
  Layer 09: Pin, Unpin.
  Layer 09: Goes, and its definition.
  Layer 09: the definition's functions: Goes, Held.
  Layer 09: the definition's functions: Held, Pin, Unpin.
  Plain laws of layer 09: what pins and lists of revisions have in common.
  Layer 09: a call, its definition; whole.
  Layer 09: whole.
  Rows of layer 09: lists of calls and of numbers.
  Layer 09: the law PinsGoes.
  Layer 09: the law PinsMore.
-/
import Derived.Test.YtalokejcacejpaaC2

section
set_option linter.unusedVariables false
set_option linter.unusedSimpArgs false
set_option linter.unusedSectionVars false
namespace Go.V

def BsI (h : Heap) (s : Val) (r : Int) (ps : PinL) (k : Nat) (fr : List Val) (h' : Heap) : Prop := Grow h h' ∧ ∃ i j, i ≤ lowerB ps r ∧ lowerB ps r ≤ j ∧ j ≤ ps.length ∧ k = j - i ∧ fr.length = 49 ∧ fr.getD 0 .undef = s ∧ fr.getD 1 .undef = .int .u64 r ∧
  fr.getD 2 .undef = .func (.func 36) [] [] ∧ fr.getD 8 .undef = .int .i64 (ps.length : Int) ∧ fr.getD 9 .undef = .int .i64 ((i : Nat) : Int) ∧ fr.getD 10 .undef = .int .i64 ((j : Nat) : Int)

theorem mid_eq {i j : Nat} (hi : i < 4611686018427387904) (hj : j < 4611686018427387904) : IntKind.i64.wrap ((IntKind.u64.wrap (IntKind.i64.wrap ((i : Int) + (j : Int)))).fdiv (2 ^ min (1 : Int).toNat IntKind.u64.bits)) = (((i + j) / 2 : Nat) : Int) := by
  rw [wrap_i64 (n := (i : Int) + (j : Int)) (by omega) (by omega), wrap_u64 (n := (i : Int) + (j : Int)) (by omega) (by omega)]
  have : (2 : Int) ^ min (1 : Int).toNat IntKind.u64.bits = 2 := by decide
  rw [this, Int.fdiv_eq_ediv_of_nonneg _ (by omega)]
  rw [wrap_i64 (by omega) (by omega)]
  omega

theorem bsearch_ok {h : Heap} (w : Wf h) {s : Val} {ps : PinL} {r : Int} (hs : Ps h s ps) (ha : Asc ps) (hn : ps.length < 4611686018427387904) :
    WC E09 35 [s, .int .u64 r, .func (.func 36) [] []] h fun v h' => Grow h h' ∧ v = .tup [.int .i64 (lowerB ps r : Int), .bool (ps.any fun p => p.1 == r)] := by
  refine WC.fn rfl rfl ?_
  unfold v35
  simp only
  have hl : (enter 49 [s, .int .u64 r, .func (.func 36) [] []]).length = 49 := by simp [length_enter]
  have h0 : (enter 49 [s, .int .u64 r, .func (.func 36) [] []]).getD 0 .undef = s := by rw [getD_enter]; rfl
  have h1 : (enter 49 [s, .int .u64 r, .func (.func 36) [] []]).getD 1 .undef = .int .u64 r := by rw [getD_enter]; rfl
  have h2 : (enter 49 [s, .int .u64 r, .func (.func 36) [] []]).getD 2 .undef = .func (.func 36) [] [] := by rw [getD_enter]; rfl
  generalize enter 49 [s, .int .u64 r, .func (.func 36) [] []] = fr at *
  refine WE.seq (WE.region ?_)
  (refine WO.op1 ?_; simp (decide := true) only [opK, wanted, stepK, step, V.ev, setDst, *])
  (refine WO.op1 ?_; simp (decide := true) only [opK, wanted, stepK, step, V.ev, setDst, *])
  refine WO.nil (WE.seq (WE.region ?_))
  (refine WO.op1 ?_; simp (decide := true) only [opK, wanted, stepK, step, V.ev, setDst, getD_set, List.length_set, if_false, *])
  (refine WO.op1 ?_; simp only [opK, wanted, setDst])
  refine hs.len (by simp (decide := true) only [V.ev, getD_set, List.length_set, if_true, if_false, *]) ?_
  (refine WO.op1 ?_; simp (decide := true) only [opK, wanted, stepK, step, V.ev, setDst, getD_set, List.length_set, if_true, if_false, *])
  refine WO.nil (WE.seq (WE.region ?_))
  (refine WO.op1 ?_; simp (decide := true) only [opK, wanted, stepK, step, V.ev, setDst, getD_set, List.length_set, if_true, if_false, *])
  (refine WO.op1 ?_; simp (decide := true) only [opK, wanted, stepK, step, V.ev, setDst, *])
  (refine WO.op1 ?_; simp (decide := true) only [opK, wanted, stepK, step, V.ev, setDst, getD_set, List.length_set, if_true, if_false, *])
  refine WO.nil (WE.seq (WE.block ?_))
  refine WE.loop (BsI h s r ps) ?_ ps.length _ _ ?_
  · rintro k fr2 h2 ⟨g, i, j, hi, hj, hjn, hk, hl, h0, h1, h2', h8, h9, h10⟩
    have w2 := g.wf w
    have hs2 := g.ps hs
    refine WE.seq (WE.seq (WE.region ?_))
    (refine WO.op1 ?_; simp (decide := true) only [opK, wanted, stepK, step, V.ev, setDst, *])
    (refine WO.op1 ?_; simp (decide := true) only [opK, wanted, stepK, step, V.ev, setDst, getD_set, if_false, *])
    (refine WO.op1 ?_; simp (decide := true) only [opK, wanted, stepK, step, V.ev, setDst, pureV, arith, intBin, getD_set, List.length_set, if_true, if_false, *])
    refine WO.nil ?_
    by_cases hlt : i < j
    · refine WE.cond (t := true) (by simp (decide := true) only [V.ev, getD_set, List.length_set, if_true, if_false, *]; simp; omega) (WE.skip ?_)
      refine WE.block (WE.seq (WE.region ?_))
      (refine WO.op1 ?_; simp (decide := true) only [opK, wanted, stepK, step, V.ev, setDst, getD_set, List.length_set, if_false, *])
      (refine WO.op1 ?_; simp (decide := true) only [opK, wanted, stepK, step, V.ev, setDst, getD_set, List.length_set, if_false, *])
      (refine WO.op1 ?_; simp (decide := true) only [opK, wanted, stepK, step, V.ev, setDst, pureV, arith, intBin, getD_set, List.length_set, if_true, if_false, *])
      (refine WO.op1 ?_; simp (decide := true) only [opK, wanted, stepK, step, V.ev, setDst, getD_set, List.length_set, if_true, if_false, *])
      (refine WO.op1 ?_; simp (decide := true) only [opK, wanted, stepK, step, V.ev, setDst, pureV, arith, getD_set, List.length_set, if_true, if_false, *])
      (refine WO.op1 ?_; simp (decide := true) only [opK, wanted, stepK, step, V.ev, setDst, getD_set, List.length_set, if_true, if_false, *])
      (refine WO.op1 ?_; simp (decide := true) only [opK, wanted, stepK, step, V.ev, setDst, getD_set, List.length_set, if_true, if_false, *])
      refine WO.nil ?_
      rw [mid_eq (by omega) (by omega)]
      have hm1 : (i + j) / 2 < j := by omega
      have hm2 : i ≤ (i + j) / 2 := by omega
      generalize (i + j) / 2 = m at hm1 hm2 ⊢
      have hmn : m < ps.length := by omega
      refine WE.seq (WE.region ?_)
      (refine WO.op1 ?_; simp (decide := true) only [opK, wanted, stepK, step, V.ev, setDst, getD_set, List.length_set, if_false, *])
      (refine WO.op1 ?_; simp (decide := true) only [opK, wanted, stepK, step, V.ev, setDst, getD_set, List.length_set, if_false, *])
      (refine WO.op1 ?_; simp (decide := true) only [opK, wanted, stepK, step, V.ev, setDst, getD_set, List.length_set, if_true, if_false, *])
      (refine WO.op1 ?_; simp only [opK, wanted, setDst])
      refine hs2.at (ik := .i64) (by simp (decide := true) only [V.ev, getD_set, List.length_set, if_true, if_false, *]) (by simp (decide := true) only [V.ev, getD_set, List.length_set, if_true, if_false, *]) hmn fun b o hld => ?_
      (refine WO.op1 ?_; simp (decide := true) only [opK, wanted, stepK, step, V.ev, setDst, getD_set, List.length_set, if_true, if_false, *])
      (refine WO.op1 ?_; simp (decide := true) only [opK, wanted, stepK, step, V.ev, setDst, getD_set, List.length_set, if_false, *])
      refine WO.callv (f := 36) (a := []) (c := []) rfl (by simp (decide := true) only [V.ev, getD_set, List.length_set, if_true, if_false, *]) ?_
      simp (decide := true) only [evs, V.ev, getD_set, List.length_set, if_true, if_false, List.nil_append, List.append_nil, *]
      refine (find1_ok w2).mono ?_
      rintro v h3 ⟨g3, rfl⟩
      simp only [setDst]
      (refine WO.op1 ?_; simp (decide := true) only [opK, wanted, stepK, step, V.ev, setDst, pureV, arith, intBin, getD_set, List.length_set, if_true, if_false, *])
      refine WO.nil ?_
      have hsp := lowerB_spec (r := r) ha m hmn
      by_cases hc : ps[m].1 < r
      · have := hsp.1 hc
        refine WE.cond (t := true) (by simp (decide := true) only [V.ev, getD_set, List.length_set, if_true, if_false, *]; simp [cmpI, hc]) (WE.region ?_)
        (refine WO.op1 ?_; simp (decide := true) only [opK, wanted, stepK, step, V.ev, setDst, getD_set, List.length_set, if_true, if_false, *])
        (refine WO.op1 ?_; simp (decide := true) only [opK, wanted, stepK, step, V.ev, setDst, pureV, arith, intBin, getD_set, List.length_set, if_true, if_false, *])
        (refine WO.op1 ?_; simp (decide := true) only [opK, wanted, stepK, step, V.ev, setDst, getD_set, List.length_set, if_true, if_false, *])
        refine WO.nil ⟨j - (m + 1), by omega, g.trans g3, m + 1, j, by omega, hj, hjn, rfl, by simp [hl], by simp (decide := true) only [getD_set, List.length_set, if_false, *], by simp (decide := true) only [getD_set, List.length_set, if_false, *], by simp (decide := true) only [getD_set, List.length_set, if_false, *], by simp (decide := true) only [getD_set, List.length_set, if_false, *], ?_, by simp (decide := true) only [getD_set, List.length_set, if_false, *]⟩
        simp (decide := true) only [getD_set, List.length_set, if_true, if_false, *]
        rw [wrap_i64 (by omega) (by omega)]
        simp
      · have : ¬ m < lowerB ps r := fun h => hc (hsp.2 h)
        refine WE.cond (t := false) (by simp (decide := true) only [V.ev, getD_set, List.length_set, if_true, if_false, *]; simp [cmpI, hc]; try split <;> simp) (WE.region ?_)
        (refine WO.op1 ?_; simp (decide := true) only [opK, wanted, stepK, step, V.ev, setDst, getD_set, List.length_set, if_true, if_false, *])
        (refine WO.op1 ?_; simp (decide := true) only [opK, wanted, stepK, step, V.ev, setDst, getD_set, List.length_set, if_true, if_false, *])
        refine WO.nil ⟨m - i, by omega, g.trans g3, i, m, hi, by omega, by omega, rfl, by simp [hl], by simp (decide := true) only [getD_set, List.length_set, if_false, *], by simp (decide := true) only [getD_set, List.length_set, if_false, *], by simp (decide := true) only [getD_set, List.length_set, if_false, *], by simp (decide := true) only [getD_set, List.length_set, if_false, *], by simp (decide := true) only [getD_set, List.length_set, if_false, *], by simp (decide := true) only [getD_set, List.length_set, if_true, if_false, *]⟩
    · refine WE.cond (t := false) (by simp (decide := true) only [V.ev, getD_set, List.length_set, if_true, if_false, *]; simp; omega) (WE.exit ?_)
      have hij : i = lowerB ps r := by omega
      subst hij
      refine WE.seq (WE.region ?_)
      (refine WO.op1 ?_; simp (decide := true) only [opK, wanted, stepK, step, V.ev, setDst, getD_set, List.length_set, if_false, *])
      (refine WO.op1 ?_; simp (decide := true) only [opK, wanted, stepK, step, V.ev, setDst, getD_set, List.length_set, if_false, *])
      (refine WO.op1 ?_; simp (decide := true) only [opK, wanted, stepK, step, V.ev, setDst, getD_set, List.length_set, if_false, *])
      (refine WO.op1 ?_; simp (decide := true) only [opK, wanted, stepK, step, V.ev, setDst, pureV, arith, intBin, getD_set, List.length_set, if_true, if_false, *])
      (refine WO.op1 ?_; simp (decide := true) only [opK, wanted, stepK, step, V.ev, setDst, getD_set, List.length_set, if_true, if_false, *])
      by_cases hlb : lowerB ps r < ps.length
      · have hlb' : decide (((lowerB ps r : Nat) : Int) < (ps.length : Int)) = true := by simp; omega
        (refine WO.op1 ?_; simp (decide := true) only [opK, wanted, stepK, step, V.ev, setDst, getD_set, List.length_set, if_true, if_false, Bool.true_beq, *])
        (refine WO.op1 ?_; simp (decide := true) only [opK, wanted, stepK, step, V.ev, setDst, getD_set, List.length_set, if_true, if_false, Bool.true_beq, *])
        (refine WO.op1 ?_; simp (decide := true) only [opK, wanted, stepK, step, V.ev, setDst, getD_set, List.length_set, if_true, if_false, Bool.true_beq, *])
        (refine WO.op1 ?_; simp only [opK, wanted, setDst])
        simp (decide := true) only [getD_set, List.length_set, if_true, if_false, Bool.true_beq, *]
        refine hs2.at (ik := .i64) (by simp (decide := true) only [V.ev, getD_set, List.length_set, if_true, if_false, *]) (by simp (decide := true) only [V.ev, getD_set, List.length_set, if_true, if_false, *]) hlb fun b o hld => ?_
        (refine WO.op1 ?_; simp (decide := true) only [opK, wanted, stepK, step, V.ev, setDst, getD_set, List.length_set, if_true, if_false, Bool.true_beq, *])
        (refine WO.op1 ?_; simp (decide := true) only [opK, wanted, stepK, step, V.ev, setDst, getD_set, List.length_set, if_true, if_false, Bool.true_beq, *])
        refine WO.callv (f := 36) (a := []) (c := []) (by simp only [wanted]; simp (decide := true) only [getD_set, List.length_set, if_true, if_false, *]) (by simp (decide := true) only [V.ev, getD_set, List.length_set, if_true, if_false, *]) ?_
        simp (decide := true) only [evs, V.ev, getD_set, List.length_set, if_true, if_false, List.nil_append, List.append_nil, *]
        refine (find1_ok w2).mono ?_
        rintro v h3 ⟨g3, rfl⟩
        simp only [setDst]
        (refine WO.op1 ?_; simp (decide := true) only [opK, wanted, stepK, step, V.ev, setDst, eqVal, eqAt, eqv, Val.isAgg, Val.cells, getD_set, List.length_set, if_true, if_false, and_true, Bool.true_beq, *])
        (refine WO.op1 ?_; simp (decide := true) only [opK, wanted, stepK, step, V.ev, setDst, getD_set, List.length_set, if_true, if_false, *])
        (refine WO.op1 ?_; simp (decide := true) only [opK, wanted, stepK, step, V.ev, setDst, getD_set, List.length_set, if_true, if_false, *])
        (refine WO.op1 ?_; simp (decide := true) only [opK, wanted, stepK, step, V.ev, setDst, getD_set, List.length_set, if_true, if_false, *])
        refine WO.nil ?_
        refine WE.ret ⟨[.int .i64 (lowerB ps r : Int), .bool (ps.any fun p => p.1 == r)], ?_, g.trans g3, rfl⟩
        have hge : ¬ ps[lowerB ps r].1 < r := fun q => by have := (lowerB_spec (r := r) ha _ hlb).1 q; omega
        rw [any_at ha hlb]
        simp only [readResults]
        simp (decide := true) only [getD_set, List.length_set, if_true, if_false, *]
        by_cases heq : ps[lowerB ps r].1 = r
        · simp [cmpI, heq]
        · have : ps[lowerB ps r].1 > r := by omega
          simp [cmpI, hge, this, heq]
      · have hlb' : decide (((lowerB ps r : Nat) : Int) < (ps.length : Int)) = false := by simp; omega
        (refine WO.op1 ?_; simp (decide := true) only [opK, wanted, setDst, getD_set, List.length_set, if_true, if_false, Bool.false_beq, Bool.not_true, *])
        (refine WO.op1 ?_; simp (decide := true) only [opK, wanted, setDst, getD_set, List.length_set, if_true, if_false, Bool.false_beq, Bool.not_true, *])
        (refine WO.op1 ?_; simp (decide := true) only [opK, wanted, setDst, getD_set, List.length_set, if_true, if_false, Bool.false_beq, Bool.not_true, *])
        (refine WO.op1 ?_; simp (decide := true) only [opK, wanted, setDst, getD_set, List.length_set, if_true, if_false, Bool.false_beq, Bool.not_true, *])
        (refine WO.op1 ?_; simp (decide := true) only [opK, wanted, setDst, getD_set, List.length_set, if_true, if_false, Bool.false_beq, Bool.not_true, *])
        (refine WO.op1 ?_; simp (decide := true) only [opK, wanted, setDst, getD_set, List.length_set, if_true, if_false, Bool.false_beq, Bool.not_true, *])
        (refine WO.op1 ?_; simp (decide := true) only [opK, wanted, setDst, getD_set, List.length_set, if_true, if_false, Bool.false_beq, Bool.not_true, *])
        (refine WO.op1 ?_; simp (decide := true) only [opK, wanted, setDst, getD_set, List.length_set, if_true, if_false, Bool.false_beq, Bool.not_true, *])
        (refine WO.op1 ?_; simp (decide := true) only [opK, wanted, stepK, step, V.ev, setDst, getD_set, List.length_set, if_true, if_false, *])
        (refine WO.op1 ?_; simp (decide := true) only [opK, wanted, stepK, step, V.ev, setDst, getD_set, List.length_set, if_true, if_false, *])
        (refine WO.op1 ?_; simp (decide := true) only [opK, wanted, stepK, step, V.ev, setDst, getD_set, List.length_set, if_true, if_false, *])
        refine WO.nil ?_
        refine WE.ret ⟨[.int .i64 (lowerB ps r : Int), .bool (ps.any fun p => p.1 == r)], ?_, g, rfl⟩
        rw [any_none ha (by have := lowerB_le ps r; omega)]
        simp only [readResults]
        simp (decide := true) only [getD_set, List.length_set, if_true, if_false, *]
  · refine ⟨.refl _, 0, ps.length, by omega, lowerB_le _ _, by omega, by omega, by simp [hl], by simp (decide := true) only [getD_set, List.length_set, if_false, *], by simp (decide := true) only [getD_set, List.length_set, if_false, *], by simp (decide := true) only [getD_set, List.length_set, if_false, *], by simp (decide := true) only [getD_set, List.length_set, if_true, if_false, *], ?_, by simp (decide := true) only [getD_set, List.length_set, if_true, if_false, *]⟩
    simp (decide := true) only [getD_set, List.length_set, if_true, if_false, *]; simp

end Go.V
end

section
set_option linter.unusedVariables false
set_option linter.unusedSimpArgs false
set_option linter.unusedSectionVars false
namespace Go.V

theorem find_ok {h : Heap} (w : Wf h) {s : Val} {ps : PinL} {n r : Int} (hs : Ps h s ps) (ha : Asc ps) (hn : ps.length < 4611686018427387904) :
    WC E09 28 [.agg [s, .int .i64 n], .int .u64 r] h fun v h' => Grow h h' ∧ v = .tup [.int .i64 (lowerB ps r : Int), .bool (ps.any fun p => p.1 == r)] := by
  refine WC.fn rfl rfl ?_
  unfold v28
  simp only
  have hl : (enter 12 [.agg [s, .int .i64 n], .int .u64 r]).length = 12 := by simp [length_enter]
  have h0 : (enter 12 [.agg [s, .int .i64 n], .int .u64 r]).getD 0 .undef = .agg [s, .int .i64 n] := by rw [getD_enter]; rfl
  have h1 : (enter 12 [.agg [s, .int .i64 n], .int .u64 r]).getD 1 .undef = .int .u64 r := by rw [getD_enter]; rfl
  generalize enter 12 [.agg [s, .int .i64 n], .int .u64 r] = fr at *
  refine WE.seq (WE.region ?_)
  (refine WO.op1 ?_; simp only [opK, wanted, setDst])
  refine stepK_box w (c := [s, .int .i64 n]) (by simp (decide := true) only [V.ev, *]; rfl) rfl fun b h2 g hb hg hnx => ?_
  (refine WO.op1 ?_; simp (decide := true) only [opK, wanted, stepK, step, V.ev, setDst, *])
  (refine WO.op1 ?_; simp (decide := true) only [opK, wanted, stepK, step, V.ev, setDst, *])
  refine WO.nil ?_
  have ld : h2.load b (0 + 0) 1 = some [s] := load_get hg (by simp)
  refine WE.seq (WE.region ?_)
  (refine WO.op1 ?_; simp (decide := true) only [opK, wanted, stepK, step, V.ev, setDst, getD_set, List.length_set, if_true, if_false, *])
  (refine WO.op1 ?_; simp (decide := true) only [opK, wanted, stepK, step, V.ev, setDst, getD_set, List.length_set, if_true, if_false, *])
  (refine WO.op1 ?_; simp (decide := true) only [opK, wanted, stepK, step, V.ev, setDst, getD_set, List.length_set, if_false, *])
  refine WO.call rfl ?_
  simp (decide := true) only [evs, V.ev, getD_set, List.length_set, if_true, if_false, *]
  refine (bsearch_ok (g.wf w) (g.ps hs) ha hn).mono ?_
  rintro v h' ⟨g2, rfl⟩
  simp only [setDst]
  (refine WO.op1 ?_; simp (decide := true) only [opK, wanted, stepK, step, V.ev, setDst, getD_set, List.length_set, if_true, if_false, List.getElem?_cons_zero, *])
  (refine WO.op1 ?_; simp (decide := true) only [opK, wanted, stepK, step, V.ev, setDst, getD_set, List.length_set, if_true, if_false, List.getElem?_cons_zero, List.getElem?_cons_succ, *])
  (refine WO.op1 ?_; simp (decide := true) only [opK, wanted, stepK, step, V.ev, setDst, getD_set, List.length_set, if_true, if_false, *])
  (refine WO.op1 ?_; simp (decide := true) only [opK, wanted, stepK, step, V.ev, setDst, getD_set, List.length_set, if_true, if_false, *])
  refine WO.nil (WE.ret ⟨[.int .i64 (lowerB ps r : Int), .bool (ps.any fun p => p.1 == r)], ?_, g.trans g2, rfl⟩)
  simp only [readResults]
  simp (decide := true) only [getD_set, List.length_set, if_true, if_false, *]

end Go.V
end

section
set_option linter.unusedVariables false
set_option linter.unusedSimpArgs false
set_option linter.unusedSectionVars false
namespace Go.V

theorem total_ok {h : Heap} (w : Wf h) {s : Val} {n : Int} : WC E09 19 [.agg [s, .int .i64 n]] h fun v h' => Grow h h' ∧ v = .int .i64 n := by
  refine WC.fn rfl rfl ?_
  unfold v19
  simp only
  have hl : (enter 5 [.agg [s, .int .i64 n]]).length = 5 := by simp [length_enter]
  have h0 : (enter 5 [.agg [s, .int .i64 n]]).getD 0 .undef = .agg [s, .int .i64 n] := by rw [getD_enter]; rfl
  generalize enter 5 [.agg [s, .int .i64 n]] = fr at *
  refine WE.seq (WE.region ?_)
  (refine WO.op1 ?_; simp only [opK, wanted, setDst])
  refine stepK_box w (c := [s, .int .i64 n]) (by simp (decide := true) only [V.ev, *]; rfl) rfl fun b h2 g hb hg hnx => ?_
  (refine WO.op1 ?_; simp (decide := true) only [opK, wanted, stepK, step, V.ev, setDst, *])
  refine WO.nil ?_
  have ld : h2.load b (0 + 1) 1 = some [.int .i64 n] := load_get hg (by simp)
  refine WE.seq (WE.region ?_)
  (refine WO.op1 ?_; simp (decide := true) only [opK, wanted, stepK, step, V.ev, setDst, getD_set, List.length_set, if_true, if_false, *])
  (refine WO.op1 ?_; simp (decide := true) only [opK, wanted, stepK, step, V.ev, setDst, getD_set, List.length_set, if_true, if_false, *])
  (refine WO.op1 ?_; simp (decide := true) only [opK, wanted, stepK, step, V.ev, setDst, getD_set, List.length_set, if_true, if_false, *])
  refine WO.nil (WE.ret ⟨[.int .i64 n], ?_, g, rfl⟩)
  simp only [readResults]
  simp (decide := true) only [getD_set, List.length_set, if_true, if_false, *]

def leastP (ps : PinL) : Int := match ps with
  | [] => 0
  | p :: _ => p.1

theorem least_ok {h : Heap} (w : Wf h) {s : Val} {ps : PinL} {n : Int} (hs : Ps h s ps) : WC E09 24 [.agg [s, .int .i64 n]] h fun v h' => Grow h h' ∧ v = .int .u64 (leastP ps) := by
  refine WC.fn rfl rfl ?_
  unfold v24
  simp only
  have hl : (enter 12 [.agg [s, .int .i64 n]]).length = 12 := by simp [length_enter]
  have h0 : (enter 12 [.agg [s, .int .i64 n]]).getD 0 .undef = .agg [s, .int .i64 n] := by rw [getD_enter]; rfl
  generalize enter 12 [.agg [s, .int .i64 n]] = fr at *
  refine WE.seq (WE.region ?_)
  (refine WO.op1 ?_; simp only [opK, wanted, setDst])
  refine stepK_box w (c := [s, .int .i64 n]) (by simp (decide := true) only [V.ev, *]; rfl) rfl fun b h2 g hb hg hnx => ?_
  (refine WO.op1 ?_; simp (decide := true) only [opK, wanted, stepK, step, V.ev, setDst, *])
  refine WO.nil ?_
  have ld : h2.load b (0 + 0) 1 = some [s] := load_get hg (by simp)
  have hs2 := g.ps hs
  refine WE.seq (WE.seq (WE.region ?_))
  (refine WO.op1 ?_; simp (decide := true) only [opK, wanted, stepK, step, V.ev, setDst, getD_set, List.length_set, if_true, if_false, *])
  (refine WO.op1 ?_; simp (decide := true) only [opK, wanted, stepK, step, V.ev, setDst, getD_set, List.length_set, if_true, if_false, *])
  (refine WO.op1 ?_; simp only [opK, wanted, setDst])
  refine hs2.len (by simp (decide := true) only [V.ev, getD_set, List.length_set, if_true, if_false, *]) ?_
  (refine WO.op1 ?_; simp (decide := true) only [opK, wanted, stepK, step, V.ev, setDst, eqVal, eqAt, eqv, Val.isAgg, Val.cells, getD_set, List.length_set, if_true, if_false, and_true, *])
  refine WO.nil ?_
  cases ps with
  | nil =>
    refine WE.cond (t := true) (by simp (decide := true) only [V.ev, getD_set, List.length_set, if_true, if_false, *]; simp) (WE.seq (WE.region ?_))
    (refine WO.op1 ?_; simp (decide := true) only [opK, wanted, stepK, step, V.ev, setDst, *])
    refine WO.nil (WE.ret ⟨[.int .u64 0], ?_, g, rfl⟩)
    simp only [readResults]
    simp (decide := true) only [getD_set, List.length_set, if_true, if_false, *]
  | cons p ps =>
    refine WE.cond (t := false) (by simp (decide := true) only [V.ev, getD_set, List.length_set, if_true, if_false, *]; simp; try omega) (WE.skip ?_)
    refine WE.seq (WE.region ?_)
    (refine WO.op1 ?_; simp (decide := true) only [opK, wanted, stepK, step, V.ev, setDst, getD_set, List.length_set, if_true, if_false, *])
    (refine WO.op1 ?_; simp (decide := true) only [opK, wanted, stepK, step, V.ev, setDst, getD_set, List.length_set, if_true, if_false, *])
    (refine WO.op1 ?_; simp only [opK, wanted, setDst])
    refine hs2.at (ik := .i64) (i := 0) (by simp (decide := true) only [V.ev, getD_set, List.length_set, if_true, if_false, *]) (by simp (decide := true) only [V.ev, *]; rfl) (by simp) fun b2 o2 hld => ?_
    have ld2 : h2.load b2 (o2 + 0) 1 = some [.int .u64 p.1] := by
      have := load_part hld (i := 0) (m := 1) (by omega)
      simpa using this
    (refine WO.op1 ?_; simp (decide := true) only [opK, wanted, stepK, step, V.ev, setDst, getD_set, List.length_set, if_true, if_false, *])
    (refine WO.op1 ?_; simp (decide := true) only [opK, wanted, stepK, step, V.ev, setDst, getD_set, List.length_set, if_true, if_false, *])
    (refine WO.op1 ?_; simp (decide := true) only [opK, wanted, stepK, step, V.ev, setDst, getD_set, List.length_set, if_true, if_false, *])
    refine WO.nil (WE.ret ⟨[.int .u64 p.1], ?_, g, rfl⟩)
    simp only [readResults]
    simp (decide := true) only [getD_set, List.length_set, if_true, if_false, *]

end Go.V
end

section
set_option linter.unusedVariables false
set_option linter.unusedSimpArgs false
set_option linter.unusedSectionVars false
namespace Go.V

def cntP (ps : PinL) (r : Int) : Int := if (ps.any fun p => p.1 == r) then (ps.getD (lowerB ps r) (0, 0)).2 else 0

theorem pcount_ok {h : Heap} (w : Wf h) {s : Val} {ps : PinL} {n r : Int} (hs : Ps h s ps) (ha : Asc ps) (hn : ps.length < 4611686018427387904) : WC E09 14 [.agg [s, .int .i64 n], .int .u64 r] h fun v h' => Grow h h' ∧ v = .int .i64 (cntP ps r) := by
  refine WC.fn rfl rfl ?_
  unfold v14
  simp only
  have hl : (enter 20 [.agg [s, .int .i64 n], .int .u64 r]).length = 20 := by simp [length_enter]
  have h0 : (enter 20 [.agg [s, .int .i64 n], .int .u64 r]).getD 0 .undef = .agg [s, .int .i64 n] := by rw [getD_enter]; rfl
  have h1 : (enter 20 [.agg [s, .int .i64 n], .int .u64 r]).getD 1 .undef = .int .u64 r := by rw [getD_enter]; rfl
  generalize enter 20 [.agg [s, .int .i64 n], .int .u64 r] = fr at *
  refine WE.seq (WE.region ?_)
  (refine WO.op1 ?_; simp only [opK, wanted, setDst])
  refine stepK_box w (c := [s, .int .i64 n]) (by simp (decide := true) only [V.ev, *]; rfl) rfl fun b h2 g hb hg hnx => ?_
  (refine WO.op1 ?_; simp (decide := true) only [opK, wanted, stepK, step, V.ev, setDst, *])
  refine WO.nil ?_
  have ld : h2.load b 0 2 = some [s, .int .i64 n] := load_get hg (by simp)
  refine WE.seq (WE.seq (WE.region ?_))
  (refine WO.op1 ?_; simp (decide := true) only [opK, wanted, stepK, step, V.ev, setDst, getD_set, List.length_set, if_true, if_false, *])
  (refine WO.op1 ?_; simp (decide := true) only [opK, wanted, stepK, step, V.ev, setDst, getD_set, List.length_set, if_false, *])
  refine WO.call rfl ?_
  simp (decide := true) only [evs, V.ev, getD_set, List.length_set, if_true, if_false, *]
  refine (find_ok (g.wf w) (g.ps hs) ha hn).mono ?_
  rintro v h3 ⟨g2, rfl⟩
  simp only [setDst]
  (refine WO.op1 ?_; simp (decide := true) only [opK, wanted, stepK, step, V.ev, setDst, getD_set, List.length_set, if_true, if_false, *])
  (refine WO.op1 ?_; simp (decide := true) only [opK, wanted, stepK, step, V.ev, setDst, getD_set, List.length_set, if_true, if_false, List.getElem?_cons_zero, *])
  (refine WO.op1 ?_; simp (decide := true) only [opK, wanted, stepK, step, V.ev, setDst, getD_set, List.length_set, if_true, if_false, List.getElem?_cons_zero, List.getElem?_cons_succ, *])
  (refine WO.op1 ?_; simp (decide := true) only [opK, wanted, stepK, step, V.ev, setDst, getD_set, List.length_set, if_true, if_false, *])
  (refine WO.op1 ?_; simp (decide := true) only [opK, wanted, stepK, step, V.ev, setDst, getD_set, List.length_set, if_true, if_false, *])
  refine WO.nil (WE.seq (WE.region ?_))
  (refine WO.op1 ?_; simp (decide := true) only [opK, wanted, stepK, step, V.ev, setDst, getD_set, List.length_set, if_true, if_false, *])
  refine WO.nil ?_
  have hs3 := g2.ps (g.ps hs)
  have ld3 : h3.load b (0 + 0) 1 = some [s] := load_get (g2.keep _ _ hg) (by simp)
  cases hany : ps.any fun p => p.1 == r with
  | true =>
    have hlb : lowerB ps r < ps.length := by
      rcases Nat.lt_or_ge (lowerB ps r) ps.length with q | q
      · exact q
      · rw [any_none ha (by have := lowerB_le ps r; omega)] at hany; cases hany
    refine WE.cond (t := true) (by simp (decide := true) only [V.ev, getD_set, List.length_set, if_true, if_false, *]) (WE.seq (WE.region ?_))
    (refine WO.op1 ?_; simp (decide := true) only [opK, wanted, stepK, step, V.ev, setDst, getD_set, List.length_set, if_true, if_false, *])
    (refine WO.op1 ?_; simp (decide := true) only [opK, wanted, stepK, step, V.ev, setDst, getD_set, List.length_set, if_true, if_false, *])
    (refine WO.op1 ?_; simp (decide := true) only [opK, wanted, stepK, step, V.ev, setDst, getD_set, List.length_set, if_true, if_false, *])
    (refine WO.op1 ?_; simp only [opK, wanted, setDst])
    refine hs3.at (ik := .i64) (i := lowerB ps r) (by simp (decide := true) only [V.ev, getD_set, List.length_set, if_true, if_false, *]) (by simp (decide := true) only [V.ev, getD_set, List.length_set, if_true, if_false, *]) hlb fun b2 o2 hld => ?_
    have ld2 : h3.load b2 (o2 + 1) 1 = some [.int .i64 ps[lowerB ps r].2] := by
      have := load_part hld (i := 1) (m := 1) (by omega)
      simpa using this
    (refine WO.op1 ?_; simp (decide := true) only [opK, wanted, stepK, step, V.ev, setDst, getD_set, List.length_set, if_true, if_false, *])
    (refine WO.op1 ?_; simp (decide := true) only [opK, wanted, stepK, step, V.ev, setDst, getD_set, List.length_set, if_true, if_false, *])
    (refine WO.op1 ?_; simp (decide := true) only [opK, wanted, stepK, step, V.ev, setDst, getD_set, List.length_set, if_true, if_false, *])
    refine WO.nil (WE.ret ⟨[.int .i64 ps[lowerB ps r].2], ?_, g.trans g2, ?_⟩)
    · simp only [readResults]
      simp (decide := true) only [getD_set, List.length_set, if_true, if_false, *]
    · simp [cntP, hany, resultOf, List.getD_eq_getElem?_getD, hlb]
  | false =>
    refine WE.cond (t := false) (by simp (decide := true) only [V.ev, getD_set, List.length_set, if_true, if_false, *]) (WE.skip ?_)
    refine WE.seq (WE.region ?_)
    (refine WO.op1 ?_; simp (decide := true) only [opK, wanted, stepK, step, V.ev, setDst, *])
    refine WO.nil (WE.ret ⟨[.int .i64 0], ?_, g.trans g2, ?_⟩)
    · simp only [readResults]
      simp (decide := true) only [getD_set, List.length_set, if_true, if_false, *]
    · simp [cntP, hany, resultOf]

end Go.V
end

section
set_option linter.unusedVariables false
set_option linter.unusedSimpArgs false
set_option linter.unusedSectionVars false
-- DRAWS
-- BUILDS
-- NEW
set_option maxHeartbeats 1000000
namespace Go.V
attribute [local irreducible] stepK opK opV

/-- A call in a region that draws its order, whose result is read in the heap. -/
theorem WD.callH {E : Env} {rs : List (Nat × Nat)} {fr : List Val} {h0 h : Heap} {d : Option Nat} {f : FuncId} {args : List Opd} {fu : Bool} {hd : List Nat} {l : List VOper} {R : List Val → Heap → Prop} (w0 : Wf h0) (g0 : Grow h0 h) (P : Val → Heap → Prop) (hP : ∀ v h h', Keep h h' → P v h → P v h')
    (hl : Late h0 h (hiddenOf rs hd)) (hw : ∀ h1, Wf h1 → Keep h0 h1 → WC E f (evs fr args) h1 fun v h' => Grow h1 h' ∧ P v h') (k : ∀ v h', Grow h0 h' → h.next ≤ h'.next → P v h' → WD E l (rs ++ [(h.next, h'.next)]) (setDst fr d v) h' R) : WD E (⟨d, .call f args, none, fu, hd⟩ :: l) rs fr h R := by
  cases fu with
  | true =>
    obtain ⟨n, v, h', e, a, b⟩ := hw h (g0.wf w0) g0.kp
    obtain ⟨m, fr2, h2, e2, q⟩ := k v h' (g0.trans a) a.next b
    refine ⟨max n m, fr2, h2, ?_, q⟩
    rw [runDraw]
    simp only [wanted]
    rw [if_pos (.inr trivial)]
    simp only [step]
    rw [run_mono (Nat.le_max_left n m) _ _ _ _ e]
    exact runDraw_mono (run_mono (Nat.le_max_right n m)) _ _ _ _ _ e2
  | false =>
    obtain ⟨n, v, h', e, a, b⟩ := hw (h.veil (hiddenOf rs hd)) (veil_wf (g0.wf w0) hl) (veil_keep w0 g0 hl)
    have hk : Keep h' (h.unveil h') := by
      intro j x e
      have hh := Heap.get_nh e
      have : (h.unveil h').hidden j = false := by
        have h1 : h'.hid = hiddenOf rs hd ++ h.hid := a.hid
        unfold Heap.hidden at hh ⊢
        rw [h1, List.any_append, Bool.or_eq_false_iff] at hh
        exact hh.2
      unfold Heap.get at e ⊢
      rw [this]
      rw [hh] at e
      exact e
    obtain ⟨m, fr2, h2, e2, q⟩ := k v (h.unveil h') (unveil_grow w0 g0 hl a) a.next (hP _ _ _ hk b)
    refine ⟨max n m, fr2, h2, ?_, q⟩
    rw [runDraw]
    simp only [wanted]
    rw [if_neg (by simp [VOp.kind]), if_pos (show (VOp.call f args).kind = 2 from rfl)]
    simp only [step]
    have := run_mono (Nat.le_max_left n m) _ _ _ _ e
    unfold Heap.veil at this
    rw [this]
    exact runDraw_mono (run_mono (Nat.le_max_right n m)) _ _ _ _ _ e2

/-- A copy of one's own. -/
def Cl (h h' : Heap) (v : Val) (ps : PinL) : Prop := (ps = [] ∧ (v = .nils ∨ ∃ b, v = .slice b 0 0 0 0)) ∨ (∃ b n, 0 < n ∧ n = ps.length ∧ v = .slice b 0 n n 2 ∧ h.next ≤ b ∧ h'.get b = some (.cells (ps.flatMap pcell)))

theorem plen (ps : PinL) : (ps.flatMap pcell).length = ps.length * 2 := flat_len (f := pcell) (sz := 2) (fun _ => rfl) ps

theorem pone (ps : PinL) : (ps.flatMap pcell).all Val.one = true := by
  rw [List.all_eq_true]
  intro x hx
  obtain ⟨p, _, hx⟩ := List.mem_flatMap.1 hx
  simp only [pcell, List.mem_cons, List.not_mem_nil, or_false] at hx
  rcases hx with rfl | rfl <;> rfl

theorem stepK_apC {E : Env} {fr : List Val} {h : Heap} (w : Wf h) {x y : Opd} {b n : Nat} {s : Val} {cs : List Val} (hx : V.ev fr x = .slice b 0 0 0 0) (hy : V.ev fr y = s) (hs : Sl h s 2 n cs) (hn : n < 4294967296) {K : Val → Heap → Prop}
    (k0 : n = 0 → K (.slice b 0 0 0 0) h) (k1 : 0 < n → ∀ h', Grow h h' → h'.get h.next = some (.cells cs) → K (.slice h.next 0 n n 2) h') : stepK E fr h (.append 2 16 x y) K := by
  unfold stepK
  obtain ⟨l1, l2⟩ := firstCells_sl hs
  simp only [step, append, hx, hy, l1, l2, appendN]
  by_cases h0 : n = 0
  · subst h0
    rw [if_pos (by omega), if_pos (by omega)]
    exact k0 rfl
  · have f0 : firstCells h 2 0 (.slice b 0 0 0 0) = some [] := by simp [firstCells]
    rw [if_neg (by omega), if_pos ⟨by rw [maxB]; omega, by rw [maxB]; omega, by omega⟩, f0]
    simp only [if_true, List.nil_append, Nat.zero_add]
    exact k1 (by omega) _ (Grow.new w _) (new_self w _)

theorem clone_ok {h : Heap} (w : Wf h) {s : Val} {ps : PinL} (hs : Ps h s ps) (hn : ps.length ≤ 100000) : WC E09 30 [s] h fun v h' => Grow h h' ∧ Cl h h' v ps := by
  refine WC.fn1 (n := 8) rfl rfl (by rfl) ?_
  intro fr hl ha
  have f0 : fr.getD 0 .undef = s := ha 0
  clear ha
  unfold v30
  rcases hs.2 with ⟨rfl, h0⟩ | ⟨b, o, cap, ls, e, _⟩
  · have d1 : eqNil .s .nils .nils = some true := rfl
    have hp := Hid.mk (List.eq_nil_of_length_eq_zero h0)
    clear hs
    repeat' (first | refine WE.assoc ?_ | refine WE.seqR ?_ | refine WO.nil ?_ | (refine WO.op1s ?_; simp only [opK, wanted, stepK, step, setDst, true_and, V.ev, Nat.reduceLT, Bool.false_eq_true, getD_ne, getD_eq, List.length_set, if_false, reduceCtorEq, Bool.not_true, *]; with_reducible show WO _ _ _ _ _) | refine WE.seqRet ?_ | (refine WE.seqCond (t := true) ?hc (fun _ => ?_) (fun hh => Bool.noConfusion hh); case hc => simp only [V.ev, Nat.reduceLT, getD_eq, List.length_set, *]))
    ((try dsimp only); refine Exists.intro _ ⟨(by (simp only [readResults, Nat.reduceLT, getD_eq, List.length_set, *]; try rfl)), ?_⟩)
    exact ⟨Grow.refl _, .inl ⟨hp.out, .inl rfl⟩⟩
  · have d1 : eqNil .s s .nils = some false := by rw [e]; rfl
    clear e
    repeat' (first | refine WE.assoc ?_ | refine WE.seqR ?_ | refine WO.nil ?_ | (refine WO.op1s ?_; simp only [opK, wanted, stepK, step, setDst, fill, true_and, V.ev, Nat.reduceLT, Bool.false_eq_true, getD_ne, getD_eq, List.length_set, if_false, reduceCtorEq, Bool.not_false, *]; with_reducible show WO _ _ _ _ _) | refine WE.seqSkip ?_ | (refine WE.seqCond (t := false) ?hc (fun hh => Bool.noConfusion hh) (fun _ => ?_); case hc => simp only [V.ev, Nat.reduceLT, getD_eq, List.length_set, *]))
    (refine WO.op1 ?_; simp only [opK, wanted, setDst, *])
    unfold stepK
    simp only [step, fill]
    have gn := Grow.new w (.cells [])
    have w1 := gn.wf w
    generalize hh1 : (h.new (.cells [])).2 = h1 at gn w1
    have e1 : h.new (.cells []) = (h.next, h1) := by rw [← hh1]; rfl
    rw [e1]
    simp only
    clear e1 hh1
    have hs1 := gn.ps hs
    clear hs
    repeat' (first | (refine WO.op1s ?_; simp only [opK, wanted, stepK, step, setDst, true_and, V.ev, Nat.reduceEqDiff, Nat.reduceLT, getD_ne, getD_eq, List.length_set, reduceCtorEq, *]; with_reducible show WO _ _ _ _ _))
    (refine WO.op1 ?_; simp only [opK, wanted, setDst, *])
    refine stepK_apC w1 (b := h.next) (s := s) (by (simp only [V.ev, Nat.reduceEqDiff, Nat.reduceLT, getD_ne, getD_eq, List.length_set, *]; try rfl)) (by (simp only [V.ev, Nat.reduceLT, getD_eq, List.length_set, *]; try rfl)) hs1 (by omega) (fun h0 => ?_) (fun h0 h2 g2 e2 => ?_)
    · repeat' (first | refine WO.nil ?_ | (refine WO.op1s ?_; simp only [opK, wanted, stepK, step, setDst, true_and, V.ev, Nat.reduceLT, getD_eq, List.length_set, *]; with_reducible show WO _ _ _ _ _) | refine WE.ret ?_)
      ((try dsimp only); refine Exists.intro _ ⟨(by (simp only [readResults, Nat.reduceLT, getD_eq, List.length_set, *]; try rfl)), ?_⟩)
      exact ⟨gn, .inl ⟨List.eq_nil_of_length_eq_zero h0, .inr ⟨_, rfl⟩⟩⟩
    · clear hs1
      repeat' (first | refine WO.nil ?_ | (refine WO.op1s ?_; simp only [opK, wanted, stepK, step, setDst, true_and, V.ev, Nat.reduceLT, getD_eq, List.length_set, *]; with_reducible show WO _ _ _ _ _) | refine WE.ret ?_)
      ((try dsimp only); refine Exists.intro _ ⟨(by (simp only [readResults, Nat.reduceLT, getD_eq, List.length_set, *]; try rfl)), ?_⟩)
      exact ⟨gn.trans g2, .inr ⟨h1.next, _, h0, rfl, rfl, gn.next, e2⟩⟩

theorem stepK_s3 {E : Env} {fr : List Val} {h : Heap} {x y z u : Opd} {b o n cap ls sz l k m : Nat} {i1 i2 i3 : IntKind} (hx : V.ev fr x = .slice b o n cap ls) (hls : ls = 0 ∨ ls = sz) (hy : V.ev fr y = .int i1 (l : Int)) (hz : V.ev fr z = .int i2 (k : Int)) (hu : V.ev fr u = .int i3 (m : Int)) (h1 : l ≤ k) (h2 : k ≤ m) (h3 : m ≤ cap)
    {K : Val → Heap → Prop} (kk : K (.slice b (o + l * sz) (k - l) (m - l) 0) h) : stepK E fr h (.slice sz x (some y) (some z) (some u)) K := by
  unfold stepK
  have hb : bounds fr n cap (some y) (some z) (some u) = some (l, k, m) := by
    simp only [bounds, bnd, hy, hz, hu]
    rw [if_pos ⟨by omega, by omega⟩]
    simp only [Int.toNat_natCast]
    rw [if_pos ⟨by omega, by omega⟩]
    simp only []
    rw [if_pos ⟨by omega, by omega⟩]
    try simp
  simp only [step, hx, sliceVal, hb, pureV, if_pos hls, Option.isSome_some, if_true]
  exact kk

theorem stepK_s2 {E : Env} {fr : List Val} {h : Heap} {x y z : Opd} {b o n cap ls sz l k : Nat} {i1 i2 : IntKind} (hx : V.ev fr x = .slice b o n cap ls) (hls : ls = 0 ∨ ls = sz) (hy : V.ev fr y = .int i1 (l : Int)) (hz : V.ev fr z = .int i2 (k : Int)) (h1 : l ≤ k) (h2 : k ≤ cap)
    {K : Val → Heap → Prop} (kk : K (.slice b (o + l * sz) (k - l) (cap - l) ls) h) : stepK E fr h (.slice sz x (some y) (some z) none) K := by
  unfold stepK
  have hb : bounds fr n cap (some y) (some z) none = some (l, k, cap) := by
    simp only [bounds, bnd, hy, hz]
    rw [if_pos ⟨by omega, by omega⟩]
    simp only [Int.toNat_natCast]
    rw [if_pos ⟨by omega, by omega⟩]
    try simp
  simp only [step, hx, sliceVal, hb, pureV, if_pos hls, Option.isSome_none, Bool.false_eq_true, if_false]
  exact kk

theorem splice_nil (C : List Val) (o : Nat) : splice C o [] = C := by
  unfold splice; simp

theorem stepK_apI {E : Env} {fr : List Val} {h : Heap} {x y : Opd} {b i m cap ls sz bytes : Nat} {s : Val} {C new : List Val} (hx : V.ev fr x = .slice b 0 i cap ls) (hy : V.ev fr y = s) (hs : Sl h s sz m new) (hc : i + m ≤ cap) (hg : h.get b = some (.cells C)) (hf : h.floor ≤ b) (hcap : cap * sz ≤ C.length) (hone : new.all Val.one = true)
    {K : Val → Heap → Prop} (k : ∀ h', Wrote h b (splice C (i * sz) new) h' → K (.slice b 0 (i + m) cap ls) h') : stepK E fr h (.append sz bytes x y) K := by
  unfold stepK
  obtain ⟨l1, l2⟩ := firstCells_sl hs
  simp only [step, append, hx, hy, l1, l2, appendN]
  rw [if_pos hc]
  by_cases h0 : m * sz = 0
  · rw [if_pos h0]
    have : new = [] := List.eq_nil_of_length_eq_zero (by rw [hs.1, h0])
    subst this
    exact k h (by rw [splice_nil]; exact ⟨hg, fun _ _ => rfl, rfl, rfl, rfl, fun w => w⟩)
  · rw [if_neg h0]
    have := Nat.mul_le_mul_right sz hc
    rw [Nat.add_mul] at this
    simp only [Heap.store, hg, Nat.zero_add]
    rw [if_pos hf, if_pos ⟨by rw [hs.1]; omega, hone⟩]
    exact k _ (put_wrote hg _)

theorem stepK_clr {E : Env} {fr : List Val} {h : Heap} {x : Opd} {b o n cap ls : Nat} {C zero : List Val} (hx : V.ev fr x = .slice b o n cap ls) (h0 : 0 < n * zero.length) (hg : h.get b = some (.cells C)) (hf : h.floor ≤ b) (hl : o + n * zero.length ≤ C.length) (hone : (repeatL zero n).all Val.one = true)
    {K : Val → Heap → Prop} (k : ∀ h', Wrote h b (splice C o (repeatL zero n)) h' → K (.tup []) h') : stepK E fr h (.clear zero x) K := by
  unfold stepK
  simp only [step, hx]
  rw [if_neg (by omega)]
  simp only [Heap.store, hg]
  rw [if_pos hf, if_pos ⟨by rw [repeatL_length]; exact hl, hone⟩]
  exact k _ (put_wrote hg _)

/-- A slice whose capacity is its length. -/
def Tight (v : Val) (n : Nat) : Prop := (v = .nils ∧ n = 0) ∨ ∃ b o, v = .slice b o n n 0

theorem erase_flat {ps : PinL} {i : Nat} (hi : i < ps.length) : (ps.eraseIdx i).flatMap pcell = (ps.flatMap pcell).take (i * 2) ++ (ps.flatMap pcell).drop ((i + 1) * 2) := by
  have h1 : ∀ (ps : PinL) (i : Nat), (ps.flatMap pcell).take (i * 2) = (ps.take i).flatMap pcell := by
    intro ps
    induction ps with
    | nil => intro i; simp
    | cons p ps ih =>
      intro i
      cases i with
      | zero => simp
      | succ i =>
        have := ih i
        rw [show (i + 1) * 2 = i * 2 + 2 by omega]
        simp [pcell] at this ⊢
        exact this
  have h2 : ∀ (ps : PinL) (i : Nat), (ps.flatMap pcell).drop (i * 2) = (ps.drop i).flatMap pcell := by
    intro ps
    induction ps with
    | nil => intro i; simp
    | cons p ps ih =>
      intro i
      cases i with
      | zero => simp
      | succ i =>
        have := ih i
        rw [show (i + 1) * 2 = i * 2 + 2 by omega]
        simp [pcell] at this ⊢
        exact this
  rw [h1, h2, ← List.flatMap_append, List.eraseIdx_eq_take_drop_succ]

theorem delete_ok {h0 h : Heap} (w0 : Wf h0) (g : Grow h0 h) {b n i : Nat} {ps : PinL} (hb : h0.next ≤ b) (hg : h.get b = some (.cells (ps.flatMap pcell))) (hn : n = ps.length) (hi : i < n) (hn2 : n ≤ 100000) :
    WC E09 32 [.slice b 0 n n 2, .int .i64 (i : Int), .int .i64 ((i + 1 : Nat) : Int)] h fun v h' => Grow h0 h' ∧ Ps h' v (ps.eraseIdx i) := by
  refine WC.fn1 (n := 33) rfl rfl (by rfl) ?_
  intro fr hl ha
  have f0 : fr.getD 0 .undef = .slice b 0 n n 2 := ha 0
  have f1 : fr.getD 1 .undef = .int .i64 (i : Int) := ha 1
  have f2 : fr.getD 2 .undef = .int .i64 ((i + 1 : Nat) : Int) := ha 2
  clear ha
  have l0 : lenI (.slice b 0 n n 2) = some n := rfl
  have l1 : lenI (.slice b 0 (i + (n - (i + 1))) n 2) = some (i + (n - (i + 1))) := rfl
  have d1 : ((i : Int) == ((i + 1 : Nat) : Int)) = false := by simp; omega
  have hpl := plen ps
  rw [← hn] at hpl
  have hfl : h.floor ≤ b := by rw [g.floor]; have := w0.fl; omega
  have hD : Sl h (.slice b ((i + 1) * 2) (n - (i + 1)) (n - (i + 1)) 2) 2 (n - (i + 1)) ((ps.flatMap pcell).drop ((i + 1) * 2)) := by
    refine ⟨by rw [List.length_drop, hpl, Nat.sub_mul], .inr ⟨_, _, _, _, rfl, .inr rfl, Nat.le_refl _, .inr ?_⟩⟩
    rw [load_get hg (by rw [hpl]; omega), List.take_of_length_le (by rw [List.length_drop, hpl]; omega)]
  have hDo : ((ps.flatMap pcell).drop ((i + 1) * 2)).all Val.one = true := by
    have := pone ps
    rw [List.all_eq_true] at this ⊢
    exact fun x hx => this x (List.mem_of_mem_drop hx)
  have hE := erase_flat (ps := ps) (i := i) (by omega)
  have hEl : (ps.eraseIdx i).length = n - 1 := by rw [List.length_eraseIdx_of_lt (by omega), hn]
  replace hn := Hid.mk hn
  have hEp := plen (ps.eraseIdx i)
  rw [hEl] at hEp
  replace hE := Hid.mk hE
  unfold v32
  repeat' (first | refine WE.seqR ?_ | refine WO.nil ?_ | (refine WO.lenOfE ?_; simp only [setDst, V.ev, Nat.reduceLT, getD_eq, List.length_set, *]; refine ⟨_, rfl, ?_⟩) | (refine WO.op1s ?_; simp only [opK, wanted, stepK, step, setDst, pureV, true_and, V.ev, Nat.reduceEqDiff, Nat.reduceLT, getD_ne, getD_eq, List.length_set, reduceCtorEq, *]; with_reducible show WO _ _ _ _ _))
  (refine WO.op1 ?_; simp only [opK, wanted, setDst, *])
  refine stepK_s3 (l := i) (k := i + 1) (m := n) (by (simp only [V.ev, Nat.reduceEqDiff, Nat.reduceLT, getD_ne, getD_eq, List.length_set, *]; try rfl)) (.inr rfl) (by (simp only [V.ev, Nat.reduceEqDiff, Nat.reduceLT, getD_ne, getD_eq, List.length_set, *]; try rfl)) (by (simp only [V.ev, Nat.reduceEqDiff, Nat.reduceLT, getD_ne, getD_eq, List.length_set, *]; try rfl)) (by (simp only [V.ev, Nat.reduceLT, getD_eq, List.length_set, *]; try rfl)) (by omega) (by omega) (Nat.le_refl _) ?_
  repeat' (first | refine WE.assoc ?_ | refine WE.seqR ?_ | refine WO.nil ?_ | refine WE.seqD ?_ | (refine WO.lenOfE ?_; simp only [setDst, V.ev, Nat.reduceLT, getD_eq, List.length_set, *]; refine ⟨_, rfl, ?_⟩) | (refine WO.op1s ?_; simp only [opK, wanted, stepK, step, setDst, eqVal, eqAt, eqv, Val.isAgg, Val.cells, true_and, and_self, Bool.and_true, List.getElem?_cons_zero, V.ev, Nat.reduceEqDiff, Nat.reduceLT, Nat.zero_add, Bool.false_eq_true, getD_ne, getD_eq, List.length_set, if_true, if_false, reduceCtorEq, Bool.not_false, *]; with_reducible show WO _ _ _ _ _) | (refine WD.op2s ?_; simp only [opV, VOp.kind, hiddenOf, unveil_veil, veil_next, or_self, wanted, stepK, step, setDst, pureV, List.nil_append, List.cons_append, true_and, V.ev, Nat.reduceEqDiff, Nat.reduceLT, Nat.reduceLeDiff, getD_ne, getD_eq, List.length_set, if_true, reduceCtorEq, *]; with_reducible show WD _ _ _ _ _ _) | refine WE.seqSkip ?_ | (refine WE.seqCond (t := false) ?hc (fun hh => Bool.noConfusion hh) (fun _ => ?_); case hc => simp only [V.ev, Nat.reduceLT, getD_eq, List.length_set, *]))
  (refine WD.op2 ?_; simp only [opV, VOp.kind, hiddenOf, wanted, setDst, or_true, List.nil_append, List.cons_append, Nat.reduceLeDiff, if_true, reduceCtorEq, *])
  refine stepK_hiC (ls := 2) (l := i) (by (simp only [V.ev, Nat.reduceEqDiff, Nat.reduceLT, getD_ne, getD_eq, List.length_set, *]; try rfl)) (.inr rfl) (by (simp only [V.ev, Nat.reduceLT, getD_eq, List.length_set, *]; try rfl)) (by omega) ?_
  repeat' (first | (refine WD.op2s ?_; simp only [opV, VOp.kind, hiddenOf, unveil_veil, veil_next, or_self, wanted, stepK, step, setDst, pureV, List.nil_append, List.cons_append, true_and, V.ev, Nat.reduceEqDiff, Nat.reduceLT, Nat.reduceLeDiff, getD_ne, getD_eq, List.length_set, if_true, reduceCtorEq, *]; with_reducible show WD _ _ _ _ _ _))
  (refine WD.op2 ?_; simp only [opV, VOp.kind, hiddenOf, wanted, setDst, or_true, List.nil_append, List.cons_append, Nat.reduceLeDiff, if_true, reduceCtorEq, *])
  refine stepK_lo0 (ls := 2) (l := i + 1) (by (simp only [V.ev, Nat.reduceEqDiff, Nat.reduceLT, getD_ne, getD_eq, List.length_set, *]; try rfl)) (.inr rfl) (by (simp only [V.ev, Nat.reduceLT, getD_eq, List.length_set, *]; try rfl)) (by omega) ?_
  skip
  (refine WD.op2 ?_; simp only [opV, VOp.kind, hiddenOf, wanted, setDst, or_true, List.nil_append, List.cons_append, Nat.reduceEqDiff, Nat.reduceLeDiff, Nat.zero_add, if_true, *])
  refine stepK_apI (m := n - (i + 1)) (cap := n) (by (simp only [V.ev, Nat.reduceEqDiff, Nat.reduceLT, getD_ne, getD_eq, List.length_set, *]; try rfl)) (by (simp only [V.ev, Nat.reduceLT, getD_eq, List.length_set, *]; try rfl)) (by simpa using hD) (by omega) hg hfl (by rw [hpl]; exact Nat.le_refl _) hDo fun h1 k1 => ?_
  obtain ⟨z, hz, e1⟩ : ∃ z, z.length = 2 ∧ h1.get b = some (.cells (((ps.eraseIdx i).flatMap pcell) ++ z ++ [])) := by
    refine ⟨(ps.flatMap pcell).drop ((n - 1) * 2), by rw [List.length_drop, hpl]; omega, ?_⟩
    rw [k1.at_, hE.out, List.append_nil]
    unfold splice
    rw [hD.1, show i * 2 + (n - (i + 1)) * 2 = (n - 1) * 2 by omega]
  have g1 := g.wrote hb w0 k1
  have hfl1 : h1.floor ≤ b := by rw [k1.floor]; exact hfl
  clear k1 hD hg
  repeat' (first | refine WE.seqR ?_ | refine WD.nil2 ?_ | (refine WO.lenOfE ?_; simp only [setDst, V.ev, Nat.reduceLT, getD_eq, List.length_set, *]; refine ⟨_, rfl, ?_⟩) | (refine WO.op1s ?_; simp only [opK, wanted, stepK, step, setDst, pureV, true_and, V.ev, Nat.reduceEqDiff, Nat.reduceLT, getD_ne, getD_eq, List.length_set, reduceCtorEq, *]; with_reducible show WO _ _ _ _ _) | (refine WD.op2s ?_; simp only [opV, VOp.kind, hiddenOf, unveil_veil, veil_next, or_self, wanted, stepK, step, setDst, List.nil_append, List.cons_append, true_and, V.ev, Nat.reduceLT, Nat.reduceLeDiff, getD_eq, List.length_set, if_true, reduceCtorEq, *]; with_reducible show WD _ _ _ _ _ _))
  (refine WO.op1 ?_; simp only [opK, wanted, setDst, *])
  refine stepK_s2 (ls := 2) (l := i + (n - (i + 1))) (k := n) (by (simp only [V.ev, Nat.reduceEqDiff, Nat.reduceLT, getD_ne, getD_eq, List.length_set, *]; try rfl)) (.inr rfl) (by (simp only [V.ev, Nat.reduceEqDiff, Nat.reduceLT, getD_ne, getD_eq, List.length_set, *]; try rfl)) (by (simp only [V.ev, Nat.reduceLT, getD_eq, List.length_set, *]; try rfl)) (by omega) (Nat.le_refl _) ?_
  (refine WO.op1 ?_; simp only [opK, wanted, setDst, Nat.zero_add, *])
  refine stepK_clr (by (simp only [V.ev, Nat.reduceLT, getD_eq, List.length_set, *]; try rfl)) (by simp; omega) e1 hfl1 (by simp only [List.length_append, hEp, hz, List.length_cons, List.length_nil]; omega) (by rw [List.all_eq_true]; rw [show n - (i + (n - (i + 1))) = 1 by omega]; simp [repeatL, Val.one]) fun h2 k2 => ?_
  have g2 := g1.wrote hb w0 k2
  have e2 : h2.get b = some (.cells ((ps.eraseIdx i).flatMap pcell ++ [.int .u64 0, .int .i64 0] ++ [])) := by
    rw [k2.at_, show n - (i + (n - (i + 1))) = 1 by omega, splice_mid (by rw [hEp]; omega) (by rw [hz]; rfl)]
    rfl
  clear k2 e1
  repeat' (first | refine WE.seqR ?_ | refine WO.nil ?_ | (refine WO.op1s ?_; simp only [opK, wanted, stepK, step, setDst, true_and, V.ev, Nat.reduceLT, getD_ne, getD_eq, List.length_set, reduceCtorEq, *]; with_reducible show WO _ _ _ _ _) | refine WE.ret ?_)
  ((try dsimp only); refine Exists.intro _ ⟨(by (simp only [readResults, Nat.reduceLT, getD_eq, List.length_set, *]; try rfl)), ?_⟩)
  refine ⟨g2, by rw [hEl]; exact hEp, .inr ⟨b, 0, n, 2, ?_, .inr rfl, by omega, .inr ?_⟩⟩
  · rw [hEl, show i + (n - (i + 1)) = n - 1 by omega]
    rfl
  · rw [load_get e2 (by simp only [List.length_append, hEp, hEl]; omega), List.drop_zero, hEl, List.append_nil, ← hEp, List.take_left]

end Go.V
end

section
set_option linter.unusedVariables false
set_option linter.unusedSimpArgs false
set_option linter.unusedSectionVars false
-- BUILDS
-- NEW
set_option maxHeartbeats 1000000
namespace Go.V
attribute [local irreducible] stepK opK opV

abbrev u64s (xs : List Int) : List Val := xs.map (Val.int .u64)

def HeI (h0 : Heap) (b1 bo : Nat) (s : Val) (n : Nat) (ps : PinL) (k : Nat) (fr : List Val) (h' : Heap) : Prop := Grow h0 h' ∧ ∃ i : Nat, Hid (i + k = n) ∧ fr.length = 25 ∧ fr.getD 1 .undef = .ptr b1 0 ∧ fr.getD 3 .undef = .slice bo 0 n n 0 ∧ fr.getD 11 .undef = s ∧ fr.getD 12 .undef = .int .i64 (n : Nat) ∧
  fr.getD 13 .undef = .int .i64 (i : Nat) ∧ h'.get bo = some (.cells (u64s ((ps.take i).map (·.1)) ++ repeatL [.int .u64 0] k))

theorem held_ok {h : Heap} (w : Wf h) {s t : Val} {ps : PinL} (hs : Ps h s ps) (hn : ps.length ≤ 100000) (ht : t.cells = [t]) : WC E09 23 [.agg [s, t]] h fun v h' => Grow h h' ∧ Us h' v (ps.map (·.1)) ∧ Tight v ps.length := by
  refine WC.fn1 (n := 25) rfl rfl (by rfl) ?_
  intro fr hl ha
  have f0 : fr.getD 0 .undef = .agg [s, t] := ha 0
  clear ha
  have hlen := hs.lenI
  unfold v23
  refine WE.seqR ?_
  (refine WO.op1 ?_; simp only [opK, wanted, setDst, *])
  refine stepK_box w (c := [s, t]) (by simp only [V.ev, *]; rfl) rfl fun b1 h1 g1 hb1 hg1 hn1 => ?_
  have w1 := g1.wf w
  have ld : ∀ h', Grow h1 h' → h'.load b1 0 1 = some [s] := fun h' g => g.part hg1 (by simp)
  have ld1 := ld _ (Grow.refl _)
  have hs1 := g1.ps hs
  obtain ⟨n, hnn⟩ : ∃ n, n = ps.length := ⟨_, rfl⟩
  rw [← hnn] at hlen
  have hn3 : n ≤ 100000 := by omega
  replace hnn := Hid.mk hnn
  replace hn := Hid.mk hn
  clear hs
  repeat' (first | refine WE.seqR ?_ | refine WO.nil ?_ | (refine WO.lenOfE ?_; simp only [setDst, V.ev, Nat.reduceLT, getD_eq, List.length_set, *]; refine ⟨_, rfl, ?_⟩) | (refine WO.op1s ?_; simp only [opK, wanted, stepK, step, setDst, List.length_cons, List.length_nil, true_and, and_true, V.ev, Nat.reduceEqDiff, Nat.reduceLT, Nat.add_zero, Nat.zero_add, Bool.false_eq_true, getD_ne, getD_eq, List.length_set, if_false, *]; with_reducible show WO _ _ _ _ _))
  (refine WO.op1 ?_; simp only [opK, wanted, setDst, *])
  refine stepK_make w1 (Grow.refl _) (n := n) (by (simp only [V.ev, Nat.reduceLT, getD_eq, List.length_set, *]; try rfl)) (by (simp only [V.ev, Nat.reduceLT, getD_eq, List.length_set, *]; try rfl)) (by rfl) (by rw [maxB]; omega) (by rw [maxB]; omega) fun bo h2 g2 hbo hg2 _ => ?_
  have ld2 := ld _ g2
  clear ld1
  repeat' (first | refine WE.assoc ?_ | refine WE.seqR ?_ | refine WO.nil ?_ | (refine WO.lenOfE ?_; simp only [setDst, V.ev, Nat.reduceLT, getD_eq, List.length_set, *]; refine ⟨_, rfl, ?_⟩) | (refine WO.op1s ?_; simp only [opK, wanted, stepK, step, setDst, true_and, V.ev, Nat.reduceEqDiff, Nat.reduceLT, Nat.add_zero, Bool.false_eq_true, getD_ne, getD_eq, List.length_set, if_false, *]; with_reducible show WO _ _ _ _ _) | refine WE.seqBlock ?_)
  refine WE.loop (HeI h1 b1 bo s n ps) ?_ n _ _ ⟨g2, 0, ⟨by omega⟩, by simp only [List.length_set, hl], by (simp only [Nat.reduceEqDiff, Nat.reduceLT, getD_ne, getD_eq, *]; try rfl), by (simp only [Nat.reduceEqDiff, Nat.reduceLT, getD_ne, getD_eq, List.length_set, *]; try rfl), by (simp only [Nat.reduceEqDiff, Nat.reduceLT, getD_ne, getD_eq, List.length_set, *]; try rfl), by (simp only [Nat.reduceEqDiff, Nat.reduceLT, getD_ne, getD_eq, List.length_set, *]; try rfl), by (simp only [Nat.reduceLT, Int.cast_ofNat_Int, getD_eq, List.length_set, *]; try rfl), by simpa using hg2⟩
  clear f0 hl hg2 g2 ld2
  rintro k fr h ⟨g, i, hk, hl, f1, f3, f11, f12, f13, hg⟩
  have ld2 := ld _ g
  have w2 := g.wf w1
  by_cases hi : i < n
  · have hd : decide ((i : Int) < (n : Int)) = true := decide_eq_true (by omega)
    have hips : i < ps.length := by have := hnn.out; omega
    obtain ⟨bx, o, he, le⟩ := Sl.elt hs1 (k := .i64) hips (by omega)
    have hfd := flat_drop (f := pcell) (sz := 2) (fun _ => rfl) ps i hips
    have x0 : h.load bx o 2 = some [.int .u64 ps[i].1, .int .i64 ps[i].2] := by
      have := le h g.kp 0 2 (by omega)
      rw [Nat.add_zero, Nat.add_zero, hfd] at this
      simpa [pcell] using this
    have wn : IntKind.i64.wrap ((i : Int) + 1) = ((i + 1 : Nat) : Int) := wrap_add (b := 1) (by have := hn.out; have := hnn.out; omega)
    have hob : eltI 1 (.slice bo 0 n n 0) (.int .i64 (i : Int)) = some (.ptr bo i) := by
      simp only [eltI]; rw [if_pos ⟨by omega, by omega⟩]; simp
    have htk := List.take_succ_eq_append_getElem hips
    replace htk := Hid.mk htk
    generalize hp : ps[i] = p at *
    clear le hfd hp
    repeat' (first | refine WE.seqR ?_ | refine WO.nil ?_ | (refine WO.iaddrE ?_; simp only [setDst, V.ev, Nat.reduceEqDiff, getD_ne, *]; refine ⟨_, rfl, ?_⟩) | (refine WO.op1s ?_; simp only [opK, wanted, stepK, step, setDst, pureV, arith, intBin, true_and, V.ev, Nat.reduceEqDiff, Nat.reduceLT, getD_ne, getD_eq, List.length_set, if_true, *]; with_reducible show WO _ _ _ _ _) | refine WE.seqSkip ?_ | (refine WE.seqCond (t := true) ?hc (fun _ => ?_) (fun hh => Bool.noConfusion hh); case hc => simp only [V.ev, Nat.reduceLT, getD_eq, *]) | refine WE.seqBlock ?_)
    (refine WO.op1 ?_; simp only [opK, wanted, setDst, *])
    refine stepK_alloc w2 fun b5 h5 g5 hb5 hg5 hn5 => ?_
    have y0 := g5.load x0
    repeat' (first | (refine WO.op1s ?_; simp only [opK, wanted, stepK, step, setDst, Val.cells, List.length_cons, List.length_nil, true_and, V.ev, Nat.reduceEqDiff, Nat.reduceLT, Nat.reduceAdd, Nat.zero_add, getD_ne, getD_eq, List.length_set, if_true, *]; with_reducible show WO _ _ _ _ _))
    (refine WO.op1 ?_; simp only [opK, wanted, setDst, *])
    refine stepK_store (b := b5) (o := 0) (us := [.int .u64 p.1, .int .i64 p.2]) (by (simp only [V.ev, Nat.reduceEqDiff, Nat.reduceLT, getD_ne, getD_eq, List.length_set, *]; try rfl)) (by (simp only [V.ev, Nat.reduceEqDiff, Nat.reduceLT, getD_ne, getD_eq, List.length_set, *]; try rfl)) (by rfl) hg5 (by rw [g5.floor]; exact Nat.le_trans w2.fl hb5) (by simp) (by rfl) fun h6 k6 => ?_
    have g6 := (Grow.refl h).trans g5 |>.wrote hb5 w2 k6
    have z0 : h6.load b5 0 1 = some [.int .u64 p.1] := load_get k6.at_ (by simp [splice])
    have hg6 := g6.keep _ _ hg
    have hg' : h6.get bo = some (.cells (u64s ((ps.take i).map (·.1)) ++ [.int .u64 0] ++ repeatL [.int .u64 0] (k - 1))) := by
      rw [hg6]
      have : k = (k - 1) + 1 := by have := hk.out; omega
      rw [this]
      simp [repeatL]
    have g7 := g.trans g6
    clear k6 hg5 hg6 hg y0 x0 g5 g
    repeat' (first | refine WO.nil ?_ | (refine WO.iaddrE ?_; simp only [setDst, V.ev, Nat.reduceEqDiff, Nat.reduceLT, getD_ne, getD_eq, List.length_set, *]; refine ⟨_, rfl, ?_⟩) | (refine WO.op1s ?_; simp only [opK, wanted, stepK, step, setDst, Val.cells, List.length_cons, List.length_nil, true_and, V.ev, Nat.reduceEqDiff, Nat.reduceLT, Nat.add_zero, Nat.zero_add, Bool.false_eq_true, getD_ne, getD_eq, List.length_set, if_true, if_false, *]; with_reducible show WO _ _ _ _ _) | refine WE.region ?_)
    (refine WO.op1 ?_; simp only [opK, wanted, setDst, *])
    refine stepK_store (b := bo) (o := i) (us := [.int .u64 p.1]) (by (simp only [V.ev, Nat.reduceLT, getD_eq, List.length_set, *]; try rfl)) (by (simp only [V.ev, Nat.reduceEqDiff, Nat.reduceLT, getD_ne, getD_eq, List.length_set, *]; try rfl)) (by rfl) hg' (by rw [g7.floor]; have := w1.fl; omega) (by simp [u64s]; omega) (by rfl) fun h8 k8 => ?_
    have g8 := g7.wrote hbo w1 k8
    have hg8 : h8.get bo = some (.cells (u64s ((ps.take (i + 1)).map (·.1)) ++ repeatL [.int .u64 0] (k - 1))) := by
      rw [k8.at_, splice_mid (by simp [u64s]; omega) (by rfl), htk.out]
      simp [u64s]
    clear k8 hg'
    repeat' (first | refine WO.nil ?_ | (refine WO.op1s ?_; simp only [opK, wanted, stepK, step, setDst, pureV, arith, intBin, true_and, V.ev, Nat.reduceEqDiff, Nat.reduceLT, getD_ne, getD_eq, List.length_set, if_true, *]; with_reducible show WO _ _ _ _ _) | refine WE.region ?_)
    exact ⟨k - 1, by have := hk.out; omega, g8, i + 1, ⟨by have := hk.out; omega⟩, by simp only [List.length_set, hl], by (simp only [Nat.reduceEqDiff, getD_ne, *]; try rfl), by (simp only [Nat.reduceEqDiff, getD_ne, *]; try rfl), by (simp only [Nat.reduceEqDiff, getD_ne, *]; try rfl), by (simp only [Nat.reduceEqDiff, getD_ne, *]; try rfl), by (simp only [Nat.reduceLT, getD_eq, List.length_set, *]; try rfl), hg8⟩
  · have hd : decide ((i : Int) < (n : Int)) = false := decide_eq_false (by omega)
    have hk0 : k = 0 := by have := hk.out; omega
    have hin : i = n := by have := hk.out; omega
    subst hk0
    rw [hin, hnn.out, List.take_length] at hg
    replace hin := Hid.mk hin
    repeat' (first | refine WE.seqR ?_ | refine WO.nil ?_ | (refine WO.op1s ?_; simp only [opK, wanted, stepK, step, setDst, pureV, arith, intBin, true_and, V.ev, Nat.reduceEqDiff, Nat.reduceLT, getD_ne, getD_eq, List.length_set, if_true, *]; with_reducible show WO _ _ _ _ _) | refine WE.seqExit ?_ | (refine WE.seqCond (t := false) ?hc (fun hh => Bool.noConfusion hh) (fun _ => ?_); case hc => simp only [V.ev, Nat.reduceLT, getD_eq, *]) | refine WE.ret ?_)
    ((try dsimp only); refine Exists.intro _ ⟨(by (simp only [readResults, Nat.reduceLT, getD_eq, List.length_set, *]; try rfl)), ?_⟩)
    have e1 : h.load bo 0 (n * 1) = some (u64s (ps.map (·.1))) := by
      have hl2 : (u64s (ps.map (·.1))).length = n := by simp [u64s, hnn.out]
      rw [load_get hg (by simp [u64s, hnn.out]), List.drop_zero]
      simp only [repeatL, List.append_nil, Nat.mul_one]
      rw [List.take_of_length_le (by omega)]
    refine ⟨g1.trans g, ?_, ?_⟩
    · show Sl h (.slice bo 0 n n 0) 1 _ _
      rw [List.length_map, ← hnn.out]
      exact ⟨by simp [hnn.out], .inr ⟨bo, 0, n, 0, rfl, .inl rfl, Nat.le_refl _, .inr e1⟩⟩
    · rw [← hnn.out]
      exact .inr ⟨bo, 0, rfl⟩

end Go.V
end

section
set_option linter.unusedVariables false
set_option linter.unusedSimpArgs false
set_option linter.unusedSectionVars false
-- BUILDS
-- NEW
set_option maxHeartbeats 1000000
namespace Go.V
attribute [local irreducible] stepK opK opV

theorem same1_ok {h : Heap} (w : Wf h) {a b c d : Int} : WC E09 34 [.agg [.int .u64 a, .int .i64 b], .agg [.int .u64 c, .int .i64 d]] h fun v h' => Grow h h' ∧ v = .bool (a == c && (b == d && true)) := by
  refine WC.fn1 (n := 8) rfl rfl (by rfl) ?_
  intro fr hl ha
  have f0 : fr.getD 0 .undef = .agg [.int .u64 a, .int .i64 b] := ha 0
  have f1 : fr.getD 1 .undef = .agg [.int .u64 c, .int .i64 d] := ha 1
  clear ha
  unfold v34
  refine WE.seqR ?_
  (refine WO.op1 ?_; simp only [opK, wanted, setDst, *])
  refine stepK_box w (c := [.int .u64 a, .int .i64 b]) (by simp only [V.ev, *]; rfl) rfl fun b1 h1 g1 hb1 hg1 hn1 => ?_
  (refine WO.op1 ?_; simp only [opK, wanted, setDst, *])
  refine stepK_box (g1.wf w) (c := [.int .u64 c, .int .i64 d]) (by simp only [V.ev, Nat.reduceEqDiff, getD_ne, *]; rfl) rfl fun b2 h2 g2 hb2 hg2 hn2 => ?_
  have l1 : h2.load b1 0 2 = some [.int .u64 a, .int .i64 b] := load_get (g2.keep _ _ hg1) (by simp)
  have l2 : h2.load b2 0 2 = some [.int .u64 c, .int .i64 d] := load_get hg2 (by simp)
  clear hg1 hg2 hn1 hn2
  repeat' (first | refine WE.seqR ?_ | refine WO.nil ?_ | (refine WO.op1s ?_; simp only [opK, wanted, stepK, step, setDst, eqVal, eqAt, eqv, Val.isAgg, Val.cells, true_and, and_self, Bool.and_true, List.getElem?_cons_zero, List.getElem?_cons_succ, V.ev, Nat.reduceEqDiff, Nat.reduceLT, Bool.false_eq_true, getD_ne, getD_eq, List.length_set, if_true, if_false, *]; with_reducible show WO _ _ _ _ _) | refine WE.ret ?_)
  ((try dsimp only); refine Exists.intro _ ⟨(by (simp only [readResults, Nat.reduceLT, getD_eq, List.length_set, *]; try rfl)), ?_⟩)
  exact ⟨g1.trans g2, by simp [resultOf]⟩

def EqI (h0 : Heap) (s t : Val) (n : Nat) (ps qs : PinL) (k : Nat) (fr : List Val) (h' : Heap) : Prop := Grow h0 h' ∧ ∃ i : Nat, Hid (i + k = n ∧ ps.take i = qs.take i) ∧ fr.length = 32 ∧ fr.getD 1 .undef = t ∧ fr.getD 2 .undef = .func (.func 34) [] [] ∧ fr.getD 15 .undef = s ∧ fr.getD 16 .undef = .int .i64 (n : Nat) ∧ fr.getD 17 .undef = .int .i64 (i : Nat)

theorem ps_load {h h1 : Heap} {s : Val} {ps : PinL} (hs : Ps h s ps) {i : Nat} (hi : i < ps.length) (g : Keep h h1) : ∃ b o, eltI 2 s (.int .i64 (i : Int)) = some (.ptr b o) ∧ ∀ h2, Keep h1 h2 → h2.load b o 2 = some [.int .u64 ps[i].1, .int .i64 ps[i].2] := by
  obtain ⟨bx, o, he, le⟩ := Sl.elt hs (k := .i64) hi (by omega)
  have hfd := flat_drop (f := pcell) (sz := 2) (fun _ => rfl) ps i hi
  refine ⟨bx, o, he, fun h2 g2 => ?_⟩
  have := le h2 (g.trans g2) 0 2 (by omega)
  rw [Nat.add_zero, Nat.add_zero, hfd] at this
  simpa [pcell] using this

theorem equal_ok {h : Heap} (w : Wf h) {s t : Val} {ps qs : PinL} (hs : Ps h s ps) (ht : Ps h t qs) (hn : ps.length ≤ 100000) (hn2 : qs.length ≤ 100000) : WC E09 33 [s, t, .func (.func 34) [] []] h fun v h' => Grow h h' ∧ v = .bool (decide (ps = qs)) := by
  refine WC.fn1 (n := 32) rfl rfl (by rfl) ?_
  intro fr hl ha
  have f0 : fr.getD 0 .undef = s := ha 0
  have f1 : fr.getD 1 .undef = t := ha 1
  have f2 : fr.getD 2 .undef = .func (.func 34) [] [] := ha 2
  clear ha
  have hlen := hs.lenI
  have hlen2 := ht.lenI
  obtain ⟨n, hnn⟩ : ∃ n, n = ps.length := ⟨_, rfl⟩
  obtain ⟨m, hmm⟩ : ∃ m, m = qs.length := ⟨_, rfl⟩
  rw [← hnn] at hlen
  rw [← hmm] at hlen2
  replace hnn := Hid.mk hnn
  replace hmm := Hid.mk hmm
  unfold v33
  by_cases hnm : n = m
  case neg =>
    have d1 : ((n : Int) == (m : Int)) = false := by simp; omega
    replace hnm := Hid.mk hnm
    repeat' (first | refine WE.assoc ?_ | refine WE.seqR ?_ | refine WO.nil ?_ | (refine WO.lenOfE ?_; simp only [setDst, V.ev, Nat.reduceLT, getD_eq, List.length_set, *]; refine ⟨_, rfl, ?_⟩) | (refine WO.op1s ?_; simp only [opK, wanted, stepK, step, setDst, eqVal, eqAt, eqv, Val.isAgg, Val.cells, true_and, and_self, Bool.and_true, List.getElem?_cons_zero, V.ev, Nat.reduceEqDiff, Nat.reduceLT, getD_ne, getD_eq, List.length_set, if_true, reduceCtorEq, Bool.not_false, *]; with_reducible show WO _ _ _ _ _) | refine WE.seqRet ?_ | (refine WE.seqCond (t := true) ?hc (fun _ => ?_) (fun hh => Bool.noConfusion hh); case hc => simp only [V.ev, Nat.reduceLT, getD_eq, List.length_set, *]))
    ((try dsimp only); refine Exists.intro _ ⟨(by (simp only [readResults, Nat.reduceLT, getD_eq, List.length_set, *]; try rfl)), ?_⟩)
    refine ⟨Grow.refl _, ?_⟩
    rw [decide_eq_false (fun e => hnm.out (by rw [hnn.out, hmm.out, e]))]
    rfl
  subst hnm
  have hn3 := hn
  replace hn := Hid.mk hn
  replace hn2 := Hid.mk hn2
  repeat' (first | refine WE.assoc ?_ | refine WE.seqR ?_ | refine WO.nil ?_ | (refine WO.lenOfE ?_; simp only [setDst, V.ev, Nat.reduceLT, getD_eq, List.length_set, *]; refine ⟨_, rfl, ?_⟩) | (refine WO.op1s ?_; simp only [opK, wanted, stepK, step, setDst, eqVal, eqAt, eqv, Val.isAgg, Val.cells, true_and, and_self, Bool.and_true, List.getElem?_cons_zero, V.ev, Nat.reduceEqDiff, Nat.reduceLT, beq_self_eq_true, getD_ne, getD_eq, List.length_set, if_true, reduceCtorEq, Bool.not_true, *]; with_reducible show WO _ _ _ _ _) | refine WE.seqSkip ?_ | (refine WE.seqCond (t := false) ?hc (fun hh => Bool.noConfusion hh) (fun _ => ?_); case hc => simp only [V.ev, Nat.reduceLT, getD_eq, List.length_set, *]) | refine WE.seqBlock ?_)
  refine WE.loop (EqI h s t n ps qs) ?_ n _ _ ⟨Grow.refl _, 0, ⟨by omega, rfl⟩, by simp only [List.length_set, hl], by (simp only [Nat.reduceEqDiff, getD_ne, *]; try rfl), by (simp only [Nat.reduceEqDiff, getD_ne, *]; try rfl), by (simp only [Nat.reduceEqDiff, Nat.reduceLT, getD_ne, getD_eq, List.length_set, *]; try rfl), by (simp only [Nat.reduceEqDiff, Nat.reduceLT, getD_ne, getD_eq, List.length_set, *]; try rfl), by (simp only [Nat.reduceLT, Int.cast_ofNat_Int, getD_eq, List.length_set, *]; try rfl)⟩
  clear f0 f1 f2 hl
  rintro k fr h1 ⟨g, i, hk, hl, f1, f2, f15, f16, f17⟩
  have w2 := g.wf w
  by_cases hi : i < n
  · have hd : decide ((i : Int) < (n : Int)) = true := decide_eq_true (by omega)
    have hips : i < ps.length := by have := hnn.out; omega
    have hiqs : i < qs.length := by have := hmm.out; omega
    obtain ⟨bx, ox, hex, lex⟩ := ps_load hs hips g.kp
    obtain ⟨by_, oy, hey, ley⟩ := ps_load ht hiqs g.kp
    have wn : IntKind.i64.wrap ((i : Int) + 1) = ((i + 1 : Nat) : Int) := wrap_add (b := 1) (by have := hn.out; have := hnn.out; omega)
    have htk := List.take_succ_eq_append_getElem hips
    have htk2 := List.take_succ_eq_append_getElem hiqs
    have heq : ps[i] ≠ qs[i] → ps ≠ qs := fun hne e => hne (by subst e; rfl)
    replace htk := Hid.mk (And.intro htk (And.intro htk2 heq))
    generalize hp : ps[i] = p at *
    generalize hq : qs[i] = q at *
    clear hp hq htk2 heq
    have x0 := lex _ (Keep.refl _)
    repeat' (first | refine WE.seqR ?_ | refine WO.nil ?_ | (refine WO.iaddrE ?_; simp only [setDst, V.ev, Nat.reduceEqDiff, getD_ne, *]; refine ⟨_, rfl, ?_⟩) | (refine WO.op1s ?_; simp only [opK, wanted, stepK, step, setDst, pureV, arith, intBin, true_and, V.ev, Nat.reduceEqDiff, Nat.reduceLT, getD_ne, getD_eq, List.length_set, if_true, *]; with_reducible show WO _ _ _ _ _) | refine WE.seqSkip ?_ | (refine WE.seqCond (t := true) ?hc (fun _ => ?_) (fun hh => Bool.noConfusion hh); case hc => simp only [V.ev, Nat.reduceLT, getD_eq, *]) | refine WE.seqBlock ?_)
    (refine WO.op1 ?_; simp only [opK, wanted, setDst, *])
    refine stepK_alloc w2 fun b5 h5 g5 hb5 hg5 hn5 => ?_
    clear x0
    repeat' (first | (refine WO.op1s ?_; simp only [opK, wanted, stepK, step, setDst, Val.cells, List.length_cons, List.length_nil, true_and, V.ev, Nat.reduceEqDiff, Nat.reduceLT, Nat.reduceAdd, Nat.zero_add, getD_ne, getD_eq, List.length_set, if_true, *]; with_reducible show WO _ _ _ _ _))
    (refine WO.op1 ?_; simp only [opK, wanted, setDst, *])
    refine stepK_store (b := b5) (o := 0) (us := [.int .u64 p.1, .int .i64 p.2]) (by (simp only [V.ev, Nat.reduceEqDiff, Nat.reduceLT, getD_ne, getD_eq, List.length_set, *]; try rfl)) (by (simp only [V.ev, Nat.reduceEqDiff, Nat.reduceLT, getD_ne, getD_eq, List.length_set, *]; try rfl)) (by rfl) hg5 (by rw [g5.floor]; exact Nat.le_trans w2.fl hb5) (by simp) (by rfl) fun h6 k6 => ?_
    have g6 := g5.wrote hb5 w2 k6
    have w6 := g6.wf w2
    have e6 := k6.at_
    have y0 := ley _ g6.kp
    clear k6 hg5
    repeat' (first | refine WE.seqR ?_ | refine WO.nil ?_ | (refine WO.iaddrE ?_; simp only [setDst, V.ev, Nat.reduceEqDiff, Nat.reduceLT, getD_ne, getD_eq, List.length_set, *]; refine ⟨_, rfl, ?_⟩) | (refine WO.op1s ?_; simp only [opK, wanted, stepK, step, setDst, true_and, V.ev, Nat.reduceEqDiff, Nat.reduceLT, getD_ne, getD_eq, List.length_set, if_true, *]; with_reducible show WO _ _ _ _ _))
    (refine WO.op1 ?_; simp only [opK, wanted, setDst, *])
    refine stepK_alloc w6 fun b7 h7 g7 hb7 hg7 hn7 => ?_
    skip
    (refine WO.op1 ?_; simp only [opK, wanted, setDst, *])
    refine stepK_store (b := b7) (o := 0) (us := [.int .u64 q.1, .int .i64 q.2]) (by (simp only [V.ev, Nat.reduceLT, getD_eq, List.length_set, *]; try rfl)) (by (simp only [V.ev, Nat.reduceEqDiff, Nat.reduceLT, getD_ne, getD_eq, List.length_set, *]; try rfl)) (by rfl) hg7 (by rw [g7.floor]; exact Nat.le_trans w6.fl hb7) (by simp) (by rfl) fun h8 k8 => ?_
    have g8 := g7.wrote hb7 w6 k8
    have w8 := g8.wf w6
    have z1 : h8.load b5 0 2 = some [.int .u64 p.1, .int .i64 p.2] := load_get (g8.keep _ _ e6) (by simp [splice])
    have z2 : h8.load b7 0 2 = some [.int .u64 q.1, .int .i64 q.2] := load_get k8.at_ (by simp [splice])
    have gA := g.trans (g6.trans g8)
    clear k8 hg7 e6 y0 lex ley g5 g7
    repeat' (first | refine WE.seqR ?_ | refine WO.nil ?_ | (refine WO.op1s ?_; simp only [opK, wanted, stepK, step, setDst, evs, List.nil_append, List.cons_append, true_and, V.ev, Nat.reduceEqDiff, Nat.reduceLT, getD_ne, getD_eq, List.length_set, if_true, *]; with_reducible show WO _ _ _ _ _))
    refine WO.callvG w8 (Grow.refl _) (fun v => v = .bool (p.1 == q.1 && (p.2 == q.2 && true))) (f := 34) (a := []) (c := []) (by (simp only [V.ev, Nat.reduceEqDiff, Nat.reduceLT, getD_ne, getD_eq, List.length_set, *]; try rfl)) (fun h9 w9 _ => by (simp only [evs, List.nil_append, List.append_nil, V.ev, Nat.reduceEqDiff, Nat.reduceLT, getD_ne, getD_eq, List.length_set, *]); exact same1_ok w9) ?_
    rintro _ h9 g9 rfl
    simp only [setDst]
    have gB := gA.trans g9
    clear z1 z2
    cases hc : (p.1 == q.1 && (p.2 == q.2 && true)) with
    | true =>
      repeat' (first | refine WO.nil ?_ | (refine WO.op1s ?_; simp only [opK, wanted, stepK, step, setDst, pureV, arith, intBin, unary, true_and, V.ev, Nat.reduceEqDiff, Nat.reduceLT, getD_ne, getD_eq, List.length_set, if_true, Bool.not_true, *]; with_reducible show WO _ _ _ _ _) | refine WE.skip ?_ | (refine WE.cond2 (t := false) ?hc (fun hh => Bool.noConfusion hh) (fun _ => ?_); case hc => simp only [V.ev, Nat.reduceLT, getD_eq, List.length_set, *]) | refine WE.region ?_)
      have hpq : p = q := by
        simp at hc
        exact Prod.ext hc.1 hc.2
      refine ⟨k - 1, by have := hk.out; omega, gB, i + 1, ⟨by have := hk.out; omega, ?_⟩, by simp only [List.length_set, hl], by (simp only [Nat.reduceEqDiff, getD_ne, *]; try rfl), by (simp only [Nat.reduceEqDiff, getD_ne, *]; try rfl), by (simp only [Nat.reduceEqDiff, getD_ne, *]; try rfl), by (simp only [Nat.reduceEqDiff, getD_ne, *]; try rfl), by (simp only [Nat.reduceLT, getD_eq, List.length_set, *]; try rfl)⟩
      rw [htk.out.1, htk.out.2.1, hk.out.2, hpq]
    | false =>
      repeat' (first | refine WE.seqR ?_ | refine WO.nil ?_ | (refine WO.op1s ?_; simp only [opK, wanted, stepK, step, setDst, pureV, unary, true_and, V.ev, Nat.reduceLT, getD_eq, List.length_set, Bool.not_false, *]; with_reducible show WO _ _ _ _ _) | (refine WE.cond2 (t := true) ?hc (fun _ => ?_) (fun hh => Bool.noConfusion hh); case hc => simp only [V.ev, Nat.reduceLT, getD_eq, List.length_set, *]) | refine WE.ret ?_ | (with_reducible show blockQ _ _ _ _ _; simp only [blockQ, seqQ]))
      ((try dsimp only); refine Exists.intro _ ⟨(by (simp only [readResults, Nat.reduceLT, getD_eq, List.length_set, *]; try rfl)), ?_⟩)
      refine ⟨gB, ?_⟩
      rw [decide_eq_false (htk.out.2.2 fun e => by subst e; simp at hc)]
      rfl
  · have hd : decide ((i : Int) < (n : Int)) = false := decide_eq_false (by omega)
    have hin := Hid.mk (show i = n by have := hk.out; omega)
    repeat' (first | refine WE.seqR ?_ | refine WO.nil ?_ | (refine WO.op1s ?_; simp only [opK, wanted, stepK, step, setDst, pureV, arith, intBin, true_and, V.ev, if_true, *]; with_reducible show WO _ _ _ _ _) | refine WE.seqExit ?_ | (refine WE.seqCond (t := false) ?hc (fun hh => Bool.noConfusion hh) (fun _ => ?_); case hc => simp only [V.ev, Nat.reduceLT, getD_eq, *]) | refine WE.ret ?_)
    ((try dsimp only); refine Exists.intro _ ⟨(by (simp only [readResults, Nat.reduceLT, getD_eq, List.length_set, *]; try rfl)), ?_⟩)
    refine ⟨g, ?_⟩
    have h1 := hk.out.2
    rw [List.take_of_length_le (by have := hnn.out; have := hin.out; omega), List.take_of_length_le (by have := hmm.out; have := hin.out; omega)] at h1
    rw [decide_eq_true h1]
    rfl

theorem psame_ok {h : Heap} (w : Wf h) {s t : Val} {ps qs : PinL} {x y : Int} (hs : Ps h s ps) (ht : Ps h t qs) (hn : ps.length ≤ 100000) (hn2 : qs.length ≤ 100000) : WC E09 25 [.agg [s, .int .i64 x], .agg [t, .int .i64 y]] h fun v h' => Grow h h' ∧ v = .bool (decide (ps = qs)) := by
  refine WC.fn1 (n := 10) rfl rfl (by rfl) ?_
  intro fr hl ha
  have f0 : fr.getD 0 .undef = .agg [s, .int .i64 x] := ha 0
  have f1 : fr.getD 1 .undef = .agg [t, .int .i64 y] := ha 1
  clear ha
  unfold v25
  refine WE.seqR ?_
  (refine WO.op1 ?_; simp only [opK, wanted, setDst, *])
  refine stepK_box w (c := [s, .int .i64 x]) (by simp only [V.ev, *]; rfl) rfl fun b1 h1 g1 hb1 hg1 hn1 => ?_
  (refine WO.op1 ?_; simp only [opK, wanted, setDst, *])
  refine stepK_box (g1.wf w) (c := [t, .int .i64 y]) (by simp only [V.ev, Nat.reduceEqDiff, getD_ne, *]; rfl) rfl fun b2 h2 g2 hb2 hg2 hn2 => ?_
  have l1 : h2.load b1 0 1 = some [s] := load_get (g2.keep _ _ hg1) (by simp)
  have l2 : h2.load b2 0 1 = some [t] := load_get hg2 (by simp)
  have gA := g1.trans g2
  have wB := gA.wf w
  have hs2 := gA.ps hs
  have ht2 := gA.ps ht
  have gg := Grow.refl h2
  clear hg1 hg2 hn1 hn2 g1 g2
  repeat' (first | refine WE.seqR ?_ | refine WO.nil ?_ | (refine WO.op1s ?_; simp only [opK, wanted, stepK, step, setDst, evs, true_and, V.ev, Nat.reduceEqDiff, Nat.reduceLT, Nat.add_zero, Bool.false_eq_true, getD_ne, getD_eq, List.length_set, if_false, *]; with_reducible show WO _ _ _ _ _) | (refine WO.callG (f := 33) (g := none) wB gg _ rfl (fun h1 w1 k1 => by (simp only [evs, V.ev, Nat.reduceEqDiff, Nat.reduceLT, getD_ne, getD_eq, List.length_set, *]); exact  equal_ok w1 (Keep.sl k1 hs2) (Keep.sl k1 ht2) hn hn2) ?_; clear gg; (rintro _ hh gg rfl; simp only [setDst])) | refine WE.ret ?_)
  ((try dsimp only); refine Exists.intro _ ⟨(by (simp only [readResults, Nat.reduceLT, getD_eq, List.length_set, *]; try rfl)), ?_⟩)
  exact ⟨gA.trans gg, rfl⟩

end Go.V
end

section
set_option linter.unusedVariables false
set_option linter.unusedSimpArgs false
set_option linter.unusedSectionVars false
-- BUILDS
-- NEW
set_option maxHeartbeats 2000000
namespace Go.V
attribute [local irreducible] stepK opK opV

theorem stepK_one2 {E : Env} {fr : List Val} {h : Heap} (w : Wf h) {x : Opd} {a b z1 z2 : Val} (hx : (V.ev fr x).cells = [a, b]) {K : Val → Heap → Prop}
    (k : ∀ vb h', Grow h h' → h.next ≤ vb → h'.get vb = some (.cells [a, b]) → K (.slice vb 0 1 1 0) h') : stepK E fr h (.bslice 1 [z1, z2] [(0, 2, x)]) K := by
  unfold stepK
  have hf : fill fr [z1, z2] [(0, 2, x)] = some [a, b] := by
    simp [fill, hx, splice]
  simp only [step, hf]
  exact k _ _ (Grow.new w _) (Nat.le_refl _) (new_self w _)

theorem pint (ps : PinL) : (ps.flatMap pcell).all isInt = true := by
  rw [List.all_eq_true]
  intro x hx
  obtain ⟨p, _, hx⟩ := List.mem_flatMap.1 hx
  simp only [pcell, List.mem_cons, List.not_mem_nil, or_false] at hx
  rcases hx with rfl | rfl <;> rfl

theorem flat_take (ps : PinL) (i : Nat) : (ps.flatMap pcell).take (i * 2) = (ps.take i).flatMap pcell := by
  induction ps generalizing i with
  | nil => simp
  | cons p ps ih =>
    cases i with
    | zero => simp
    | succ i =>
      have := ih i
      rw [show (i + 1) * 2 = i * 2 + 2 by omega]
      simp [pcell] at this ⊢
      exact this

theorem flat_dropP (ps : PinL) (i : Nat) : (ps.flatMap pcell).drop (i * 2) = (ps.drop i).flatMap pcell := by
  induction ps generalizing i with
  | nil => simp
  | cons p ps ih =>
    cases i with
    | zero => simp
    | succ i =>
      have := ih i
      rw [show (i + 1) * 2 = i * 2 + 2 by omega]
      simp [pcell] at this ⊢
      exact this

theorem Cl.up {h0 h h' : Heap} {v : Val} {ps : PinL} (c : Cl h h' v ps) (g : h0.next ≤ h.next) : Cl h0 h' v ps := by
  rcases c with c | ⟨b, n, e0, e1, e2, e3, e4⟩
  · exact .inl c
  · exact .inr ⟨b, n, e0, e1, e2, Nat.le_trans g e3, e4⟩

theorem ins_ok {h0 h1 h : Heap} (w0 : Wf h0) (g1 : Grow h0 h1) (g : Grow h1 h) {v : Val} {ps : PinL} (hc : Cl h0 h1 v ps) (hn : ps.length ≤ 100000) {vb i : Nat} {r c : Int} (hvb : h1.next ≤ vb) (hv : h.get vb = some (.cells [.int .u64 r, .int .i64 c])) (hi : i ≤ ps.length) :
    WC E09 31 [v, .int .i64 (i : Int), .slice vb 0 1 1 0] h fun u h' => Grow h0 h' ∧ ∃ b, u = .slice b 0 (ps.length + 1) (ps.length + 1) 2 ∧ h0.next ≤ b ∧ h'.get b = some (.cells ((ps.take i ++ [(r, c)] ++ ps.drop i).flatMap pcell)) := by
  have g0 := g1.trans g
  have w := g0.wf w0
  have wc := wfC_of w
  rcases hc with ⟨rfl, hv0⟩ | ⟨b, n, hn0, rfl, rfl, hb, hg⟩
  · obtain rfl : i = 0 := by simpa using hi
    refine WC.prim (v := .slice h.next 0 1 1 2) (h' := (h.new (.cells [.int .u64 r, .int .i64 c])).2) rfl ?_ ⟨g0.trans (Grow.new w _), h.next, rfl, g0.next, by rw [new_self w]; rfl⟩
    rcases hv0 with rfl | ⟨b, rfl⟩
    · unfold insP; simp [wc, hv, isInt]
    · unfold insP; simp [wc, hv, isInt]
  · have hg2 := g.keep _ _ hg
    have hbl := lt_of_get (g1.wf w0) hg
    have hf : h.floor ≤ b := by rw [g0.floor]; have := w0.fl; omega
    have hf2 : h.floor ≤ vb := by rw [g0.floor]; have := w0.fl; have := g1.next; omega
    have hpl := plen ps
    have e : insP wfC [.slice b 0 ps.length ps.length 2, .int .i64 (i : Int), .slice vb 0 1 1 0] h = some (.slice h.next 0 (ps.length + 1) (ps.length + 1) 2, ((h.put b none).new (.cells ((ps.take i ++ [(r, c)] ++ ps.drop i).flatMap pcell))).2) := by
      unfold insP
      simp only [wc, if_true, hv, isInt, and_self]
      rw [if_neg (by omega), if_pos ⟨trivial, Nat.le_refl _, by omega, by omega, by omega, hf, by omega, hf2⟩, hg2]
      simp only
      rw [if_pos ⟨by omega, pint ps⟩]
      have e1 : (ps.flatMap pcell).take (ps.length * 2) = ps.flatMap pcell := List.take_of_length_le (by omega)
      rw [e1, Int.toNat_natCast, flat_take, flat_dropP]
      simp [pcell]
    obtain ⟨gm, em⟩ := g0.move w0 hb (.cells ((ps.take i ++ [(r, c)] ++ ps.drop i).flatMap pcell))
    exact WC.prim rfl e ⟨gm, _, rfl, g0.next, em⟩

/-- The count at a place is changed. -/
def setN (q : PinL) (i : Nat) (n : Int) : PinL := q.set i ((q.getD i (0, 0)).1, (q.getD i (0, 0)).2 + n)

def hasP (ps : PinL) (r : Int) : Bool := ps.any fun p => p.1 == r

def slot (ps : PinL) (r : Int) : PinL := if hasP ps r then ps else ps.take (lowerB ps r) ++ [(r, 0)] ++ ps.drop (lowerB ps r)

def bump (ps : PinL) (r n : Int) : PinL := setN (slot ps r) (lowerB ps r) n

/-- More: the pins, their number, the error. -/
def moreR (ps : PinL) (t r n : Int) : PinL × Int × Int :=
  if n < 0 then ([], 0, 4) else if r = 0 then ([], 0, 14) else if n = 0 then (ps, t, 0)
  else if n > 4096 - cntP ps r ∨ (hasP ps r = false ∧ ps.length = 1024) then ([], 0, 3) else (bump ps r n, t + n, 0)

theorem setN_splice {q : PinL} {i : Nat} (hi : i < q.length) (m : Int) : splice (q.flatMap pcell) (i * 2 + 1) [.int .i64 m] = (q.set i ((q.getD i (0, 0)).1, m)).flatMap pcell := by
  induction q generalizing i with
  | nil => simp at hi
  | cons p q ih =>
    cases i with
    | zero => simp [splice, pcell]
    | succ i =>
      have := ih (i := i) (by simpa using hi)
      rw [show (i + 1) * 2 + 1 = (i * 2 + 1) + 2 by omega]
      simp [splice, pcell] at this ⊢
      exact this

theorem cell_atP {q : PinL} {i : Nat} (hi : i < q.length) : ((q.flatMap pcell).drop (i * 2 + 1)).take 1 = [.int .i64 (q.getD i (0, 0)).2] := by
  rw [← List.drop_drop, flat_drop (f := pcell) (sz := 2) (fun _ => rfl) q i hi]
  simp [pcell, List.getD_eq_getElem?_getD, hi]

/-- A result: pins and an error. -/
def PRes (h : Heap) (v : Val) (x : PinL × Int × Int) : Prop := ∃ s, v = .tup [.agg [s, .int .i64 x.2.1], .int .i64 x.2.2] ∧ Ps h s x.1

theorem Keep.ps {h h' : Heap} (k : Keep h h') {s : Val} {ps : PinL} (e : Ps h s ps) : Ps h' s ps := Keep.sl k e
theorem Keep.pres {h h' : Heap} (k : Keep h h') {v : Val} {x : PinL × Int × Int} (e : PRes h v x) : PRes h' v x := by
  obtain ⟨s, e1, e2⟩ := e
  exact ⟨s, e1, k.ps e2⟩

theorem ps_nil {h : Heap} : Ps h .nils [] := ⟨rfl, .inl ⟨rfl, rfl⟩⟩

theorem one2 {s : Val} (hs : Val.one s = true) (k : IntKind) (d : Int) : [s, .int k d].all Val.one = true := by
  simp only [List.all_cons, List.all_nil, hs, Bool.and_true]; rfl

theorem ps_one {h : Heap} {s : Val} {ps : PinL} (hs : Ps h s ps) : s.cells = [s] ∧ Val.one s = true := by
  rcases hs.2 with ⟨rfl, _⟩ | ⟨_, _, _, _, rfl, _⟩ <;> exact ⟨rfl, rfl⟩

theorem has_lt {ps : PinL} {r : Int} (ha : Asc ps) (h : hasP ps r = true) : lowerB ps r < ps.length := by
  rcases Nat.lt_or_ge (lowerB ps r) ps.length with q | q
  · exact q
  · have := any_none ha (r := r) (by have := lowerB_le ps r; omega)
    unfold hasP at h
    rw [this] at h; cases h

theorem slot_lt {ps : PinL} {r : Int} (ha : Asc ps) : lowerB ps r < (slot ps r).length := by
  unfold slot
  split
  · rename_i h; exact has_lt ha h
  · have := lowerB_le ps r
    simp; omega

theorem more_ok {h : Heap} (w : Wf h) {s : Val} {ps : PinL} {t r n : Int} (hs : Ps h s ps) (ha : Asc ps) (hn : ps.length ≤ 1024) (hc : ∀ p ∈ ps, 0 ≤ p.2 ∧ p.2 ≤ 4096) (ht : 0 ≤ t ∧ t ≤ 1099511627776) :
    WC E09 16 [.agg [s, .int .i64 t], .int .u64 r, .int .i64 n] h fun v h' => Grow h h' ∧ PRes h' v (moreR ps t r n) := by
  refine WC.fn1 (n := 72) rfl rfl (by rfl) ?_
  intro fr hl ha'
  have f0 : fr.getD 0 .undef = .agg [s, .int .i64 t] := ha' 0
  have f1 : fr.getD 1 .undef = .int .u64 r := ha' 1
  have f2 : fr.getD 2 .undef = .int .i64 n := ha' 2
  clear ha'
  have hso := ps_one hs
  have hlen := hs.lenI
  have hn4 : ps.length < 4611686018427387904 := by omega
  have hn5 : ps.length ≤ 100000 := by omega
  have hcnt : 0 ≤ cntP ps r ∧ cntP ps r ≤ 4096 := by
    unfold cntP
    split
    · rename_i h
      have h1 := has_lt ha h
      have := hc _ (List.getElem_mem h1)
      simpa [List.getD_eq_getElem?_getD, h1] using this
    · omega
  replace hc := Hid.mk hc
  replace hn := Hid.mk hn
  replace ht := Hid.mk ht
  unfold v16
  refine WE.seqR ?_
  (refine WO.op1 ?_; simp only [opK, wanted, setDst, *])
  refine stepK_box w (c := [s, .int .i64 t]) (by simp only [V.ev, *]; rfl) rfl fun b1 h1 g1 hb1 hg1 hn1 => ?_
  (refine WO.op1 ?_; simp only [opK, wanted, setDst, *])
  refine stepK_alloc (g1.wf w) fun b6 h2 g2 hb6 hg6 hn2 => ?_
  have gA := g1.trans g2
  have wB := gA.wf w
  have ld : ∀ h', Grow h2 h' → h'.load b1 0 2 = some [s, .int .i64 t] := fun h' g => g.part (g2.keep _ _ hg1) (by simp)
  have ld1 : ∀ h', Grow h2 h' → h'.load b1 0 1 = some [s] := fun h' g => g.part (g2.keep _ _ hg1) (by simp)
  have ld2 : ∀ h', Grow h2 h' → h'.load b1 1 1 = some [.int .i64 t] := fun h' g => g.part (g2.keep _ _ hg1) (by simp)
  have hs2 := gA.ps hs
  have gg := Grow.refl h2
  have hfl : h2.floor ≤ b6 := by rw [gA.floor]; have := w.fl; have := g1.next; omega
  have hb6' : h.next ≤ b6 := by have := g1.next; omega
  have B := Hid.mk (And.intro hfl (And.intro hb6' hg6))
  -- what is stored in the end
  have done : ∀ (h3 : Heap) (x : Val) (d : Int), Grow h2 h3 → ∀ h4, Wrote h3 b6 (splice [.nils, .int .i64 0] 0 [x, .int .i64 d]) h4 → Grow h h4 ∧ h4.load b6 0 2 = some [x, .int .i64 d] ∧ ∀ j y, j ≠ b6 → h3.get j = some y → h4.get j = some y :=
    fun h3 x d g h4 k => ⟨(gA.trans g).wrote B.out.2.1 w k, load_get k.at_ (by simp [splice]), fun j y hj e => by rw [k.else_ j hj]; exact e⟩
  have at6 : ∀ h3, Grow h2 h3 → h3.get b6 = some (.cells [.nils, .int .i64 0]) ∧ h3.floor ≤ b6 := fun h3 g => ⟨g.keep _ _ B.out.2.2, by rw [g.floor]; exact B.out.1⟩
  replace done := Hid.mk done
  replace at6 := Hid.mk at6
  replace gA := Hid.mk gA
  clear hg1 hg6 hn1 hn2 g1 g2 hb1 hb6 hfl hb6'
  have hs := Hid.mk hs
  unfold moreR
  by_cases c1 : n < 0
  · have d1 : decide (n < 0) = true := decide_eq_true c1
    rw [if_pos c1]
    replace c1 := Hid.mk c1
    repeat' (first | refine WE.seqR ?_ | refine WO.nil ?_ | (refine WO.op1s ?_; simp only [opK, wanted, stepK, step, setDst, pureV, arith, intBin, Val.cells, fill, List.length_cons, List.length_nil, true_and, V.ev, Nat.reduceEqDiff, Nat.reduceLT, Nat.reduceAdd, Nat.zero_add, getD_ne, getD_eq, List.length_set, if_true, *]; with_reducible show WO _ _ _ _ _) | (refine WE.cond2 (t := true) ?hc (fun _ => ?_) (fun hh => Bool.noConfusion hh); case hc => simp only [V.ev, Nat.reduceLT, getD_eq, List.length_set, *]) | refine WE.seqBlock ?_)
    (refine WO.op1 ?_; simp only [opK, wanted, setDst, *])
    refine stepK_store (b := b6) (o := 0) (us := [.nils, .int .i64 0]) (by (simp only [V.ev, Nat.reduceEqDiff, Nat.reduceLT, getD_ne, getD_eq, List.length_set, *]; try rfl)) (by (simp only [V.ev, Nat.reduceLT, getD_eq, List.length_set, *]; try rfl)) (by rfl) (at6.out _ gg).1 (at6.out _ gg).2 (by simp) (by rfl) fun h4 k4 => ?_
    obtain ⟨g4, m4, p4⟩ := done.out _ _ _ gg _ k4
    clear k4
    repeat' (first | refine WO.nil ?_ | (refine WO.op1s ?_; simp only [opK, wanted, stepK, step, setDst, true_and, V.ev, *]; with_reducible show WO _ _ _ _ _) | refine WE.ret ?_ | (with_reducible show blockQ _ _ _ _ _; simp only [blockQ, seqQ]))
    ((try dsimp only); refine Exists.intro _ ⟨(by (simp only [readResults, Nat.reduceEqDiff, Nat.reduceLT, getD_ne, getD_eq, List.length_set, if_true, *]; try rfl)), ?_⟩)
    exact ⟨g4, .nils, rfl, ps_nil⟩
  have d1 : decide (n < 0) = false := decide_eq_false c1
  rw [if_neg c1]
  by_cases c2 : r = 0
  · have d2 : (r == 0) = true := by simp [c2]
    rw [if_pos c2]
    replace c2 := Hid.mk c2
    repeat' (first | refine WE.seqR ?_ | refine WO.nil ?_ | (refine WO.op1s ?_; simp only [opK, wanted, stepK, step, setDst, pureV, arith, intBin, eqVal, eqAt, eqv, Val.isAgg, Val.cells, fill, List.length_cons, List.length_nil, true_and, and_self, Bool.and_true, List.getElem?_cons_zero, V.ev, Nat.reduceEqDiff, Nat.reduceLT, Nat.reduceAdd, Nat.zero_add, Bool.false_eq_true, decide_false, getD_ne, getD_eq, List.length_set, if_true, if_false, Bool.not_true, *]; with_reducible show WO _ _ _ _ _) | (refine WE.cond2 (t := true) ?hc (fun _ => ?_) (fun hh => Bool.noConfusion hh); case hc => simp only [V.ev, Nat.reduceLT, getD_eq, List.length_set, *]) | (refine WE.cond2 (t := false) ?hc (fun hh => Bool.noConfusion hh) (fun _ => ?_); case hc => simp only [V.ev, Nat.reduceLT, getD_eq, List.length_set, *]) | refine WE.seqBlock ?_)
    (refine WO.op1 ?_; simp only [opK, wanted, setDst, *])
    refine stepK_store (b := b6) (o := 0) (us := [.nils, .int .i64 0]) (by (simp only [V.ev, Nat.reduceEqDiff, Nat.reduceLT, getD_ne, getD_eq, List.length_set, *]; try rfl)) (by (simp only [V.ev, Nat.reduceLT, getD_eq, List.length_set, *]; try rfl)) (by rfl) (at6.out _ gg).1 (at6.out _ gg).2 (by simp) (by rfl) fun h4 k4 => ?_
    obtain ⟨g4, m4, p4⟩ := done.out _ _ _ gg _ k4
    clear k4
    repeat' (first | refine WO.nil ?_ | (refine WO.op1s ?_; simp only [opK, wanted, stepK, step, setDst, true_and, V.ev, *]; with_reducible show WO _ _ _ _ _) | refine WE.ret ?_ | (with_reducible show blockQ _ _ _ _ _; simp only [blockQ, seqQ]))
    ((try dsimp only); refine Exists.intro _ ⟨(by (simp only [readResults, Nat.reduceEqDiff, Nat.reduceLT, getD_ne, getD_eq, List.length_set, if_true, *]; try rfl)), ?_⟩)
    exact ⟨g4, .nils, rfl, ps_nil⟩
  have d2 : (r == 0) = false := by simp [c2]
  rw [if_neg c2]
  replace c2 := Hid.mk c2
  by_cases c3 : n = 0
  · have d3 : (n == 0) = true := by simp [c3]
    rw [if_pos c3]
    replace c3 := Hid.mk c3
    have ld0 := ld _ gg
    repeat' (first | refine WE.seqR ?_ | refine WO.nil ?_ | (refine WO.op1s ?_; simp only [opK, wanted, stepK, step, setDst, pureV, arith, intBin, eqVal, eqAt, eqv, Val.isAgg, Val.cells, List.length_cons, List.length_nil, true_and, and_self, Bool.and_true, List.getElem?_cons_zero, V.ev, Nat.reduceEqDiff, Nat.reduceLT, Nat.reduceAdd, Nat.zero_add, Bool.false_eq_true, decide_false, getD_ne, getD_eq, List.length_set, if_true, if_false, Bool.not_true, Bool.not_false, *]; with_reducible show WO _ _ _ _ _) | (refine WE.cond2 (t := true) ?hc (fun _ => ?_) (fun hh => Bool.noConfusion hh); case hc => simp only [V.ev, Nat.reduceLT, getD_eq, List.length_set, *]) | (refine WE.cond2 (t := false) ?hc (fun hh => Bool.noConfusion hh) (fun _ => ?_); case hc => simp only [V.ev, Nat.reduceLT, getD_eq, List.length_set, *]) | refine WE.seqBlock ?_)
    (refine WO.op1 ?_; simp only [opK, wanted, setDst, *])
    refine stepK_store (b := b6) (o := 0) (us := [s, .int .i64 t]) (by (simp only [V.ev, Nat.reduceEqDiff, Nat.reduceLT, getD_ne, getD_eq, List.length_set, *]; try rfl)) (by (simp only [V.ev, Nat.reduceLT, getD_eq, List.length_set, *]; try rfl)) (by rfl) (at6.out _ gg).1 (at6.out _ gg).2 (by simp) (one2 hso.2 _ _) fun h4 k4 => ?_
    obtain ⟨g4, m4, p4⟩ := done.out _ _ _ gg _ k4
    clear k4
    repeat' (first | refine WO.nil ?_ | (refine WO.op1s ?_; simp only [opK, wanted, stepK, step, setDst, true_and, V.ev, *]; with_reducible show WO _ _ _ _ _) | refine WE.ret ?_ | (with_reducible show blockQ _ _ _ _ _; simp only [blockQ, seqQ]))
    ((try dsimp only); refine Exists.intro _ ⟨(by (simp only [readResults, Nat.reduceEqDiff, Nat.reduceLT, getD_ne, getD_eq, List.length_set, if_true, *]; try rfl)), ?_⟩)
    exact ⟨g4, s, rfl, g4.ps hs.out⟩
  have d3 : (n == 0) = false := by simp [c3]
  rw [if_neg c3]
  replace c3 := Hid.mk c3
  have u1 : IntKind.i64.wrap (4096 - cntP ps r) = 4096 - cntP ps r := wrap_i64 (by omega) (by omega)
  have ld0 := ld _ gg
  by_cases c4 : n > 4096 - cntP ps r
  · have d4 : decide (n > 4096 - cntP ps r) = true := decide_eq_true c4
    rw [if_pos (.inl c4)]
    replace c4 := Hid.mk c4
    repeat' (first | refine WE.assoc ?_ | refine WE.seqR ?_ | refine WO.nil ?_ | (refine WO.op1s ?_; simp only [opK, wanted, stepK, step, setDst, pureV, arith, intBin, evs, eqVal, eqAt, eqv, Val.isAgg, Val.cells, fill, List.length_cons, List.length_nil, true_and, and_self, Bool.and_true, List.getElem?_cons_zero, List.getElem?_cons_succ, V.ev, Nat.reduceEqDiff, Nat.reduceLT, Nat.reduceAdd, Nat.zero_add, Bool.false_eq_true, decide_false, getD_ne, getD_eq, List.length_set, if_true, if_false, Bool.true_beq, Bool.not_false, *]; with_reducible show WO _ _ _ _ _) | (refine WO.callG (f := 28) (g := none) wB gg _ rfl (fun h1 w1 k1 => by (simp only [evs, V.ev, Nat.reduceEqDiff, Nat.reduceLT, getD_ne, getD_eq, List.length_set, *]); exact  find_ok w1 (Keep.sl k1 hs2) ha hn4) ?_; clear gg; (rintro _ hh gg rfl; simp only [setDst])) | (refine WO.callG (f := 14) (g := none) wB gg _ rfl (fun h1 w1 k1 => by (simp only [evs, V.ev, Nat.reduceEqDiff, Nat.reduceLT, getD_ne, getD_eq, List.length_set, *]); exact  pcount_ok w1 (Keep.sl k1 hs2) ha hn4) ?_; clear gg; (rintro _ hh gg rfl; simp only [setDst])) | (refine WE.seqCond (t := true) ?hc (fun _ => ?_) (fun hh => Bool.noConfusion hh); case hc => simp only [V.ev, Nat.reduceLT, getD_eq, List.length_set, *]) | refine WE.skip ?_ | (refine WE.cond2 (t := false) ?hc (fun hh => Bool.noConfusion hh) (fun _ => ?_); case hc => simp only [V.ev, Nat.reduceLT, getD_eq, List.length_set, *]) | refine WE.seqBlock ?_)
    (refine WO.op1 ?_; simp only [opK, wanted, setDst, *])
    refine stepK_store (b := b6) (o := 0) (us := [.nils, .int .i64 0]) (by (simp only [V.ev, Nat.reduceEqDiff, Nat.reduceLT, getD_ne, getD_eq, List.length_set, *]; try rfl)) (by (simp only [V.ev, Nat.reduceLT, getD_eq, List.length_set, *]; try rfl)) (by rfl) (at6.out _ gg).1 (at6.out _ gg).2 (by simp) (by rfl) fun h4 k4 => ?_
    obtain ⟨g4, m4, p4⟩ := done.out _ _ _ gg _ k4
    clear k4
    repeat' (first | refine WO.nil ?_ | (refine WO.op1s ?_; simp only [opK, wanted, stepK, step, setDst, true_and, V.ev, *]; with_reducible show WO _ _ _ _ _) | refine WE.seqRet ?_)
    ((try dsimp only); refine Exists.intro _ ⟨(by (simp only [readResults, Nat.reduceEqDiff, Nat.reduceLT, getD_ne, getD_eq, List.length_set, if_true, *]; try rfl)), ?_⟩)
    exact ⟨g4, .nils, rfl, ps_nil⟩
  have d4 : decide (n > 4096 - cntP ps r) = false := decide_eq_false c4
  have hn9 : 0 < n ∧ n ≤ 4096 := by have := c3.out; omega
  have hslot : ((slot ps r).getD (lowerB ps r) (0, 0)).2 = cntP ps r := by
    unfold slot cntP hasP
    split
    · rfl
    · have := lowerB_le ps r
      rw [List.append_assoc, List.getD_eq_getElem?_getD, List.getElem?_append_right (by rw [List.length_take]; omega), List.length_take, Nat.min_eq_left this]
      simp
  have u2 : IntKind.i64.wrap (((slot ps r).getD (lowerB ps r) (0, 0)).2 + n) = ((slot ps r).getD (lowerB ps r) (0, 0)).2 + n := by rw [hslot]; exact wrap_i64 (by omega) (by omega)
  have u3 : IntKind.i64.wrap (t + n) = t + n := by have := ht.out; exact wrap_i64 (by omega) (by omega)
  have hsl := slot_lt (r := r) ha
  replace c4 := Hid.mk c4
  replace hslot := Hid.mk hslot
  cases hh : (ps.any fun p => p.1 == r) with
  | false =>
    have hh2 : hasP ps r = false := hh
    by_cases c5 : ps.length = 1024
    · have d5 : ((ps.length : Int) == 1024) = true := by simp; omega
      rw [if_pos (.inr ⟨hh2, c5⟩)]
      replace c5 := Hid.mk c5
      repeat' (first | refine WE.assoc ?_ | refine WE.seqR ?_ | refine WO.nil ?_ | (refine WO.lenOfE ?_; simp only [setDst, V.ev, Nat.reduceLT, getD_eq, List.length_set, *]; refine ⟨_, rfl, ?_⟩) | (refine WO.op1s ?_; simp only [opK, wanted, stepK, step, setDst, pureV, arith, intBin, unary, evs, eqVal, eqAt, eqv, Val.isAgg, Val.cells, fill, List.length_cons, List.length_nil, true_and, and_self, Bool.and_true, List.getElem?_cons_zero, List.getElem?_cons_succ, V.ev, Nat.reduceEqDiff, Nat.reduceLT, Nat.reduceAdd, Nat.add_zero, Nat.zero_add, Bool.false_eq_true, beq_self_eq_true, decide_false, getD_ne, getD_eq, List.length_set, if_true, if_false, Bool.not_true, Bool.not_false, *]; with_reducible show WO _ _ _ _ _) | (refine WO.callG (f := 28) (g := none) wB gg _ rfl (fun h1 w1 k1 => by (simp only [evs, V.ev, Nat.reduceEqDiff, Nat.reduceLT, getD_ne, getD_eq, List.length_set, *]); exact  find_ok w1 (Keep.sl k1 hs2) ha hn4) ?_; clear gg; (rintro _ hh gg rfl; simp only [setDst])) | (refine WO.callG (f := 14) (g := none) wB gg _ rfl (fun h1 w1 k1 => by (simp only [evs, V.ev, Nat.reduceEqDiff, Nat.reduceLT, getD_ne, getD_eq, List.length_set, *]); exact  pcount_ok w1 (Keep.sl k1 hs2) ha hn4) ?_; clear gg; (rintro _ hh gg rfl; simp only [setDst])) | (refine WE.seqCond (t := true) ?hc (fun _ => ?_) (fun hh => Bool.noConfusion hh); case hc => simp only [V.ev, Nat.reduceLT, getD_eq, List.length_set, *]) | refine WE.skip ?_ | (refine WE.cond2 (t := false) ?hc (fun hh => Bool.noConfusion hh) (fun _ => ?_); case hc => simp only [V.ev, Nat.reduceLT, getD_eq, List.length_set, *]) | (refine WO.known ?hc ?_; case hc => (simp only [wanted, Bool.true_beq, Nat.reduceEqDiff, Nat.reduceLT, getD_ne, getD_eq, List.length_set, *])) | refine WE.seqBlock ?_)
      (refine WO.op1 ?_; simp only [opK, wanted, setDst, *])
      refine stepK_store (b := b6) (o := 0) (us := [.nils, .int .i64 0]) (by (simp only [V.ev, Nat.reduceEqDiff, Nat.reduceLT, getD_ne, getD_eq, List.length_set, *]; try rfl)) (by (simp only [V.ev, Nat.reduceLT, getD_eq, List.length_set, *]; try rfl)) (by rfl) (at6.out _ gg).1 (at6.out _ gg).2 (by simp) (by rfl) fun h4 k4 => ?_
      obtain ⟨g4, m4, p4⟩ := done.out _ _ _ gg _ k4
      clear k4
      repeat' (first | refine WO.nil ?_ | (refine WO.op1s ?_; simp only [opK, wanted, stepK, step, setDst, true_and, V.ev, *]; with_reducible show WO _ _ _ _ _) | refine WE.seqRet ?_)
      ((try dsimp only); refine Exists.intro _ ⟨(by (simp only [readResults, Nat.reduceEqDiff, Nat.reduceLT, getD_ne, getD_eq, List.length_set, if_true, *]; try rfl)), ?_⟩)
      exact ⟨g4, .nils, rfl, ps_nil⟩
    · have d5 : ((ps.length : Int) == 1024) = false := by simp; omega
      rw [if_neg (by rintro (q | ⟨_, q⟩); exact c4.out q; exact c5 q)]
      replace c5 := Hid.mk c5
      repeat' (first | refine WE.assoc ?_ | refine WE.seqR ?_ | refine WO.nil ?_ | (refine WO.lenOfE ?_; simp only [setDst, V.ev, Nat.reduceLT, getD_eq, List.length_set, *]; refine ⟨_, rfl, ?_⟩) | (refine WO.op1s ?_; simp only [opK, wanted, stepK, step, setDst, pureV, arith, intBin, unary, evs, eqVal, eqAt, eqv, Val.isAgg, Val.cells, true_and, and_self, Bool.and_true, List.getElem?_cons_zero, List.getElem?_cons_succ, V.ev, Nat.reduceEqDiff, Nat.reduceLT, Nat.add_zero, Bool.false_eq_true, beq_self_eq_true, decide_false, getD_ne, getD_eq, List.length_set, if_true, if_false, Bool.not_false, *]; with_reducible show WO _ _ _ _ _) | (refine WO.callG (f := 28) (g := none) wB gg _ rfl (fun h1 w1 k1 => by (simp only [evs, V.ev, Nat.reduceEqDiff, Nat.reduceLT, getD_ne, getD_eq, List.length_set, *]); exact  find_ok w1 (Keep.sl k1 hs2) ha hn4) ?_; clear gg; (rintro _ hh gg rfl; simp only [setDst])) | (refine WO.callG (f := 14) (g := none) wB gg _ rfl (fun h1 w1 k1 => by (simp only [evs, V.ev, Nat.reduceEqDiff, Nat.reduceLT, getD_ne, getD_eq, List.length_set, *]); exact  pcount_ok w1 (Keep.sl k1 hs2) ha hn4) ?_; clear gg; (rintro _ hh gg rfl; simp only [setDst])) | refine WE.seqSkip ?_ | (refine WE.seqCond (t := false) ?hc (fun hh => Bool.noConfusion hh) (fun _ => ?_); case hc => simp only [V.ev, Nat.reduceLT, getD_eq, List.length_set, *]) | refine WE.skip ?_ | (refine WE.cond2 (t := false) ?hc (fun hh => Bool.noConfusion hh) (fun _ => ?_); case hc => simp only [V.ev, Nat.reduceLT, getD_eq, List.length_set, *]) | (refine WO.known ?hc ?_; case hc => (simp only [wanted, Bool.true_beq, Nat.reduceEqDiff, Nat.reduceLT, getD_ne, getD_eq, List.length_set, *])) | refine WE.seqBlock ?_)
      rename_i h3
      have w3 := gg.wf wB
      refine WO.call rfl ?_
      (simp only [evs, V.ev, Nat.reduceLT, getD_eq, List.length_set, *])
      refine (clone_ok w3 (gg.ps hs2) hn5).mono ?_
      rintro v4 h4 ⟨g4, hc4⟩
      simp only [setDst]
      replace gg := Hid.mk gg
      repeat' (first | refine WE.assoc ?_ | refine WE.seqR ?_ | refine WO.nil ?_ | (refine WO.op1s ?_; simp only [opK, wanted, stepK, step, setDst, pureV, unary, Val.cells, fill, splice, List.take_zero, List.drop_zero, List.drop_succ_cons, List.nil_append, List.cons_append, List.length_cons, List.length_nil, List.drop_nil, true_and, and_self, Nat.le_refl, V.ev, Nat.reduceEqDiff, Nat.reduceLT, Nat.reduceLeDiff, Nat.reduceAdd, Nat.zero_add, getD_ne, getD_eq, List.length_set, if_true, Bool.not_false, *]; with_reducible show WO _ _ _ _ _) | (refine WE.seqCond (t := true) ?hc (fun _ => ?_) (fun hh => Bool.noConfusion hh); case hc => simp only [V.ev, Nat.reduceLT, getD_eq, List.length_set, *]))
      (refine WO.op1 ?_; simp only [opK, wanted, setDst, *])
      refine stepK_one2 (g4.wf w3) (a := .int .u64 r) (b := .int .i64 0) (by (simp only [V.ev, Nat.reduceLT, getD_eq, List.length_set, *]; try rfl)) fun vb hA gA5 hvb hgA => ?_
      skip
      refine WO.call rfl ?_
      (simp only [evs, V.ev, Nat.reduceEqDiff, Nat.reduceLT, getD_ne, getD_eq, List.length_set, *])
      refine (ins_ok wB (gg.out.trans g4) gA5 (hc4.up gg.out.next) hn5 hvb hgA (lowerB_le ps r)).mono ?_
      rintro v6 h5 ⟨g5, b, rfl, hb6, hg5⟩
      simp only [setDst]
      obtain ⟨m, hm⟩ : ∃ m, m = ps.length + 1 := ⟨_, rfl⟩
      rw [← hm]
      have hq : slot ps r = ps.take (lowerB ps r) ++ [(r, 0)] ++ ps.drop (lowerB ps r) := by unfold slot; rw [hh2]; rfl
      rw [← hq] at hg5
      have hm2 : (slot ps r).length = m := by
        have := lowerB_le ps r
        rw [hq, hm]; simp; omega
      replace hm := Hid.mk (show m = (slot ps r).length ∧ lowerB ps r < m by omega)
      replace hbb := Hid.mk hb6
      clear hb6 hm2 hc4 hgA g4 gA5 hq
      have hel : eltI 2 (.slice b 0 m m 2) (.int .i64 (lowerB ps r : Int)) = some (.ptr b (lowerB ps r * 2)) := by
        simp only [eltI]; rw [if_pos ⟨by omega, by have := hm.out; omega⟩]; simp
      have ldc : h5.load b (lowerB ps r * 2 + 1) 1 = some [.int .i64 ((slot ps r).getD (lowerB ps r) (0, 0)).2] := by
        have := hm.out
        rw [load_get hg5 (by rw [plen]; omega), cell_atP (by omega)]
      have w5 := g5.wf wB
      have ld2' := ld2 _ g5
      replace g5 := Hid.mk g5
      repeat' (first | refine WE.seqR ?_ | refine WO.nil ?_ | (refine WO.iaddrE ?_; simp only [setDst, V.ev, Nat.reduceEqDiff, Nat.reduceLT, getD_ne, getD_eq, List.length_set, *]; refine ⟨_, rfl, ?_⟩) | (refine WO.op1s ?_; simp only [opK, wanted, stepK, step, setDst, pureV, arith, intBin, Val.cells, List.length_cons, List.length_nil, true_and, V.ev, Nat.reduceEqDiff, Nat.reduceLT, Nat.zero_add, Bool.false_eq_true, getD_ne, getD_eq, List.length_set, if_true, if_false, *]; with_reducible show WO _ _ _ _ _))
      (refine WO.op1 ?_; simp only [opK, wanted, setDst, *])
      refine stepK_store (b := b) (o := lowerB ps r * 2 + 1) (us := [.int .i64 (((slot ps r).getD (lowerB ps r) (0, 0)).2 + n)]) (by (simp only [V.ev, Nat.reduceLT, getD_eq, List.length_set, *]; try rfl)) (by (simp only [V.ev, Nat.reduceEqDiff, Nat.reduceLT, getD_ne, getD_eq, List.length_set, *]; try rfl)) (by rfl) hg5 (by rw [g5.out.floor]; have := wB.fl; have := hbb.out; omega) (by have := hm.out; rw [plen]; omega) (by rfl) fun h6 k6 => ?_
      have g6 := g5.out.wrote hbb.out wB k6
      have hg6 : h6.get b = some (.cells ((bump ps r n).flatMap pcell)) := by
        have := hm.out
        rw [k6.at_, setN_splice (by omega)]; rfl
      have ld2' := ld2 _ g6
      clear k6 hg5 ldc
      repeat' (first | refine WE.seqR ?_ | refine WO.nil ?_ | (refine WO.op1s ?_; simp only [opK, wanted, stepK, step, setDst, pureV, arith, intBin, Val.cells, fill, splice, List.take_zero, List.take_succ_cons, List.drop_zero, List.drop_succ_cons, List.nil_append, List.cons_append, List.length_cons, List.length_nil, List.drop_nil, true_and, and_self, Nat.le_refl, V.ev, Nat.reduceEqDiff, Nat.reduceLT, Nat.reduceLeDiff, Nat.reduceAdd, Nat.zero_add, Bool.false_eq_true, getD_ne, getD_eq, List.length_set, if_true, if_false, *]; with_reducible show WO _ _ _ _ _))
      (refine WO.op1 ?_; simp only [opK, wanted, setDst, *])
      refine stepK_store (b := b6) (o := 0) (us := [.slice b 0 m m 2, .int .i64 (t + n)]) (by (simp only [V.ev, Nat.reduceEqDiff, Nat.reduceLT, getD_ne, getD_eq, List.length_set, *]; try rfl)) (by (simp only [V.ev, Nat.reduceLT, getD_eq, List.length_set, *]; try rfl)) (by rfl) (at6.out _ g6).1 (at6.out _ g6).2 (by simp) (by rfl) fun h7 k7 => ?_
      obtain ⟨g7, m7, p7⟩ := done.out _ _ _ g6 _ k7
      have hbn : b ≠ b6 := by
        have := lt_of_get wB B.out.2.2
        have := hbb.out
        omega
      have hg7 := p7 _ _ hbn hg6
      clear k7 hg6
      repeat' (first | refine WO.nil ?_ | (refine WO.op1s ?_; simp only [opK, wanted, stepK, step, setDst, true_and, V.ev, *]; with_reducible show WO _ _ _ _ _) | refine WE.ret ?_)
      ((try dsimp only); refine Exists.intro _ ⟨(by (simp only [readResults, Nat.reduceEqDiff, Nat.reduceLT, getD_ne, getD_eq, List.length_set, if_true, *]; try rfl)), ?_⟩)
      refine ⟨g7, .slice b 0 m m 2, rfl, ?_⟩
      show Ps h7 (.slice b 0 m m 2) (bump ps r n)
      have hml : (bump ps r n).length = m := by unfold bump setN; rw [List.length_set]; have := hm.out; omega
      refine ⟨by rw [plen], .inr ⟨b, 0, m, 2, by rw [hml], .inr rfl, by rw [hml]; exact Nat.le_refl _, .inr ?_⟩⟩
      rw [load_get hg7 (by rw [plen]; omega), List.drop_zero, List.take_of_length_le (by rw [plen]; omega)]
  | true =>
    have hh2 : hasP ps r = true := hh
    rw [if_neg (by rintro (q | ⟨q, _⟩); exact c4.out q; rw [hh2] at q; cases q)]
    repeat' (first | refine WE.assoc ?_ | refine WE.seqR ?_ | refine WO.nil ?_ | (refine WO.op1s ?_; simp only [opK, wanted, stepK, step, setDst, pureV, arith, intBin, unary, evs, eqVal, eqAt, eqv, Val.isAgg, Val.cells, true_and, and_self, Bool.and_true, List.getElem?_cons_zero, List.getElem?_cons_succ, V.ev, Nat.reduceEqDiff, Nat.reduceLT, Nat.add_zero, Bool.false_eq_true, beq_self_eq_true, decide_false, getD_ne, getD_eq, List.length_set, if_true, if_false, Bool.false_beq, Bool.not_true, Bool.not_false, *]; with_reducible show WO _ _ _ _ _) | (refine WO.callG (f := 28) (g := none) wB gg _ rfl (fun h1 w1 k1 => by (simp only [evs, V.ev, Nat.reduceEqDiff, Nat.reduceLT, getD_ne, getD_eq, List.length_set, *]); exact  find_ok w1 (Keep.sl k1 hs2) ha hn4) ?_; clear gg; (rintro _ hh gg rfl; simp only [setDst])) | (refine WO.callG (f := 14) (g := none) wB gg _ rfl (fun h1 w1 k1 => by (simp only [evs, V.ev, Nat.reduceEqDiff, Nat.reduceLT, getD_ne, getD_eq, List.length_set, *]); exact  pcount_ok w1 (Keep.sl k1 hs2) ha hn4) ?_; clear gg; (rintro _ hh gg rfl; simp only [setDst])) | refine WE.seqSkip ?_ | (refine WE.seqCond (t := false) ?hc (fun hh => Bool.noConfusion hh) (fun _ => ?_); case hc => simp only [V.ev, Nat.reduceLT, getD_eq, List.length_set, *]) | refine WE.skip ?_ | (refine WE.cond2 (t := false) ?hc (fun hh => Bool.noConfusion hh) (fun _ => ?_); case hc => simp only [V.ev, Nat.reduceLT, getD_eq, List.length_set, *]) | refine WE.seqBlock ?_)
    rename_i h3
    have w3 := gg.wf wB
    refine WO.call rfl ?_
    (simp only [evs, V.ev, Nat.reduceLT, getD_eq, List.length_set, *])
    refine (clone_ok w3 (gg.ps hs2) hn5).mono ?_
    rintro v4 h5 ⟨g4, hc4⟩
    simp only [setDst]
    have hq : slot ps r = ps := by unfold slot; rw [hh2]; rfl
    rcases hc4 with ⟨rfl, _⟩ | ⟨b, m, hm0, hm, rfl, hb4, hg5⟩
    · cases hh
    rw [← hq] at hg5
    have hbb := Hid.mk (show h2.next ≤ b by have := gg.next; omega)
    have hm2 := has_lt ha hh2
    have g5 := gg.trans g4
    replace hm := Hid.mk (show m = (slot ps r).length ∧ lowerB ps r < m by rw [hq]; omega)
    clear hb4 g4 hm2 hm0 gg
    replace hq := Hid.mk hq
    have hel : eltI 2 (.slice b 0 m m 2) (.int .i64 (lowerB ps r : Int)) = some (.ptr b (lowerB ps r * 2)) := by
      simp only [eltI]; rw [if_pos ⟨by omega, by have := hm.out; omega⟩]; simp
    have ldc : h5.load b (lowerB ps r * 2 + 1) 1 = some [.int .i64 ((slot ps r).getD (lowerB ps r) (0, 0)).2] := by
      have := hm.out
      rw [load_get hg5 (by rw [plen]; omega), cell_atP (by omega)]
    have w5 := g5.wf wB
    have ld2' := ld2 _ g5
    replace g5 := Hid.mk g5
    repeat' (first | refine WE.assoc ?_ | refine WE.seqR ?_ | refine WO.nil ?_ | (refine WO.iaddrE ?_; simp only [setDst, V.ev, Nat.reduceEqDiff, Nat.reduceLT, getD_ne, getD_eq, List.length_set, *]; refine ⟨_, rfl, ?_⟩) | (refine WO.op1s ?_; simp only [opK, wanted, stepK, step, setDst, pureV, arith, intBin, unary, Val.cells, List.length_cons, List.length_nil, true_and, V.ev, Nat.reduceEqDiff, Nat.reduceLT, Nat.zero_add, Bool.false_eq_true, getD_ne, getD_eq, List.length_set, if_true, if_false, Bool.not_true, *]; with_reducible show WO _ _ _ _ _) | refine WE.seqSkip ?_ | (refine WE.seqCond (t := false) ?hc (fun hh => Bool.noConfusion hh) (fun _ => ?_); case hc => simp only [V.ev, Nat.reduceLT, getD_eq, List.length_set, *]))
    (refine WO.op1 ?_; simp only [opK, wanted, setDst, *])
    refine stepK_store (b := b) (o := lowerB ps r * 2 + 1) (us := [.int .i64 (((slot ps r).getD (lowerB ps r) (0, 0)).2 + n)]) (by (simp only [V.ev, Nat.reduceLT, getD_eq, List.length_set, *]; try rfl)) (by (simp only [V.ev, Nat.reduceEqDiff, Nat.reduceLT, getD_ne, getD_eq, List.length_set, *]; try rfl)) (by rfl) hg5 (by rw [g5.out.floor]; have := wB.fl; have := hbb.out; omega) (by have := hm.out; rw [plen]; omega) (by rfl) fun h6 k6 => ?_
    have g6 := g5.out.wrote hbb.out wB k6
    have hg6 : h6.get b = some (.cells ((bump ps r n).flatMap pcell)) := by
      have := hm.out
      rw [k6.at_, setN_splice (by omega)]; rfl
    have ld2' := ld2 _ g6
    clear k6 hg5 ldc
    repeat' (first | refine WE.seqR ?_ | refine WO.nil ?_ | (refine WO.op1s ?_; simp only [opK, wanted, stepK, step, setDst, pureV, arith, intBin, Val.cells, fill, splice, List.take_zero, List.take_succ_cons, List.drop_zero, List.drop_succ_cons, List.nil_append, List.cons_append, List.length_cons, List.length_nil, List.drop_nil, true_and, and_self, Nat.le_refl, V.ev, Nat.reduceEqDiff, Nat.reduceLT, Nat.reduceLeDiff, Nat.reduceAdd, Nat.zero_add, Bool.false_eq_true, getD_ne, getD_eq, List.length_set, if_true, if_false, *]; with_reducible show WO _ _ _ _ _))
    (refine WO.op1 ?_; simp only [opK, wanted, setDst, *])
    refine stepK_store (b := b6) (o := 0) (us := [.slice b 0 m m 2, .int .i64 (t + n)]) (by (simp only [V.ev, Nat.reduceEqDiff, Nat.reduceLT, getD_ne, getD_eq, List.length_set, *]; try rfl)) (by (simp only [V.ev, Nat.reduceLT, getD_eq, List.length_set, *]; try rfl)) (by rfl) (at6.out _ g6).1 (at6.out _ g6).2 (by simp) (by rfl) fun h7 k7 => ?_
    obtain ⟨g7, m7, p7⟩ := done.out _ _ _ g6 _ k7
    have hbn : b ≠ b6 := by
      have := lt_of_get wB B.out.2.2
      have := hbb.out
      omega
    have hg7 := p7 _ _ hbn hg6
    clear k7 hg6
    repeat' (first | refine WO.nil ?_ | (refine WO.op1s ?_; simp only [opK, wanted, stepK, step, setDst, true_and, V.ev, *]; with_reducible show WO _ _ _ _ _) | refine WE.ret ?_)
    ((try dsimp only); refine Exists.intro _ ⟨(by (simp only [readResults, Nat.reduceEqDiff, Nat.reduceLT, getD_ne, getD_eq, List.length_set, if_true, *]; try rfl)), ?_⟩)
    refine ⟨g7, .slice b 0 m m 2, rfl, ?_⟩
    show Ps h7 (.slice b 0 m m 2) (bump ps r n)
    have hml : (bump ps r n).length = m := by unfold bump setN; rw [List.length_set]; have := hm.out; omega
    refine ⟨by rw [plen], .inr ⟨b, 0, m, 2, by rw [hml], .inr rfl, by rw [hml]; exact Nat.le_refl _, .inr ?_⟩⟩
    rw [load_get hg7 (by rw [plen]; omega), List.drop_zero, List.take_of_length_le (by rw [plen]; omega)]

end Go.V
end

section
set_option linter.unusedVariables false
set_option linter.unusedSimpArgs false
set_option linter.unusedSectionVars false
-- BUILDS
-- NEW
set_option maxHeartbeats 2000000
namespace Go.V
attribute [local irreducible] stepK opK opV

theorem ps_wrote {h3 h4 : Heap} {s : Val} {ps : PinL} (hs : Ps h3 s ps) {b4 : Nat} {cs : List Val} {d : Val} (hg : h3.get b4 = some (.cells [.nils, d])) (k : Wrote h3 b4 cs h4) : Ps h4 s ps := by
  refine ⟨hs.1, ?_⟩
  rcases hs.2 with q | ⟨b, o, cap, ls, e1, e2, e3, e4⟩
  · exact .inl q
  · refine .inr ⟨b, o, cap, ls, e1, e2, e3, ?_⟩
    rcases e4 with e4 | e4
    · exact .inl e4
    · by_cases hb : b = b4
      · subst hb
        obtain ⟨c, h1, h2, h3⟩ := Heap.load_some e4
        rw [hg] at h1
        cases h1
        simp only [List.length_cons, List.length_nil] at h2
        cases ps with
        | nil => exact .inl (by simp)
        | cons p ps =>
          simp only [List.length_cons] at h2
          have : o = 0 := by omega
          subst this
          have : ps.length = 0 := by omega
          obtain rfl := List.eq_nil_of_length_eq_zero this
          simp [pcell] at h3
      · right
        unfold Heap.load at e4 ⊢
        rw [k.else_ b hb]
        exact e4

theorem stepK_build2 {E : Env} {fr : List Val} {h : Heap} {x y : Opd} {a b z1 z2 : Val} (hx : (V.ev fr x).cells = [a]) (hy : (V.ev fr y).cells = [b]) {K : Val → Heap → Prop} (k : K (.agg [a, b]) h) : stepK E fr h (.build [z1, z2] [(0, 1, x), (1, 1, y)]) K := by
  unfold stepK
  have hf : fill fr [z1, z2] [(0, 1, x), (1, 1, y)] = some [a, b] := by simp [fill, hx, hy, splice]
  simp only [step, hf]
  exact k

/-- A result at the end of a call. -/
theorem pin_ok {h : Heap} (w : Wf h) {s : Val} {ps : PinL} {t r : Int} (hs : Ps h s ps) (ha : Asc ps) (hn : ps.length ≤ 1024) (hc : ∀ p ∈ ps, 0 ≤ p.2 ∧ p.2 ≤ 4096) (ht : 0 ≤ t ∧ t ≤ 1099511627776) :
    WC E09 21 [.agg [s, .int .i64 t], .int .u64 r] h fun v h' => Grow h h' ∧ PRes h' v (moreR ps t r 1) := by
  refine WC.fn1 (n := 11) rfl rfl (by rfl) ?_
  intro fr hl ha'
  have f0 : fr.getD 0 .undef = .agg [s, .int .i64 t] := ha' 0
  have f1 : fr.getD 1 .undef = .int .u64 r := ha' 1
  clear ha'
  unfold v21
  refine WE.seqR ?_
  (refine WO.op1 ?_; simp only [opK, wanted, setDst, *])
  refine stepK_box w (c := [s, .int .i64 t]) (by simp only [V.ev, *]; rfl) rfl fun b1 h1 g1 hb1 hg1 hn1 => ?_
  (refine WO.op1 ?_; simp only [opK, wanted, setDst, *])
  refine stepK_alloc (g1.wf w) fun b6 h2 g2 hb6 hg6 hn2 => ?_
  have gA := g1.trans g2
  have wB := gA.wf w
  have ld : h2.load b1 0 2 = some [s, .int .i64 t] := g2.part hg1 (by simp)
  have hs2 := gA.ps hs
  have hb6' := Hid.mk (show h.next ≤ b6 by have := g1.next; omega)
  clear hg1 hn1 hn2 g1 g2 hb1 hb6
  have hg6' := Hid.mk hg6
  clear hg6
  repeat' (first | refine WE.seqR ?_ | refine WO.nil ?_ | (refine WO.op1s ?_; simp only [opK, wanted, stepK, step, setDst, evs, true_and, V.ev, Nat.reduceEqDiff, Nat.reduceLT, getD_ne, getD_eq, List.length_set, if_true, *]; with_reducible show WO _ _ _ _ _))
  refine WO.call rfl ?_
  (simp only [evs, V.ev, Nat.reduceEqDiff, Nat.reduceLT, getD_ne, getD_eq, List.length_set, *])
  refine (more_ok wB hs2 ha hn hc ht).mono ?_
  rintro _ h3 ⟨g3, s3, rfl, hp⟩
  simp only [setDst]
  clear hs2 ld hs
  have hg3 := g3.keep _ _ hg6'.out
  have w3 := g3.wf wB
  have hso := ps_one hp
  generalize moreR ps t r 1 = x at *
  clear ha hn hc ht
  repeat' (first | (refine WO.op1s ?_; simp only [opK, wanted, stepK, step, setDst, Val.cells, List.length_cons, List.length_nil, true_and, List.getElem?_cons_zero, List.getElem?_cons_succ, V.ev, Nat.reduceEqDiff, Nat.reduceLT, Nat.reduceAdd, Nat.zero_add, getD_ne, getD_eq, List.length_set, if_true, *]; with_reducible show WO _ _ _ _ _))
  (refine WO.op1 ?_; simp only [opK, wanted, setDst, *])
  refine stepK_store (b := b6) (o := 0) (us := [s3, .int .i64 x.2.1]) (by (simp only [V.ev, Nat.reduceEqDiff, Nat.reduceLT, getD_ne, getD_eq, List.length_set, *]; try rfl)) (by (simp only [V.ev, Nat.reduceEqDiff, Nat.reduceLT, getD_ne, getD_eq, List.length_set, *]; try rfl)) (by rfl) hg3 (by rw [(gA.trans g3).floor]; have := w.fl; have := hb6'.out; omega) (by simp) (one2 hso.2 _ _) fun h4 k4 => ?_
  have g4 := (gA.trans g3).wrote hb6'.out w k4
  have hp4 := ps_wrote hp hg3 k4
  have m4 : h4.load b6 0 2 = some [s3, .int .i64 x.2.1] := load_get k4.at_ (by simp [splice])
  clear k4 hg3 hp
  repeat' (first | refine WO.nil ?_ | (refine WO.op1s ?_; simp only [opK, wanted, stepK, step, setDst, true_and, V.ev, Nat.reduceLT, getD_eq, List.length_set, *]; with_reducible show WO _ _ _ _ _) | refine WE.ret ?_)
  ((try dsimp only); refine Exists.intro _ ⟨(by (simp only [readResults, Nat.reduceEqDiff, Nat.reduceLT, getD_ne, getD_eq, List.length_set, if_true, *]; try rfl)), ?_⟩)
  exact ⟨g4, s3, rfl, hp4⟩

def drop1 (ps : PinL) (r : Int) : PinL :=
  if ((setN ps (lowerB ps r) (-1)).getD (lowerB ps r) (0, 0)).2 = 0 then (setN ps (lowerB ps r) (-1)).eraseIdx (lowerB ps r) else setN ps (lowerB ps r) (-1)

def unpinR (ps : PinL) (t r : Int) : PinL × Int × Int := if hasP ps r then (drop1 ps r, t - 1, 0) else ([], 0, 8)

theorem setN_at {ps : PinL} {i : Nat} {n : Int} (hi : i < ps.length) : ((setN ps i n).getD i (0, 0)).2 = (ps.getD i (0, 0)).2 + n := by
  unfold setN
  simp [List.getD_eq_getElem?_getD, hi]

theorem setN_len (ps : PinL) (i : Nat) (n : Int) : (setN ps i n).length = ps.length := by
  unfold setN; simp

theorem unpin_ok {h : Heap} (w : Wf h) {s : Val} {ps : PinL} {t r : Int} (hs : Ps h s ps) (ha : Asc ps) (hn : ps.length ≤ 1024) (hc : ∀ p ∈ ps, 0 ≤ p.2 ∧ p.2 ≤ 4096) (ht : 0 ≤ t ∧ t ≤ 1099511627776) :
    WC E09 22 [.agg [s, .int .i64 t], .int .u64 r] h fun v h' => Grow h h' ∧ PRes h' v (unpinR ps t r) := by
  refine WC.fn1 (n := 45) rfl rfl (by rfl) ?_
  intro fr hl ha'
  have f0 : fr.getD 0 .undef = .agg [s, .int .i64 t] := ha' 0
  have f1 : fr.getD 1 .undef = .int .u64 r := ha' 1
  clear ha'
  have hso := ps_one hs
  have hlen := hs.lenI
  have hn4 : ps.length < 4611686018427387904 := by omega
  have hn5 : ps.length ≤ 100000 := by omega
  unfold v22
  refine WE.seqR ?_
  (refine WO.op1 ?_; simp only [opK, wanted, setDst, *])
  refine stepK_box w (c := [s, .int .i64 t]) (by simp only [V.ev, *]; rfl) rfl fun b1 h1 g1 hb1 hg1 hn1 => ?_
  (refine WO.op1 ?_; simp only [opK, wanted, setDst, *])
  refine stepK_alloc (g1.wf w) fun b6 h2 g2 hb6 hg6 hn2 => ?_
  have gA := g1.trans g2
  have wB := gA.wf w
  have ld : ∀ h', Grow h2 h' → h'.load b1 0 2 = some [s, .int .i64 t] := fun h' g => g.part (g2.keep _ _ hg1) (by simp)
  have ld1 : ∀ h', Grow h2 h' → h'.load b1 0 1 = some [s] := fun h' g => g.part (g2.keep _ _ hg1) (by simp)
  have ld2 : ∀ h', Grow h2 h' → h'.load b1 1 1 = some [.int .i64 t] := fun h' g => g.part (g2.keep _ _ hg1) (by simp)
  have hs2 := gA.ps hs
  have gg := Grow.refl h2
  have ld0 := ld _ gg
  have hb6' := Hid.mk (show h.next ≤ b6 by have := g1.next; omega)
  have hg6' := Hid.mk hg6
  have at6 : ∀ h3, Grow h2 h3 → h3.get b6 = some (.cells [.nils, .int .i64 0]) ∧ h3.floor ≤ b6 := fun h3 g => ⟨g.keep _ _ hg6, by rw [g.floor, gA.floor]; have := w.fl; have := hb6'.out; omega⟩
  clear hg1 hn1 hn2 g1 g2 hb1 hb6 hg6
  replace at6 := Hid.mk at6
  replace gA := Hid.mk gA
  unfold unpinR
  cases hh : (ps.any fun p => p.1 == r) with
  | false =>
    have hh2 : hasP ps r = false := hh
    rw [hh2]
    simp only [Bool.false_eq_true, if_false]
    repeat' (first | refine WE.assoc ?_ | refine WE.seqR ?_ | refine WO.nil ?_ | (refine WO.op1s ?_; simp only [opK, wanted, stepK, step, setDst, pureV, unary, evs, Val.cells, fill, List.length_cons, List.length_nil, true_and, List.getElem?_cons_zero, List.getElem?_cons_succ, V.ev, Nat.reduceEqDiff, Nat.reduceLT, Nat.reduceAdd, Nat.zero_add, getD_ne, getD_eq, List.length_set, if_true, Bool.not_false, *]; with_reducible show WO _ _ _ _ _) | (refine WO.callG (f := 28) (g := none) wB gg _ rfl (fun h1 w1 k1 => by (simp only [evs, V.ev, Nat.reduceEqDiff, Nat.reduceLT, getD_ne, getD_eq, List.length_set, *]); exact  find_ok w1 (Keep.sl k1 hs2) ha hn4) ?_; clear gg; (rintro _ hh gg rfl; simp only [setDst])) | (refine WE.seqCond (t := true) ?hc (fun _ => ?_) (fun hh => Bool.noConfusion hh); case hc => simp only [V.ev, Nat.reduceLT, getD_eq, List.length_set, *]))
    (refine WO.op1 ?_; simp only [opK, wanted, setDst, *])
    refine stepK_store (b := b6) (o := 0) (us := [.nils, .int .i64 0]) (by (simp only [V.ev, Nat.reduceEqDiff, Nat.reduceLT, getD_ne, getD_eq, List.length_set, *]; try rfl)) (by (simp only [V.ev, Nat.reduceLT, getD_eq, List.length_set, *]; try rfl)) (by rfl) (at6.out _ gg).1 (at6.out _ gg).2 (by simp) (by rfl) fun h4 k4 => ?_
    have g4 := (gA.out.trans gg).wrote hb6'.out w k4
    have m4 : h4.load b6 0 2 = some [.nils, .int .i64 0] := load_get k4.at_ (by simp [splice])
    clear k4
    repeat' (first | refine WO.nil ?_ | (refine WO.op1s ?_; simp only [opK, wanted, stepK, step, setDst, true_and, V.ev, *]; with_reducible show WO _ _ _ _ _) | refine WE.seqRet ?_)
    ((try dsimp only); refine Exists.intro _ ⟨(by (simp only [readResults, Nat.reduceEqDiff, Nat.reduceLT, getD_ne, getD_eq, List.length_set, if_true, *]; try rfl)), ?_⟩)
    exact ⟨g4, .nils, rfl, ps_nil⟩
  | true =>
    have hh2 : hasP ps r = true := hh
    have hlt := has_lt ha hh2
    have hcb := hc _ (List.getElem_mem hlt)
    have hgd : ps.getD (lowerB ps r) (0, 0) = ps[lowerB ps r] := by simp [List.getD_eq_getElem?_getD, hlt]
    rw [← hgd] at hcb
    rw [hh2]
    simp only [if_true]
    have u2 : IntKind.i64.wrap ((ps.getD (lowerB ps r) (0, 0)).2 - 1) = (ps.getD (lowerB ps r) (0, 0)).2 + -1 := by rw [wrap_i64 (by omega) (by omega)]; omega
    have u3 : IntKind.i64.wrap (t - 1) = t - 1 := wrap_i64 (by omega) (by omega)
    have u4 : IntKind.i64.wrap ((lowerB ps r : Int) + 1) = ((lowerB ps r + 1 : Nat) : Int) := wrap_add (b := 1) (by omega)
    replace hc := Hid.mk hc
    replace hn := Hid.mk hn
    replace ht := Hid.mk ht
    replace hcb := Hid.mk hcb
    replace hgd := Hid.mk hgd
    repeat' (first | refine WE.assoc ?_ | refine WE.seqR ?_ | refine WO.nil ?_ | (refine WO.op1s ?_; simp only [opK, wanted, stepK, step, setDst, pureV, unary, evs, true_and, List.getElem?_cons_zero, List.getElem?_cons_succ, V.ev, Nat.reduceEqDiff, Nat.reduceLT, Nat.add_zero, Bool.false_eq_true, getD_ne, getD_eq, List.length_set, if_true, if_false, Bool.not_true, *]; with_reducible show WO _ _ _ _ _) | (refine WO.callG (f := 28) (g := none) wB gg _ rfl (fun h1 w1 k1 => by (simp only [evs, V.ev, Nat.reduceEqDiff, Nat.reduceLT, getD_ne, getD_eq, List.length_set, *]); exact  find_ok w1 (Keep.sl k1 hs2) ha hn4) ?_; clear gg; (rintro _ hh gg rfl; simp only [setDst])) | refine WE.seqSkip ?_ | (refine WE.seqCond (t := false) ?hc (fun hh => Bool.noConfusion hh) (fun _ => ?_); case hc => simp only [V.ev, Nat.reduceLT, getD_eq, List.length_set, *]))
    have w3 := gg.wf wB
    refine WO.call rfl ?_
    (simp only [evs, V.ev, Nat.reduceLT, getD_eq, List.length_set, *])
    refine (clone_ok w3 (gg.ps hs2) hn5).mono ?_
    rintro v4 h5 ⟨g4, hc4⟩
    simp only [setDst]
    rcases hc4 with ⟨rfl, _⟩ | ⟨b, m, hm0, hm, rfl, hb4, hg5⟩
    · cases hh
    have hbb := Hid.mk (show h2.next ≤ b by have := gg.next; omega)
    have g5 := gg.trans g4
    have w5 := g5.wf wB
    have hel : eltI 2 (.slice b 0 m m 2) (.int .i64 (lowerB ps r : Int)) = some (.ptr b (lowerB ps r * 2)) := by
      simp only [eltI]; rw [if_pos ⟨by omega, by omega⟩]; simp
    have ldc : h5.load b (lowerB ps r * 2 + 1) 1 = some [.int .i64 (ps.getD (lowerB ps r) (0, 0)).2] := by
      rw [load_get hg5 (by rw [plen]; omega), cell_atP hlt]
    have fl5 : h5.floor ≤ b := by rw [g5.floor]; have := wB.fl; have := hbb.out; omega
    replace hm := Hid.mk hm
    clear hb4 hm0 gg g4
    replace g5 := Hid.mk g5
    repeat' (first | refine WE.assoc ?_ | refine WE.seqR ?_ | refine WO.nil ?_ | (refine WO.iaddrE ?_; simp only [setDst, V.ev, Nat.reduceEqDiff, Nat.reduceLT, getD_ne, getD_eq, List.length_set, *]; refine ⟨_, rfl, ?_⟩) | (refine WO.op1s ?_; simp only [opK, wanted, stepK, step, setDst, pureV, arith, intBin, Val.cells, List.length_cons, List.length_nil, true_and, V.ev, Nat.reduceEqDiff, Nat.reduceLT, Nat.zero_add, Int.reduceNeg, Bool.false_eq_true, getD_ne, getD_eq, List.length_set, if_true, if_false, *]; with_reducible show WO _ _ _ _ _))
    (refine WO.op1 ?_; simp only [opK, wanted, setDst, Int.reduceNeg, *])
    refine stepK_store (b := b) (o := lowerB ps r * 2 + 1) (us := [.int .i64 ((ps.getD (lowerB ps r) (0, 0)).2 + -1)]) (by (simp only [V.ev, Nat.reduceLT, Int.reduceNeg, getD_eq, List.length_set, *]; try rfl)) (by (simp only [V.ev, Nat.reduceEqDiff, Nat.reduceLT, Int.reduceNeg, getD_ne, getD_eq, List.length_set, *]; try rfl)) (by rfl) hg5 fl5 (by rw [plen]; omega) (by rfl) fun h6 k6 => ?_
    have g6 := g5.out.wrote hbb.out wB k6
    have hg6 : h6.get b = some (.cells ((setN ps (lowerB ps r) (-1)).flatMap pcell)) := by
      rw [k6.at_, setN_splice hlt]; rfl
    obtain ⟨q, hq⟩ : ∃ q, q = setN ps (lowerB ps r) (-1) := ⟨_, rfl⟩
    have hql : q.length = ps.length := by rw [hq, setN_len]
    have hqa : (q.getD (lowerB ps r) (0, 0)).2 = (ps.getD (lowerB ps r) (0, 0)).2 + -1 := by rw [hq, setN_at hlt]
    have hd1 : drop1 ps r = if (q.getD (lowerB ps r) (0, 0)).2 = 0 then q.eraseIdx (lowerB ps r) else q := by unfold drop1; rw [← hq]
    rw [← hq] at hg6
    have ldd : h6.load b (lowerB ps r * 2 + 1) 1 = some [.int .i64 (q.getD (lowerB ps r) (0, 0)).2] := by
      rw [load_get hg6 (by rw [plen]; omega), cell_atP (by omega)]
    have ld6 := ld2 _ g6
    rw [hd1]
    replace hq := Hid.mk (And.intro hq (And.intro hqa hd1))
    clear k6 hg5 ldc fl5 hqa hd1
    by_cases hz : (q.getD (lowerB ps r) (0, 0)).2 = 0
    · have dz : ((q.getD (lowerB ps r) (0, 0)).2 == 0) = true := by simpa using hz
      rw [if_pos hz]
      replace hz := Hid.mk hz
      repeat' (first | refine WE.assoc ?_ | refine WE.seqR ?_ | refine WO.nil ?_ | (refine WO.iaddrE ?_; simp only [setDst, V.ev, Nat.reduceEqDiff, Nat.reduceLT, getD_ne, getD_eq, List.length_set, *]; refine ⟨_, rfl, ?_⟩) | (refine WO.op1s ?_; simp only [opK, wanted, stepK, step, setDst, pureV, arith, intBin, evs, eqVal, eqAt, eqv, Val.isAgg, Val.cells, true_and, and_self, Bool.and_true, List.getElem?_cons_zero, V.ev, Nat.reduceEqDiff, Nat.reduceLT, Int.reduceNeg, Bool.false_eq_true, getD_ne, getD_eq, List.length_set, if_true, if_false, Bool.not_true, *]; with_reducible show WO _ _ _ _ _) | (refine WE.seqCond (t := true) ?hc (fun _ => ?_) (fun hh => Bool.noConfusion hh); case hc => simp only [V.ev, Nat.reduceLT, getD_eq, List.length_set, *]))
      refine WO.call rfl ?_
      (simp only [evs, V.ev, Nat.reduceEqDiff, Nat.reduceLT, Int.reduceNeg, getD_ne, getD_eq, List.length_set, *])
      refine (delete_ok wB g6 hbb.out hg6 (by rw [hql]; exact hm.out) (by have := hm.out; omega) (by have := hm.out; omega)).mono ?_
      rintro v7 h7 ⟨g7, hp7⟩
      simp only [setDst]
      have ld7 := ld2 _ g7
      have hs7 := ps_one hp7
      clear ld6 g6 hg6 ldd
      repeat' (first | refine WE.seqR ?_ | refine WO.nil ?_ | (refine WO.op1s ?_; simp only [opK, wanted, stepK, step, setDst, pureV, arith, intBin, Val.cells, fill, splice, List.take_zero, List.nil_append, List.length_cons, List.length_nil, true_and, and_true, V.ev, Nat.reduceEqDiff, Nat.reduceLT, Nat.reduceLeDiff, Nat.reduceAdd, Nat.zero_add, Int.reduceNeg, Bool.false_eq_true, getD_ne, getD_eq, List.length_set, if_true, if_false, *]; with_reducible show WO _ _ _ _ _))
      (refine WO.op1 ?_; simp only [opK, wanted, setDst, Int.reduceNeg, *])
      refine stepK_build2 (a := v7) (b := .int .i64 (t - 1)) (by (simp only [V.ev, Nat.reduceEqDiff, Nat.reduceLT, Int.reduceNeg, getD_ne, getD_eq, List.length_set, *]; try rfl)) (by (simp only [V.ev, Nat.reduceLT, Int.reduceNeg, getD_eq, List.length_set, *]; try rfl)) ?_
      skip
      (refine WO.op1 ?_; simp only [opK, wanted, setDst, Int.reduceNeg, *])
      refine stepK_store (b := b6) (o := 0) (us := [v7, .int .i64 (t - 1)]) (by (simp only [V.ev, Nat.reduceEqDiff, Nat.reduceLT, Int.reduceNeg, getD_ne, getD_eq, List.length_set, *]; try rfl)) (by (simp only [V.ev, Nat.reduceLT, Int.reduceNeg, getD_eq, List.length_set, *]; try rfl)) (by rfl) (at6.out _ g7).1 (at6.out _ g7).2 (by simp) (one2 hs7.2 _ _) fun h8 k8 => ?_
      have g8 := (gA.out.trans g7).wrote hb6'.out w k8
      have hp8 := ps_wrote hp7 (at6.out _ g7).1 k8
      have m8 : h8.load b6 0 2 = some [v7, .int .i64 (t - 1)] := load_get k8.at_ (by simp [splice])
      clear k8 hp7
      repeat' (first | refine WO.nil ?_ | (refine WO.op1s ?_; simp only [opK, wanted, stepK, step, setDst, true_and, V.ev, Int.reduceNeg, *]; with_reducible show WO _ _ _ _ _) | refine WE.ret ?_)
      ((try dsimp only); refine Exists.intro _ ⟨(by (simp only [readResults, Nat.reduceEqDiff, Nat.reduceLT, Int.reduceNeg, getD_ne, getD_eq, List.length_set, if_true, *]; try rfl)), ?_⟩)
      exact ⟨g8, v7, rfl, hp8⟩
    · have dz : ((q.getD (lowerB ps r) (0, 0)).2 == 0) = false := by simpa using hz
      rw [if_neg hz]
      replace hz := Hid.mk hz
      have hp6 : Ps h6 (.slice b 0 m m 2) q := by
        refine ⟨by rw [plen], .inr ⟨b, 0, m, 2, by rw [hql, ← hm.out], .inr rfl, by rw [hql, ← hm.out]; exact Nat.le_refl _, .inr ?_⟩⟩
        rw [load_get hg6 (by rw [plen]; omega), List.drop_zero, List.take_of_length_le (by rw [plen]; omega)]
      repeat' (first | refine WE.assoc ?_ | refine WE.seqR ?_ | refine WO.nil ?_ | (refine WO.iaddrE ?_; simp only [setDst, V.ev, Nat.reduceEqDiff, Nat.reduceLT, getD_ne, getD_eq, List.length_set, *]; refine ⟨_, rfl, ?_⟩) | (refine WO.op1s ?_; simp only [opK, wanted, stepK, step, setDst, pureV, arith, intBin, eqVal, eqAt, eqv, Val.isAgg, Val.cells, fill, splice, List.take_zero, List.take_succ_cons, List.drop_zero, List.drop_succ_cons, List.nil_append, List.cons_append, List.length_cons, List.length_nil, List.drop_nil, true_and, and_self, Nat.le_refl, Bool.and_true, List.getElem?_cons_zero, V.ev, Nat.reduceEqDiff, Nat.reduceLT, Nat.reduceLeDiff, Nat.reduceAdd, Nat.zero_add, Int.reduceNeg, Bool.false_eq_true, getD_ne, getD_eq, List.length_set, if_true, if_false, Bool.not_false, *]; with_reducible show WO _ _ _ _ _) | refine WE.seqSkip ?_ | (refine WE.seqCond (t := false) ?hc (fun hh => Bool.noConfusion hh) (fun _ => ?_); case hc => simp only [V.ev, Nat.reduceLT, getD_eq, List.length_set, *]))
      (refine WO.op1 ?_; simp only [opK, wanted, setDst, Int.reduceNeg, *])
      refine stepK_store (b := b6) (o := 0) (us := [.slice b 0 m m 2, .int .i64 (t - 1)]) (by (simp only [V.ev, Nat.reduceEqDiff, Nat.reduceLT, Int.reduceNeg, getD_ne, getD_eq, List.length_set, *]; try rfl)) (by (simp only [V.ev, Nat.reduceLT, Int.reduceNeg, getD_eq, List.length_set, *]; try rfl)) (by rfl) (at6.out _ g6).1 (at6.out _ g6).2 (by simp) (by rfl) fun h8 k8 => ?_
      have g8 := (gA.out.trans g6).wrote hb6'.out w k8
      have hp8 := ps_wrote hp6 (at6.out _ g6).1 k8
      have m8 : h8.load b6 0 2 = some [.slice b 0 m m 2, .int .i64 (t - 1)] := load_get k8.at_ (by simp [splice])
      clear k8 hp6
      repeat' (first | refine WO.nil ?_ | (refine WO.op1s ?_; simp only [opK, wanted, stepK, step, setDst, true_and, V.ev, Int.reduceNeg, *]; with_reducible show WO _ _ _ _ _) | refine WE.ret ?_)
      ((try dsimp only); refine Exists.intro _ ⟨(by (simp only [readResults, Nat.reduceEqDiff, Nat.reduceLT, Int.reduceNeg, getD_ne, getD_eq, List.length_set, if_true, *]; try rfl)), ?_⟩)
      exact ⟨g8, .slice b 0 m m 2, rfl, hp8⟩

end Go.V
end

section
set_option linter.unusedVariables false
set_option linter.unusedSimpArgs false
set_option linter.unusedSectionVars false
-- BUILDS
-- NEW
set_option maxHeartbeats 2000000
namespace Go.V
attribute [local irreducible] stepK opK opV

theorem us_own {h0 h : Heap} {v : Val} {xs : List Int} (o : Own h0 h v 1 (u64s xs)) : Us h v xs := by
  obtain ⟨n, h1, h2⟩ := o.sl (by omega)
  have : n = xs.length := by simp [u64s] at h1; omega
  rw [this] at h2
  exact h2

theorem us_load {h h1 : Heap} {s : Val} {xs : List Int} (hs : Us h s xs) {i : Nat} (hi : i < xs.length) (g : Keep h h1) : ∃ b o, eltI 1 s (.int .i64 (i : Int)) = some (.ptr b o) ∧ ∀ h2, Keep h1 h2 → h2.load b o 1 = some [.int .u64 xs[i]] := by
  obtain ⟨bx, o, he, le⟩ := Sl.elt hs (k := .i64) hi (by omega)
  refine ⟨bx, o, he, fun h2 g2 => ?_⟩
  have := le h2 (g.trans g2) 0 1 (by omega)
  rw [Nat.add_zero, Nat.mul_one, Nat.add_zero, List.drop_eq_getElem_cons (by simpa using hi)] at this
  simpa using this

theorem u64s_app (a b : List Int) : u64s (a ++ b) = u64s a ++ u64s b := by simp [u64s]

theorem u64s_one (a : List Int) : (u64s a).all Val.one = true := by
  rw [List.all_eq_true]
  intro x hx
  obtain ⟨y, _, rfl⟩ := List.mem_map.1 hx
  rfl

theorem u64s_len (a : List Int) : (u64s a).length = a.length := by simp [u64s]

end Go.V
end

section
set_option linter.unusedVariables false
set_option linter.unusedSimpArgs false
set_option linter.unusedSectionVars false
-- DRAWS
-- BUILDS
-- NEW
set_option maxHeartbeats 2000000
namespace Go.V
attribute [local irreducible] stepK opK opV

theorem count_okG {h : Heap} {s : Val} {xs : List Int} {r : Int} (hs : Us h s xs) (hn : xs.length ≤ 100000) :
    WC E09 18 [s, .int .u64 r] h fun v h' => Grow h h' ∧ v = .int .i64 (cnt xs r : Int) :=
  (count_ok hs (by omega)).mono fun v h' e => ⟨by rw [e.1]; exact Grow.refl _, e.2⟩

theorem same_okG {h : Heap} {s t : Val} {xs ys : List Int} (hs : Us h s xs) (ht : Us h t ys) (hn : xs.length ≤ 100000) :
    WC E09 12 [s, t] h fun v h' => Grow h h' ∧ v = .int .i64 (if xs = ys then 1 else 0) :=
  (same_ok hs ht (by omega)).mono fun v h' e => ⟨by rw [e.1]; exact Grow.refl _, e.2⟩

/-- The revisions that are held, ascending. -/
def HeldOf (xs o : List Int) : Prop := o.Pairwise (· < ·) ∧ ∀ x, x ∈ o ↔ x ∈ xs ∧ 0 < x

theorem asc_ext : ∀ {a b : List Int}, a.Pairwise (· < ·) → b.Pairwise (· < ·) → (∀ x, x ∈ a ↔ x ∈ b) → a = b
  | [], [], _, _, _ => rfl
  | [], y :: b, _, _, h => by have := (h y).2 (by simp); simp at this
  | x :: a, [], _, _, h => by have := (h x).1 (by simp); simp at this
  | x :: a, y :: b, ha, hb, h => by
    obtain ⟨a1, a2⟩ := List.pairwise_cons.1 ha
    obtain ⟨b1, b2⟩ := List.pairwise_cons.1 hb
    have hxy : x = y := by
      have h1 := (h x).1 (by simp)
      have h2 := (h y).2 (by simp)
      rcases List.mem_cons.1 h1 with q | q
      · exact q
      · rcases List.mem_cons.1 h2 with p | p
        · exact p.symm
        · have := b1 _ q; have := a1 _ p; omega
    subst hxy
    rw [asc_ext a2 b2 fun z => ?_]
    constructor
    · intro hz
      have := (h z).1 (List.mem_cons_of_mem _ hz)
      rcases List.mem_cons.1 this with q | q
      · subst q; have := a1 _ hz; omega
      · exact q
    · intro hz
      have := (h z).2 (List.mem_cons_of_mem _ hz)
      rcases List.mem_cons.1 this with q | q
      · subst q; have := b1 _ hz; omega
      · exact q

theorem HeldOf.uniq {xs a b : List Int} (ha : HeldOf xs a) (hb : HeldOf xs b) : a = b := asc_ext ha.1 hb.1 fun x => (ha.2 x).trans (hb.2 x).symm

/-- The least above. -/
def MinA (l : List Int) (last nx : Int) : Prop := (nx = 0 ∧ ∀ x ∈ l, x ≤ last) ∨ (nx ∈ l ∧ last < nx ∧ ∀ x ∈ l, last < x → nx ≤ x)

theorem MinA.step {l : List Int} {last nx x : Int} (h0 : 0 ≤ last) (h : MinA l last nx) : MinA (l ++ [x]) last (if last < x ∧ (nx = 0 ∨ x < nx) then x else nx) := by
  have hm : ∀ z, z ∈ l ++ [x] ↔ z ∈ l ∨ z = x := by simp
  rcases h with ⟨rfl, h1⟩ | ⟨h1, h2, h3⟩
  · by_cases hx : last < x
    · rw [if_pos ⟨hx, .inl rfl⟩]
      refine .inr ⟨by simp, hx, fun z hz hl => ?_⟩
      rcases (hm z).1 hz with q | q
      · have := h1 z q; omega
      · omega
    · rw [if_neg (fun q => hx q.1)]
      refine .inl ⟨rfl, fun z hz => ?_⟩
      rcases (hm z).1 hz with q | q
      · exact h1 z q
      · omega
  · by_cases hx : last < x ∧ x < nx
    · rw [if_pos ⟨hx.1, .inr hx.2⟩]
      refine .inr ⟨by simp, hx.1, fun z hz hl => ?_⟩
      rcases (hm z).1 hz with q | q
      · have := h3 z q hl; omega
      · omega
    · rw [if_neg (by rintro ⟨q1, q2⟩; omega)]
      refine .inr ⟨by simp [h1], h2, fun z hz hl => ?_⟩
      rcases (hm z).1 hz with q | q
      · exact h3 z q hl
      · omega

def above (xs : List Int) (last : Int) : Nat := xs.countP fun x => decide (last < x)

theorem above_le : ∀ (xs : List Int) {a b : Int}, a ≤ b → above xs b ≤ above xs a
  | [], _, _, _ => by simp [above]
  | x :: xs, a, b, h => by
    have := above_le xs h
    unfold above at this ⊢
    rw [List.countP_cons, List.countP_cons]
    by_cases h1 : b < x
    · have : a < x := by omega
      simp [h1, this]; omega
    · simp [h1]; omega

theorem above_lt : ∀ (xs : List Int) {a b : Int}, a < b → b ∈ xs → above xs b < above xs a
  | [], _, _, _, h => by simp at h
  | x :: xs, a, b, h, hb => by
    have hle := above_le xs (Int.le_of_lt h)
    unfold above at hle ⊢
    rw [List.countP_cons, List.countP_cons]
    rcases List.mem_cons.1 hb with rfl | hb
    · simp [h]; omega
    · have := above_lt xs h hb
      unfold above at this
      by_cases h1 : b < x
      · have : a < x := by omega
        simp [h1, this]; omega
      · simp [h1]; omega

structure HeldSt (xs : List Int) (last : Int) (o : List Int) : Prop where
  nn : 0 ≤ last
  asc : o.Pairwise (· < ·)
  sub : ∀ x ∈ o, x ∈ xs ∧ 0 < x ∧ x ≤ last
  all : ∀ x ∈ xs, 0 < x → x ≤ last → x ∈ o
  len : o.length + above xs last ≤ xs.length

theorem HeldSt.step {xs : List Int} {last nx : Int} {o : List Int} (h : HeldSt xs last o) (h1 : nx ∈ xs) (h2 : last < nx) (h3 : ∀ x ∈ xs, last < x → nx ≤ x) : HeldSt xs nx (o ++ [nx]) := by
  have := h.nn
  refine ⟨by omega, ?_, ?_, ?_, ?_⟩
  · rw [List.pairwise_append]
    refine ⟨h.asc, by simp, fun x hx y hy => ?_⟩
    have := h.sub x hx
    simp at hy; omega
  · intro x hx
    rcases List.mem_append.1 hx with q | q
    · have := h.sub x q; exact ⟨this.1, this.2.1, by omega⟩
    · simp at q; subst q; exact ⟨h1, by omega, by omega⟩
  · intro x hx h0 hl
    by_cases q : x ≤ last
    · exact List.mem_append_left _ (h.all x hx h0 q)
    · have := h3 x hx (by omega)
      have : x = nx := by omega
      simp [this]
  · have := above_lt xs h2 h1
    have := h.len
    simp; omega

theorem HeldSt.fin {xs : List Int} {last : Int} {o : List Int} (h : HeldSt xs last o) (h1 : ∀ x ∈ xs, x ≤ last) : HeldOf xs o :=
  ⟨h.asc, fun x => ⟨fun hx => ⟨(h.sub x hx).1, (h.sub x hx).2.1⟩, fun ⟨a, b⟩ => h.all x a b (h1 x a)⟩⟩

end Go.V
end

section
set_option linter.unusedVariables false
set_option linter.unusedSimpArgs false
set_option linter.unusedSectionVars false
-- DRAWS
-- BUILDS
-- NEW
set_option maxHeartbeats 2000000
namespace Go.V
attribute [local irreducible] stepK opK opV

def HoI (h0 : Heap) (s : Val) (xs : List Int) (k : Nat) (fr : List Val) (h' : Heap) : Prop := Grow h0 h' ∧ ∃ (u : Val) (last : Int) (o : List Int), Hid (HeldSt xs last o ∧ k = above xs last) ∧ fr.length = 43 ∧ fr.getD 0 .undef = s ∧ fr.getD 3 .undef = u ∧ fr.getD 4 .undef = .int .u64 last ∧ Own h0 h' u 1 (u64s o)

def HiI (h : Heap) (s u : Val) (last : Int) (xs : List Int) (k : Nat) (fr : List Val) (h' : Heap) : Prop := h' = h ∧ ∃ (i : Nat) (nx : Int), Hid (i + k = xs.length ∧ MinA (xs.take i) last nx) ∧ fr.length = 43 ∧ fr.getD 0 .undef = s ∧ fr.getD 3 .undef = u ∧ fr.getD 4 .undef = .int .u64 last ∧ fr.getD 5 .undef = .int .u64 nx ∧ fr.getD 6 .undef = .int .i64 (i : Nat)

theorem heldR_ok {h : Heap} (w : Wf h) {s : Val} {xs o' : List Int} (hs : Us h s xs) (hx : xs.length ≤ 100000) (ho' : HeldOf xs o') :
    WC E09 29 [s] h fun v h' => Grow h h' ∧ Us h' v o' := by
  refine WC.fn1 (n := 43) rfl rfl (by rfl) ?_
  intro fr hl ha'
  have f0 : fr.getD 0 .undef = s := ha' 0
  clear ha'
  have hlen := hs.lenI
  unfold v29
  repeat' (first | refine WE.seqR ?_ | refine WO.nil ?_ | (refine WO.op1s ?_; simp only [opK, wanted, stepK, step, setDst, true_and, V.ev, *]; with_reducible show WO _ _ _ _ _) | refine WE.block ?_)
  refine WE.loop (HoI h s xs) ?_ (above xs 0) _ _ ⟨Grow.refl _, .nils, 0, [], ⟨⟨by omega, by simp, by simp, fun x _ a b => by omega, by unfold above; have := List.countP_le_length (p := fun x => decide ((0 : Int) < x)) (l := xs); simpa using this⟩, rfl⟩, by simp only [List.length_set, hl], by (simp only [getD_ne, reduceCtorEq, *]; try rfl), by (simp only [Nat.reduceEqDiff, Nat.reduceLT, getD_ne, getD_eq, List.length_set, *]; try rfl), by (simp only [Nat.reduceLT, getD_eq, List.length_set, *]; try rfl), .inl ⟨rfl, rfl⟩⟩
  clear f0 hl
  rintro k fr h2 ⟨gg, u, last, o, H, hl, f0, f3, f4, ho⟩
  repeat' (first | refine WE.assoc ?_ | refine WE.seqR ?_ | refine WO.nil ?_ | (refine WO.op1s ?_; simp only [opK, wanted, stepK, step, setDst, true_and, V.ev, *]; with_reducible show WO _ _ _ _ _) | refine WE.seqBlock ?_ | refine WE.block ?_)
  refine WE.loop (HiI h2 s u last xs) ?_ xs.length _ _ ⟨rfl, 0, 0, ⟨by omega, .inl ⟨rfl, by simp⟩⟩, by simp only [List.length_set, hl], by (simp only [getD_ne, reduceCtorEq, *]; try rfl), by (simp only [Nat.reduceEqDiff, getD_ne, *]; try rfl), by (simp only [Nat.reduceEqDiff, getD_ne, *]; try rfl), by (simp only [Nat.reduceEqDiff, Nat.reduceLT, getD_ne, getD_eq, *]; try rfl), by (simp only [Nat.reduceLT, Int.cast_ofNat_Int, getD_eq, List.length_set, *]; try rfl)⟩
  clear f0 f3 f4 hl
  rintro k2 fr _ ⟨rfl, i, nx, K, hl, f0, f3, f4, f5, f6⟩
  by_cases hi : i < xs.length
  · have hd : decide ((i : Int) < (xs.length : Int)) = true := decide_eq_true (by omega)
    obtain ⟨bx, ox, hex, lex⟩ := us_load hs hi gg.kp
    have x0 := lex _ (Keep.refl _)
    have wn : IntKind.i64.wrap ((i : Int) + 1) = ((i + 1 : Nat) : Int) := wrap_add (b := 1) (by omega)
    have hst := K.out.2.step (x := xs[i]) H.out.1.nn
    rw [← List.take_succ_eq_append_getElem hi] at hst
    replace hst := Hid.mk (And.intro hst hi)
    generalize hy : xs[i] = y at *
    clear lex hy hi
    cases h1 : decide (y > last) with
    | false =>
      have q : (if last < y ∧ (nx = 0 ∨ y < nx) then y else nx) = nx := if_neg fun q => of_decide_eq_false h1 q.1
      rw [q] at hst
      replace q := Hid.mk q
      repeat' (first | refine WE.assoc ?_ | refine WE.seqR ?_ | refine WO.nil ?_ | (refine WO.lenOfE ?_; simp only [setDst, V.ev, Nat.reduceLT, getD_eq, List.length_set, *]; refine ⟨_, rfl, ?_⟩) | (refine WO.iaddrE ?_; simp only [setDst, V.ev, Nat.reduceEqDiff, Nat.reduceLT, getD_ne, getD_eq, List.length_set, *]; refine ⟨_, rfl, ?_⟩) | (refine WO.op1s ?_; simp only [opK, wanted, stepK, step, setDst, pureV, arith, intBin, true_and, V.ev, Nat.reduceEqDiff, Nat.reduceLT, Bool.false_eq_true, getD_ne, getD_eq, List.length_set, if_true, if_false, reduceCtorEq, Bool.false_beq, Bool.not_true, *]; with_reducible show WO _ _ _ _ _) | refine WE.seqSkip ?_ | (refine WE.seqCond (t := true) ?hc (fun _ => ?_) (fun hh => Bool.noConfusion hh); case hc => simp only [V.ev, Nat.reduceLT, getD_eq, List.length_set, *]) | refine WE.skip ?_ | (refine WE.cond2 (t := false) ?hc (fun hh => Bool.noConfusion hh) (fun _ => ?_); case hc => simp only [V.ev, Nat.reduceLT, getD_eq, List.length_set, *]) | refine WE.region ?_ | refine WE.seqBlock ?_)
      exact ⟨k2 - 1, by have := K.out.1; have := hst.out.2; omega, rfl, i + 1, nx, ⟨by have := K.out.1; have := hst.out.2; omega, hst.out.1⟩, by simp only [List.length_set, hl], by (simp only [getD_ne, reduceCtorEq, *]; try rfl), by (simp only [Nat.reduceEqDiff, getD_ne, *]; try rfl), by (simp only [Nat.reduceEqDiff, getD_ne, *]; try rfl), by (simp only [Nat.reduceEqDiff, getD_ne, *]; try rfl), by (simp only [Nat.reduceLT, getD_eq, List.length_set, *]; try rfl)⟩
    | true =>
      have h1' := Hid.mk (of_decide_eq_true h1)
      cases h2 : (nx == 0) with
      | true =>
        have q : (if last < y ∧ (nx = 0 ∨ y < nx) then y else nx) = y := if_pos ⟨h1'.out, .inl (by simpa using h2)⟩
        rw [q] at hst
        replace q := Hid.mk q
        repeat' (first | refine WE.assoc ?_ | refine WE.seqR ?_ | refine WO.nil ?_ | (refine WO.lenOfE ?_; simp only [setDst, V.ev, Nat.reduceLT, getD_eq, List.length_set, *]; refine ⟨_, rfl, ?_⟩) | (refine WO.iaddrE ?_; simp only [setDst, V.ev, Nat.reduceEqDiff, Nat.reduceLT, getD_ne, getD_eq, List.length_set, *]; refine ⟨_, rfl, ?_⟩) | (refine WO.op1s ?_; simp only [opK, wanted, stepK, step, setDst, pureV, arith, intBin, eqVal, eqAt, eqv, Val.isAgg, Val.cells, true_and, and_self, Bool.and_true, List.getElem?_cons_zero, V.ev, Nat.reduceEqDiff, Nat.reduceLT, Bool.false_eq_true, beq_self_eq_true, getD_ne, getD_eq, List.length_set, if_true, if_false, reduceCtorEq, Bool.true_beq, Bool.not_true, *]; with_reducible show WO _ _ _ _ _) | refine WE.seqSkip ?_ | (refine WE.seqCond (t := true) ?hc (fun _ => ?_) (fun hh => Bool.noConfusion hh); case hc => simp only [V.ev, Nat.reduceLT, getD_eq, List.length_set, *]) | (refine WE.cond2 (t := true) ?hc (fun _ => ?_) (fun hh => Bool.noConfusion hh); case hc => simp only [V.ev, Nat.reduceLT, getD_eq, List.length_set, *]) | refine WE.region ?_ | refine WE.seqBlock ?_)
        exact ⟨k2 - 1, by have := K.out.1; have := hst.out.2; omega, rfl, i + 1, y, ⟨by have := K.out.1; have := hst.out.2; omega, hst.out.1⟩, by simp only [List.length_set, hl], by (simp only [getD_ne, reduceCtorEq, *]; try rfl), by (simp only [Nat.reduceEqDiff, getD_ne, *]; try rfl), by (simp only [Nat.reduceEqDiff, getD_ne, *]; try rfl), by (simp only [Nat.reduceEqDiff, Nat.reduceLT, getD_ne, getD_eq, List.length_set, *]; try rfl), by (simp only [Nat.reduceLT, getD_eq, List.length_set, *]; try rfl)⟩
      | false =>
        cases h3 : decide (y < nx) with
        | true =>
          have q : (if last < y ∧ (nx = 0 ∨ y < nx) then y else nx) = y := if_pos ⟨h1'.out, .inr (of_decide_eq_true h3)⟩
          rw [q] at hst
          replace q := Hid.mk q
          repeat' (first | refine WE.assoc ?_ | refine WE.seqR ?_ | refine WO.nil ?_ | (refine WO.lenOfE ?_; simp only [setDst, V.ev, Nat.reduceLT, getD_eq, List.length_set, *]; refine ⟨_, rfl, ?_⟩) | (refine WO.iaddrE ?_; simp only [setDst, V.ev, Nat.reduceEqDiff, Nat.reduceLT, getD_ne, getD_eq, List.length_set, *]; refine ⟨_, rfl, ?_⟩) | (refine WO.op1s ?_; simp only [opK, wanted, stepK, step, setDst, pureV, arith, intBin, eqVal, eqAt, eqv, Val.isAgg, Val.cells, true_and, and_self, Bool.and_true, List.getElem?_cons_zero, V.ev, Nat.reduceEqDiff, Nat.reduceLT, Bool.false_eq_true, beq_self_eq_true, getD_ne, getD_eq, List.length_set, if_true, if_false, reduceCtorEq, Bool.not_false, *]; with_reducible show WO _ _ _ _ _) | refine WE.seqSkip ?_ | (refine WE.seqCond (t := true) ?hc (fun _ => ?_) (fun hh => Bool.noConfusion hh); case hc => simp only [V.ev, Nat.reduceLT, getD_eq, List.length_set, *]) | (refine WE.cond2 (t := true) ?hc (fun _ => ?_) (fun hh => Bool.noConfusion hh); case hc => simp only [V.ev, Nat.reduceLT, getD_eq, List.length_set, *]) | (refine WO.known ?hc ?_; case hc => (simp only [wanted, Bool.false_beq, Nat.reduceEqDiff, Nat.reduceLT, getD_ne, getD_eq, List.length_set, Bool.not_false, *])) | refine WE.region ?_ | refine WE.seqBlock ?_)
          exact ⟨k2 - 1, by have := K.out.1; have := hst.out.2; omega, rfl, i + 1, y, ⟨by have := K.out.1; have := hst.out.2; omega, hst.out.1⟩, by simp only [List.length_set, hl], by (simp only [getD_ne, reduceCtorEq, *]; try rfl), by (simp only [Nat.reduceEqDiff, getD_ne, *]; try rfl), by (simp only [Nat.reduceEqDiff, getD_ne, *]; try rfl), by (simp only [Nat.reduceEqDiff, Nat.reduceLT, getD_ne, getD_eq, List.length_set, *]; try rfl), by (simp only [Nat.reduceLT, getD_eq, List.length_set, *]; try rfl)⟩
        | false =>
          have q : (if last < y ∧ (nx = 0 ∨ y < nx) then y else nx) = nx := if_neg (by rintro ⟨_, p | p⟩; exact absurd p (by simpa using h2); exact of_decide_eq_false h3 p)
          rw [q] at hst
          replace q := Hid.mk q
          repeat' (first | refine WE.assoc ?_ | refine WE.seqR ?_ | refine WO.nil ?_ | (refine WO.lenOfE ?_; simp only [setDst, V.ev, Nat.reduceLT, getD_eq, List.length_set, *]; refine ⟨_, rfl, ?_⟩) | (refine WO.iaddrE ?_; simp only [setDst, V.ev, Nat.reduceEqDiff, Nat.reduceLT, getD_ne, getD_eq, List.length_set, *]; refine ⟨_, rfl, ?_⟩) | (refine WO.op1s ?_; simp only [opK, wanted, stepK, step, setDst, pureV, arith, intBin, eqVal, eqAt, eqv, Val.isAgg, Val.cells, true_and, and_self, Bool.and_true, List.getElem?_cons_zero, V.ev, Nat.reduceEqDiff, Nat.reduceLT, Bool.false_eq_true, beq_self_eq_true, getD_ne, getD_eq, List.length_set, if_true, if_false, reduceCtorEq, Bool.not_false, *]; with_reducible show WO _ _ _ _ _) | refine WE.seqSkip ?_ | (refine WE.seqCond (t := true) ?hc (fun _ => ?_) (fun hh => Bool.noConfusion hh); case hc => simp only [V.ev, Nat.reduceLT, getD_eq, List.length_set, *]) | refine WE.skip ?_ | (refine WE.cond2 (t := false) ?hc (fun hh => Bool.noConfusion hh) (fun _ => ?_); case hc => simp only [V.ev, Nat.reduceLT, getD_eq, List.length_set, *]) | (refine WO.known ?hc ?_; case hc => (simp only [wanted, Bool.false_beq, Nat.reduceEqDiff, Nat.reduceLT, getD_ne, getD_eq, List.length_set, Bool.not_false, *])) | refine WE.region ?_ | refine WE.seqBlock ?_)
          exact ⟨k2 - 1, by have := K.out.1; have := hst.out.2; omega, rfl, i + 1, nx, ⟨by have := K.out.1; have := hst.out.2; omega, hst.out.1⟩, by simp only [List.length_set, hl], by (simp only [getD_ne, reduceCtorEq, *]; try rfl), by (simp only [Nat.reduceEqDiff, getD_ne, *]; try rfl), by (simp only [Nat.reduceEqDiff, getD_ne, *]; try rfl), by (simp only [Nat.reduceEqDiff, getD_ne, *]; try rfl), by (simp only [Nat.reduceLT, getD_eq, List.length_set, *]; try rfl)⟩
  · have hd : decide ((i : Int) < (xs.length : Int)) = false := decide_eq_false (by omega)
    have hm : MinA xs last nx := by
      have h := K.out
      have hil : i = xs.length := by omega
      rw [hil, List.take_length] at h
      exact h.2
    have hnn := H.out.1.nn
    cases h1 : (nx == 0) with
    | true =>
      have h0 : nx = 0 := by simpa using h1
      have hfin : HeldOf xs o := by
        rcases hm with ⟨_, q⟩ | ⟨_, q, _⟩
        · exact H.out.1.fin q
        · omega
      have hoo := Hid.mk (hfin.uniq ho')
      clear hfin hm
      replace h0 := Hid.mk h0
      have hus := us_own ho
      repeat' (first | refine WE.assoc ?_ | refine WE.seqR ?_ | refine WO.nil ?_ | (refine WO.lenOfE ?_; simp only [setDst, V.ev, Nat.reduceLT, getD_eq, List.length_set, *]; refine ⟨_, rfl, ?_⟩) | (refine WO.op1s ?_; simp only [opK, wanted, stepK, step, setDst, pureV, arith, intBin, eqVal, eqAt, eqv, Val.isAgg, Val.cells, true_and, and_self, Bool.and_true, List.getElem?_cons_zero, V.ev, Nat.reduceEqDiff, Nat.reduceLT, Bool.false_eq_true, getD_ne, getD_eq, List.length_set, if_true, if_false, reduceCtorEq, Bool.not_true, *]; with_reducible show WO _ _ _ _ _) | refine WE.seqRet ?_ | refine WE.seqExit ?_ | (refine WE.seqCond (t := true) ?hc (fun _ => ?_) (fun hh => Bool.noConfusion hh); case hc => simp only [V.ev, Nat.reduceLT, getD_eq, List.length_set, *]) | (refine WE.seqCond (t := false) ?hc (fun hh => Bool.noConfusion hh) (fun _ => ?_); case hc => simp only [V.ev, Nat.reduceLT, getD_eq, List.length_set, *]) | (with_reducible show blockQ _ _ _ _ _; simp only [blockQ]))
      ((try dsimp only); refine Exists.intro _ ⟨(by (simp only [readResults, Nat.reduceLT, getD_eq, List.length_set, *]; try rfl)), ?_⟩)
      refine ⟨gg, ?_⟩
      rw [← hoo.out]
      exact hus
    | false =>
      have h0 : nx ≠ 0 := by simpa using h1
      have hst : HeldSt xs nx (o ++ [nx]) ∧ above xs nx < above xs last := by
        rcases hm with ⟨q, _⟩ | ⟨q1, q2, q3⟩
        · exact absurd q h0
        · exact ⟨H.out.1.step q1 q2 q3, above_lt xs q2 q1⟩
      have hol : (u64s o).length ≤ 100000 := by
        rw [u64s_len]; have := H.out.1.len; omega
      replace hst := Hid.mk hst
      replace h0 := Hid.mk h0
      clear hm hnn
      repeat' (first | refine WE.assoc ?_ | refine WE.seqR ?_ | refine WO.nil ?_ | (refine WO.lenOfE ?_; simp only [setDst, V.ev, Nat.reduceLT, getD_eq, List.length_set, *]; refine ⟨_, rfl, ?_⟩) | (refine WO.op1s ?_; simp only [opK, wanted, stepK, step, setDst, pureV, arith, intBin, eqVal, eqAt, eqv, Val.isAgg, Val.cells, fill, splice, List.take_zero, List.drop_succ_cons, List.nil_append, List.cons_append, List.length_cons, List.length_nil, List.drop_nil, true_and, and_self, Nat.le_refl, Bool.and_true, List.getElem?_cons_zero, V.ev, Nat.reduceEqDiff, Nat.reduceLT, Nat.zero_add, Bool.false_eq_true, getD_ne, getD_eq, List.length_set, if_true, if_false, reduceCtorEq, Bool.not_false, *]; with_reducible show WO _ _ _ _ _) | refine WE.seqSkip ?_ | refine WE.seqExit ?_ | (refine WE.seqCond (t := false) ?hc (fun hh => Bool.noConfusion hh) (fun _ => ?_); case hc => simp only [V.ev, Nat.reduceLT, getD_eq, List.length_set, *]))
      (refine WO.op1 ?_; simp only [opK, wanted, setDst, *])
      refine stepK_one w gg (cs := [.int .u64 nx]) (by (simp only [V.ev, Nat.reduceLT, getD_eq, List.length_set, *]; try rfl)) (by rfl) (by rfl) fun v5 h5 g5 q5 s5 => ?_
      have ho5 := ho.keep q5
      skip
      (refine WO.op1 ?_; simp only [opK, wanted, setDst, *])
      refine stepK_append w g5 (v := u) (s := v5) (by (simp only [V.ev, Nat.reduceEqDiff, Nat.reduceLT, getD_ne, getD_eq, List.length_set, *]; try rfl)) (by (simp only [V.ev, Nat.reduceLT, getD_eq, List.length_set, *]; try rfl)) ho5 s5 (by omega) (by simp [Val.one]) (by rw [maxB]; simp only [List.length_cons, List.length_nil]; omega) (by rw [maxB]; simp only [List.length_cons, List.length_nil]; omega) (by omega) fun v6 h6 g6 ho6 => ?_
      clear ho5 s5 q5 g5 hol
      repeat' (first | refine WO.nil ?_ | (refine WO.op1s ?_; simp only [opK, wanted, stepK, step, setDst, true_and, V.ev, Nat.reduceEqDiff, Nat.reduceLT, getD_ne, getD_eq, List.length_set, *]; with_reducible show WO _ _ _ _ _) | refine WE.region ?_ | (with_reducible show blockQ _ _ _ _ _; simp only [blockQ]))
      refine ⟨above xs nx, by have := hst.out.2; have := H.out.2; omega, g6, v6, nx, o ++ [nx], ⟨hst.out.1, rfl⟩, by simp only [List.length_set, hl], by (simp only [getD_ne, reduceCtorEq, *]; try rfl), by (simp only [Nat.reduceEqDiff, Nat.reduceLT, getD_ne, getD_eq, List.length_set, *]; try rfl), by (simp only [Nat.reduceLT, getD_eq, List.length_set, *]; try rfl), ?_⟩
      rw [u64s_app]
      exact ho6

/-- A result of the definition: a list and an error. -/
def LRes (h : Heap) (v : Val) (x : List Int × Int) : Prop := ∃ s, v = .tup [s, .int .i64 x.2] ∧ Us h s x.1

theorem us_nil {h : Heap} : Us h .nils [] := ⟨rfl, .inl ⟨rfl, rfl⟩⟩

def pinL (xs : List Int) (m : Nat) (r : Int) : List Int × Int :=
  if r = 0 then ([], 14) else if cnt xs r ≥ 4096 ∨ (cnt xs r = 0 ∧ m ≥ 1024) then ([], 3) else (xs ++ [r], 0)

theorem pinR_ok {h : Heap} (w : Wf h) {s : Val} {xs o : List Int} {r : Int} (hs : Us h s xs) (hx : xs.length ≤ 100000) (ho : HeldOf xs o) :
    WC E09 20 [s, .int .u64 r] h fun v h' => Grow h h' ∧ LRes h' v (pinL xs o.length r) := by
  refine WC.fn1 (n := 29) rfl rfl (by rfl) ?_
  intro fr hl ha'
  have f0 : fr.getD 0 .undef = s := ha' 0
  have f1 : fr.getD 1 .undef = .int .u64 r := ha' 1
  clear ha'
  have hlen := hs.lenI
  have gg := Grow.refl h
  unfold v20 pinL
  by_cases c1 : r = 0
  · have d1 : (r == 0) = true := by simpa using c1
    rw [if_pos c1]
    replace c1 := Hid.mk c1
    repeat' (first | refine WE.assoc ?_ | refine WE.seqR ?_ | refine WO.nil ?_ | (refine WO.op1s ?_; simp only [opK, wanted, stepK, step, setDst, eqVal, eqAt, eqv, Val.isAgg, Val.cells, true_and, and_self, Bool.and_true, List.getElem?_cons_zero, V.ev, Nat.reduceEqDiff, Nat.reduceLT, Bool.false_eq_true, getD_ne, getD_eq, List.length_set, if_true, if_false, Bool.not_true, *]; with_reducible show WO _ _ _ _ _) | refine WE.seqRet ?_ | (refine WE.seqCond (t := true) ?hc (fun _ => ?_) (fun hh => Bool.noConfusion hh); case hc => simp only [V.ev, Nat.reduceLT, getD_eq, List.length_set, *]))
    ((try dsimp only); refine Exists.intro _ ⟨(by (simp only [readResults, Nat.reduceEqDiff, Nat.reduceLT, getD_ne, getD_eq, List.length_set, *]; try rfl)), ?_⟩)
    exact ⟨gg, .nils, rfl, us_nil⟩
  have d1 : (r == 0) = false := by simpa using c1
  rw [if_neg c1]
  replace c1 := Hid.mk c1
  have dc : cnt xs r ≤ 100000 := by have := List.countP_le_length (p := (· == r)) (l := xs); unfold cnt; omega
  have wB := w
  by_cases c2 : cnt xs r ≥ 4096
  · have d2 : decide ((cnt xs r : Int) ≥ 4096) = true := decide_eq_true (by omega)
    rw [if_pos (.inl c2)]
    replace c2 := Hid.mk c2
    repeat' (first | refine WE.assoc ?_ | refine WE.seqR ?_ | refine WO.nil ?_ | (refine WO.op1s ?_; simp only [opK, wanted, stepK, step, setDst, pureV, arith, intBin, evs, eqVal, eqAt, eqv, Val.isAgg, Val.cells, true_and, and_self, Bool.and_true, List.getElem?_cons_zero, V.ev, Nat.reduceEqDiff, Nat.reduceLT, Bool.false_eq_true, getD_ne, getD_eq, List.length_set, if_true, if_false, reduceCtorEq, Bool.true_beq, Bool.not_false, *]; with_reducible show WO _ _ _ _ _) | (refine WO.callG (f := 18) (g := none) wB gg _ rfl (fun h1 w1 k1 => by (simp only [evs, V.ev, Nat.reduceEqDiff, Nat.reduceLT, getD_ne, getD_eq, List.length_set, *]); exact  count_okG (Keep.us k1 hs) hx) ?_; clear gg; (rintro _ hh gg rfl; simp only [setDst])) | refine WE.seqSkip ?_ | refine WE.seqRet ?_ | (refine WE.seqCond (t := true) ?hc (fun _ => ?_) (fun hh => Bool.noConfusion hh); case hc => simp only [V.ev, Nat.reduceLT, getD_eq, List.length_set, *]) | (refine WE.seqCond (t := false) ?hc (fun hh => Bool.noConfusion hh) (fun _ => ?_); case hc => simp only [V.ev, Nat.reduceLT, getD_eq, List.length_set, *]))
    ((try dsimp only); refine Exists.intro _ ⟨(by (simp only [readResults, Nat.reduceEqDiff, Nat.reduceLT, getD_ne, getD_eq, List.length_set, *]; try rfl)), ?_⟩)
    exact ⟨gg, .nils, rfl, us_nil⟩
  have d2 : decide ((cnt xs r : Int) ≥ 4096) = false := decide_eq_false (by omega)
  have endW : ∀ (fr : List Val) (h1 : Heap) (R : List Val → Heap → Prop), fr.length = 29 → fr.getD 1 .undef = .int .u64 r → fr.getD 24 .undef = s → Grow h h1 →
      (∀ fr2 h2 v, Grow h h2 → fr2.length = 29 → fr2.getD 4 .undef = v → fr2.getD 5 .undef = .int .i64 0 → Us h2 v (xs ++ [r]) → R fr2 h2) → WO E09 [⟨some 25, .append 1 8 (.c .nils) (.t 24), none, true, []⟩, ⟨some 26, .mov (.t 1), none, true, []⟩, ⟨some 27, .bslice 1 [(.int .u64 0)] [(0, 1, (.t 26))], none, true, []⟩,
      ⟨some 28, .append 1 8 (.t 25) (.t 27), none, true, []⟩, ⟨some 4, .mov (.t 28), none, true, []⟩, ⟨some 5, .mov (.c (.int .i64 0)), none, true, []⟩] fr h1 R := by
    clear f0 f1 hl d1 d2 c1 c2 hlen gg
    intro fr h1 R hl f1 f24 g1 K
    replace K := Hid.mk K
    have hs1 := g1.us hs
    (refine WO.op1 ?_; simp only [opK, wanted, setDst, *])
    refine stepK_append w g1 (v := .nils) (s := s) (by (simp only [V.ev, *]; try rfl)) (by (simp only [V.ev, *]; try rfl)) (.inl ⟨rfl, rfl⟩ : Own h h1 .nils 1 []) hs1 (by omega) (u64s_one xs) (by rw [maxB]; simp only [List.length_nil, List.length_map]; omega) (by rw [maxB]; simp only [List.length_nil, List.length_map]; omega) (by omega) fun v2 h2 g2 ho2 => ?_
    clear hs1
    rw [List.nil_append] at ho2
    repeat' (first | (refine WO.op1s ?_; simp only [opK, wanted, stepK, step, setDst, Val.cells, fill, splice, List.take_zero, List.drop_succ_cons, List.nil_append, List.cons_append, List.length_cons, List.length_nil, List.drop_nil, true_and, and_self, Nat.le_refl, V.ev, Nat.reduceEqDiff, Nat.reduceLT, Nat.zero_add, getD_ne, getD_eq, List.length_set, if_true, *]; with_reducible show WO _ _ _ _ _))
    (refine WO.op1 ?_; simp only [opK, wanted, setDst, *])
    refine stepK_one w g2 (cs := [.int .u64 r]) (by (simp only [V.ev, Nat.reduceLT, getD_eq, List.length_set, *]; try rfl)) (by rfl) (by rfl) fun v5 h5 g5 q5 s5 => ?_
    have ho5 := ho2.keep q5
    skip
    (refine WO.op1 ?_; simp only [opK, wanted, setDst, *])
    refine stepK_append w g5 (v := v2) (s := v5) (by (simp only [V.ev, Nat.reduceEqDiff, Nat.reduceLT, getD_ne, getD_eq, *]; try rfl)) (by (simp only [V.ev, Nat.reduceLT, getD_eq, List.length_set, *]; try rfl)) ho5 s5 (by omega) (by simp [Val.one]) (by rw [maxB]; simp only [List.length_cons, List.length_nil, List.length_map]; omega) (by rw [maxB]; simp only [List.length_cons, List.length_nil, List.length_map]; omega) (by omega) fun v6 h6 g6 ho6 => ?_
    have hus : Us h6 v6 (xs ++ [r]) := us_own (by rw [u64s_app]; exact ho6)
    clear ho6 ho5 s5 q5 ho2 g5 g2
    (refine WO.op1s ?_; simp only [opK, wanted, stepK, step, setDst, true_and, V.ev, Nat.reduceLT, getD_eq, List.length_set, *]; with_reducible show WO _ _ _ _ _)
    (refine WO.op1s ?_; simp only [opK, wanted, stepK, step, setDst, true_and, V.ev, *]; with_reducible show WO _ _ _ _ _)
    refine WO.nil ?_
    exact K.out _ _ v6 g6 (by simp only [List.length_set, hl]) (by (simp only [Nat.reduceEqDiff, Nat.reduceLT, getD_ne, getD_eq, List.length_set, *]; try rfl)) (by (simp only [Nat.reduceLT, getD_eq, List.length_set, *]; try rfl)) hus
  replace endW := Hid.mk endW
  by_cases c3 : cnt xs r = 0
  · have d3 : ((cnt xs r : Int) == 0) = true := by simpa using c3
    by_cases c4 : o.length ≥ 1024
    · have d4 : decide ((o.length : Int) ≥ 1024) = true := decide_eq_true (by omega)
      rw [if_pos (.inr ⟨c3, c4⟩)]
      replace c2 := Hid.mk c2
      replace c3 := Hid.mk c3
      replace c4 := Hid.mk c4
      repeat' (first | refine WE.assoc ?_ | refine WE.seqR ?_ | refine WO.nil ?_ | (refine WO.op1s ?_; simp only [opK, wanted, stepK, step, setDst, pureV, arith, intBin, evs, eqVal, eqAt, eqv, Val.isAgg, Val.cells, true_and, and_self, Bool.and_true, List.getElem?_cons_zero, V.ev, Nat.reduceEqDiff, Nat.reduceLT, Bool.false_eq_true, beq_self_eq_true, getD_ne, getD_eq, List.length_set, if_true, if_false, reduceCtorEq, Bool.not_true, Bool.not_false, *]; with_reducible show WO _ _ _ _ _) | (refine WO.callG (f := 18) (g := none) wB gg _ rfl (fun h1 w1 k1 => by (simp only [evs, V.ev, Nat.reduceEqDiff, Nat.reduceLT, getD_ne, getD_eq, List.length_set, *]); exact  count_okG (Keep.us k1 hs) hx) ?_; clear gg; (rintro _ hh gg rfl; simp only [setDst])) | refine WE.seqSkip ?_ | (refine WE.seqCond (t := false) ?hc (fun hh => Bool.noConfusion hh) (fun _ => ?_); case hc => simp only [V.ev, Nat.reduceLT, getD_eq, List.length_set, *]) | (refine WO.known ?hc ?_; case hc => (simp only [wanted, Bool.true_beq, Nat.reduceEqDiff, Nat.reduceLT, getD_ne, getD_eq, List.length_set, *])))
      refine WO.call rfl ?_
      (simp only [evs, V.ev, Nat.reduceLT, getD_eq, List.length_set, *])
      refine (heldR_ok (gg.wf w) (gg.us hs) hx ho).mono ?_
      rintro v3 h3 ⟨g3, hu3⟩
      simp only [setDst]
      have l3 := hu3.lenI
      repeat' (first | refine WE.assoc ?_ | refine WE.seqR ?_ | refine WO.nil ?_ | (refine WO.lenOfE ?_; simp only [setDst, V.ev, Nat.reduceLT, getD_eq, List.length_set, *]; refine ⟨_, rfl, ?_⟩) | (refine WO.op1s ?_; simp only [opK, wanted, stepK, step, setDst, pureV, arith, intBin, true_and, V.ev, Nat.reduceEqDiff, Nat.reduceLT, beq_self_eq_true, getD_ne, getD_eq, List.length_set, if_true, *]; with_reducible show WO _ _ _ _ _) | refine WE.seqRet ?_ | (refine WE.seqCond (t := true) ?hc (fun _ => ?_) (fun hh => Bool.noConfusion hh); case hc => simp only [V.ev, Nat.reduceLT, getD_eq, List.length_set, *]) | (refine WO.known ?hc ?_; case hc => (simp only [wanted, Bool.true_beq, Nat.reduceEqDiff, Nat.reduceLT, getD_ne, getD_eq, List.length_set, *])))
      ((try dsimp only); refine Exists.intro _ ⟨(by (simp only [readResults, Nat.reduceEqDiff, Nat.reduceLT, getD_ne, getD_eq, List.length_set, *]; try rfl)), ?_⟩)
      exact ⟨gg.trans g3, .nils, rfl, us_nil⟩
    · have d4 : decide ((o.length : Int) ≥ 1024) = false := decide_eq_false (by omega)
      rw [if_neg (by rintro (q | ⟨_, q⟩); exact c2 q; exact c4 q)]
      replace c2 := Hid.mk c2
      replace c3 := Hid.mk c3
      replace c4 := Hid.mk c4
      repeat' (first | refine WE.assoc ?_ | refine WE.seqR ?_ | refine WO.nil ?_ | (refine WO.op1s ?_; simp only [opK, wanted, stepK, step, setDst, pureV, arith, intBin, evs, eqVal, eqAt, eqv, Val.isAgg, Val.cells, true_and, and_self, Bool.and_true, List.getElem?_cons_zero, V.ev, Nat.reduceEqDiff, Nat.reduceLT, Bool.false_eq_true, beq_self_eq_true, getD_ne, getD_eq, List.length_set, if_true, if_false, reduceCtorEq, Bool.not_true, Bool.not_false, *]; with_reducible show WO _ _ _ _ _) | (refine WO.callG (f := 18) (g := none) wB gg _ rfl (fun h1 w1 k1 => by (simp only [evs, V.ev, Nat.reduceEqDiff, Nat.reduceLT, getD_ne, getD_eq, List.length_set, *]); exact  count_okG (Keep.us k1 hs) hx) ?_; clear gg; (rintro _ hh gg rfl; simp only [setDst])) | refine WE.seqSkip ?_ | (refine WE.seqCond (t := false) ?hc (fun hh => Bool.noConfusion hh) (fun _ => ?_); case hc => simp only [V.ev, Nat.reduceLT, getD_eq, List.length_set, *]) | (refine WO.known ?hc ?_; case hc => (simp only [wanted, Bool.true_beq, Nat.reduceEqDiff, Nat.reduceLT, getD_ne, getD_eq, List.length_set, *])))
      refine WO.call rfl ?_
      (simp only [evs, V.ev, Nat.reduceLT, getD_eq, List.length_set, *])
      refine (heldR_ok (gg.wf w) (gg.us hs) hx ho).mono ?_
      rintro v3 h3 ⟨g3, hu3⟩
      simp only [setDst]
      have l3 := hu3.lenI
      repeat' (first | refine WE.seqR ?_ | refine WO.nil ?_ | (refine WO.lenOfE ?_; simp only [setDst, V.ev, Nat.reduceLT, getD_eq, List.length_set, *]; refine ⟨_, rfl, ?_⟩) | (refine WO.op1s ?_; simp only [opK, wanted, stepK, step, setDst, pureV, arith, intBin, true_and, V.ev, Nat.reduceEqDiff, Nat.reduceLT, beq_self_eq_true, getD_ne, getD_eq, List.length_set, if_true, reduceCtorEq, *]; with_reducible show WO _ _ _ _ _) | refine WE.seqSkip ?_ | (refine WE.seqCond (t := false) ?hc (fun hh => Bool.noConfusion hh) (fun _ => ?_); case hc => simp only [V.ev, Nat.reduceLT, getD_eq, List.length_set, *]) | (refine WO.known ?hc ?_; case hc => (simp only [wanted, Bool.true_beq, Nat.reduceEqDiff, Nat.reduceLT, getD_ne, getD_eq, List.length_set, *])))
      refine endW.out _ _ _ (by simp only [List.length_set, hl]) (by (simp only [Nat.reduceEqDiff, getD_ne, *]; try rfl)) (by (simp only [Nat.reduceLT, getD_eq, List.length_set, *]; try rfl)) (gg.trans g3) fun fr2 h2 v g2 hl2 k4 k5 hu2 => ?_
      repeat' (first | refine WE.ret ?_)
      ((try dsimp only); refine Exists.intro _ ⟨(by (simp only [readResults, *]; try rfl)), ?_⟩)
      exact ⟨g2, v, rfl, hu2⟩
  · have d3 : ((cnt xs r : Int) == 0) = false := by simpa using c3
    rw [if_neg (by rintro (q | ⟨q, _⟩); exact c2 q; exact c3 q)]
    replace c2 := Hid.mk c2
    replace c3 := Hid.mk c3
    repeat' (first | refine WE.assoc ?_ | refine WE.seqR ?_ | refine WO.nil ?_ | (refine WO.op1s ?_; simp only [opK, wanted, stepK, step, setDst, pureV, arith, intBin, evs, eqVal, eqAt, eqv, Val.isAgg, Val.cells, true_and, and_self, Bool.and_true, List.getElem?_cons_zero, V.ev, Nat.reduceEqDiff, Nat.reduceLT, Bool.false_eq_true, beq_self_eq_true, getD_ne, getD_eq, List.length_set, if_true, if_false, reduceCtorEq, Bool.false_beq, Bool.not_true, Bool.not_false, *]; with_reducible show WO _ _ _ _ _) | (refine WO.callG (f := 18) (g := none) wB gg _ rfl (fun h1 w1 k1 => by (simp only [evs, V.ev, Nat.reduceEqDiff, Nat.reduceLT, getD_ne, getD_eq, List.length_set, *]); exact  count_okG (Keep.us k1 hs) hx) ?_; clear gg; (rintro _ hh gg rfl; simp only [setDst])) | refine WE.seqSkip ?_ | (refine WE.seqCond (t := false) ?hc (fun hh => Bool.noConfusion hh) (fun _ => ?_); case hc => simp only [V.ev, Nat.reduceLT, getD_eq, List.length_set, *]))
    refine endW.out _ _ _ (by simp only [List.length_set, hl]) (by (simp only [Nat.reduceEqDiff, getD_ne, *]; try rfl)) (by (simp only [Nat.reduceLT, getD_eq, List.length_set, *]; try rfl)) gg fun fr2 h2 v g2 hl2 k4 k5 hu2 => ?_
    repeat' (first | refine WE.ret ?_)
    ((try dsimp only); refine Exists.intro _ ⟨(by (simp only [readResults, *]; try rfl)), ?_⟩)
    exact ⟨g2, v, rfl, hu2⟩

def unpinL (xs : List Int) (r : Int) : List Int × Int := if r ∈ xs then (xs.erase r, 0) else ([], 8)

theorem erase_at {xs : List Int} {r : Int} {i : Nat} (hi : i < xs.length) (e : xs[i] = r) (h : r ∉ xs.take i) : xs.erase r = xs.take i ++ xs.drop (i + 1) := by
  have h1 : xs = xs.take i ++ (r :: xs.drop (i + 1)) := by
    rw [← e, ← List.drop_eq_getElem_cons hi, List.take_append_drop]
  rw [h1, List.erase_append_right _ h, List.erase_cons_head]
  congr 1
  · rw [List.take_append_of_le_length (by rw [List.length_take]; omega), List.take_take, Nat.min_self]
  · rw [← h1]

def UnI (h : Heap) (s : Val) (r : Int) (xs : List Int) (k : Nat) (fr : List Val) (h' : Heap) : Prop := h' = h ∧ ∃ (i : Nat), Hid (i + k = xs.length ∧ r ∉ xs.take i) ∧ fr.length = 28 ∧ fr.getD 0 .undef = s ∧ fr.getD 1 .undef = .int .u64 r ∧ fr.getD 6 .undef = .int .i64 (i : Nat)

theorem unpinR_ok {h : Heap} (w : Wf h) {s : Val} {xs : List Int} {r : Int} (hs : Us h s xs) (hx : xs.length ≤ 100000) :
    WC E09 26 [s, .int .u64 r] h fun v h' => Grow h h' ∧ LRes h' v (unpinL xs r) := by
  refine WC.fn1 (n := 28) rfl rfl (by rfl) ?_
  intro fr hl ha'
  have f0 : fr.getD 0 .undef = s := ha' 0
  have f1 : fr.getD 1 .undef = .int .u64 r := ha' 1
  clear ha'
  have hlen := hs.lenI
  unfold v26
  repeat' (first | refine WE.assoc ?_ | refine WE.seqR ?_ | refine WO.nil ?_ | (refine WO.op1s ?_; simp only [opK, wanted, stepK, step, setDst, true_and, V.ev, *]; with_reducible show WO _ _ _ _ _) | refine WE.seqBlock ?_)
  refine WE.loop (UnI h s r xs) ?_ xs.length _ _ ⟨rfl, 0, ⟨by omega, by simp⟩, by simp only [List.length_set, hl], by (simp only [getD_ne, reduceCtorEq, *]; try rfl), by (simp only [Nat.reduceEqDiff, getD_ne, *]; try rfl), by (simp only [Nat.reduceLT, Int.cast_ofNat_Int, getD_eq, List.length_set, *]; try rfl)⟩
  clear f0 f1 hl
  rintro k fr _ ⟨rfl, i, K, hl, f0, f1, f6⟩
  rename_i h
  by_cases hi : i < xs.length
  · have hd : decide ((i : Int) < (xs.length : Int)) = true := decide_eq_true (by omega)
    obtain ⟨bx, ox, hex, lex⟩ := us_load hs hi (Keep.refl _)
    have x0 := lex _ (Keep.refl _)
    have wn : IntKind.i64.wrap ((i : Int) + 1) = ((i + 1 : Nat) : Int) := wrap_add (b := 1) (by omega)
    cases hz : (xs[i] == r) with
    | true =>
      have he : xs[i] = r := by simpa using hz
      have hres : unpinL xs r = (xs.take i ++ xs.drop (i + 1), 0) := by
        unfold unpinL
        rw [if_pos (by rw [← he]; exact List.getElem_mem hi), erase_at hi he K.out.2]
      rw [hres]
      replace hres := Hid.mk hres
      replace he := Hid.mk he
      generalize xs[i] = y at *
      clear lex
      repeat' (first | refine WE.assoc ?_ | refine WE.seqR ?_ | refine WO.nil ?_ | refine WE.seqD ?_ | (refine WO.lenOfE ?_; simp only [setDst, V.ev, Nat.reduceLT, getD_eq, List.length_set, *]; refine ⟨_, rfl, ?_⟩) | (refine WO.iaddrE ?_; simp only [setDst, V.ev, Nat.reduceEqDiff, Nat.reduceLT, getD_ne, getD_eq, List.length_set, *]; refine ⟨_, rfl, ?_⟩) | (refine WO.op1s ?_; simp only [opK, wanted, stepK, step, setDst, pureV, arith, intBin, eqVal, eqAt, eqv, Val.isAgg, Val.cells, true_and, and_self, Bool.and_true, List.getElem?_cons_zero, V.ev, Nat.reduceEqDiff, Nat.reduceLT, Bool.false_eq_true, getD_ne, getD_eq, List.length_set, if_true, if_false, reduceCtorEq, Bool.not_true, *]; with_reducible show WO _ _ _ _ _) | (refine WD.op2s ?_; simp only [opV, VOp.kind, hiddenOf, unveil_veil, veil_next, or_self, wanted, stepK, step, setDst, pureV, List.nil_append, List.cons_append, true_and, V.ev, Nat.reduceEqDiff, Nat.reduceLT, Nat.reduceLeDiff, getD_ne, getD_eq, List.length_set, if_true, reduceCtorEq, *]; with_reducible show WD _ _ _ _ _ _) | refine WE.seqSkip ?_ | (refine WE.seqCond (t := true) ?hc (fun _ => ?_) (fun hh => Bool.noConfusion hh); case hc => simp only [V.ev, Nat.reduceLT, getD_eq, List.length_set, *]) | (refine WE.cond2 (t := true) ?hc (fun _ => ?_) (fun hh => Bool.noConfusion hh); case hc => simp only [V.ev, Nat.reduceLT, getD_eq, List.length_set, *]) | refine WE.seqBlock ?_)
      (refine WD.op2 ?_; simp only [opV, VOp.kind, hiddenOf, wanted, setDst, or_true, List.nil_append, List.cons_append, Nat.reduceLeDiff, if_true, reduceCtorEq, *])
      refine stepK_hi (k := i) (by (simp only [V.ev, Nat.reduceEqDiff, Nat.reduceLT, getD_ne, getD_eq, List.length_set, *]; try rfl)) (by (simp only [V.ev, Nat.reduceLT, getD_eq, List.length_set, *]; try rfl)) hs (by omega) fun s1 hs1 => ?_
      skip
      (refine WD.op2 ?_; simp only [opV, VOp.kind, hiddenOf, wanted, setDst, or_true, List.nil_append, List.cons_append, Nat.reduceEqDiff, Nat.reduceLeDiff, if_true, *])
      refine stepK_append w (Grow.refl _) (v := .nils) (s := s1) (by (simp only [V.ev, *]; try rfl)) (by (simp only [V.ev, Nat.reduceLT, getD_eq, List.length_set, *]; try rfl)) (.inl ⟨rfl, rfl⟩ : Own _ _ .nils 1 []) hs1 (by omega) (by rw [Nat.mul_one, ← List.map_take]; exact u64s_one _) (by rw [maxB]; simp only [List.length_nil, List.length_map, List.length_take]; omega) (by rw [maxB]; simp only [List.length_nil, List.length_map, List.length_take]; omega) (by omega) fun v2 h2 g2 ho2 => ?_
      rw [List.nil_append, Nat.mul_one, ← List.map_take] at ho2
      have hs3 := g2.us hs
      clear hs1
      repeat' (first | (refine WD.op2s ?_; simp only [opV, VOp.kind, hiddenOf, unveil_veil, veil_next, or_false, wanted, stepK, step, setDst, pureV, arith, intBin, List.nil_append, List.cons_append, true_and, List.getD_cons_zero, List.getD_cons_succ, V.ev, Nat.reduceEqDiff, Nat.reduceLT, Nat.reduceLeDiff, Bool.false_eq_true, getD_ne, getD_eq, List.length_set, if_true, reduceCtorEq, *]; with_reducible show WD _ _ _ _ _ _))
      (refine WD.op2 ?_; simp only [opV, VOp.kind, hiddenOf, wanted, setDst, true_or, List.nil_append, List.cons_append, Nat.reduceLeDiff, Bool.false_eq_true, if_true, reduceCtorEq, *])
      refine stepK_lo (l := i + 1) (by (simp only [V.ev, Nat.reduceEqDiff, Nat.reduceLT, getD_ne, getD_eq, List.length_set, *]; try rfl)) (by (simp only [V.ev, Nat.reduceLT, getD_eq, List.length_set, *]; try rfl)) hs3 (by omega) fun s4 hs4 => ?_
      skip
      (refine WD.op2 ?_; simp only [opV, VOp.kind, hiddenOf, wanted, setDst, or_true, List.nil_append, List.cons_append, Nat.reduceEqDiff, Nat.reduceLeDiff, if_true, *])
      refine stepK_append w g2 (v := v2) (s := s4) (by (simp only [V.ev, Nat.reduceEqDiff, Nat.reduceLT, getD_ne, getD_eq, List.length_set, *]; try rfl)) (by (simp only [V.ev, Nat.reduceLT, getD_eq, List.length_set, *]; try rfl)) ho2 hs4 (by omega) (by rw [Nat.mul_one, ← List.map_drop]; exact u64s_one _) (by rw [maxB]; simp only [List.length_map, List.length_take, List.length_drop]; omega) (by rw [maxB]; simp only [List.length_map, List.length_take, List.length_drop]; omega) (by omega) fun v5 h5 g5 ho5 => ?_
      have hus : Us h5 v5 (xs.take i ++ xs.drop (i + 1)) := us_own (by rw [Nat.mul_one, ← List.map_drop] at ho5; rw [u64s_app]; exact ho5)
      clear hs4 ho5 ho2 hs3
      repeat' (first | refine WD.nil2 ?_ | (refine WD.op2s ?_; simp only [opV, VOp.kind, hiddenOf, unveil_veil, veil_next, or_self, wanted, stepK, step, setDst, List.nil_append, List.cons_append, true_and, V.ev, Nat.reduceLT, Nat.reduceLeDiff, getD_eq, List.length_set, if_true, reduceCtorEq, *]; with_reducible show WD _ _ _ _ _ _) | refine WE.ret ?_ | (with_reducible show blockQ _ _ _ _ _; simp only [blockQ, seqQ]))
      ((try dsimp only); refine Exists.intro _ ⟨(by (simp only [readResults, Nat.reduceEqDiff, Nat.reduceLT, getD_ne, getD_eq, List.length_set, *]; try rfl)), ?_⟩)
      exact ⟨g5, v5, rfl, hus⟩
    | false =>
      have he : r ∉ xs.take (i + 1) := by
        rw [List.take_succ_eq_append_getElem hi, List.mem_append]
        rintro (q | q)
        · exact K.out.2 q
        · simp at q; subst q; simp at hz
      replace he := Hid.mk (And.intro he hi)
      generalize xs[i] = y at *
      clear lex hi
      repeat' (first | refine WE.assoc ?_ | refine WE.seqR ?_ | refine WO.nil ?_ | (refine WO.lenOfE ?_; simp only [setDst, V.ev, Nat.reduceLT, getD_eq, List.length_set, *]; refine ⟨_, rfl, ?_⟩) | (refine WO.iaddrE ?_; simp only [setDst, V.ev, Nat.reduceEqDiff, Nat.reduceLT, getD_ne, getD_eq, List.length_set, *]; refine ⟨_, rfl, ?_⟩) | (refine WO.op1s ?_; simp only [opK, wanted, stepK, step, setDst, pureV, arith, intBin, eqVal, eqAt, eqv, Val.isAgg, Val.cells, true_and, and_self, Bool.and_true, List.getElem?_cons_zero, V.ev, Nat.reduceEqDiff, Nat.reduceLT, Bool.false_eq_true, getD_ne, getD_eq, List.length_set, if_true, if_false, reduceCtorEq, Bool.not_false, *]; with_reducible show WO _ _ _ _ _) | refine WE.seqSkip ?_ | (refine WE.seqCond (t := true) ?hc (fun _ => ?_) (fun hh => Bool.noConfusion hh); case hc => simp only [V.ev, Nat.reduceLT, getD_eq, List.length_set, *]) | refine WE.skip ?_ | (refine WE.cond2 (t := false) ?hc (fun hh => Bool.noConfusion hh) (fun _ => ?_); case hc => simp only [V.ev, Nat.reduceLT, getD_eq, List.length_set, *]) | refine WE.region ?_ | refine WE.seqBlock ?_)
      exact ⟨k - 1, by have := K.out.1; have := he.out.2; omega, rfl, i + 1, ⟨by have := K.out.1; have := he.out.2; omega, he.out.1⟩, by simp only [List.length_set, hl], by (simp only [getD_ne, reduceCtorEq, *]; try rfl), by (simp only [Nat.reduceEqDiff, getD_ne, *]; try rfl), by (simp only [Nat.reduceLT, getD_eq, List.length_set, *]; try rfl)⟩
  · have hd : decide ((i : Int) < (xs.length : Int)) = false := decide_eq_false (by omega)
    have hni : r ∉ xs := by
      have := K.out.2
      rwa [List.take_of_length_le (by omega)] at this
    have hres : unpinL xs r = ([], 8) := by unfold unpinL; rw [if_neg hni]
    rw [hres]
    replace hres := Hid.mk hres
    repeat' (first | refine WE.assoc ?_ | refine WE.seqR ?_ | refine WO.nil ?_ | (refine WO.lenOfE ?_; simp only [setDst, V.ev, Nat.reduceLT, getD_eq, List.length_set, *]; refine ⟨_, rfl, ?_⟩) | (refine WO.op1s ?_; simp only [opK, wanted, stepK, step, setDst, pureV, arith, intBin, true_and, V.ev, Nat.reduceEqDiff, Nat.reduceLT, getD_ne, getD_eq, List.length_set, if_true, reduceCtorEq, *]; with_reducible show WO _ _ _ _ _) | refine WE.seqExit ?_ | (refine WE.seqCond (t := false) ?hc (fun hh => Bool.noConfusion hh) (fun _ => ?_); case hc => simp only [V.ev, Nat.reduceLT, getD_eq, List.length_set, *]) | refine WE.ret ?_)
    ((try dsimp only); refine Exists.intro _ ⟨(by (simp only [readResults, Nat.reduceEqDiff, Nat.reduceLT, getD_ne, getD_eq, List.length_set, *]; try rfl)), ?_⟩)
    exact ⟨Grow.refl _, .nils, rfl, us_nil⟩

end Go.V
end

section
set_option linter.unusedVariables false
set_option linter.unusedSimpArgs false
set_option linter.unusedSectionVars false
namespace Go.V

def look : PinL → Int → Int
  | [], _ => 0
  | p :: ps, r => if p.1 = r then p.2 else look ps r

theorem look_none {r : Int} : ∀ {ps : PinL}, (∀ p ∈ ps, p.1 ≠ r) → look ps r = 0
  | [], _ => rfl
  | p :: ps, h => by
    unfold look
    rw [if_neg (h p (by simp)), look_none fun q hq => h q (List.mem_cons_of_mem _ hq)]

theorem look_mid {r c : Int} {B : PinL} : ∀ {A : PinL}, (∀ p ∈ A, p.1 ≠ r) → look (A ++ (r, c) :: B) r = c
  | [], _ => by simp [look]
  | p :: A, h => by
    rw [List.cons_append]
    unfold look
    rw [if_neg (h p (by simp)), look_mid fun q hq => h q (List.mem_cons_of_mem _ hq)]

theorem look_other {r r' c : Int} {B : PinL} (hr : r' ≠ r) : ∀ (A : PinL), look (A ++ (r, c) :: B) r' = look (A ++ B) r'
  | [] => by simp only [List.nil_append]; rw [look, if_neg (fun e => hr e.symm)]
  | p :: A => by
    rw [List.cons_append, List.cons_append]
    unfold look
    rw [look_other hr A]

theorem split_at {r : Int} : ∀ {ps : PinL}, Asc ps → ∃ A B : PinL, (∀ a ∈ A, a.1 < r) ∧ (∀ b ∈ B, r < b.1) ∧ lowerB ps r = A.length ∧ ((hasP ps r = true ∧ ∃ c, ps = A ++ (r, c) :: B) ∨ (hasP ps r = false ∧ ps = A ++ B))
  | [], _ => ⟨[], [], by simp, by simp, rfl, .inr ⟨rfl, rfl⟩⟩
  | p :: ps, h => by
    have h1 := List.pairwise_cons.1 h
    have zero : ¬ p.1 < r → lowerB (p :: ps) r = 0 := by
      intro hp
      unfold lowerB
      rw [List.countP_eq_zero]
      intro q hq
      rcases List.mem_cons.1 hq with rfl | hq
      · simpa using hp
      · have := h1.1 q hq; simp; omega
    rcases Int.lt_trichotomy p.1 r with hp | hp | hp
    · obtain ⟨A, B, a1, a2, a3, a4⟩ := split_at (r := r) h1.2
      have e : lowerB (p :: ps) r = lowerB ps r + 1 := by simp [lowerB, hp]
      have hh : hasP (p :: ps) r = hasP ps r := by
        unfold hasP
        rw [List.any_cons]
        have : (p.1 == r) = false := by simp; omega
        rw [this, Bool.false_or]
      refine ⟨p :: A, B, ?_, a2, by rw [e, a3]; rfl, ?_⟩
      · intro a ha
        rcases List.mem_cons.1 ha with rfl | ha
        · exact hp
        · exact a1 a ha
      · rw [hh]
        rcases a4 with ⟨q, c, rfl⟩ | ⟨q, rfl⟩
        · exact .inl ⟨q, c, rfl⟩
        · exact .inr ⟨q, rfl⟩
    · refine ⟨[], ps, by simp, fun b hb => by have := h1.1 b hb; omega, zero (by omega), .inl ⟨?_, p.2, by rw [← hp]; rfl⟩⟩
      unfold hasP
      rw [List.any_cons]
      simp [hp]
    · refine ⟨[], p :: ps, by simp, ?_, zero (by omega), .inr ⟨?_, rfl⟩⟩
      · intro b hb
        rcases List.mem_cons.1 hb with rfl | hb
        · exact hp
        · have := h1.1 b hb; omega
      · unfold hasP
        rw [List.any_eq_false]
        intro q hq
        rcases List.mem_cons.1 hq with rfl | hq
        · simp; omega
        · have := h1.1 q hq; simp; omega

theorem getD_mid {A B : PinL} {x : Int × Int} : (A ++ x :: B).getD A.length (0, 0) = x := by
  simp [List.getD_eq_getElem?_getD]

theorem cntP_look {ps : PinL} {r : Int} (h : Asc ps) : cntP ps r = look ps r := by
  obtain ⟨A, B, a1, a2, a3, ⟨hh, c, rfl⟩ | ⟨hh, rfl⟩⟩ := split_at (r := r) h
  · rw [look_mid fun p hp => by have := a1 p hp; omega]
    unfold cntP
    unfold hasP at hh
    rw [hh, if_pos rfl, a3, getD_mid]
  · rw [look_none fun p hp => by
      rcases List.mem_append.1 hp with q | q
      · have := a1 p q; omega
      · have := a2 p q; omega]
    unfold cntP
    unfold hasP at hh
    rw [hh]; rfl

theorem look_mem {ps : PinL} (h : Asc ps) {p : Int × Int} (hp : p ∈ ps) : look ps p.1 = p.2 := by
  obtain ⟨A, B, rfl⟩ := List.append_of_mem hp
  have h1 := List.pairwise_append.1 h
  exact look_mid (c := p.2) fun q hq => by have := h1.2.2 q hq p (by simp); omega

theorem setN_mid {A B : PinL} {r c n : Int} : setN (A ++ (r, c) :: B) A.length n = A ++ (r, c + n) :: B := by
  unfold setN
  rw [getD_mid, List.set_append_right _ _ (Nat.le_refl _), Nat.sub_self]
  rfl

theorem bump_eq {ps : PinL} {r : Int} (n : Int) (h : Asc ps) : ∃ A B : PinL, (∀ a ∈ A, a.1 < r) ∧ (∀ b ∈ B, r < b.1) ∧ bump ps r n = A ++ (r, cntP ps r + n) :: B ∧ ((hasP ps r = true ∧ ps = A ++ (r, cntP ps r) :: B) ∨ (hasP ps r = false ∧ ps = A ++ B)) := by
  have hc := cntP_look (r := r) h
  obtain ⟨A, B, a1, a2, a3, ⟨hh, c, rfl⟩ | ⟨hh, rfl⟩⟩ := split_at (r := r) h
  · rw [look_mid fun p hp => by have := a1 p hp; omega] at hc
    refine ⟨A, B, a1, a2, ?_, .inl ⟨hh, by rw [hc]⟩⟩
    unfold bump slot
    rw [hh, if_pos rfl, a3, setN_mid, hc]
  · have hc0 : cntP (A ++ B) r = 0 := by unfold cntP; unfold hasP at hh; rw [hh]; rfl
    refine ⟨A, B, a1, a2, ?_, .inr ⟨hh, rfl⟩⟩
    unfold bump slot
    rw [hh, a3]
    simp only [Bool.false_eq_true, if_false]
    rw [List.take_left, List.drop_left, List.append_assoc, List.cons_append, List.nil_append, setN_mid, hc0]

theorem drop1_eq {ps : PinL} {r : Int} (h : Asc ps) (hh : hasP ps r = true) : ∃ A B : PinL, (∀ a ∈ A, a.1 < r) ∧ (∀ b ∈ B, r < b.1) ∧ ps = A ++ (r, cntP ps r) :: B ∧ drop1 ps r = if cntP ps r - 1 = 0 then A ++ B else A ++ (r, cntP ps r - 1) :: B := by
  have hc := cntP_look (r := r) h
  obtain ⟨A, B, a1, a2, a3, ⟨_, c, rfl⟩ | ⟨hn, rfl⟩⟩ := split_at (r := r) h
  · rw [look_mid fun p hp => by have := a1 p hp; omega] at hc
    refine ⟨A, B, a1, a2, by rw [hc], ?_⟩
    unfold drop1
    rw [a3, setN_mid, getD_mid, hc]
    have e : c + -1 = c - 1 := by omega
    simp only [e]
    split
    · rw [List.eraseIdx_append_of_length_le (Nat.le_refl _), Nat.sub_self]; rfl
    · rfl
  · rw [hn] at hh; cases hh

theorem asc_mid {A B : PinL} {r c : Int} (hA : Asc A) (hB : Asc B) (h1 : ∀ a ∈ A, a.1 < r) (h2 : ∀ b ∈ B, r < b.1) : Asc (A ++ (r, c) :: B) := by
  unfold Asc at *
  rw [List.pairwise_append]
  refine ⟨hA, List.pairwise_cons.2 ⟨h2, hB⟩, fun a ha b hb => ?_⟩
  rcases List.mem_cons.1 hb with rfl | hb
  · exact h1 a ha
  · have := h1 a ha; have := h2 b hb; omega

theorem asc_parts {A B : PinL} (h : Asc (A ++ B)) : Asc A ∧ Asc B := by
  have := List.pairwise_append.1 h
  exact ⟨this.1, this.2.1⟩

/-- Pins and the list of their revisions. -/
structure Pn (ps : PinL) (xs : List Int) : Prop where
  asc : Asc ps
  pos : ∀ p ∈ ps, 0 < p.1 ∧ 0 < p.2 ∧ p.2 ≤ 4096
  len : ps.length ≤ 1024
  ct : ∀ r, cntP ps r = (cnt xs r : Int)

theorem cnt_app (a b : List Int) (r : Int) : cnt (a ++ b) r = cnt a r + cnt b r := List.countP_append

theorem has_iff {ps : PinL} {r : Int} : hasP ps r = true ↔ ∃ p ∈ ps, p.1 = r := by
  unfold hasP
  rw [List.any_eq_true]
  simp

theorem Pn.has {ps : PinL} {xs : List Int} (h : Pn ps xs) (r : Int) : hasP ps r = true ↔ cnt xs r ≠ 0 := by
  have hc := h.ct r
  rw [cntP_look h.asc] at hc
  rw [has_iff]
  constructor
  · rintro ⟨p, hp, rfl⟩
    rw [look_mem h.asc hp] at hc
    have := h.pos p hp
    omega
  · intro hne
    apply Classical.byContradiction
    intro hn
    rw [look_none fun p hp e => hn ⟨p, hp, e⟩] at hc
    omega

theorem cnt_mem {xs : List Int} {r : Int} : cnt xs r ≠ 0 ↔ r ∈ xs := by
  unfold cnt
  rw [Nat.ne_zero_iff_zero_lt, List.countP_pos_iff]
  simp

theorem Pn.held {ps : PinL} {xs : List Int} (h : Pn ps xs) : HeldOf xs (ps.map (·.1)) := by
  refine ⟨?_, fun x => ?_⟩
  · rw [List.pairwise_map]
    exact h.asc
  · have := h.has x
    rw [cnt_mem, has_iff] at this
    constructor
    · intro hx
      obtain ⟨p, hp, rfl⟩ := List.mem_map.1 hx
      exact ⟨this.1 ⟨p, hp, rfl⟩, (h.pos p hp).1⟩
    · rintro ⟨hx, _⟩
      obtain ⟨p, hp, rfl⟩ := this.2 hx
      exact List.mem_map_of_mem hp

theorem Pn.nil : Pn [] [] := ⟨by simp [Asc], by simp, by simp, fun r => by simp [cntP, V.cnt]⟩

theorem Pn.ext {ps qs : PinL} {xs ys : List Int} (h : Pn ps xs) (k : Pn qs ys) (e : ∀ r, V.cnt xs r = V.cnt ys r) : ps = qs := by
  have hm : ps.map (·.1) = qs.map (·.1) := by
    refine asc_ext h.held.1 k.held.1 fun x => ?_
    rw [h.held.2 x, k.held.2 x, ← cnt_mem, ← cnt_mem, e x]
  have hl : ps.length = qs.length := by simpa using congrArg List.length hm
  refine List.ext_getElem hl fun i h1 h2 => ?_
  have e1 : ps[i].1 = qs[i].1 := by
    have := congrArg (fun l => l[i]?) hm
    simpa [h1, h2] using this
  refine Prod.ext e1 ?_
  have a1 := look_mem h.asc (List.getElem_mem h1)
  have a2 := look_mem k.asc (List.getElem_mem h2)
  rw [← cntP_look h.asc, h.ct, e, ← k.ct, cntP_look k.asc, e1, a2] at a1
  exact a1.symm

theorem Pn.bump {ps : PinL} {xs : List Int} (h : Pn ps xs) {r : Int} {n : Nat} (hr : 0 < r) (hn : 0 < n) (hc : (n : Int) ≤ 4096 - cntP ps r) (hl : ¬ (hasP ps r = false ∧ ps.length = 1024)) : Pn (bump ps r n) (xs ++ List.replicate n r) := by
  obtain ⟨A, B, a1, a2, e, a4⟩ := bump_eq (r := r) (n : Int) h.asc
  have hcn := h.ct r
  have hp : Asc A ∧ Asc B ∧ (∀ p ∈ A ++ B, 0 < p.1 ∧ 0 < p.2 ∧ p.2 ≤ 4096) ∧ (A ++ B).length + 1 ≤ 1024 ∧ ∀ r', r' ≠ r → look ps r' = look (A ++ B) r' := by
    rcases a4 with ⟨hh, e2⟩ | ⟨hh, e2⟩
    · have h1 := h.asc
      rw [e2] at h1
      have h2 := asc_parts h1
      refine ⟨h2.1, (List.pairwise_cons.1 h2.2).2, fun p hp => h.pos p ?_, ?_, fun r' hr' => ?_⟩
      · rw [e2]
        rcases List.mem_append.1 hp with q | q <;> simp [q]
      · have := h.len
        have := congrArg List.length e2
        simp at this ⊢; omega
      · rw [e2]; rw [look_other hr' A]
    · have h1 := h.asc
      rw [e2] at h1
      have h2 := asc_parts h1
      refine ⟨h2.1, h2.2, fun p hp => h.pos p (by rw [e2]; exact hp), ?_, fun r' _ => by rw [← e2]⟩
      have := h.len
      have : ps.length ≠ 1024 := fun q => hl ⟨hh, q⟩
      rw [← e2]; omega
  obtain ⟨hA, hB, hpos, hlen, hlk⟩ := hp
  have hasc : Asc (V.bump ps r n) := by rw [e]; exact asc_mid hA hB a1 a2
  refine ⟨hasc, ?_, ?_, fun r' => ?_⟩
  · intro p hp
    rw [e] at hp
    rcases List.mem_append.1 hp with q | q
    · exact hpos p (List.mem_append_left _ q)
    · rcases List.mem_cons.1 q with rfl | q
      · simp only; omega
      · exact hpos p (List.mem_append_right _ q)
  · rw [e]; simp at hlen ⊢; omega
  · rw [cntP_look hasc, cnt_app, e]
    have hrep : V.cnt (List.replicate n r) r' = if r = r' then n else 0 := by
      unfold V.cnt
      rw [List.countP_replicate]
      simp
    rw [hrep]
    by_cases q : r' = r
    · subst q
      rw [look_mid fun p hp => by have := a1 p hp; omega, if_pos rfl]
      omega
    · rw [look_other q, ← hlk r' q, ← cntP_look h.asc, h.ct, if_neg (fun z => q z.symm)]
      omega

theorem Pn.drop1 {ps : PinL} {xs : List Int} (h : Pn ps xs) {r : Int} (hh : hasP ps r = true) : Pn (drop1 ps r) (xs.erase r) := by
  obtain ⟨A, B, a1, a2, e2, e⟩ := drop1_eq h.asc hh
  have hcn := h.ct r
  have hne := (h.has r).1 hh
  obtain ⟨c, hcd⟩ : ∃ c, cntP ps r = c := ⟨_, rfl⟩
  rw [hcd] at e2 e hcn
  have h1 := h.asc
  rw [e2] at h1
  have h2 := asc_parts h1
  have hA := h2.1
  have hB := (List.pairwise_cons.1 h2.2).2
  have hpos : ∀ p ∈ A ++ B, 0 < p.1 ∧ 0 < p.2 ∧ p.2 ≤ 4096 := fun p hp => h.pos p (by
    rw [e2]
    rcases List.mem_append.1 hp with q | q <;> simp [q])
  have hrp := h.pos (r, c) (by rw [e2]; simp)
  simp only at hrp
  have hlen : (A ++ B).length + 1 = ps.length := by
    have := congrArg List.length e2
    simp at this ⊢; omega
  have hll := h.len
  have hAB : Asc (A ++ B) := by
    unfold Asc at *
    rw [List.pairwise_append]
    exact ⟨hA, hB, fun a ha b hb => by have := a1 a ha; have := a2 b hb; omega⟩
  have hasc : Asc (V.drop1 ps r) := by
    rw [e]
    split
    · exact hAB
    · exact asc_mid hA hB a1 a2
  refine ⟨hasc, ?_, ?_, fun r' => ?_⟩
  · intro p hp
    rw [e] at hp
    split at hp
    · exact hpos p hp
    · rcases List.mem_append.1 hp with q | q
      · exact hpos p (List.mem_append_left _ q)
      · rcases List.mem_cons.1 q with rfl | q
        · simp only; omega
        · exact hpos p (List.mem_append_right _ q)
  · rw [e]
    split
    · omega
    · simp at hlen ⊢; omega
  · have hce : V.cnt (xs.erase r) r' = V.cnt xs r' - if r = r' then 1 else 0 := by
      have := List.count_erase (a := r') (b := r) (l := xs)
      unfold List.count at this
      unfold V.cnt
      rw [this]
      simp
    rw [cntP_look hasc, hce, e]
    by_cases q : r' = r
    · subst q
      rw [if_pos rfl]
      split
      · rw [look_none fun p hp => by
          rcases List.mem_append.1 hp with z | z
          · have := a1 p z; omega
          · have := a2 p z; omega]
        omega
      · rw [look_mid fun p hp => by have := a1 p hp; omega]
        omega
    · simp only [if_neg (fun z : r = r' => q z.symm)]
      have : look (A ++ B) r' = (V.cnt xs r' : Int) := by
        rw [← h.ct, cntP_look h.asc, e2, look_other q]
      split
      · rw [this]; omega
      · rw [look_other q, this]; omega

end Go.V
end

section
set_option linter.unusedVariables false
set_option linter.unusedSimpArgs false
set_option linter.unusedSectionVars false
-- DRAWS
-- BUILDS
-- NEW
set_option maxHeartbeats 2000000
namespace Go.V
attribute [local irreducible] stepK opK opV

def rv (b : Int) : Int := if b = 255 then 18446744073709551615 else b

def doR (a b : Int) (ps : PinL) (t : Int) : PinL × Int × Int := if a % 2 = 1 then unpinR ps t (rv b) else moreR ps t (rv b) 1

def refR (a b : Int) (xs : List Int) (m : Nat) : List Int × Int := if a % 2 = 1 then unpinL xs (rv b) else pinL xs m (rv b)

theorem tmod2 {a : Int} (h0 : 0 ≤ a) : a.tmod 2 = a % 2 := Int.tmod_eq_emod_of_nonneg h0

theorem do_ok {h : Heap} (w : Wf h) {s : Val} {ps : PinL} {t a b : Int} (hab : (0 ≤ a ∧ a < 256) ∧ (0 ≤ b ∧ b < 256)) (hs : Ps h s ps) (ha : Asc ps) (hn : ps.length ≤ 1024) (hc : ∀ p ∈ ps, 0 ≤ p.2 ∧ p.2 ≤ 4096) (ht : 0 ≤ t ∧ t ≤ 1099511627776) :
    WC E09 9 [.agg [.int .u8 a, .int .u8 b], .agg [s, .int .i64 t]] h fun v h' => Grow h h' ∧ PRes h' v (doR a b ps t) := by
  refine WC.fn1 (n := 22) rfl rfl (by rfl) ?_
  intro fr hl ha'
  have f0 : fr.getD 0 .undef = .agg [.int .u8 a, .int .u8 b] := ha' 0
  have f1 : fr.getD 1 .undef = .agg [s, .int .i64 t] := ha' 1
  clear ha'
  unfold v9
  refine WE.seqR ?_
  (refine WO.op1 ?_; simp only [opK, wanted, setDst, *])
  refine stepK_box w (c := [.int .u8 a, .int .u8 b]) (by simp only [V.ev, *]; rfl) rfl fun b1 h1 g1 hb1 hg1 hn1 => ?_
  (refine WO.op1 ?_; simp only [opK, wanted, setDst, *])
  refine stepK_box (g1.wf w) (c := [s, .int .i64 t]) (by simp only [V.ev, Nat.reduceEqDiff, getD_ne, *]; rfl) rfl fun b2 h2 g2 hb2 hg2 hn2 => ?_
  (refine WO.op1 ?_; simp only [opK, wanted, setDst, *])
  refine stepK_alloc (g2.wf (g1.wf w)) fun b4 h3 g3 hb4 hg4 hn3 => ?_
  have gA := (g1.trans g2).trans g3
  have wB := gA.wf w
  have l0 : h3.load b1 0 1 = some [.int .u8 a] := (g2.trans g3).part hg1 (by simp)
  have l1 : h3.load b1 0 2 = some [.int .u8 a, .int .u8 b] := (g2.trans g3).part hg1 (by simp)
  have l2 : h3.load b2 0 2 = some [s, .int .i64 t] := g3.part hg2 (by simp)
  have hs2 := gA.ps hs
  have B := Hid.mk (show h.next ≤ b4 ∧ h3.get b4 = some (.cells [.nils, .int .i64 0]) from ⟨by have := g1.next; have := g2.next; omega, hg4⟩)
  have tm := tmod2 hab.1.1
  have z2 : ((2 : Int) = 0) = False := by simp
  clear hg1 hg2 hg4 hn1 hn2 hn3 g1 g2 g3 hb1 hb2 hb4
  have hs := Hid.mk hs
  have rest : ∀ (x : PinL × Int × Int) (v : Val) (h5 : Heap), Grow h3 h5 → PRes h5 v x → ∃ s5, v = .tup [.agg [s5, .int .i64 x.2.1], .int .i64 x.2.2] ∧ (s5.cells = [s5] ∧ Val.one s5 = true) ∧ h5.get b4 = some (.cells [.nils, .int .i64 0]) ∧ h5.floor ≤ b4 ∧
      ∀ h6, Wrote h5 b4 (splice [.nils, .int .i64 0] 0 [s5, .int .i64 x.2.1]) h6 → Grow h h6 ∧ h6.load b4 0 2 = some [s5, .int .i64 x.2.1] ∧ PRes h6 v x := by
    rintro x v h5 g5 ⟨s5, rfl, hp⟩
    have e5 := g5.keep _ _ B.out.2
    exact ⟨s5, rfl, ps_one hp, e5, by rw [(gA.trans g5).floor]; have := w.fl; have := B.out.1; omega, fun h6 k6 => ⟨(gA.trans g5).wrote B.out.1 w k6, load_get k6.at_ (by simp [splice]), s5, rfl, ps_wrote hp e5 k6⟩⟩
  replace rest := Hid.mk rest
  unfold doR
  by_cases c1 : a % 2 = 1
  · have d1 : (a % 2 == 1) = true := by simpa using c1
    rw [if_pos c1]
    replace c1 := Hid.mk c1
    repeat' (first | refine WE.assoc ?_ | refine WE.seqR ?_ | refine WO.nil ?_ | refine WE.seqD ?_ | (refine WO.op1s ?_; simp only [opK, wanted, stepK, step, setDst, pureV, arith, intBin, eqVal, eqAt, eqv, Val.isAgg, Val.cells, true_and, and_self, Bool.and_true, List.getElem?_cons_zero, V.ev, Nat.reduceEqDiff, Nat.reduceLT, Nat.add_zero, Bool.false_eq_true, getD_ne, getD_eq, List.length_set, if_true, if_false, Bool.not_true, *]; with_reducible show WO _ _ _ _ _) | (refine WD.op2s ?_; simp only [opV, VOp.kind, hiddenOf, unveil_veil, veil_next, below_nil, below_cons, or_self, wanted, stepK, step, setDst, evs, List.nil_append, List.cons_append, true_and, List.getD_cons_zero, V.ev, Nat.reduceEqDiff, Nat.reduceLT, Nat.reduceLeDiff, Bool.false_eq_true, getD_ne, getD_eq, List.length_set, if_true, if_false, *]; with_reducible show WD _ _ _ _ _ _) | (refine WE.seqCond (t := true) ?hc (fun _ => ?_) (fun hh => Bool.noConfusion hh); case hc => simp only [V.ev, Nat.reduceLT, getD_eq, List.length_set, *]))
    refine WD.callG (h0 := h3) wB (Grow.refl _) (fun v => v = .int .u64 (rv b)) ⟨.inl (Nat.le_refl _), trivial⟩ (fun h4 w4 k4 => by (simp only [evs, V.ev, Nat.reduceLT, getD_eq, List.length_set, *]); exact rev_ok w4 hab.2) ?_
    rintro _ h4 g4 n4 rfl
    simp only [setDst, List.nil_append, List.cons_append]
    refine WD.callH (h0 := h3) wB g4 (fun v h => PRes h v (unpinR ps t (rv b))) (fun v h h' k e => k.pres e) trivial (fun h4 w4 k4 => by (simp only [evs, V.ev, Nat.reduceEqDiff, Nat.reduceLT, getD_ne, getD_eq, List.length_set, *]); exact unpin_ok w4 (k4.ps hs2) ha hn hc ht) ?_
    rintro v5 h5 g5 n5 hp5
    simp only [setDst, List.nil_append, List.cons_append]
    obtain ⟨s5, rfl, hso, e5, fl5, K⟩ := rest.out _ _ _ g5 hp5
    replace K := Hid.mk K
    clear l0 l1 l2 hs2
    repeat' (first | (refine WD.op2s ?_; simp only [opV, VOp.kind, hiddenOf, unveil_veil, veil_next, or_true, or_self, wanted, stepK, step, setDst, Val.cells, List.nil_append, List.cons_append, List.length_cons, List.length_nil, true_and, List.getElem?_cons_zero, List.getElem?_cons_succ, V.ev, Nat.reduceEqDiff, Nat.reduceLT, Nat.reduceLeDiff, Nat.reduceAdd, Nat.zero_add, getD_ne, getD_eq, List.length_set, if_true, reduceCtorEq, *]; with_reducible show WD _ _ _ _ _ _))
    (refine WD.op2 ?_; simp only [opV, VOp.kind, hiddenOf, wanted, setDst, or_true, List.nil_append, List.cons_append, Nat.reduceEqDiff, Nat.reduceLeDiff, if_true, *])
    refine stepK_store (b := b4) (o := 0) (us := [s5, .int .i64 (unpinR ps t (rv b)).2.1]) (by (simp only [V.ev, Nat.reduceEqDiff, Nat.reduceLT, getD_ne, getD_eq, List.length_set, *]; try rfl)) (by (simp only [V.ev, Nat.reduceEqDiff, Nat.reduceLT, getD_ne, getD_eq, List.length_set, *]; try rfl)) (by rfl) e5 fl5 (by simp) (one2 hso.2 _ _) fun h6 k6 => ?_
    obtain ⟨g6, m6, p6⟩ := K.out _ k6
    clear k6 hp5
    repeat' (first | refine WD.nil2 ?_ | (refine WD.op2s ?_; simp only [opV, VOp.kind, hiddenOf, unveil_veil, veil_next, or_self, wanted, stepK, step, setDst, List.nil_append, List.cons_append, true_and, V.ev, Nat.reduceLT, Nat.reduceLeDiff, getD_eq, List.length_set, if_true, reduceCtorEq, *]; with_reducible show WD _ _ _ _ _ _) | refine WE.seqRet ?_)
    ((try dsimp only); refine Exists.intro _ ⟨(by (simp only [readResults, Nat.reduceEqDiff, Nat.reduceLT, getD_ne, getD_eq, List.length_set, if_true, *]; try rfl)), ?_⟩)
    exact ⟨g6, p6⟩
  · have d1 : (a % 2 == 1) = false := by simpa using c1
    rw [if_neg c1]
    replace c1 := Hid.mk c1
    repeat' (first | refine WE.assoc ?_ | refine WE.seqR ?_ | refine WO.nil ?_ | refine WE.seqD ?_ | (refine WO.op1s ?_; simp only [opK, wanted, stepK, step, setDst, pureV, arith, intBin, eqVal, eqAt, eqv, Val.isAgg, Val.cells, true_and, and_self, Bool.and_true, List.getElem?_cons_zero, V.ev, Nat.reduceEqDiff, Nat.reduceLT, Nat.add_zero, Bool.false_eq_true, getD_ne, getD_eq, List.length_set, if_true, if_false, Bool.not_false, *]; with_reducible show WO _ _ _ _ _) | (refine WD.op2s ?_; simp only [opV, VOp.kind, hiddenOf, unveil_veil, veil_next, below_nil, below_cons, or_self, wanted, stepK, step, setDst, evs, List.nil_append, List.cons_append, true_and, List.getD_cons_zero, V.ev, Nat.reduceEqDiff, Nat.reduceLT, Nat.reduceLeDiff, Bool.false_eq_true, getD_ne, getD_eq, List.length_set, if_true, if_false, *]; with_reducible show WD _ _ _ _ _ _) | refine WE.seqSkip ?_ | (refine WE.seqCond (t := false) ?hc (fun hh => Bool.noConfusion hh) (fun _ => ?_); case hc => simp only [V.ev, Nat.reduceLT, getD_eq, List.length_set, *]))
    refine WD.callG (h0 := h3) wB (Grow.refl _) (fun v => v = .int .u64 (rv b)) ⟨.inl (Nat.le_refl _), trivial⟩ (fun h4 w4 k4 => by (simp only [evs, V.ev, Nat.reduceLT, getD_eq, List.length_set, *]); exact rev_ok w4 hab.2) ?_
    rintro _ h4 g4 n4 rfl
    simp only [setDst, List.nil_append, List.cons_append]
    refine WD.callH (h0 := h3) wB g4 (fun v h => PRes h v (moreR ps t (rv b) 1)) (fun v h h' k e => k.pres e) trivial (fun h4 w4 k4 => by (simp only [evs, V.ev, Nat.reduceEqDiff, Nat.reduceLT, getD_ne, getD_eq, List.length_set, *]); exact pin_ok w4 (k4.ps hs2) ha hn hc ht) ?_
    rintro v5 h5 g5 n5 hp5
    simp only [setDst, List.nil_append, List.cons_append]
    obtain ⟨s5, rfl, hso, e5, fl5, K⟩ := rest.out _ _ _ g5 hp5
    replace K := Hid.mk K
    clear l0 l1 l2 hs2
    repeat' (first | (refine WD.op2s ?_; simp only [opV, VOp.kind, hiddenOf, unveil_veil, veil_next, or_true, or_self, wanted, stepK, step, setDst, Val.cells, List.nil_append, List.cons_append, List.length_cons, List.length_nil, true_and, List.getElem?_cons_zero, List.getElem?_cons_succ, V.ev, Nat.reduceEqDiff, Nat.reduceLT, Nat.reduceLeDiff, Nat.reduceAdd, Nat.zero_add, getD_ne, getD_eq, List.length_set, if_true, reduceCtorEq, *]; with_reducible show WD _ _ _ _ _ _))
    (refine WD.op2 ?_; simp only [opV, VOp.kind, hiddenOf, wanted, setDst, or_true, List.nil_append, List.cons_append, Nat.reduceEqDiff, Nat.reduceLeDiff, if_true, *])
    refine stepK_store (b := b4) (o := 0) (us := [s5, .int .i64 (moreR ps t (rv b) 1).2.1]) (by (simp only [V.ev, Nat.reduceEqDiff, Nat.reduceLT, getD_ne, getD_eq, List.length_set, *]; try rfl)) (by (simp only [V.ev, Nat.reduceEqDiff, Nat.reduceLT, getD_ne, getD_eq, List.length_set, *]; try rfl)) (by rfl) e5 fl5 (by simp) (one2 hso.2 _ _) fun h6 k6 => ?_
    obtain ⟨g6, m6, p6⟩ := K.out _ k6
    clear k6 hp5
    repeat' (first | refine WD.nil2 ?_ | (refine WD.op2s ?_; simp only [opV, VOp.kind, hiddenOf, unveil_veil, veil_next, or_self, wanted, stepK, step, setDst, List.nil_append, List.cons_append, true_and, V.ev, Nat.reduceLT, Nat.reduceLeDiff, getD_eq, List.length_set, if_true, reduceCtorEq, *]; with_reducible show WD _ _ _ _ _ _) | refine WE.ret ?_)
    ((try dsimp only); refine Exists.intro _ ⟨(by (simp only [readResults, Nat.reduceEqDiff, Nat.reduceLT, getD_ne, getD_eq, List.length_set, if_true, *]; try rfl)), ?_⟩)
    exact ⟨g6, p6⟩

theorem ref_ok {h : Heap} (w : Wf h) {s : Val} {xs o : List Int} {a b : Int} (hab : (0 ≤ a ∧ a < 256) ∧ (0 ≤ b ∧ b < 256)) (hs : Us h s xs) (hx : xs.length ≤ 100000) (ho : HeldOf xs o) :
    WC E09 10 [.agg [.int .u8 a, .int .u8 b], s] h fun v h' => Grow h h' ∧ LRes h' v (refR a b xs o.length) := by
  refine WC.fn1 (n := 22) rfl rfl (by rfl) ?_
  intro fr hl ha'
  have f0 : fr.getD 0 .undef = .agg [.int .u8 a, .int .u8 b] := ha' 0
  have f1 : fr.getD 1 .undef = s := ha' 1
  clear ha'
  unfold v10
  refine WE.seqR ?_
  (refine WO.op1 ?_; simp only [opK, wanted, setDst, *])
  refine stepK_box w (c := [.int .u8 a, .int .u8 b]) (by simp only [V.ev, *]; rfl) rfl fun b1 h1 g1 hb1 hg1 hn1 => ?_
  have wB := g1.wf w
  have gg := Grow.refl h1
  have l0 : h1.load b1 0 1 = some [.int .u8 a] := load_get hg1 (by simp)
  have l1 : h1.load b1 0 2 = some [.int .u8 a, .int .u8 b] := load_get hg1 (by simp)
  have hs2 := g1.us hs
  have tm := tmod2 hab.1.1
  have z2 : ((2 : Int) = 0) = False := by simp
  clear hg1 hn1 hb1 hs
  unfold refR
  by_cases c1 : a % 2 = 1
  · have d1 : (a % 2 == 1) = true := by simpa using c1
    rw [if_pos c1]
    replace c1 := Hid.mk c1
    repeat' (first | refine WE.assoc ?_ | refine WE.seqR ?_ | refine WO.nil ?_ | (refine WO.op1s ?_; simp only [opK, wanted, stepK, step, setDst, pureV, arith, intBin, evs, eqVal, eqAt, eqv, Val.isAgg, Val.cells, true_and, and_self, Bool.and_true, List.getElem?_cons_zero, V.ev, Nat.reduceEqDiff, Nat.reduceLT, Nat.add_zero, Bool.false_eq_true, getD_ne, getD_eq, List.length_set, if_true, if_false, Bool.not_true, *]; with_reducible show WO _ _ _ _ _) | (refine WE.seqCond (t := true) ?hc (fun _ => ?_) (fun hh => Bool.noConfusion hh); case hc => simp only [V.ev, Nat.reduceLT, getD_eq, List.length_set, *]))
    refine WO.callG wB gg (fun v => v = .int .u64 (rv b)) rfl (fun h4 w4 k4 => by (simp only [evs, V.ev, Nat.reduceLT, getD_eq, List.length_set, *]); exact rev_ok w4 hab.2) ?_
    rintro _ h4 g4 rfl
    simp only [setDst]
    skip
    refine WO.call rfl ?_
    (simp only [evs, V.ev, Nat.reduceEqDiff, Nat.reduceLT, getD_ne, getD_eq, List.length_set, *])
    refine (unpinR_ok (g4.wf wB) (g4.us hs2) hx).mono ?_
    rintro _ h5 ⟨g5, s5, rfl, hp5⟩
    simp only [setDst]
    generalize unpinL xs (rv b) = x at *
    clear l0 l1 hs2
    repeat' (first | refine WO.nil ?_ | (refine WO.op1s ?_; simp only [opK, wanted, stepK, step, setDst, true_and, List.getElem?_cons_zero, List.getElem?_cons_succ, V.ev, Nat.reduceEqDiff, Nat.reduceLT, getD_ne, getD_eq, List.length_set, *]; with_reducible show WO _ _ _ _ _) | refine WE.seqRet ?_)
    ((try dsimp only); refine Exists.intro _ ⟨(by (simp only [readResults, Nat.reduceEqDiff, Nat.reduceLT, getD_ne, getD_eq, List.length_set, *]; try rfl)), ?_⟩)
    exact ⟨g1.trans (g4.trans g5), s5, rfl, hp5⟩
  · have d1 : (a % 2 == 1) = false := by simpa using c1
    rw [if_neg c1]
    replace c1 := Hid.mk c1
    repeat' (first | refine WE.assoc ?_ | refine WE.seqR ?_ | refine WO.nil ?_ | (refine WO.op1s ?_; simp only [opK, wanted, stepK, step, setDst, pureV, arith, intBin, evs, eqVal, eqAt, eqv, Val.isAgg, Val.cells, true_and, and_self, Bool.and_true, List.getElem?_cons_zero, V.ev, Nat.reduceEqDiff, Nat.reduceLT, Nat.add_zero, Bool.false_eq_true, getD_ne, getD_eq, List.length_set, if_true, if_false, Bool.not_false, *]; with_reducible show WO _ _ _ _ _) | refine WE.seqSkip ?_ | (refine WE.seqCond (t := false) ?hc (fun hh => Bool.noConfusion hh) (fun _ => ?_); case hc => simp only [V.ev, Nat.reduceLT, getD_eq, List.length_set, *]))
    refine WO.callG wB gg (fun v => v = .int .u64 (rv b)) rfl (fun h4 w4 k4 => by (simp only [evs, V.ev, Nat.reduceLT, getD_eq, List.length_set, *]); exact rev_ok w4 hab.2) ?_
    rintro _ h4 g4 rfl
    simp only [setDst]
    skip
    refine WO.call rfl ?_
    (simp only [evs, V.ev, Nat.reduceEqDiff, Nat.reduceLT, getD_ne, getD_eq, List.length_set, *])
    refine (pinR_ok (g4.wf wB) (g4.us hs2) hx ho).mono ?_
    rintro _ h5 ⟨g5, s5, rfl, hp5⟩
    simp only [setDst]
    generalize pinL xs o.length (rv b) = x at *
    clear l0 l1 hs2
    repeat' (first | refine WO.nil ?_ | (refine WO.op1s ?_; simp only [opK, wanted, stepK, step, setDst, true_and, List.getElem?_cons_zero, List.getElem?_cons_succ, V.ev, Nat.reduceEqDiff, Nat.reduceLT, getD_ne, getD_eq, List.length_set, *]; with_reducible show WO _ _ _ _ _) | refine WE.ret ?_)
    ((try dsimp only); refine Exists.intro _ ⟨(by (simp only [readResults, Nat.reduceEqDiff, Nat.reduceLT, getD_ne, getD_eq, List.length_set, *]; try rfl)), ?_⟩)
    exact ⟨g1.trans (g4.trans g5), s5, rfl, hp5⟩

/-- A call, and its definition. -/
theorem both {ps : PinL} {xs : List Int} (h : Pn ps xs) {a b : Int} (hb : 0 ≤ b ∧ b < 256) :
    (doR a b ps xs.length).2.2 = (refR a b xs ps.length).2 ∧ ((refR a b xs ps.length).2 = 0 → Pn (doR a b ps xs.length).1 (refR a b xs ps.length).1 ∧ (doR a b ps xs.length).2.1 = ((refR a b xs ps.length).1.length : Int)) ∧
      ((refR a b xs ps.length).2 ≠ 0 → (doR a b ps xs.length).1 = [] ∧ (doR a b ps xs.length).2.1 = 0) := by
  have hr : 0 ≤ rv b := by unfold rv; split <;> omega
  have hh := h.has (rv b)
  have hc := h.ct (rv b)
  unfold doR refR
  split
  · unfold unpinR unpinL
    by_cases hm : rv b ∈ xs
    · have h1 := hh.2 (cnt_mem.2 hm)
      rw [h1, if_pos rfl, if_pos hm]
      refine ⟨rfl, fun _ => ⟨h.drop1 h1, ?_⟩, fun q => absurd rfl q⟩
      have := List.length_erase_of_mem hm
      have := List.length_pos_of_mem hm
      simp only; omega
    · have h1 : hasP ps (rv b) = false := by
        cases q : hasP ps (rv b) with
        | false => rfl
        | true => exact absurd (cnt_mem.1 (hh.1 q)) hm
      rw [h1, if_neg hm]
      exact ⟨rfl, fun q => absurd q (by decide), fun _ => ⟨rfl, rfl⟩⟩
  · unfold moreR pinL
    rw [if_neg (by omega)]
    by_cases h0 : rv b = 0
    · rw [if_pos h0, if_pos h0]
      exact ⟨rfl, fun q => absurd q (by decide), fun _ => ⟨rfl, rfl⟩⟩
    · rw [if_neg h0, if_neg h0, if_neg (by omega)]
      have e : ((1 : Int) > 4096 - cntP ps (rv b) ∨ (hasP ps (rv b) = false ∧ ps.length = 1024)) ↔ (cnt xs (rv b) ≥ 4096 ∨ (cnt xs (rv b) = 0 ∧ ps.length ≥ 1024)) := by
        have := h.len
        constructor
        · rintro (q | ⟨q1, q2⟩)
          · exact .inl (by omega)
          · refine .inr ⟨?_, by omega⟩
            apply Classical.byContradiction
            intro z
            rw [hh.2 z] at q1; cases q1
        · rintro (q | ⟨q1, q2⟩)
          · exact .inl (by omega)
          · refine .inr ⟨?_, by omega⟩
            cases z : hasP ps (rv b) with
            | false => rfl
            | true => exact absurd q1 (hh.1 z)
      by_cases c : cnt xs (rv b) ≥ 4096 ∨ (cnt xs (rv b) = 0 ∧ ps.length ≥ 1024)
      · rw [if_pos (e.2 c), if_pos c]
        exact ⟨rfl, fun q => absurd q (by decide), fun _ => ⟨rfl, rfl⟩⟩
      · have c' := mt e.1 c
        rw [if_neg c', if_neg c]
        refine ⟨rfl, fun _ => ⟨?_, by simp⟩, fun q => absurd rfl q⟩
        have := h.bump (r := rv b) (n := 1) (by omega) (by omega) (by have := fun q => c' (.inl q); omega) (fun q => c' (.inr q))
        simpa using this

end Go.V
end

section
set_option linter.unusedVariables false
set_option linter.unusedSimpArgs false
set_option linter.unusedSectionVars false
-- DRAWS
-- BUILDS
-- NEW
set_option maxHeartbeats 2000000
namespace Go.V
attribute [local irreducible] stepK opK opV

theorem stepK_cap {E : Env} {fr : List Val} {h : Heap} {x : Opd} {v : Val} {n : Nat} (hx : V.ev fr x = v) (ht : Tight v n) {K : Val → Heap → Prop} (k : K (.int .i64 (n : Int)) h) : stepK E fr h (.capOf x) K := by
  unfold stepK
  rcases ht with ⟨rfl, rfl⟩ | ⟨b, o, rfl⟩
  · simp only [step, hx]; exact k
  · simp only [step, hx]; exact k

def WhI (h0 : Heap) (b2 : Nat) (l v5 v6 : Val) (n : Nat) (k : Nat) (fr : List Val) (h' : Heap) : Prop := Grow h0 h' ∧ ∃ i : Nat, Hid (i + k = n) ∧ fr.length = 59 ∧ fr.getD 1 .undef = l ∧ fr.getD 2 .undef = .ptr b2 0 ∧ fr.getD 5 .undef = v5 ∧ fr.getD 6 .undef = v6 ∧ fr.getD 8 .undef = .int .i64 (i : Nat)

theorem whole_ok {h : Heap} (w : Wf h) {s l : Val} {ps : PinL} {xs : List Int} (hs : Ps h s ps) (hl' : Us h l xs) (hp : Pn ps xs) (hx : xs.length ≤ 100000) :
    WC E09 15 [.agg [s, .int .i64 (xs.length : Nat)], l] h fun v h' => Grow h h' ∧ v = .int .i64 1 := by
  refine WC.fn1 (n := 59) rfl rfl (by rfl) ?_
  intro fr hl ha'
  have f0 : fr.getD 0 .undef = .agg [s, .int .i64 (xs.length : Nat)] := ha' 0
  have f1 : fr.getD 1 .undef = l := ha' 1
  clear ha'
  have hn4 : ps.length < 4611686018427387904 := by have := hp.len; omega
  have hn5 : ps.length ≤ 100000 := by have := hp.len; omega
  have hlx := hl'.lenI
  unfold v15
  refine WE.seqR ?_
  (refine WO.op1 ?_; simp only [opK, wanted, setDst, *])
  refine stepK_box w (c := [s, .int .i64 (xs.length : Nat)]) (by simp only [V.ev, *]; rfl) rfl fun b2 h2 g2 hb2 hg2 hn2 => ?_
  have w2 := g2.wf w
  have ld : ∀ h', Grow h2 h' → h'.load b2 0 2 = some [s, .int .i64 (xs.length : Nat)] := fun h' g => g.part hg2 (by simp)
  have hs2 := g2.ps hs
  have hl2 := g2.us hl'
  clear hg2 hn2 hb2 hs hl'
  repeat' (first | refine WE.seqR ?_ | refine WO.nil ?_ | (refine WO.op1s ?_; simp only [opK, wanted, stepK, step, setDst, evs, true_and, V.ev, Nat.reduceEqDiff, Nat.reduceLT, getD_ne, getD_eq, List.length_set, *]; with_reducible show WO _ _ _ _ _))
  refine WO.call rfl ?_
  (simp only [evs, V.ev, Nat.reduceLT, getD_eq, List.length_set, *])
  refine (heldR_ok w2 hl2 hx hp.held).mono ?_
  rintro v5 h3 ⟨g3, hu3⟩
  simp only [setDst]
  have ld3 := ld _ g3
  repeat' (first | refine WE.seqR ?_ | refine WO.nil ?_ | (refine WO.op1s ?_; simp only [opK, wanted, stepK, step, setDst, evs, true_and, V.ev, Nat.reduceEqDiff, Nat.reduceLT, getD_ne, getD_eq, List.length_set, if_true, *]; with_reducible show WO _ _ _ _ _))
  refine WO.call rfl ?_
  (simp only [evs, V.ev, Nat.reduceLT, getD_eq, List.length_set, *])
  refine (held_ok (g3.wf w2) (g3.ps hs2) hn5 (by rfl)).mono ?_
  rintro v6 h4 ⟨g4, hu4, ht4⟩
  simp only [setDst]
  have gB := g3.trans g4
  have wB := gB.wf w2
  have hu5 := g4.us hu3
  have hs4 := gB.ps hs2
  have hl4 := gB.us hl2
  have ldB : ∀ h', Grow h4 h' → h'.load b2 0 2 = some [s, .int .i64 (xs.length : Nat)] := fun h' g => ld _ (gB.trans g)
  have lo5 := hu5.lenI
  have lo6 := hu4.lenI
  obtain ⟨o, ho⟩ : ∃ o, ps.map (·.1) = o := ⟨_, rfl⟩
  obtain ⟨n, hn⟩ : ∃ n, o.length = n := ⟨_, rfl⟩
  have hnp : ps.length = n := by rw [← hn, ← ho]; simp
  have hlp := Hid.mk (show leastP ps = o.getD 0 0 by rw [← ho]; cases ps <;> rfl)
  have hol := Hid.mk hp.held
  rw [ho] at hu4 hu5 hol lo5 lo6
  rw [hn] at lo5 lo6
  rw [hnp] at ht4
  have gg := Grow.refl h4
  have ldg := ldB _ gg
  have hG := Hid.mk (g2.trans gB)
  replace ho := Hid.mk ho
  have hn6 : n ≤ 100000 := by omega
  replace hnp := Hid.mk hnp
  clear hu3 g3 g4 ld3 ld gB w2 hs2 hl2 g2
  have d2 : ((xs.length : Int) == (xs.length : Int)) = true := by simp
  have d3 : ((n : Int) == (n : Int)) = true := by simp
  have d7 : (leastP ps == leastP ps) = true := by simp
  have last : ∀ (fr : List Val) (h5 : Heap) (R : Ex → List Val → Heap → Prop), fr.length = 59 → fr.getD 1 .undef = l → fr.getD 2 .undef = .ptr b2 0 → fr.getD 5 .undef = v5 → fr.getD 6 .undef = v6 → fr.getD 7 .undef = .int .u64 (leastP ps) → Grow h4 h5 → True := fun _ _ _ _ _ _ _ _ _ _ => trivial
  clear last
  by_cases hpos : 0 < n
  · have d1 : decide ((n : Int) > 0) = true := decide_eq_true (by omega)
    obtain ⟨bx, ox, hex, lex⟩ := us_load hu5 (i := 0) (by omega) (Keep.refl _)
    have hex0 : eltI 1 v5 (.int .i64 0) = some (.ptr bx ox) := hex
    have x0 := lex _ (Keep.refl _)
    have hl0 : o[0] = leastP ps := by rw [hlp.out]; simp [List.getD_eq_getElem?_getD, show 0 < o.length by omega]
    rw [hl0] at x0
    clear hex lex hl0
    repeat' (first | refine WE.assoc ?_ | refine WE.seqR ?_ | refine WO.nil ?_ | (refine WO.lenOfE ?_; simp only [setDst, V.ev, Nat.reduceLT, getD_eq, List.length_set, *]; refine ⟨_, rfl, ?_⟩) | (refine WO.iaddrE ?_; simp only [setDst, V.ev, Nat.reduceLT, getD_eq, List.length_set, *]; refine ⟨_, rfl, ?_⟩) | (refine WO.op1s ?_; simp only [opK, wanted, stepK, step, setDst, pureV, arith, intBin, evs, eqVal, eqAt, eqv, Val.isAgg, Val.cells, true_and, and_self, Bool.and_true, List.getElem?_cons_zero, V.ev, Nat.reduceEqDiff, Nat.reduceLT, Bool.false_eq_true, beq_self_eq_true, getD_ne, getD_eq, List.length_set, if_true, if_false, Bool.not_true, *]; with_reducible show WO _ _ _ _ _) | (refine WO.callG (f := 19) (g := none) wB gg _ rfl (fun h1 w1 k1 => by (simp only [evs, V.ev, Nat.reduceLT, getD_eq, List.length_set, *]); exact  total_ok w1) ?_; clear gg; (rintro _ hh gg rfl; simp only [setDst])) | (refine WO.callG (f := 24) (g := none) wB gg _ rfl (fun h1 w1 k1 => by (simp only [evs, V.ev, Nat.reduceLT, getD_eq, List.length_set, *]); exact  least_ok w1 (k1.ps hs4)) ?_; clear gg; (rintro _ hh gg rfl; simp only [setDst])) | (refine WE.seqCond (t := true) ?hc (fun _ => ?_) (fun hh => Bool.noConfusion hh); case hc => simp only [V.ev, Nat.reduceLT, getD_eq, List.length_set, *]) | (refine WO.known ?hc ?_; case hc => (simp only [wanted, Bool.false_beq, Nat.reduceEqDiff, Nat.reduceLT, getD_ne, getD_eq, List.length_set, Bool.not_false, *])))
    (refine WO.op1 ?_; simp only [opK, wanted, setDst, *])
    refine stepK_cap (by (simp only [V.ev, Nat.reduceLT, getD_eq, List.length_set, *]; try rfl)) ht4 ?_
    repeat' (first | refine WE.assoc ?_ | refine WE.seqR ?_ | refine WO.nil ?_ | (refine WO.lenOfE ?_; simp only [setDst, V.ev, Nat.reduceLT, getD_eq, List.length_set, *]; refine ⟨_, rfl, ?_⟩) | (refine WO.op1s ?_; simp only [opK, wanted, stepK, step, setDst, eqVal, eqAt, eqv, Val.isAgg, Val.cells, true_and, and_self, Bool.and_true, List.getElem?_cons_zero, V.ev, Nat.reduceEqDiff, Nat.reduceLT, beq_self_eq_true, getD_ne, getD_eq, List.length_set, if_true, Bool.not_true, *]; with_reducible show WO _ _ _ _ _) | refine WE.seqSkip ?_ | (refine WE.seqCond (t := false) ?hc (fun hh => Bool.noConfusion hh) (fun _ => ?_); case hc => simp only [V.ev, Nat.reduceLT, getD_eq, List.length_set, *]) | (refine WO.known ?hc ?_; case hc => (simp only [wanted, Bool.false_beq, Nat.reduceEqDiff, Nat.reduceLT, getD_ne, getD_eq, List.length_set, Bool.not_false, *])) | refine WE.seqBlock ?_)
    refine WE.loop (WhI h4 b2 l v5 v6 n) ?_ n _ _ ⟨gg, 0, ⟨by omega⟩, by simp only [List.length_set, hl], by (simp only [Nat.reduceEqDiff, getD_ne, *]; try rfl), by (simp only [Nat.reduceEqDiff, Nat.reduceLT, getD_ne, getD_eq, *]; try rfl), by (simp only [Nat.reduceEqDiff, Nat.reduceLT, getD_ne, getD_eq, List.length_set, *]; try rfl), by (simp only [Nat.reduceEqDiff, Nat.reduceLT, getD_ne, getD_eq, List.length_set, *]; try rfl), by (simp only [Nat.reduceLT, Int.cast_ofNat_Int, getD_eq, List.length_set, *]; try rfl)⟩
    clear f0 f1 hl gg
    rintro k fr h5 ⟨gg, i, hk, hl, f1, f2, f5, f6, f8⟩
    have ldg := ldB _ gg
    have w5 := gg.wf wB
    by_cases hi : i < n
    · have hd : decide ((i : Int) < (n : Int)) = true := decide_eq_true (by omega)
      obtain ⟨by_, oy, hey, ley⟩ := us_load hu5 (i := i) (by omega) gg.kp
      have y0 := ley _ (Keep.refl _)
      have hmem := (hol.out.2 o[i]).1 (List.getElem_mem _)
      have wn : IntKind.i64.wrap ((i : Int) + 1) = ((i + 1 : Nat) : Int) := wrap_add (b := 1) (by omega)
      have hct := hp.ct o[i]
      have dn : ∀ z : Int, ((cnt xs z : Int) == (cnt xs z : Int)) = true := fun z => by simp
      have hi' := Hid.mk hi
      generalize o[i] = y at *
      clear hi
      repeat' (first | refine WE.assoc ?_ | refine WE.seqR ?_ | refine WO.nil ?_ | refine WE.seqD ?_ | (refine WO.lenOfE ?_; simp only [setDst, V.ev, Nat.reduceLT, getD_eq, List.length_set, *]; refine ⟨_, rfl, ?_⟩) | (refine WO.op1s ?_; simp only [opK, wanted, stepK, step, setDst, pureV, arith, intBin, true_and, V.ev, Nat.reduceEqDiff, Nat.reduceLT, getD_ne, getD_eq, List.length_set, if_true, *]; with_reducible show WO _ _ _ _ _) | (refine WD.iaddrE ?_; simp only [setDst, List.nil_append, List.cons_append, V.ev, Nat.reduceEqDiff, Nat.reduceLT, getD_ne, getD_eq, List.length_set, *]; refine ⟨_, rfl, ?_⟩) | (refine WD.op2s ?_; simp only [opV, VOp.kind, hiddenOf, unveil_veil, veil_next, below_nil, below_cons, or_false, or_self, wanted, stepK, step, setDst, evs, List.nil_append, List.cons_append, true_and, List.getD_cons_zero, V.ev, Nat.reduceEqDiff, Nat.reduceLT, Nat.reduceLeDiff, Bool.false_eq_true, getD_ne, getD_eq, List.length_set, if_true, if_false, reduceCtorEq, *]; with_reducible show WD _ _ _ _ _ _) | refine WE.seqSkip ?_ | (refine WE.seqCond (t := true) ?hc (fun _ => ?_) (fun hh => Bool.noConfusion hh); case hc => simp only [V.ev, Nat.reduceLT, getD_eq, List.length_set, *]) | refine WE.seqBlock ?_)
      refine WD.callG (h0 := h5) w5 (Grow.refl _) _ trivial (fun h6 w6 k6 => by (simp only [evs, V.ev, Nat.reduceEqDiff, Nat.reduceLT, getD_ne, getD_eq, List.length_set, *]); exact pcount_ok w6 (k6.ps (gg.ps hs4)) hp.asc hn4) ?_
      rintro _ h6 g6 n6 rfl
      simp only [setDst, List.nil_append, List.cons_append]
      have late : Late h5 h6 [(h5.next, h5.next), (h5.next, h5.next), (h5.next, h6.next)] := ⟨.inl (Nat.le_refl _), .inl (Nat.le_refl _), .inr ⟨Nat.le_refl _, Nat.le_refl _⟩, trivial⟩
      have y6 := ley _ (veil_keep w5 g6 late)
      repeat' (first | (refine WD.iaddrE ?_; simp only [setDst, List.nil_append, List.cons_append, V.ev, Nat.reduceEqDiff, Nat.reduceLT, getD_ne, getD_eq, List.length_set, *]; refine ⟨_, rfl, ?_⟩) | (refine WD.op2s ?_; simp only [opV, VOp.kind, hiddenOf, unveil_veil, veil_next, or_true, or_false, or_self, wanted, stepK, step, setDst, evs, List.nil_append, List.cons_append, true_and, List.getD_cons_zero, List.getD_cons_succ, V.ev, Nat.reduceEqDiff, Nat.reduceLT, Nat.reduceLeDiff, Bool.false_eq_true, getD_ne, getD_eq, List.length_set, if_true, if_false, reduceCtorEq, *]; with_reducible show WD _ _ _ _ _ _))
      have w6 := g6.wf w5
      refine WD.callG (h0 := h6) w6 (Grow.refl _) _ trivial (fun h7 w7 k7 => by (simp only [evs, V.ev, Nat.reduceEqDiff, Nat.reduceLT, getD_ne, getD_eq, List.length_set, *]); exact count_okG (k7.us (g6.us (gg.us hl4))) hx) ?_
      rintro _ h7 g7 n7 rfl
      simp only [setDst, List.nil_append, List.cons_append]
      have gZ := (gg.trans g6).trans g7
      have dnn := dn y
      clear y0 y6 ley late ldg dn hct
      repeat' (first | refine WO.nil ?_ | refine WD.nil2 ?_ | (refine WO.op1s ?_; simp only [opK, wanted, stepK, step, setDst, pureV, arith, intBin, true_and, V.ev, Nat.reduceEqDiff, Nat.reduceLT, getD_ne, getD_eq, List.length_set, if_true, *]; with_reducible show WO _ _ _ _ _) | (refine WD.op2s ?_; simp only [opV, VOp.kind, hiddenOf, unveil_veil, veil_next, or_self, wanted, stepK, step, setDst, eqVal, eqAt, eqv, Val.isAgg, Val.cells, List.nil_append, List.cons_append, true_and, and_self, Bool.and_true, List.getElem?_cons_zero, V.ev, Nat.reduceEqDiff, Nat.reduceLT, Nat.reduceLeDiff, beq_self_eq_true, getD_ne, getD_eq, List.length_set, if_true, reduceCtorEq, Bool.not_true, *]; with_reducible show WD _ _ _ _ _ _) | refine WE.skip ?_ | (refine WE.cond2 (t := false) ?hc (fun hh => Bool.noConfusion hh) (fun _ => ?_); case hc => simp only [V.ev, Nat.reduceLT, getD_eq, List.length_set, *]) | refine WE.region ?_)
      exact ⟨k - 1, by have := hk.out; have := hi'.out; omega, gZ, i + 1, ⟨by have := hk.out; have := hi'.out; omega⟩, by simp only [List.length_set, hl], by (simp only [Nat.reduceEqDiff, getD_ne, *]; try rfl), by (simp only [Nat.reduceEqDiff, getD_ne, *]; try rfl), by (simp only [Nat.reduceEqDiff, getD_ne, *]; try rfl), by (simp only [Nat.reduceEqDiff, getD_ne, *]; try rfl), by (simp only [Nat.reduceLT, getD_eq, List.length_set, *]; try rfl)⟩
    · have hd : decide ((i : Int) < (n : Int)) = false := decide_eq_false (by omega)
      repeat' (first | refine WE.assoc ?_ | refine WE.seqR ?_ | refine WO.nil ?_ | (refine WO.lenOfE ?_; simp only [setDst, V.ev, Nat.reduceLT, getD_eq, List.length_set, *]; refine ⟨_, rfl, ?_⟩) | (refine WO.op1s ?_; simp only [opK, wanted, stepK, step, setDst, pureV, arith, intBin, evs, true_and, V.ev, Nat.reduceEqDiff, Nat.reduceLT, getD_ne, getD_eq, List.length_set, if_true, *]; with_reducible show WO _ _ _ _ _) | refine WE.seqExit ?_ | (refine WE.seqCond (t := false) ?hc (fun hh => Bool.noConfusion hh) (fun _ => ?_); case hc => simp only [V.ev, Nat.reduceLT, getD_eq, List.length_set, *]))
      refine WO.callG (h0 := h5) w5 (Grow.refl _) _ rfl (fun h6 w6 k6 => by (simp only [evs, V.ev, Nat.reduceEqDiff, Nat.reduceLT, getD_ne, getD_eq, List.length_set, *]); exact same_okG (k6.us (gg.us hu4)) (k6.us (gg.us hu5)) (by omega)) ?_
      rintro _ h6 g6 rfl
      simp only [setDst]
      repeat' (first | refine WO.nil ?_ | (refine WO.op1s ?_; simp only [opK, wanted, stepK, step, setDst, true_and, V.ev, Nat.reduceLT, getD_eq, List.length_set, if_true, *]; with_reducible show WO _ _ _ _ _) | refine WE.ret ?_)
      ((try dsimp only); refine Exists.intro _ ⟨(by (simp only [readResults, Nat.reduceLT, getD_eq, List.length_set, *]; try rfl)), ?_⟩)
      exact ⟨hG.out.trans (gg.trans g6), rfl⟩
  · have d1 : decide ((n : Int) > 0) = false := decide_eq_false (by omega)
    have hl0 : (0 : Int) = leastP ps := by rw [hlp.out]; simp [List.getD_eq_getElem?_getD, show o.length = 0 by omega]
    have dz : (leastP ps == 0) = true := by rw [← hl0]; rfl
    replace hl0 := Hid.mk hl0
    repeat' (first | refine WE.assoc ?_ | refine WE.seqR ?_ | refine WO.nil ?_ | (refine WO.lenOfE ?_; simp only [setDst, V.ev, Nat.reduceLT, getD_eq, List.length_set, *]; refine ⟨_, rfl, ?_⟩) | (refine WO.op1s ?_; simp only [opK, wanted, stepK, step, setDst, pureV, arith, intBin, evs, eqVal, eqAt, eqv, Val.isAgg, Val.cells, true_and, and_self, Bool.and_true, List.getElem?_cons_zero, V.ev, Nat.reduceEqDiff, Nat.reduceLT, beq_self_eq_true, getD_ne, getD_eq, List.length_set, if_true, Bool.not_true, *]; with_reducible show WO _ _ _ _ _) | (refine WO.callG (f := 19) (g := none) wB gg _ rfl (fun h1 w1 k1 => by (simp only [evs, V.ev, Nat.reduceLT, getD_eq, List.length_set, *]); exact  total_ok w1) ?_; clear gg; (rintro _ hh gg rfl; simp only [setDst])) | (refine WO.callG (f := 24) (g := none) wB gg _ rfl (fun h1 w1 k1 => by (simp only [evs, V.ev, Nat.reduceLT, getD_eq, List.length_set, *]); exact  least_ok w1 (k1.ps hs4)) ?_; clear gg; (rintro _ hh gg rfl; simp only [setDst])) | refine WE.seqSkip ?_ | (refine WE.seqCond (t := false) ?hc (fun hh => Bool.noConfusion hh) (fun _ => ?_); case hc => simp only [V.ev, Nat.reduceLT, getD_eq, List.length_set, *]) | (refine WO.known ?hc ?_; case hc => (simp only [wanted, Bool.false_beq, Nat.reduceEqDiff, Nat.reduceLT, getD_ne, getD_eq, List.length_set, Bool.not_false, *])))
    (refine WO.op1 ?_; simp only [opK, wanted, setDst, *])
    refine stepK_cap (by (simp only [V.ev, Nat.reduceLT, getD_eq, List.length_set, *]; try rfl)) ht4 ?_
    repeat' (first | refine WE.assoc ?_ | refine WE.seqR ?_ | refine WO.nil ?_ | (refine WO.lenOfE ?_; simp only [setDst, V.ev, Nat.reduceLT, getD_eq, List.length_set, *]; refine ⟨_, rfl, ?_⟩) | (refine WO.op1s ?_; simp only [opK, wanted, stepK, step, setDst, eqVal, eqAt, eqv, Val.isAgg, Val.cells, true_and, and_self, Bool.and_true, List.getElem?_cons_zero, V.ev, Nat.reduceEqDiff, Nat.reduceLT, beq_self_eq_true, getD_ne, getD_eq, List.length_set, if_true, Bool.not_true, *]; with_reducible show WO _ _ _ _ _) | refine WE.seqSkip ?_ | (refine WE.seqCond (t := false) ?hc (fun hh => Bool.noConfusion hh) (fun _ => ?_); case hc => simp only [V.ev, Nat.reduceLT, getD_eq, List.length_set, *]) | (refine WO.known ?hc ?_; case hc => (simp only [wanted, Bool.false_beq, Nat.reduceEqDiff, Nat.reduceLT, getD_ne, getD_eq, List.length_set, Bool.not_false, *])) | refine WE.seqBlock ?_)
    refine WE.loop (WhI h4 b2 l v5 v6 n) ?_ n _ _ ⟨gg, 0, ⟨by omega⟩, by simp only [List.length_set, hl], by (simp only [Nat.reduceEqDiff, getD_ne, *]; try rfl), by (simp only [Nat.reduceEqDiff, Nat.reduceLT, getD_ne, getD_eq, *]; try rfl), by (simp only [Nat.reduceEqDiff, Nat.reduceLT, getD_ne, getD_eq, List.length_set, *]; try rfl), by (simp only [Nat.reduceEqDiff, Nat.reduceLT, getD_ne, getD_eq, List.length_set, *]; try rfl), by (simp only [Nat.reduceLT, Int.cast_ofNat_Int, getD_eq, List.length_set, *]; try rfl)⟩
    clear f0 f1 hl gg
    rintro k fr h5 ⟨gg, i, hk, hl, f1, f2, f5, f6, f8⟩
    have ldg := ldB _ gg
    have w5 := gg.wf wB
    by_cases hi : i < n
    · have hd : decide ((i : Int) < (n : Int)) = true := decide_eq_true (by omega)
      obtain ⟨by_, oy, hey, ley⟩ := us_load hu5 (i := i) (by omega) gg.kp
      have y0 := ley _ (Keep.refl _)
      have hmem := (hol.out.2 o[i]).1 (List.getElem_mem _)
      have wn : IntKind.i64.wrap ((i : Int) + 1) = ((i + 1 : Nat) : Int) := wrap_add (b := 1) (by omega)
      have hct := hp.ct o[i]
      have dn : ∀ z : Int, ((cnt xs z : Int) == (cnt xs z : Int)) = true := fun z => by simp
      have hi' := Hid.mk hi
      generalize o[i] = y at *
      clear hi
      repeat' (first | refine WE.assoc ?_ | refine WE.seqR ?_ | refine WO.nil ?_ | refine WE.seqD ?_ | (refine WO.lenOfE ?_; simp only [setDst, V.ev, Nat.reduceLT, getD_eq, List.length_set, *]; refine ⟨_, rfl, ?_⟩) | (refine WO.op1s ?_; simp only [opK, wanted, stepK, step, setDst, pureV, arith, intBin, true_and, V.ev, Nat.reduceEqDiff, Nat.reduceLT, getD_ne, getD_eq, List.length_set, if_true, *]; with_reducible show WO _ _ _ _ _) | (refine WD.iaddrE ?_; simp only [setDst, List.nil_append, List.cons_append, V.ev, Nat.reduceEqDiff, Nat.reduceLT, getD_ne, getD_eq, List.length_set, *]; refine ⟨_, rfl, ?_⟩) | (refine WD.op2s ?_; simp only [opV, VOp.kind, hiddenOf, unveil_veil, veil_next, below_nil, below_cons, or_false, or_self, wanted, stepK, step, setDst, evs, List.nil_append, List.cons_append, true_and, List.getD_cons_zero, V.ev, Nat.reduceEqDiff, Nat.reduceLT, Nat.reduceLeDiff, Bool.false_eq_true, getD_ne, getD_eq, List.length_set, if_true, if_false, reduceCtorEq, *]; with_reducible show WD _ _ _ _ _ _) | refine WE.seqSkip ?_ | (refine WE.seqCond (t := true) ?hc (fun _ => ?_) (fun hh => Bool.noConfusion hh); case hc => simp only [V.ev, Nat.reduceLT, getD_eq, List.length_set, *]) | refine WE.seqBlock ?_)
      refine WD.callG (h0 := h5) w5 (Grow.refl _) _ trivial (fun h6 w6 k6 => by (simp only [evs, V.ev, Nat.reduceEqDiff, Nat.reduceLT, getD_ne, getD_eq, List.length_set, *]); exact pcount_ok w6 (k6.ps (gg.ps hs4)) hp.asc hn4) ?_
      rintro _ h6 g6 n6 rfl
      simp only [setDst, List.nil_append, List.cons_append]
      have late : Late h5 h6 [(h5.next, h5.next), (h5.next, h5.next), (h5.next, h6.next)] := ⟨.inl (Nat.le_refl _), .inl (Nat.le_refl _), .inr ⟨Nat.le_refl _, Nat.le_refl _⟩, trivial⟩
      have y6 := ley _ (veil_keep w5 g6 late)
      repeat' (first | (refine WD.iaddrE ?_; simp only [setDst, List.nil_append, List.cons_append, V.ev, Nat.reduceEqDiff, Nat.reduceLT, getD_ne, getD_eq, List.length_set, *]; refine ⟨_, rfl, ?_⟩) | (refine WD.op2s ?_; simp only [opV, VOp.kind, hiddenOf, unveil_veil, veil_next, or_true, or_false, or_self, wanted, stepK, step, setDst, evs, List.nil_append, List.cons_append, true_and, List.getD_cons_zero, List.getD_cons_succ, V.ev, Nat.reduceEqDiff, Nat.reduceLT, Nat.reduceLeDiff, Bool.false_eq_true, getD_ne, getD_eq, List.length_set, if_true, if_false, reduceCtorEq, *]; with_reducible show WD _ _ _ _ _ _))
      have w6 := g6.wf w5
      refine WD.callG (h0 := h6) w6 (Grow.refl _) _ trivial (fun h7 w7 k7 => by (simp only [evs, V.ev, Nat.reduceEqDiff, Nat.reduceLT, getD_ne, getD_eq, List.length_set, *]); exact count_okG (k7.us (g6.us (gg.us hl4))) hx) ?_
      rintro _ h7 g7 n7 rfl
      simp only [setDst, List.nil_append, List.cons_append]
      have gZ := (gg.trans g6).trans g7
      have dnn := dn y
      clear y0 y6 ley late ldg dn hct
      repeat' (first | refine WO.nil ?_ | refine WD.nil2 ?_ | (refine WO.op1s ?_; simp only [opK, wanted, stepK, step, setDst, pureV, arith, intBin, true_and, V.ev, Nat.reduceEqDiff, Nat.reduceLT, getD_ne, getD_eq, List.length_set, if_true, *]; with_reducible show WO _ _ _ _ _) | (refine WD.op2s ?_; simp only [opV, VOp.kind, hiddenOf, unveil_veil, veil_next, or_self, wanted, stepK, step, setDst, eqVal, eqAt, eqv, Val.isAgg, Val.cells, List.nil_append, List.cons_append, true_and, and_self, Bool.and_true, List.getElem?_cons_zero, V.ev, Nat.reduceEqDiff, Nat.reduceLT, Nat.reduceLeDiff, beq_self_eq_true, getD_ne, getD_eq, List.length_set, if_true, reduceCtorEq, Bool.not_true, *]; with_reducible show WD _ _ _ _ _ _) | refine WE.skip ?_ | (refine WE.cond2 (t := false) ?hc (fun hh => Bool.noConfusion hh) (fun _ => ?_); case hc => simp only [V.ev, Nat.reduceLT, getD_eq, List.length_set, *]) | refine WE.region ?_)
      exact ⟨k - 1, by have := hk.out; have := hi'.out; omega, gZ, i + 1, ⟨by have := hk.out; have := hi'.out; omega⟩, by simp only [List.length_set, hl], by (simp only [Nat.reduceEqDiff, getD_ne, *]; try rfl), by (simp only [Nat.reduceEqDiff, getD_ne, *]; try rfl), by (simp only [Nat.reduceEqDiff, getD_ne, *]; try rfl), by (simp only [Nat.reduceEqDiff, getD_ne, *]; try rfl), by (simp only [Nat.reduceLT, getD_eq, List.length_set, *]; try rfl)⟩
    · have hd : decide ((i : Int) < (n : Int)) = false := decide_eq_false (by omega)
      repeat' (first | refine WE.assoc ?_ | refine WE.seqR ?_ | refine WO.nil ?_ | (refine WO.lenOfE ?_; simp only [setDst, V.ev, Nat.reduceLT, getD_eq, List.length_set, *]; refine ⟨_, rfl, ?_⟩) | (refine WO.op1s ?_; simp only [opK, wanted, stepK, step, setDst, pureV, arith, intBin, evs, true_and, V.ev, Nat.reduceEqDiff, Nat.reduceLT, getD_ne, getD_eq, List.length_set, if_true, *]; with_reducible show WO _ _ _ _ _) | refine WE.seqExit ?_ | (refine WE.seqCond (t := false) ?hc (fun hh => Bool.noConfusion hh) (fun _ => ?_); case hc => simp only [V.ev, Nat.reduceLT, getD_eq, List.length_set, *]))
      refine WO.callG (h0 := h5) w5 (Grow.refl _) _ rfl (fun h6 w6 k6 => by (simp only [evs, V.ev, Nat.reduceEqDiff, Nat.reduceLT, getD_ne, getD_eq, List.length_set, *]); exact same_okG (k6.us (gg.us hu4)) (k6.us (gg.us hu5)) (by omega)) ?_
      rintro _ h6 g6 rfl
      simp only [setDst]
      repeat' (first | refine WO.nil ?_ | (refine WO.op1s ?_; simp only [opK, wanted, stepK, step, setDst, true_and, V.ev, Nat.reduceLT, getD_eq, List.length_set, if_true, *]; with_reducible show WO _ _ _ _ _) | refine WE.ret ?_)
      ((try dsimp only); refine Exists.intro _ ⟨(by (simp only [readResults, Nat.reduceLT, getD_eq, List.length_set, *]; try rfl)), ?_⟩)
      exact ⟨hG.out.trans (gg.trans g6), rfl⟩

end Go.V
end

section
set_option linter.unusedVariables false
set_option linter.unusedSimpArgs false
set_option linter.unusedSectionVars false
namespace Go.V
open Go.Proofs

abbrev OOk := { p : Int × Int // (0 ≤ p.1 ∧ p.1 < 256) ∧ (0 ≤ p.2 ∧ p.2 < 256) }

theorem os_of : ∀ (n : Nat) (l : List Value), Ints (List.replicate n [.u8, .u8]).flatten l → ∃ es : List OOk, es.length = n ∧ ∀ ρ, VRels ρ (es.flatMap fun t => [Val.int .u8 t.1.1, Val.int .u8 t.1.2]) l
  | 0, [], _ => ⟨[], rfl, fun _ => .nil⟩
  | 0, _ :: _, h => h.elim
  | n + 1, l, h => by
    rw [List.replicate_succ, List.flatten_cons] at h
    match l, h with
    | _ :: _ :: l, ⟨⟨a, h1, w1⟩, ⟨b, h2, w2⟩, h4⟩ =>
      obtain ⟨es, e1, e2⟩ := os_of n l h4
      refine ⟨⟨(a, b), wf_u8 w1, wf_u8 w2⟩ :: es, by simp [e1], fun ρ => ?_⟩
      rw [List.flatMap_cons]
      subst h1 h2
      exact .cons (by simp only [VRel]) (.cons (by simp only [VRel]) (e2 ρ))
    | [], h => exact h.elim
    | [_], h => exact h.2.elim

end Go.V
end

section
set_option linter.unusedVariables false
set_option linter.unusedSimpArgs false
set_option linter.unusedSectionVars false
-- DRAWS
-- BUILDS
-- NEW
set_option maxHeartbeats 4000000
namespace Go.V
attribute [local irreducible] stepK opK opV

theorem lives_okG {h : Heap} : WC E09 8 [] h fun v h' => Grow h h' ∧ v = .bool true :=
  WC.prim (p := wholeP (.bool true)) rfl (by rfl) ⟨Grow.refl _, rfl⟩

/-- Writing a block of pins does not touch a list. -/
theorem sl_wrote {h3 h4 : Heap} {s : Val} {sz n : Nat} {cs : List Val} (hs : Sl h3 s sz n cs) {b4 : Nat} {dd : List Val} {x : Val} {t : Int} (hg : h3.get b4 = some (.cells [x, .int .i64 t])) (hx : isInt x = false) (hc : 0 < n * sz → ∃ (k : IntKind) (z : Int) (r : List Val), cs = .int k z :: r ∧ k ≠ .i64) (k : Wrote h3 b4 dd h4) : Sl h4 s sz n cs := by
  refine ⟨hs.1, ?_⟩
  rcases hs.2 with q | ⟨b, o, cap, ls, e1, e2, e3, e4⟩
  · exact .inl q
  · refine .inr ⟨b, o, cap, ls, e1, e2, e3, ?_⟩
    rcases e4 with e4 | e4
    · exact .inl e4
    · by_cases hb : b = b4
      · subst hb
        obtain ⟨c, h1, h2, h3⟩ := Heap.load_some e4
        rw [hg] at h1
        cases h1
        rcases Nat.eq_zero_or_pos (n * sz) with q | q
        · exact .inl q
        · obtain ⟨k, z, r, rfl, hk⟩ := hc q
          simp only [List.length_cons, List.length_nil] at h2
          have ho : o = 0 ∨ o = 1 := by omega
          obtain ⟨m, hm⟩ : ∃ m, n * sz = m + 1 := ⟨n * sz - 1, by omega⟩
          rw [hm] at h3
          rcases ho with rfl | rfl
          · simp at h3
            obtain ⟨rfl, _⟩ := h3
            cases hx
          · simp at h3
            exact absurd h3.1.1 hk
      · right
        unfold Heap.load at e4 ⊢
        rw [k.else_ b hb]
        exact e4

theorem us_wrote {h3 h4 : Heap} {s : Val} {xs : List Int} (hs : Us h3 s xs) {b4 : Nat} {dd : List Val} {x : Val} {t : Int} (hg : h3.get b4 = some (.cells [x, .int .i64 t])) (hx : isInt x = false) (k : Wrote h3 b4 dd h4) : Us h4 s xs :=
  sl_wrote hs hg hx (fun h => by
    cases xs with
    | nil => simp at h
    | cons z zs => exact ⟨_, _, _, rfl, by decide⟩) k

theorem ps_wrote2 {h3 h4 : Heap} {s : Val} {ps : PinL} (hs : Ps h3 s ps) {b4 : Nat} {dd : List Val} {x : Val} {t : Int} (hg : h3.get b4 = some (.cells [x, .int .i64 t])) (hx : isInt x = false) (k : Wrote h3 b4 dd h4) : Ps h4 s ps :=
  sl_wrote hs hg hx (fun h => by
    cases ps with
    | nil => simp at h
    | cons z zs => exact ⟨.u64, z.1, _, rfl, by decide⟩) k

theorem ps_int {h : Heap} {s : Val} {ps : PinL} (hs : Ps h s ps) : isInt s = false := by
  rcases hs.2 with ⟨rfl, _⟩ | ⟨_, _, _, _, rfl, _⟩ <;> rfl

abbrev ocell (p : Int × Int) : List Val := [.int .u8 p.1, .int .u8 p.2]

def Oc (h : Heap) (s : Val) (os : List (Int × Int)) : Prop := Sl h s 2 os.length (os.flatMap ocell) ∧ ∀ p ∈ os, (0 ≤ p.1 ∧ p.1 < 256) ∧ (0 ≤ p.2 ∧ p.2 < 256)

theorem os_load {h h1 : Heap} {s : Val} {os : List (Int × Int)} (hs : Oc h s os) {i : Nat} (hi : i < os.length) (g : Keep h h1) : ∃ b o, eltI 2 s (.int .i64 (i : Int)) = some (.ptr b o) ∧ ∀ h2, Keep h1 h2 → h2.load b o 2 = some [.int .u8 os[i].1, .int .u8 os[i].2] := by
  obtain ⟨bx, o, he, le⟩ := Sl.elt hs.1 (k := .i64) hi (by omega)
  have hfd := flat_drop (f := ocell) (sz := 2) (fun _ => rfl) os i hi
  refine ⟨bx, o, he, fun h2 g2 => ?_⟩
  have := le h2 (g.trans g2) 0 2 (by omega)
  rw [Nat.add_zero, Nat.add_zero, hfd] at this
  simpa [ocell] using this

theorem refR_len (a b : Int) (xs : List Int) (m : Nat) : (refR a b xs m).1.length ≤ xs.length + 1 := by
  unfold refR
  split
  · unfold unpinL
    split
    · have := List.length_erase_le (a := rv b) (l := xs); simp only; omega
    · simp
  · unfold pinL
    repeat' split
    all_goals simp

/-- Pins in a block, and their list. -/
def PinSt (h : Heap) (b : Nat) (u : Val) (ps : PinL) (xs : List Int) : Prop := ∃ s, h.get b = some (.cells [s, .int .i64 (xs.length : Nat)]) ∧ Ps h s ps ∧ Us h u xs ∧ Pn ps xs

end Go.V
end

section
set_option linter.unusedVariables false
set_option linter.unusedSimpArgs false
set_option linter.unusedSectionVars false
-- DRAWS
-- BUILDS
-- NEW
set_option maxHeartbeats 4000000
namespace Go.V
attribute [local irreducible] stepK opK opV

theorem asc_len : ∀ {o xs : List Int}, o.Pairwise (· < ·) → (∀ x ∈ o, x ∈ xs) → o.length ≤ xs.length
  | [], _, _, _ => Nat.zero_le _
  | x :: o, xs, h, hs => by
    obtain ⟨h1, h2⟩ := List.pairwise_cons.1 h
    have hx := hs x (by simp)
    have := asc_len (xs := xs.erase x) h2 fun y hy => (List.mem_erase_of_ne (by have := h1 y hy; omega)).2 (hs y (List.mem_cons_of_mem _ hy))
    rw [List.length_erase_of_mem hx] at this
    have := List.length_pos_of_mem hx
    simp only [List.length_cons]; omega

theorem Pn.short {ps : PinL} {xs : List Int} (h : Pn ps xs) : ps.length ≤ xs.length := by
  have := asc_len h.held.1 fun x hx => ((h.held.2 x).1 hx).1
  simpa using this

theorem revG {h : Heap} (w : Wf h) {a b : Int} (hr : 0 ≤ b ∧ b < 256) : WC E09 17 [.agg [.int .u8 a, .int .u8 b]] h fun v h' => Grow h h' ∧ v = .int .u64 (rv b) := rev_ok w hr

theorem whole0_ok {h : Heap} (w : Wf h) {s : Val} (hs : Ps h s []) : WC E09 15 [.agg [s, .int .i64 0], .nils] h fun v h' => Grow h h' ∧ v = .int .i64 1 :=
  whole_ok (ps := []) (xs := []) w hs us_nil Pn.nil (by simp)

end Go.V
end
