/-
  The functions of layer 35: Drop.
-/
import Derived.Test.YtkmaaddlimgdoaaQK
set_option linter.unusedVariables false
set_option linter.unusedSimpArgs false
set_option linter.unusedSectionVars false
-- NEW
set_option maxHeartbeats 4000000
namespace Go.V
attribute [local irreducible] stepK opK opV

theorem atFrom_range (es : List Ent) (id : Int) : ∀ (k i : Nat), atFrom es id i k = -1 ∨ ∃ j : Nat, atFrom es id i k = (j : Int) ∧ j < es.length ∧ ∃ h : j < es.length, es[j].id = id
  | 0, _ => .inl rfl
  | k + 1, i => by
    rw [atFrom]
    split
    · rename_i e he
      by_cases q : e.id = id
      · rw [if_pos q]
        obtain ⟨h, h1⟩ := List.getElem?_eq_some_iff.1 he
        exact .inr ⟨i, rfl, h, h, by rw [h1]; exact q⟩
      · rw [if_neg q]
        exact atFrom_range es id k (i + 1)
    · exact .inl rfl

theorem atI_range (es : List Ent) (id : Int) : atI es id = -1 ∨ ∃ j : Nat, atI es id = (j : Int) ∧ j < es.length ∧ ∃ h : j < es.length, es[j].id = id := atFrom_range es id _ _

theorem chk_all : ∀ (es : List Ent) (k i : Nat), chkFrom es i k = 0 → ∀ j, i ≤ j → j < i + k → chkAt es j = 0
  | _, 0, _, _, j, h1, h2 => by omega
  | es, k + 1, i, h, j, h1, h2 => by
    rw [chkFrom] at h
    split at h
    · rename_i h0
      rcases Nat.eq_or_lt_of_le h1 with rfl | h1
      · exact h0
      · exact chk_all es k (i + 1) h j h1 (by omega)
    · rename_i h0; exact absurd h h0

theorem chk_zero {es : List Ent} (h : chk es = 0) : es.length ≤ 64 ∧ ∀ j (hj : j < es.length), validB es[j].id es[j].cl es[j].si = true ∧ ∀ h0 : 0 < j, es[j - 1].id < es[j].id ∧ es[j - 1].si ≤ es[j].si := by
  unfold chk at h
  split at h
  · omega
  · rename_i hl
    refine ⟨by omega, fun j hj => ?_⟩
    have h1 := chk_all es _ _ h j (by omega) (by omega)
    rw [chkAt_eq hj] at h1
    split at h1
    · omega
    · rename_i hv
      refine ⟨by simpa using hv, fun h0 => ?_⟩
      rw [dif_pos h0] at h1
      split at h1
      · omega
      · rename_i hb
        simp only [badB, Bool.not_eq_true, Bool.or_eq_false_iff, decide_eq_false_iff_not] at hb
        omega

theorem chk_mono {es : List Ent} (h : chk es = 0) : ∀ (j i : Nat) (hi : i < j) (hj : j < es.length), es[i].id < es[j].id
  | 0, i, hi, _ => by omega
  | j + 1, i, hi, hj => by
    have h1 := (chk_zero h).2 (j + 1) hj |>.2 (by omega)
    simp only [Nat.add_sub_cancel] at h1
    rcases Nat.eq_or_lt_of_le (Nat.le_of_lt_succ hi) with rfl | h2
    · exact h1.1
    · have := chk_mono h j i h2 (by omega)
      omega

theorem filter_all {es : List Ent} {id : Int} (h : ∀ e ∈ es, e.id ≠ id) : (es.filter fun e => decide (e.id ≠ id)) = es := by
  rw [List.filter_eq_self]
  intro e he
  simpa using h e he

/-- Where IDs ascend, the one entry is cut out. -/
theorem drop_cut {es : List Ent} {id : Int} {j : Nat} (h : chk es = 0) (hj : j < es.length) (e : es[j].id = id) : (es.filter fun e => decide (e.id ≠ id)) = es.take j ++ es.drop (j + 1) := by
  have h1 : es = es.take j ++ es[j] :: es.drop (j + 1) := by rw [← List.drop_eq_getElem_cons hj, List.take_append_drop]
  have h2 : ∀ x ∈ es.take j, x.id ≠ id := by
    intro x hx
    obtain ⟨i, hi, rfl⟩ := List.getElem_of_mem hx
    rw [List.length_take] at hi
    rw [List.getElem_take]
    have := chk_mono h j i (by omega) hj
    omega
  have h3 : ∀ x ∈ es.drop (j + 1), x.id ≠ id := by
    intro x hx
    obtain ⟨i, hi, rfl⟩ := List.getElem_of_mem hx
    rw [List.length_drop] at hi
    rw [List.getElem_drop]
    have := chk_mono h (j + 1 + i) j (by omega) (by omega)
    omega
  have h4 : (es.take j ++ es[j] :: es.drop (j + 1)).filter (fun e => decide (e.id ≠ id)) = es.take j ++ es.drop (j + 1) := by
    rw [List.filter_append, List.filter_cons, if_neg (by simp [e]), filter_all h2, filter_all h3]
  rw [← h1] at h4
  exact h4

theorem flat_take (es : List Ent) (i : Nat) (hi : i ≤ es.length) : (es.flatMap Ent.cells).take (i * 3) = (es.take i).flatMap Ent.cells := by
  have h1 : es = es.take i ++ es.drop i := (List.take_append_drop i es).symm
  have h2 : (es.flatMap Ent.cells) = (es.take i).flatMap Ent.cells ++ (es.drop i).flatMap Ent.cells := by rw [← List.flatMap_append, ← h1]
  rw [h2, List.take_left']
  rw [cells_len, List.length_take]; congr 1; omega

theorem flat_dropE (es : List Ent) (i : Nat) (hi : i ≤ es.length) : (es.flatMap Ent.cells).drop (i * 3) = (es.drop i).flatMap Ent.cells := by
  have h1 : es = es.take i ++ es.drop i := (List.take_append_drop i es).symm
  have h2 : (es.flatMap Ent.cells) = (es.take i).flatMap Ent.cells ++ (es.drop i).flatMap Ent.cells := by rw [← List.flatMap_append, ← h1]
  rw [h2, List.drop_left']
  rw [cells_len, List.length_take]; congr 1; omega

end Go.V
