/-
  Symbolic steps of drawn regions.
-/
import Derived.Test.YtkmaaddlimgdoaaWpA
set_option linter.unusedVariables false
set_option linter.unusedSimpArgs false
set_option linter.unusedSectionVars false
namespace Go.V

def opD (E : Env) (rs : List (Nat × Nat)) (fr : List Val) (h : Heap) (o : VOper) (K : List (Nat × Nat) → List Val → Heap → Prop) : Prop := match wanted fr o.guard with
  | some true => if o.op.kind ≤ 1 ∨ o.full = true then stepK E fr h o.op fun v h' => K (rs ++ [(h.next, h'.next)]) (setDst fr o.dst v) h'
    else o.op.kind = 2 ∧ stepK E fr { h with hid := hiddenOf rs o.hide ++ h.hid, floor := h.next } o.op fun v h' => K (rs ++ [(h.next, h'.next)]) (setDst fr o.dst v) { h' with hid := h.hid, floor := h.floor }
  | some false => K (rs ++ [(h.next, h.next)]) (setDst fr o.dst .undef) h
  | none => False

theorem WD.nil {E : Env} {rs : List (Nat × Nat)} {fr : List Val} {h : Heap} {R : List Val → Heap → Prop} (k : R fr h) : WD E [] rs fr h R := ⟨0, _, _, rfl, k⟩

theorem WD.op1 {E : Env} {rs : List (Nat × Nat)} {fr : List Val} {h : Heap} {o : VOper} {l : List VOper} {R : List Val → Heap → Prop} (w : opD E rs fr h o fun rs fr h => WD E l rs fr h R) : WD E (o :: l) rs fr h R := by
  unfold opD at w
  split at w
  · rename_i hg
    split at w
    · rename_i hk
      unfold stepK at w
      split at w
      · rename_i v h' hs
        obtain ⟨m, fr2, h2, e, q⟩ := w
        refine ⟨m, fr2, h2, ?_, q⟩
        rw [runDraw, hg]
        simp only
        rw [if_pos hk, step_mono (run_mono (Nat.zero_le m)) hs]
        exact e
      · exact w.elim
    · rename_i hk
      obtain ⟨hk2, w⟩ := w
      unfold stepK at w
      split at w
      · rename_i v h' hs
        obtain ⟨m, fr2, h2, e, q⟩ := w
        refine ⟨m, fr2, h2, ?_, q⟩
        rw [runDraw, hg]
        simp only
        rw [if_neg hk, if_pos hk2, step_mono (run_mono (Nat.zero_le m)) hs]
        exact e
      · exact w.elim
  · rename_i hg
    obtain ⟨m, fr2, h2, e, q⟩ := w
    refine ⟨m, fr2, h2, ?_, q⟩
    rw [runDraw, hg]
    exact e
  · exact w.elim

/-- What hides nothing. -/
theorem get_same {h : Heap} {A : List (Nat × Nat)} {F : Nat} (hA : ∀ p ∈ A, p.2 ≤ p.1) (b : Nat) : Heap.get { h with hid := A ++ h.hid, floor := F } b = h.get b := by
  have : Heap.hidden { h with hid := A ++ h.hid, floor := F } b = h.hidden b := by
    unfold Heap.hidden
    simp only [List.any_append]
    have : (A.any fun r => decide (r.1 ≤ b) && decide (b < r.2)) = false := by
      rw [List.any_eq_false]
      intro p hp
      have := hA p hp
      simp; omega
    rw [this, Bool.false_or]
  unfold Heap.get
  rw [this]

theorem load_same {h : Heap} {A : List (Nat × Nat)} {F : Nat} (hA : ∀ p ∈ A, p.2 ≤ p.1) (b o n : Nat) : Heap.load { h with hid := A ++ h.hid, floor := F } b o n = h.load b o n := by
  unfold Heap.load
  rw [get_same hA]

/-- A load in a drawn region where nothing was made. -/
theorem stepK_load_same {E : Env} {fr : List Val} {h : Heap} {A : List (Nat × Nat)} {F : Nat} (hA : ∀ p ∈ A, p.2 ≤ p.1) {x : Opd} {b o : Nat} {v : Val} (hx : V.ev fr x = .ptr b o) (hl : h.load b o 1 = some [v]) {K : Val → Heap → Prop}
    (k : K v { h with hid := A ++ h.hid, floor := F }) : stepK E fr { h with hid := A ++ h.hid, floor := F } (.load false 1 x) K := by
  unfold stepK
  simp only [step, hx, load_same hA, hl]
  exact k


end Go.V
