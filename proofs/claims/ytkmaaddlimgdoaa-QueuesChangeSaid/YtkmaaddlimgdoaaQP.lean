/-
  Plain laws of layer 35: effective classes.
-/
import Derived.Test.YtkmaaddlimgdoaaQB
set_option linter.unusedVariables false
set_option linter.unusedSimpArgs false
set_option linter.unusedSectionVars false
namespace Go.V

theorem effI_eq {ro ag cl si : Int} (hcl : 0 ≤ cl ∧ cl < 8) (hag : 1 ≤ ag ∧ ag ≤ 64) (hsi : 0 ≤ si ∧ si ≤ ro ∧ ro ≤ 4611686018427387905) : effI ro ag cl si = max 0 (cl - (ro - si) / ag) := by
  have h0 : 0 ≤ (ro - si) / ag := Int.ediv_nonneg (by omega) (by omega)
  have h1 : (ro - si) / ag ≤ ro - si := Int.ediv_le_self _ (by omega)
  have hd : (ro - si).tdiv ag = (ro - si) / ag := Int.tdiv_eq_ediv_of_nonneg (by omega)
  unfold effI
  rw [wrap_i64 (n := ro - si) (by omega) (by omega), hd, wrap_i64 (n := (ro - si) / ag) (by omega) (by omega), wrap_i64 (n := cl - (ro - si) / ag) (by omega) (by omega)]
  split <;> omega

theorem refEff_eq {ag : Int} (hag : 1 ≤ ag) : ∀ (n : Nat) (d : Int), 0 ≤ d → refEff n d ag n = max 0 ((n : Int) - d / ag)
  | 0, d, hd => by
    have := Int.ediv_nonneg hd (show 0 ≤ ag by omega)
    simp only [refEff]; omega
  | n + 1, d, hd => by
    simp only [refEff]
    by_cases hg : d ≥ ag
    · rw [if_pos ⟨by omega, hg⟩]
      have e1 : ((n + 1 : Nat) : Int) - 1 = (n : Int) := by omega
      rw [e1, refEff_eq hag n (d - ag) (by omega)]
      have : (d - ag) / ag = d / ag - 1 := by
        have := Int.add_mul_ediv_right (d - ag) 1 (show ag ≠ 0 by omega)
        rw [show d - ag + 1 * ag = d by omega] at this
        omega
      rw [this]; omega
    · rw [if_neg (by omega)]
      have : d / ag = 0 := Int.ediv_eq_zero_of_lt hd (by omega)
      rw [this]; omega

theorem refEff_eq' {ag cl d : Int} (hag : 1 ≤ ag) (hcl : 0 ≤ cl) (hd : 0 ≤ d) : refEff cl d ag cl.toNat = max 0 (cl - d / ag) := by
  obtain ⟨n, rfl⟩ := Int.eq_ofNat_of_zero_le hcl
  exact refEff_eq hag n d hd

theorem ripe_iff {ag cl d : Int} (hag : 1 ≤ ag) : max 0 (cl - d / ag) = 0 ↔ cl * ag ≤ d := by
  rw [← Int.le_ediv_iff_mul_le (by omega)]
  omega

theorem eff_mono {ag d : Int} (hag : 1 ≤ ag) : d / ag ≤ (d + 1) / ag := Int.ediv_le_ediv (by omega) (by omega)

theorem validB_iff {id cl si : Int} : validB id cl si = true ↔ 0 ≤ id ∧ 0 ≤ cl ∧ cl < 8 ∧ 0 ≤ si ∧ si ≤ 4611686018427387904 := by
  simp [validB]

theorem rightB_iff {ro ag : Int} : rightB ro ag = true ↔ 1 ≤ ag ∧ ag ≤ 64 ∧ 0 ≤ ro ∧ ro ≤ 4611686018427387904 := by
  simp [rightB]

end Go.V
