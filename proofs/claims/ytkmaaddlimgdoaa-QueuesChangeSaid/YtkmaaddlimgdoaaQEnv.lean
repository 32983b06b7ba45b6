/-
  The environment of layer 35: its code is the program's; 'lives' as a whole.
-/
import Derived.Test.YtkmaaddlimgdoaaQA
import Derived.Test.YtkmaaddlimgdoaaQLives
import Derived.Test.YtkmaaddlimgdoaaQok
set_option linter.unusedVariables false
set_option linter.unusedSimpArgs false
set_option linter.unusedSectionVars false
set_option maxRecDepth 100000
namespace Go.V
open Go.Proofs

theorem envC : EnvOk Try.prog E35c := ⟨fun _ _ _ _ _ h => (by cases h), fns_ok, fun _ _ h => (by cases h)⟩
theorem extC : PrimsExt E35c := fun _ _ h => (by cases h)

theorem isTrue_elim {x : Option (Val × Heap)} (h : isTrue x = true) : ∃ h1, x = some (.bool true, h1) := by
  unfold isTrue at h
  split at h
  · rename_i h1; exact ⟨h1, rfl⟩
  · cases h

theorem lives_is : ∃ h1, run E35c 400 8 [] heap0 = some (.bool true, h1) := isTrue_elim lives_run

theorem ext35 : PrimsExt E35 := by
  intro f p h args h0 v h' e
  simp only [E35] at h
  split at h
  · cases h; exact whole_ext e
  · cases h

theorem env35 : EnvOk Try.prog E35 := by
  refine ⟨fun _ _ _ _ _ h => (by cases h), fns_ok, ?_⟩
  intro f p h
  simp only [E35] at h
  split at h
  · rename_i hf
    cases h
    subst hf
    obtain ⟨h1, e⟩ := lives_is
    exact whole_sound envC extC e
  · cases h

end Go.V
