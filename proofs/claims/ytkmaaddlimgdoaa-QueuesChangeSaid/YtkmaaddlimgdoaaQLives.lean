/-
  The examples of layer 35's chapter hold: the abstract machine runs them.
-/
import Derived.Test.YtkmaaddlimgdoaaSound
import Derived.Test.YtkmaaddlimgdoaaQfns
set_option linter.unusedVariables false
set_option linter.unusedSimpArgs false
set_option linter.unusedSectionVars false
namespace Go.V

def E35c : Env := { fns := fns, prims := fun _ => none, meth := fun _ _ _ => none }

def isTrue : Option (Val × Heap) → Bool
  | some (.bool true, _) => true
  | _ => false

theorem lives_run : isTrue (run E35c 400 8 [] heap0) = true := by decide +kernel

end Go.V
