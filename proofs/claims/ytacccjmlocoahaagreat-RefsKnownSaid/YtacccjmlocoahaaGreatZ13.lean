/-
  Parts of the proof, from: A great call.
-/
import Derived.KernelRfl
import Derived.Test.YtacccjmlocoahaaGreatZ12

set_option linter.unusedVariables false
section
set_option maxRecDepth 1000000
set_option maxHeartbeats 0
namespace Go.V
noncomputable section
theorem e38_0:isOk (f38 heapK a38_0 (chkD r38_0))=true:=by kernel_rfl
def m38:CK:=ckD (cn f38) a38_0 r38_0
theorem m38_ok:CallOk EN 38 m38:=ckD_ok (cn_ok o38) (pcD_of o38 e38_0)
end
end Go.V
end
