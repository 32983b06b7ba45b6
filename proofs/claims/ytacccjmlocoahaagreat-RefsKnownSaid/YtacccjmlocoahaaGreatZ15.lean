/-
  Parts of the proof, from: A great call.
-/
import Derived.KernelRfl
import Derived.Test.YtacccjmlocoahaaGreatZ14

set_option linter.unusedVariables false
section
set_option maxRecDepth 1000000
set_option maxHeartbeats 0
namespace Go.V
noncomputable section
theorem e43_0:isOk (f43 heapK a43_0 (chkD r43_0))=true:=by kernel_rfl
def m43:CK:=ckD (cn f43) a43_0 r43_0
theorem m43_ok:CallOk EN 43 m43:=ckD_ok (cn_ok o43) (pcD_of o43 e43_0)
end
end Go.V
end
