/-
  Parts of the proof, from: A great call.
-/
import Derived.KernelRfl
import Derived.Test.YtacccjmlocoahaaGreatZ10

set_option linter.unusedVariables false
section
set_option maxRecDepth 1000000
set_option maxHeartbeats 0
namespace Go.V
noncomputable section
theorem e39_0:isOk (f39 heapK a39_0 (chkD r39_0))=true:=by kernel_rfl
def m39:CK:=ckD (cn f39) a39_0 r39_0
theorem m39_ok:CallOk EN 39 m39:=ckD_ok (cn_ok o39) (pcD_of o39 e39_0)
end
end Go.V
end
