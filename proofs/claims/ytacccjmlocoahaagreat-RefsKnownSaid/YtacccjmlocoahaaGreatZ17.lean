/-
  Parts of the proof, from: A great call.
-/
import Derived.KernelRfl
import Derived.Test.YtacccjmlocoahaaGreatZ16

set_option linter.unusedVariables false
section
set_option maxRecDepth 1000000
set_option maxHeartbeats 0
namespace Go.V
noncomputable section
theorem e91_0:isOk (f91 heapK a91_0 (chkD r91_0))=true:=by kernel_rfl
def m91:CK:=ckD (cn f91) a91_0 r91_0
theorem m91_ok:CallOk EN 91 m91:=ckD_ok (cn_ok o91) (pcD_of o91 e91_0)
end
end Go.V
end
