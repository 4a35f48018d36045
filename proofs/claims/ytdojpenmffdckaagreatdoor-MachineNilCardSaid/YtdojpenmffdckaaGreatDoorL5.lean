/- The last rounds of the loop and the end of its call: by the kernel. -/
import Derived.Test.YtdojpenmffdckaaGreatDoorCuts
import Derived.KernelRfl
set_option maxRecDepth 1000000
namespace Go.Vai
open Go
theorem ends : isCall (endF env Go.Proofs.Tryz.f5 (EvK.at env [] 4000) (loopIn (rightC 5 (bodyOf Go.Proofs.Tryz.f5))) t6 s6) (Entry.v e0) (Entry.σ' e0) = true := by decide +kernel
end Go.Vai
