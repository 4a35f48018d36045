/- So many rounds of the loop: by the kernel. -/
import Derived.Test.YtdojpenmffdckaaGreatDoorCuts
import Derived.KernelRfl
set_option maxRecDepth 1000000
namespace Go.Vai
open Go
theorem rounds2 : isRun (roundsF (EvK.at env [] 4000) none (loopIn (rightC 5 (bodyOf Go.Proofs.Tryz.f5))) 9 t3 s3) t4 s4 = true := by decide +kernel
end Go.Vai
