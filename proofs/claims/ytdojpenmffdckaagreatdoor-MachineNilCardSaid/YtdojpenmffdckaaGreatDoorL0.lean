/- So many rounds of the loop: by the kernel. -/
import Derived.Test.YtdojpenmffdckaaGreatDoorCuts
import Derived.KernelRfl
set_option maxRecDepth 1000000
namespace Go.Vai
open Go
theorem rounds0 : isRun (roundsF (EvK.at env [] 4000) none (loopIn (rightC 5 (bodyOf Go.Proofs.Tryz.f5))) 10 t1 s1) t2 s2 = true := by decide +kernel
end Go.Vai
