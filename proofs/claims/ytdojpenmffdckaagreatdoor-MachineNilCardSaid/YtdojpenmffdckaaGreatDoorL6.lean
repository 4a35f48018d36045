/- What lies ahead of the loop: by the kernel. -/
import Derived.Test.YtdojpenmffdckaaGreatDoorCuts
import Derived.KernelRfl
set_option maxRecDepth 1000000
namespace Go.Vai
open Go
theorem begins : isRun (spineF (EvK.at env [] 4000) none 5 (bodyOf Go.Proofs.Tryz.f5) ⟨putAll .leaf 0 (Entry.args e0), Func.ntmps Go.Proofs.Tryz.f5, []⟩ (Entry.σ e0)) t1 s1 = true := by decide +kernel
end Go.Vai
