/- The abstract machine's run of the closed law answers true: by the kernel. -/
import Derived.Test.YtkjmlnegmmlfdaaGreatDoorEnv
set_option maxRecDepth 1000000
namespace Go.Vai
open Go
theorem runs : isTrueK ((EvK.at env [] 4000).call 3 [] ⟨.leaf, 0, [], []⟩) = true := by decide +kernel
theorem runsOk : ∃ σ, CallOk env Go.Proofs.Tryz.prog 3 [] ⟨.leaf, 0, [], []⟩ (.sc (.bool true)) σ := trueCall envOk known_nil runs
end Go.Vai
