/- The abstract machine's run of the closed law answers true: by the kernel. -/
import Derived.Test.YtkjmlnegmmlfdaaGreatDoorEnv
set_option maxRecDepth 1000000
namespace Go.Vai
open Go
def isTrue : Option (AV × St) → Bool
  | some (.sc (.bool true), _) => true
  | _ => false
theorem runs : isTrue (run env 4000 3) = true := by decide +kernel
end Go.Vai
