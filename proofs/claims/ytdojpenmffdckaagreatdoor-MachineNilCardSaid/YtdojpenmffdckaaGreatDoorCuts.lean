/- The calls at which the run is cut. -/
import Derived.Test.YtdojpenmffdckaaGreatDoorS2
import Derived.Test.YtdojpenmffdckaaGreatDoorEnv
set_option maxRecDepth 100000
namespace Go.Vai
open Go
noncomputable def e0 : Entry := ⟨5, [(vp 1559 0 0 19), (vs 838 0 0 3 1 3)], s0, (.tuple [(vi 55), (vi 0)]), s7⟩
end Go.Vai
