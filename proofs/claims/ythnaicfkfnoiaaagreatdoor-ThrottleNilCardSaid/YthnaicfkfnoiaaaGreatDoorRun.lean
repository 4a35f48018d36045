/- The whole run answers true. -/
import Derived.Test.YthnaicfkfnoiaaaGreatDoorK5
import Derived.Test.YthnaicfkfnoiaaaGreatDoorK6
import Derived.Test.YthnaicfkfnoiaaaGreatDoorK7
import Derived.Test.YthnaicfkfnoiaaaGreatDoorK8
import Derived.Test.YthnaicfkfnoiaaaGreatDoorK9
set_option maxRecDepth 1000000
namespace Go.Vai
open Go
theorem runs : isTrueK ((EvK.at env [e5, e6, e7, e8, e9] 4000).call 3 [] ⟨.leaf, 0, [], []⟩) = true := by decide +kernel
theorem runsOk : ∃ σ, CallOk env Go.Proofs.Tryz.prog 3 [] ⟨.leaf, 0, [], []⟩ (.sc (.bool true)) σ := trueCall envOk (known_cons callOk5 (known_cons callOk6 (known_cons callOk7 (known_cons callOk8 (known_cons callOk9 (known_nil)))))) runs
end Go.Vai
