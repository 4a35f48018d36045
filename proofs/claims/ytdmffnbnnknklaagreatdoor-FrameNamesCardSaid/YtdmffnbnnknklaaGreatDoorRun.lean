/- The whole run answers true. -/
import Derived.Test.YtdmffnbnnknklaaGreatDoorK0
import Derived.Test.YtdmffnbnnknklaaGreatDoorK1
import Derived.Test.YtdmffnbnnknklaaGreatDoorK2
import Derived.Test.YtdmffnbnnknklaaGreatDoorK3
import Derived.Test.YtdmffnbnnknklaaGreatDoorK4
import Derived.Test.YtdmffnbnnknklaaGreatDoorK5
import Derived.Test.YtdmffnbnnknklaaGreatDoorK6
import Derived.Test.YtdmffnbnnknklaaGreatDoorK7
import Derived.Test.YtdmffnbnnknklaaGreatDoorK8
import Derived.Test.YtdmffnbnnknklaaGreatDoorK9
import Derived.Test.YtdmffnbnnknklaaGreatDoorK10
import Derived.Test.YtdmffnbnnknklaaGreatDoorK11
import Derived.Test.YtdmffnbnnknklaaGreatDoorK12
import Derived.Test.YtdmffnbnnknklaaGreatDoorK13
import Derived.Test.YtdmffnbnnknklaaGreatDoorK14
import Derived.Test.YtdmffnbnnknklaaGreatDoorK15
import Derived.Test.YtdmffnbnnknklaaGreatDoorK16
import Derived.Test.YtdmffnbnnknklaaGreatDoorK17
import Derived.Test.YtdmffnbnnknklaaGreatDoorK18
import Derived.Test.YtdmffnbnnknklaaGreatDoorK23
set_option maxRecDepth 1000000
namespace Go.Vai
open Go
theorem runs : isTrueK ((EvT.at [e0, e1, e2, e3, e4, e5, e6, e7, e8, e9, e10, e11, e12, e13, e14, e15, e16, e17, e18, e23] 4000).call 3 [] ⟨.leaf, 0, [], []⟩) = true := by decide +kernel
theorem runsOk : ∃ σ, CallOk env Go.Proofs.Tryz.prog 3 [] ⟨.leaf, 0, [], []⟩ (.sc (.bool true)) σ := trueCallT (known_cons callOk0 (known_cons callOk1 (known_cons callOk2 (known_cons callOk3 (known_cons callOk4 (known_cons callOk5 (known_cons callOk6 (known_cons callOk7 (known_cons callOk8 (known_cons callOk9 (known_cons callOk10 (known_cons callOk11 (known_cons callOk12 (known_cons callOk13 (known_cons callOk14 (known_cons callOk15 (known_cons callOk16 (known_cons callOk17 (known_cons callOk18 (known_cons callOk23 (known_nil))))))))))))))))))))) runs
end Go.Vai
