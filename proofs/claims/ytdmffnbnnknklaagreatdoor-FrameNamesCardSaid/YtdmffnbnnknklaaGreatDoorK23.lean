/- One call of the run comes to its outcome: by the kernel. -/
import Derived.Test.YtdmffnbnnknklaaGreatDoorK19
import Derived.Test.YtdmffnbnnknklaaGreatDoorK20
import Derived.Test.YtdmffnbnnknklaaGreatDoorK21
import Derived.Test.YtdmffnbnnknklaaGreatDoorK22
set_option maxRecDepth 1000000
namespace Go.Vai
open Go
theorem run23 : isCallD ((EvT.at [e19, e20, e21, e22] 4000).call (Entry.f e23) (Entry.args e23) (Entry.σ e23)) (Entry.σ e23) (Entry.v e23) (Entry.σ' e23) = true := by decide +kernel
theorem callOk23 : CallOk env Go.Proofs.Tryz.prog (Entry.f e23) (Entry.args e23) (Entry.σ e23) (Entry.v e23) (Entry.σ' e23) := callOkT_ofD (known_cons callOk19 (known_cons callOk20 (known_cons callOk21 (known_cons callOk22 (known_nil))))) run23
end Go.Vai
