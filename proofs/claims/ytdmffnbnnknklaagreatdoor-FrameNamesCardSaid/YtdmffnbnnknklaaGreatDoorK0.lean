/- One call of the run comes to its outcome: by the kernel. -/
import Derived.Test.YtdmffnbnnknklaaGreatDoorCuts
set_option maxRecDepth 1000000
namespace Go.Vai
open Go
theorem run0 : isCallD ((EvT.at [] 4000).call (Entry.f e0) (Entry.args e0) (Entry.σ e0)) (Entry.σ e0) (Entry.v e0) (Entry.σ' e0) = true := by decide +kernel
theorem callOk0 : CallOk env Go.Proofs.Tryz.prog (Entry.f e0) (Entry.args e0) (Entry.σ e0) (Entry.v e0) (Entry.σ' e0) := callOkT_ofD (known_nil) run0
end Go.Vai
