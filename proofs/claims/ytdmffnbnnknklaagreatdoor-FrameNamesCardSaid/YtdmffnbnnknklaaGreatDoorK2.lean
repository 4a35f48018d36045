/- One call of the run comes to its outcome: by the kernel. -/
import Derived.Test.YtdmffnbnnknklaaGreatDoorCuts
set_option maxRecDepth 1000000
namespace Go.Vai
open Go
theorem run2 : isCallD ((EvT.at [] 4000).call (Entry.f e2) (Entry.args e2) (Entry.σ e2)) (Entry.σ e2) (Entry.v e2) (Entry.σ' e2) = true := by decide +kernel
theorem callOk2 : CallOk env Go.Proofs.Tryz.prog (Entry.f e2) (Entry.args e2) (Entry.σ e2) (Entry.v e2) (Entry.σ' e2) := callOkT_ofD (known_nil) run2
end Go.Vai
