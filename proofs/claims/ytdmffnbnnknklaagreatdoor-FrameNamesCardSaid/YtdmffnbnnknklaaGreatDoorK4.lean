/- One call of the run comes to its outcome: by the kernel. -/
import Derived.Test.YtdmffnbnnknklaaGreatDoorCuts
set_option maxRecDepth 1000000
namespace Go.Vai
open Go
theorem run4 : isCallD ((EvT.at [] 4000).call (Entry.f e4) (Entry.args e4) (Entry.σ e4)) (Entry.σ e4) (Entry.v e4) (Entry.σ' e4) = true := by decide +kernel
theorem callOk4 : CallOk env Go.Proofs.Tryz.prog (Entry.f e4) (Entry.args e4) (Entry.σ e4) (Entry.v e4) (Entry.σ' e4) := callOkT_ofD (known_nil) run4
end Go.Vai
