/- One call of the run comes to its outcome: by the kernel. -/
import Derived.Test.YtdmffnbnnknklaaGreatDoorCuts
set_option maxRecDepth 1000000
namespace Go.Vai
open Go
theorem run21 : isCallD ((EvT.at [] 4000).call (Entry.f e21) (Entry.args e21) (Entry.σ e21)) (Entry.σ e21) (Entry.v e21) (Entry.σ' e21) = true := by decide +kernel
theorem callOk21 : CallOk env Go.Proofs.Tryz.prog (Entry.f e21) (Entry.args e21) (Entry.σ e21) (Entry.v e21) (Entry.σ' e21) := callOkT_ofD (known_nil) run21
end Go.Vai
