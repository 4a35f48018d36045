/- One call of the run comes to its outcome: by the kernel. -/
import Derived.Test.YtdmffnbnnknklaaGreatDoorCuts
set_option maxRecDepth 1000000
namespace Go.Vai
open Go
theorem run18 : isCallD ((EvT.at [] 4000).call (Entry.f e18) (Entry.args e18) (Entry.σ e18)) (Entry.σ e18) (Entry.v e18) (Entry.σ' e18) = true := by decide +kernel
theorem callOk18 : CallOk env Go.Proofs.Tryz.prog (Entry.f e18) (Entry.args e18) (Entry.σ e18) (Entry.v e18) (Entry.σ' e18) := callOkT_ofD (known_nil) run18
end Go.Vai
