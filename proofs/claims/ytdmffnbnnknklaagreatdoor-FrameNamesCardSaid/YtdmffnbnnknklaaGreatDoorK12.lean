/- One call of the run comes to its outcome: by the kernel. -/
import Derived.Test.YtdmffnbnnknklaaGreatDoorCuts
set_option maxRecDepth 1000000
namespace Go.Vai
open Go
theorem run12 : isCallD ((EvT.at [] 4000).call (Entry.f e12) (Entry.args e12) (Entry.σ e12)) (Entry.σ e12) (Entry.v e12) (Entry.σ' e12) = true := by decide +kernel
theorem callOk12 : CallOk env Go.Proofs.Tryz.prog (Entry.f e12) (Entry.args e12) (Entry.σ e12) (Entry.v e12) (Entry.σ' e12) := callOkT_ofD (known_nil) run12
end Go.Vai
