/- One call of the run comes to its outcome: by the kernel. -/
import Derived.Test.YtdmffnbnnknklaaGreatDoorCuts
set_option maxRecDepth 1000000
namespace Go.Vai
open Go
theorem run22 : isCallD ((EvT.at [] 4000).call (Entry.f e22) (Entry.args e22) (Entry.σ e22)) (Entry.σ e22) (Entry.v e22) (Entry.σ' e22) = true := by decide +kernel
theorem callOk22 : CallOk env Go.Proofs.Tryz.prog (Entry.f e22) (Entry.args e22) (Entry.σ e22) (Entry.v e22) (Entry.σ' e22) := callOkT_ofD (known_nil) run22
end Go.Vai
