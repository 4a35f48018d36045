/- One call of the run comes to its outcome: by the kernel. -/
import Derived.Test.YtdmffnbnnknklaaGreatDoorCuts
set_option maxRecDepth 1000000
namespace Go.Vai
open Go
theorem run1 : isCallD ((EvT.at [] 4000).call (Entry.f e1) (Entry.args e1) (Entry.σ e1)) (Entry.σ e1) (Entry.v e1) (Entry.σ' e1) = true := by decide +kernel
theorem callOk1 : CallOk env Go.Proofs.Tryz.prog (Entry.f e1) (Entry.args e1) (Entry.σ e1) (Entry.v e1) (Entry.σ' e1) := callOkT_ofD (known_nil) run1
end Go.Vai
