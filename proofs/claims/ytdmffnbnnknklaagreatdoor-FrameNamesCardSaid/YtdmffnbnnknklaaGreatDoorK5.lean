/- One call of the run comes to its outcome: by the kernel. -/
import Derived.Test.YtdmffnbnnknklaaGreatDoorCuts
set_option maxRecDepth 1000000
namespace Go.Vai
open Go
theorem run5 : isCallD ((EvT.at [] 4000).call (Entry.f e5) (Entry.args e5) (Entry.σ e5)) (Entry.σ e5) (Entry.v e5) (Entry.σ' e5) = true := by decide +kernel
theorem callOk5 : CallOk env Go.Proofs.Tryz.prog (Entry.f e5) (Entry.args e5) (Entry.σ e5) (Entry.v e5) (Entry.σ' e5) := callOkT_ofD (known_nil) run5
end Go.Vai
