/- One call of the run comes to its outcome: by the kernel. -/
import Derived.Test.YtdmffnbnnknklaaGreatDoorCuts
set_option maxRecDepth 1000000
namespace Go.Vai
open Go
theorem run14 : isCallD ((EvT.at [] 4000).call (Entry.f e14) (Entry.args e14) (Entry.σ e14)) (Entry.σ e14) (Entry.v e14) (Entry.σ' e14) = true := by decide +kernel
theorem callOk14 : CallOk env Go.Proofs.Tryz.prog (Entry.f e14) (Entry.args e14) (Entry.σ e14) (Entry.v e14) (Entry.σ' e14) := callOkT_ofD (known_nil) run14
end Go.Vai
