/- One call of the run comes to its outcome: by the kernel. -/
import Derived.Test.YtdmffnbnnknklaaGreatDoorCuts
set_option maxRecDepth 1000000
namespace Go.Vai
open Go
theorem run8 : isCallD ((EvT.at [] 4000).call (Entry.f e8) (Entry.args e8) (Entry.σ e8)) (Entry.σ e8) (Entry.v e8) (Entry.σ' e8) = true := by decide +kernel
theorem callOk8 : CallOk env Go.Proofs.Tryz.prog (Entry.f e8) (Entry.args e8) (Entry.σ e8) (Entry.v e8) (Entry.σ' e8) := callOkT_ofD (known_nil) run8
end Go.Vai
