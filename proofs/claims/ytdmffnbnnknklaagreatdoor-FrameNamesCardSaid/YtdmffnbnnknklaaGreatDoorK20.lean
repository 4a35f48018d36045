/- One call of the run comes to its outcome: by the kernel. -/
import Derived.Test.YtdmffnbnnknklaaGreatDoorCuts
set_option maxRecDepth 1000000
namespace Go.Vai
open Go
theorem run20 : isCallD ((EvT.at [] 4000).call (Entry.f e20) (Entry.args e20) (Entry.σ e20)) (Entry.σ e20) (Entry.v e20) (Entry.σ' e20) = true := by decide +kernel
theorem callOk20 : CallOk env Go.Proofs.Tryz.prog (Entry.f e20) (Entry.args e20) (Entry.σ e20) (Entry.v e20) (Entry.σ' e20) := callOkT_ofD (known_nil) run20
end Go.Vai
