/- One call of the run comes to its outcome: by the kernel. -/
import Derived.Test.YtdmffnbnnknklaaGreatDoorCuts
set_option maxRecDepth 1000000
namespace Go.Vai
open Go
theorem run16 : isCallD ((EvT.at [] 4000).call (Entry.f e16) (Entry.args e16) (Entry.σ e16)) (Entry.σ e16) (Entry.v e16) (Entry.σ' e16) = true := by decide +kernel
theorem callOk16 : CallOk env Go.Proofs.Tryz.prog (Entry.f e16) (Entry.args e16) (Entry.σ e16) (Entry.v e16) (Entry.σ' e16) := callOkT_ofD (known_nil) run16
end Go.Vai
