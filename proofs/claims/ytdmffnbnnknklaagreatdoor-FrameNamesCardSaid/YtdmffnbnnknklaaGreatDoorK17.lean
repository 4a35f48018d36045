/- One call of the run comes to its outcome: by the kernel. -/
import Derived.Test.YtdmffnbnnknklaaGreatDoorCuts
set_option maxRecDepth 1000000
namespace Go.Vai
open Go
theorem run17 : isCallD ((EvT.at [] 4000).call (Entry.f e17) (Entry.args e17) (Entry.σ e17)) (Entry.σ e17) (Entry.v e17) (Entry.σ' e17) = true := by decide +kernel
theorem callOk17 : CallOk env Go.Proofs.Tryz.prog (Entry.f e17) (Entry.args e17) (Entry.σ e17) (Entry.v e17) (Entry.σ' e17) := callOkT_ofD (known_nil) run17
end Go.Vai
