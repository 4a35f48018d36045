/- One call of the run comes to its outcome: by the kernel. -/
import Derived.Test.YtdmffnbnnknklaaGreatDoorCuts
set_option maxRecDepth 1000000
namespace Go.Vai
open Go
theorem run10 : isCallD ((EvT.at [] 4000).call (Entry.f e10) (Entry.args e10) (Entry.σ e10)) (Entry.σ e10) (Entry.v e10) (Entry.σ' e10) = true := by decide +kernel
theorem callOk10 : CallOk env Go.Proofs.Tryz.prog (Entry.f e10) (Entry.args e10) (Entry.σ e10) (Entry.v e10) (Entry.σ' e10) := callOkT_ofD (known_nil) run10
end Go.Vai
