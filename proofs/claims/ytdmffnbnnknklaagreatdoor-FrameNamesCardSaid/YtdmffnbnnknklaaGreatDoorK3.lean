/- One call of the run comes to its outcome: by the kernel. -/
import Derived.Test.YtdmffnbnnknklaaGreatDoorCuts
set_option maxRecDepth 1000000
namespace Go.Vai
open Go
theorem run3 : isCallD ((EvT.at [] 4000).call (Entry.f e3) (Entry.args e3) (Entry.σ e3)) (Entry.σ e3) (Entry.v e3) (Entry.σ' e3) = true := by decide +kernel
theorem callOk3 : CallOk env Go.Proofs.Tryz.prog (Entry.f e3) (Entry.args e3) (Entry.σ e3) (Entry.v e3) (Entry.σ' e3) := callOkT_ofD (known_nil) run3
end Go.Vai
