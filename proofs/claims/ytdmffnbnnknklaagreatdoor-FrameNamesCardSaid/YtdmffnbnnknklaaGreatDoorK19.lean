/- One call of the run comes to its outcome: by the kernel. -/
import Derived.Test.YtdmffnbnnknklaaGreatDoorCuts
set_option maxRecDepth 1000000
namespace Go.Vai
open Go
theorem run19 : isCallD ((EvT.at [] 4000).call (Entry.f e19) (Entry.args e19) (Entry.σ e19)) (Entry.σ e19) (Entry.v e19) (Entry.σ' e19) = true := by decide +kernel
theorem callOk19 : CallOk env Go.Proofs.Tryz.prog (Entry.f e19) (Entry.args e19) (Entry.σ e19) (Entry.v e19) (Entry.σ' e19) := callOkT_ofD (known_nil) run19
end Go.Vai
