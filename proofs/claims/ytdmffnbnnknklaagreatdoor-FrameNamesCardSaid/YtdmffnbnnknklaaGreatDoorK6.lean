/- One call of the run comes to its outcome: by the kernel. -/
import Derived.Test.YtdmffnbnnknklaaGreatDoorCuts
set_option maxRecDepth 1000000
namespace Go.Vai
open Go
theorem run6 : isCallD ((EvT.at [] 4000).call (Entry.f e6) (Entry.args e6) (Entry.σ e6)) (Entry.σ e6) (Entry.v e6) (Entry.σ' e6) = true := by decide +kernel
theorem callOk6 : CallOk env Go.Proofs.Tryz.prog (Entry.f e6) (Entry.args e6) (Entry.σ e6) (Entry.v e6) (Entry.σ' e6) := callOkT_ofD (known_nil) run6
end Go.Vai
