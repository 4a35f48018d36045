/- One call of the run comes to its outcome: by the kernel. -/
import Derived.Test.YtdmffnbnnknklaaGreatDoorCuts
set_option maxRecDepth 1000000
namespace Go.Vai
open Go
theorem run11 : isCallD ((EvT.at [] 4000).call (Entry.f e11) (Entry.args e11) (Entry.σ e11)) (Entry.σ e11) (Entry.v e11) (Entry.σ' e11) = true := by decide +kernel
theorem callOk11 : CallOk env Go.Proofs.Tryz.prog (Entry.f e11) (Entry.args e11) (Entry.σ e11) (Entry.v e11) (Entry.σ' e11) := callOkT_ofD (known_nil) run11
end Go.Vai
