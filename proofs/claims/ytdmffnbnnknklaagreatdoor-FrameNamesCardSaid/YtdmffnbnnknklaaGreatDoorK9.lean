/- One call of the run comes to its outcome: by the kernel. -/
import Derived.Test.YtdmffnbnnknklaaGreatDoorCuts
set_option maxRecDepth 1000000
namespace Go.Vai
open Go
theorem run9 : isCallD ((EvT.at [] 4000).call (Entry.f e9) (Entry.args e9) (Entry.σ e9)) (Entry.σ e9) (Entry.v e9) (Entry.σ' e9) = true := by decide +kernel
theorem callOk9 : CallOk env Go.Proofs.Tryz.prog (Entry.f e9) (Entry.args e9) (Entry.σ e9) (Entry.v e9) (Entry.σ' e9) := callOkT_ofD (known_nil) run9
end Go.Vai
