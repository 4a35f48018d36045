/- One call of the run comes to its outcome: by the kernel. -/
import Derived.Test.YtdmffnbnnknklaaGreatDoorCuts
set_option maxRecDepth 1000000
namespace Go.Vai
open Go
theorem run7 : isCallD ((EvT.at [] 4000).call (Entry.f e7) (Entry.args e7) (Entry.σ e7)) (Entry.σ e7) (Entry.v e7) (Entry.σ' e7) = true := by decide +kernel
theorem callOk7 : CallOk env Go.Proofs.Tryz.prog (Entry.f e7) (Entry.args e7) (Entry.σ e7) (Entry.v e7) (Entry.σ' e7) := callOkT_ofD (known_nil) run7
end Go.Vai
