/- One call of the run comes to its outcome: by the kernel. -/
import Derived.Test.YtdmffnbnnknklaaGreatDoorCuts
set_option maxRecDepth 1000000
namespace Go.Vai
open Go
theorem run15 : isCallD ((EvT.at [] 4000).call (Entry.f e15) (Entry.args e15) (Entry.σ e15)) (Entry.σ e15) (Entry.v e15) (Entry.σ' e15) = true := by decide +kernel
theorem callOk15 : CallOk env Go.Proofs.Tryz.prog (Entry.f e15) (Entry.args e15) (Entry.σ e15) (Entry.v e15) (Entry.σ' e15) := callOkT_ofD (known_nil) run15
end Go.Vai
