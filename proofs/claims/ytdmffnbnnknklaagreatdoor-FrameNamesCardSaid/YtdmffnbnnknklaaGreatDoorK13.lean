/- One call of the run comes to its outcome: by the kernel. -/
import Derived.Test.YtdmffnbnnknklaaGreatDoorCuts
set_option maxRecDepth 1000000
namespace Go.Vai
open Go
theorem run13 : isCallD ((EvT.at [] 4000).call (Entry.f e13) (Entry.args e13) (Entry.σ e13)) (Entry.σ e13) (Entry.v e13) (Entry.σ' e13) = true := by decide +kernel
theorem callOk13 : CallOk env Go.Proofs.Tryz.prog (Entry.f e13) (Entry.args e13) (Entry.σ e13) (Entry.v e13) (Entry.σ' e13) := callOkT_ofD (known_nil) run13
end Go.Vai
