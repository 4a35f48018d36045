/- One call of the run comes to its outcome: by the kernel. -/
import Derived.Test.YthnaicfkfnoiaaaGreatDoorK4
set_option maxRecDepth 1000000
namespace Go.Vai
open Go
theorem run9 : isCall ((EvK.at env [e4] 4000).call (Entry.f e9) (Entry.args e9) (Entry.σ e9)) (Entry.v e9) (Entry.σ' e9) = true := by decide +kernel
theorem callOk9 : CallOk env Go.Proofs.Tryz.prog (Entry.f e9) (Entry.args e9) (Entry.σ e9) (Entry.v e9) (Entry.σ' e9) := callOk_of envOk (known_cons callOk4 (known_nil)) run9
end Go.Vai
