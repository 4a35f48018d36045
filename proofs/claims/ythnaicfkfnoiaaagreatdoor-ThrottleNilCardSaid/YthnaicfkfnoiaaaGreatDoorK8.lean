/- One call of the run comes to its outcome: by the kernel. -/
import Derived.Test.YthnaicfkfnoiaaaGreatDoorK3
set_option maxRecDepth 1000000
namespace Go.Vai
open Go
theorem run8 : isCall ((EvK.at env [e3] 4000).call (Entry.f e8) (Entry.args e8) (Entry.σ e8)) (Entry.v e8) (Entry.σ' e8) = true := by decide +kernel
theorem callOk8 : CallOk env Go.Proofs.Tryz.prog (Entry.f e8) (Entry.args e8) (Entry.σ e8) (Entry.v e8) (Entry.σ' e8) := callOk_of envOk (known_cons callOk3 (known_nil)) run8
end Go.Vai
