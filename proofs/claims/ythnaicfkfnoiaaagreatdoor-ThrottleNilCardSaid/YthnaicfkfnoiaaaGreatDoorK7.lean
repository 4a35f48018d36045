/- One call of the run comes to its outcome: by the kernel. -/
import Derived.Test.YthnaicfkfnoiaaaGreatDoorK2
set_option maxRecDepth 1000000
namespace Go.Vai
open Go
theorem run7 : isCall ((EvK.at env [e2] 4000).call (Entry.f e7) (Entry.args e7) (Entry.σ e7)) (Entry.v e7) (Entry.σ' e7) = true := by decide +kernel
theorem callOk7 : CallOk env Go.Proofs.Tryz.prog (Entry.f e7) (Entry.args e7) (Entry.σ e7) (Entry.v e7) (Entry.σ' e7) := callOk_of envOk (known_cons callOk2 (known_nil)) run7
end Go.Vai
