/- The call with the long loop comes to its outcome: by the kernel. -/
import Derived.Test.YtdojpenmffdckaaGreatDoorL0
import Derived.Test.YtdojpenmffdckaaGreatDoorL1
import Derived.Test.YtdojpenmffdckaaGreatDoorL2
import Derived.Test.YtdojpenmffdckaaGreatDoorL3
import Derived.Test.YtdojpenmffdckaaGreatDoorL4
import Derived.Test.YtdojpenmffdckaaGreatDoorL5
import Derived.Test.YtdojpenmffdckaaGreatDoorL6
import Derived.KernelRfl
set_option maxRecDepth 1000000
namespace Go.Vai
open Go
theorem roundsAll (x : AExit) (τ' : Tm) (σ' : St) (h : CodeOk env Go.Proofs.Tryz.prog none (.loop (loopIn (rightC 5 (bodyOf Go.Proofs.Tryz.f5)))) t6 s6 x τ' σ') : CodeOk env Go.Proofs.Tryz.prog none (.loop (loopIn (rightC 5 (bodyOf Go.Proofs.Tryz.f5)))) t1 s1 x τ' σ' :=
  roundsOk_of envOk known_nil rounds0 (roundsOk_of envOk known_nil rounds1 (roundsOk_of envOk known_nil rounds2 (roundsOk_of envOk known_nil rounds3 (roundsOk_of envOk known_nil rounds4 (h)))))
theorem callOk0 : CallOk env Go.Proofs.Tryz.prog (Entry.f e0) (Entry.args e0) (Entry.σ e0) (Entry.v e0) (Entry.σ' e0) :=
  loopCall_ok envOk (known_sound envOk known_nil 4000) (known_sound envOk known_nil 4000) (fn := Go.Proofs.Tryz.f5) (c := bodyOf Go.Proofs.Tryz.f5) (B := (loopIn (rightC 5 (bodyOf Go.Proofs.Tryz.f5)))) (id := blockId (rightC 5 (bodyOf Go.Proofs.Tryz.f5))) (k := 5)
    (by as_aux_lemma => kernel_rfl) (by as_aux_lemma => kernel_rfl) (by as_aux_lemma => kernel_rfl) (by as_aux_lemma => kernel_rfl) (isRun_ok begins) roundsAll (isCall_ok ends)
end Go.Vai
