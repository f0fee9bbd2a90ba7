/- Texts of mine, joined: Zp. -/
import Derived.Test.YtcjkikadolnfgaaGreatProg
import Derived.WalkKit
import Derived.Defers
import Derived.Recover
/- kernel.caught: what something makes, or the error that it gives up with. (Walked by the kit's laws of deferred calls and recover.) -/
set_option linter.unusedSimpArgs false
set_option linter.unusedVariables false
namespace Go.Proofs.YtcjkikadolnfgaaGreat
open Go.Proofs Go.RowKit
set_option maxRecDepth 100000 in
theorem caughtIdle (p q : Addr) (w : World) :
    CallsD Tryz.prog 59 #[.pointer (some p), .pointer (some q)] .returning w fun e u' w' => e = .returned (.tuple #[]) ∧ u' = .returning ∧ w' = w := by
  refine callsD_of_wpS Tryz.func59 rfl fun c₀ cs hu => ?_
  apply wpS_seq
  apply wpS_region
  simp [wpOpsS, go_sem, recoverD, hu, Tryz.ntmps59, Exit.thenS]
  apply wpS_seq
  apply wpS_region
  simp [wpOpsS, go_sem, Exit.thenS]
  refine wpS_cond (t := false) (by simp [Act.eval, Array.replicate]) ?_
  simp only [Bool.false_eq_true, if_false]
  refine wpS_of_wp ?_
  go_wp2
  cases c₀
  simp_all [bodyPostS, results, Tryz.results59]
end Go.Proofs.YtcjkikadolnfgaaGreat


