/- The law TypesTwo: what it computes. -/
import Derived.Test.YtmgmddcehjcbkaaDoorHu
import Derived.Test.YtmgmddcehjcbkaaDoorRa
namespace Go.Proofs.YtmgmddcehjcbkaaDoor
open Go.Vx Go.Vc Go.RowKit

theorem two_law_fn (a c : Tp) : FnR Tryd.prog G0 3 [dT a, dT c] (.bool true) := by
  refine fnQ_of_vc txok mixed [(1, .take 0 (.take 1 (.take 3 (.take 4 (.run 2 (.run 5 (.pure 6 (.pure 7 (.take 8 (.take 9 (.take 11 (.take 12 (.run 10 (.fin 13 (.pure 14 (.pure 15 (.pure 16 (.fin 17 (.pure 18 (.pure 19 .done))))))))))))))))))))] Tryd.func3 rfl rfl (by simp) fun b => ?_
  conv => whnf
  refine And.intro (by kernel_rfl) ?_
  conv => whnf
  refine callF (same_fn a c) gf11 rfl rfl ?_
  conv => whnf
  refine callF (rsame_fn a c) gf12 rfl rfl ?_
  conv => whnf
  refine And.intro (fun _ => ?_) (fun h => by simp at h)
  conv => whnf
  refine callF (cmp_fn a c) gf13 rfl rfl ?_
  conv => whnf
  refine callF (rcmp_fn a c) gf14 rfl rfl ?_
  conv => whnf
  refine And.intro (fun _ => ?_) (fun h => by simp at h)
  conv => whnf
  exact callF alive_fn gf15 rfl rfl rfl
end Go.Proofs.YtmgmddcehjcbkaaDoor
