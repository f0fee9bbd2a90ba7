/- The law TypesUnlike: what it computes. -/
import Derived.Test.YtmgmddcehjcbkaaDoorLm
import Derived.Test.YtmgmddcehjcbkaaDoorVph
set_option linter.unusedSimpArgs false
set_option linter.unusedVariables false
namespace Go.Proofs.YtmgmddcehjcbkaaDoor
open Go.Vx Go.Vc Go.RowKit Go.Lib

theorem text_all (t : Tp) (ht : szT t ≤ 1048576) (hn : nums I64 t) : FnR Tryd.prog GT 20 [dT t] (.str (txt itA t)) :=
  text_fn (G := GT) itA t (numsT_of (fun n h => itoaT_fn n h.1 h.2) t hn) (by have := txt_size itA t (nums_of (fun n h => itA_size h) t hn); omega)
theorem unlike_fn (a c : Tp) (ha : szT a ≤ 1048576) (hc : szT c ≤ 1048576) (hna : allN a) (hnc : allN c) : FnR Tryd.prog GT 6 [dT a, dT c] (.bool true) := by
  have key : right a = true → right c = true → ((txt itA a).toList == (txt itA c).toList) = (cmpT a c == 0) := by
    intro h1 h2
    rw [Bool.eq_iff_iff, beq_iff_eq, beq_iff_eq, ByteArray.toList_eq, ByteArray.toList_eq]
    constructor
    · intro h
      have e : txt itA a = txt itA c := by
        apply ByteArray.ext; apply Array.ext'; exact h
      rw [txt_inj a c h1 h2 hna hnc e]; exact cmpT_refl c
    · intro h
      rw [cmpT_eq a c h]
  refine fnQ_of_vc txok mixed [(1, .take 0 (.run 1 (.pure 2 (.take 3 (.run 4 (.pure 5 (.pure 6 (.take 7 (.take 9 (.take 12 (.take 13 (.run 8 (.run 10 (.pure 11 (.fin 14 (.pure 15 (.pure 16 .done)))))))))))))))))] Tryd.func6 rfl rfl (by simp) fun b => ?_
  conv => whnf
  refine And.intro (by kernel_rfl) ?_
  conv => whnf
  refine callF (FnR_up (right_fn a)) gf19 rfl rfl ?_
  conv => whnf
  refine And.intro (fun h1 => ?_) (fun h1 => ?_)
  · conv => whnf
    refine callF (FnR_up (right_fn c)) gf19 rfl rfl ?_
    conv => whnf
    refine And.intro (fun h2 => ?_) (fun h2 => ?_)
    · have key := key h1 h2
      conv => whnf
      refine callF (text_all a ha (nums_of_all a hna)) gf20 rfl rfl ?_
      conv => whnf
      refine callF (text_all c hc (nums_of_all c hnc)) gf20 rfl rfl ?_
      conv => whnf
      refine callF (FnR_up (same_fn a c)) gf11 rfl rfl ?_
      conv => whnf
      rw [key]
      refine And.intro (fun h3 => by simp at h3) (fun _ => ?_)
      conv => whnf
      exact callF (FnR_up alive_fn) gf15 rfl rfl rfl
    · conv => whnf
      exact callF (FnR_up alive_fn) gf15 rfl rfl rfl
  · conv => whnf
    exact callF (FnR_up alive_fn) gf15 rfl rfl rfl
end Go.Proofs.YtmgmddcehjcbkaaDoor
