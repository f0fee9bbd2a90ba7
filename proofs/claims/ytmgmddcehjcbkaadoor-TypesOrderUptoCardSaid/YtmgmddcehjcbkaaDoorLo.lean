/- The law TypesOrder: what it computes. -/
import Derived.Test.YtmgmddcehjcbkaaDoorHu
import Derived.Test.YtmgmddcehjcbkaaDoorVpc
namespace Go.Proofs.YtmgmddcehjcbkaaDoor
open Go.Vx Go.Vc Go.RowKit

theorem negI {x : Int} (h : -1 ≤ x ∧ x ≤ 1) : IntKind.i64.wrap (0 - x) = -x := (Go.Vc.wrap_small (a := 0 - x) (by omega) (by omega)).trans (by omega)
theorem order_fn (a c d : Tp) : FnR Tryd.prog G0 5 [dT a, dT c, dT d] (.bool true) := by
  refine fnQ_of_vc txok mixed [] Tryd.func5 rfl rfl (by simp) fun b => ?_
  have r1 := cmpT_rng a c
  conv => whnf
  refine callF (cmp_fn a c) gf13 rfl rfl ?_
  conv => whnf
  refine callF (cmp_fn c a) gf13 rfl rfl ?_
  rw [cmpT_sym a c]
  conv => whnf
  rw [negI r1]
  refine And.intro (fun h => ?_) (fun h => ?_)
  rotate_left
  · simp at h
  clear h
  conv => whnf
  refine callF (same_fn a c) gf11 rfl rfl ?_
  conv => whnf
  refine And.intro (fun h => ?_) (fun h => ?_)
  rotate_left
  · simp at h
  clear h
  conv => whnf
  have tail : FnR Tryd.prog G0 11 [dT a, dT a] (.bool true) := by
    have := same_fn a a
    rwa [cmpT_refl] at this
  refine And.intro (fun h => ?_) (fun h => ?_)
  · have h := of_decide_eq_true h
    conv => whnf
    refine callF (cmp_fn c d) gf13 rfl rfl ?_
    conv => whnf
    refine And.intro (fun h2 => ?_) (fun h2 => ?_)
    · have h2 := of_decide_eq_true h2
      have h3 := cmpT_trans h h2
      conv => whnf
      refine callF (cmp_fn a d) gf13 rfl rfl ?_
      conv => whnf
      refine And.intro (fun h4 => ?_) (fun h4 => ?_)
      · have h4 := of_decide_eq_true h4; omega
      · conv => whnf
        refine callF tail gf11 rfl rfl ?_
        conv => whnf
        refine And.intro (fun _ => ?_) (fun h => by cases h)
        conv => whnf
        exact callF alive_fn gf15 rfl rfl rfl
    · conv => whnf
      refine callF tail gf11 rfl rfl ?_
      conv => whnf
      refine And.intro (fun _ => ?_) (fun h => by cases h)
      conv => whnf
      exact callF alive_fn gf15 rfl rfl rfl
  · conv => whnf
    refine callF tail gf11 rfl rfl ?_
    conv => whnf
    refine And.intro (fun _ => ?_) (fun h => by cases h)
    conv => whnf
    exact callF alive_fn gf15 rfl rfl rfl
end Go.Proofs.YtmgmddcehjcbkaaDoor
