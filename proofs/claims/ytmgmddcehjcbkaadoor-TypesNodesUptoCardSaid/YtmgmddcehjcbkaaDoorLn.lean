/- The law TypesNodes: what it computes. -/
import Derived.Test.YtmgmddcehjcbkaaDoorHu
namespace Go.Proofs.YtmgmddcehjcbkaaDoor
open Go.Vx Go.Vc Go.RowKit

theorem addW {x y : Int} (h : 0 ≤ x + y ∧ x + y ≤ 1000000) : IntKind.i64.wrap (x + y) = x + y := Go.Vc.wrap_small (by omega) (by omega)
theorem nodes_fn (a c : Tp) (k : Int) : FnR Tryd.prog G0 7 [dT a, dT c, .int .i64 k] (.bool true) := by
  obtain ⟨k1, n1, l1⟩ := a
  obtain ⟨k2, n2, l2⟩ := c
  refine fnQ_of_vc txok mixed [(4, .pure 0 (.take 1 (.take 4 (.run 2 (.pure 3 (.run 5 (.pure 6 (.pure 7 (.pure 8 (.take 9 (.run 10 (.pure 11 (.pure 12 (.take 13 (.run 14 (.pure 15 (.pure 16 (.run 17 (.pure 18 (.pure 19 .done)))))))))))))))))))), (5, .pure 0 (.pure 1 (.pure 2 (.take 3 (.take 6 (.run 4 (.pure 5 (.fin 7 (.pure 8 (.pure 9 (.pure 10 (.pure 11 (.fin 12 (.pure 13 (.pure 14 .done)))))))))))))))] Tryd.func7 rfl rfl (by simp) fun b => ?_
  have la := cutN_le (szT (.mk k1 n1 l1)) 1000
  have lc := cutN_le (szT (.mk k2 n2 l2)) 1000
  have hz : szT (.mk k 0 [.mk k1 n1 l1, .mk k2 n2 l2]) = szT (.mk k1 n1 l1) + szT (.mk k2 n2 l2) + 1 := by simp only [szT, szL]
  have pa := szT_pos (.mk k1 n1 l1)
  have pc := szT_pos (.mk k2 n2 l2)
  conv => whnf
  refine pubC (fun _ => true) ?_
  conv => whnf
  refine callF (size_fn (.mk k 0 [.mk k1 n1 l1, .mk k2 n2 l2])) gf21 rfl rfl ?_
  conv => whnf
  refine callF (fits_fn (.mk k 0 [.mk k1 n1 l1, .mk k2 n2 l2])) gf22 rfl rfl ?_
  conv => whnf
  refine And.intro (fun h => ?_) (fun h => ?_)
  · have h := of_decide_eq_true h
    conv => whnf
    refine And.intro (by kernel_rfl) ?_
    conv => whnf
    refine callF (size_fn (.mk k1 n1 l1)) gf21 rfl rfl ?_
    conv => whnf
    refine callF (size_fn (.mk k2 n2 l2)) gf21 rfl rfl ?_
    conv => whnf
    rw [addW (x := 1) (y := (cutN (szT (.mk k1 n1 l1)) 1000 : Nat)) (by omega), addW (x := 1 + (cutN (szT (.mk k1 n1 l1)) 1000 : Nat)) (y := (cutN (szT (.mk k2 n2 l2)) 1000 : Nat)) (by omega)]
    have e : ((cutN (szT (.mk k 0 [.mk k1 n1 l1, .mk k2 n2 l2])) 1000 : Nat) : Int) = 1 + (cutN (szT (.mk k1 n1 l1)) 1000 : Nat) + (cutN (szT (.mk k2 n2 l2)) 1000 : Nat) := by
      rw [cutN_small h, cutN_small (by omega), cutN_small (by omega)]; omega
    refine And.intro (fun _ => ?_) (fun h2 => ?_)
    rotate_left
    · rw [e] at h2; simp at h2
    conv => whnf
    refine callF (fits_fn (.mk k1 n1 l1)) gf22 rfl rfl ?_
    conv => whnf
    refine And.intro (fun _ => ?_) (fun h2 => ?_)
    rotate_left
    · simp at h2; omega
    conv => whnf
    refine callF (fits_fn (.mk k2 n2 l2)) gf22 rfl rfl ?_
    conv => whnf
    refine And.intro (fun _ => ?_) (fun h2 => ?_)
    rotate_left
    · simp at h2; omega
    conv => whnf
    exact callF alive_fn gf15 rfl rfl rfl
  · have h := of_decide_eq_false h
    rw [cutN_big (by omega)]
    conv => whnf
    refine And.intro (by kernel_rfl) ?_
    conv => whnf
    refine And.intro (fun _ => ?_) (fun h2 => by cases h2)
    conv => whnf
    refine callF (size_fn (.mk k1 n1 l1)) gf21 rfl rfl ?_
    conv => whnf
    refine callF (size_fn (.mk k2 n2 l2)) gf21 rfl rfl ?_
    conv => whnf
    rw [addW (x := 1) (y := (cutN (szT (.mk k1 n1 l1)) 1000 : Nat)) (by omega), addW (x := 1 + (cutN (szT (.mk k1 n1 l1)) 1000 : Nat)) (y := (cutN (szT (.mk k2 n2 l2)) 1000 : Nat)) (by omega)]
    have e : 1000 ≤ cutN (szT (.mk k1 n1 l1)) 1000 + cutN (szT (.mk k2 n2 l2)) 1000 := by
      unfold cutN; split <;> split <;> omega
    refine And.intro (fun _ => ?_) (fun h2 => ?_)
    rotate_left
    · have := of_decide_eq_false h2; omega
    conv => whnf
    exact callF alive_fn gf15 rfl rfl rfl
end Go.Proofs.YtmgmddcehjcbkaaDoor
