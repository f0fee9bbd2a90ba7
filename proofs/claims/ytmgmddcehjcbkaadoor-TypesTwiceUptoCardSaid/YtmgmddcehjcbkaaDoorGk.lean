/- alive: the chapter's examples. -/
import Derived.Test.YtmgmddcehjcbkaaDoorGj
set_option linter.unusedSimpArgs false
set_option linter.unusedVariables false
namespace Go.Proofs.YtmgmddcehjcbkaaDoor
open Go.Vx Go.Vc Go.RowKit

theorem kind_fn (k : Int) : FnR Tryd.prog G0 42 [.int .i64 k] (dT (.mk k 0 [])) := by
  refine fnQ_of_vc txok mixed [] Tryd.func42 rfl rfl (by simp) fun b => ?_
  conv => whnf
  rfl
theorem stamp_fn (n : Int) : FnR Tryd.prog G0 25 [.int .i64 n] (dT (.mk 6 n [])) := by
  refine fnQ_of_vc txok mixed [] Tryd.func25 rfl rfl (by simp) fun b => ?_
  conv => whnf
  rfl
theorem two_fn (k : Int) (t u : Tp) : FnR Tryd.prog G0 41 [.int .i64 k, dT t, dT u] (dT (.mk k 0 [t, u])) := by
  refine fnQ_of_vc txok mixed [] Tryd.func41 rfl rfl (by simp) fun b => ?_
  conv => whnf
  obtain ⟨k1, n1, l1⟩ := t
  obtain ⟨k2, n2, l2⟩ := u
  rfl
def itS (n : Int) : ByteArray := bs [UInt8.ofNat (48 + n.toNat)]
def tA : Tp := .mk 4 0 [.mk 4 0 [.mk 1 0 [], .mk 2 0 []], .mk 5 0 [.mk 3 0 [], .mk 6 3 []]]
def bsA : ByteArray := bs [40, 105, 110, 116, 32, 45, 62, 32, 98, 111, 111, 108, 41, 32, 45, 62, 32, 117, 110, 105, 116, 32, 42, 32, 35, 51]
theorem txtA : txt itS tA = bsA := by kernel_rfl
theorem txtG : txt itS (.mk 8 26 []) = bs [39, 97, 49] := by kernel_rfl
theorem numsA : numsT (ItOk itS) tA := by
  simp [numsT, numsL, tA]
  exact itoa_small 3 (.inr rfl)
theorem numsG : numsT (ItOk itS) (.mk 8 26 []) := by
  simp [numsT, numsL]
  exact itoa_small 1 (.inl rfl)
theorem textA_fn : FnR Tryd.prog G0 20 [dT tA] (.str bsA) := by
  rw [← txtA]
  exact text_fn itS tA numsA (by rw [txtA]; decide)
theorem textG_fn : FnR Tryd.prog G0 20 [dT (.mk 8 26 [])] (.str (bs [39, 97, 49])) := by
  rw [← txtG]
  exact text_fn itS _ numsG (by rw [txtG]; decide)
theorem replA : repl (.mk 4 0 [.mk 6 1 [], .mk 6 2 []]) 6 [1, 2] [.mk 6 2 [], .mk 1 0 []] = (.mk 4 0 [.mk 6 2 [], .mk 1 0 []], 0) := by kernel_rfl
theorem alive_fn : FnR Tryd.prog G0 15 [] (.bool true) := by
  refine fnQ_of_vc txok mixed [(3, .take 0 (.run 1 (.pure 2 (.pure 3 (.pure 4 (.pure 5 (.pure 6 (.pure 7 (.take 8 (.run 9 (.run 10 (.run 11 (.run 12 (.pure 13 (.pure 14 (.take 15 (.run 16 (.pure 17 (.pure 18 (.pure 19 (.take 20 (.run 21 (.pure 22 (.pure 23 (.pure 24 (.run 25 (.pure 26 (.pure 27 (.pure 28 .done)))))))))))))))))))))))))))))] Tryd.func15 rfl rfl (by simp) fun b => ?_
  conv => whnf
  refine callF (kind_fn 1) gf42 rfl rfl ?_
  conv => whnf
  refine callF (kind_fn 2) gf42 rfl rfl ?_
  conv => whnf
  refine callF (two_fn 4 (.mk 1 0 []) (.mk 2 0 [])) gf41 rfl rfl ?_
  conv => whnf
  refine callF (kind_fn 3) gf42 rfl rfl ?_
  conv => whnf
  refine callF (stamp_fn 3) gf25 rfl rfl ?_
  conv => whnf
  refine callF (two_fn 5 (.mk 3 0 []) (.mk 6 3 [])) gf41 rfl rfl ?_
  conv => whnf
  refine callF (two_fn 4 (.mk 4 0 [.mk 1 0 [], .mk 2 0 []]) (.mk 5 0 [.mk 3 0 [], .mk 6 3 []])) gf41 rfl rfl ?_
  conv => whnf
  refine callF (stamp_fn 1) gf25 rfl rfl ?_
  conv => whnf
  refine callF (stamp_fn 2) gf25 rfl rfl ?_
  conv => whnf
  refine callF (two_fn 4 (.mk 6 1 []) (.mk 6 2 [])) gf41 rfl rfl ?_
  conv => whnf
  refine callF (stamp_fn 2) gf25 rfl rfl ?_
  conv => whnf
  refine callF (kind_fn 1) gf42 rfl rfl ?_
  conv => whnf
  refine pubC (fun _ => true) ?_
  conv => whnf
  refine callF (replace_fn (.mk 4 0 [.mk 6 1 [], .mk 6 2 []]) 6 [1, 2] [.mk 6 2 [], .mk 1 0 []]) gf16 rfl rfl ?_
  rw [replA]
  conv => whnf
  refine And.intro (by kernel_rfl) ?_
  conv => whnf
  refine callF textA_fn gf20 rfl rfl ?_
  conv => whnf
  refine And.intro (fun h => ?_) (fun h => ?_)
  rotate_left
  · have h : (bsA.toList == bsA.toList) = !true := h
    simp at h
  clear h
  conv => whnf
  refine And.intro (fun h => ?_) (fun h => ?_)
  rotate_left
  · exact absurd h (by decide)
  clear h
  conv => whnf
  refine callF (stamp_fn 2) gf25 rfl rfl ?_
  conv => whnf
  refine callF (kind_fn 1) gf42 rfl rfl ?_
  conv => whnf
  refine callF (two_fn 4 (.mk 6 2 []) (.mk 1 0 [])) gf41 rfl rfl ?_
  conv => whnf
  refine callF (same_fn (.mk 4 0 [.mk 6 2 [], .mk 1 0 []]) (.mk 4 0 [.mk 6 2 [], .mk 1 0 []])) gf11 rfl rfl ?_
  conv => whnf
  refine And.intro (fun h => ?_) (fun h => ?_)
  rotate_left
  · have h : (cmpT (.mk 4 0 [.mk 6 2 [], .mk 1 0 []]) (.mk 4 0 [.mk 6 2 [], .mk 1 0 []]) == 0) = !true := h
    rw [show cmpT (.mk 4 0 [.mk 6 2 [], .mk 1 0 []]) (.mk 4 0 [.mk 6 2 [], .mk 1 0 []]) = 0 from by kernel_rfl] at h
    exact absurd h (by decide)
  clear h
  conv => whnf
  refine callF (size_fn tA) gf21 rfl rfl ?_
  rw [show cutN (szT tA) 1000 = 7 from by kernel_rfl]
  conv => whnf
  refine And.intro (fun h => ?_) (fun h => ?_)
  rotate_left
  · exact absurd h (by decide)
  clear h
  conv => whnf
  refine callF (right_fn tA) gf19 rfl rfl ?_
  rw [show right tA = true from by kernel_rfl]
  conv => whnf
  refine And.intro (fun _ => ?_) (fun h => ?_)
  rotate_left
  · cases h
  conv => whnf
  refine callF textG_fn gf20 rfl rfl ?_
  conv => whnf
  refine congrArg D.bool ?_
  show ((bs [39, 97, 49]).toList == (bs [39, 97, 49]).toList) = true
  simp
end Go.Proofs.YtmgmddcehjcbkaaDoor
