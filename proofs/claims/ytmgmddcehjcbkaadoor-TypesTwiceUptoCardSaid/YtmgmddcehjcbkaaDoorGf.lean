/- Small numbers in decimal digits. -/
import Derived.Test.YtmgmddcehjcbkaaDoorGe
set_option linter.unusedSimpArgs false
set_option linter.unusedVariables false
namespace Go.Proofs.YtmgmddcehjcbkaaDoor
open Go.Vx Go.Vc Go.RowKit

theorem small_fn (i : Int) (hi : i = 1 ∨ i = 3) : FnR Tryd.prog G0 68 [.int .i64 i] (.str (bs [UInt8.ofNat (48 + i.toNat)])) := by
  rcases hi with rfl | rfl
  all_goals
    refine fnQ_of_vc txok mixed [] Tryd.func68 rfl rfl (by simp) fun b => ?_
    conv => whnf
    refine And.intro (fun h => ?_) (fun h => by simp at h)
    conv => whnf
    refine slStrC txok rfl rfl rfl rfl rfl rfl (by decide) (by decide) (by decide) _ rfl ?_
    conv => whnf
    rfl
theorem formatInt_fn (i : Int) (hi : i = 1 ∨ i = 3) : FnR Tryd.prog G0 66 [.int .i64 i, .int .i64 10] (.str (bs [UInt8.ofNat (48 + i.toNat)])) := by
  have hs := small_fn i hi
  rcases hi with rfl | rfl
  all_goals
    refine fnQ_of_vc txok mixed [] Tryd.func66 rfl rfl (by simp) fun b => ?_
    conv => whnf
    refine And.intro (fun h => ?_) (fun h => by simp at h)
    conv => whnf
    refine And.intro (fun h => ?_) (fun h => by simp at h)
    conv => whnf
    refine And.intro (fun h => ?_) (fun h => by simp at h)
    conv => whnf
    exact callF hs gf68 rfl rfl rfl
theorem itoa0_fn (i : Int) (hi : i = 1 ∨ i = 3) : FnR Tryd.prog G0 62 [.int .i64 i] (.str (bs [UInt8.ofNat (48 + i.toNat)])) := by
  refine fnQ_of_vc txok mixed [] Tryd.func62 rfl rfl (by simp) fun b => ?_
  conv => whnf
  exact callF (formatInt_fn i hi) gf66 rfl rfl rfl
theorem itoa_small (i : Int) (hi : i = 1 ∨ i = 3) : FnR Tryd.prog G0 47 [.int .i64 i] (.str (bs [UInt8.ofNat (48 + i.toNat)])) := by
  refine fnQ_of_vc txok mixed [] Tryd.func47 rfl rfl (by simp) fun b => ?_
  conv => whnf
  exact callF (itoa0_fn i hi) gf62 rfl rfl rfl
end Go.Proofs.YtmgmddcehjcbkaaDoor
