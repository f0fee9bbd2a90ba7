/- The reference: the order. -/
import Derived.Test.YtmgmddcehjcbkaaDoorGm
import Derived.Test.YtmgmddcehjcbkaaDoorVpc
set_option linter.unusedSimpArgs false
set_option linter.unusedVariables false
namespace Go.Proofs.YtmgmddcehjcbkaaDoor
open Go.Vx Go.Vc Go.RowKit

theorem number_fn (a c : Int) : FnR Tryd.prog G0 40 [.int .i64 a, .int .i64 c] (.int .i64 (cmpI a c)) := by
  refine fnQ_of_vc txok mixed [] Tryd.func40 rfl rfl (by simp) fun b => ?_
  (repeat' ((conv => whnf); first | refine And.intro (fun _ => ?_) (fun _ => ?_))) <;> (conv => whnf)
  all_goals refine congrArg (D.int .i64) ?_
  all_goals simp_all [cmpI]
  all_goals omega
theorem rcmp_fn : ∀ t, CmpOk 14 t := by
  refine Tp.ind fun k n ks ih u => ?_
  obtain ⟨k', n', ks'⟩ := u
  refine fnQ_sz fun hs => ?_
  have hl := (szOk_T (t := .mk k n ks) hs.1).1
  simp only [mk_kids, LB] at hl
  rw [cmpT, orL4]
  refine fnQ_of_vc txok mixed [(13, .pure 0 (.take 1 (.pure 2 (.pure 3 (.take 4 (.pure 5 (.take 6 (.pure 7 (.pure 8 (.take 9 (.fin 10 (.pure 11 .done))))))))))))] Tryd.func14 rfl rfl (by simp) fun b => ?_
  conv => whnf
  refine callF (number_fn k k') gf40 rfl rfl ?_
  conv => whnf
  refine And.intro (fun h1 => ?_) (fun h1 => ?_)
  · have h1 : cmpI k k' ≠ 0 := by simpa using h1
    rw [if_pos h1]
    conv => whnf
  have h1 : cmpI k k' = 0 := by simpa using h1
  rw [if_neg (by omega)]
  conv => whnf
  refine callF (number_fn n n') gf40 rfl rfl ?_
  conv => whnf
  refine And.intro (fun h2 => ?_) (fun h2 => ?_)
  · have h2 : cmpI n n' ≠ 0 := by simpa using h2
    rw [if_pos h2]
    conv => whnf
  have h2 : cmpI n n' = 0 := by simpa using h2
  rw [if_neg (by omega)]
  conv => whnf
  refine callF (number_fn ks.length ks'.length) gf40 rfl rfl ?_
  conv => whnf
  refine And.intro (fun h3 => ?_) (fun h3 => ?_)
  · have h3 : cmpI ks.length ks'.length ≠ 0 := by simpa using h3
    rw [if_pos h3]
    conv => whnf
  have h3 : cmpI ks.length ks'.length = 0 := by simpa using h3
  rw [if_neg (by omega)]
  have hlen := cmpI_zero.1 h3
  conv => whnf
  refine loopH (fun i : Nat => i ≤ ks.length ∧ cmpL ks ks' = cmpL (ks.drop i) (ks'.drop i)) (fun i => ks.length - i) (fun i => [(8, .d (.int .i64 i))]) (fun _ => [(0, .blk 24 [.d (.int .i64 k), .d (.int .i64 n), .d (dK ks)]), (1, .blk 24 [.d (.int .i64 k'), .d (.int .i64 n'), .d (dK ks')])]) 2 0 ⟨by omega, rfl⟩ (weak_of rfl (by repeat ((conv => whnf); first | exact trivial | refine And.intro rfl ?_ | refine And.intro (incD (by omega)) ?_)) (by repeat ((conv => whnf); first | exact trivial | refine And.intro rfl ?_ | refine And.intro (incD (by omega)) ?_))) ?_
  rintro i ⟨hi, hx⟩
  conv => whnf
  refine And.intro (fun hb => ?_) (fun hb => ?_)
  · have hb := of_decide_eq_true hb
    have hil : i < ks.length := by omega
    have hil' : i < ks'.length := by omega
    rw [cmpL_drop hil hil'] at hx
    conv => whnf
    refine And.intro (by kernel_rfl) ?_
    conv => whnf
    refine IdxC.encK i hil rfl ?_
    conv => whnf
    refine IdxC.encK i hil' rfl ?_
    conv => whnf
    refine callF (ih ks[i] (by simp) ks'[i]) gf14 rfl rfl ?_
    conv => whnf
    refine And.intro (fun he => ?_) (fun he => ?_)
    · have he : cmpT ks[i] ks'[i] ≠ 0 := by simpa using he
      conv => whnf
      rw [hx, if_pos he]
    · have he : cmpT ks[i] ks'[i] = 0 := by simpa using he
      rw [if_neg (by omega)] at hx
      conv => whnf
      exact again (i + 1) (by omega) ⟨by omega, hx⟩ (weak_of rfl (by repeat ((conv => whnf); first | exact trivial | refine And.intro rfl ?_ | refine And.intro (incD (by omega)) ?_)) (by repeat ((conv => whnf); first | exact trivial | refine And.intro rfl ?_ | refine And.intro (incD (by omega)) ?_)))
  · have hb := of_decide_eq_false hb
    rw [List.drop_eq_nil_of_le (show ks.length ≤ i by omega), List.drop_eq_nil_of_le (show ks'.length ≤ i by omega)] at hx
    conv => whnf
    rw [hx]
    rfl
theorem rsame_fn (t u : Tp) : FnR Tryd.prog G0 12 [dT t, dT u] (.bool (cmpT t u == 0)) := by
  refine fnQ_of_vc txok mixed [] Tryd.func12 rfl rfl (by simp) fun b => ?_
  conv => whnf
  exact callF (rcmp_fn t u) gf14 rfl rfl rfl
end Go.Proofs.YtmgmddcehjcbkaaDoor
