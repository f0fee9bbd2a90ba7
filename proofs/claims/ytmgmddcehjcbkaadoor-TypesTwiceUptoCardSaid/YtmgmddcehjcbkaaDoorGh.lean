/- How many nodes a type has. -/
import Derived.Test.YtmgmddcehjcbkaaDoorGg
set_option linter.unusedSimpArgs false
set_option linter.unusedVariables false
namespace Go.Proofs.YtmgmddcehjcbkaaDoor
open Go.Vx Go.Vc Go.RowKit

def cntD (n most : Nat) : D := .tup [.int .i64 (cutN n most), .bool (decide (n ≤ most))]
theorem count_fn : ∀ (t : Tp) (most : Nat), most ≤ 1000000 → FnR Tryd.prog G0 50 [dT t, .int .i64 most] (cntD (szT t) most) := by
  refine Tp.ind fun k n ks ih most hm => ?_
  refine fnQ_sz fun hs => ?_
  have hl := (szOk_T (t := .mk k n ks) hs.1).1
  simp only [mk_kids, LB] at hl
  have hsz : szT (.mk k n ks) = szL ks + 1 := by simp only [szT]
  refine fnQ_of_vc txok mixed [] Tryd.func50 rfl rfl (by simp) fun b => ?_
  conv => whnf
  refine And.intro (fun h => ?_) (fun h => ?_)
  · have h := of_decide_eq_true h
    conv => whnf
    rw [cntD, cutN, if_neg (by omega), decide_eq_false (by omega)]
    have : (most + 1 : Nat) = 1 := by omega
    rw [this]; rfl
  · have h := of_decide_eq_false h
    conv => whnf
    refine loopH (fun i : Nat => i ≤ ks.length ∧ 1 + szL (ks.take i) ≤ most) (fun i => ks.length - i) (fun i => [(18, .d (.int .i64 i)), (6, .d (.int .i64 ((1 + szL (ks.take i) : Nat) : Int)))]) (fun _ => [(0, .blk 24 [.d (.int .i64 k), .d (.int .i64 n), .d (dK ks)])]) 1 0 ⟨by omega, by simp [szL]; omega⟩ (weak_of rfl (by repeat ((conv => whnf); first | exact trivial | refine And.intro rfl ?_ | refine And.intro (incD (by omega)) ?_)) (by repeat ((conv => whnf); first | exact trivial | refine And.intro rfl ?_ | refine And.intro (incD (by omega)) ?_))) ?_
    rintro i ⟨hi, hx⟩
    conv => whnf
    simp only [mk_kids]
    refine And.intro (fun hb => ?_) (fun hb => ?_)
    · have hb := of_decide_eq_true hb
      have hil : i < ks.length := by omega
      have ht := szL_take hil
      have hle := szL_take_le ks (i + 1)
      conv => whnf
      refine IdxC.encK i hil rfl ?_
      conv => whnf
      have e1 : IntKind.i64.wrap ((most : Int) - ((1 + szL (ks.take i) : Nat) : Int)) = ((most - (1 + szL (ks.take i)) : Nat) : Int) := by
        exact (Go.Vc.wrap_small (a := (most : Int) - ((1 + szL (ks.take i) : Nat) : Int)) (by omega) (by omega)).trans (by omega)
      rw [e1]
      refine callF (ih ks[i] (by simp) (most - (1 + szL (ks.take i))) (by omega)) gf50 rfl rfl ?_
      conv => whnf
      have hw : ∀ c : Nat, c ≤ most - (1 + szL (ks.take i)) + 1 → IntKind.i64.wrap (((1 + szL (ks.take i) : Nat) : Int) + (c : Int)) = ((1 + szL (ks.take i) + c : Nat) : Int) := fun c hc =>
        (Go.Vc.wrap_small (a := ((1 + szL (ks.take i) : Nat) : Int) + (c : Int)) (by omega) (by omega)).trans (by omega)
      refine And.intro (fun h2 => ?_) (fun h2 => ?_)
      · have h2 : ¬ szT ks[i] ≤ most - (1 + szL (ks.take i)) := by simpa using h2
        conv => whnf
        rw [cntD, cutN, if_neg h2, hw _ (Nat.le_refl _), cutN, if_neg (by omega), decide_eq_false (by omega)]
        have : 1 + szL (ks.take i) + (most - (1 + szL (ks.take i)) + 1) = most + 1 := by omega
        rw [this]
      · have h2 : szT ks[i] ≤ most - (1 + szL (ks.take i)) := by simpa using h2
        conv => whnf
        rw [cutN, if_pos h2, hw _ (by omega), show 1 + szL (ks.take i) + szT ks[i] = 1 + szL (ks.take (i + 1)) from by omega]
        exact again (i + 1) (by omega) ⟨by omega, by omega⟩ (weak_of rfl (by repeat ((conv => whnf); first | exact trivial | refine And.intro rfl ?_ | refine And.intro (incD (by omega)) ?_)) (by repeat ((conv => whnf); first | exact trivial | refine And.intro rfl ?_ | refine And.intro (incD (by omega)) ?_)))
    · have hb := of_decide_eq_false hb
      have : i = ks.length := by omega
      subst this
      rw [List.take_length] at hx ⊢
      conv => whnf
      rw [cntD, cutN, if_pos (by omega), decide_eq_true (by omega), hsz, Nat.add_comm 1]
theorem size_fn (t : Tp) : FnR Tryd.prog G0 21 [dT t] (.int .i64 (cutN (szT t) 1000)) := by
  refine fnQ_of_vc txok mixed [] Tryd.func21 rfl rfl (by simp) fun b => ?_
  conv => whnf
  refine callF (count_fn t 1000 (by omega)) gf50 rfl rfl ?_
  conv => whnf
  refine And.intro (fun h => ?_) (fun h => ?_)
  · have h : ¬ szT t ≤ 1000 := by simpa using h
    conv => whnf
    rw [cutN, if_neg h]; rfl
  · conv => whnf
theorem fits_fn (t : Tp) : FnR Tryd.prog G0 22 [dT t] (.bool (decide (szT t ≤ 1000))) := by
  refine fnQ_of_vc txok mixed [] Tryd.func22 rfl rfl (by simp) fun b => ?_
  conv => whnf
  refine callF (count_fn t 1000 (by omega)) gf50 rfl rfl ?_
  conv => whnf
end Go.Proofs.YtmgmddcehjcbkaaDoor
