/- The order of types. -/
import Derived.Test.YtmgmddcehjcbkaaDoorGb
set_option linter.unusedSimpArgs false
set_option linter.unusedVariables false
namespace Go.Proofs.YtmgmddcehjcbkaaDoor
open Go.Vx Go.Vc Go.RowKit

theorem isNaN_fn (a : Int) : FnR Tryd.prog G0 57 [.int .i64 a] (.bool false) := by
  refine fnQ_of_vc txok mixed [] Tryd.func57 rfl rfl (by simp) fun b => ?_
  conv => whnf
  simp
theorem compare_fn (a c : Int) : FnR Tryd.prog G0 38 [.int .i64 a, .int .i64 c] (.int .i64 (cmpI a c)) := by
  refine fnQ_of_vc txok mixed [] Tryd.func38 rfl rfl (by simp) fun b => ?_
  conv => whnf
  refine callF (isNaN_fn a) gf57 rfl rfl ?_
  conv => whnf
  refine callF (isNaN_fn c) gf57 rfl rfl ?_
  (repeat' ((conv => whnf); first | refine And.intro (fun _ => ?_) (fun _ => ?_))) <;> (conv => whnf)
  all_goals try contradiction
  all_goals refine congrArg (D.int .i64) ?_
  all_goals simp_all [cmpI]
  all_goals omega
theorem contains_fn (l : List Int) (x : Int) : FnR Tryd.prog G0 67 [dI l, .int .i64 x] (.bool (decide (idxFrom l x 0 ≥ 0))) := by
  refine fnQ_of_vc txok mixed [] Tryd.func67 rfl rfl (by simp) fun b => ?_
  conv => whnf
  exact callF (index_fn l x) gf58 rfl rfl rfl
theorem or_fn (l : List Int) : FnR Tryd.prog G0 37 [dI l] (.int .i64 (orL l)) := by
  refine fnQ_sz fun hs => ?_
  have hl := (szOk_sl hs.1).1
  simp only [LB] at hl
  refine fnQ_of_vc txok mixed [] Tryd.func37 rfl rfl (by simp) fun b => ?_
  conv => whnf
  refine loopH (fun i : Nat => i ≤ l.length ∧ orL l = orL (l.drop i)) (fun i => l.length - i) (fun i => [(8, .d (.int .i64 i))]) (fun _ => []) 0 0 ⟨by omega, rfl⟩ (weak_of rfl (by repeat ((conv => whnf); first | exact trivial | refine And.intro rfl ?_ | refine And.intro (incD (by omega)) ?_)) (by repeat ((conv => whnf); first | exact trivial | refine And.intro rfl ?_ | refine And.intro (incD (by omega)) ?_))) ?_
  rintro i ⟨hi, hx⟩
  conv => whnf
  refine And.intro (fun hb => ?_) (fun hb => ?_)
  · have hb := of_decide_eq_true hb
    have hil : i < l.length := by omega
    rw [List.drop_eq_getElem_cons hil, orL] at hx
    conv => whnf
    refine IdxC.encI i hil rfl ?_
    conv => whnf
    refine And.intro (fun he => ?_) (fun he => ?_)
    · conv => whnf
      rw [hx, if_pos (by simpa using he)]
    · conv => whnf
      rw [if_neg (by simpa using he)] at hx
      exact again (i + 1) (by omega) ⟨by omega, hx⟩ (weak_of rfl (by repeat ((conv => whnf); first | exact trivial | refine And.intro rfl ?_ | refine And.intro (incD (by omega)) ?_)) (by repeat ((conv => whnf); first | exact trivial | refine And.intro rfl ?_ | refine And.intro (incD (by omega)) ?_)))
  · have hb := of_decide_eq_false hb
    conv => whnf
    rw [hx, List.drop_eq_nil_of_le (by omega)]; rfl

def CmpOk (f : FuncId) (t : Tp) : Prop := ∀ u : Tp, FnR Tryd.prog G0 f [dT t, dT u] (.int .i64 (cmpT t u))
theorem compareFunc_fn (l m : List Tp) (ih : ∀ t ∈ l, CmpOk 13 t) : FnR Tryd.prog G0 39 [dK l, dK m, .fn 13 [] []] (.int .i64 (cmpL l m)) := by
  refine fnQ_sz fun hs => ?_
  have hl := (szOk_sl hs.1).1
  simp only [LB] at hl
  refine fnQ_of_vc txok mixed [] Tryd.func39 rfl rfl (by simp) fun b => ?_
  conv => whnf
  refine loopH (fun i : Nat => i ≤ l.length ∧ i ≤ m.length ∧ cmpL l m = cmpL (l.drop i) (m.drop i)) (fun i => l.length - i) (fun i => [(13, .d (.int .i64 i))]) (fun _ => []) 0 0 ⟨by omega, by omega, rfl⟩ (weak_of rfl (by repeat ((conv => whnf); first | exact trivial | refine And.intro rfl ?_ | refine And.intro (incD (by omega)) ?_)) (by repeat ((conv => whnf); first | exact trivial | refine And.intro rfl ?_ | refine And.intro (incD (by omega)) ?_))) ?_
  rintro i ⟨hi, him, hx⟩
  conv => whnf
  refine And.intro (fun hb => ?_) (fun hb => ?_)
  · have hb := of_decide_eq_true hb
    have hil : i < l.length := by omega
    conv => whnf
    refine IdxC.encK i hil rfl ?_
    conv => whnf
    refine And.intro (fun hc => ?_) (fun hc => ?_)
    · have hc := of_decide_eq_true hc
      conv => whnf
      rw [hx, List.drop_eq_getElem_cons hil, List.drop_eq_nil_of_le (show m.length ≤ i by omega)]
      rfl
    · have hc := of_decide_eq_false hc
      have him' : i < m.length := by omega
      conv => whnf
      refine IdxC.encK i him' rfl ?_
      conv => whnf
      refine callF (ih l[i] (by simp) m[i]) gf13 rfl rfl ?_
      conv => whnf
      refine And.intro (fun he => ?_) (fun he => ?_)
      · conv => whnf
        rw [hx, cmpL_drop hil him', if_pos (by simpa using he)]
      · conv => whnf
        rw [cmpL_drop hil him', if_neg (by simpa using he)] at hx
        exact again (i + 1) (by omega) ⟨by omega, by omega, hx⟩ (weak_of rfl (by repeat ((conv => whnf); first | exact trivial | refine And.intro rfl ?_ | refine And.intro (incD (by omega)) ?_)) (by repeat ((conv => whnf); first | exact trivial | refine And.intro rfl ?_ | refine And.intro (incD (by omega)) ?_)))
  · have hb := of_decide_eq_false hb
    rw [List.drop_eq_nil_of_le (show l.length ≤ i by omega)] at hx
    conv => whnf
    refine And.intro (fun hc => ?_) (fun hc => ?_)
    · have hc := of_decide_eq_true hc
      conv => whnf
      rw [hx, List.drop_eq_getElem_cons (show i < m.length by omega)]
      rfl
    · have hc := of_decide_eq_false hc
      conv => whnf
      rw [hx, List.drop_eq_nil_of_le (show m.length ≤ i by omega)]
      rfl
theorem cmp_fn : ∀ t, CmpOk 13 t := by
  refine Tp.ind fun k n ks ih u => ?_
  obtain ⟨k', n', ks'⟩ := u
  refine fnQ_of_vc txok mixed [(1, .pure 0 (.take 1 (.pure 2 (.take 3 (.pure 5 (.take 6 (.pure 7 (.take 8 (.pure 10 (.take 11 (.pure 12 (.pure 13 (.take 14 (.pure 15 (.pure 17 (.take 18 (.pure 19 (.take 20 (.run 4 (.run 9 (.run 16 (.fin 21 (.fin 22 (.fin 23 (.pure 24 .done)))))))))))))))))))))))))] Tryd.func13 rfl rfl (by simp) fun b => ?_
  conv => whnf
  refine And.intro (by kernel_rfl) ?_
  conv => whnf
  refine callF (compare_fn k k') gf38 rfl rfl ?_
  conv => whnf
  refine callF (compare_fn n n') gf38 rfl rfl ?_
  conv => whnf
  refine callF (compare_fn ks.length ks'.length) gf38 rfl rfl ?_
  conv => whnf
  refine callF (compareFunc_fn ks ks' ih) gf39 rfl rfl ?_
  conv => whnf
  refine callV (or_fn [cmpI k k', cmpI n n', cmpI ks.length ks'.length, cmpL ks ks']) gf37 rfl rfl rfl rfl ?_
  conv => whnf
  simp only [cmpT]
theorem same_fn (t u : Tp) : FnR Tryd.prog G0 11 [dT t, dT u] (.bool (cmpT t u == 0)) := by
  refine fnQ_of_vc txok mixed [] Tryd.func11 rfl rfl (by simp) fun b => ?_
  conv => whnf
  exact callF (cmp_fn t u) gf13 rfl rfl rfl
end Go.Proofs.YtmgmddcehjcbkaaDoor
