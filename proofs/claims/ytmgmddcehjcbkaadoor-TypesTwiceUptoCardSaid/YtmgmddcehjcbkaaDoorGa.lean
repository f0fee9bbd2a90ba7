/- types.Right. -/
import Derived.Test.YtmgmddcehjcbkaaDoorTx
set_option linter.unusedSimpArgs false
set_option linter.unusedVariables false
namespace Go.Proofs.YtmgmddcehjcbkaaDoor
open Go.Vx Go.Vc Go.RowKit

abbrev G0 : Glob := ⟨fun _ _ => True, fun _ _ _ _ => trivial⟩

theorem right_fn : ∀ t : Tp, FnR Tryd.prog G0 19 [dT t] (.bool (right t)) := by
  refine Tp.ind fun k n ks ih => ?_
  refine fnQ_of_vc txok mixed [] Tryd.func19 rfl rfl (by simp) fun b => ?_
  (repeat' ((conv => whnf); first | refine And.intro (fun _ => ?_) (fun _ => ?_))) <;> (conv => whnf)
  all_goals simp only [mk_k, mk_n, mk_kids, Bool.not_true] at *
  all_goals try (refine congrArg D.bool ?_; first | (simp only [right, *, Bool.or_self, Bool.true_or, Bool.or_true, Bool.false_or, Bool.or_false, Bool.false_and, Bool.and_false, Bool.true_and, Bool.and_true, Bool.and_self, Bool.not_true, Bool.not_false]; done) | (simp_all [right]; done) | (simp_all [right]; omega))
  all_goals
    have h2 : ks.length = 2 := by rename_i h2; have := eq_of_beq h2; omega
    obtain ⟨t, u, rfl⟩ : ∃ t u, ks = [t, u] := by
      match ks, h2 with
      | [t, u], _ => exact ⟨t, u, rfl⟩
    refine IdxC.encK 0 (by simp) rfl ?_
    conv => whnf
    refine callF (ih t (by simp)) gf19 rfl rfl ?_
    (repeat' ((conv => whnf); first | refine And.intro (fun _ => ?_) (fun _ => ?_))) <;> (conv => whnf)
  all_goals try (refine congrArg D.bool ?_; first | (simp only [right, rights, *, Bool.or_self, Bool.true_or, Bool.or_true, Bool.false_or, Bool.or_false, Bool.false_and, Bool.and_false, Bool.true_and, Bool.and_true, Bool.and_self, Bool.not_true, Bool.not_false]; done) | (simp_all [right, rights]; done) | (simp_all [right, rights]; omega))
  all_goals
    refine IdxC.encK 1 (by simp) rfl ?_
    conv => whnf
    refine callF (ih u (by simp)) gf19 rfl rfl ?_
    conv => whnf
    refine congrArg D.bool ?_; first | (simp only [right, rights, *, Bool.or_self, Bool.true_or, Bool.or_true, Bool.false_or, Bool.or_false, Bool.false_and, Bool.and_false, Bool.true_and, Bool.and_true, Bool.and_self, Bool.not_true, Bool.not_false]; done) | (simp_all [right, rights]; done) | (simp_all [right, rights]; omega)
end Go.Proofs.YtmgmddcehjcbkaaDoor
