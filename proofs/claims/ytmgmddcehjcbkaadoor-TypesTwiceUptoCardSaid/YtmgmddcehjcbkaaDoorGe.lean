/- What a type holds: found, Stamps, Metas, Gens, Closed. -/
import Derived.Test.YtmgmddcehjcbkaaDoorGd
set_option linter.unusedSimpArgs false
set_option linter.unusedVariables false
namespace Go.Proofs.YtmgmddcehjcbkaaDoor
open Go.Vx Go.Vc Go.RowKit

theorem found_fn (kind : Int) (t : Tp) (hl : (fnd kind t []).length * 8 ≤ LB) : FnR Tryd.prog G0 51 [dT t, .int .i64 kind] (dI (fnd kind t [])) := by
  refine fnQ_of_vc txok mixed [] Tryd.func51 rfl rfl (by simp) fun b => ?_
  conv => whnf
  refine weakC _ (weak_nlC 1 1 3 8 1 rfl rfl) ?_
  refine callT [1, 2] (walk_tri kind t [] hl) gf63 rfl rfl ⟨rfl, rfl, trivial⟩ rfl ?_
  rintro o' H' ⟨rfl, rfl⟩
  conv => whnf

theorem stamps_fn (t : Tp) (hl : (fnd 6 t []).length * 8 ≤ LB) : FnR Tryd.prog G0 24 [dT t] (dI (fnd 6 t [])) := by
  refine fnQ_of_vc txok mixed [] Tryd.func24 rfl rfl (by simp) fun b => ?_
  conv => whnf
  exact callF (found_fn 6 t hl) gf51 rfl rfl rfl
theorem metas_fn (t : Tp) (hl : (fnd 7 t []).length * 8 ≤ LB) : FnR Tryd.prog G0 30 [dT t] (dI (fnd 7 t [])) := by
  refine fnQ_of_vc txok mixed [] Tryd.func30 rfl rfl (by simp) fun b => ?_
  conv => whnf
  exact callF (found_fn 7 t hl) gf51 rfl rfl rfl
theorem gens_fn (t : Tp) (hl : (fnd 8 t []).length * 8 ≤ LB) : FnR Tryd.prog G0 32 [dT t] (dI (fnd 8 t [])) := by
  refine fnQ_of_vc txok mixed [] Tryd.func32 rfl rfl (by simp) fun b => ?_
  conv => whnf
  exact callF (found_fn 8 t hl) gf51 rfl rfl rfl
end Go.Proofs.YtmgmddcehjcbkaaDoor
