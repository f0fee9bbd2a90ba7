/- The law TypesReplaces: what it computes. -/
import Derived.Test.YtmgmddcehjcbkaaDoorRc
set_option linter.unusedSimpArgs false
set_option linter.unusedVariables false
namespace Go.Proofs.YtmgmddcehjcbkaaDoor
open Go.Vx Go.Vc Go.RowKit

theorem replaces_fn (t : Tp) (kind : Int) (fr : List Int) (to : List Tp) : FnR Tryd.prog G0 4 [dT t, .int .i64 kind, dI fr, dK to] (.bool true) := by
  refine fnQ_sz fun hs => ?_
  have hf := (szOk_sl hs.2.2.1).1
  have hto := (szOk_sl hs.2.2.2.1).1
  refine fnQ_of_vc txok mixed [] Tryd.func4 rfl rfl (by simp) fun b => ?_
  have fA := replace_fn t kind fr to
  have fB := rreplace_fn t kind fr to
  generalize repl t kind fr to = r at *
  conv => whnf
  refine appR (i := 1) (sz := 1) (n := 0) (m := fr.length) (xs := []) (ys := encI fr) txok (fun _ => false) fr.length (encI fr) rfl rfl rfl (by kernel_rfl) (by simp [encI]) (encI_scal fr) (by simp) (by simp) hf ?_
  conv => whnf
  refine appR (i := 2) (sz := 3) (n := 0) (m := to.length) (xs := []) (ys := encK to) txok (fun _ => false) to.length (encK to) rfl rfl rfl (by kernel_rfl) (encK_len to) (encK_scal to) (by simp) (by simp) hto ?_
  conv => whnf
  refine pubC (fun _ => true) ?_
  conv => whnf
  refine callF fA gf16 rfl rfl ?_
  conv => whnf
  refine callF fB gf17 rfl rfl ?_
  conv => whnf
  have hS := rsame_fn r.1 r.1
  rw [cmpT_refl] at hS
  refine callF hS gf12 rfl rfl ?_
  conv => whnf
  refine And.intro (fun _ => ?_) (fun h => by cases h)
  conv => whnf
  refine And.intro (fun _ => ?_) (fun h => by simp at h)
  conv => whnf
  refine callF (ints_fn fr fr) gf18 rfl rfl ?_
  conv => whnf
  refine And.intro (fun _ => ?_) (fun h => by simp at h)
  conv => whnf
  exact callF alive_fn gf15 rfl rfl rfl
end Go.Proofs.YtmgmddcehjcbkaaDoor
