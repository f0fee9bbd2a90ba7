/- The law SchemeGeneral: the walk. -/
import Derived.Test.YtonhlccjfbfkcaaQv
import Derived.Test.YtonhlccjfbfkcaaVxt
import Derived.Test.YtonhlccjfbfkcaaVxt
import Derived.Test.YtonhlccjfbfkcaaVxt
import Derived.Test.YtonhlccjfbfkcaaVxt
import Derived.Test.YtonhlccjfbfkcaaVxt
set_option linter.unusedSimpArgs false
set_option linter.unusedVariables false
namespace Go.Proofs.Ytonhlccjfbfkcaa
open Go.Vx Go.Vc Go.RowKit

theorem general_fn (t : Tp) (keep : List Int) (l : List Tp) (a c : Sc) (ht : szT t ≤ BIG) (ha : szT a.t ≤ BIG) (hc : szT c.t ≤ BIG) : FnR Try.prog G0 8 [dT t, dI keep, dK l, dS a, dS c] (.bool true) := by
  refine fnQ_sz fun hs => ?_
  have hll := (szOk_sl hs.2.2.1).1
  simp only [LB] at hll
  have hgz := Vm.general_sz t keep
  have gA := generalise_fn t keep ht
  have h8 := fnd8 ht 8
  have hgl : (fnd 8 t []).length * 8 ≤ LB := by simp only [BIG] at h8; simp only [LB]; omega
  have hkey : right t = true → fnd 8 t [] = [] → Vm.rightS (Vm.genAll t keep) = true := fun h1 h2 => Vm.general_right (by rw [vright]; exact h1) (by rw [vfnd]; exact h2)
  generalize hgs : Vm.genAll t keep = s at *
  have hsz : szT s.t ≤ BIG := by omega
  refine fnQ_of_vc txok mixed ((100013, .done) :: [(11, .pure 0 (.pure 1 (.pure 2 (.pure 3 (.pure 4 (.pure 5 (.take 6 (.run 7 (.pure 8 (.pure 9 (.pure 10 (.pure 11 (.take 12 (.take 13 (.run 14 (.fin 15 (.pure 16 (.pure 17 .done))))))))))))))))))]) Try.func8 rfl rfl (by simp) fun b => ?_
  conv => whnf
  refine callF gA gf11 rfl rfl ?_
  conv => whnf
  refine CutC.mk (fun st => st = ⟨[(8, .own 1 0), (9, .own 2 0)], [(1, .blk 29 [.d (.int .i64 a.g), .d (.int .i64 a.t.k), .d (.int .i64 a.t.n), .d (dK a.t.kids)]), (2, .blk 29 [.d (.int .i64 c.g), .d (.int .i64 c.t.k), .d (.int .i64 c.t.n), .d (dK c.t.kids)])], 3⟩) ?_ ?_
  · conv => whnf
    refine callF (right_fn t) gf31 rfl rfl ?_
    conv => whnf
    refine And.intro (fun h1 => ?_) (fun h1 => ?_)
    · conv => whnf
      refine callF (gens_fn t hgl) gf14 rfl rfl ?_
      conv => whnf
      refine And.intro (fun h2 => ?_) (fun h2 => ?_)
      · have h2 : fnd 8 t [] = [] := List.eq_nil_of_length_eq_zero (by have := eq_of_beq h2; omega)
        have hr := hkey h1 h2
        have hR := rightS_fn s hsz
        rw [hr] at hR
        conv => whnf
        refine callF hR gf22 rfl rfl ?_
        conv => whnf
        refine And.intro (fun h => by simp at h) (fun _ => ?_)
        conv => whnf
        refine loopH (fun x : Nat × Bool => x.1 ≤ l.length ∧ x.2 = (l.take x.1).all right) (fun x => l.length - x.1) (fun x => [(13, .d (.int .i64 x.1)), (12, .d (.bool x.2))]) (fun _ => [(0, .blk 24 [.d (.int .i64 t.k), .d (.int .i64 t.n), .d (dK t.kids)]), (1, .blk 29 [.d (.int .i64 a.g), .d (.int .i64 a.t.k), .d (.int .i64 a.t.n), .d (dK a.t.kids)]), (2, .blk 29 [.d (.int .i64 c.g), .d (.int .i64 c.t.k), .d (.int .i64 c.t.n), .d (dK c.t.kids)]), (3, .blk 29 [.d (.int .i64 s.g), .d (.int .i64 s.t.k), .d (.int .i64 s.t.n), .d (dK s.t.kids)])]) 4 (0, true) ⟨by simp, by simp⟩ ((weak_kbT 12 true rfl).trans (weak_of rfl (by repeat ((conv => whnf); first | exact trivial | refine And.intro rfl ?_ | refine And.intro (incD (by omega)) ?_)) (by repeat ((conv => whnf); first | exact trivial | refine And.intro rfl ?_ | refine And.intro (incD (by omega)) ?_)))) ?_
        rintro ⟨i, g⟩ ⟨hi, hgd⟩
        simp only at hi hgd
        conv => whnf
        refine And.intro (fun hb => ?_) (fun hb => ?_)
        · have hb : (i : Int) < (l.length : Int) := of_decide_eq_true hb
          have hil : i < l.length := by omega
          have hall : (l.take (i + 1)).all right = (g && right l[i]) := by
            rw [List.take_succ_eq_append_getElem hil, List.all_append, ← hgd]; simp
          conv => whnf
          refine And.intro (fun hg => ?_) (fun hg => ?_)
          · have hg : g = true := hg
            rw [hg, Bool.true_and] at hall
            conv => whnf
            refine IdxC.encK i hil rfl ?_
            conv => whnf
            refine callF (right_fn l[i]) gf31 rfl rfl ?_
            conv => whnf
            exact again (i + 1, right l[i]) (by simp only; omega) ⟨by simp only; omega, by simp only; exact hall.symm⟩ (weak_of rfl (by repeat ((conv => whnf); first | exact trivial | refine And.intro rfl ?_ | refine And.intro (incD (by omega)) ?_)) (by repeat ((conv => whnf); first | exact trivial | refine And.intro rfl ?_ | refine And.intro (incD (by omega)) ?_)))
          · have hg : g = false := hg
            rw [hg, Bool.false_and] at hall
            conv => whnf
            exact again (i + 1, false) (by simp only; omega) ⟨by simp only; omega, by simp only; exact hall.symm⟩ ((weak_kbT 12 false rfl).trans (weak_of rfl (by repeat ((conv => whnf); first | exact trivial | refine And.intro rfl ?_ | refine And.intro (incD (by omega)) ?_)) (by repeat ((conv => whnf); first | exact trivial | refine And.intro rfl ?_ | refine And.intro (incD (by omega)) ?_))))
        · have hb : ¬ (i : Int) < (l.length : Int) := of_decide_eq_false hb
          have hi : i = l.length := by omega
          subst hi
          rw [List.take_length] at hgd
          have iA := instance_fn s l hsz
          have hzr := instOf_sz s l
          have hok := instOf_ok (s := s) (l := l)
          generalize instOf s l = r at *
          conv => whnf
          refine callF iA gf28 rfl rfl ?_
          conv => whnf
          refine And.intro (by kernel_rfl) ?_
          conv => whnf
          refine And.intro (fun hg => ?_) (fun hg => ?_)
          · have hg : g = true := hg
            rw [hg] at hgd
            conv => whnf
            refine And.intro (fun he => ?_) (fun he => ?_)
            · have he : r.2 = 0 := eq_of_beq he
              obtain ⟨_, hlg, hrg⟩ := hok he
              have h8r := fnd8 (t := r.1) (by simp only [BIG]; omega) 8
              conv => whnf
              refine callF (gens_fn r.1 (by simp only [BIG] at h8r; simp only [LB]; omega)) gf14 rfl rfl ?_
              conv => whnf
              refine And.intro (fun hz => ?_) (fun hz => ?_)
              · have hz : fnd 8 r.1 [] = [] := List.eq_nil_of_length_eq_zero (by have := eq_of_beq hz; omega)
                have hL := atLeast_fn s ⟨0, r.1⟩ hsz (by simp only [BIG]; omega)
                have hT : Vm.atL s ⟨0, r.1⟩ = true := by
                  rw [hrg]
                  refine Vm.atL_true.2 (Vm.general_least hr hlg (fun t ht => ?_) (by rw [vfnd, ← hrg]; exact hz))
                  rw [vright]; exact List.all_eq_true.1 hgd.symm t ht
                rw [hT] at hL
                conv => whnf
                refine callF (mono_fn r.1) gf32 rfl rfl ?_
                conv => whnf
                refine callF hL gf18 rfl rfl ?_
                conv => whnf
                refine And.intro (fun h => by simp at h) (fun _ => ?_)
                conv => whnf
                exact ⟨_, rfl, weak_of rfl (by repeat ((conv => whnf); first | exact trivial | refine And.intro rfl ?_ | refine And.intro (incD (by omega)) ?_)) (by repeat ((conv => whnf); first | exact trivial | refine And.intro rfl ?_ | refine And.intro (incD (by omega)) ?_))⟩
              · conv => whnf
                exact ⟨_, rfl, weak_of rfl (by repeat ((conv => whnf); first | exact trivial | refine And.intro rfl ?_ | refine And.intro (incD (by omega)) ?_)) (by repeat ((conv => whnf); first | exact trivial | refine And.intro rfl ?_ | refine And.intro (incD (by omega)) ?_))⟩
            · conv => whnf
              exact ⟨_, rfl, weak_of rfl (by repeat ((conv => whnf); first | exact trivial | refine And.intro rfl ?_ | refine And.intro (incD (by omega)) ?_)) (by repeat ((conv => whnf); first | exact trivial | refine And.intro rfl ?_ | refine And.intro (incD (by omega)) ?_))⟩
          · conv => whnf
            exact ⟨_, rfl, weak_of rfl (by repeat ((conv => whnf); first | exact trivial | refine And.intro rfl ?_ | refine And.intro (incD (by omega)) ?_)) (by repeat ((conv => whnf); first | exact trivial | refine And.intro rfl ?_ | refine And.intro (incD (by omega)) ?_))⟩
      · conv => whnf
        exact ⟨_, rfl, weak_of rfl (by repeat ((conv => whnf); first | exact trivial | refine And.intro rfl ?_ | refine And.intro (incD (by omega)) ?_)) (by repeat ((conv => whnf); first | exact trivial | refine And.intro rfl ?_ | refine And.intro (incD (by omega)) ?_))⟩
    · conv => whnf
      exact ⟨_, rfl, weak_of rfl (by repeat ((conv => whnf); first | exact trivial | refine And.intro rfl ?_ | refine And.intro (incD (by omega)) ?_)) (by repeat ((conv => whnf); first | exact trivial | refine And.intro rfl ?_ | refine And.intro (incD (by omega)) ?_))⟩
  · rintro st' rfl
    conv => whnf
    refine callQ rfl rfl gf15 (match_fn a c ha hc) ?_
    rintro o' ⟨m, hm, rfl⟩
    cases m with
    | none =>
      conv => whnf
      refine And.intro (fun h => by simp at h) (fun _ => ?_)
      conv => whnf
      exact callF alive_fn gf10 rfl rfl rfl
    | some m =>
      have hlaw := general_match hm
      have iA := instance_fn a m ha
      generalize instOf a m = r at *
      conv => whnf
      refine And.intro (fun _ => ?_) (fun h => by simp at h)
      conv => whnf
      refine callF iA gf28 rfl rfl ?_
      conv => whnf
      refine And.intro (fun he => ?_) (fun he => ?_)
      · have he : r.2 = 0 := eq_of_beq he
        rcases hlaw with ⟨_, h2⟩ | ⟨h1, _⟩
        · have sA := same_fn c.t c.t
          rw [cmpT_refl] at sA
          rw [h2]
          conv => whnf
          refine callF sA gf33 rfl rfl ?_
          conv => whnf
          refine And.intro (fun _ => ?_) (fun h => by simp at h)
          conv => whnf
          refine And.intro (fun h => by simp [he] at h) (fun _ => ?_)
          conv => whnf
          exact callF alive_fn gf10 rfl rfl rfl
        · exact absurd he h1
      · have he : r.2 ≠ 0 := by simpa using he
        have hF := fits_fn c.t
        rw [show decide (szT c.t ≤ 1000) = false from by
          rcases hlaw with ⟨h, _⟩ | ⟨_, h⟩
          · exact absurd h he
          · exact decide_eq_false h] at hF
        conv => whnf
        refine And.intro (fun _ => ?_) (fun h => by simp [he] at h)
        conv => whnf
        refine callF hF gf34 rfl rfl ?_
        conv => whnf
        refine And.intro (fun h => by simp at h) (fun _ => ?_)
        conv => whnf
        exact callF alive_fn gf10 rfl rfl rfl
end Go.Proofs.Ytonhlccjfbfkcaa
