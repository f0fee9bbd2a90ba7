/- Helpers of laws; the law TypesTwice: what it computes. -/
import Derived.Test.YtmgmddcehjcbkaaDoorHu
import Derived.Test.YtmgmddcehjcbkaaDoorVpd
set_option linter.unusedSimpArgs false
set_option linter.unusedVariables false
namespace Go.Proofs.YtmgmddcehjcbkaaDoor
open Go.Vx Go.Vc Go.RowKit

theorem in_fn (l : List Int) (x : Int) : FnR Tryd.prog G0 23 [dI l, .int .i64 x] (.bool (decide (x ∈ l))) := by
  refine fnQ_sz fun hs => ?_
  have hl := (szOk_sl hs.1).1
  simp only [LB] at hl
  refine fnQ_of_vc txok mixed [] Tryd.func23 rfl rfl (by simp) fun b => ?_
  conv => whnf
  refine loopH (fun i : Nat => i ≤ l.length ∧ (x ∈ l ↔ x ∈ l.drop i)) (fun i => l.length - i) (fun i => [(5, .d (.int .i64 i))]) (fun _ => []) 0 0 ⟨by omega, by simp⟩ (weak_of rfl (by repeat ((conv => whnf); first | exact trivial | refine And.intro rfl ?_ | refine And.intro (incD (by omega)) ?_)) (by repeat ((conv => whnf); first | exact trivial | refine And.intro rfl ?_ | refine And.intro (incD (by omega)) ?_))) ?_
  rintro i ⟨hi, hx⟩
  conv => whnf
  refine And.intro (fun hb => ?_) (fun hb => ?_)
  · have hb := of_decide_eq_true hb
    have hil : i < l.length := by omega
    rw [List.drop_eq_getElem_cons hil, List.mem_cons] at hx
    conv => whnf
    refine IdxC.encI i hil rfl ?_
    conv => whnf
    refine And.intro (fun he => ?_) (fun he => ?_)
    · have he := eq_of_beq he
      conv => whnf
      rw [decide_eq_true (hx.2 (.inl he.symm))]
    · have he : l[i] ≠ x := by simpa using he
      exact again (i + 1) (by omega) ⟨by omega, hx.trans ⟨fun h => h.resolve_left (Ne.symm he), .inr⟩⟩ (weak_of rfl (by repeat ((conv => whnf); first | exact trivial | refine And.intro rfl ?_ | refine And.intro (incD (by omega)) ?_)) (by repeat ((conv => whnf); first | exact trivial | refine And.intro rfl ?_ | refine And.intro (incD (by omega)) ?_)))
  · have hb := of_decide_eq_false hb
    rw [List.drop_eq_nil_of_le (by omega)] at hx
    conv => whnf
    rw [decide_eq_false (by rw [hx]; simp)]
theorem stampsB_fn (t : Tp) (h : szT t ≤ 1048576) : FnR Tryd.prog G0 24 [dT t] (dI (fnd 6 t [])) :=
  stamps_fn t (by have := fnd_sz 6 t []; simp only [List.length_nil, LB] at *; omega)
theorem dK1 (u : Tp) : dK [u] = slD 40 1 (encT u) := by unfold dK; simp only [Vx.encK, encT0_eq, List.append_nil]; rfl
theorem dK2 (u v : Tp) : dK [u, v] = slD 40 2 (encT u ++ encT v) := by unfold dK; simp only [Vx.encK, encT0_eq, List.append_nil]; rfl
theorem repl1_fn (t : Tp) (n : Int) (u : Tp) : FnR Tryd.prog G0 16 [dT t, .int .i64 6, dI [n], slD 40 1 (encT u)] (replD (repl t 6 [n] [u])) := by
  rw [← dK1]; exact replace_fn t 6 [n] [u]
theorem repl2_fn (t : Tp) (n m : Int) (u v : Tp) : FnR Tryd.prog G0 16 [dT t, .int .i64 6, dI [n, m], slD 40 2 (encT u ++ encT v)] (replD (repl t 6 [n, m] [u, v])) := by
  rw [← dK2]; exact replace_fn t 6 [n, m] [u, v]
theorem repl_cases {t : Tp} {kind : Int} {fr : List Int} {to : List Tp} (h : fr.length = to.length) : (repl t kind fr to = (sub kind (tbl fr to) t, 0) ∧ szT (sub kind (tbl fr to) t) ≤ 1000) ∨ (repl t kind fr to = (tp0, 3) ∧ 1000 < szT (sub kind (tbl fr to) t)) := by
  unfold repl
  rw [if_pos h]
  split
  · exact .inl ⟨rfl, by assumption⟩
  · exact .inr ⟨rfl, by omega⟩
theorem twice_fn (t u v : Tp) (n m : Int) (hu : szT u ≤ 1048576) : FnR Tryd.prog G0 8 [dT t, dT u, dT v, .int .i64 n, .int .i64 m] (.bool true) := by
  refine fnQ_of_vc txok mixed ((100003, .done) :: (100007, .done) :: []) Tryd.func8 rfl rfl (by simp) fun b => ?_
  conv => whnf
  refine CutC.mk (fun st => (n ≠ m ∧ ¬ hasN 6 m u) ∧ st = ⟨[(3, .d (.int .i64 n)), (4, .d (.int .i64 m)), (5, .own 0 0), (6, .own 1 0), (7, .own 2 0)], [(0, .blk 24 [.d (.int .i64 t.k), .d (.int .i64 t.n), .d (dK t.kids)]), (1, .blk 24 [.d (.int .i64 u.k), .d (.int .i64 u.n), .d (dK u.kids)]), (2, .blk 24 [.d (.int .i64 v.k), .d (.int .i64 v.n), .d (dK v.kids)])], 3⟩) ?_ ?_
  · conv => whnf
    refine And.intro (fun h => ?_) (fun h => ?_)
    · have h : n ≠ m := by simpa using h
      conv => whnf
      refine callF (stampsB_fn u hu) gf24 rfl rfl ?_
      conv => whnf
      refine callF (in_fn (fnd 6 u []) m) gf23 rfl rfl ?_
      conv => whnf
      refine And.intro (fun h2 => ?_) (fun h2 => ?_)
      · conv => whnf
        exact callF alive_fn gf15 rfl rfl rfl
      · have h2 := of_decide_eq_false h2
        rw [mem_fnd] at h2
        conv => whnf
        exact ⟨_, ⟨⟨h, fun h3 => h2 (.inr h3)⟩, rfl⟩, weak_of rfl (by repeat ((conv => whnf); first | exact trivial | refine And.intro rfl ?_ | refine And.intro (incD (by omega)) ?_)) (by repeat ((conv => whnf); first | exact trivial | refine And.intro rfl ?_ | refine And.intro (incD (by omega)) ?_))⟩
    · conv => whnf
      exact callF alive_fn gf15 rfl rfl rfl
  · rintro st' ⟨⟨hnm, hmu⟩, rfl⟩
    have hA := repl_cases (t := t) (kind := 6) (fr := [n, m]) (to := [u, v]) rfl
    have hB := repl_cases (t := t) (kind := 6) (fr := [n]) (to := [u]) rfl
    have hC := repl_cases (t := (repl t 6 [n] [u]).1) (kind := 6) (fr := [m]) (to := [v]) rfl
    have hR := repl1_fn (repl t 6 [n] [u]).1 m v
    have hsub := sub_two 6 n m u v hnm hmu t
    have fA := repl2_fn t n m u v
    have fB := repl1_fn t n u
    generalize hrA : repl t 6 [n, m] [u, v] = rA at *
    generalize hrB : repl t 6 [n] [u] = rB at *
    generalize hrC : repl rB.1 6 [m] [v] = rC at *
    conv => whnf
    refine pubC (fun i => Nat.ble 3 i) ?_
    conv => whnf
    refine callF fA gf16 rfl rfl ?_
    conv => whnf
    refine pubC (fun i => Nat.ble 6 i) ?_
    conv => whnf
    refine callF fB gf16 rfl rfl ?_
    conv => whnf
    refine CutC.mk (fun st => ∃ r : Tp × Int, (rB.2 = 0 → r = rC) ∧ (rB.2 ≠ 0 → r = rB) ∧ st = ⟨[(5, .own 0 0), (6, .own 1 0), (7, .own 2 0), (11, .own 5 0), (12, .d (.int .i64 rA.2)), (13, .own 8 0), (14, .d (.int .i64 r.2))], [(0, .blk 24 [.d (.int .i64 t.k), .d (.int .i64 t.n), .d (dK t.kids)]), (1, .blk 24 [.d (.int .i64 u.k), .d (.int .i64 u.n), .d (dK u.kids)]), (2, .blk 24 [.d (.int .i64 v.k), .d (.int .i64 v.n), .d (dK v.kids)]), (5, .blk 24 [.d (.int .i64 rA.1.k), .d (.int .i64 rA.1.n), .d (dK rA.1.kids)]), (8, .blk 24 [.d (.int .i64 r.1.k), .d (.int .i64 r.1.n), .d (dK r.1.kids)])], 9⟩) ?_ ?_
    · refine And.intro (fun h => ?_) (fun h => ?_)
      · have h := eq_of_beq h
        conv => whnf
        refine pubC (fun i => Nat.ble 9 i) ?_
        conv => whnf
        refine callF hR gf16 rfl rfl ?_
        conv => whnf
        exact ⟨_, ⟨rC, fun _ => rfl, fun h' => absurd h h', rfl⟩, weak_of rfl (by repeat ((conv => whnf); first | exact trivial | refine And.intro rfl ?_ | refine And.intro (incD (by omega)) ?_)) (by repeat ((conv => whnf); first | exact trivial | refine And.intro rfl ?_ | refine And.intro (incD (by omega)) ?_))⟩
      · have h : rB.2 ≠ 0 := by simpa using h
        conv => whnf
        exact ⟨_, ⟨rB, fun h' => absurd h' h, fun _ => rfl, rfl⟩, weak_of rfl (by repeat ((conv => whnf); first | exact trivial | refine And.intro rfl ?_ | refine And.intro (incD (by omega)) ?_)) (by repeat ((conv => whnf); first | exact trivial | refine And.intro rfl ?_ | refine And.intro (incD (by omega)) ?_))⟩
    · rintro st' ⟨r, q1, q2, rfl⟩
      have key : rA.2 = 0 → r.2 = 0 → cmpT rA.1 r.1 = 0 := by
        intro a0 r0
        have b0 : rB.2 = 0 := Decidable.byContradiction fun h => h (by rw [← q2 h]; exact r0)
        obtain rfl := q1 b0
        rcases hA with ⟨rfl, _⟩ | ⟨rfl, _⟩
        · rcases hB with ⟨rfl, _⟩ | ⟨rfl, _⟩
          · rcases hC with ⟨rfl, _⟩ | ⟨rfl, _⟩
            · simp only; rw [hsub]; exact cmpT_refl _
            · cases r0
          · cases b0
        · cases a0
      have end3 : rA.2 = 0 ∨ rA.2 = 3 := by
        rcases hA with ⟨rfl, _⟩ | ⟨rfl, _⟩
        · exact .inl rfl
        · exact .inr rfl
      conv => whnf
      refine And.intro (fun h1 => ?_) (fun h1 => ?_)
      · have h1 := eq_of_beq h1
        conv => whnf
        refine And.intro (fun h2 => ?_) (fun h2 => ?_)
        · have h2 := eq_of_beq h2
          conv => whnf
          have hS := same_fn rA.1 r.1
          rw [key h1 h2] at hS
          refine callF hS gf11 rfl rfl ?_
          conv => whnf
          refine And.intro (fun h3 => by cases h3) (fun _ => ?_)
          conv => whnf
          refine And.intro (fun g1 => ?_) (fun g1 => ?_)
          · have g1 : rA.2 ≠ 0 := by simpa using g1
            conv => whnf
            refine And.intro (fun _ => ?_) (fun g2 => ?_)
            · conv => whnf
              exact callF alive_fn gf15 rfl rfl rfl
            · exact absurd (end3.resolve_left g1) (by simpa using g2)
          · conv => whnf
            exact callF alive_fn gf15 rfl rfl rfl
        · conv => whnf
          refine And.intro (fun g1 => ?_) (fun g1 => ?_)
          · have g1 : rA.2 ≠ 0 := by simpa using g1
            conv => whnf
            refine And.intro (fun _ => ?_) (fun g2 => ?_)
            · conv => whnf
              exact callF alive_fn gf15 rfl rfl rfl
            · exact absurd (end3.resolve_left g1) (by simpa using g2)
          · conv => whnf
            exact callF alive_fn gf15 rfl rfl rfl
      · conv => whnf
        refine And.intro (fun g1 => ?_) (fun g1 => ?_)
        · have g1 : rA.2 ≠ 0 := by simpa using g1
          conv => whnf
          refine And.intro (fun _ => ?_) (fun g2 => ?_)
          · conv => whnf
            exact callF alive_fn gf15 rfl rfl rfl
          · exact absurd (end3.resolve_left g1) (by simpa using g2)
        · conv => whnf
          exact callF alive_fn gf15 rfl rfl rfl
end Go.Proofs.YtmgmddcehjcbkaaDoor
