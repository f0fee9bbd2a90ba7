/- The law TypesPutting: what it computes. -/
import Derived.Test.YtmgmddcehjcbkaaDoorLu
set_option linter.unusedSimpArgs false
set_option linter.unusedVariables false
namespace Go.Proofs.YtmgmddcehjcbkaaDoor
open Go.Vx Go.Vc Go.RowKit

theorem put_mem {t u : Tp} {n : Int} (hN : ∀ x, hasN 6 x (sub 6 (tbl [n] [u]) t) ↔ (hasN 6 x t ∧ x ≠ n) ∨ (hasN 6 n t ∧ hasN 6 x u)) :
    (∀ z ∈ fnd 6 (sub 6 (tbl [n] [u]) t) [], (z ∈ fnd 6 t [] ∧ z ≠ n) ∨ (n ∈ fnd 6 t [] ∧ z ∈ fnd 6 u [])) ∧ (∀ x ∈ fnd 6 t [], x ≠ n → x ∈ fnd 6 (sub 6 (tbl [n] [u]) t) []) ∧ (n ∈ fnd 6 t [] → ∀ y ∈ fnd 6 u [], y ∈ fnd 6 (sub 6 (tbl [n] [u]) t) []) := by
  have e : ∀ (v : Tp) (x : Int), x ∈ fnd 6 v [] ↔ hasN 6 x v := fun v x => by rw [mem_fnd]; simp
  refine ⟨fun z hz => ?_, fun x hx hn => ?_, fun hn y hy => ?_⟩
  · rw [e] at hz ⊢
    rw [e, e]
    exact (hN z).1 hz
  · rw [e] at hx ⊢
    exact (hN x).2 (.inl ⟨hx, hn⟩)
  · rw [e] at hn hy ⊢
    exact (hN y).2 (.inr ⟨hn, hy⟩)
set_option maxHeartbeats 4000000 in
theorem putting_fn (t u : Tp) (n : Int) (ht : szT t ≤ 1048576) (hu : szT u ≤ 1048576) : FnR Tryd.prog G0 9 [dT t, dT u, .int .i64 n] (.bool true) := by
  refine fnQ_of_vc txok mixed ((100004, .done) :: (100006, .done) :: [(3, .take 0 (.pure 1 (.pure 3 (.three 2 4 10 (.two 4 10 (.two 5 10 (.two 6 10 (.pure 7 (.pure 8 (.pure 9 (.run 10 (.fin 11 (.pure 12 .done)))))) (.fin 6 (.pure 7 (.pure 8 (.pure 9 (.fin 11 (.pure 12 .done))))))) (.run 5 (.fin 6 (.pure 7 (.pure 8 (.pure 9 (.fin 11 (.pure 12 .done)))))))) (.run 4 (.run 5 (.fin 6 (.pure 7 (.pure 8 (.pure 9 (.fin 11 (.pure 12 .done))))))))) (.three 2 5 10 (.two 5 10 (.two 6 10 (.pure 7 (.pure 8 (.pure 9 (.run 10 (.fin 11 (.pure 12 .done)))))) (.fin 6 (.pure 7 (.pure 8 (.pure 9 (.fin 11 (.pure 12 .done))))))) (.run 5 (.fin 6 (.pure 7 (.pure 8 (.pure 9 (.fin 11 (.pure 12 .done)))))))) (.two 2 10 (.two 6 10 (.pure 7 (.pure 8 (.pure 9 (.run 10 (.fin 11 (.pure 12 .done)))))) (.fin 6 (.pure 7 (.pure 8 (.pure 9 (.fin 11 (.pure 12 .done))))))) (.run 2 (.fin 6 (.pure 7 (.pure 8 (.pure 9 (.fin 11 (.pure 12 .done)))))))) (.two 2 5 (.run 5 (.fin 6 (.pure 7 (.pure 8 (.pure 9 (.fin 11 (.pure 12 .done))))))) (.run 2 (.fin 6 (.pure 7 (.pure 8 (.pure 9 (.fin 11 (.pure 12 .done))))))))) (.two 2 4 (.run 4 (.run 5 (.fin 6 (.pure 7 (.pure 8 (.pure 9 (.fin 11 (.pure 12 .done)))))))) (.two 2 5 (.run 5 (.fin 6 (.pure 7 (.pure 8 (.pure 9 (.fin 11 (.pure 12 .done))))))) (.run 2 (.fin 6 (.pure 7 (.pure 8 (.pure 9 (.fin 11 (.pure 12 .done))))))))))))), (9, .take 0 (.take 2 (.take 4 (.run 1 (.run 3 (.fin 5 (.pure 6 (.pure 7 (.pure 8 .done)))))))))]) Tryd.func9 rfl rfl (by simp) fun b => ?_
  conv => whnf
  refine callF (right_fn t) gf19 rfl rfl ?_
  conv => whnf
  refine And.intro (fun h => ?_) (fun h => ?_)
  · conv => whnf
    exact callF alive_fn gf15 rfl rfl rfl
  have hr : right t = true := by simpa using h
  clear h
  have fA := repl1_fn t n (.mk 6 n [])
  have fB := repl1_fn t n u
  have hA := repl_cases (t := t) (kind := 6) (fr := [n]) (to := [.mk 6 n []]) rfl
  rw [sub_self 6 n t (fun _ => hr) rfl] at hA
  have hB := repl_cases (t := t) (kind := 6) (fr := [n]) (to := [u]) rfl
  have hN := fun x => hasN_sub n u x t hr
  generalize hrA : repl t 6 [n] [.mk 6 n []] = rA at *
  generalize hrB : repl t 6 [n] [u] = rB at *
  have hF := fits_fn t
  have hx := fun x => mem_fnd 6 x t []
  have hy := fun x => mem_fnd 6 x u []
  conv => whnf
  refine CutC.mk (fun st => st = ⟨[(2, .d (.int .i64 n)), (3, .own 0 0), (4, .own 1 0), (7, .own 2 0), (8, .d (.int .i64 rA.2))], [(0, .blk 24 [.d (.int .i64 t.k), .d (.int .i64 t.n), .d (dK t.kids)]), (1, .blk 24 [.d (.int .i64 u.k), .d (.int .i64 u.n), .d (dK u.kids)]), (2, .blk 24 [.d (.int .i64 rA.1.k), .d (.int .i64 rA.1.n), .d (dK rA.1.kids)])], 5⟩ ∨ st = ⟨[(2, .d (.int .i64 n)), (3, .own 0 0), (4, .own 1 0), (7, .own 3 0), (8, .d (.int .i64 rA.2))], [(0, .blk 24 [.d (.int .i64 t.k), .d (.int .i64 t.n), .d (dK t.kids)]), (1, .blk 24 [.d (.int .i64 u.k), .d (.int .i64 u.n), .d (dK u.kids)]), (3, .blk 24 [.d (.int .i64 rA.1.k), .d (.int .i64 rA.1.n), .d (dK rA.1.kids)])], 5⟩ ∨ st = ⟨[(2, .d (.int .i64 n)), (3, .own 0 0), (4, .own 1 0), (7, .own 4 0), (8, .d (.int .i64 rA.2))], [(0, .blk 24 [.d (.int .i64 t.k), .d (.int .i64 t.n), .d (dK t.kids)]), (1, .blk 24 [.d (.int .i64 u.k), .d (.int .i64 u.n), .d (dK u.kids)]), (4, .blk 24 [.d (.int .i64 rA.1.k), .d (.int .i64 rA.1.n), .d (dK rA.1.kids)])], 5⟩) ?_ ?_
  · conv => whnf
    refine And.intro (by kernel_rfl) ?_
    repeat' ((conv => whnf); first | refine And.intro ?_ ?_ | refine callF (stamp_fn n) gf25 rfl rfl ?_ | (refine pubC (fun i => Nat.beq i 2 || Nat.beq i 3) ?_; (conv => whnf); refine callF fA gf16 rfl rfl ?_) | (refine pubC (fun i => Nat.beq i 2 || Nat.beq i 4) ?_; (conv => whnf); refine callF fA gf16 rfl rfl ?_) | (refine pubC (fun i => Nat.beq i 3 || Nat.beq i 4) ?_; (conv => whnf); refine callF fA gf16 rfl rfl ?_) | (refine ⟨_, .inl rfl, weak_of rfl ?_ ?_⟩ <;> ((repeat ((conv => whnf); first | exact trivial | refine And.intro rfl ?_ | refine And.intro (incD (by omega)) ?_)); done)) | (refine ⟨_, .inr (.inl rfl), weak_of rfl ?_ ?_⟩ <;> ((repeat ((conv => whnf); first | exact trivial | refine And.intro rfl ?_ | refine And.intro (incD (by omega)) ?_)); done)) | (refine ⟨_, .inr (.inr rfl), weak_of rfl ?_ ?_⟩ <;> ((repeat ((conv => whnf); first | exact trivial | refine And.intro rfl ?_ | refine And.intro (incD (by omega)) ?_)); done)))
  · rintro st' (rfl | rfl | rfl)
    all_goals
      conv => whnf
      refine CutC.mk (fun st => st = ⟨[(2, .d (.int .i64 n)), (3, .own 0 0), (4, .own 1 0)], [(0, .blk 24 [.d (.int .i64 t.k), .d (.int .i64 t.n), .d (dK t.kids)]), (1, .blk 24 [.d (.int .i64 u.k), .d (.int .i64 u.n), .d (dK u.kids)])], 2⟩) ?_ ?_
      · rcases hA with ⟨rfl, hsz⟩ | ⟨rfl, hsz⟩
        · rw [decide_eq_true hsz] at hF
          conv => whnf
          refine callF hF gf22 rfl rfl ?_
          conv => whnf
          refine And.intro (fun _ => ?_) (fun h => by cases h)
          conv => whnf
          refine And.intro (fun _ => ?_) (fun h => by cases h)
          conv => whnf
          have hS := same_fn t t
          rw [cmpT_refl] at hS
          refine callF hS gf11 rfl rfl ?_
          conv => whnf
          refine And.intro (fun h => by cases h) (fun _ => ?_)
          exact ⟨_, rfl, weak_of rfl (by repeat ((conv => whnf); first | exact trivial | refine And.intro rfl ?_ | refine And.intro (incD (by omega)) ?_)) (by repeat ((conv => whnf); first | exact trivial | refine And.intro rfl ?_ | refine And.intro (incD (by omega)) ?_))⟩
        · rw [decide_eq_false (by omega)] at hF
          conv => whnf
          refine callF hF gf22 rfl rfl ?_
          conv => whnf
          refine And.intro (fun _ => ?_) (fun h => by cases h)
          conv => whnf
          refine And.intro (fun h => by cases h) (fun _ => ?_)
          conv => whnf
          exact ⟨_, rfl, weak_of rfl (by repeat ((conv => whnf); first | exact trivial | refine And.intro rfl ?_ | refine And.intro (incD (by omega)) ?_)) (by repeat ((conv => whnf); first | exact trivial | refine And.intro rfl ?_ | refine And.intro (incD (by omega)) ?_))⟩
      rintro st' rfl
      conv => whnf
      refine pubC (fun i => Nat.ble 2 i) ?_
      conv => whnf
      refine callF fB gf16 rfl rfl ?_
      conv => whnf
      rcases hB with ⟨rfl, hsb⟩ | ⟨rfl, hsb⟩
      rotate_left
      · refine And.intro (fun _ => ?_) (fun h => by cases h)
        conv => whnf
        refine And.intro (fun _ => ?_) (fun h => by cases h)
        conv => whnf
        have hS := same_fn tp0 tp0
        rw [cmpT_refl] at hS
        refine callF hS gf11 rfl rfl ?_
        conv => whnf
        refine And.intro (fun _ => ?_) (fun h => by cases h)
        conv => whnf
        exact callF alive_fn gf15 rfl rfl rfl
      refine And.intro (fun h => by cases h) (fun _ => ?_)
      conv => whnf
      refine And.intro (by kernel_rfl) ?_
      conv => whnf
      obtain ⟨mz, mx, my⟩ := put_mem hN
      have sX := stampsB_fn t ht
      have sY := stampsB_fn u hu
      have sZ := stampsB_fn (sub 6 (tbl [n] [u]) t) (by omega)
      have lX := fnd_sz 6 t []
      have lY := fnd_sz 6 u []
      have lZ := fnd_sz 6 (sub 6 (tbl [n] [u]) t) []
      simp only [List.length_nil, Nat.zero_add] at lX lY lZ
      generalize sub 6 (tbl [n] [u]) t = s at *
      generalize fnd 6 t [] = X at *
      generalize fnd 6 u [] = Y at *
      generalize fnd 6 s [] = Z at *
      refine callF sX gf24 rfl rfl ?_
      conv => whnf
      refine callF sY gf24 rfl rfl ?_
      conv => whnf
      refine callF sZ gf24 rfl rfl ?_
      conv => whnf
      refine callF (in_fn X n) gf23 rfl rfl ?_
      conv => whnf
      refine loopH (fun i : Nat => i ≤ Z.length) (fun i => Z.length - i) (fun i => [(14, .d (.int .i64 i))]) (fun _ => []) 5 0 (by omega) (weak_of rfl (by repeat ((conv => whnf); first | exact trivial | refine And.intro rfl ?_ | refine And.intro (incD (by omega)) ?_)) (by repeat ((conv => whnf); first | exact trivial | refine And.intro rfl ?_ | refine And.intro (incD (by omega)) ?_))) ?_
      intro i hi
      conv => whnf
      refine And.intro (fun hb => ?_) (fun hb => ?_)
      · have hb := of_decide_eq_true hb
        have hil : i < Z.length := by omega
        have hm := mz Z[i] (List.getElem_mem _)
        conv => whnf
        refine IdxC.encI i hil rfl ?_
        conv => whnf
        refine callF (in_fn X Z[i]) gf23 rfl rfl ?_
        conv => whnf
        refine And.intro (fun h1 => ?_) (fun h1 => ?_)
        · have h1 := of_decide_eq_true h1
          conv => whnf
          refine IdxC.encI i hil rfl ?_
          conv => whnf
          refine And.intro (fun h2 => ?_) (fun h2 => ?_)
          · have h2 : Z[i] = n := by simpa using h2
            rw [h2] at hm h1
            have hY := (hm.resolve_left fun h => h.2 rfl).2
            conv => whnf
            refine And.intro (fun h3 => ?_) (fun h3 => absurd h1 (by simpa using h3))
            conv => whnf
            refine IdxC.encI i hil rfl ?_
            conv => whnf
            refine callF (in_fn Y Z[i]) gf23 rfl rfl ?_
            conv => whnf
            refine And.intro (fun h4 => ?_) (fun _ => ?_)
            · rw [h2] at h4; simp [hY] at h4
            · conv => whnf
              exact again (i + 1) (by omega) (by omega) (weak_of rfl (by repeat ((conv => whnf); first | exact trivial | refine And.intro rfl ?_ | refine And.intro (incD (by omega)) ?_)) (by repeat ((conv => whnf); first | exact trivial | refine And.intro rfl ?_ | refine And.intro (incD (by omega)) ?_)))
          · conv => whnf
            exact again (i + 1) (by omega) (by omega) (weak_of rfl (by repeat ((conv => whnf); first | exact trivial | refine And.intro rfl ?_ | refine And.intro (incD (by omega)) ?_)) (by repeat ((conv => whnf); first | exact trivial | refine And.intro rfl ?_ | refine And.intro (incD (by omega)) ?_)))
        · have h1 : ¬ Z[i] ∈ X := of_decide_eq_false h1
          obtain ⟨hX, hY⟩ := hm.resolve_left fun h => h1 h.1
          conv => whnf
          refine And.intro (fun h3 => ?_) (fun h3 => absurd hX (by simpa using h3))
          conv => whnf
          refine IdxC.encI i hil rfl ?_
          conv => whnf
          refine callF (in_fn Y Z[i]) gf23 rfl rfl ?_
          conv => whnf
          refine And.intro (fun h4 => ?_) (fun _ => ?_)
          · simp [hY] at h4
          · conv => whnf
            exact again (i + 1) (by omega) (by omega) (weak_of rfl (by repeat ((conv => whnf); first | exact trivial | refine And.intro rfl ?_ | refine And.intro (incD (by omega)) ?_)) (by repeat ((conv => whnf); first | exact trivial | refine And.intro rfl ?_ | refine And.intro (incD (by omega)) ?_)))
      · conv => whnf
        refine loopH (fun i : Nat => i ≤ X.length) (fun i => X.length - i) (fun i => [(15, .d (.int .i64 i))]) (fun _ => []) 5 0 (by omega) (weak_of rfl (by repeat ((conv => whnf); first | exact trivial | refine And.intro rfl ?_ | refine And.intro (incD (by omega)) ?_)) (by repeat ((conv => whnf); first | exact trivial | refine And.intro rfl ?_ | refine And.intro (incD (by omega)) ?_))) ?_
        intro i hi
        conv => whnf
        refine And.intro (fun hb => ?_) (fun hb => ?_)
        · have hb := of_decide_eq_true hb
          have hil : i < X.length := by omega
          have hm := mx X[i] (List.getElem_mem _)
          conv => whnf
          refine IdxC.encI i hil rfl ?_
          conv => whnf
          refine And.intro (fun h1 => ?_) (fun h1 => ?_)
          · have h1 : X[i] ≠ n := by simpa using h1
            have hz := hm h1
            conv => whnf
            refine IdxC.encI i hil rfl ?_
            conv => whnf
            refine callF (in_fn Z X[i]) gf23 rfl rfl ?_
            conv => whnf
            refine And.intro (fun h4 => ?_) (fun _ => ?_)
            · simp [hz] at h4
            · conv => whnf
              exact again (i + 1) (by omega) (by omega) (weak_of rfl (by repeat ((conv => whnf); first | exact trivial | refine And.intro rfl ?_ | refine And.intro (incD (by omega)) ?_)) (by repeat ((conv => whnf); first | exact trivial | refine And.intro rfl ?_ | refine And.intro (incD (by omega)) ?_)))
          · conv => whnf
            exact again (i + 1) (by omega) (by omega) (weak_of rfl (by repeat ((conv => whnf); first | exact trivial | refine And.intro rfl ?_ | refine And.intro (incD (by omega)) ?_)) (by repeat ((conv => whnf); first | exact trivial | refine And.intro rfl ?_ | refine And.intro (incD (by omega)) ?_)))
        · conv => whnf
          refine loopH (fun i : Nat => i ≤ Y.length) (fun i => Y.length - i) (fun i => [(16, .d (.int .i64 i))]) (fun _ => []) 5 0 (by omega) (weak_of rfl (by repeat ((conv => whnf); first | exact trivial | refine And.intro rfl ?_ | refine And.intro (incD (by omega)) ?_)) (by repeat ((conv => whnf); first | exact trivial | refine And.intro rfl ?_ | refine And.intro (incD (by omega)) ?_))) ?_
          intro i hi
          conv => whnf
          refine And.intro (fun h1 => ?_) (fun h1 => ?_)
          · have h1 := of_decide_eq_true h1
            conv => whnf
            refine And.intro (fun hb => ?_) (fun hb => ?_)
            · have hb := of_decide_eq_true hb
              have hil : i < Y.length := by omega
              have hz := my h1 Y[i] (List.getElem_mem _)
              conv => whnf
              refine IdxC.encI i hil rfl ?_
              conv => whnf
              refine callF (in_fn Z Y[i]) gf23 rfl rfl ?_
              conv => whnf
              refine And.intro (fun h4 => ?_) (fun _ => ?_)
              · simp [hz] at h4
              · conv => whnf
                exact again (i + 1) (by omega) (by omega) (weak_of rfl (by repeat ((conv => whnf); first | exact trivial | refine And.intro rfl ?_ | refine And.intro (incD (by omega)) ?_)) (by repeat ((conv => whnf); first | exact trivial | refine And.intro rfl ?_ | refine And.intro (incD (by omega)) ?_)))
            · conv => whnf
              exact callF alive_fn gf15 rfl rfl rfl
          · conv => whnf
            exact callF alive_fn gf15 rfl rfl rfl
end Go.Proofs.YtmgmddcehjcbkaaDoor
