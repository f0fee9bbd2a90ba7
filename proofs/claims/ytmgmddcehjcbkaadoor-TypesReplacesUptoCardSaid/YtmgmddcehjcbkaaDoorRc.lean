/- The reference: what replacing makes. -/
import Derived.Test.YtmgmddcehjcbkaaDoorRb
set_option linter.unusedSimpArgs false
set_option linter.unusedVariables false
namespace Go.Proofs.YtmgmddcehjcbkaaDoor
open Go.Vx Go.Vc Go.RowKit

abbrev rputH (k n : Int) (ks ms : List Tp) (i : Nat) : Hp :=
  [(0, .blk 24 [.d (.int .i64 k), .d (.int .i64 n), .d (dK ks)]), (1, .blk 24 [.d (.int .i64 0), .d (.int .i64 0), .nl]), (2, .blk 24 [.d (.int .i64 k), .d (.int .i64 n), .row 3]), (3, .row 24 40 3 i (encK ms))]
theorem rput_fn (kind : Int) (fr : List Int) (to : List Tp) (hft : fr.length = to.length) : ∀ t : Tp, FnR Tryd.prog G0 46 [dT t, .int .i64 kind, dI fr, dK to] (dT (sub kind (tbl fr to) t)) := by
  refine Tp.ind fun k n ks ih => ?_
  refine fnQ_sz fun hs => ?_
  have hl := (szOk_T (t := .mk k n ks) hs.1).1
  simp only [mk_kids, LB] at hl
  obtain ⟨q1, q2⟩ := tbl_idx fr to n 0 (by omega) (by omega)
  have hsub : ¬ (k = kind ∧ 0 ≤ idxFrom fr n 0) → sub kind (tbl fr to) (.mk k n ks) = .mk k n (subL kind (tbl fr to) ks) := by
    intro h
    rw [sub]
    by_cases hk : k = kind
    · rw [if_pos hk, q1 (by rcases Int.lt_or_le (idxFrom fr n 0) 0 with h' | h'; exact h'; exact absurd ⟨hk, h'⟩ h)]
    · rw [if_neg hk]
  refine fnQ_of_vc txok mixed ((100005, .done) :: [(9, .pure 0 (.take 1 (.pure 2 (.take 3 (.pure 4 (.pure 5 (.take 6 (.pure 7 (.pure 8 (.pure 9 (.run 10 (.run 11 (.fin 12 (.pure 13 (.fin 14 .done)))))))))))))))]) Tryd.func46 rfl rfl (by simp) fun b => ?_
  conv => whnf
  refine CutC.mk (fun st => ¬ (k = kind ∧ 0 ≤ idxFrom fr n 0) ∧ st = ⟨[(1, .d (.int .i64 kind)), (2, .d (dI fr)), (3, .d (dK to)), (4, .own 0 0), (8, .own 1 0)], [(0, .blk 24 [.d (.int .i64 k), .d (.int .i64 n), .d (dK ks)]), (1, .blk 24 [.d (.int .i64 0), .d (.int .i64 0), .nl])], 2⟩) ?_ ?_
  · conv => whnf
    simp only [mk_k]
    refine And.intro (fun hk => ?_) (fun hk => ?_)
    · have hk := eq_of_beq hk
      conv => whnf
      refine callF (place_fn fr n) gf61 rfl rfl ?_
      conv => whnf
      refine And.intro (fun hp => ?_) (fun hp => ?_)
      · have hp := of_decide_eq_true hp
        obtain ⟨q, q3, q4, q5⟩ := q2 (by omega)
        have hq : q < to.length := by omega
        rw [List.getElem?_eq_getElem hq] at q5
        have hsb : sub kind (tbl fr to) (.mk k n ks) = to[q] := by rw [sub, if_pos hk, q5]
        conv => whnf
        refine IdxC.encK q hq (by rw [q3]; omega) ?_
        conv => whnf
        rw [hsb]
        rfl
      · have hp := of_decide_eq_false hp
        conv => whnf
        exact ⟨_, ⟨fun h => hp h.2, rfl⟩, weak_of rfl (by repeat ((conv => whnf); first | exact trivial | refine And.intro rfl ?_ | refine And.intro (incD (by omega)) ?_)) (by repeat ((conv => whnf); first | exact trivial | refine And.intro rfl ?_ | refine And.intro (incD (by omega)) ?_))⟩
    · have hk : k ≠ kind := by simpa using hk
      conv => whnf
      exact ⟨_, ⟨fun h => hk h.1, rfl⟩, weak_of rfl (by repeat ((conv => whnf); first | exact trivial | refine And.intro rfl ?_ | refine And.intro (incD (by omega)) ?_)) (by repeat ((conv => whnf); first | exact trivial | refine And.intro rfl ?_ | refine And.intro (incD (by omega)) ?_))⟩
  · rintro st' ⟨hno, rfl⟩
    have hsub := hsub hno
    conv => whnf
    refine loopH (fun i : Nat => i ≤ ks.length) (fun i => ks.length - i) (fun i => [(11, .d (.int .i64 i))]) (fun i => rputH k n ks (subL kind (tbl fr to) (ks.take i)) i) 4 0 (by omega) ?_ ?_
    · exact (weak_nlC 2 2 24 40 3 rfl rfl).trans (weak_of rfl (by repeat ((conv => whnf); first | exact trivial | refine And.intro rfl ?_ | refine And.intro (incD (by omega)) ?_)) (by repeat ((conv => whnf); first | exact trivial | refine And.intro rfl ?_ | refine And.intro (incD (by omega)) ?_)))
    intro i hi
    conv => whnf
    refine And.intro (fun hb => ?_) (fun hb => ?_)
    · have hb : (i : Int) < (ks.length : Int) := of_decide_eq_true hb
      have hil : i < ks.length := by omega
      have hxs : encK (subL kind (tbl fr to) (ks.take i)) ++ encT (sub kind (tbl fr to) ks[i]) = encK (subL kind (tbl fr to) (ks.take (i + 1))) := by
        rw [List.take_succ_eq_append_getElem hil, subL_map, subL_map, List.map_append, encK_app]
        simp only [List.map_cons, List.map_nil, Vx.encK, encT0_eq, List.append_nil]
      conv => whnf
      refine And.intro (by kernel_rfl) ?_
      conv => whnf
      refine IdxC.encK i hil rfl ?_
      conv => whnf
      refine callF (ih ks[i] (by simp)) gf46 rfl rfl ?_
      conv => whnf
      refine appR (i := 3) (sz := 3) (n := i) (m := 1) (xs := encK (subL kind (tbl fr to) (ks.take i))) (ys := encT (sub kind (tbl fr to) ks[i])) txok (fun k => Nat.blt 3 k) (i + 1) (encK (subL kind (tbl fr to) (ks.take (i + 1)))) rfl rfl rfl (by kernel_rfl) rfl (encT_scal _) rfl hxs (by simp only [LB]; omega) ?_
      conv => whnf
      exact again (i + 1) (by omega) (by omega) (weak_of rfl (by repeat ((conv => whnf); first | exact trivial | refine And.intro rfl ?_ | refine And.intro (incD (by omega)) ?_)) (by repeat ((conv => whnf); first | exact trivial | refine And.intro rfl ?_ | refine And.intro (incD (by omega)) ?_)))
    · have hb : ¬ (i : Int) < (ks.length : Int) := of_decide_eq_false hb
      have hi : i = ks.length := by omega
      subst hi
      rw [List.take_length]
      conv => whnf
      rw [hsub]
      simp only [dT, encT, mk_k, mk_n, mk_kids]
      rw [show (subL kind (tbl fr to) ks).length = ks.length from by rw [subL_map, List.length_map]]
theorem rreplace_fn (t : Tp) (kind : Int) (fr : List Int) (to : List Tp) : FnR Tryd.prog G0 17 [dT t, .int .i64 kind, dI fr, dK to] (replD (repl t kind fr to)) := by
  refine fnQ_of_vc txok mixed [] Tryd.func17 rfl rfl (by simp) fun b => ?_
  conv => whnf
  refine And.intro (fun h => ?_) (fun h => ?_)
  · have h : fr.length ≠ to.length := by intro e; rw [e] at h; simp at h
    conv => whnf
    rw [repl, if_neg h]
    rfl
  · have h : fr.length = to.length := by
      have : ((fr.length : Int) == (to.length : Int)) = true := by simpa using h
      have := eq_of_beq this; omega
    rw [repl, if_pos h]
    conv => whnf
    have hG := grown_fn kind fr to h t 0 (by omega)
    rw [Nat.zero_add] at hG
    refine callF hG gf45 rfl rfl ?_
    conv => whnf
    refine And.intro (fun h2 => ?_) (fun h2 => ?_)
    · have h2 := of_decide_eq_true h2
      have := cutN_gt (n := szT (sub kind (tbl fr to) t)) (most := 1000) (by omega)
      rw [if_neg (by omega)]
      conv => whnf
      rfl
    · have h2 := of_decide_eq_false h2
      have : szT (sub kind (tbl fr to) t) ≤ 1000 := cutN_lt (by omega)
      rw [if_pos this]
      conv => whnf
      refine callF (rput_fn kind fr to h t) gf46 rfl rfl ?_
      conv => whnf
      rfl
end Go.Proofs.YtmgmddcehjcbkaaDoor
