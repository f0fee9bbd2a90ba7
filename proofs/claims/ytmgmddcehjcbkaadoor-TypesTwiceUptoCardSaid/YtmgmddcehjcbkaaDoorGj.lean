/- What replacing makes. -/
import Derived.Test.YtmgmddcehjcbkaaDoorGi
set_option linter.unusedSimpArgs false
set_option linter.unusedVariables false
namespace Go.Proofs.YtmgmddcehjcbkaaDoor
open Go.Vx Go.Vc Go.RowKit

theorem sub_none (kind : Int) (σ : Int → Option Tp) (h : ∀ n, σ n = none) : ∀ t, sub kind σ t = t := by
  refine Tp.ind fun k n ks ih => ?_
  rw [sub, subL_map]
  have : (if k = kind then σ n else none) = none := by split <;> simp [h]
  rw [this]
  simp only
  congr 1
  exact (List.map_congr_left ih).trans (List.map_id ks)
/-- The first ones replaced. -/
def mixL (kind : Int) (σ : Int → Option Tp) (ks : List Tp) (i : Nat) : List Tp := subL kind σ (ks.take i) ++ ks.drop i
theorem mixL_len (kind : Int) (σ : Int → Option Tp) (ks : List Tp) (i : Nat) : (mixL kind σ ks i).length = ks.length := by
  simp [mixL, subL_map]; omega
theorem mixL_get {kind : Int} {σ : Int → Option Tp} {ks : List Tp} {i : Nat} (h : i < ks.length) (h' : i < (mixL kind σ ks i).length) : (mixL kind σ ks i)[i] = ks[i] := by
  simp only [mixL, subL_map]
  rw [List.getElem_append_right (by simp; omega)]
  simp [Nat.min_eq_left (Nat.le_of_lt h)]
theorem mixL_set {kind : Int} {σ : Int → Option Tp} {ks : List Tp} {i : Nat} (h : i < ks.length) : (mixL kind σ ks i).set i (sub kind σ ks[i]) = mixL kind σ ks (i + 1) := by
  simp only [mixL, subL_map]
  rw [List.set_append_right _ _ (by simp; omega)]
  simp only [List.length_map, List.length_take, Nat.min_eq_left (Nat.le_of_lt h), Nat.sub_self]
  rw [List.drop_eq_getElem_cons h, List.set_cons_zero, List.take_succ_eq_append_getElem h, List.map_append, List.append_assoc]
  rfl
theorem mixL_zero (kind : Int) (σ : Int → Option Tp) (ks : List Tp) : mixL kind σ ks 0 = ks := by simp [mixL, subL]
theorem mixL_all (kind : Int) (σ : Int → Option Tp) (ks : List Tp) : mixL kind σ ks ks.length = subL kind σ ks := by simp [mixL]
theorem encK_set (l : List Tp) (i : Nat) (hi : i < l.length) (x : Tp) : ovl (encK l) (i * 3) (encT x) = encK (l.set i x) := by
  rw [encK_eq, encK_eq]; exact fl_set encT_len l i hi x

abbrev putH (kind : Int) (fr : List Int) (to : List Tp) (k n : Int) (ks ms : List Tp) : Hp :=
  [(0, .blk 48 [.d (.int .i64 kind), .d (dI fr), .d (dK to)]), (1, .blk 24 [.d (.int .i64 k), .d (.int .i64 n), .row 3]), (2, .blk 24 [.d (.int .i64 0), .d (.int .i64 0), .nl]), (3, .row 24 40 3 ks.length (encK ms))]
theorem put0_fn (kind : Int) (fr : List Int) (to : List Tp) (hft : fr.length = to.length) (hcl : ∀ (q : Nat) (h : q < to.length), FnR Tryd.prog G0 59 [dT to[q]] (dT to[q])) : ∀ t : Tp, FnR Tryd.prog G0 44 [dP kind fr to, dT t] (dT (sub kind (tbl fr to) t)) := by
  refine Tp.ind fun k n ks ih => ?_
  refine fnQ_sz fun hs => ?_
  have hl := (szOk_T (t := .mk k n ks) hs.2.1).1
  simp only [mk_kids, LB] at hl
  obtain ⟨q1, q2⟩ := tbl_idx fr to n 0 (by omega) (by omega)
  have hsub : ¬ (k = kind ∧ 0 ≤ idxFrom fr n 0) → sub kind (tbl fr to) (.mk k n ks) = .mk k n (subL kind (tbl fr to) ks) := by
    intro h
    rw [sub]
    by_cases hk : k = kind
    · rw [if_pos hk, q1 (by rcases Int.lt_or_le (idxFrom fr n 0) 0 with h' | h'; exact h'; exact absurd ⟨hk, h'⟩ h)]
    · rw [if_neg hk]
  refine fnQ_of_vc txok mixed ((100005, .done) :: [(9, .pure 0 (.take 1 (.pure 2 (.take 3 (.take 4 (.run 5 (.pure 6 (.fin 7 .done))))))))]) Tryd.func44 rfl rfl (by simp) fun b => ?_
  conv => whnf
  refine CutC.mk (fun st => ¬ (k = kind ∧ 0 ≤ idxFrom fr n 0) ∧ st = ⟨[(2, .own 0 0), (3, .own 1 0), (4, .own 2 0)], [(0, .blk 48 [.d (.int .i64 kind), .d (dI fr), .d (dK to)]), (1, .blk 24 [.d (.int .i64 k), .d (.int .i64 n), .d (dK ks)]), (2, .blk 24 [.d (.int .i64 0), .d (.int .i64 0), .nl])], 3⟩) ?_ ?_
  · conv => whnf
    simp only [mk_k]
    refine And.intro (fun hk => ?_) (fun hk => ?_)
    · have hk := eq_of_beq hk
      conv => whnf
      refine callF (index_fn fr n) gf58 rfl rfl ?_
      conv => whnf
      refine And.intro (fun hp => ?_) (fun hp => ?_)
      · have hp := of_decide_eq_true hp
        obtain ⟨q, q3, q4, q5⟩ := q2 (by omega)
        have hq : q < to.length := by omega
        rw [List.getElem?_eq_getElem hq] at q5
        have hsb : sub kind (tbl fr to) (.mk k n ks) = to[q] := by rw [sub, if_pos hk, q5]
        conv => whnf
        refine IdxC.encK q hq (by rw [q3]; omega) ?_
        conv => whnf
        refine callF (hcl q hq) gf59 rfl rfl ?_
        conv => whnf
        rw [hsb]
        rfl
      · have hp := of_decide_eq_false hp
        conv => whnf
        exact ⟨_, ⟨fun h => hp h.2, rfl⟩, weak_of rfl (by repeat ((conv => whnf); first | exact trivial | refine And.intro rfl ?_ | refine And.intro (incD (by omega)) ?_)) (by repeat ((conv => whnf); first | exact trivial | refine And.intro rfl ?_ | refine And.intro (incD (by omega)) ?_))⟩
    · have hk : k ≠ kind := by simpa using hk
      conv => whnf
      exact ⟨_, ⟨fun h => hk h.1, rfl⟩, weak_of rfl (by repeat ((conv => whnf); first | exact trivial | refine And.intro rfl ?_ | refine And.intro (incD (by omega)) ?_)) (by repeat ((conv => whnf); first | exact trivial | refine And.intro rfl ?_ | refine And.intro (incD (by omega)) ?_))⟩
  · rintro st' ⟨hno, rfl⟩
    have hsub := hsub hno
    conv => whnf
    refine callT [] (sclone_tri ks) gf60 rfl rfl trivial rfl ?_
    rintro o' H' ⟨rfl, rfl⟩
    conv => whnf
    refine loopH (fun i : Nat => i ≤ ks.length) (fun i => ks.length - i) (fun i => [(33, .d (.int .i64 i))]) (fun i => putH kind fr to k n ks (mixL kind (tbl fr to) ks i)) 4 0 (by omega) ?_ ?_
    · rw [mixL_zero]
      exact weak_of rfl (by repeat ((conv => whnf); first | exact trivial | refine And.intro rfl ?_ | refine And.intro (incD (by omega)) ?_)) (by repeat ((conv => whnf); first | exact trivial | refine And.intro rfl ?_ | refine And.intro (incD (by omega)) ?_))
    intro i hi
    conv => whnf
    refine And.intro (fun hb => ?_) (fun hb => ?_)
    · have hb := of_decide_eq_true hb
      have hil : i < ks.length := by omega
      have hml := mixL_len kind (tbl fr to) ks i
      conv => whnf
      refine ⟨i, rfl, hil, ?_⟩
      conv => whnf
      refine ⟨encT ks[i], by rw [← mixL_get (kind := kind) (σ := tbl fr to) hil (by omega)]; exact encK_at _ i (by omega), rfl, ?_⟩
      conv => whnf
      refine And.intro (by kernel_rfl) ?_
      conv => whnf
      refine callF (ih ks[i] (by simp)) gf44 rfl rfl ?_
      conv => whnf
      refine ⟨i, rfl, hil, ?_⟩
      conv => whnf
      refine ⟨encK (mixL kind (tbl fr to) ks (i + 1)), ?_, ?_, ?_⟩
      · show i * 3 + 3 ≤ (encK (mixL kind (tbl fr to) ks i)).length
        rw [encK_len, hml]; omega
      · rw [← mixL_set hil]; exact encK_set _ i (by omega) _
      conv => whnf
      exact again (i + 1) (by omega) (by omega) (weak_of rfl (by repeat ((conv => whnf); first | exact trivial | refine And.intro rfl ?_ | refine And.intro (incD (by omega)) ?_)) (by repeat ((conv => whnf); first | exact trivial | refine And.intro rfl ?_ | refine And.intro (incD (by omega)) ?_)))
    · have hb := of_decide_eq_false hb
      have hi : i = ks.length := by omega
      subst hi
      rw [mixL_all]
      conv => whnf
      rw [hsub]
      simp only [dT, encT, mk_k, mk_n, mk_kids]
      rw [show (subL kind (tbl fr to) ks).length = ks.length from by rw [subL_map, List.length_map]]
theorem clone_fn (t : Tp) : FnR Tryd.prog G0 59 [dT t] (dT t) := by
  refine fnQ_of_vc txok mixed [] Tryd.func59 rfl rfl (by simp) fun b => ?_
  conv => whnf
  refine callF (put0_fn 0 [] [] rfl (fun q h => absurd h (Nat.not_lt_zero _)) t) gf44 rfl rfl ?_
  conv => whnf
  rw [sub_none _ _ (fun n => by simp [tbl])]
  rfl
theorem put_fn (kind : Int) (fr : List Int) (to : List Tp) (hft : fr.length = to.length) (t : Tp) : FnR Tryd.prog G0 44 [dP kind fr to, dT t] (dT (sub kind (tbl fr to) t)) :=
  put0_fn kind fr to hft (fun q h => clone_fn to[q]) t
def tp0 : Tp := .mk 0 0 []
def repl (t : Tp) (kind : Int) (fr : List Int) (to : List Tp) : Tp × Int :=
  if fr.length = to.length then (if szT (sub kind (tbl fr to) t) ≤ 1000 then (sub kind (tbl fr to) t, 0) else (tp0, 3)) else (tp0, 1)
def replD (r : Tp × Int) : D := .tup [dT r.1, .int .i64 r.2]
theorem replace_fn (t : Tp) (kind : Int) (fr : List Int) (to : List Tp) : FnR Tryd.prog G0 16 [dT t, .int .i64 kind, dI fr, dK to] (replD (repl t kind fr to)) := by
  refine fnQ_of_vc txok mixed [] Tryd.func16 rfl rfl (by simp) fun b => ?_
  conv => whnf
  refine And.intro (fun h => ?_) (fun h => ?_)
  · have h : fr.length ≠ to.length := by intro e; rw [e] at h; simp at h
    conv => whnf
    rw [repl, if_neg h]
    rfl
  · have h : fr.length = to.length := by
      have : ((fr.length : Int) == (to.length : Int)) = true := by simpa using h
      have := eq_of_beq this; omega
    rw [repl, if_pos h]
    conv => whnf
    refine callF (psize_fn kind fr to h t 1000 (by omega)) gf43 rfl rfl ?_
    conv => whnf
    refine And.intro (fun h2 => ?_) (fun h2 => ?_)
    · have h2 := of_decide_eq_true h2
      have := cutN_gt (n := szT (sub kind (tbl fr to) t)) (most := 1000) (by omega)
      rw [if_neg (by omega)]
      conv => whnf
      rfl
    · have h2 := of_decide_eq_false h2
      have : szT (sub kind (tbl fr to) t) ≤ 1000 := by
        rcases Nat.lt_or_ge 1000 (szT (sub kind (tbl fr to) t)) with h' | h'
        · rw [cutN_big h'] at h2; omega
        · exact h'
      rw [if_pos this]
      conv => whnf
      refine callF (put_fn kind fr to h t) gf44 rfl rfl ?_
      conv => whnf
      rfl
end Go.Proofs.YtmgmddcehjcbkaaDoor
