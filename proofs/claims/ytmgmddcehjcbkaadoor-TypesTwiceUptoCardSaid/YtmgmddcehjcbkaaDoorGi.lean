/- Copies; how great what replacing makes is; what it makes. -/
import Derived.Test.YtmgmddcehjcbkaaDoorGh
set_option linter.unusedSimpArgs false
set_option linter.unusedVariables false
namespace Go.Proofs.YtmgmddcehjcbkaaDoor
open Go.Vx Go.Vc Go.RowKit

theorem sclone_tri (l : List Tp) : Tri Tryd.prog G0 60 0 1 [.d (dK l)] [] (fun o H' => o = .ret (.row 0) ∧ H' = [(0, .row 24 40 3 l.length (encK l))]) := by
  refine tri_sz fun hs => ?_
  have hl := (szOk_sl (hs (.d (dK l)) (by simp))).1
  refine triNil (args := [.d (dK l)]) (Q := fun o H' => (o = .ret (.row 0) ∧ H' = [(0, .row 24 40 3 l.length (encK l))]) ∨ (o = .ret .nl ∧ l = [])) 24 40 3 ?_ ?_
  · refine tri_of_vc (args := [.d (dK l)]) txok mixed [0] [] Tryd.func60 rfl rfl (by simp) fun b => ?_
    conv => whnf
    intro c hc
    conv => whnf
    refine And.intro (fun h => ?_) (fun h => ?_)
    · conv => whnf
      exact .inr ⟨rfl, List.eq_nil_of_length_eq_zero (hc h)⟩
    · conv => whnf
      refine appR (i := 0) (sz := 3) (n := 0) (m := l.length) (xs := []) (ys := encK l) txok (fun _ => false) l.length (encK l) rfl rfl rfl (by kernel_rfl) (encK_len l) (encK_scal l) (by simp) (by simp) hl ?_
      conv => whnf
      exact .inl ⟨rfl, rfl⟩
  · rintro o H' (h | ⟨rfl, rfl⟩)
    · exact .inl h
    · exact .inr ⟨rfl, rfl, rfl⟩

theorem cutN_add {a most : Nat} (s : Nat) (h : a ≤ most) : a + cutN s (most - a) = cutN (a + s) most := by
  unfold cutN; split <;> split <;> omega
theorem cutN_le (n most : Nat) : cutN n most ≤ most + 1 := by unfold cutN; split <;> omega
theorem cutN_gt {n most : Nat} (h : most < cutN n most) : most < n := by unfold cutN at h; split at h <;> omega
theorem cutN_big {n most : Nat} (h : most < n) : cutN n most = most + 1 := by unfold cutN; rw [if_neg (by omega)]
theorem cutN_small {n most : Nat} (h : n ≤ most) : cutN n most = n := by unfold cutN; rw [if_pos h]
abbrev dP (kind : Int) (fr : List Int) (to : List Tp) : D := .agg [.int .i64 kind, dI fr, dK to]
theorem psize_fn (kind : Int) (fr : List Int) (to : List Tp) (hft : fr.length = to.length) : ∀ (t : Tp) (most : Nat), most ≤ 1000000 → FnR Tryd.prog G0 43 [dP kind fr to, dT t, .int .i64 most] (.int .i64 (cutN (szT (sub kind (tbl fr to) t)) most)) := by
  refine Tp.ind fun k n ks ih most hm => ?_
  refine fnQ_sz fun hs => ?_
  have hl := (szOk_T (t := .mk k n ks) hs.2.1).1
  simp only [mk_kids, LB] at hl
  obtain ⟨q1, q2⟩ := tbl_idx fr to n 0 (by omega) (by omega)
  have hsub : ¬ (k = kind ∧ 0 ≤ idxFrom fr n 0) → sub kind (tbl fr to) (.mk k n ks) = .mk k n (subL kind (tbl fr to) ks) := by
    intro h
    rw [sub]
    by_cases hk : k = kind
    · rw [if_pos hk, q1 (by rcases Int.lt_or_le (idxFrom fr n 0) 0 with h' | h'; exact h'; exact absurd ⟨hk, h'⟩ h)]
    · rw [if_neg hk]
  refine fnQ_of_vc txok mixed [(100006, .done)] Tryd.func43 rfl rfl (by simp) fun b => ?_
  conv => whnf
  refine CutC.mk (fun st => ¬ (k = kind ∧ 0 ≤ idxFrom fr n 0) ∧ st = ⟨[(2, .d (.int .i64 most)), (3, .own 0 0), (4, .own 1 0)], [(0, .blk 48 [.d (.int .i64 kind), .d (dI fr), .d (dK to)]), (1, .blk 24 [.d (.int .i64 k), .d (.int .i64 n), .d (dK ks)])], 2⟩) ?_ ?_
  · conv => whnf
    simp only [mk_k]
    refine And.intro (fun hk => ?_) (fun hk => ?_)
    · have hk := eq_of_beq hk
      conv => whnf
      refine callF (index_fn fr n) gf58 rfl rfl ?_
      conv => whnf
      refine And.intro (fun hp => ?_) (fun hp => ?_)
      · have hp := of_decide_eq_true hp
        obtain ⟨q, q3, q4, q5⟩ := q2 (by omega)
        have hq : q < to.length := by omega
        rw [List.getElem?_eq_getElem hq] at q5
        have hsb : sub kind (tbl fr to) (.mk k n ks) = to[q] := by rw [sub, if_pos hk, q5]
        conv => whnf
        refine IdxC.encK q hq (by rw [q3]; omega) ?_
        conv => whnf
        refine callF (count_fn to[q] most hm) gf50 rfl rfl ?_
        conv => whnf
        rw [hsb]
      · have hp := of_decide_eq_false hp
        conv => whnf
        exact ⟨_, ⟨fun h => hp h.2, rfl⟩, weak_of rfl (by repeat ((conv => whnf); first | exact trivial | refine And.intro rfl ?_ | refine And.intro (incD (by omega)) ?_)) (by repeat ((conv => whnf); first | exact trivial | refine And.intro rfl ?_ | refine And.intro (incD (by omega)) ?_))⟩
    · have hk : k ≠ kind := by simpa using hk
      conv => whnf
      exact ⟨_, ⟨fun h => hk h.1, rfl⟩, weak_of rfl (by repeat ((conv => whnf); first | exact trivial | refine And.intro rfl ?_ | refine And.intro (incD (by omega)) ?_)) (by repeat ((conv => whnf); first | exact trivial | refine And.intro rfl ?_ | refine And.intro (incD (by omega)) ?_))⟩
  · rintro st' ⟨hno, rfl⟩
    have hsub := hsub hno
    have hlen : (subL kind (tbl fr to) ks).length = ks.length := by rw [subL_map, List.length_map]
    have hsz : szT (sub kind (tbl fr to) (.mk k n ks)) = szL (subL kind (tbl fr to) ks) + 1 := by rw [hsub, szT]
    generalize hks' : subL kind (tbl fr to) ks = ks' at *
    have hget : ∀ (i : Nat) (h : i < ks.length) (h' : i < ks'.length), ks'[i] = sub kind (tbl fr to) ks[i] := by
      intro i h h'; subst hks'; simp [subL_map]
    conv => whnf
    refine loopH (fun i : Nat => i ≤ ks.length) (fun i => ks.length - i) (fun i => [(39, .d (.int .i64 i)), (10, .d (.int .i64 (cutN (1 + szL (ks'.take i)) most)))]) (fun _ => [(0, .blk 48 [.d (.int .i64 kind), .d (dI fr), .d (dK to)]), (1, .blk 24 [.d (.int .i64 k), .d (.int .i64 n), .d (dK ks)])]) 2 0 (by omega) ?_ ?_
    · have h0 : cutN (1 + szL (ks'.take 0)) most = 1 := by unfold cutN; simp only [List.take_zero, szL]; split <;> omega
      exact weak_of rfl (by repeat ((conv => whnf); first | exact trivial | refine And.intro rfl ?_ | refine And.intro (show SV.d (.int .i64 1) = SV.d (.int .i64 (cutN (1 + szL (ks'.take 0)) most : Nat)) from by rw [h0]; rfl) ?_)) (by repeat ((conv => whnf); first | exact trivial | refine And.intro rfl ?_ | refine And.intro (incD (by omega)) ?_))
    intro i hi
    have hle := szL_take_le ks' i
    conv => whnf
    simp only [mk_kids]
    refine And.intro (fun hb => ?_) (fun hb => ?_)
    · have hb := of_decide_eq_true hb
      have hil : i < ks.length := by omega
      have ht := szL_take (ks := ks') (i := i) (by omega)
      rw [hget i hil (by omega)] at ht
      conv => whnf
      refine IdxC.encK i hil rfl ?_
      conv => whnf
      refine And.intro (fun h => ?_) (fun h => ?_)
      · have h := of_decide_eq_true h
        have := cutN_gt (n := 1 + szL (ks'.take i)) (most := most) (by omega)
        conv => whnf
        rw [cutN_big this, cutN_big (by omega)]
      · have h := of_decide_eq_false h
        have hx : 1 + szL (ks'.take i) ≤ most := by
          rcases Nat.lt_or_ge most (1 + szL (ks'.take i)) with h' | h'
          · rw [cutN_big h'] at h; omega
          · exact h'
        rw [cutN_small hx]
        conv => whnf
        have e1 : IntKind.i64.wrap ((most : Int) - ((1 + szL (ks'.take i) : Nat) : Int)) = ((most - (1 + szL (ks'.take i)) : Nat) : Int) :=
          (Go.Vc.wrap_small (a := (most : Int) - ((1 + szL (ks'.take i) : Nat) : Int)) (by omega) (by omega)).trans (by omega)
        rw [e1]
        refine callF (ih ks[i] (by simp) (most - (1 + szL (ks'.take i))) (by omega)) gf43 rfl rfl ?_
        conv => whnf
        have hc := cutN_le (szT (sub kind (tbl fr to) ks[i])) (most - (1 + szL (ks'.take i)))
        have e2 : IntKind.i64.wrap (((1 + szL (ks'.take i) : Nat) : Int) + ((cutN (szT (sub kind (tbl fr to) ks[i])) (most - (1 + szL (ks'.take i))) : Nat) : Int)) = ((cutN (1 + szL (ks'.take (i + 1))) most : Nat) : Int) := by
          rw [show 1 + szL (ks'.take (i + 1)) = 1 + szL (ks'.take i) + szT (sub kind (tbl fr to) ks[i]) from by omega, ← cutN_add _ hx]
          exact (Go.Vc.wrap_small (a := ((1 + szL (ks'.take i) : Nat) : Int) + ((cutN (szT (sub kind (tbl fr to) ks[i])) (most - (1 + szL (ks'.take i))) : Nat) : Int)) (by omega) (by omega)).trans (by omega)
        rw [e2]
        exact again (i + 1) (by omega) (by omega) (weak_of rfl (by repeat ((conv => whnf); first | exact trivial | refine And.intro rfl ?_ | refine And.intro (incD (by omega)) ?_)) (by repeat ((conv => whnf); first | exact trivial | refine And.intro rfl ?_ | refine And.intro (incD (by omega)) ?_)))
    · have hb := of_decide_eq_false hb
      have hi : i = ks'.length := by omega
      subst hi
      rw [List.take_length]
      conv => whnf
      rw [hsz, Nat.add_comm 1]
end Go.Proofs.YtmgmddcehjcbkaaDoor
