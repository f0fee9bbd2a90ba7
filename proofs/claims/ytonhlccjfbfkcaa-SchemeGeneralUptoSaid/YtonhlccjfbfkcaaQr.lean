/- The reference (texts Ra to Re, joined, as far as this seat has them). -/
import Derived.Test.YtonhlccjfbfkcaaQg
import Derived.Test.YtonhlccjfbfkcaaVpc

set_option linter.unusedVariables false
set_option linter.unusedSimpArgs false

/- The reference: the order. -/
namespace Go.Proofs.Ytonhlccjfbfkcaa
open Go.Vx Go.Vc Go.RowKit

theorem number_fn (a c : Int) : FnR Try.prog G0 65 [.int .i64 a, .int .i64 c] (.int .i64 (cmpI a c)) := by
  refine fnQ_of_vc txok mixed [] Try.func65 rfl rfl (by simp) fun b => ?_
  (repeat' ((conv => whnf); first | refine And.intro (fun _ => ?_) (fun _ => ?_))) <;> (conv => whnf)
  all_goals refine congrArg (D.int .i64) ?_
  all_goals simp_all [cmpI]
  all_goals omega
theorem rcmp_fn : ∀ t, CmpOk 51 t := by
  refine Tp.ind fun k n ks ih u => ?_
  obtain ⟨k', n', ks'⟩ := u
  refine fnQ_sz fun hs => ?_
  have hl := (szOk_T (t := .mk k n ks) hs.1).1
  simp only [mk_kids, LB] at hl
  rw [cmpT, orL4]
  refine fnQ_of_vc txok mixed [(13, .pure 0 (.take 1 (.pure 2 (.pure 3 (.take 4 (.pure 5 (.take 6 (.pure 7 (.pure 8 (.take 9 (.fin 10 (.pure 11 .done))))))))))))] Try.func51 rfl rfl (by simp) fun b => ?_
  conv => whnf
  refine callF (number_fn k k') gf65 rfl rfl ?_
  conv => whnf
  refine And.intro (fun h1 => ?_) (fun h1 => ?_)
  · have h1 : cmpI k k' ≠ 0 := by simpa using h1
    rw [if_pos h1]
    conv => whnf
  have h1 : cmpI k k' = 0 := by simpa using h1
  rw [if_neg (by omega)]
  conv => whnf
  refine callF (number_fn n n') gf65 rfl rfl ?_
  conv => whnf
  refine And.intro (fun h2 => ?_) (fun h2 => ?_)
  · have h2 : cmpI n n' ≠ 0 := by simpa using h2
    rw [if_pos h2]
    conv => whnf
  have h2 : cmpI n n' = 0 := by simpa using h2
  rw [if_neg (by omega)]
  conv => whnf
  refine callF (number_fn ks.length ks'.length) gf65 rfl rfl ?_
  conv => whnf
  refine And.intro (fun h3 => ?_) (fun h3 => ?_)
  · have h3 : cmpI ks.length ks'.length ≠ 0 := by simpa using h3
    rw [if_pos h3]
    conv => whnf
  have h3 : cmpI ks.length ks'.length = 0 := by simpa using h3
  rw [if_neg (by omega)]
  have hlen := cmpI_zero.1 h3
  conv => whnf
  refine loopH (fun i : Nat => i ≤ ks.length ∧ cmpL ks ks' = cmpL (ks.drop i) (ks'.drop i)) (fun i => ks.length - i) (fun i => [(8, .d (.int .i64 i))]) (fun _ => [(0, .blk 24 [.d (.int .i64 k), .d (.int .i64 n), .d (dK ks)]), (1, .blk 24 [.d (.int .i64 k'), .d (.int .i64 n'), .d (dK ks')])]) 2 0 ⟨by omega, rfl⟩ (weak_of rfl (by repeat ((conv => whnf); first | exact trivial | refine And.intro rfl ?_ | refine And.intro (incD (by omega)) ?_)) (by repeat ((conv => whnf); first | exact trivial | refine And.intro rfl ?_ | refine And.intro (incD (by omega)) ?_))) ?_
  rintro i ⟨hi, hx⟩
  conv => whnf
  refine And.intro (fun hb => ?_) (fun hb => ?_)
  · have hb := of_decide_eq_true hb
    have hil : i < ks.length := by omega
    have hil' : i < ks'.length := by omega
    rw [cmpL_drop hil hil'] at hx
    conv => whnf
    refine And.intro (by kernel_rfl) ?_
    conv => whnf
    refine IdxC.encK i hil rfl ?_
    conv => whnf
    refine IdxC.encK i hil' rfl ?_
    conv => whnf
    refine callF (ih ks[i] (by simp) ks'[i]) gf51 rfl rfl ?_
    conv => whnf
    refine And.intro (fun he => ?_) (fun he => ?_)
    · have he : cmpT ks[i] ks'[i] ≠ 0 := by simpa using he
      conv => whnf
      rw [hx, if_pos he]
    · have he : cmpT ks[i] ks'[i] = 0 := by simpa using he
      rw [if_neg (by omega)] at hx
      conv => whnf
      exact again (i + 1) (by omega) ⟨by omega, hx⟩ (weak_of rfl (by repeat ((conv => whnf); first | exact trivial | refine And.intro rfl ?_ | refine And.intro (incD (by omega)) ?_)) (by repeat ((conv => whnf); first | exact trivial | refine And.intro rfl ?_ | refine And.intro (incD (by omega)) ?_)))
  · have hb := of_decide_eq_false hb
    rw [List.drop_eq_nil_of_le (show ks.length ≤ i by omega), List.drop_eq_nil_of_le (show ks'.length ≤ i by omega)] at hx
    conv => whnf
    rw [hx]
    rfl
theorem rsame_fn (t u : Tp) : FnR Try.prog G0 30 [dT t, dT u] (.bool (cmpT t u == 0)) := by
  refine fnQ_of_vc txok mixed [] Try.func30 rfl rfl (by simp) fun b => ?_
  conv => whnf
  exact callF (rcmp_fn t u) gf51 rfl rfl rfl
end Go.Proofs.Ytonhlccjfbfkcaa


/- The reference: how great types are; places; two lists of numbers. -/
namespace Go.Proofs.Ytonhlccjfbfkcaa
open Go.Vx Go.Vc Go.RowKit

theorem place_fn (l : List Int) (x : Int) : FnR Try.prog G0 70 [dI l, .int .i64 x] (.int .i64 (idxFrom l x 0)) := by
  refine fnQ_sz fun hs => ?_
  have hl := (szOk_sl hs.1).1
  simp only [LB] at hl
  refine fnQ_of_vc txok mixed [] Try.func70 rfl rfl (by simp) fun b => ?_
  conv => whnf
  refine loopH (fun i : Nat => i ≤ l.length ∧ idxFrom l x 0 = idxFrom (l.drop i) x i) (fun i => l.length - i) (fun i => [(5, .d (.int .i64 i))]) (fun _ => []) 0 0 ⟨by omega, rfl⟩ (weak_of rfl (by repeat ((conv => whnf); first | exact trivial | refine And.intro rfl ?_ | refine And.intro (incD (by omega)) ?_)) (by repeat ((conv => whnf); first | exact trivial | refine And.intro rfl ?_ | refine And.intro (incD (by omega)) ?_))) ?_
  rintro i ⟨hi, hx⟩
  conv => whnf
  refine And.intro (fun hb => ?_) (fun hb => ?_)
  · have hb := of_decide_eq_true hb
    have hil : i < l.length := by omega
    rw [List.drop_eq_getElem_cons hil, idxFrom] at hx
    conv => whnf
    refine IdxC.encI i hil rfl ?_
    conv => whnf
    refine And.intro (fun he => ?_) (fun he => ?_)
    · conv => whnf
      rw [hx, if_pos (eq_of_beq he).symm]
    · have he : l[i] ≠ x := by simpa using he
      conv => whnf
      rw [if_neg (Ne.symm he)] at hx
      exact again (i + 1) (by omega) ⟨by omega, by rw [hx]; rfl⟩ (weak_of rfl (by repeat ((conv => whnf); first | exact trivial | refine And.intro rfl ?_ | refine And.intro (incD (by omega)) ?_)) (by repeat ((conv => whnf); first | exact trivial | refine And.intro rfl ?_ | refine And.intro (incD (by omega)) ?_)))
  · have hb := of_decide_eq_false hb
    conv => whnf
    rw [hx, List.drop_eq_nil_of_le (by omega)]; rfl
theorem cutN_lt {n most : Nat} (h : cutN n most ≤ most) : n ≤ most := by
  unfold cutN at h; split at h <;> omega
/-- The count so far, behind some kids. -/
def curC (m : Nat) (f : Nat → Nat) : Nat → Nat
  | 0 => m + 1
  | i + 1 => cutN (m + 1 + f (i + 1)) 1000
theorem curC_le {m : Nat} {f : Nat → Nat} {i : Nat} (hm : m ≤ 1000) : curC m f i ≤ 1001 := by
  cases i with
  | zero => simp only [curC]; omega
  | succ i => exact cutN_le _ _
theorem curC_eq {m : Nat} {f : Nat → Nat} {i : Nat} (h0 : f 0 = 0) : curC m f i ≤ 1000 → curC m f i = m + 1 + f i := by
  cases i with
  | zero => intro _; show m + 1 = m + 1 + f 0; omega
  | succ i => intro h; exact cutN_small (cutN_lt h)
theorem curC_gt {m : Nat} {f : Nat → Nat} {i q : Nat} (hm : m ≤ 1000) (hq : f i ≤ q) : 1000 < curC m f i → 1000 < m + 1 + q := by
  cases i with
  | zero => simp only [curC]; omega
  | succ i => intro h; have := cutN_gt h; omega
theorem counted_fn : ∀ (t : Tp) (m : Nat), m ≤ 1000 → FnR Try.prog G0 71 [dT t, .int .i64 m] (.int .i64 (cutN (m + szT t) 1000)) := by
  refine Tp.ind fun k n ks ih m hm => ?_
  refine fnQ_sz fun hs => ?_
  have hl := (szOk_T (t := .mk k n ks) hs.1).1
  simp only [mk_kids, LB] at hl
  have hsz : szT (.mk k n ks) = szL ks + 1 := by simp only [szT]
  have e0 : IntKind.i64.wrap ((m : Int) + 1) = ((m + 1 : Nat) : Int) := Go.Vc.inc (by omega)
  refine fnQ_of_vc txok mixed [] Try.func71 rfl rfl (by simp) fun b => ?_
  conv => whnf
  rw [e0]
  refine loopH (fun i : Nat => i ≤ ks.length) (fun i => ks.length - i) (fun i => [(5, .d (.int .i64 i)), (1, .d (.int .i64 (curC m (fun i => szL (ks.take i)) i : Nat)))]) (fun _ => [(0, .blk 24 [.d (.int .i64 k), .d (.int .i64 n), .d (dK ks)])]) 1 0 (by omega) (weak_of rfl (by repeat ((conv => whnf); first | exact trivial | refine And.intro rfl ?_ | refine And.intro (incD (by omega)) ?_)) (by repeat ((conv => whnf); first | exact trivial | refine And.intro rfl ?_ | refine And.intro (incD (by omega)) ?_))) ?_
  rintro i hi
  have hc1 := curC_le (f := fun i => szL (ks.take i)) (i := i) hm
  have hc2 := curC_eq (m := m) (f := fun i => szL (ks.take i)) (i := i) (by simp [szL])
  have hc3 := curC_gt (f := fun i => szL (ks.take i)) (i := i) (q := szL ks) hm (szL_take_le ks i)
  generalize hcur : curC m (fun i => szL (ks.take i)) i = cur at *
  conv => whnf
  have big : 1000 < cur → cutN (m + szT (.mk k n ks)) 1000 = 1001 := fun h => by rw [hsz]; exact cutN_big (by have := hc3 h; omega)
  refine And.intro (fun hb => ?_) (fun hb => ?_)
  · have hb : (i : Int) < (ks.length : Int) := of_decide_eq_true hb
    have hil : i < ks.length := by omega
    have ht := szL_take hil
    conv => whnf
    refine And.intro (fun h2 => ?_) (fun h2 => ?_)
    · have h2 := of_decide_eq_true h2
      conv => whnf
      refine IdxC.encK i hil rfl ?_
      conv => whnf
      refine callF (ih ks[i] (by simp) cur (by omega)) gf71 rfl rfl ?_
      conv => whnf
      rw [hc2 (by omega), show m + 1 + szL (ks.take i) + szT ks[i] = m + 1 + szL (ks.take (i + 1)) from by omega]
      exact again (i + 1) (by omega) (by omega) (weak_of rfl (by repeat ((conv => whnf); first | exact trivial | refine And.intro rfl ?_ | refine And.intro (incD (by omega)) ?_)) (by repeat ((conv => whnf); first | exact trivial | refine And.intro rfl ?_ | refine And.intro (incD (by omega)) ?_)))
    · have h2 := of_decide_eq_false h2
      conv => whnf
      refine And.intro (fun h3 => ?_) (fun h3 => ?_)
      · conv => whnf
        rw [big (by omega)]; rfl
      · have h3 := of_decide_eq_false h3; omega
  · have hb : ¬ (i : Int) < (ks.length : Int) := of_decide_eq_false hb
    have hi : i = ks.length := by omega
    subst hi
    conv => whnf
    refine And.intro (fun h3 => ?_) (fun h3 => ?_)
    · have h3 := of_decide_eq_true h3
      conv => whnf
      rw [big (by omega)]; rfl
    · have h3 := of_decide_eq_false h3
      have h4 := hc2 (by omega)
      rw [List.take_length] at h4
      conv => whnf
      rw [cutN_small (by omega), hsz, h4]
      refine congrArg (D.int .i64) ?_
      omega
theorem grown_fn (kind : Int) (fr : List Int) (to : List Tp) (hft : fr.length = to.length) : ∀ (t : Tp) (m : Nat), m ≤ 1000 → FnR Try.prog G0 63 [dT t, .int .i64 kind, dI fr, dK to, .int .i64 m] (.int .i64 (cutN (m + szT (sub kind (tbl fr to) t)) 1000)) := by
  refine Tp.ind fun k n ks ih m hm => ?_
  refine fnQ_sz fun hs => ?_
  have hl := (szOk_T (t := .mk k n ks) hs.1).1
  simp only [mk_kids, LB] at hl
  obtain ⟨q1, q2⟩ := tbl_idx fr to n 0 (by omega) (by omega)
  have hsub : ¬ (k = kind ∧ 0 ≤ idxFrom fr n 0) → sub kind (tbl fr to) (.mk k n ks) = .mk k n (subL kind (tbl fr to) ks) := by
    intro h
    rw [sub]
    by_cases hk : k = kind
    · rw [if_pos hk, q1 (by rcases Int.lt_or_le (idxFrom fr n 0) 0 with h' | h'; exact h'; exact absurd ⟨hk, h'⟩ h)]
    · rw [if_neg hk]
  have e0 : IntKind.i64.wrap ((m : Int) + 1) = ((m + 1 : Nat) : Int) := Go.Vc.inc (by omega)
  refine fnQ_of_vc txok mixed [(100005, .done)] Try.func63 rfl rfl (by simp) fun b => ?_
  conv => whnf
  refine CutC.mk (fun st => ¬ (k = kind ∧ 0 ≤ idxFrom fr n 0) ∧ st = ⟨[(1, .d (.int .i64 kind)), (2, .d (dI fr)), (3, .d (dK to)), (4, .d (.int .i64 m)), (5, .own 0 0)], [(0, .blk 24 [.d (.int .i64 k), .d (.int .i64 n), .d (dK ks)])], 1⟩) ?_ ?_
  · conv => whnf
    simp only [mk_k]
    refine And.intro (fun hk => ?_) (fun hk => ?_)
    · have hk := eq_of_beq hk
      conv => whnf
      refine callF (place_fn fr n) gf70 rfl rfl ?_
      conv => whnf
      refine And.intro (fun hp => ?_) (fun hp => ?_)
      · have hp := of_decide_eq_true hp
        obtain ⟨q, q3, q4, q5⟩ := q2 (by omega)
        have hq : q < to.length := by omega
        rw [List.getElem?_eq_getElem hq] at q5
        have hsb : sub kind (tbl fr to) (.mk k n ks) = to[q] := by rw [sub, if_pos hk, q5]
        conv => whnf
        refine IdxC.encK q hq (by rw [q3]; omega) ?_
        conv => whnf
        refine callF (counted_fn to[q] m hm) gf71 rfl rfl ?_
        conv => whnf
        rw [hsb]
      · have hp := of_decide_eq_false hp
        conv => whnf
        exact ⟨_, ⟨fun h => hp h.2, rfl⟩, weak_of rfl (by repeat ((conv => whnf); first | exact trivial | refine And.intro rfl ?_ | refine And.intro (incD (by omega)) ?_)) (by repeat ((conv => whnf); first | exact trivial | refine And.intro rfl ?_ | refine And.intro (incD (by omega)) ?_))⟩
    · have hk : k ≠ kind := by simpa using hk
      conv => whnf
      exact ⟨_, ⟨fun h => hk h.1, rfl⟩, weak_of rfl (by repeat ((conv => whnf); first | exact trivial | refine And.intro rfl ?_ | refine And.intro (incD (by omega)) ?_)) (by repeat ((conv => whnf); first | exact trivial | refine And.intro rfl ?_ | refine And.intro (incD (by omega)) ?_))⟩
  · rintro st' ⟨hno, rfl⟩
    have hsub := hsub hno
    have hlen : (subL kind (tbl fr to) ks).length = ks.length := by rw [subL_map, List.length_map]
    have hsz : szT (sub kind (tbl fr to) (.mk k n ks)) = szL (subL kind (tbl fr to) ks) + 1 := by rw [hsub, szT]
    generalize hks' : subL kind (tbl fr to) ks = ks' at *
    have hget : ∀ (i : Nat) (h : i < ks.length) (h' : i < ks'.length), ks'[i] = sub kind (tbl fr to) ks[i] := by
      intro i h h'; subst hks'; simp [subL_map]
    conv => whnf
    rw [e0]
    refine loopH (fun i : Nat => i ≤ ks.length) (fun i => ks.length - i) (fun i => [(12, .d (.int .i64 i)), (4, .d (.int .i64 (curC m (fun i => szL (ks'.take i)) i : Nat)))]) (fun _ => [(0, .blk 24 [.d (.int .i64 k), .d (.int .i64 n), .d (dK ks)])]) 1 0 (by omega) (weak_of rfl (by repeat ((conv => whnf); first | exact trivial | refine And.intro rfl ?_ | refine And.intro (incD (by omega)) ?_)) (by repeat ((conv => whnf); first | exact trivial | refine And.intro rfl ?_ | refine And.intro (incD (by omega)) ?_))) ?_
    rintro i hi
    have hc1 := curC_le (f := fun i => szL (ks'.take i)) (i := i) hm
    have hc2 := curC_eq (m := m) (f := fun i => szL (ks'.take i)) (i := i) (by simp [szL])
    have hc3 := curC_gt (f := fun i => szL (ks'.take i)) (i := i) (q := szL ks') hm (szL_take_le ks' i)
    generalize hcur : curC m (fun i => szL (ks'.take i)) i = cur at *
    conv => whnf
    have big : 1000 < cur → cutN (m + szT (sub kind (tbl fr to) (.mk k n ks))) 1000 = 1001 := fun h => by rw [hsz]; exact cutN_big (by have := hc3 h; omega)
    refine And.intro (fun hb => ?_) (fun hb => ?_)
    · have hb : (i : Int) < (ks.length : Int) := of_decide_eq_true hb
      have hil : i < ks.length := by omega
      have ht := szL_take (ks := ks') (i := i) (by omega)
      rw [hget i hil (by omega)] at ht
      conv => whnf
      refine And.intro (fun h2 => ?_) (fun h2 => ?_)
      · have h2 := of_decide_eq_true h2
        conv => whnf
        refine IdxC.encK i hil rfl ?_
        conv => whnf
        refine callF (ih ks[i] (by simp) cur (by omega)) gf63 rfl rfl ?_
        conv => whnf
        rw [hc2 (by omega), show m + 1 + szL (ks'.take i) + szT (sub kind (tbl fr to) ks[i]) = m + 1 + szL (ks'.take (i + 1)) from by omega]
        exact again (i + 1) (by omega) (by omega) (weak_of rfl (by repeat ((conv => whnf); first | exact trivial | refine And.intro rfl ?_ | refine And.intro (incD (by omega)) ?_)) (by repeat ((conv => whnf); first | exact trivial | refine And.intro rfl ?_ | refine And.intro (incD (by omega)) ?_)))
      · have h2 := of_decide_eq_false h2
        conv => whnf
        refine And.intro (fun h3 => ?_) (fun h3 => ?_)
        · conv => whnf
          rw [big (by omega)]; rfl
        · have h3 := of_decide_eq_false h3; omega
    · have hb : ¬ (i : Int) < (ks.length : Int) := of_decide_eq_false hb
      have hi : i = ks'.length := by omega
      subst hi
      conv => whnf
      refine And.intro (fun h3 => ?_) (fun h3 => ?_)
      · have h3 := of_decide_eq_true h3
        conv => whnf
        rw [big (by omega)]; rfl
      · have h3 := of_decide_eq_false h3
        have h4 := hc2 (by omega)
        rw [List.take_length] at h4
        conv => whnf
        rw [cutN_small (by omega), hsz, h4]
        refine congrArg (D.int .i64) ?_
        omega
end Go.Proofs.Ytonhlccjfbfkcaa


/- The reference: what replacing makes. -/
namespace Go.Proofs.Ytonhlccjfbfkcaa
open Go.Vx Go.Vc Go.RowKit

abbrev rputH (k n : Int) (ks ms : List Tp) (i : Nat) : Hp :=
  [(0, .blk 24 [.d (.int .i64 k), .d (.int .i64 n), .d (dK ks)]), (1, .blk 24 [.d (.int .i64 0), .d (.int .i64 0), .nl]), (2, .blk 24 [.d (.int .i64 k), .d (.int .i64 n), .row 3]), (3, .row 24 40 3 i (encK ms))]
theorem rput_fn (kind : Int) (fr : List Int) (to : List Tp) (hft : fr.length = to.length) : ∀ t : Tp, FnR Try.prog G0 64 [dT t, .int .i64 kind, dI fr, dK to] (dT (sub kind (tbl fr to) t)) := by
  refine Tp.ind fun k n ks ih => ?_
  refine fnQ_sz fun hs => ?_
  have hl := (szOk_T (t := .mk k n ks) hs.1).1
  simp only [mk_kids, LB] at hl
  obtain ⟨q1, q2⟩ := tbl_idx fr to n 0 (by omega) (by omega)
  have hsub : ¬ (k = kind ∧ 0 ≤ idxFrom fr n 0) → sub kind (tbl fr to) (.mk k n ks) = .mk k n (subL kind (tbl fr to) ks) := by
    intro h
    rw [sub]
    by_cases hk : k = kind
    · rw [if_pos hk, q1 (by rcases Int.lt_or_le (idxFrom fr n 0) 0 with h' | h'; exact h'; exact absurd ⟨hk, h'⟩ h)]
    · rw [if_neg hk]
  refine fnQ_of_vc txok mixed ((100005, .done) :: [(9, .pure 0 (.take 1 (.pure 2 (.take 3 (.pure 4 (.pure 5 (.take 6 (.pure 7 (.pure 8 (.pure 9 (.run 10 (.run 11 (.fin 12 (.pure 13 (.fin 14 .done)))))))))))))))]) Try.func64 rfl rfl (by simp) fun b => ?_
  conv => whnf
  refine CutC.mk (fun st => ¬ (k = kind ∧ 0 ≤ idxFrom fr n 0) ∧ st = ⟨[(1, .d (.int .i64 kind)), (2, .d (dI fr)), (3, .d (dK to)), (4, .own 0 0), (8, .own 1 0)], [(0, .blk 24 [.d (.int .i64 k), .d (.int .i64 n), .d (dK ks)]), (1, .blk 24 [.d (.int .i64 0), .d (.int .i64 0), .nl])], 2⟩) ?_ ?_
  · conv => whnf
    simp only [mk_k]
    refine And.intro (fun hk => ?_) (fun hk => ?_)
    · have hk := eq_of_beq hk
      conv => whnf
      refine callF (place_fn fr n) gf70 rfl rfl ?_
      conv => whnf
      refine And.intro (fun hp => ?_) (fun hp => ?_)
      · have hp := of_decide_eq_true hp
        obtain ⟨q, q3, q4, q5⟩ := q2 (by omega)
        have hq : q < to.length := by omega
        rw [List.getElem?_eq_getElem hq] at q5
        have hsb : sub kind (tbl fr to) (.mk k n ks) = to[q] := by rw [sub, if_pos hk, q5]
        conv => whnf
        refine IdxC.encK q hq (by rw [q3]; omega) ?_
        conv => whnf
        rw [hsb]
        rfl
      · have hp := of_decide_eq_false hp
        conv => whnf
        exact ⟨_, ⟨fun h => hp h.2, rfl⟩, weak_of rfl (by repeat ((conv => whnf); first | exact trivial | refine And.intro rfl ?_ | refine And.intro (incD (by omega)) ?_)) (by repeat ((conv => whnf); first | exact trivial | refine And.intro rfl ?_ | refine And.intro (incD (by omega)) ?_))⟩
    · have hk : k ≠ kind := by simpa using hk
      conv => whnf
      exact ⟨_, ⟨fun h => hk h.1, rfl⟩, weak_of rfl (by repeat ((conv => whnf); first | exact trivial | refine And.intro rfl ?_ | refine And.intro (incD (by omega)) ?_)) (by repeat ((conv => whnf); first | exact trivial | refine And.intro rfl ?_ | refine And.intro (incD (by omega)) ?_))⟩
  · rintro st' ⟨hno, rfl⟩
    have hsub := hsub hno
    conv => whnf
    refine loopH (fun i : Nat => i ≤ ks.length) (fun i => ks.length - i) (fun i => [(11, .d (.int .i64 i))]) (fun i => rputH k n ks (subL kind (tbl fr to) (ks.take i)) i) 4 0 (by omega) ?_ ?_
    · exact (weak_nlC 2 2 24 40 3 rfl rfl).trans (weak_of rfl (by repeat ((conv => whnf); first | exact trivial | refine And.intro rfl ?_ | refine And.intro (incD (by omega)) ?_)) (by repeat ((conv => whnf); first | exact trivial | refine And.intro rfl ?_ | refine And.intro (incD (by omega)) ?_)))
    intro i hi
    conv => whnf
    refine And.intro (fun hb => ?_) (fun hb => ?_)
    · have hb : (i : Int) < (ks.length : Int) := of_decide_eq_true hb
      have hil : i < ks.length := by omega
      have hxs : encK (subL kind (tbl fr to) (ks.take i)) ++ encT (sub kind (tbl fr to) ks[i]) = encK (subL kind (tbl fr to) (ks.take (i + 1))) := by
        rw [List.take_succ_eq_append_getElem hil, subL_map, subL_map, List.map_append, encK_app]
        simp only [List.map_cons, List.map_nil, Vx.encK, encT0_eq, List.append_nil]
      conv => whnf
      refine And.intro (by kernel_rfl) ?_
      conv => whnf
      refine IdxC.encK i hil rfl ?_
      conv => whnf
      refine callF (ih ks[i] (by simp)) gf64 rfl rfl ?_
      conv => whnf
      refine appR (i := 3) (sz := 3) (n := i) (m := 1) (xs := encK (subL kind (tbl fr to) (ks.take i))) (ys := encT (sub kind (tbl fr to) ks[i])) txok (fun k => Nat.blt 3 k) (i + 1) (encK (subL kind (tbl fr to) (ks.take (i + 1)))) rfl rfl rfl (by kernel_rfl) rfl (encT_scal _) rfl hxs (by simp only [LB]; omega) ?_
      conv => whnf
      exact again (i + 1) (by omega) (by omega) (weak_of rfl (by repeat ((conv => whnf); first | exact trivial | refine And.intro rfl ?_ | refine And.intro (incD (by omega)) ?_)) (by repeat ((conv => whnf); first | exact trivial | refine And.intro rfl ?_ | refine And.intro (incD (by omega)) ?_)))
    · have hb : ¬ (i : Int) < (ks.length : Int) := of_decide_eq_false hb
      have hi : i = ks.length := by omega
      subst hi
      rw [List.take_length]
      conv => whnf
      rw [hsub]
      simp only [dT, encT, mk_k, mk_n, mk_kids]
      rw [show (subL kind (tbl fr to) ks).length = ks.length from by rw [subL_map, List.length_map]]
theorem rreplace_fn (t : Tp) (kind : Int) (fr : List Int) (to : List Tp) : FnR Try.prog G0 50 [dT t, .int .i64 kind, dI fr, dK to] (replD (repl t kind fr to)) := by
  refine fnQ_of_vc txok mixed [] Try.func50 rfl rfl (by simp) fun b => ?_
  conv => whnf
  refine And.intro (fun h => ?_) (fun h => ?_)
  · have h : fr.length ≠ to.length := by intro e; rw [e] at h; simp at h
    conv => whnf
    rw [repl, if_neg h]
    rfl
  · have h : fr.length = to.length := by
      have : ((fr.length : Int) == (to.length : Int)) = true := by simpa using h
      have := eq_of_beq this; omega
    rw [repl, if_pos h]
    conv => whnf
    have hG := grown_fn kind fr to h t 0 (by omega)
    rw [Nat.zero_add] at hG
    refine callF hG gf63 rfl rfl ?_
    conv => whnf
    refine And.intro (fun h2 => ?_) (fun h2 => ?_)
    · have h2 := of_decide_eq_true h2
      have := cutN_gt (n := szT (sub kind (tbl fr to) t)) (most := 1000) (by omega)
      rw [if_neg (by omega)]
      conv => whnf
      rfl
    · have h2 := of_decide_eq_false h2
      have : szT (sub kind (tbl fr to) t) ≤ 1000 := cutN_lt (by omega)
      rw [if_pos this]
      conv => whnf
      refine callF (rput_fn kind fr to h t) gf64 rfl rfl ?_
      conv => whnf
      rfl
end Go.Proofs.Ytonhlccjfbfkcaa


/- The reference: Right, Size, Fits. -/
namespace Go.Proofs.Ytonhlccjfbfkcaa
open Go.Vx Go.Vc Go.RowKit

theorem rright_fn : ∀ t : Tp, FnR Try.prog G0 9 [dT t] (.bool (right t)) := by
  refine Tp.ind fun k n ks ih => ?_
  refine fnQ_of_vc txok mixed [] Try.func9 rfl rfl (by simp) fun b => ?_
  (repeat' ((conv => whnf); first | refine And.intro (fun _ => ?_) (fun _ => ?_))) <;> (conv => whnf)
  all_goals simp only [mk_k, mk_n, mk_kids, Bool.not_true] at *
  all_goals try (refine congrArg D.bool ?_; first | (simp only [right, *, Bool.or_self, Bool.true_or, Bool.or_true, Bool.false_or, Bool.or_false, Bool.false_and, Bool.and_false, Bool.true_and, Bool.and_true, Bool.and_self, Bool.not_true, Bool.not_false]; done) | (simp_all [right]; done) | (simp_all [right]; omega))
  all_goals
    have h2 : ks.length = 2 := by rename_i h2; have := eq_of_beq h2; omega
    obtain ⟨t, u, rfl⟩ : ∃ t u, ks = [t, u] := by
      match ks, h2 with
      | [t, u], _ => exact ⟨t, u, rfl⟩
    refine IdxC.encK 0 (by simp) rfl ?_
    conv => whnf
    refine callF (ih t (by simp)) gf9 rfl rfl ?_
    (repeat' ((conv => whnf); first | refine And.intro (fun _ => ?_) (fun _ => ?_))) <;> (conv => whnf)
  all_goals try (refine congrArg D.bool ?_; first | (simp only [right, rights, *, Bool.or_self, Bool.true_or, Bool.or_true, Bool.false_or, Bool.or_false, Bool.false_and, Bool.and_false, Bool.true_and, Bool.and_true, Bool.and_self, Bool.not_true, Bool.not_false]; done) | (simp_all [right, rights]; done) | (simp_all [right, rights]; omega))
  all_goals
    refine IdxC.encK 1 (by simp) rfl ?_
    conv => whnf
    refine callF (ih u (by simp)) gf9 rfl rfl ?_
    conv => whnf
    refine congrArg D.bool ?_; first | (simp only [right, rights, *, Bool.or_self, Bool.true_or, Bool.or_true, Bool.false_or, Bool.or_false, Bool.false_and, Bool.and_false, Bool.true_and, Bool.and_true, Bool.and_self, Bool.not_true, Bool.not_false]; done) | (simp_all [right, rights]; done) | (simp_all [right, rights]; omega)
theorem rin_fn (l : List Int) (x : Int) : FnR Try.prog G0 69 [dI l, .int .i64 x] (.bool (decide (x ∈ l))) := by
  refine fnQ_sz fun hs => ?_
  have hl := (szOk_sl hs.1).1
  simp only [LB] at hl
  refine fnQ_of_vc txok mixed [] Try.func69 rfl rfl (by simp) fun b => ?_
  conv => whnf
  refine loopH (fun i : Nat => i ≤ l.length ∧ (x ∈ l ↔ x ∈ l.drop i)) (fun i => l.length - i) (fun i => [(5, .d (.int .i64 i))]) (fun _ => []) 0 0 ⟨by omega, by simp⟩ (weak_of rfl (by repeat ((conv => whnf); first | exact trivial | refine And.intro rfl ?_ | refine And.intro (incD (by omega)) ?_)) (by repeat ((conv => whnf); first | exact trivial | refine And.intro rfl ?_ | refine And.intro (incD (by omega)) ?_))) ?_
  rintro i ⟨hi, hx⟩
  conv => whnf
  refine And.intro (fun hb => ?_) (fun hb => ?_)
  · have hb := of_decide_eq_true hb
    have hil : i < l.length := by omega
    rw [List.drop_eq_getElem_cons hil, List.mem_cons] at hx
    conv => whnf
    refine IdxC.encI i hil rfl ?_
    conv => whnf
    refine And.intro (fun he => ?_) (fun he => ?_)
    · have he := eq_of_beq he
      conv => whnf
      rw [decide_eq_true (hx.2 (.inl he.symm))]
    · have he : l[i] ≠ x := by simpa using he
      exact again (i + 1) (by omega) ⟨by omega, hx.trans ⟨fun h => h.resolve_left (Ne.symm he), .inr⟩⟩ (weak_of rfl (by repeat ((conv => whnf); first | exact trivial | refine And.intro rfl ?_ | refine And.intro (incD (by omega)) ?_)) (by repeat ((conv => whnf); first | exact trivial | refine And.intro rfl ?_ | refine And.intro (incD (by omega)) ?_)))
  · have hb := of_decide_eq_false hb
    rw [List.drop_eq_nil_of_le (by omega)] at hx
    conv => whnf
    rw [decide_eq_false (by rw [hx]; simp)]
end Go.Proofs.Ytonhlccjfbfkcaa


/- The reference: what stands in a type. -/
namespace Go.Proofs.Ytonhlccjfbfkcaa
open Go.Vx Go.Vc Go.RowKit

abbrev rrow (acc : List Int) : Hp := [(0, .row 3 8 1 acc.length (encI acc))]
theorem rfound_tri (kind : Int) : ∀ (t : Tp) (acc : List Int), (fnd kind t acc).length * 8 ≤ LB → Tri Try.prog G0 60 1 0 [.d (dT t), .d (.int .i64 kind), .row 0] (rrow acc) (fun o H' => o = .ret (.row 0) ∧ H' = rrow (fnd kind t acc)) := by
  refine Tp.ind fun k n ks ih acc hl => ?_
  have hl1 : (see1 kind (.mk k n ks) acc).length * 8 ≤ LB := Nat.le_trans (Nat.mul_le_mul_right _ (fndL_len kind ks _)) (by rw [fnd_eq] at hl; exact hl)
  rw [fnd_eq] at hl ⊢
  simp only [mk_kids] at hl ⊢
  have hsee : (¬ (k = kind ∧ n ∉ acc) → see1 kind (.mk k n ks) acc = acc) ∧ ((k = kind ∧ n ∉ acc) → see1 kind (.mk k n ks) acc = acc ++ [n]) := ⟨fun h => by rw [see1]; exact if_neg h, fun h => by rw [see1]; exact if_pos h⟩
  generalize hg : see1 kind (.mk k n ks) acc = acc1 at *
  refine tri_sz fun hs => ?_
  have hkl := (szOk_T (t := .mk k n ks) (hs (.d (dT (.mk k n ks))) (by simp))).1
  simp only [mk_kids, LB] at hkl
  refine tri_of_vc txok mixed [] [(100003, .done)] Try.func60 rfl rfl (by simp) fun b => ?_
  conv => whnf
  refine CutC.mk (fun st => st = ⟨[(1, .d (.int .i64 kind)), (2, .row 0), (3, .own 1 0)], [(0, .row 3 8 1 acc1.length (encI acc1)), (1, .blk 24 [.d (.int .i64 k), .d (.int .i64 n), .d (dK ks)])], 2⟩) ?_ ?_
  · conv => whnf
    refine And.intro (fun hk => ?_) (fun hk => ?_)
    · have hk := eq_of_beq hk
      conv => whnf
      refine callV (rin_fn acc n) gf69 rfl rfl rfl rfl ?_
      conv => whnf
      refine And.intro (fun hc => ?_) (fun hc => ?_)
      · have hc : n ∉ acc := by simpa using hc
        obtain rfl := hsee.2 ⟨hk, hc⟩
        conv => whnf
        refine appR (i := 0) (sz := 1) (n := acc.length) (m := 1) (xs := encI acc) (ys := [.int .i64 n]) txok (fun k => Nat.blt 1 k) (acc ++ [n]).length (encI (acc ++ [n])) rfl rfl rfl (by kernel_rfl) rfl (scalDs_mem rfl) (by simp) (by simp [encI]) hl1 ?_
        conv => whnf
        exact ⟨_, rfl, weak_of rfl (by repeat ((conv => whnf); first | exact trivial | refine And.intro rfl ?_ | refine And.intro (incD (by omega)) ?_)) (by repeat ((conv => whnf); first | exact trivial | refine And.intro rfl ?_ | refine And.intro (incD (by omega)) ?_))⟩
      · have hc : n ∈ acc := by simpa using hc
        obtain rfl := hsee.1 (fun h => h.2 hc)
        conv => whnf
        exact ⟨_, rfl, weak_of rfl (by repeat ((conv => whnf); first | exact trivial | refine And.intro rfl ?_ | refine And.intro (incD (by omega)) ?_)) (by repeat ((conv => whnf); first | exact trivial | refine And.intro rfl ?_ | refine And.intro (incD (by omega)) ?_))⟩
    · have hk : k ≠ kind := by simpa [mk_k] using hk
      obtain rfl := hsee.1 (fun h => hk h.1)
      conv => whnf
      exact ⟨_, rfl, weak_of rfl (by repeat ((conv => whnf); first | exact trivial | refine And.intro rfl ?_ | refine And.intro (incD (by omega)) ?_)) (by repeat ((conv => whnf); first | exact trivial | refine And.intro rfl ?_ | refine And.intro (incD (by omega)) ?_))⟩
  · rintro st' rfl
    conv => whnf
    refine loopH (fun x : Nat × List Int => x.1 ≤ ks.length ∧ fndL kind ks acc1 = fndL kind (ks.drop x.1) x.2) (fun x => ks.length - x.1) (fun x => [(7, .d (.int .i64 x.1)), (2, .row 0)]) (fun x => [(0, .row 3 8 1 x.2.length (encI x.2)), (1, .blk 24 [.d (.int .i64 k), .d (.int .i64 n), .d (dK ks)])]) 2 (0, acc1) ⟨by simp, rfl⟩ (weak_of rfl (by repeat ((conv => whnf); first | exact trivial | refine And.intro rfl ?_ | refine And.intro (incD (by omega)) ?_)) (by repeat ((conv => whnf); first | exact trivial | refine And.intro rfl ?_ | refine And.intro (incD (by omega)) ?_))) ?_
    rintro ⟨i, acc'⟩ ⟨hi, hx⟩
    simp only at hi hx
    conv => whnf
    refine And.intro (fun hb => ?_) (fun hb => ?_)
    · have hb : (i : Int) < (ks.length : Int) := of_decide_eq_true hb
      have hil : i < ks.length := by omega
      rw [fndL_drop hil] at hx
      conv => whnf
      refine IdxC.encK i hil rfl ?_
      conv => whnf
      refine callT [0] (ih ks[i] (by simp) acc' (Nat.le_trans (Nat.mul_le_mul_right _ (fndL_len kind _ _)) (by rw [← hx]; exact hl))) gf60 rfl rfl ⟨rfl, trivial⟩ rfl ?_
      rintro o' H' ⟨rfl, rfl⟩
      conv => whnf
      exact again (i + 1, fnd kind ks[i] acc') (by simp; omega) ⟨by simp; omega, hx⟩ (weak_of rfl (by repeat ((conv => whnf); first | exact trivial | refine And.intro rfl ?_ | refine And.intro (incD (by omega)) ?_)) (by repeat ((conv => whnf); first | exact trivial | refine And.intro rfl ?_ | refine And.intro (incD (by omega)) ?_)))
    · have hb : ¬ (i : Int) < (ks.length : Int) := of_decide_eq_false hb
      conv => whnf
      rw [hx, List.drop_eq_nil_of_le (by omega)]
      exact ⟨rfl, rfl⟩
theorem rfound_fn (kind : Int) (t : Tp) (hl : (fnd kind t []).length * 8 ≤ LB) : Tri Try.prog G0 60 0 1 [.d (dT t), .d (.int .i64 kind), .nl] [] (fun o H' => o = .ret (.row 0) ∧ H' = rrow (fnd kind t [])) :=
  triArgNil (l := [.d (dT t), .d (.int .i64 kind)]) (r := []) 3 8 1 (rfound_tri kind t [] hl)
theorem rgens_fn (t : Tp) (hl : (fnd 8 t []).length * 8 ≤ LB) : FnR Try.prog G0 48 [dT t] (dI (fnd 8 t [])) := by
  refine fnQ_of_vc txok mixed [] Try.func48 rfl rfl (by simp) fun b => ?_
  conv => whnf
  refine callT [] (rfound_fn 8 t hl) gf60 rfl rfl trivial rfl ?_
  rintro o' H' ⟨rfl, rfl⟩
  conv => whnf
end Go.Proofs.Ytonhlccjfbfkcaa

