/- The reference: how great types are; places; two lists of numbers. -/
import Derived.Test.YtmgmddcehjcbkaaDoorRa
import Derived.Test.YtmgmddcehjcbkaaDoorHu
set_option linter.unusedSimpArgs false
set_option linter.unusedVariables false
namespace Go.Proofs.YtmgmddcehjcbkaaDoor
open Go.Vx Go.Vc Go.RowKit

theorem place_fn (l : List Int) (x : Int) : FnR Tryd.prog G0 61 [dI l, .int .i64 x] (.int .i64 (idxFrom l x 0)) := by
  refine fnQ_sz fun hs => ?_
  have hl := (szOk_sl hs.1).1
  simp only [LB] at hl
  refine fnQ_of_vc txok mixed [] Tryd.func61 rfl rfl (by simp) fun b => ?_
  conv => whnf
  refine loopH (fun i : Nat => i ≤ l.length ∧ idxFrom l x 0 = idxFrom (l.drop i) x i) (fun i => l.length - i) (fun i => [(5, .d (.int .i64 i))]) (fun _ => []) 0 0 ⟨by omega, rfl⟩ (weak_of rfl (by repeat ((conv => whnf); first | exact trivial | refine And.intro rfl ?_ | refine And.intro (incD (by omega)) ?_)) (by repeat ((conv => whnf); first | exact trivial | refine And.intro rfl ?_ | refine And.intro (incD (by omega)) ?_))) ?_
  rintro i ⟨hi, hx⟩
  conv => whnf
  refine And.intro (fun hb => ?_) (fun hb => ?_)
  · have hb := of_decide_eq_true hb
    have hil : i < l.length := by omega
    rw [List.drop_eq_getElem_cons hil, idxFrom] at hx
    conv => whnf
    refine IdxC.encI i hil rfl ?_
    conv => whnf
    refine And.intro (fun he => ?_) (fun he => ?_)
    · conv => whnf
      rw [hx, if_pos (eq_of_beq he).symm]
    · have he : l[i] ≠ x := by simpa using he
      conv => whnf
      rw [if_neg (Ne.symm he)] at hx
      exact again (i + 1) (by omega) ⟨by omega, by rw [hx]; rfl⟩ (weak_of rfl (by repeat ((conv => whnf); first | exact trivial | refine And.intro rfl ?_ | refine And.intro (incD (by omega)) ?_)) (by repeat ((conv => whnf); first | exact trivial | refine And.intro rfl ?_ | refine And.intro (incD (by omega)) ?_)))
  · have hb := of_decide_eq_false hb
    conv => whnf
    rw [hx, List.drop_eq_nil_of_le (by omega)]; rfl
theorem ints_fn (l m : List Int) : FnR Tryd.prog G0 18 [dI l, dI m] (.bool (decide (l = m))) := by
  refine fnQ_sz fun hs => ?_
  have hl := (szOk_sl hs.1).1
  simp only [LB] at hl
  refine fnQ_of_vc txok mixed [(6, .pure 0 (.pure 1 (.pure 2 (.take 3 (.pure 4 (.pure 5 (.pure 6 (.take 7 (.pure 8 .done)))))))))] Tryd.func18 rfl rfl (by simp) fun b => ?_
  conv => whnf
  refine And.intro (fun h => ?_) (fun h => ?_)
  · have h : ¬ l = m := by rintro rfl; simp at h
    conv => whnf
    rw [decide_eq_false h]
  have hlen : l.length = m.length := by
    have : ((l.length : Int) == (m.length : Int)) = true := by simpa using h
    have := eq_of_beq this; omega
  conv => whnf
  refine loopH (fun i : Nat => i ≤ l.length ∧ (l = m ↔ l.drop i = m.drop i)) (fun i => l.length - i) (fun i => [(5, .d (.int .i64 i))]) (fun _ => []) 0 0 ⟨by omega, by simp⟩ (weak_of rfl (by repeat ((conv => whnf); first | exact trivial | refine And.intro rfl ?_ | refine And.intro (incD (by omega)) ?_)) (by repeat ((conv => whnf); first | exact trivial | refine And.intro rfl ?_ | refine And.intro (incD (by omega)) ?_))) ?_
  rintro i ⟨hi, hx⟩
  conv => whnf
  refine And.intro (fun hb => ?_) (fun hb => ?_)
  · have hb := of_decide_eq_true hb
    have hil : i < l.length := by omega
    have him : i < m.length := by omega
    rw [List.drop_eq_getElem_cons hil, List.drop_eq_getElem_cons him, List.cons.injEq] at hx
    conv => whnf
    refine And.intro (by kernel_rfl) ?_
    conv => whnf
    refine IdxC.encI i hil rfl ?_
    conv => whnf
    refine IdxC.encI i him rfl ?_
    conv => whnf
    refine And.intro (fun he => ?_) (fun he => ?_)
    · have he : l[i] ≠ m[i] := by simpa using he
      conv => whnf
      rw [decide_eq_false fun h => he (hx.1 h).1]
    · have he : l[i] = m[i] := by simpa using he
      conv => whnf
      exact again (i + 1) (by omega) ⟨by omega, hx.trans ⟨fun h => h.2, fun h => ⟨he, h⟩⟩⟩ (weak_of rfl (by repeat ((conv => whnf); first | exact trivial | refine And.intro rfl ?_ | refine And.intro (incD (by omega)) ?_)) (by repeat ((conv => whnf); first | exact trivial | refine And.intro rfl ?_ | refine And.intro (incD (by omega)) ?_)))
  · have hb := of_decide_eq_false hb
    conv => whnf
    rw [decide_eq_true (hx.2 (by rw [List.drop_eq_nil_of_le (by omega), List.drop_eq_nil_of_le (by omega)]))]
theorem cutN_lt {n most : Nat} (h : cutN n most ≤ most) : n ≤ most := by
  unfold cutN at h; split at h <;> omega
/-- The count so far, behind some kids. -/
def curC (m : Nat) (f : Nat → Nat) : Nat → Nat
  | 0 => m + 1
  | i + 1 => cutN (m + 1 + f (i + 1)) 1000
theorem curC_le {m : Nat} {f : Nat → Nat} {i : Nat} (hm : m ≤ 1000) : curC m f i ≤ 1001 := by
  cases i with
  | zero => simp only [curC]; omega
  | succ i => exact cutN_le _ _
theorem curC_eq {m : Nat} {f : Nat → Nat} {i : Nat} (h0 : f 0 = 0) : curC m f i ≤ 1000 → curC m f i = m + 1 + f i := by
  cases i with
  | zero => intro _; show m + 1 = m + 1 + f 0; omega
  | succ i => intro h; exact cutN_small (cutN_lt h)
theorem curC_gt {m : Nat} {f : Nat → Nat} {i q : Nat} (hm : m ≤ 1000) (hq : f i ≤ q) : 1000 < curC m f i → 1000 < m + 1 + q := by
  cases i with
  | zero => simp only [curC]; omega
  | succ i => intro h; have := cutN_gt h; omega
theorem counted_fn : ∀ (t : Tp) (m : Nat), m ≤ 1000 → FnR Tryd.prog G0 52 [dT t, .int .i64 m] (.int .i64 (cutN (m + szT t) 1000)) := by
  refine Tp.ind fun k n ks ih m hm => ?_
  refine fnQ_sz fun hs => ?_
  have hl := (szOk_T (t := .mk k n ks) hs.1).1
  simp only [mk_kids, LB] at hl
  have hsz : szT (.mk k n ks) = szL ks + 1 := by simp only [szT]
  have e0 : IntKind.i64.wrap ((m : Int) + 1) = ((m + 1 : Nat) : Int) := Go.Vc.inc (by omega)
  refine fnQ_of_vc txok mixed [] Tryd.func52 rfl rfl (by simp) fun b => ?_
  conv => whnf
  rw [e0]
  refine loopH (fun i : Nat => i ≤ ks.length) (fun i => ks.length - i) (fun i => [(5, .d (.int .i64 i)), (1, .d (.int .i64 (curC m (fun i => szL (ks.take i)) i : Nat)))]) (fun _ => [(0, .blk 24 [.d (.int .i64 k), .d (.int .i64 n), .d (dK ks)])]) 1 0 (by omega) (weak_of rfl (by repeat ((conv => whnf); first | exact trivial | refine And.intro rfl ?_ | refine And.intro (incD (by omega)) ?_)) (by repeat ((conv => whnf); first | exact trivial | refine And.intro rfl ?_ | refine And.intro (incD (by omega)) ?_))) ?_
  rintro i hi
  have hc1 := curC_le (f := fun i => szL (ks.take i)) (i := i) hm
  have hc2 := curC_eq (m := m) (f := fun i => szL (ks.take i)) (i := i) (by simp [szL])
  have hc3 := curC_gt (f := fun i => szL (ks.take i)) (i := i) (q := szL ks) hm (szL_take_le ks i)
  generalize hcur : curC m (fun i => szL (ks.take i)) i = cur at *
  conv => whnf
  have big : 1000 < cur → cutN (m + szT (.mk k n ks)) 1000 = 1001 := fun h => by rw [hsz]; exact cutN_big (by have := hc3 h; omega)
  refine And.intro (fun hb => ?_) (fun hb => ?_)
  · have hb : (i : Int) < (ks.length : Int) := of_decide_eq_true hb
    have hil : i < ks.length := by omega
    have ht := szL_take hil
    conv => whnf
    refine And.intro (fun h2 => ?_) (fun h2 => ?_)
    · have h2 := of_decide_eq_true h2
      conv => whnf
      refine IdxC.encK i hil rfl ?_
      conv => whnf
      refine callF (ih ks[i] (by simp) cur (by omega)) gf52 rfl rfl ?_
      conv => whnf
      rw [hc2 (by omega), show m + 1 + szL (ks.take i) + szT ks[i] = m + 1 + szL (ks.take (i + 1)) from by omega]
      exact again (i + 1) (by omega) (by omega) (weak_of rfl (by repeat ((conv => whnf); first | exact trivial | refine And.intro rfl ?_ | refine And.intro (incD (by omega)) ?_)) (by repeat ((conv => whnf); first | exact trivial | refine And.intro rfl ?_ | refine And.intro (incD (by omega)) ?_)))
    · have h2 := of_decide_eq_false h2
      conv => whnf
      refine And.intro (fun h3 => ?_) (fun h3 => ?_)
      · conv => whnf
        rw [big (by omega)]; rfl
      · have h3 := of_decide_eq_false h3; omega
  · have hb : ¬ (i : Int) < (ks.length : Int) := of_decide_eq_false hb
    have hi : i = ks.length := by omega
    subst hi
    conv => whnf
    refine And.intro (fun h3 => ?_) (fun h3 => ?_)
    · have h3 := of_decide_eq_true h3
      conv => whnf
      rw [big (by omega)]; rfl
    · have h3 := of_decide_eq_false h3
      have h4 := hc2 (by omega)
      rw [List.take_length] at h4
      conv => whnf
      rw [cutN_small (by omega), hsz, h4]
      refine congrArg (D.int .i64) ?_
      omega
theorem grown_fn (kind : Int) (fr : List Int) (to : List Tp) (hft : fr.length = to.length) : ∀ (t : Tp) (m : Nat), m ≤ 1000 → FnR Tryd.prog G0 45 [dT t, .int .i64 kind, dI fr, dK to, .int .i64 m] (.int .i64 (cutN (m + szT (sub kind (tbl fr to) t)) 1000)) := by
  refine Tp.ind fun k n ks ih m hm => ?_
  refine fnQ_sz fun hs => ?_
  have hl := (szOk_T (t := .mk k n ks) hs.1).1
  simp only [mk_kids, LB] at hl
  obtain ⟨q1, q2⟩ := tbl_idx fr to n 0 (by omega) (by omega)
  have hsub : ¬ (k = kind ∧ 0 ≤ idxFrom fr n 0) → sub kind (tbl fr to) (.mk k n ks) = .mk k n (subL kind (tbl fr to) ks) := by
    intro h
    rw [sub]
    by_cases hk : k = kind
    · rw [if_pos hk, q1 (by rcases Int.lt_or_le (idxFrom fr n 0) 0 with h' | h'; exact h'; exact absurd ⟨hk, h'⟩ h)]
    · rw [if_neg hk]
  have e0 : IntKind.i64.wrap ((m : Int) + 1) = ((m + 1 : Nat) : Int) := Go.Vc.inc (by omega)
  refine fnQ_of_vc txok mixed [(100005, .done)] Tryd.func45 rfl rfl (by simp) fun b => ?_
  conv => whnf
  refine CutC.mk (fun st => ¬ (k = kind ∧ 0 ≤ idxFrom fr n 0) ∧ st = ⟨[(1, .d (.int .i64 kind)), (2, .d (dI fr)), (3, .d (dK to)), (4, .d (.int .i64 m)), (5, .own 0 0)], [(0, .blk 24 [.d (.int .i64 k), .d (.int .i64 n), .d (dK ks)])], 1⟩) ?_ ?_
  · conv => whnf
    simp only [mk_k]
    refine And.intro (fun hk => ?_) (fun hk => ?_)
    · have hk := eq_of_beq hk
      conv => whnf
      refine callF (place_fn fr n) gf61 rfl rfl ?_
      conv => whnf
      refine And.intro (fun hp => ?_) (fun hp => ?_)
      · have hp := of_decide_eq_true hp
        obtain ⟨q, q3, q4, q5⟩ := q2 (by omega)
        have hq : q < to.length := by omega
        rw [List.getElem?_eq_getElem hq] at q5
        have hsb : sub kind (tbl fr to) (.mk k n ks) = to[q] := by rw [sub, if_pos hk, q5]
        conv => whnf
        refine IdxC.encK q hq (by rw [q3]; omega) ?_
        conv => whnf
        refine callF (counted_fn to[q] m hm) gf52 rfl rfl ?_
        conv => whnf
        rw [hsb]
      · have hp := of_decide_eq_false hp
        conv => whnf
        exact ⟨_, ⟨fun h => hp h.2, rfl⟩, weak_of rfl (by repeat ((conv => whnf); first | exact trivial | refine And.intro rfl ?_ | refine And.intro (incD (by omega)) ?_)) (by repeat ((conv => whnf); first | exact trivial | refine And.intro rfl ?_ | refine And.intro (incD (by omega)) ?_))⟩
    · have hk : k ≠ kind := by simpa using hk
      conv => whnf
      exact ⟨_, ⟨fun h => hk h.1, rfl⟩, weak_of rfl (by repeat ((conv => whnf); first | exact trivial | refine And.intro rfl ?_ | refine And.intro (incD (by omega)) ?_)) (by repeat ((conv => whnf); first | exact trivial | refine And.intro rfl ?_ | refine And.intro (incD (by omega)) ?_))⟩
  · rintro st' ⟨hno, rfl⟩
    have hsub := hsub hno
    have hlen : (subL kind (tbl fr to) ks).length = ks.length := by rw [subL_map, List.length_map]
    have hsz : szT (sub kind (tbl fr to) (.mk k n ks)) = szL (subL kind (tbl fr to) ks) + 1 := by rw [hsub, szT]
    generalize hks' : subL kind (tbl fr to) ks = ks' at *
    have hget : ∀ (i : Nat) (h : i < ks.length) (h' : i < ks'.length), ks'[i] = sub kind (tbl fr to) ks[i] := by
      intro i h h'; subst hks'; simp [subL_map]
    conv => whnf
    rw [e0]
    refine loopH (fun i : Nat => i ≤ ks.length) (fun i => ks.length - i) (fun i => [(12, .d (.int .i64 i)), (4, .d (.int .i64 (curC m (fun i => szL (ks'.take i)) i : Nat)))]) (fun _ => [(0, .blk 24 [.d (.int .i64 k), .d (.int .i64 n), .d (dK ks)])]) 1 0 (by omega) (weak_of rfl (by repeat ((conv => whnf); first | exact trivial | refine And.intro rfl ?_ | refine And.intro (incD (by omega)) ?_)) (by repeat ((conv => whnf); first | exact trivial | refine And.intro rfl ?_ | refine And.intro (incD (by omega)) ?_))) ?_
    rintro i hi
    have hc1 := curC_le (f := fun i => szL (ks'.take i)) (i := i) hm
    have hc2 := curC_eq (m := m) (f := fun i => szL (ks'.take i)) (i := i) (by simp [szL])
    have hc3 := curC_gt (f := fun i => szL (ks'.take i)) (i := i) (q := szL ks') hm (szL_take_le ks' i)
    generalize hcur : curC m (fun i => szL (ks'.take i)) i = cur at *
    conv => whnf
    have big : 1000 < cur → cutN (m + szT (sub kind (tbl fr to) (.mk k n ks))) 1000 = 1001 := fun h => by rw [hsz]; exact cutN_big (by have := hc3 h; omega)
    refine And.intro (fun hb => ?_) (fun hb => ?_)
    · have hb : (i : Int) < (ks.length : Int) := of_decide_eq_true hb
      have hil : i < ks.length := by omega
      have ht := szL_take (ks := ks') (i := i) (by omega)
      rw [hget i hil (by omega)] at ht
      conv => whnf
      refine And.intro (fun h2 => ?_) (fun h2 => ?_)
      · have h2 := of_decide_eq_true h2
        conv => whnf
        refine IdxC.encK i hil rfl ?_
        conv => whnf
        refine callF (ih ks[i] (by simp) cur (by omega)) gf45 rfl rfl ?_
        conv => whnf
        rw [hc2 (by omega), show m + 1 + szL (ks'.take i) + szT (sub kind (tbl fr to) ks[i]) = m + 1 + szL (ks'.take (i + 1)) from by omega]
        exact again (i + 1) (by omega) (by omega) (weak_of rfl (by repeat ((conv => whnf); first | exact trivial | refine And.intro rfl ?_ | refine And.intro (incD (by omega)) ?_)) (by repeat ((conv => whnf); first | exact trivial | refine And.intro rfl ?_ | refine And.intro (incD (by omega)) ?_)))
      · have h2 := of_decide_eq_false h2
        conv => whnf
        refine And.intro (fun h3 => ?_) (fun h3 => ?_)
        · conv => whnf
          rw [big (by omega)]; rfl
        · have h3 := of_decide_eq_false h3; omega
    · have hb : ¬ (i : Int) < (ks.length : Int) := of_decide_eq_false hb
      have hi : i = ks'.length := by omega
      subst hi
      conv => whnf
      refine And.intro (fun h3 => ?_) (fun h3 => ?_)
      · have h3 := of_decide_eq_true h3
        conv => whnf
        rw [big (by omega)]; rfl
      · have h3 := of_decide_eq_false h3
        have h4 := hc2 (by omega)
        rw [List.take_length] at h4
        conv => whnf
        rw [cutN_small (by omega), hsz, h4]
        refine congrArg (D.int .i64) ?_
        omega
end Go.Proofs.YtmgmddcehjcbkaaDoor
