/- Plain laws of types: the order is one. -/
import Derived.Test.YtonhlccjfbfkcaaVpb
namespace Go.Vx
open Go.Vc

theorem cmpI_zero {a b : Int} : cmpI a b = 0 ↔ a = b := by unfold cmpI; split <;> (try split) <;> omega
theorem cmpI_neg {a b : Int} : cmpI a b < 0 ↔ a < b := by unfold cmpI; split <;> (try split) <;> omega
theorem cmpI_sym (a b : Int) : cmpI b a = - cmpI a b := by unfold cmpI; split <;> split <;> (try split) <;> (try split) <;> omega
theorem cmpI_rng (a b : Int) : -1 ≤ cmpI a b ∧ cmpI a b ≤ 1 := by unfold cmpI; split <;> (try split) <;> omega
theorem orL_sym : ∀ l m : List Int, m = l.map (- ·) → orL m = - orL l
  | [], _, rfl => rfl
  | x :: r, _, rfl => by
    simp only [List.map_cons, orL]
    by_cases h : x = 0
    · rw [if_neg (by omega), if_neg (by omega)]; exact orL_sym r _ rfl
    · rw [if_pos (by omega), if_pos h]
theorem orL_rng : ∀ l : List Int, (∀ x ∈ l, -1 ≤ x ∧ x ≤ 1) → -1 ≤ orL l ∧ orL l ≤ 1
  | [], _ => by simp [orL]
  | x :: r, h => by
    simp only [orL]
    split
    · exact h x (by simp)
    · exact orL_rng r fun y hy => h y (by simp [hy])
theorem orL4 (a b c d : Int) : orL [a, b, c, d] = if a ≠ 0 then a else if b ≠ 0 then b else if c ≠ 0 then c else d := by
  simp only [orL]; split <;> (try rfl); split <;> (try rfl); split <;> (try rfl); split <;> omega
mutual
theorem cmpT_eq : ∀ t u : Tp, cmpT t u = 0 → t = u
  | .mk k n ks, .mk k' n' ks', h => by
    simp only [cmpT, orL4] at h
    split at h
    · omega
    rename_i h1
    split at h
    · omega
    rename_i h2
    split at h
    · omega
    have e1 := cmpI_zero.1 (Decidable.not_not.1 h1)
    have e2 := cmpI_zero.1 (Decidable.not_not.1 h2)
    rw [e1, e2, cmpL_eq ks ks' h]
theorem cmpL_eq : ∀ l m : List Tp, cmpL l m = 0 → l = m
  | [], [], _ => rfl
  | [], _ :: _, h => by simp [cmpL] at h
  | _ :: _, [], h => by simp [cmpL] at h
  | a :: r, b :: s, h => by
    simp only [cmpL] at h
    split at h
    · omega
    rename_i h1
    rw [cmpT_eq a b (Decidable.not_not.1 h1), cmpL_eq r s h]
end
mutual
theorem cmpT_refl : ∀ t : Tp, cmpT t t = 0
  | .mk k n ks => by
    simp only [cmpT, orL4, cmpI_zero.2 (rfl : k = k), cmpI_zero.2 (rfl : n = n), cmpI_zero.2 (rfl : (ks.length : Int) = ks.length), cmpL_refl ks]
    rfl
theorem cmpL_refl : ∀ l : List Tp, cmpL l l = 0
  | [] => rfl
  | a :: r => by simp only [cmpL, cmpT_refl a, cmpL_refl r]; rfl
end
mutual
theorem cmpT_sym : ∀ t u : Tp, cmpT u t = - cmpT t u
  | .mk k n ks, .mk k' n' ks' => by
    simp only [cmpT]
    exact orL_sym _ _ (by simp only [List.map_cons, List.map_nil, cmpI_sym k k', cmpI_sym n n', cmpI_sym (ks.length : Int) ks'.length, cmpL_sym ks ks'])
theorem cmpL_sym : ∀ l m : List Tp, cmpL m l = - cmpL l m
  | [], [] => rfl
  | [], _ :: _ => rfl
  | _ :: _, [] => rfl
  | a :: r, b :: s => by
    simp only [cmpL, cmpT_sym a b, cmpL_sym r s]
    by_cases h : cmpT a b = 0
    · rw [if_neg (by omega), if_neg (by omega)]
    · rw [if_pos (by omega), if_pos h]
end
mutual
theorem cmpT_rng : ∀ t u : Tp, -1 ≤ cmpT t u ∧ cmpT t u ≤ 1
  | .mk k n ks, .mk k' n' ks' => by
    simp only [cmpT]
    refine orL_rng _ fun x hx => ?_
    simp only [List.mem_cons, List.not_mem_nil, or_false] at hx
    rcases hx with rfl | rfl | rfl | rfl
    · exact cmpI_rng _ _
    · exact cmpI_rng _ _
    · exact cmpI_rng _ _
    · exact cmpL_rng ks ks'
theorem cmpL_rng : ∀ l m : List Tp, -1 ≤ cmpL l m ∧ cmpL l m ≤ 1
  | [], [] => by simp [cmpL]
  | [], _ :: _ => by simp [cmpL]
  | _ :: _, [] => by simp [cmpL]
  | a :: r, b :: s => by
    simp only [cmpL]
    split
    · exact cmpT_rng a b
    · exact cmpL_rng r s
end
def Lx (a b c : Int) : Prop := (a = 0 → c = b) ∧ (b = 0 → c = a) ∧ (a < 0 → b < 0 → c < 0)
theorem cmpI_lx (a b c : Int) : Lx (cmpI a b) (cmpI b c) (cmpI a c) := by
  refine ⟨fun h => ?_, fun h => ?_, fun h h' => ?_⟩
  · rw [cmpI_zero.1 h]
  · rw [cmpI_zero.1 h]
  · rw [cmpI_neg] at *; omega
theorem or2_lt {a b c x y z : Int} (h : Lx a b c) (hr : x < 0 → y < 0 → z < 0) (h1 : (if a ≠ 0 then a else x) < 0) (h2 : (if b ≠ 0 then b else y) < 0) : (if c ≠ 0 then c else z) < 0 := by
  obtain ⟨q1, q2, q3⟩ := h
  by_cases ha : a = 0
  · rw [if_neg (by omega)] at h1
    rw [q1 ha]
    by_cases hb : b = 0
    · rw [if_neg (by omega)] at h2 ⊢; exact hr h1 h2
    · rw [if_pos hb] at h2 ⊢; exact h2
  · rw [if_pos ha] at h1
    by_cases hb : b = 0
    · rw [q2 hb, if_pos ha]; exact h1
    · rw [if_pos hb] at h2
      have := q3 h1 h2
      rw [if_pos (by omega)]; exact this
theorem orL_lt {a b c a' b' c' a'' b'' c'' x y z : Int} (h1 : Lx a b c) (h2 : Lx a' b' c') (h3 : Lx a'' b'' c'') (hr : x < 0 → y < 0 → z < 0) (h : orL [a, a', a'', x] < 0) (h' : orL [b, b', b'', y] < 0) : orL [c, c', c'', z] < 0 := by
  rw [orL4] at *
  exact or2_lt h1 (or2_lt h2 (or2_lt h3 hr)) h h'
mutual
theorem cmpT_lt : ∀ t u v : Tp, cmpT t u < 0 → cmpT u v < 0 → cmpT t v < 0
  | .mk k n ks, .mk k' n' ks', .mk k'' n'' ks'', h, h' => by
    rw [cmpT] at h h' ⊢
    exact orL_lt (cmpI_lx _ _ _) (cmpI_lx _ _ _) (cmpI_lx _ _ _) (cmpL_lt ks ks' ks'') h h'
theorem cmpL_lt : ∀ l m q : List Tp, cmpL l m < 0 → cmpL m q < 0 → cmpL l q < 0
  | [], [], _, h, _ => by simp [cmpL] at h
  | [], _ :: _, [], _, h => by simp [cmpL] at h
  | [], _ :: _, _ :: _, _, _ => by simp [cmpL]
  | _ :: _, [], _, h, _ => by simp [cmpL] at h
  | _ :: _, _ :: _, [], _, h => by simp [cmpL] at h
  | a :: r, b :: s, c :: q, h, h' => by
    have hT := cmpT_lt a b c
    have hL := cmpL_lt r s q
    simp only [cmpL] at h h' ⊢
    by_cases e : cmpT a b = 0
    · rw [if_neg (by omega)] at h
      obtain rfl := cmpT_eq a b e
      split at h'
      · rw [if_pos (by assumption)]; exact h'
      · rw [if_neg (by assumption)]; exact hL h h'
    · rw [if_pos e] at h
      by_cases e' : cmpT b c = 0
      · obtain rfl := cmpT_eq b c e'
        rw [if_pos e]; exact h
      · rw [if_pos e'] at h'
        rw [if_pos (by have := hT h h'; omega)]
        exact hT h h'
end
theorem cmpT_trans {t u v : Tp} (h : cmpT t u ≤ 0) (h' : cmpT u v ≤ 0) : cmpT t v ≤ 0 := by
  by_cases e : cmpT t u = 0
  · rw [cmpT_eq t u e]; exact h'
  · by_cases e' : cmpT u v = 0
    · rw [← cmpT_eq u v e']; exact h
    · have := cmpT_lt t u v (by omega) (by omega); omega
end Go.Vx
