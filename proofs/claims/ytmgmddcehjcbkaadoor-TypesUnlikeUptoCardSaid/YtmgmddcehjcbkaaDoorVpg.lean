/- Plain laws of numerals: each tells its number. -/
import Derived.Test.YtmgmddcehjcbkaaDoorVpf
namespace Go.Vx
open Go.Vc Go.Lib

def dval (l : List UInt8) : Nat := l.foldl (fun a c => 10 * a + (c.toNat - 48)) 0
theorem dval_snoc (l : List UInt8) (c : UInt8) : dval (l ++ [c]) = 10 * dval l + (c.toNat - 48) := by
  simp [dval, List.foldl_append]
theorem digit_nat {d : Nat} (h : d < 10) : (UInt8.ofNat (48 + d)).toNat = 48 + d := by
  rw [UInt8.toNat_ofNat']; omega
theorem dval_dec : ∀ u : Nat, dval (decDigits u) = u := by
  intro u
  induction u using Nat.strongRecOn with
  | _ u ih =>
    rw [decDigits]
    split
    · rename_i h
      show dval ([] ++ [UInt8.ofNat (48 + u)]) = u
      rw [dval_snoc, digit_nat h]; simp [dval]
    · rw [dval_snoc, ih (u / 10) (by omega), digit_nat (by omega)]; omega
theorem dec_digit : ∀ (u : Nat), ∀ c ∈ decDigits u, 48 ≤ c.toNat ∧ c.toNat ≤ 57 := by
  intro u
  induction u using Nat.strongRecOn with
  | _ u ih =>
    intro c hc
    rw [decDigits] at hc
    split at hc
    · rename_i h
      rw [List.mem_singleton] at hc; subst hc
      rw [digit_nat h]; omega
    · rw [List.mem_append, List.mem_singleton] at hc
      rcases hc with hc | rfl
      · exact ih (u / 10) (by omega) c hc
      · rw [digit_nat (by omega)]; omega
theorem itoa_inj {n m : Int} (h : itoa n = itoa m) : n = m := by
  have first : ∀ u v : Nat, 45 :: decDigits u ≠ decDigits v := by
    intro u v h
    have := dec_digit v 45 (by rw [← h]; simp)
    simp at this
  unfold itoa at h
  split at h <;> split at h
  · injection h with _ h
    have := congrArg dval h
    rw [dval_dec, dval_dec] at this; omega
  · exact absurd h (first _ _)
  · exact absurd h.symm (first _ _)
  · have := congrArg dval h
    rw [dval_dec, dval_dec] at this; omega
theorem itoa_chars (n : Int) : ∀ c ∈ itoa n, c = 45 ∨ (48 ≤ c.toNat ∧ c.toNat ≤ 57) := by
  intro c hc
  unfold itoa at hc
  split at hc
  · rcases List.mem_cons.1 hc with rfl | hc
    · exact .inl rfl
    · exact .inr (dec_digit _ c hc)
  · exact .inr (dec_digit _ c hc)
/-- Two runs of letters of a kind, each ahead of something else. -/
theorem span_eq {P : UInt8 → Prop} : ∀ {A B r s : List UInt8}, (∀ c ∈ A, P c) → (∀ c ∈ B, P c) → (∀ c, r.head? = some c → ¬ P c) → (∀ c, s.head? = some c → ¬ P c) → A ++ r = B ++ s → A = B ∧ r = s
  | [], [], r, s, _, _, _, _, h => ⟨rfl, h⟩
  | [], b :: B, r, s, _, hB, hr, _, h => by
    exfalso
    simp only [List.nil_append] at h
    exact hr b (by rw [h]; rfl) (hB b (by simp))
  | a :: A, [], r, s, hA, _, _, hs, h => by
    exfalso
    simp only [List.nil_append] at h
    exact hs a (by rw [← h]; rfl) (hA a (by simp))
  | a :: A, b :: B, r, s, hA, hB, hr, hs, h => by
    simp only [List.cons_append, List.cons.injEq] at h
    obtain ⟨rfl, h⟩ := h
    obtain ⟨h1, h2⟩ := span_eq (fun c hc => hA c (by simp [hc])) (fun c hc => hB c (by simp [hc])) hr hs h
    exact ⟨by rw [h1], h2⟩
/-- Nothing, a blank or a closing parenthesis comes next. -/
def Stop (r : List UInt8) : Prop := r = [] ∨ (∃ t, r = 32 :: t) ∨ ∃ t, r = 41 :: t
theorem Stop.head {r : List UInt8} (h : Stop r) : ∀ c, r.head? = some c → c = 32 ∨ c = 41 := by
  intro c hc
  rcases h with rfl | ⟨t, rfl⟩ | ⟨t, rfl⟩
  · cases hc
  · injection hc with hc; exact .inl hc.symm
  · injection hc with hc; exact .inr hc.symm
theorem itoa_span {n m : Int} {r s : List UInt8} (hr : Stop r) (hs : Stop s) (h : itoa n ++ r = itoa m ++ s) : n = m ∧ r = s := by
  have no : ∀ c : UInt8, c = 32 ∨ c = 41 → ¬ (c = 45 ∨ (48 ≤ c.toNat ∧ c.toNat ≤ 57)) := by
    rintro c (rfl | rfl) <;> decide
  obtain ⟨h1, h2⟩ := span_eq (P := fun c => c = 45 ∨ (48 ≤ c.toNat ∧ c.toNat ≤ 57)) (itoa_chars n) (itoa_chars m) (fun c hc => no c (hr.head c hc)) (fun c hc => no c (hs.head c hc)) h
  exact ⟨itoa_inj h1, h2⟩
end Go.Vx
