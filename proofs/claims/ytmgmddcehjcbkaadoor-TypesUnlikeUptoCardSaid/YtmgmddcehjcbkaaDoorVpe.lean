/- Plain laws of decimal numerals. -/
import Derived.Test.YtmgmddcehjcbkaaDoorVpd
import Derived.Lib.ItoaMem
namespace Go.Vx
open Go.Vc Go.Lib

theorem decDigits_len : ∀ u : Nat, 1 ≤ (decDigits u).length ∧ (decDigits u).length ≤ u + 1 := by
  intro u
  induction u using Nat.strongRecOn with
  | _ u ih =>
    rw [decDigits]
    split
    · simp
    · have := ih (u / 10) (by omega)
      simp only [List.length_append, List.length_cons, List.length_nil]
      omega
theorem itoa_len (n : Int) : 1 ≤ (itoa n).length ∧ (itoa n).length ≤ n.natAbs + 2 := by
  unfold itoa
  split
  · have := decDigits_len n.natAbs
    simp only [List.length_cons]; omega
  · have := decDigits_len n.toNat
    omega
/-- What stands ahead of the last digit. -/
def ahead (n : Int) : List UInt8 := if n.tdiv 10 ≠ 0 then itoa (n.tdiv 10) else if n < 0 then [45] else []
theorem itoa_step (n : Int) : itoa n = ahead n ++ [UInt8.ofNat (48 + (n.tmod 10).natAbs)] := by
  unfold ahead
  rcases Int.lt_or_le n 0 with hn | hn
  · obtain ⟨u, rfl, hu⟩ : ∃ u : Nat, n = -(u : Int) ∧ 1 ≤ u := ⟨n.natAbs, by omega, by omega⟩
    have e1 : (-(u : Int)).tdiv 10 = -((u / 10 : Nat) : Int) := by rw [Int.neg_tdiv]; rfl
    have e2 : ((-(u : Int)).tmod 10).natAbs = u % 10 := by rw [Int.neg_tmod, Int.natAbs_neg]; rfl
    rw [itoa_neg u hu, e1, e2]
    by_cases h : u < 10
    · rw [if_neg (by omega), if_pos (by omega), decDigits, dif_pos h, Nat.mod_eq_of_lt h]; rfl
    · rw [if_pos (by omega), itoa_neg (u / 10) (by omega)]
      conv => lhs; rw [decDigits, dif_neg h]
      rfl
  · obtain ⟨u, rfl⟩ : ∃ u : Nat, n = (u : Int) := ⟨n.toNat, by omega⟩
    have e1 : (u : Int).tdiv 10 = ((u / 10 : Nat) : Int) := rfl
    have e2 : ((u : Int).tmod 10).natAbs = u % 10 := rfl
    rw [itoa_nonneg, e1, e2]
    by_cases h : u < 10
    · rw [if_neg (by omega), if_neg (by omega), decDigits, dif_pos h, Nat.mod_eq_of_lt h]; rfl
    · rw [if_pos (by omega), itoa_nonneg]
      conv => lhs; rw [decDigits, dif_neg h]
end Go.Vx
