/- Texts of mine, joined: Vpe Vpf. -/
import Derived.Test.YtohmeplcjgmedaaGreatDoorPag
import Derived.Lib.ItoaMem
/- Plain laws of decimal numerals. -/
namespace Go.Vx
open Go.Vc Go.Lib

theorem decDigits_len : ∀ u : Nat, 1 ≤ (decDigits u).length ∧ (decDigits u).length ≤ u + 1 := by
  intro u
  induction u using Nat.strongRecOn with
  | _ u ih =>
    rw [decDigits]
    split
    · simp
    · have := ih (u / 10) (by omega)
      simp only [List.length_append, List.length_cons, List.length_nil]
      omega
theorem itoa_len (n : Int) : 1 ≤ (itoa n).length ∧ (itoa n).length ≤ n.natAbs + 2 := by
  unfold itoa
  split
  · have := decDigits_len n.natAbs
    simp only [List.length_cons]; omega
  · have := decDigits_len n.toNat
    omega
/-- What stands ahead of the last digit. -/
def ahead (n : Int) : List UInt8 := if n.tdiv 10 ≠ 0 then itoa (n.tdiv 10) else if n < 0 then [45] else []
theorem itoa_step (n : Int) : itoa n = ahead n ++ [UInt8.ofNat (48 + (n.tmod 10).natAbs)] := by
  unfold ahead
  rcases Int.lt_or_le n 0 with hn | hn
  · obtain ⟨u, rfl, hu⟩ : ∃ u : Nat, n = -(u : Int) ∧ 1 ≤ u := ⟨n.natAbs, by omega, by omega⟩
    have e1 : (-(u : Int)).tdiv 10 = -((u / 10 : Nat) : Int) := by rw [Int.neg_tdiv]; rfl
    have e2 : ((-(u : Int)).tmod 10).natAbs = u % 10 := by rw [Int.neg_tmod, Int.natAbs_neg]; rfl
    rw [itoa_neg u hu, e1, e2]
    by_cases h : u < 10
    · rw [if_neg (by omega), if_pos (by omega), decDigits, dif_pos h, Nat.mod_eq_of_lt h]; rfl
    · rw [if_pos (by omega), itoa_neg (u / 10) (by omega)]
      conv => lhs; rw [decDigits, dif_neg h]
      rfl
  · obtain ⟨u, rfl⟩ : ∃ u : Nat, n = (u : Int) := ⟨n.toNat, by omega⟩
    have e1 : (u : Int).tdiv 10 = ((u / 10 : Nat) : Int) := rfl
    have e2 : ((u : Int).tmod 10).natAbs = u % 10 := rfl
    rw [itoa_nonneg, e1, e2]
    by_cases h : u < 10
    · rw [if_neg (by omega), if_neg (by omega), decDigits, dif_pos h, Nat.mod_eq_of_lt h]; rfl
    · rw [if_pos (by omega), itoa_nonneg]
      conv => lhs; rw [decDigits, dif_neg h]
end Go.Vx

/- Plain laws of texts: how long they are. -/
namespace Go.Vx
open Go.Vc Go.Lib

theorem decDigits_len10 : ∀ (k u : Nat), u < 10 ^ (k + 1) → (decDigits u).length ≤ k + 1
  | 0, u, h => by rw [decDigits, dif_pos (by simpa using h)]; simp
  | k + 1, u, h => by
    rw [decDigits]
    split
    · simp
    · have := decDigits_len10 k (u / 10) (by rw [Nat.pow_succ] at h; exact Nat.div_lt_of_lt_mul (by omega))
      simp only [List.length_append, List.length_cons, List.length_nil]; omega
/-- An int of 64 bits. -/
def I64 (n : Int) : Prop := -9223372036854775808 ≤ n ∧ n ≤ 9223372036854775807
theorem itoa_len20 {n : Int} (h : I64 n) : (itoa n).length ≤ 20 := by
  obtain ⟨h1, h2⟩ := h
  unfold itoa
  split
  · have := decDigits_len10 18 n.natAbs (by omega)
    simp only [List.length_cons]; omega
  · have := decDigits_len10 18 n.toNat (by omega)
    omega
theorem withT_size (w : Bool) (a : Tp) (s : ByteArray) : (withT w a s).size ≤ s.size + 2 := by
  unfold withT; split
  · simp only [ByteArray.size_append, bs_size, List.length_cons, List.length_nil]; omega
  · omega
mutual
/-- The numbers of a type, in its text. -/
def nums (p : Int → Prop) : Tp → Prop
  | .mk k n ks => (k = 6 → p n) ∧ (k = 7 → p n) ∧ (k = 8 → 26 ≤ n → p (IntKind.i64.wrap (n.tdiv 26))) ∧ numsLs p ks
def numsLs (p : Int → Prop) : List Tp → Prop
  | [] => True
  | t :: r => nums p t ∧ numsLs p r
end
theorem genT_size {it : Int → ByteArray} {n : Int} (h : 26 ≤ n → (it (IntKind.i64.wrap (n.tdiv 26))).size ≤ 20) : (genT it n).size ≤ 30 := by
  unfold genT
  split
  · rw [bs_size]; simp
  · split
    · have := h (by assumption)
      simp only [ByteArray.size_append, bs_size, List.length_cons, List.length_nil]
      have e : ∀ x : Int, (bytesOf [x]).size = 1 := fun x => by simp [bytesOf, ByteArray.size]
      rw [e]; omega
    · simp only [ByteArray.size_append, bs_size, List.length_cons, List.length_nil]
      have e : ∀ x : Int, (bytesOf [x]).size = 1 := fun x => by simp [bytesOf, ByteArray.size]
      rw [e]; omega
mutual
theorem txt_size (it : Int → ByteArray) : ∀ t : Tp, nums (fun n => (it n).size ≤ 20) t → (txt it t).size ≤ 40 * szT t
  | .mk k n ks, h => by
    simp only [nums] at h
    obtain ⟨h6, h7, h8, hk⟩ := h
    have hL := txts_size it ks hk
    simp only [txt, szT, topT]
    split
    · rw [bs_size]; simp; omega
    split
    · rw [bs_size]; simp; omega
    split
    · rw [bs_size]; simp; omega
    split
    · have := h6 (by assumption)
      rw [ByteArray.size_append, bs_size]; simp; omega
    split
    · have := h7 (by assumption)
      rw [ByteArray.size_append, bs_size]; simp; omega
    split
    · have := genT_size (it := it) (n := n) (h8 (by assumption)); omega
    split
    · rename_i a c x y hxy
      obtain ⟨ta, ea, hx⟩ := hL 0 x (by rw [hxy]; rfl)
      obtain ⟨tc, ec, hy⟩ := hL 1 y (by rw [hxy]; rfl)
      simp only [List.getElem?_cons_zero, List.getElem?_cons_succ, Option.some.injEq] at ea ec
      subst ea; subst ec
      simp only [szL]
      have w1 := withT_size (a.k == 4) a x
      have w2 := withT_size (c.k == 4 || c.k == 5) c y
      split
      · simp only [ByteArray.size_append, bs_size, List.length_cons, List.length_nil]; omega
      · split
        · simp only [ByteArray.size_append, bs_size, List.length_cons, List.length_nil]; omega
        · rw [bs_size]; simp; omega
    · rw [bs_size]; simp; omega
theorem txts_size (it : Int → ByteArray) : ∀ ts : List Tp, numsLs (fun n => (it n).size ≤ 20) ts → ∀ (i : Nat) s, (txts it ts)[i]? = some s → ∃ t, ts[i]? = some t ∧ s.size ≤ 40 * szT t
  | [], _, i, s, h => by simp [txts] at h
  | t :: r, h, i, s, hs => by
    simp only [numsLs] at h
    cases i with
    | zero =>
      simp only [txts, List.getElem?_cons_zero, Option.some.injEq] at hs
      subst hs
      exact ⟨t, rfl, txt_size it t h.1⟩
    | succ i =>
      simp only [txts, List.getElem?_cons_succ] at hs
      obtain ⟨u, h1, h2⟩ := txts_size it r h.2 i s hs
      exact ⟨u, by simpa using h1, h2⟩
end
end Go.Vx

