/- What the rows' readings say of slices. -/
import Derived.Test.YtmgmddcehjcbkaaDoorHu
set_option linter.unusedSimpArgs false
set_option linter.unusedVariables false
namespace Go.Proofs.YtmgmddcehjcbkaaDoor
open Go.Vx Go.Vc Go.RowKit
section
variable {H : Type} {enc : TypeId × Value → H} {W : World} {sp : Nat → Bool}
theorem dnil {eb : Nat} {cs : List D} (h : cs = []) : RepD (InW W) W (slD eb 0 cs) (.slice none 0 0) := by
  subst h
  simp only [slD, ebn, RepD]
  exact ⟨none, 0, rfl, Nat.le_refl _, by simp, by simp, by simp only [RepC]⟩
theorem ebn_le (eb n : Nat) : ebn eb n ≤ eb := by unfold ebn; split <;> omega
/-- A slice of types. -/
theorem open_L {fuel : Nat} {A : Option Addr} {n c : Nat} {x : DataW H × List MemPlace} (h : DataW.trod enc Tryd.prog W 0 sp true fuel 22 [.slice A n c] = some x) (hb : Rows.uptoBulk x.1 ≤ 1048576) :
    ∃ ts : List Tp, RepD (InW W) W (dK ts) (.slice A n c) ∧ szL ts ≤ Rows.uptoBulk x.1 := by
  rcases DataW.trod_slice Tryd.underlying22 h with ⟨hs, e2⟩ | ⟨a, len, cap, elems, rest, m, rfl, hs, e2, _, hle, hcap, hlen, hel, _⟩
  · injection hs with hs _
    injection hs with h1 h2 h3
    subst h1; subst h2; subst h3
    exact ⟨[], dnil rfl, by simp [szL]⟩
  · injection hs with hs _
    injection hs with h1 h2 h3
    subst h1; subst h2; subst h3
    subst e2
    simp only [Rows.uptoBulk] at hb ⊢
    obtain ⟨ts, h1, h2, h3⟩ := elems_T (fun cs x hx hb => open_T m cs x hx hb) hlen hel n 0 (by omega) (by simp; omega)
    simp only [List.drop_zero] at h3
    have hsl := szL_len ts
    refine ⟨ts, ?_, by omega⟩
    subst h1
    simp only [slD, RepD]
    refine ⟨some a, c, rfl, hle, ?_, fun _ => ⟨a, rfl⟩, by simpa using h2⟩
    have := Nat.mul_le_mul_left ts.length (ebn_le 40 ts.length)
    simp only [LB]; omega
/-- A slice of numbers. -/
theorem open_I {fuel : Nat} {A : Option Addr} {n c : Nat} {x : DataW H × List MemPlace} (h : DataW.trod enc Tryd.prog W 0 sp true fuel 28 [.slice A n c] = some x) (hb : Rows.uptoBulk x.1 ≤ 1048576) :
    ∃ l : List Int, RepD (InW W) W (dI l) (.slice A n c) ∧ l.length ≤ Rows.uptoBulk x.1 := by
  rcases DataW.trod_slice Tryd.underlying28 h with ⟨hs, e2⟩ | ⟨a, len, cap, elems, rest, m, rfl, hs, e2, _, hle, hcap, hlen, hel, _⟩
  · injection hs with hs _
    injection hs with h1 h2 h3
    subst h1; subst h2; subst h3
    exact ⟨[], dnil rfl, by simp⟩
  · injection hs with hs _
    injection hs with h1 h2 h3
    subst h1; subst h2; subst h3
    subst e2
    have key : ∀ m j : Nat, j + m = n → ∃ l : List Int, l.length = m ∧ RepC (InW W) W (encI l) (some a) j ∧ m ≤ Rows.uptoBulkAll ((elems.drop j).map (·.1)) := by
      intro m
      induction m with
      | zero => exact fun j _ => ⟨[], rfl, by simp only [encI, List.map_nil, RepC], Nat.zero_le _⟩
      | succ m ihm =>
        intro j hj
        have hjl : j < elems.length := by omega
        obtain ⟨l, h1, h2, h3⟩ := ihm (j + 1) (by omega)
        have h4 := hel j (by omega)
        rw [List.getElem?_eq_getElem hjl, cellsI] at h4
        obtain ⟨cs, h5, h6⟩ := Option.bind_eq_some_iff.1 h4
        obtain ⟨k, rfl, _, _⟩ := DataW.trod_int Tryd.underlying3 h6
        obtain ⟨_, _, q⟩ := World.cells?_some h5
        have q0 := q 0 (by omega)
        rw [Go.Vc.add_add] at q0
        simp only [Nat.mul_one, Nat.add_zero, List.getElem?_cons_zero] at q0
        refine ⟨k :: l, by simp [h1], ?_, ?_⟩
        · simp only [encI, List.map_cons, RepC] at h2 ⊢
          exact ⟨⟨a, _, rfl, by have := World.block_lt_of_cell? W _ q0; rwa [add_block] at this, q0, by simp only [RepD]⟩, h2⟩
        · rw [List.drop_eq_getElem_cons hjl, List.map_cons, Rows.uptoBulkAll]
          have := bulk_one elems[j].1
          omega
    obtain ⟨l, h1, h2, h3⟩ := key n 0 (by omega)
    simp only [List.drop_zero] at h3
    simp only [Rows.uptoBulk] at hb ⊢
    refine ⟨l, ?_, by omega⟩
    subst h1
    simp only [slD, RepD]
    refine ⟨some a, c, rfl, hle, ?_, fun _ => ⟨a, rfl⟩, h2⟩
    have := Nat.mul_le_mul_left l.length (ebn_le 8 l.length)
    simp only [LB]; omega
end
end Go.Proofs.YtmgmddcehjcbkaaDoor
