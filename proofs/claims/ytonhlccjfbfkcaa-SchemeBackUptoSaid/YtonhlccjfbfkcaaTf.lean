/- slices.IndexFunc, slices.DeleteFunc at numbers; scheme.gens. -/
import Derived.Test.YtonhlccjfbfkcaaTe
import Derived.Test.YtonhlccjfbfkcaaVcl
namespace Go.Proofs.Ytonhlccjfbfkcaa
open Go.Vc Go.RowKit

/-- The place of the first number with p, from i on; -1: there is none. -/
def idxP (p : Int → Bool) : List Int → Int → Int
  | [], _ => -1
  | y :: r, i => if p y then i else idxP p r (i + 1)
theorem idxP_spec (p : Int → Bool) : ∀ (l : List Int) (i : Int), 0 ≤ i → (idxP p l i < 0 → (∀ y ∈ l, p y = false) ∧ idxP p l i = -1) ∧ (0 ≤ idxP p l i → ∃ q : Nat, idxP p l i = i + q ∧ ∃ h : q < l.length, p l[q] = true ∧ ∀ y ∈ l.take q, p y = false)
  | [], i, h => by simp [idxP]
  | y :: r, i, h => by
    simp only [idxP]
    by_cases e : p y = true
    · rw [if_pos e]
      exact ⟨fun h' => by omega, fun _ => ⟨0, by simp, by simp, by simpa using e, by simp⟩⟩
    · rw [if_neg e]
      obtain ⟨h1, h2⟩ := idxP_spec p r (i + 1) (by omega)
      refine ⟨fun h' => ⟨fun z hz => ?_, (h1 h').2⟩, fun h' => ?_⟩
      · rcases List.mem_cons.1 hz with rfl | hz
        · simpa using e
        · exact (h1 h').1 z hz
      · obtain ⟨q, q1, q2, q3, q4⟩ := h2 h'
        refine ⟨q + 1, by rw [q1]; push_cast; omega, by simp; omega, by simpa using q3, fun z hz => ?_⟩
        simp only [List.take_succ_cons, List.mem_cons] at hz
        rcases hz with rfl | hz
        · simpa using e
        · exact q4 z hz

/-- A function value that tells p of a number, wherever the blocks of S are as in w. -/
def Pred (S : Nat → Prop) (w : World) (f : FuncId) (a b : Array Value) (p : Int → Bool) : Prop := Goes Try.prog f ∧ ∀ w' x, w.heap.size ≤ w'.heap.size → Same S w w' → Calls Try.prog f (a ++ #[.int .i64 x] ++ b) w' fun e w'' => e = .returned (.bool (p x)) ∧ Below w'.heap.size w' w''

theorem indexFunc_calls (S S2 : Nat → Prop) (w : World) (A : Option Addr) (c : Nat) (l : List Int) (f : FuncId) (a b : Array Value) (p : Int → Bool) (hp : Pred S w f a b p) (hl : l.length ≤ 17592186044416) (hr : Cells S2 w A (ints l)) :
    Calls Try.prog 55 #[.slice A l.length c, .func (.func f) a b] w (fun e w' => e = .returned (.int .i64 (idxP p l 0)) ∧ Below w.heap.size w w') := by
  refine calls0 tyok mixed [] Try.func55 rfl rfl (by simp) ?_
  conv => whnf
  refine ⟨fun n st => ∃ i : Nat, i ≤ l.length ∧ n = l.length - i ∧ idxP p l 0 = idxP p (l.drop i) i ∧ st = ⟨[(8, .v (.int .i64 i)), (7, .v (.int .i64 l.length)), (0, .v (.slice A l.length c)), (1, .v (.func (.func f) a b))], [], [], [], fun _ => False, w⟩, ⟨l.length, _, ⟨0, Nat.zero_le _, by simp, by simp, rfl⟩, weak_of (preP_refl _) ⟨rfl, rfl, rfl, rfl, trivial⟩ trivial (List.Sublist.refl _) rfl rfl⟩, ?_⟩
  rintro n st ⟨i, hi, hn, hx, rfl⟩
  conv => whnf
  refine ⟨fun h => ?_, fun h => ?_⟩
  · have h := of_decide_eq_true h
    have hil : i < l.length := by omega
    have hd : l.drop i = l[i] :: l.drop (i + 1) := by rw [List.drop_eq_getElem_cons hil]
    obtain ⟨ad, rfl, _, hld⟩ := hr.ld1 (P := Try.prog) tk3 rfl (i := i) (v := .int .i64 l[i]) (by simp [hil])
    conv => whnf
    refine ⟨ad, rfl, by omega, h, ?_⟩
    conv => whnf
    intro w1 hw
    refine ⟨_, hld w1 (hw.samev S2), ?_⟩
    conv => whnf
    refine ⟨hp.1, fun w2 hw2 => scalK (hp.2 w2 l[i] hw2.bel.size (hw2.samev S)) hw2 ?_⟩
    conv => whnf
    refine ⟨fun h => ?_, fun h => ?_⟩
    · have h : p l[i] = true := by simpa using h
      conv => whnf
      intro w2 hw2
      exact ⟨retI (by rw [hx, hd, idxP, if_pos h]), hw2.bel⟩
    · have h : p l[i] = false := by simpa using h
      conv => whnf
      refine ⟨l.length - (i + 1), _, by omega, ⟨i + 1, hil, rfl, ?_, rfl⟩, weak_of (preP_refl _) ⟨incV (by omega), rfl, rfl, rfl, trivial⟩ trivial (List.Sublist.refl _) rfl rfl⟩
      rw [hx, hd, idxP, if_neg (by simp [h])]; rfl
  · have h := of_decide_eq_false h
    conv => whnf
    intro w2 hw2
    have : i = l.length := by omega
    exact ⟨retI (by rw [hx, this]; simp [idxP]), hw2.bel⟩

/-- What a call leaves that was handed a row of numbers and cuts it. -/
def CutPost (w : World) (A : Option Addr) (n c : Nat) (l' : List Int) (e : Ending) (w' : World) : Prop :=
  e = .returned (.slice A l'.length c) ∧ RowOk w' ⟨.slice A l'.length c, 3, 1, ints l'⟩ ∧ Only (fun k => rowB (.slice A n c) = some k) w w'

theorem ovw_ints {l : List Int} {i : Nat} {x : Int} (h : i < l.length) : ovw (ints l) (i * 1) [.int .i64 x] = ints (l.set i x) := by
  unfold ovw ints
  rw [List.set_eq_take_append_cons_drop]
  simp [h]
theorem rowB_slice (A : Option Addr) (n c n' c' : Nat) : rowB (.slice A n c) = rowB (.slice A n' c') := by cases A <;> rfl

theorem deleteFunc_calls (S : Nat → Prop) (w : World) (A : Option Addr) (c : Nat) (l : List Int) (f : FuncId) (a b : Array Value) (p : Int → Bool) (hp : Pred S w f a b p) (hl : l.length ≤ 8796093022208) (hr : RowOk w ⟨.slice A l.length c, 3, 1, ints l⟩)
    (hS : ∀ k, rowB (.slice A l.length c) = some k → ¬ S k) :
    Calls Try.prog 39 #[.slice A l.length c, .func (.func f) a b] w (CutPost w A l.length c (l.filter fun x => !p x)) := by
  have hcl : l.length ≤ c := hr.cap
  refine calls_of_vcM (b := ⟨w, fun k => rowB (.slice A l.length c) = some k⟩) (ρ := []) (E := []) (Rw := [⟨.slice A l.length c, 3, 1, ints l⟩]) (pub := fun k => S k ∧ k < w.heap.size) (s := w)
    (plans := []) tyok mixed (svs := [.v (.slice A l.length c), .v (.func (.func f) a b)]) Try.func39 rfl rfl (by simp)
    (Wd.startR hr (pub := fun k => S k ∧ k < w.heap.size) (fun k h => h.2) (fun k hk h => hS k hk h.1)) ?_
  have hsame : ∀ {st : St} {w1 : World}, Wd ⟨w, fun k => rowB (.slice A l.length c) = some k⟩ st w1 → Same S w w1 := fun h => h.same0 S (fun q hq h' => hS q h' hq)
  conv => whnf
  refine ⟨gf55, fun w1 hw1 => scalK (indexFunc_calls S (fun _ => True) w1 A c l f a b p ⟨hp.1, fun w' x h1 h2 => hp.2 w' x (Nat.le_trans hw1.below.size h1) (fun q hq hq2 => by rw [h2 q hq (Nat.lt_of_lt_of_le hq2 hw1.below.size)]; exact hsame hw1 q hq hq2)⟩ (by omega) ((hw1.row _ (List.mem_singleton.2 rfl)).1.cells rfl _ (fun _ _ => trivial))) hw1 ?_⟩
  obtain ⟨hx1, hx2⟩ := idxP_spec p l 0 (by omega)
  conv => whnf
  refine ⟨fun h => ?_, fun h => ?_⟩
  · have h : idxP p l 0 = -1 := eq_of_beq h
    have hall := (hx1 (by omega)).1
    have hf : (l.filter fun x => !p x) = l := List.filter_eq_self.2 fun x hx => by simp [hall x hx]
    conv => whnf
    intro w2 hw2
    rw [hf]
    exact ⟨rfl, (hw2.row _ (List.mem_singleton.2 rfl)).1, hw2.below⟩
  · have h : idxP p l 0 ≠ -1 := by simpa using h
    have h0 : 0 ≤ idxP p l 0 := by
      rcases Int.lt_or_le (idxP p l 0) 0 with h' | h'
      · exact absurd (hx1 h').2 h
      · exact h'
    obtain ⟨q, q1, q2, q3, q4⟩ := hx2 h0
    simp only [Int.zero_add] at q1
    rw [q1]
    conv => whnf
    refine ⟨fun m st => ∃ (i j : Nat) (r : List Int), i < j ∧ j ≤ l.length ∧ m = l.length - j ∧ r.length = l.length ∧ r.take i = (l.take j).filter (fun x => !p x) ∧ r.drop j = l.drop j ∧
        st = ⟨[(6, .v (.int .i64 j)), (5, .v (.int .i64 i)), (0, .v (.slice A l.length c)), (1, .v (.func (.func f) a b))], [], [], [⟨.slice A l.length c, 3, 1, ints r⟩], fun k => S k ∧ k < w.heap.size, w⟩,
      ⟨l.length - (q + 1), _, ⟨q, q + 1, l, by omega, by omega, rfl, rfl, ?_, rfl, rfl⟩, weak_of (preP_refl _) ⟨incV (by omega), rfl, rfl, rfl, trivial⟩ trivial (List.Sublist.refl _) rfl rfl⟩, ?_⟩
    · rw [List.take_succ_eq_append_getElem q2, List.filter_append, List.filter_eq_self.2 fun x hx => by simp [q4 x hx]]
      simp [q3]
    rintro m st ⟨i, j, r, hij, hj, hm, hr1, hr2, hr3, rfl⟩
    conv => whnf
    refine ⟨fun h => ?_, fun h => ?_⟩
    · have h := of_decide_eq_true h
      have hjl : j < l.length := by omega
      have hrj : r[j]? = some l[j] := by
        have := congrArg (fun z => z[0]?) hr3
        simpa [hjl] using this
      obtain ⟨ad, rfl⟩ := RowOk.some hr (by omega)
      conv => whnf
      refine ⟨ad, rfl, by omega, h, ?_⟩
      conv => whnf
      intro w1 hw1
      obtain ⟨ad', e', _, hld⟩ := ((hw1.row _ (List.mem_singleton.2 rfl)).1.cells rfl (fun _ => True) (fun _ _ => trivial)).ld1 (P := Try.prog) tk3 rfl (i := j) (v := .int .i64 l[j]) (by simp [hrj])
      injection e' with e'; subst e'
      refine ⟨_, hld w1 (Same.rfl' _ _), ?_⟩
      conv => whnf
      refine ⟨hp.1, fun w2 hw2 => scalK (hp.2 w2 l[j] hw2.below.size (hsame hw2)) hw2 ?_⟩
      conv => whnf
      refine ⟨fun h => ?_, fun h => ?_⟩
      · have h : p l[j] = false := by simpa using h
        conv => whnf
        refine ⟨ad, rfl, by omega, by omega, ?_⟩
        conv => whnf
        refine ⟨nofun, fun w3 hw3 => storeK (b := ⟨w, fun k => rowB (.slice (some ad) l.length c) = some k⟩) tyok rfl hw3 0 rfl (i * 1) rfl (u := .int .i64 l[j]) (l := [.int .i64 l[j]]) rfl rfl rfl (by simp [hr1]; omega) (by simp [plainV]) ?_⟩
        rw [ovw_ints (by omega)]
        conv => whnf
        refine ⟨l.length - (j + 1), _, by omega, ⟨i + 1, j + 1, r.set i l[j], by omega, hjl, rfl, by simp [hr1], ?_, ?_, rfl⟩, weak_of (preP_refl _) ⟨incV (by omega), incV (by omega), rfl, rfl, trivial⟩ trivial (List.Sublist.refl _) rfl rfl⟩
        · rw [List.take_succ_eq_append_getElem (by simp; omega), List.take_succ_eq_append_getElem hjl, List.filter_append, ← hr2, List.take_set_of_le (by omega)]
          simp [h]
        · rw [List.drop_set_of_lt (by omega), ← List.drop_drop, hr3, List.drop_drop]
      · have h : p l[j] = true := by simpa using h
        conv => whnf
        refine ⟨l.length - (j + 1), _, by omega, ⟨i, j + 1, r, by omega, hjl, rfl, hr1, ?_, ?_, rfl⟩, weak_of (preP_refl _) ⟨incV (by omega), rfl, rfl, rfl, trivial⟩ trivial (List.Sublist.refl _) rfl rfl⟩
        · rw [List.take_succ_eq_append_getElem hjl, List.filter_append, ← hr2]
          simp [h]
        · rw [← List.drop_drop, hr3, List.drop_drop]
    · have h := of_decide_eq_false h
      have hjl : j = l.length := by omega
      subst hjl
      rw [List.take_length] at hr2
      conv => whnf
      refine ⟨nofun, fun w1 hw1 => valK hw1 (exec_sliceL tyok (t := 25) rfl rfl rfl (A := A) (n := l.length) (c := c) (k := .i64) (j := i) rfl rfl (by omega)) ?_⟩
      conv => whnf
      refine ⟨nofun, fun w2 hw2 => clearK tyok (t := 25) (z := .int .i64 0) rfl rfl rfl rfl rfl rfl hw2 0 rfl (j := i) (by omega) rfl fun ys hys => ?_⟩
      conv => whnf
      refine ⟨nofun, fun w3 hw3 => valK hw3 (exec_sliceH tyok (t := 25) rfl rfl rfl (A := A) (n := l.length) (c := c) (k := .i64) (j := i) rfl rfl (by omega)) ?_⟩
      conv => whnf
      intro w4 hw4
      have hli : i = (l.filter fun x => !p x).length := by rw [← hr2]; simp; omega
      have hrow := ((hw4.row _ (List.mem_singleton.2 rfl)).1).cut (m := i) (by omega)
      have e2 : List.take (i * 1) (List.take i (ints r) ++ ys) = ints (l.filter fun x => !p x) := by
        rw [Nat.mul_one, List.take_append_of_le_length (by simp; omega), List.take_take, Nat.min_self, ← List.map_take, hr2]
      rw [e2] at hrow
      rw [hli] at hrow ⊢
      exact ⟨rfl, hrow, hw4.below⟩
end Go.Proofs.Ytonhlccjfbfkcaa
