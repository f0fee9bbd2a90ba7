/- A generator of verification conditions for the loaded programs: symbolic values, symbolic states, and what they say of a machine's state. -/
import Derived.Below
import Derived.WalkKit
import Derived.OrdersHeld
namespace Go.Vc
open Go.RowKit

/-- Symbolic values: a plain one; a pointer into own block number i; aggregates; a slice over own block i; closures; tuples; interface values. -/
inductive SV where
  | v (x : Value)
  | own (i off : Nat)
  | agg (l : List SV)
  | osl (i n c : Nat)
  | fn (f : Fn) (a b : List SV)
  | tup (l : List SV)
  | ifc (t : TypeId) (x : SV)
  | kb (b : Bool)

mutual
def den (ρ : List Nat) : SV → Value
  | .v x => x
  | .own i off => .pointer (some ⟨ρ.getD i 0, off, none⟩)
  | .agg l => .agg (denL ρ l).toArray
  | .osl i n c => .slice (some ⟨ρ.getD i 0, 0, none⟩) n c
  | .fn f a b => .func f (denL ρ a).toArray (denL ρ b).toArray
  | .tup l => .tuple (denL ρ l).toArray
  | .ifc t x => .iface t (den ρ x)
  | .kb b => .bool b
def denL (ρ : List Nat) : List SV → List Value
  | [] => []
  | x :: r => den ρ x :: denL ρ r
end

theorem denL_map (ρ : List Nat) (l : List SV) : denL ρ l = l.map (den ρ) := by
  induction l with
  | nil => rfl
  | cons x r ih => simp [denL, ih]

mutual
def okN (n : Nat) : SV → Bool
  | .v _ => true
  | .own i _ => Nat.blt i n
  | .agg l => okNL n l
  | .osl i _ _ => Nat.blt i n
  | .fn _ a b => okNL n a && okNL n b
  | .tup l => okNL n l
  | .ifc _ x => okN n x
  | .kb _ => true
def okNL (n : Nat) : List SV → Bool
  | [] => true
  | x :: r => okN n x && okNL n r
end

theorem getD_append_lt {ρ ρ' : List Nat} {i : Nat} (h : i < ρ.length) : (ρ ++ ρ').getD i 0 = ρ.getD i 0 := by
  simp [List.getD_eq_getElem?_getD, List.getElem?_append_left h]

mutual
theorem den_ext {n : Nat} {ρ ρ' : List Nat} (hρ : ∀ i, i < n → ρ.getD i 0 = ρ'.getD i 0) : ∀ x : SV, okN n x = true → den ρ x = den ρ' x
  | .v _, _ => rfl
  | .own i off, h => by simp only [okN, Nat.blt_eq] at h; simp only [den, hρ i h]
  | .agg l, h => by simp only [okN] at h; simp only [den, denL_ext hρ l h]
  | .osl i n c, h => by simp only [okN, Nat.blt_eq] at h; simp only [den, hρ i h]
  | .fn f a b, h => by simp only [okN, Bool.and_eq_true] at h; simp only [den, denL_ext hρ a h.1, denL_ext hρ b h.2]
  | .tup l, h => by simp only [okN] at h; simp only [den, denL_ext hρ l h]
  | .ifc t x, h => by simp only [okN] at h; simp only [den, den_ext hρ x h]
  | .kb _, _ => rfl
theorem denL_ext {n : Nat} {ρ ρ' : List Nat} (hρ : ∀ i, i < n → ρ.getD i 0 = ρ'.getD i 0) : ∀ l : List SV, okNL n l = true → denL ρ l = denL ρ' l
  | [], _ => rfl
  | x :: r, h => by simp only [okNL, Bool.and_eq_true] at h; simp only [denL, den_ext hρ x h.1, denL_ext hρ r h.2]
end

end Go.Vc
namespace Go.Vc
open Go.RowKit

/-! ### Lists with keys -/
def lk {α : Type} : List (Nat × α) → Nat → Option α
  | [], _ => none
  | (k, x) :: r, n => match Nat.beq k n with
    | true => some x
    | false => lk r n
def nth {α : Type} : List α → Nat → Option α
  | [], _ => none
  | x :: _, 0 => some x
  | _ :: r, n + 1 => nth r n
def dropN {α : Type} : Nat → List α → List α
  | 0, l => l
  | _ + 1, [] => []
  | n + 1, _ :: r => dropN n r
/-- The first n, all of them there. -/
def takeF {α : Type} : Nat → List α → Option (List α)
  | 0, _ => some []
  | _ + 1, [] => none
  | n + 1, x :: r => match takeF n r with
    | some l => some (x :: l)
    | none => none
/-- Put in place from a place on. -/
def putAt {α : Type} : Nat → List α → List α → Option (List α)
  | _, [], l => some l
  | 0, x :: xs, _ :: r => match putAt 0 xs r with
    | some l => some (x :: l)
    | none => none
  | n + 1, x :: xs, y :: r => match putAt n (x :: xs) r with
    | some l => some (y :: l)
    | none => none
  | _, _ :: _, [] => none

theorem nbeq {a b : Nat} : Nat.beq a b = true ↔ a = b := ⟨Nat.eq_of_beq_eq_true, by intro h; subst h; exact Nat.beq_refl a⟩
theorem nbeq_ne {a b : Nat} : Nat.beq a b = false ↔ a ≠ b := by
  rw [← Bool.not_eq_true, ne_eq, not_congr nbeq]

theorem nth_eq {α : Type} : ∀ (l : List α) (n : Nat), nth l n = l[n]?
  | [], _ => by simp [nth]
  | _ :: _, 0 => by simp [nth]
  | _ :: r, n + 1 => by simp [nth, nth_eq r n]
theorem dropN_eq {α : Type} : ∀ (n : Nat) (l : List α), dropN n l = l.drop n
  | 0, _ => by simp [dropN]
  | _ + 1, [] => by simp [dropN]
  | n + 1, _ :: r => by simp [dropN, dropN_eq n r]
theorem takeF_eq {α : Type} : ∀ (n : Nat) (l r : List α), takeF n l = some r → r = l.take n ∧ n ≤ l.length
  | 0, _, r, h => by simp [takeF] at h; simp [h]
  | _ + 1, [], _, h => by simp [takeF] at h
  | n + 1, x :: t, r, h => by
    simp only [takeF] at h
    split at h
    · rename_i l hl
      obtain ⟨rfl, h2⟩ := takeF_eq n t l hl
      simp at h
      simp [← h]; omega
    · cases h
theorem putAt_get {α : Type} : ∀ (n : Nat) (xs l r : List α), putAt n xs l = some r → r.length = l.length ∧ n + xs.length ≤ l.length + (if xs = [] then n else 0) ∧ ∀ j, r[j]? = if n ≤ j ∧ j < n + xs.length then xs[j - n]? else l[j]?
  | _, [], l, r, h => by simp [putAt] at h; subst h; simp; intro j h1 h2; omega
  | 0, x :: xs, [], r, h => by simp [putAt] at h
  | 0, x :: xs, y :: l, r, h => by
    simp only [putAt] at h
    split at h
    · rename_i l' hl
      obtain ⟨h1, h2, h3⟩ := putAt_get 0 xs l l' hl
      simp at h; subst h
      refine ⟨by simp [h1], by simp at h2 ⊢; omega, fun j => ?_⟩
      cases j with
      | zero => simp
      | succ j => simp [h3 j]
    · cases h
  | n + 1, x :: xs, [], r, h => by simp [putAt] at h
  | n + 1, x :: xs, y :: l, r, h => by
    simp only [putAt] at h
    split at h
    · rename_i l' hl
      obtain ⟨h1, h2, h3⟩ := putAt_get n (x :: xs) l l' hl
      simp at h; subst h
      refine ⟨by simp [h1], by simp at h2 ⊢; omega, fun j => ?_⟩
      cases j with
      | zero => simp
      | succ j =>
        simp only [List.getElem?_cons_succ, h3 j]
        have : j + 1 - (n + 1) = j - n := by omega
        rw [this]
        by_cases hc : n ≤ j ∧ j < n + (x :: xs).length
        · rw [if_pos hc, if_pos (by omega)]
        · rw [if_neg hc, if_neg (by omega)]
    · cases h

/-! ### What is told of types -/
structure TI where
  z : Value
  size : Nat
  bytes : Nat
  agg : Bool
  flds : List (Nat × Nat)
  elem : Option Nat
  str : Bool
  ifc : Bool

def aggD : TypeDesc → Bool
  | .struct _ => true
  | .array _ _ => true
  | _ => false
def fldB (P : Program) : TypeDesc → List (Nat × Nat) → Bool
  | .struct fs, l => Nat.beq fs.size l.length && (List.range l.length).all fun f => match fs[f]?, l[f]? with
    | some fd, some o => Nat.beq fd.offset o.1 && (match P.info? fd.type with | some x => Nat.beq x.size o.2 && !Nat.beq x.size 0 | none => false)
    | _, _ => false
  | _, l => l.isEmpty
def elB : TypeDesc → Option Nat → Bool
  | .slice e, some e' => Nat.beq e e'
  | _, none => true
  | _, _ => false
def strB : TypeDesc → Bool
  | .string => true
  | _ => false
def ifcB : TypeDesc → Bool
  | .interface _ => true
  | _ => false
def TI.chk (P : Program) (t : TypeId) (i : TI) : Bool :=
  match P.info? t, P.underlying t with
  | some x, some d => Nat.beq x.size i.size && Nat.beq x.bytes i.bytes && (i.agg == aggD d) && fldB P d i.flds && elB d i.elem && (i.str == strB d) && (i.ifc == ifcB d)
  | _, _ => false
structure TIok (P : Program) (t : TypeId) (i : TI) : Prop where
  c : i.chk P t = true
  z : (P.info? t).bind (·.zero) = some i.z
def TyOk (P : Program) (ty : List (Nat × TI)) : Prop := ∀ t i, lk ty t = some i → TIok P t i

theorem TIok.get {P : Program} {t : TypeId} {i : TI} (h : TIok P t i) : ∃ x d, P.info? t = some x ∧ P.underlying t = some d ∧ x.size = i.size ∧ x.bytes = i.bytes ∧ x.zero = some i.z ∧ i.agg = aggD d ∧ fldB P d i.flds = true ∧ elB d i.elem = true ∧ i.str = strB d ∧ i.ifc = ifcB d := by
  have hc := h.c
  have hz := h.z
  unfold TI.chk at hc
  split at hc
  · rename_i x d hx hd
    simp only [Bool.and_eq_true, nbeq, beq_iff_eq] at hc
    obtain ⟨⟨⟨⟨⟨⟨h1, h2⟩, h3⟩, h4⟩, h5⟩, h6⟩, h7⟩ := hc
    rw [hx] at hz
    exact ⟨x, d, hx, hd, h1, h2, hz, h3, h4, h5, h6, h7⟩
  · cases hc
theorem fldB_get {P : Program} {d : TypeDesc} {l : List (Nat × Nat)} (h : fldB P d l = true) {f : Nat} {o : Nat × Nat} (hf : l[f]? = some o) : ∃ fs fd x, d = .struct fs ∧ fs.size = l.length ∧ fs[f]? = some fd ∧ fd.offset = o.1 ∧ P.info? fd.type = some x ∧ x.size = o.2 ∧ x.size ≠ 0 := by
  have hlt : f < l.length := (List.getElem?_eq_some_iff.1 hf).1
  cases d <;> simp only [fldB] at h
  case struct fs =>
    rw [Bool.and_eq_true, nbeq] at h
    obtain ⟨hsz, h⟩ := h
    have := List.all_eq_true.1 h f (List.mem_range.2 hlt)
    rw [hf] at this
    split at this
    · rename_i fd o' h1 h2
      injection h2 with h2; subst h2
      simp only [Bool.and_eq_true, nbeq] at this
      obtain ⟨h3, h4⟩ := this
      split at h4
      · rename_i x hx
        simp only [Bool.and_eq_true, nbeq, Bool.not_eq_true', nbeq_ne] at h4
        exact ⟨fs, fd, x, rfl, hsz, h1, h3, hx, h4.1, h4.2⟩
      · cases h4
    · cases this
  all_goals (simp at h; subst h; simp at hf)
end Go.Vc
