/- Plain laws of types: the order. -/
import Derived.Test.YtohmeplcjgmedaaDoorVxs
namespace Go.Vx
open Go.Vc

def cmpI (a b : Int) : Int := if a < b then -1 else if a > b then 1 else 0
def orL : List Int → Int
  | [] => 0
  | x :: r => if x ≠ 0 then x else orL r
mutual
def cmpT : Tp → Tp → Int
  | .mk k n ks, .mk k' n' ks' => orL [cmpI k k', cmpI n n', cmpI ks.length ks'.length, cmpL ks ks']
def cmpL : List Tp → List Tp → Int
  | [], [] => 0
  | [], _ :: _ => -1
  | _ :: _, [] => 1
  | a :: r, b :: s => if cmpT a b ≠ 0 then cmpT a b else cmpL r s
end
theorem cmpL_drop {l m : List Tp} {i : Nat} (h : i < l.length) (h' : i < m.length) : cmpL (l.drop i) (m.drop i) = if cmpT l[i] m[i] ≠ 0 then cmpT l[i] m[i] else cmpL (l.drop (i + 1)) (m.drop (i + 1)) := by
  rw [List.drop_eq_getElem_cons h, List.drop_eq_getElem_cons h', cmpL]
/-- The place of a number, from a place on; -1: it is not there. -/
def idxFrom : List Int → Int → Int → Int
  | [], _, _ => -1
  | y :: r, x, i => if x = y then i else idxFrom r x (i + 1)
mutual
/-- F8.1: a right type. -/
def right : Tp → Bool
  | .mk k n ks => match (k == 1 || (k == 2 || k == 3)) with
    | true => n == 0 && ((ks.length : Int) == 0)
    | false => match (k == 4 || k == 5) with
      | true => n == 0 && (((ks.length : Int) == 2) && rights ks)
      | false => match (k == 6 || (k == 7 || k == 8)) with
        | true => decide (n ≥ 0) && ((ks.length : Int) == 0)
        | false => false
def rights : List Tp → Bool
  | [] => true
  | t :: r => right t && rights r
end
theorem idxFrom_nonneg : ∀ (l : List Int) (x i : Int), 0 ≤ i → (0 ≤ idxFrom l x i ↔ x ∈ l)
  | [], x, i, h => by simp [idxFrom]
  | y :: r, x, i, h => by
    simp only [idxFrom, List.mem_cons]
    by_cases e : x = y
    · rw [if_pos e]; simp [e, h]
    · rw [if_neg e, idxFrom_nonneg r x (i + 1) (by omega)]; simp [e]

mutual
/-- The numbers of the nodes of a kind, each once, behind others. -/
def fnd (kind : Int) : Tp → List Int → List Int
  | .mk k n ks, acc => fndL kind ks (if k = kind ∧ n ∉ acc then acc ++ [n] else acc)
def fndL (kind : Int) : List Tp → List Int → List Int
  | [], acc => acc
  | t :: r, acc => fndL kind r (fnd kind t acc)
end
mutual
theorem fnd_len (kind : Int) : ∀ (t : Tp) (acc : List Int), acc.length ≤ (fnd kind t acc).length
  | .mk k n ks, acc => by
    simp only [fnd]
    refine Nat.le_trans ?_ (fndL_len kind ks _)
    split <;> simp
theorem fndL_len (kind : Int) : ∀ (ts : List Tp) (acc : List Int), acc.length ≤ (fndL kind ts acc).length
  | [], acc => by simp [fndL]
  | t :: r, acc => by
    simp only [fndL]
    exact Nat.le_trans (fnd_len kind t acc) (fndL_len kind r _)
end
theorem fndL_drop {kind : Int} {ks : List Tp} {i : Nat} (h : i < ks.length) (acc : List Int) : fndL kind (ks.drop i) acc = fndL kind (ks.drop (i + 1)) (fnd kind ks[i] acc) := by
  rw [List.drop_eq_getElem_cons h, fndL]
mutual
/-- Nodes of a kind replaced, by a table. -/
def sub (kind : Int) (σ : Int → Option Tp) : Tp → Tp
  | .mk k n ks => match (if k = kind then σ n else none) with
    | some u => u
    | none => .mk k n (subL kind σ ks)
def subL (kind : Int) (σ : Int → Option Tp) : List Tp → List Tp
  | [] => []
  | t :: r => sub kind σ t :: subL kind σ r
end
theorem subL_map (kind : Int) (σ : Int → Option Tp) (l : List Tp) : subL kind σ l = l.map (sub kind σ) := by
  induction l with
  | nil => rfl
  | cons t r ih => simp [subL, ih]
/-- The table of two lists. -/
def tbl : List Int → List Tp → Int → Option Tp
  | f :: fs, t :: ts, n => if n = f then some t else tbl fs ts n
  | _, _, _ => none
theorem tbl_idx : ∀ (fs : List Int) (ts : List Tp) (n i : Int), fs.length ≤ ts.length → 0 ≤ i → (idxFrom fs n i < 0 → tbl fs ts n = none) ∧ (0 ≤ idxFrom fs n i → ∃ q : Nat, idxFrom fs n i = i + q ∧ q < fs.length ∧ tbl fs ts n = ts[q]?)
  | [], ts, n, i, _, h => by simp [idxFrom, tbl]
  | f :: fs, [], n, i, hl, h => by simp at hl
  | f :: fs, t :: ts, n, i, hl, h => by
    simp only [idxFrom, tbl]
    by_cases e : n = f
    · rw [if_pos e, if_pos e]
      exact ⟨fun h' => by omega, fun _ => ⟨0, by simp, by simp, by simp⟩⟩
    · rw [if_neg e, if_neg e]
      obtain ⟨h1, h2⟩ := tbl_idx fs ts n (i + 1) (by simpa using hl) (by omega)
      refine ⟨h1, fun h' => ?_⟩
      obtain ⟨q, q1, q2, q3⟩ := h2 h'
      exact ⟨q + 1, by rw [q1]; push_cast; omega, by simp; omega, by rw [q3]; simp⟩


/-! How many nodes, as far as they fit. -/
theorem szL_take {ks : List Tp} {i : Nat} (h : i < ks.length) : szL (ks.take (i + 1)) = szL (ks.take i) + szT ks[i] := by
  rw [List.take_succ_eq_append_getElem h, szL_append]
  simp [szL]
theorem szL_take_le (ks : List Tp) (i : Nat) : szL (ks.take i) ≤ szL ks := by
  conv => rhs; rw [← List.take_append_drop i ks, szL_append]
  omega
def cutN (n most : Nat) : Nat := if n ≤ most then n else most + 1
end Go.Vx
