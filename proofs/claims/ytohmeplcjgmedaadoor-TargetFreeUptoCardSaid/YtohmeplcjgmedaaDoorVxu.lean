/- Laws: maps from strings to ints. -/
import Derived.Test.YtohmeplcjgmedaaDoorVxt
import Derived.Laws.StructEq
namespace Go.Vx
open Go.RowKit Go.Vc
set_option linter.unusedVariables false
set_option linter.unusedSimpArgs false

theorem toList_inj {a b : ByteArray} (h : a.toList = b.toList) : a = b := by
  rw [ByteArray.toList_eq, ByteArray.toList_eq] at h
  apply ByteArray.ext; apply Array.ext'; exact h
theorem beqB {a b : ByteArray} : (a == b) = true ↔ a = b := by
  rw [Go.beq_toListBytes, beq_iff_eq]
  exact ⟨toList_inj, fun h => by rw [h]⟩
theorem beqB_ne {a b : ByteArray} : (a == b) = false ↔ a ≠ b := by
  rw [← Bool.not_eq_true, beqB]
abbrev Ent := (ByteArray × Int) × Nat
def enM (x : Ent) : MapEntry := { key := .string x.1.1, val := .int .i64 x.1.2, born := x.2 }
def keysM (l : List Ent) : List ByteArray := l.map (·.1.1)
def atM : List Ent → ByteArray → Option Int
  | [], _ => none
  | x :: r, s => if s = x.1.1 then some x.1.2 else atM r s
/-- A map's block, by what it tells. -/
def MapIs (mp : ByteArray → Option Int) (v : Value) (o : Obj) : Prop :=
  ∃ g l clock, v = .map (some g) ∧ o = .map (l.map enM).toArray clock ∧ (keysM l).Nodup ∧ ∀ s, atM l s = mp s
def updM (mp : ByteArray → Option Int) (s : ByteArray) (n : Int) : ByteArray → Option Int := fun t => if t = s then some n else mp t
def delM (mp : ByteArray → Option Int) (s : ByteArray) : ByteArray → Option Int := fun t => if t = s then none else mp t

theorem atM_none {s : ByteArray} : ∀ {l : List Ent}, s ∉ keysM l → atM l s = none
  | [], _ => rfl
  | x :: r, h => by
    simp only [keysM, List.map_cons, List.mem_cons, not_or] at h
    rw [atM, if_neg h.1]; exact atM_none h.2
theorem atM_app {s : ByteArray} {n : Int} {k : Nat} : ∀ {l r : List Ent}, s ∉ keysM l → atM (l ++ ((s, n), k) :: r) s = some n
  | [], r, _ => by simp [atM]
  | x :: l, r, h => by
    simp only [keysM, List.map_cons, List.mem_cons, not_or] at h
    rw [List.cons_append, atM, if_neg h.1]; exact atM_app h.2
theorem atM_other {s t : ByteArray} {n : Int} {k : Nat} (ht : t ≠ s) : ∀ {l r : List Ent}, atM (l ++ ((s, n), k) :: r) t = atM (l ++ r) t
  | [], r => by simp [atM, ht]
  | x :: l, r => by
    simp only [List.cons_append, atM]
    rw [atM_other ht]
theorem findNow_none {s : ByteArray} : ∀ {l : List Ent} (i : Nat), s ∉ keysM l → Instr.findNow .string (.string s) (l.map enM) i = some none
  | [], i, _ => rfl
  | x :: r, i, h => by
    simp only [keysM, List.map_cons, List.mem_cons, not_or] at h
    simp only [List.map_cons, Instr.findNow, enM, Instr.sameNow]
    rw [beqB_ne.2 h.1]
    exact findNow_none (i + 1) h.2
theorem findNow_app {s : ByteArray} {n : Int} {k : Nat} : ∀ {l r : List Ent} (i : Nat), s ∉ keysM l → Instr.findNow .string (.string s) ((l ++ ((s, n), k) :: r).map enM) i = some (some (i + l.length, .int .i64 n))
  | [], r, i, _ => by
    simp only [List.nil_append, List.map_cons, Instr.findNow, enM, Instr.sameNow]
    rw [beqB.2 rfl]; rfl
  | x :: l, r, i, h => by
    simp only [keysM, List.map_cons, List.mem_cons, not_or] at h
    simp only [List.cons_append, List.map_cons, Instr.findNow, enM, Instr.sameNow]
    rw [beqB_ne.2 h.1]
    have := findNow_app (s := s) (n := n) (k := k) (l := l) (r := r) (i + 1) h.2
    refine (show _ = Instr.findNow .string (.string s) ((l ++ ((s, n), k) :: r).map enM) (i + 1) from rfl).trans (this.trans ?_)
    simp only [List.length_cons]
    congr 3; omega
theorem splitM {s : ByteArray} : ∀ {l : List Ent}, s ∈ keysM l → ∃ l1 n k l2, l = l1 ++ ((s, n), k) :: l2 ∧ s ∉ keysM l1
  | x :: r, h => by
    by_cases e : s = x.1.1
    · obtain ⟨⟨a, n⟩, k⟩ := x
      simp only at e; subst e
      exact ⟨[], n, k, r, rfl, by simp [keysM]⟩
    · have h' : s ∈ keysM r := by
        simp only [keysM, List.map_cons, List.mem_cons] at h
        exact h.resolve_left e
      obtain ⟨l1, n, k, l2, rfl, h2⟩ := splitM h'
      exact ⟨x :: l1, n, k, l2, rfl, by simp only [keysM, List.map_cons, List.mem_cons, not_or]; exact ⟨e, h2⟩⟩
section
variable {P : Program} {w : World} {t k e : TypeId}
theorem run_checkKey (hk : P.underlying k = some .string) (b : Bool) (s : ByteArray) : (Instr.checkKey b 10000 k (.string s)).run P w = .ok () w := by
  rw [show (10000 : Nat) = 9999 + 1 from rfl, Instr.checkKey, Sem.run_bind, run_under hk]
  rfl
theorem run_findKey (hk : P.underlying k = some .string) {s : ByteArray} {es : List MapEntry} {r : Option (Nat × Value)} (h : Instr.findNow .string (.string s) es 0 = some r) : (Instr.findKey k (.string s) es).run P w = .ok r w := by
  unfold Instr.findKey
  rw [Sem.run_bind, run_under hk]
  simp only [Result.andThen_ok, h]
  rfl
theorem run_getMap {g : Nat} {es : Array MapEntry} {c : Nat} (h : w.heap[g]? = some (.map es c)) : (getObj g).run P w = .ok (.map es c) w := by
  simp [getObj, Sem.run, h]
theorem run_setMap {g : Nat} {es : Array MapEntry} {c : Nat} (o : Obj) (h : w.heap[g]? = some (.map es c)) : (setObj g o).run P w = .ok () { w with heap := w.heap.set! g o } := by
  simp [setObj, Sem.run, h]
end
end Go.Vx
