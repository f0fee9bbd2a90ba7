/- Texts of mine, joined: Vxu Vxv Vxw. -/
import Derived.Test.YtcjkikadolnfgaaGreatPak
import Derived.Laws.StructEq
/- Laws: maps from strings to ints. -/
namespace Go.Vx
open Go.RowKit Go.Vc
set_option linter.unusedVariables false
set_option linter.unusedSimpArgs false
theorem toList_inj {a b : ByteArray} (h : a.toList = b.toList) : a = b := by
  rw [ByteArray.toList_eq, ByteArray.toList_eq] at h
  apply ByteArray.ext; apply Array.ext'; exact h
abbrev Ent := (ByteArray × Int) × Nat
def enM (x : Ent) : MapEntry := { key := .string x.1.1, val := .int .i64 x.1.2, born := x.2 }
def keysM (l : List Ent) : List ByteArray := l.map (·.1.1)
def atM : List Ent → ByteArray → Option Int
  | [], _ => none
  | x :: r, s => if s = x.1.1 then some x.1.2 else atM r s
def MapIs (mp : ByteArray → Option Int) (v : Value) (o : Obj) : Prop :=
  ∃ g l clock, v = .map (some g) ∧ o = .map (l.map enM).toArray clock ∧ (keysM l).Nodup ∧ ∀ s, atM l s = mp s
def updM (mp : ByteArray → Option Int) (s : ByteArray) (n : Int) : ByteArray → Option Int := fun t => if t = s then some n else mp t
def delM (mp : ByteArray → Option Int) (s : ByteArray) : ByteArray → Option Int := fun t => if t = s then none else mp t
section
variable {P : Program} {w : World} {t k e : TypeId}
end
end Go.Vx


/- Laws of operations: maps, assertions of types, slices cut, structs compared. -/
namespace Go.Vx
open Go.RowKit Go.Vc
set_option linter.unusedVariables false
set_option linter.unusedSimpArgs false
section
variable {P : Program} {w : World} {t k e : TypeId}
structure MapTy (P : Program) (t k e : TypeId) : Prop where
  t : P.underlying t = some (.map k e)
  k : P.underlying k = some .string
  z : ∀ w, (zeroValue e).run P w = .ok (.int .i64 0) w
end
end Go.Vx


/- Laws of operations: maps, assertions of types, slices cut, structs and pointers compared. -/
namespace Go.Vx
open Go.RowKit Go.Vc
set_option linter.unusedVariables false
set_option linter.unusedSimpArgs false
section
variable {P : Program} {G : Glob} {ty : List (Nat × TY)} {N n0 : Nat} {b : Bs G n0}
end
end Go.Vx


