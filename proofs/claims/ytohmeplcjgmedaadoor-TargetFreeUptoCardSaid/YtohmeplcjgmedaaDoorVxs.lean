/- Cells, one behind the other. -/
import Derived.Test.YtohmeplcjgmedaaDoorVxr
namespace Go.Vx
open Go.RowKit Go.Vc
theorem RepC.app {S : Nat → Prop} {w : World} : ∀ {l m : List D} {A : Option Addr} {j : Nat}, RepC S w l A j → RepC S w m A (j + l.length) → RepC S w (l ++ m) A j
  | [], m, A, j, _, h => by simpa using h
  | x :: r, m, A, j, h, h' => by
    simp only [List.cons_append, RepC] at h ⊢
    exact ⟨h.1, RepC.app h.2 (by rwa [show j + 1 + r.length = j + (x :: r).length from by simp; omega])⟩
/-- The blocks of a world. -/
def InW (w : World) (k : Nat) : Prop := k < w.heap.size
theorem RepDs.cellsW {w : World} {l : List D} {vs : List Value} {a : Addr} {j : Nat} (h : RepDs (InW w) w l vs) (hc : ∀ (i : Nat) v, vs[i]? = some v → w.cell? (a.add (j + i)) = some v) : RepC (InW w) w l (some a) j :=
  RepC.of h fun i v hv => ⟨a, rfl, by have := World.block_lt_of_cell? w _ (hc i v hv); rwa [add_block] at this, hc i v hv⟩
end Go.Vx
