/- What the rows' readings say of arguments: lists of items, of operations. -/
import Derived.Test.YtohhchcjfebkhaaJn
import Derived.Test.YtohhchcjfebkhaaRows
import Derived.Test.YtohhchcjfebkhaaVxs
import Derived.WalkKit
import Derived.ProofKit
import Derived.OpenShut
import Derived.JoinedCond
import Derived.Carry
set_option linter.unusedVariables false
set_option linter.unusedSimpArgs false
namespace Go.Proofs.Ytohhchcjfebkhaa
open Go.Vx Go.Vc Go.RowKit

/-- An operation of the law's. -/
structure OpT where
  k : Int
  r : Int
  n : ByteArray
  l : List It
def encOp (o : OpT) : List D := [.int .i64 o.k, .int .i64 o.r, .str o.n, dQ o.l]
theorem encOp_len (o : OpT) : (encOp o).length = 4 := rfl
abbrev encOps (l : List OpT) : List D := fl encOp l
abbrev dOps (l : List OpT) : D := slD 56 l.length (encOps l)

theorem cells35 : Try.prog.cellsOf 35 = 2 := by kernel_rfl
theorem cells49 : Try.prog.cellsOf 49 = 4 := by kernel_rfl
theorem cells3 : Try.prog.cellsOf 3 = 1 := by kernel_rfl
theorem cells9 : Try.prog.cellsOf 9 = 1 := by kernel_rfl
theorem cells22 : Try.prog.cellsOf 22 = 1 := by kernel_rfl

section
variable {H : Type} {enc : TypeId × Value → H} {W : World} {sp : Nat → Bool}

theorem bulk_one (d : DataW H) : 1 ≤ Rows.uptoBulk d := by
  cases d with
  | lit l => cases l <;> simp [Rows.uptoBulk]
  | nil => simp [Rows.uptoBulk]
  | ptr d => simp [Rows.uptoBulk]
  | slice elems spare => simp [Rows.uptoBulk]
  | agg parts => simp [Rows.uptoBulk]
  | iface t d => simp [Rows.uptoBulk]
  | map entries => simp [Rows.uptoBulk]
  | held h => simp [Rows.uptoBulk]
def muL {α : Type} (μ : α → Nat) : List α → Nat
  | [] => 0
  | x :: r => μ x + muL μ r
theorem elems_G {α : Type} {f : α → List D} {w t n : Nat} (hf : ∀ x, (f x).length = w) (hcl : Try.prog.cellsOf t = w) (μ : α → Nat)
    (ih : ∀ (cs : List Value) (x : DataW H × List MemPlace), DataW.trod enc Try.prog W 0 sp true n t cs = some x → Rows.uptoBulk x.1 ≤ 1048576 → ∃ y, RepDs (InW W) W (f y) cs ∧ μ y ≤ Rows.uptoBulk x.1)
    {a : Addr} {len : Nat} {elems : List (DataW H × List MemPlace)} (hlen : elems.length = len)
    (hel : ∀ i, i < len → (W.cells? 0 (a.add (i * Try.prog.cellsOf t)) (Try.prog.cellsOf t)).bind (DataW.trod enc Try.prog W 0 sp true n t) = elems[i]?) :
    ∀ (m j : Nat), j + m = len → Rows.uptoBulkAll ((elems.drop j).map (·.1)) ≤ 1048576 → ∃ ys : List α, ys.length = m ∧ RepC (InW W) W (fl f ys) (some a) (j * w) ∧ muL μ ys ≤ Rows.uptoBulkAll ((elems.drop j).map (·.1))
  | 0, j, _, _ => ⟨[], rfl, by simp only [fl, RepC], by simp [muL]⟩
  | m + 1, j, hj, hb => by
    have hjl : j < elems.length := by omega
    rw [List.drop_eq_getElem_cons hjl, List.map_cons, Rows.uptoBulkAll] at hb ⊢
    obtain ⟨ys, h1, h2, h3⟩ := elems_G hf hcl μ ih hlen hel m (j + 1) (by omega) (by omega)
    have h4 := hel j (by omega)
    rw [List.getElem?_eq_getElem hjl, hcl] at h4
    obtain ⟨cs, h5, h6⟩ := Option.bind_eq_some_iff.1 h4
    obtain ⟨y, k2, k3⟩ := ih cs _ h6 (by omega)
    obtain ⟨_, _, q⟩ := World.cells?_some h5
    have hlc : cs.length = w := by rw [k2.len]; exact hf y
    have hc : ∀ (i : Nat) v, cs[i]? = some v → W.cell? (a.add (j * w + i)) = some v := by
      intro i v hv
      have hi := (List.getElem?_eq_some_iff.1 hv).1
      have q := q i (by omega)
      rw [Go.Vc.add_add] at q
      rw [q, hv]
    refine ⟨y :: ys, by simp [h1], ?_, by simp only [muL]; omega⟩
    show RepC (InW W) W (f y ++ fl f ys) (some a) (j * w)
    refine RepC.app (RepDs.cellsW k2 hc) ?_
    rw [hf y, show j * w + w = (j + 1) * w from by rw [Nat.succ_mul]]
    exact h2
theorem two_of {α : Type} : ∀ {l : List α}, l.length = 2 → ∃ a b, l = [a, b]
  | [a, b], _ => ⟨a, b, rfl⟩
theorem four_of {α : Type} : ∀ {l : List α}, l.length = 4 → ∃ a b c d, l = [a, b, c, d]
  | [a, b, c, d], _ => ⟨a, b, c, d, rfl⟩
theorem open_It {fuel : Nat} {cs : List Value} {x : DataW H × List MemPlace} (h : DataW.trod enc Try.prog W 0 sp true fuel 35 cs = some x) : ∃ y : It, RepDs (InW W) W (encIt y) cs ∧ 1 ≤ Rows.uptoBulk x.1 := by
  obtain ⟨xs, n, rfl, rfl, hl, hxl, hf⟩ := DataW.trod_struct Try.underlying35 h
  rw [cells35] at hl
  have hxl : xs.length = 2 := hxl.trans (by kernel_rfl)
  obtain ⟨y0, y1, rfl⟩ := two_of hxl
  obtain ⟨v0, v1, rfl⟩ := two_of hl
  have f0 : DataW.trod enc Try.prog W 0 sp true n 3 (List.take (Try.prog.cellsOf 3) [v0, v1]) = some y0 := hf 0 _ rfl
  have f1 : DataW.trod enc Try.prog W 0 sp true n 9 (List.take (Try.prog.cellsOf 9) [v1]) = some y1 := hf 1 _ rfl
  rw [cells3] at f0
  rw [cells9] at f1
  obtain ⟨k, hk, e0, _⟩ := DataW.trod_int Try.underlying3 f0
  obtain ⟨s, hs, e1, _⟩ := DataW.trod_string Try.underlying9 f1
  simp at hk hs
  subst hk; subst hs
  refine ⟨(k, s), ?_, by simp [Rows.uptoBulk]⟩
  simp only [encIt, RepDs, RepD]
  exact ⟨_, _, rfl, rfl, _, _, rfl, rfl, rfl⟩
theorem dnil {eb : Nat} {cs : List D} (h : cs = []) : RepD (InW W) W (slD eb 0 cs) (.slice none 0 0) := by
  subst h
  simp only [slD, ebn, RepD]
  exact ⟨none, 0, rfl, Nat.le_refl _, by simp, by simp, by simp only [RepC]⟩
theorem ebn_le (eb n : Nat) : ebn eb n ≤ eb := by unfold ebn; split <;> omega
theorem muL_one {α : Type} : ∀ l : List α, muL (fun _ => 1) l = l.length
  | [] => rfl
  | x :: r => by simp only [muL, muL_one r, List.length_cons]; omega
/-- A slice of items. -/
theorem open_Q {fuel : Nat} {A : Option Addr} {n c : Nat} {x : DataW H × List MemPlace} (h : DataW.trod enc Try.prog W 0 sp true fuel 22 [.slice A n c] = some x) (hb : Rows.uptoBulk x.1 ≤ 1048576) :
    ∃ l : List It, RepD (InW W) W (dQ l) (.slice A n c) ∧ l.length ≤ Rows.uptoBulk x.1 := by
  rcases DataW.trod_slice Try.underlying22 h with ⟨hs, e2⟩ | ⟨a, len, cap, elems, rest, m, rfl, hs, e2, _, hle, hcap, hlen, hel, _⟩
  · injection hs with hs _
    injection hs with h1 h2 h3
    subst h1; subst h2; subst h3
    exact ⟨[], dnil rfl, by simp⟩
  · injection hs with hs _
    injection hs with h1 h2 h3
    subst h1; subst h2; subst h3
    subst e2
    simp only [Rows.uptoBulk] at hb ⊢
    obtain ⟨l, h1, h2, h3⟩ := elems_G encIt_len cells35 (fun _ => 1) (fun cs x hx hb => open_It hx) hlen hel n 0 (by omega) (by simp; omega)
    simp only [List.drop_zero, muL_one] at h3
    refine ⟨l, ?_, by omega⟩
    subst h1
    simp only [dQ, slD, RepD]
    refine ⟨some a, c, rfl, hle, ?_, fun _ => ⟨a, rfl⟩, by simpa [encQ] using h2⟩
    have := Nat.mul_le_mul_left l.length (ebn_le 24 l.length)
    simp only [LB]; omega
def opMu (o : OpT) : Nat := 1 + o.l.length
theorem open_Op {fuel : Nat} {cs : List Value} {x : DataW H × List MemPlace} (h : DataW.trod enc Try.prog W 0 sp true fuel 49 cs = some x) (hb : Rows.uptoBulk x.1 ≤ 1048576) : ∃ y : OpT, RepDs (InW W) W (encOp y) cs ∧ opMu y ≤ Rows.uptoBulk x.1 := by
  obtain ⟨xs, n, rfl, rfl, hl, hxl, hf⟩ := DataW.trod_struct Try.underlying49 h
  rw [cells49] at hl
  have hxl : xs.length = 4 := hxl.trans (by kernel_rfl)
  obtain ⟨y0, y1, y2, y3, rfl⟩ := four_of hxl
  obtain ⟨v0, v1, v2, v3, rfl⟩ := four_of hl
  have f0 : DataW.trod enc Try.prog W 0 sp true n 3 (List.take (Try.prog.cellsOf 3) [v0, v1, v2, v3]) = some y0 := hf 0 _ rfl
  have f1 : DataW.trod enc Try.prog W 0 sp true n 3 (List.take (Try.prog.cellsOf 3) [v1, v2, v3]) = some y1 := hf 1 _ rfl
  have f2 : DataW.trod enc Try.prog W 0 sp true n 9 (List.take (Try.prog.cellsOf 9) [v2, v3]) = some y2 := hf 2 _ rfl
  have f3 : DataW.trod enc Try.prog W 0 sp true n 22 (List.take (Try.prog.cellsOf 22) [v3]) = some y3 := hf 3 _ rfl
  rw [cells3] at f0 f1
  rw [cells9] at f2
  rw [cells22] at f3
  obtain ⟨k, hk, e0, _⟩ := DataW.trod_int Try.underlying3 f0
  obtain ⟨r, hr, e1, _⟩ := DataW.trod_int Try.underlying3 f1
  obtain ⟨s, hs, e2, _⟩ := DataW.trod_string Try.underlying9 f2
  simp at hk hr hs
  subst hk; subst hr; subst hs
  simp only [List.map_cons, List.map_nil, Rows.uptoBulk, Rows.uptoBulkAll] at hb ⊢
  have hsl : ∃ A n c, v3 = .slice A n c := by
    rcases DataW.trod_slice Try.underlying22 f3 with ⟨hs, _⟩ | ⟨a, len, cap, elems, rest, m, _, hs, _⟩
    · simp at hs; exact ⟨_, _, _, hs⟩
    · simp at hs; exact ⟨_, _, _, hs⟩
  obtain ⟨A, n', c, rfl⟩ := hsl
  obtain ⟨l, h1, h2⟩ := open_Q f3 (by omega)
  refine ⟨⟨k, r, s, l⟩, ?_, by simp only [opMu]; omega⟩
  simp only [encOp, RepDs.eq_2, RepDs.eq_1]
  refine ⟨_, _, rfl, by simp only [RepD], _, _, rfl, by simp only [RepD], _, _, rfl, by simp only [RepD], _, _, rfl, h1, rfl⟩
/-- A slice of operations. -/
theorem open_O {fuel : Nat} {A : Option Addr} {n c : Nat} {x : DataW H × List MemPlace} (h : DataW.trod enc Try.prog W 0 sp true fuel 44 [.slice A n c] = some x) (hb : Rows.uptoBulk x.1 ≤ 1048576) :
    ∃ l : List OpT, RepD (InW W) W (dOps l) (.slice A n c) ∧ muL opMu l ≤ Rows.uptoBulk x.1 := by
  rcases DataW.trod_slice Try.underlying44 h with ⟨hs, e2⟩ | ⟨a, len, cap, elems, rest, m, rfl, hs, e2, _, hle, hcap, hlen, hel, _⟩
  · injection hs with hs _
    injection hs with h1 h2 h3
    subst h1; subst h2; subst h3
    exact ⟨[], dnil rfl, by simp [muL]⟩
  · injection hs with hs _
    injection hs with h1 h2 h3
    subst h1; subst h2; subst h3
    subst e2
    simp only [Rows.uptoBulk] at hb ⊢
    obtain ⟨l, h1, h2, h3⟩ := elems_G encOp_len cells49 opMu (fun cs x hx hb => open_Op hx hb) hlen hel n 0 (by omega) (by simp; omega)
    simp only [List.drop_zero] at h3
    have hle2 : l.length ≤ muL opMu l := by
      clear h2 h1
      induction l with
      | nil => simp
      | cons x r ih => simp only [muL, opMu, List.length_cons] at *; omega
    refine ⟨l, ?_, by omega⟩
    subst h1
    simp only [dOps, slD, RepD]
    refine ⟨some a, c, rfl, hle, ?_, fun _ => ⟨a, rfl⟩, by simpa using h2⟩
    have := Nat.mul_le_mul_left l.length (ebn_le 56 l.length)
    simp only [LB]; omega
end
end Go.Proofs.Ytohhchcjfebkhaa
