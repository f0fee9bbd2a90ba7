/- Texts of mine, joined: Fa Gf. -/
import Derived.Test.YtmjjajhkokdikaaGreatPaq
import Derived.Test.YtmjjajhkokdikaaGreatRows
import Derived.WalkKit
import Derived.ProofKit
import Derived.OpenShut
import Derived.JoinedCond
import Derived.Carry
/- What the rows' readings say of arguments (texts Hu, Hv, joined; schemes). -/
set_option linter.unusedVariables false
set_option linter.unusedSimpArgs false
/- What the rows' readings say of arguments in memory. -/
namespace Go.Proofs.YtmjjajhkokdikaaGreat
open Go.Vx Go.Vc Go.RowKit

theorem cellsT : Tryz.prog.cellsOf 24 = 3 := by kernel_rfl
theorem cellsI : Tryz.prog.cellsOf 3 = 1 := by kernel_rfl
theorem cellsL : Tryz.prog.cellsOf 22 = 1 := by kernel_rfl

section
variable {H : Type} {enc : TypeId × Value → H} {W : World} {sp : Nat → Bool}

theorem bulk_one (d : DataW H) : 1 ≤ Rows.uptoBulk d := by
  cases d with
  | lit l => cases l <;> simp [Rows.uptoBulk]
  | nil => simp [Rows.uptoBulk]
  | ptr d => simp [Rows.uptoBulk]
  | slice elems spare => simp [Rows.uptoBulk]
  | agg parts => simp [Rows.uptoBulk]
  | iface t d => simp [Rows.uptoBulk]
  | map entries => simp [Rows.uptoBulk]
  | held h => simp [Rows.uptoBulk]
/-- A type's value reads as t. -/
def ReadsT (W : World) (cs : List Value) (d : DataW H) : Prop := ∃ t : Tp, RepDs (InW W) W (encT t) cs ∧ szT t ≤ Rows.uptoBulk d
theorem elems_T {n : Nat} (ih : ∀ (cs : List Value) (x : DataW H × List MemPlace), DataW.trod enc Tryz.prog W 0 sp true n 24 cs = some x → Rows.uptoBulk x.1 ≤ 1048576 → ReadsT W cs x.1)
    {a : Addr} {len : Nat} {elems : List (DataW H × List MemPlace)} (hlen : elems.length = len)
    (hel : ∀ i, i < len → (W.cells? 0 (a.add (i * Tryz.prog.cellsOf 24)) (Tryz.prog.cellsOf 24)).bind (DataW.trod enc Tryz.prog W 0 sp true n 24) = elems[i]?) :
    ∀ (m j : Nat), j + m = len → Rows.uptoBulkAll ((elems.drop j).map (·.1)) ≤ 1048576 → ∃ ts : List Tp, ts.length = m ∧ RepC (InW W) W (encK ts) (some a) (j * 3) ∧ szL ts ≤ Rows.uptoBulkAll ((elems.drop j).map (·.1))
  | 0, j, _, _ => ⟨[], rfl, by simp only [encK, RepC], by simp [szL]⟩
  | m + 1, j, hj, hb => by
    have hjl : j < elems.length := by omega
    rw [List.drop_eq_getElem_cons hjl, List.map_cons, Rows.uptoBulkAll] at hb ⊢
    obtain ⟨ts, h1, h2, h3⟩ := elems_T ih hlen hel m (j + 1) (by omega) (by omega)
    have h4 := hel j (by omega)
    rw [List.getElem?_eq_getElem hjl, cellsT] at h4
    obtain ⟨cs, h5, h6⟩ := Option.bind_eq_some_iff.1 h4
    obtain ⟨t, k2, k3⟩ := ih cs _ h6 (by omega)
    obtain ⟨_, _, q⟩ := World.cells?_some h5
    have hlc : cs.length = 3 := k2.len
    have hc : ∀ (i : Nat) v, cs[i]? = some v → W.cell? (a.add (j * 3 + i)) = some v := by
      intro i v hv
      have hi := (List.getElem?_eq_some_iff.1 hv).1
      have q := q i (by omega)
      rw [Go.Vc.add_add] at q
      rw [q, hv]
    refine ⟨t :: ts, by simp [h1], ?_, by simp only [szL]; omega⟩
    simp only [encK, encT0_eq]
    refine RepC.app (RepDs.cellsW k2 hc) ?_
    rw [encT_len, show j * 3 + 3 = (j + 1) * 3 from by omega]
    exact h2

set_option maxRecDepth 20000 in
theorem open_T : ∀ (fuel : Nat) (cs : List Value) (x : DataW H × List MemPlace), DataW.trod enc Tryz.prog W 0 sp true fuel 24 cs = some x → Rows.uptoBulk x.1 ≤ 1048576 → ReadsT W cs x.1 := by
  intro fuel
  induction fuel using Nat.strongRecOn with
  | _ fuel ih =>
    intro cs x h hb
    obtain ⟨xs, n, rfl, rfl, hl, hxl, hf⟩ := DataW.trod_struct Tryz.underlying24 h
    rw [cellsT] at hl
    have f0 := hf 0 _ rfl
    have f1 := hf 1 _ rfl
    have f2 := hf 2 _ rfl
    match xs, hxl with
    | [y0, y1, y2], _ =>
      match cs, hl with
      | [v0, v1, v2], _ =>
        have f0 : DataW.trod enc Tryz.prog W 0 sp true n 3 (List.take (Tryz.prog.cellsOf 3) [v0, v1, v2]) = some y0 := f0
        have f1 : DataW.trod enc Tryz.prog W 0 sp true n 3 (List.take (Tryz.prog.cellsOf 3) [v1, v2]) = some y1 := f1
        have f2 : DataW.trod enc Tryz.prog W 0 sp true n 22 (List.take (Tryz.prog.cellsOf 22) [v2]) = some y2 := f2
        rw [cellsI] at f0 f1
        obtain ⟨k, hk, e0, _⟩ := DataW.trod_int Tryz.underlying3 f0
        obtain ⟨nn, hn, e1, _⟩ := DataW.trod_int Tryz.underlying3 f1
        simp at hk hn
        subst hk; subst hn
        simp only [List.map_cons, List.map_nil, Rows.uptoBulk, Rows.uptoBulkAll] at hb ⊢
        rcases DataW.trod_slice Tryz.underlying22 f2 with ⟨hs, e2⟩ | ⟨a, len, cap, elems, rest, m, rfl, hs, e2, _, hle, hcap, hlen, hel, _⟩
        · have hs : [v2] = [.slice none 0 0] := hs
          injection hs with hs _
          subst hs
          refine ⟨.mk k nn [], ?_, ?_⟩
          · simp only [encT, mk_k, mk_n, mk_kids, RepDs, RepD, slD, ebn, encK, List.length_nil]
            exact ⟨_, _, rfl, rfl, _, _, rfl, rfl, _, _, rfl, ⟨none, 0, rfl, Nat.le_refl _, by simp, by simp, by simp only [RepC]⟩, rfl⟩
          · have := bulk_one y0.1
            simp only [szT, szL, Rows.uptoBulk, Rows.uptoBulkAll]
            omega
        · have hs : [v2] = [.slice (some a) len cap] := hs
          injection hs with hs _
          subst hs
          have e2' : y2.1 = .slice (elems.map (·.1)) (rest.map (·.1)) := congrArg Prod.fst e2
          rw [e2'] at hb ⊢
          simp only [Rows.uptoBulk] at hb
          obtain ⟨ts, h1, h2, h3⟩ := elems_T (fun cs x hx hb => ih m (by omega) cs x hx hb) hlen hel len 0 (by omega) (by simp; omega)
          simp only [List.drop_zero] at h3
          subst h1
          have hsl := szL_len ts
          refine ⟨.mk k nn ts, ?_, ?_⟩
          · simp only [encT, mk_k, mk_n, mk_kids, RepDs, RepD, slD]
            refine ⟨_, _, rfl, rfl, _, _, rfl, rfl, _, _, rfl, ⟨some a, cap, rfl, hle, ?_, fun _ => ⟨a, rfl⟩, by simpa using h2⟩, rfl⟩
            have : ebn 40 ts.length ≤ 40 := by unfold ebn; split <;> omega
            have := Nat.mul_le_mul_left ts.length this
            simp only [LB]; omega
          · have := bulk_one y0.1
            simp only [szT, szL, Rows.uptoBulk, Rows.uptoBulkAll]
            omega
end
end Go.Proofs.YtmjjajhkokdikaaGreat

/- What the rows' readings say of slices. -/
namespace Go.Proofs.YtmjjajhkokdikaaGreat
open Go.Vx Go.Vc Go.RowKit
section
variable {H : Type} {enc : TypeId × Value → H} {W : World} {sp : Nat → Bool}
theorem dnil {eb : Nat} {cs : List D} (h : cs = []) : RepD (InW W) W (slD eb 0 cs) (.slice none 0 0) := by
  subst h
  simp only [slD, ebn, RepD]
  exact ⟨none, 0, rfl, Nat.le_refl _, by simp, by simp, by simp only [RepC]⟩
theorem ebn_le (eb n : Nat) : ebn eb n ≤ eb := by unfold ebn; split <;> omega
/-- A slice of types. -/
theorem open_L {fuel : Nat} {A : Option Addr} {n c : Nat} {x : DataW H × List MemPlace} (h : DataW.trod enc Tryz.prog W 0 sp true fuel 22 [.slice A n c] = some x) (hb : Rows.uptoBulk x.1 ≤ 1048576) :
    ∃ ts : List Tp, RepD (InW W) W (dK ts) (.slice A n c) ∧ szL ts ≤ Rows.uptoBulk x.1 := by
  rcases DataW.trod_slice Tryz.underlying22 h with ⟨hs, e2⟩ | ⟨a, len, cap, elems, rest, m, rfl, hs, e2, _, hle, hcap, hlen, hel, _⟩
  · injection hs with hs _
    injection hs with h1 h2 h3
    subst h1; subst h2; subst h3
    exact ⟨[], dnil rfl, by simp [szL]⟩
  · injection hs with hs _
    injection hs with h1 h2 h3
    subst h1; subst h2; subst h3
    subst e2
    simp only [Rows.uptoBulk] at hb ⊢
    obtain ⟨ts, h1, h2, h3⟩ := elems_T (fun cs x hx hb => open_T m cs x hx hb) hlen hel n 0 (by omega) (by simp; omega)
    simp only [List.drop_zero] at h3
    have hsl := szL_len ts
    refine ⟨ts, ?_, by omega⟩
    subst h1
    simp only [slD, RepD]
    refine ⟨some a, c, rfl, hle, ?_, fun _ => ⟨a, rfl⟩, by simpa using h2⟩
    have := Nat.mul_le_mul_left ts.length (ebn_le 40 ts.length)
    simp only [LB]; omega
/-- A slice of numbers. -/
theorem open_I {fuel : Nat} {A : Option Addr} {n c : Nat} {x : DataW H × List MemPlace} (h : DataW.trod enc Tryz.prog W 0 sp true fuel 57 [.slice A n c] = some x) (hb : Rows.uptoBulk x.1 ≤ 1048576) :
    ∃ l : List Int, RepD (InW W) W (dI l) (.slice A n c) ∧ l.length ≤ Rows.uptoBulk x.1 := by
  rcases DataW.trod_slice Tryz.underlying57 h with ⟨hs, e2⟩ | ⟨a, len, cap, elems, rest, m, rfl, hs, e2, _, hle, hcap, hlen, hel, _⟩
  · injection hs with hs _
    injection hs with h1 h2 h3
    subst h1; subst h2; subst h3
    exact ⟨[], dnil rfl, by simp⟩
  · injection hs with hs _
    injection hs with h1 h2 h3
    subst h1; subst h2; subst h3
    subst e2
    have key : ∀ m j : Nat, j + m = n → ∃ l : List Int, l.length = m ∧ RepC (InW W) W (Vx.encI l) (some a) j ∧ m ≤ Rows.uptoBulkAll ((elems.drop j).map (·.1)) := by
      intro m
      induction m with
      | zero => exact fun j _ => ⟨[], rfl, by simp only [Vx.encI, List.map_nil, RepC], Nat.zero_le _⟩
      | succ m ihm =>
        intro j hj
        have hjl : j < elems.length := by omega
        obtain ⟨l, h1, h2, h3⟩ := ihm (j + 1) (by omega)
        have h4 := hel j (by omega)
        rw [List.getElem?_eq_getElem hjl, cellsI] at h4
        obtain ⟨cs, h5, h6⟩ := Option.bind_eq_some_iff.1 h4
        obtain ⟨k, rfl, _, _⟩ := DataW.trod_int Tryz.underlying3 h6
        obtain ⟨_, _, q⟩ := World.cells?_some h5
        have q0 := q 0 (by omega)
        rw [Go.Vc.add_add] at q0
        simp only [Nat.mul_one, Nat.add_zero, List.getElem?_cons_zero] at q0
        refine ⟨k :: l, by simp [h1], ?_, ?_⟩
        · simp only [Vx.encI, List.map_cons, RepC] at h2 ⊢
          exact ⟨⟨a, _, rfl, by have := World.block_lt_of_cell? W _ q0; rwa [add_block] at this, q0, by simp only [RepD]⟩, h2⟩
        · rw [List.drop_eq_getElem_cons hjl, List.map_cons, Rows.uptoBulkAll]
          have := bulk_one elems[j].1
          omega
    obtain ⟨l, h1, h2, h3⟩ := key n 0 (by omega)
    simp only [List.drop_zero] at h3
    simp only [Rows.uptoBulk] at hb ⊢
    refine ⟨l, ?_, by omega⟩
    subst h1
    simp only [slD, RepD]
    refine ⟨some a, c, rfl, hle, ?_, fun _ => ⟨a, rfl⟩, h2⟩
    have := Nat.mul_le_mul_left l.length (ebn_le 8 l.length)
    simp only [LB]; omega
end
end Go.Proofs.YtmjjajhkokdikaaGreat

namespace Go.Proofs.YtmjjajhkokdikaaGreat
open Go.Vx Go.Vc Go.RowKit
theorem cellsS : Tryz.prog.cellsOf 26 = 4 := by kernel_rfl
section
variable {H : Type} {enc : TypeId × Value → H} {W : World} {sp : Nat → Bool}
set_option maxRecDepth 20000 in
/-- A scheme. -/
theorem open_S {fuel : Nat} {cs : List Value} {x : DataW H × List MemPlace} (h : DataW.trod enc Tryz.prog W 0 sp true fuel 26 cs = some x) (hb : Rows.uptoBulk x.1 ≤ 1048576) :
    ∃ s : Sc, RepDs (InW W) W (.int .i64 s.g :: encT s.t) cs ∧ szT s.t ≤ Rows.uptoBulk x.1 := by
  obtain ⟨xs, n, rfl, rfl, hl, hxl, hf⟩ := DataW.trod_struct Tryz.underlying26 h
  rw [cellsS] at hl
  have f0 := hf 0 _ rfl
  have f1 := hf 1 _ rfl
  match xs, hxl with
  | [y0, y1], _ =>
    match cs, hl with
    | [v0, v1, v2, v3], _ =>
      have f0 : DataW.trod enc Tryz.prog W 0 sp true n 3 (List.take (Tryz.prog.cellsOf 3) [v0, v1, v2, v3]) = some y0 := f0
      have f1 : DataW.trod enc Tryz.prog W 0 sp true n 24 (List.take (Tryz.prog.cellsOf 24) [v1, v2, v3]) = some y1 := f1
      rw [cellsI] at f0
      rw [cellsT] at f1
      obtain ⟨k, hk, e0, _⟩ := DataW.trod_int Tryz.underlying3 f0
      simp at hk
      subst hk
      simp only [List.map_cons, List.map_nil, Rows.uptoBulk, Rows.uptoBulkAll] at hb ⊢
      obtain ⟨t, e1, k2⟩ := open_T n _ y1 f1 (by omega)
      refine ⟨⟨k, t⟩, ?_, by simp only; omega⟩
      simp only [RepDs]
      exact ⟨_, _, rfl, by simp only [RepD], e1⟩
end
end Go.Proofs.YtmjjajhkokdikaaGreat

/- Readings of slices, for any kind of element; constructors. -/
set_option linter.unusedSimpArgs false
set_option linter.unusedVariables false
namespace Go.Proofs.YtmjjajhkokdikaaGreat
open Go.Vx Go.Vc Go.RowKit
section
variable {H : Type} {enc : TypeId × Value → H} {W : World} {sp : Nat → Bool}
/-- The sizes' sum. -/
def szs {α : Type} (sz : α → Nat) (l : List α) : Nat := (l.map sz).sum
theorem szs_cons {α : Type} (sz : α → Nat) (x : α) (l : List α) : szs sz (x :: l) = sz x + szs sz l := by simp [szs]
theorem szs_mem {α : Type} {sz : α → Nat} : ∀ {l : List α} {x : α}, x ∈ l → sz x ≤ szs sz l
  | y :: r, x, h => by
    rw [szs_cons]
    rcases List.mem_cons.1 h with rfl | h
    · omega
    · have := szs_mem (sz := sz) h; omega
/-- What is asked of a reading of one kind of elements. -/
def ReadG (enc : TypeId × Value → H) (W : World) (sp : Nat → Bool) (n : Nat) (T : TypeId) {α : Type} (f : α → List D) (sz : α → Nat) : Prop :=
  ∀ (cs : List Value) (x : DataW H × List MemPlace), DataW.trod enc Tryz.prog W 0 sp true n T cs = some x → Rows.uptoBulk x.1 ≤ 1048576 → ∃ t : α, RepDs (InW W) W (f t) cs ∧ sz t ≤ Rows.uptoBulk x.1
theorem elems_gen {α : Type} {f : α → List D} {sz : α → Nat} {w : Nat} {T : TypeId} (hw : Tryz.prog.cellsOf T = w) (hf : ∀ x, (f x).length = w) {n : Nat} (ih : ReadG enc W sp n T f sz)
    {a : Addr} {len : Nat} {elems : List (DataW H × List MemPlace)} (hlen : elems.length = len)
    (hel : ∀ i, i < len → (W.cells? 0 (a.add (i * Tryz.prog.cellsOf T)) (Tryz.prog.cellsOf T)).bind (DataW.trod enc Tryz.prog W 0 sp true n T) = elems[i]?) :
    ∀ (m j : Nat), j + m = len → Rows.uptoBulkAll ((elems.drop j).map (·.1)) ≤ 1048576 → ∃ ts : List α, ts.length = m ∧ RepC (InW W) W (Vx.fl f ts) (some a) (j * w) ∧ szs sz ts ≤ Rows.uptoBulkAll ((elems.drop j).map (·.1)) ∧ m ≤ Rows.uptoBulkAll ((elems.drop j).map (·.1))
  | 0, j, _, _ => ⟨[], rfl, by simp only [Vx.fl, RepC], by simp [szs], Nat.zero_le _⟩
  | m + 1, j, hj, hb => by
    have hjl : j < elems.length := by omega
    rw [List.drop_eq_getElem_cons hjl, List.map_cons, Rows.uptoBulkAll] at hb ⊢
    obtain ⟨ts, h1, h2, h3, h0⟩ := elems_gen hw hf ih hlen hel m (j + 1) (by omega) (by omega)
    have h4 := hel j (by omega)
    rw [List.getElem?_eq_getElem hjl, hw] at h4
    obtain ⟨cs, h5, h6⟩ := Option.bind_eq_some_iff.1 h4
    obtain ⟨t, k2, k3⟩ := ih cs _ h6 (by omega)
    obtain ⟨_, _, q⟩ := World.cells?_some h5
    have hlc : cs.length = w := by rw [k2.len, hf]
    have hc : ∀ (i : Nat) v, cs[i]? = some v → W.cell? (a.add (j * w + i)) = some v := by
      intro i v hv
      have hi := (List.getElem?_eq_some_iff.1 hv).1
      have q := q i (by omega)
      rw [Go.Vc.add_add] at q
      rw [q, hv]
    have := bulk_one elems[j].1
    refine ⟨t :: ts, by simp [h1], ?_, by rw [szs_cons]; omega, by omega⟩
    simp only [Vx.fl]
    refine RepC.app (RepDs.cellsW k2 hc) ?_
    rw [hf, show j * w + w = (j + 1) * w from by rw [Nat.add_mul, Nat.one_mul]]
    exact h2
theorem open_gen {α : Type} {f : α → List D} {sz : α → Nat} {w : Nat} {S T : TypeId} (eb : Nat) (heb : eb ≤ 1000) (hu : Tryz.prog.underlying S = some (.slice T)) (hw : Tryz.prog.cellsOf T = w) (hf : ∀ x, (f x).length = w) {fuel : Nat} (ih : ∀ m, m < fuel → ReadG enc W sp m T f sz)
    {A : Option Addr} {n c : Nat} {x : DataW H × List MemPlace} (h : DataW.trod enc Tryz.prog W 0 sp true fuel S [.slice A n c] = some x) (hb : Rows.uptoBulk x.1 ≤ 1048576) :
    ∃ ts : List α, RepD (InW W) W (slD eb ts.length (Vx.fl f ts)) (.slice A n c) ∧ szs sz ts + ts.length ≤ 2 * Rows.uptoBulk x.1 ∧ szs sz ts + 1 ≤ Rows.uptoBulk x.1 + 1 ∧ ts.length ≤ Rows.uptoBulk x.1 := by
  rcases DataW.trod_slice hu h with ⟨hs, e2⟩ | ⟨a, len, cap, elems, rest, m, rfl, hs, e2, _, hle, hcap, hlen, hel, _⟩
  · injection hs with hs _
    injection hs with h1 h2 h3
    subst h1; subst h2; subst h3
    exact ⟨[], dnil rfl, by simp [szs], by simp [szs], by simp⟩
  · injection hs with hs _
    injection hs with h1 h2 h3
    subst h1; subst h2; subst h3
    subst e2
    simp only [Rows.uptoBulk] at hb ⊢
    obtain ⟨ts, h1, h2, h3, h0⟩ := elems_gen hw hf (ih m (by omega)) hlen hel n 0 (by omega) (by simp; omega)
    simp only [List.drop_zero] at h3 h0
    refine ⟨ts, ?_, by omega, by omega, by omega⟩
    subst h1
    simp only [slD, RepD]
    refine ⟨some a, c, rfl, hle, ?_, fun _ => ⟨a, rfl⟩, by simpa using h2⟩
    have := Nat.mul_le_mul_left ts.length (ebn_le eb ts.length)
    have := Nat.mul_le_mul_left ts.length heb
    simp only [LB]; omega
theorem und_C : Tryz.prog.underlying 38 = some (.slice 43) := by kernel_rfl
/-- A struct type's fields: type and offset. -/
def fieldsOf (P : Program) (T : TypeId) : List (TypeId × Nat) := match P.underlying T with
  | some (.struct fs) => fs.toList.map fun f => (f.type, f.offset)
  | _ => []
theorem trod_fields {T : TypeId} {l : List (TypeId × Nat)} (hl : fieldsOf Tryz.prog T = l) (hne : l ≠ []) {fuel : Nat} {cs : List Value} {x : DataW H × List MemPlace} (h : DataW.trod enc Tryz.prog W 0 sp true fuel T cs = some x) :
    ∃ (xs : List (DataW H × List MemPlace)) (n : Nat), fuel = n + 1 ∧ x = (.agg (xs.map (·.1)), xs.flatMap (·.2)) ∧ cs.length = Tryz.prog.cellsOf T ∧ xs.length = l.length ∧
      ∀ (i : Nat) (t : TypeId) (o : Nat), l[i]? = some (t, o) → DataW.trod enc Tryz.prog W 0 sp true n t (List.take (Tryz.prog.cellsOf t) (List.drop o cs)) = xs[i]? := by
  unfold fieldsOf at hl
  split at hl
  · rename_i fs hu
    obtain ⟨xs, n, h1, h2, h3, h4, h5⟩ := DataW.trod_struct hu h
    refine ⟨xs, n, h1, h2, h3, by rw [← hl, h4]; simp, fun i t o hi => ?_⟩
    rw [← hl, List.getElem?_map] at hi
    obtain ⟨f, hf, he⟩ := Option.map_eq_some_iff.1 hi
    rw [Prod.mk.injEq] at he
    obtain ⟨rfl, rfl⟩ := he
    exact h5 i f (by simpa using hf)
  · exact absurd hl.symm hne
theorem fields_C : fieldsOf Tryz.prog 43 = [(9, 0), (22, 1)] := by kernel_rfl
theorem cellsC : Tryz.prog.cellsOf 43 = 2 := by kernel_rfl
theorem cellsStr : Tryz.prog.cellsOf 9 = 1 := by kernel_rfl
theorem undStr : Tryz.prog.underlying 9 = some .string := by kernel_rfl
theorem slice_of {fuel : Nat} {S T : TypeId} (hu : Tryz.prog.underlying S = some (.slice T)) {cs : List Value} {x : DataW H × List MemPlace} (h : DataW.trod enc Tryz.prog W 0 sp true fuel S cs = some x) : ∃ A n c, cs = [.slice A n c] := by
  rcases DataW.trod_slice hu h with ⟨rfl, _⟩ | ⟨a, len, cap, elems, rest, m, rfl, rfl, _⟩
  · exact ⟨_, _, _, rfl⟩
  · exact ⟨_, _, _, rfl⟩
theorem und_L : Tryz.prog.underlying 22 = some (.slice 24) := by kernel_rfl
set_option maxRecDepth 20000 in
theorem read_C : ∀ n, ReadG enc W sp n 43 encCT (fun c => szL c.2 + 1) := by
  intro fuel cs x h hb
  obtain ⟨xs, n, rfl, rfl, hl, hxl, hf⟩ := trod_fields fields_C (by simp) h
  rw [cellsC] at hl
  have f0 := hf 0 _ _ rfl
  have f1 := hf 1 _ _ rfl
  match xs, hxl with
  | [y0, y1], _ =>
    match cs, hl with
    | [v0, v1], _ =>
      rw [cellsStr] at f0
      rw [cellsL] at f1
      obtain ⟨s, hk, e0, _⟩ := DataW.trod_string undStr f0
      simp at hk
      subst hk
      obtain ⟨A, m, c, hs⟩ := slice_of und_L f1
      simp at hs
      subst hs
      simp only [List.map_cons, List.map_nil, Rows.uptoBulk, Rows.uptoBulkAll] at hb ⊢
      have := bulk_one y0.1
      obtain ⟨ts, k1, k2⟩ := open_L f1 (by omega)
      refine ⟨(s, ts), ?_, by simp only; omega⟩
      simp only [encCT, RepDs]
      exact ⟨_, _, rfl, by simp only [RepD], _, _, rfl, k1, rfl⟩
theorem szC_szs (l : List CT) : szC l = szs (fun c => szL c.2 + 1) l := by
  induction l with
  | nil => rfl
  | cons c r ih => rw [szC, ih, szs_cons]
/-- A slice of constructors. -/
theorem open_C {fuel : Nat} {A : Option Addr} {n c : Nat} {x : DataW H × List MemPlace} (h : DataW.trod enc Tryz.prog W 0 sp true fuel 38 [.slice A n c] = some x) (hb : Rows.uptoBulk x.1 ≤ 1048576) :
    ∃ l : List CT, RepD (InW W) W (dCTs l) (.slice A n c) ∧ szC l ≤ Rows.uptoBulk x.1 := by
  obtain ⟨ts, h1, _, h2, _⟩ := open_gen (f := encCT) 40 (by decide) und_C cellsC encCT_len (fun m _ => read_C m) h hb
  exact ⟨ts, h1, by rw [szC_szs]; omega⟩
end
end Go.Proofs.YtmjjajhkokdikaaGreat

