/- Texts of mine, joined: Fa Gf He Hg Hh Hi. -/
import Derived.Test.YtmjjajhkokdikaaGreatPaq
import Derived.Test.YtmjjajhkokdikaaGreatRows
import Derived.WalkKit
import Derived.ProofKit
import Derived.OpenShut
import Derived.JoinedCond
import Derived.Carry
import Derived.Test.YtmjjajhkokdikaaGreatPar
/- What the rows' readings say of arguments (texts Hu, Hv, joined; schemes). -/
set_option linter.unusedVariables false
set_option linter.unusedSimpArgs false
/- What the rows' readings say of arguments in memory. -/
namespace Go.Proofs.YtmjjajhkokdikaaGreat
open Go.Vx Go.Vc Go.RowKit

theorem cellsT : Tryz.prog.cellsOf 24 = 3 := by kernel_rfl
theorem cellsI : Tryz.prog.cellsOf 3 = 1 := by kernel_rfl
theorem cellsL : Tryz.prog.cellsOf 22 = 1 := by kernel_rfl

section
variable {H : Type} {enc : TypeId × Value → H} {W : World} {sp : Nat → Bool}

theorem bulk_one (d : DataW H) : 1 ≤ Rows.uptoBulk d := by
  cases d with
  | lit l => cases l <;> simp [Rows.uptoBulk]
  | nil => simp [Rows.uptoBulk]
  | ptr d => simp [Rows.uptoBulk]
  | slice elems spare => simp [Rows.uptoBulk]
  | agg parts => simp [Rows.uptoBulk]
  | iface t d => simp [Rows.uptoBulk]
  | map entries => simp [Rows.uptoBulk]
  | held h => simp [Rows.uptoBulk]
/-- A type's value reads as t. -/
def ReadsT (W : World) (cs : List Value) (d : DataW H) : Prop := ∃ t : Tp, RepDs (InW W) W (encT t) cs ∧ szT t ≤ Rows.uptoBulk d
theorem elems_T {n : Nat} (ih : ∀ (cs : List Value) (x : DataW H × List MemPlace), DataW.trod enc Tryz.prog W 0 sp true n 24 cs = some x → Rows.uptoBulk x.1 ≤ 1048576 → ReadsT W cs x.1)
    {a : Addr} {len : Nat} {elems : List (DataW H × List MemPlace)} (hlen : elems.length = len)
    (hel : ∀ i, i < len → (W.cells? 0 (a.add (i * Tryz.prog.cellsOf 24)) (Tryz.prog.cellsOf 24)).bind (DataW.trod enc Tryz.prog W 0 sp true n 24) = elems[i]?) :
    ∀ (m j : Nat), j + m = len → Rows.uptoBulkAll ((elems.drop j).map (·.1)) ≤ 1048576 → ∃ ts : List Tp, ts.length = m ∧ RepC (InW W) W (encK ts) (some a) (j * 3) ∧ szL ts ≤ Rows.uptoBulkAll ((elems.drop j).map (·.1))
  | 0, j, _, _ => ⟨[], rfl, by simp only [encK, RepC], by simp [szL]⟩
  | m + 1, j, hj, hb => by
    have hjl : j < elems.length := by omega
    rw [List.drop_eq_getElem_cons hjl, List.map_cons, Rows.uptoBulkAll] at hb ⊢
    obtain ⟨ts, h1, h2, h3⟩ := elems_T ih hlen hel m (j + 1) (by omega) (by omega)
    have h4 := hel j (by omega)
    rw [List.getElem?_eq_getElem hjl, cellsT] at h4
    obtain ⟨cs, h5, h6⟩ := Option.bind_eq_some_iff.1 h4
    obtain ⟨t, k2, k3⟩ := ih cs _ h6 (by omega)
    obtain ⟨_, _, q⟩ := World.cells?_some h5
    have hlc : cs.length = 3 := k2.len
    have hc : ∀ (i : Nat) v, cs[i]? = some v → W.cell? (a.add (j * 3 + i)) = some v := by
      intro i v hv
      have hi := (List.getElem?_eq_some_iff.1 hv).1
      have q := q i (by omega)
      rw [Go.Vc.add_add] at q
      rw [q, hv]
    refine ⟨t :: ts, by simp [h1], ?_, by simp only [szL]; omega⟩
    simp only [encK, encT0_eq]
    refine RepC.app (RepDs.cellsW k2 hc) ?_
    rw [encT_len, show j * 3 + 3 = (j + 1) * 3 from by omega]
    exact h2

set_option maxRecDepth 20000 in
theorem open_T : ∀ (fuel : Nat) (cs : List Value) (x : DataW H × List MemPlace), DataW.trod enc Tryz.prog W 0 sp true fuel 24 cs = some x → Rows.uptoBulk x.1 ≤ 1048576 → ReadsT W cs x.1 := by
  intro fuel
  induction fuel using Nat.strongRecOn with
  | _ fuel ih =>
    intro cs x h hb
    obtain ⟨xs, n, rfl, rfl, hl, hxl, hf⟩ := DataW.trod_struct Tryz.underlying24 h
    rw [cellsT] at hl
    have f0 := hf 0 _ rfl
    have f1 := hf 1 _ rfl
    have f2 := hf 2 _ rfl
    match xs, hxl with
    | [y0, y1, y2], _ =>
      match cs, hl with
      | [v0, v1, v2], _ =>
        have f0 : DataW.trod enc Tryz.prog W 0 sp true n 3 (List.take (Tryz.prog.cellsOf 3) [v0, v1, v2]) = some y0 := f0
        have f1 : DataW.trod enc Tryz.prog W 0 sp true n 3 (List.take (Tryz.prog.cellsOf 3) [v1, v2]) = some y1 := f1
        have f2 : DataW.trod enc Tryz.prog W 0 sp true n 22 (List.take (Tryz.prog.cellsOf 22) [v2]) = some y2 := f2
        rw [cellsI] at f0 f1
        obtain ⟨k, hk, e0, _⟩ := DataW.trod_int Tryz.underlying3 f0
        obtain ⟨nn, hn, e1, _⟩ := DataW.trod_int Tryz.underlying3 f1
        simp at hk hn
        subst hk; subst hn
        simp only [List.map_cons, List.map_nil, Rows.uptoBulk, Rows.uptoBulkAll] at hb ⊢
        rcases DataW.trod_slice Tryz.underlying22 f2 with ⟨hs, e2⟩ | ⟨a, len, cap, elems, rest, m, rfl, hs, e2, _, hle, hcap, hlen, hel, _⟩
        · have hs : [v2] = [.slice none 0 0] := hs
          injection hs with hs _
          subst hs
          refine ⟨.mk k nn [], ?_, ?_⟩
          · simp only [encT, mk_k, mk_n, mk_kids, RepDs, RepD, slD, ebn, encK, List.length_nil]
            exact ⟨_, _, rfl, rfl, _, _, rfl, rfl, _, _, rfl, ⟨none, 0, rfl, Nat.le_refl _, by simp, by simp, by simp only [RepC]⟩, rfl⟩
          · have := bulk_one y0.1
            simp only [szT, szL, Rows.uptoBulk, Rows.uptoBulkAll]
            omega
        · have hs : [v2] = [.slice (some a) len cap] := hs
          injection hs with hs _
          subst hs
          have e2' : y2.1 = .slice (elems.map (·.1)) (rest.map (·.1)) := congrArg Prod.fst e2
          rw [e2'] at hb ⊢
          simp only [Rows.uptoBulk] at hb
          obtain ⟨ts, h1, h2, h3⟩ := elems_T (fun cs x hx hb => ih m (by omega) cs x hx hb) hlen hel len 0 (by omega) (by simp; omega)
          simp only [List.drop_zero] at h3
          subst h1
          have hsl := szL_len ts
          refine ⟨.mk k nn ts, ?_, ?_⟩
          · simp only [encT, mk_k, mk_n, mk_kids, RepDs, RepD, slD]
            refine ⟨_, _, rfl, rfl, _, _, rfl, rfl, _, _, rfl, ⟨some a, cap, rfl, hle, ?_, fun _ => ⟨a, rfl⟩, by simpa using h2⟩, rfl⟩
            have : ebn 40 ts.length ≤ 40 := by unfold ebn; split <;> omega
            have := Nat.mul_le_mul_left ts.length this
            simp only [LB]; omega
          · have := bulk_one y0.1
            simp only [szT, szL, Rows.uptoBulk, Rows.uptoBulkAll]
            omega
end
end Go.Proofs.YtmjjajhkokdikaaGreat

/- What the rows' readings say of slices. -/
namespace Go.Proofs.YtmjjajhkokdikaaGreat
open Go.Vx Go.Vc Go.RowKit
section
variable {H : Type} {enc : TypeId × Value → H} {W : World} {sp : Nat → Bool}
theorem dnil {eb : Nat} {cs : List D} (h : cs = []) : RepD (InW W) W (slD eb 0 cs) (.slice none 0 0) := by
  subst h
  simp only [slD, ebn, RepD]
  exact ⟨none, 0, rfl, Nat.le_refl _, by simp, by simp, by simp only [RepC]⟩
theorem ebn_le (eb n : Nat) : ebn eb n ≤ eb := by unfold ebn; split <;> omega
/-- A slice of types. -/
theorem open_L {fuel : Nat} {A : Option Addr} {n c : Nat} {x : DataW H × List MemPlace} (h : DataW.trod enc Tryz.prog W 0 sp true fuel 22 [.slice A n c] = some x) (hb : Rows.uptoBulk x.1 ≤ 1048576) :
    ∃ ts : List Tp, RepD (InW W) W (dK ts) (.slice A n c) ∧ szL ts ≤ Rows.uptoBulk x.1 := by
  rcases DataW.trod_slice Tryz.underlying22 h with ⟨hs, e2⟩ | ⟨a, len, cap, elems, rest, m, rfl, hs, e2, _, hle, hcap, hlen, hel, _⟩
  · injection hs with hs _
    injection hs with h1 h2 h3
    subst h1; subst h2; subst h3
    exact ⟨[], dnil rfl, by simp [szL]⟩
  · injection hs with hs _
    injection hs with h1 h2 h3
    subst h1; subst h2; subst h3
    subst e2
    simp only [Rows.uptoBulk] at hb ⊢
    obtain ⟨ts, h1, h2, h3⟩ := elems_T (fun cs x hx hb => open_T m cs x hx hb) hlen hel n 0 (by omega) (by simp; omega)
    simp only [List.drop_zero] at h3
    have hsl := szL_len ts
    refine ⟨ts, ?_, by omega⟩
    subst h1
    simp only [slD, RepD]
    refine ⟨some a, c, rfl, hle, ?_, fun _ => ⟨a, rfl⟩, by simpa using h2⟩
    have := Nat.mul_le_mul_left ts.length (ebn_le 40 ts.length)
    simp only [LB]; omega
/-- A slice of numbers. -/
theorem open_I {fuel : Nat} {A : Option Addr} {n c : Nat} {x : DataW H × List MemPlace} (h : DataW.trod enc Tryz.prog W 0 sp true fuel 57 [.slice A n c] = some x) (hb : Rows.uptoBulk x.1 ≤ 1048576) :
    ∃ l : List Int, RepD (InW W) W (dI l) (.slice A n c) ∧ l.length ≤ Rows.uptoBulk x.1 := by
  rcases DataW.trod_slice Tryz.underlying57 h with ⟨hs, e2⟩ | ⟨a, len, cap, elems, rest, m, rfl, hs, e2, _, hle, hcap, hlen, hel, _⟩
  · injection hs with hs _
    injection hs with h1 h2 h3
    subst h1; subst h2; subst h3
    exact ⟨[], dnil rfl, by simp⟩
  · injection hs with hs _
    injection hs with h1 h2 h3
    subst h1; subst h2; subst h3
    subst e2
    have key : ∀ m j : Nat, j + m = n → ∃ l : List Int, l.length = m ∧ RepC (InW W) W (Vx.encI l) (some a) j ∧ m ≤ Rows.uptoBulkAll ((elems.drop j).map (·.1)) := by
      intro m
      induction m with
      | zero => exact fun j _ => ⟨[], rfl, by simp only [Vx.encI, List.map_nil, RepC], Nat.zero_le _⟩
      | succ m ihm =>
        intro j hj
        have hjl : j < elems.length := by omega
        obtain ⟨l, h1, h2, h3⟩ := ihm (j + 1) (by omega)
        have h4 := hel j (by omega)
        rw [List.getElem?_eq_getElem hjl, cellsI] at h4
        obtain ⟨cs, h5, h6⟩ := Option.bind_eq_some_iff.1 h4
        obtain ⟨k, rfl, _, _⟩ := DataW.trod_int Tryz.underlying3 h6
        obtain ⟨_, _, q⟩ := World.cells?_some h5
        have q0 := q 0 (by omega)
        rw [Go.Vc.add_add] at q0
        simp only [Nat.mul_one, Nat.add_zero, List.getElem?_cons_zero] at q0
        refine ⟨k :: l, by simp [h1], ?_, ?_⟩
        · simp only [Vx.encI, List.map_cons, RepC] at h2 ⊢
          exact ⟨⟨a, _, rfl, by have := World.block_lt_of_cell? W _ q0; rwa [add_block] at this, q0, by simp only [RepD]⟩, h2⟩
        · rw [List.drop_eq_getElem_cons hjl, List.map_cons, Rows.uptoBulkAll]
          have := bulk_one elems[j].1
          omega
    obtain ⟨l, h1, h2, h3⟩ := key n 0 (by omega)
    simp only [List.drop_zero] at h3
    simp only [Rows.uptoBulk] at hb ⊢
    refine ⟨l, ?_, by omega⟩
    subst h1
    simp only [slD, RepD]
    refine ⟨some a, c, rfl, hle, ?_, fun _ => ⟨a, rfl⟩, h2⟩
    have := Nat.mul_le_mul_left l.length (ebn_le 8 l.length)
    simp only [LB]; omega
end
end Go.Proofs.YtmjjajhkokdikaaGreat

namespace Go.Proofs.YtmjjajhkokdikaaGreat
open Go.Vx Go.Vc Go.RowKit
theorem cellsS : Tryz.prog.cellsOf 26 = 4 := by kernel_rfl
section
variable {H : Type} {enc : TypeId × Value → H} {W : World} {sp : Nat → Bool}
set_option maxRecDepth 20000 in
/-- A scheme. -/
theorem open_S {fuel : Nat} {cs : List Value} {x : DataW H × List MemPlace} (h : DataW.trod enc Tryz.prog W 0 sp true fuel 26 cs = some x) (hb : Rows.uptoBulk x.1 ≤ 1048576) :
    ∃ s : Sc, RepDs (InW W) W (.int .i64 s.g :: encT s.t) cs ∧ szT s.t ≤ Rows.uptoBulk x.1 := by
  obtain ⟨xs, n, rfl, rfl, hl, hxl, hf⟩ := DataW.trod_struct Tryz.underlying26 h
  rw [cellsS] at hl
  have f0 := hf 0 _ rfl
  have f1 := hf 1 _ rfl
  match xs, hxl with
  | [y0, y1], _ =>
    match cs, hl with
    | [v0, v1, v2, v3], _ =>
      have f0 : DataW.trod enc Tryz.prog W 0 sp true n 3 (List.take (Tryz.prog.cellsOf 3) [v0, v1, v2, v3]) = some y0 := f0
      have f1 : DataW.trod enc Tryz.prog W 0 sp true n 24 (List.take (Tryz.prog.cellsOf 24) [v1, v2, v3]) = some y1 := f1
      rw [cellsI] at f0
      rw [cellsT] at f1
      obtain ⟨k, hk, e0, _⟩ := DataW.trod_int Tryz.underlying3 f0
      simp at hk
      subst hk
      simp only [List.map_cons, List.map_nil, Rows.uptoBulk, Rows.uptoBulkAll] at hb ⊢
      obtain ⟨t, e1, k2⟩ := open_T n _ y1 f1 (by omega)
      refine ⟨⟨k, t⟩, ?_, by simp only; omega⟩
      simp only [RepDs]
      exact ⟨_, _, rfl, by simp only [RepD], e1⟩
end
end Go.Proofs.YtmjjajhkokdikaaGreat

/- Readings of slices, for any kind of element; constructors. -/
set_option linter.unusedSimpArgs false
set_option linter.unusedVariables false
namespace Go.Proofs.YtmjjajhkokdikaaGreat
open Go.Vx Go.Vc Go.RowKit
section
variable {H : Type} {enc : TypeId × Value → H} {W : World} {sp : Nat → Bool}
/-- The sizes' sum. -/
def szs {α : Type} (sz : α → Nat) (l : List α) : Nat := (l.map sz).sum
theorem szs_cons {α : Type} (sz : α → Nat) (x : α) (l : List α) : szs sz (x :: l) = sz x + szs sz l := by simp [szs]
theorem szs_mem {α : Type} {sz : α → Nat} : ∀ {l : List α} {x : α}, x ∈ l → sz x ≤ szs sz l
  | y :: r, x, h => by
    rw [szs_cons]
    rcases List.mem_cons.1 h with rfl | h
    · omega
    · have := szs_mem (sz := sz) h; omega
/-- What is asked of a reading of one kind of elements. -/
def ReadG (enc : TypeId × Value → H) (W : World) (sp : Nat → Bool) (n : Nat) (T : TypeId) {α : Type} (f : α → List D) (sz : α → Nat) : Prop :=
  ∀ (cs : List Value) (x : DataW H × List MemPlace), DataW.trod enc Tryz.prog W 0 sp true n T cs = some x → Rows.uptoBulk x.1 ≤ 1048576 → ∃ t : α, RepDs (InW W) W (f t) cs ∧ sz t ≤ Rows.uptoBulk x.1
theorem elems_gen {α : Type} {f : α → List D} {sz : α → Nat} {w : Nat} {T : TypeId} (hw : Tryz.prog.cellsOf T = w) (hf : ∀ x, (f x).length = w) {n : Nat} (ih : ReadG enc W sp n T f sz)
    {a : Addr} {len : Nat} {elems : List (DataW H × List MemPlace)} (hlen : elems.length = len)
    (hel : ∀ i, i < len → (W.cells? 0 (a.add (i * Tryz.prog.cellsOf T)) (Tryz.prog.cellsOf T)).bind (DataW.trod enc Tryz.prog W 0 sp true n T) = elems[i]?) :
    ∀ (m j : Nat), j + m = len → Rows.uptoBulkAll ((elems.drop j).map (·.1)) ≤ 1048576 → ∃ ts : List α, ts.length = m ∧ RepC (InW W) W (Vx.fl f ts) (some a) (j * w) ∧ szs sz ts ≤ Rows.uptoBulkAll ((elems.drop j).map (·.1)) ∧ m ≤ Rows.uptoBulkAll ((elems.drop j).map (·.1))
  | 0, j, _, _ => ⟨[], rfl, by simp only [Vx.fl, RepC], by simp [szs], Nat.zero_le _⟩
  | m + 1, j, hj, hb => by
    have hjl : j < elems.length := by omega
    rw [List.drop_eq_getElem_cons hjl, List.map_cons, Rows.uptoBulkAll] at hb ⊢
    obtain ⟨ts, h1, h2, h3, h0⟩ := elems_gen hw hf ih hlen hel m (j + 1) (by omega) (by omega)
    have h4 := hel j (by omega)
    rw [List.getElem?_eq_getElem hjl, hw] at h4
    obtain ⟨cs, h5, h6⟩ := Option.bind_eq_some_iff.1 h4
    obtain ⟨t, k2, k3⟩ := ih cs _ h6 (by omega)
    obtain ⟨_, _, q⟩ := World.cells?_some h5
    have hlc : cs.length = w := by rw [k2.len, hf]
    have hc : ∀ (i : Nat) v, cs[i]? = some v → W.cell? (a.add (j * w + i)) = some v := by
      intro i v hv
      have hi := (List.getElem?_eq_some_iff.1 hv).1
      have q := q i (by omega)
      rw [Go.Vc.add_add] at q
      rw [q, hv]
    have := bulk_one elems[j].1
    refine ⟨t :: ts, by simp [h1], ?_, by rw [szs_cons]; omega, by omega⟩
    simp only [Vx.fl]
    refine RepC.app (RepDs.cellsW k2 hc) ?_
    rw [hf, show j * w + w = (j + 1) * w from by rw [Nat.add_mul, Nat.one_mul]]
    exact h2
theorem open_gen {α : Type} {f : α → List D} {sz : α → Nat} {w : Nat} {S T : TypeId} (eb : Nat) (heb : eb ≤ 1000) (hu : Tryz.prog.underlying S = some (.slice T)) (hw : Tryz.prog.cellsOf T = w) (hf : ∀ x, (f x).length = w) {fuel : Nat} (ih : ∀ m, m < fuel → ReadG enc W sp m T f sz)
    {A : Option Addr} {n c : Nat} {x : DataW H × List MemPlace} (h : DataW.trod enc Tryz.prog W 0 sp true fuel S [.slice A n c] = some x) (hb : Rows.uptoBulk x.1 ≤ 1048576) :
    ∃ ts : List α, RepD (InW W) W (slD eb ts.length (Vx.fl f ts)) (.slice A n c) ∧ szs sz ts + ts.length ≤ 2 * Rows.uptoBulk x.1 ∧ szs sz ts + 1 ≤ Rows.uptoBulk x.1 + 1 ∧ ts.length ≤ Rows.uptoBulk x.1 := by
  rcases DataW.trod_slice hu h with ⟨hs, e2⟩ | ⟨a, len, cap, elems, rest, m, rfl, hs, e2, _, hle, hcap, hlen, hel, _⟩
  · injection hs with hs _
    injection hs with h1 h2 h3
    subst h1; subst h2; subst h3
    exact ⟨[], dnil rfl, by simp [szs], by simp [szs], by simp⟩
  · injection hs with hs _
    injection hs with h1 h2 h3
    subst h1; subst h2; subst h3
    subst e2
    simp only [Rows.uptoBulk] at hb ⊢
    obtain ⟨ts, h1, h2, h3, h0⟩ := elems_gen hw hf (ih m (by omega)) hlen hel n 0 (by omega) (by simp; omega)
    simp only [List.drop_zero] at h3 h0
    refine ⟨ts, ?_, by omega, by omega, by omega⟩
    subst h1
    simp only [slD, RepD]
    refine ⟨some a, c, rfl, hle, ?_, fun _ => ⟨a, rfl⟩, by simpa using h2⟩
    have := Nat.mul_le_mul_left ts.length (ebn_le eb ts.length)
    have := Nat.mul_le_mul_left ts.length heb
    simp only [LB]; omega
theorem und_C : Tryz.prog.underlying 38 = some (.slice 43) := by kernel_rfl
/-- A struct type's fields: type and offset. -/
def fieldsOf (P : Program) (T : TypeId) : List (TypeId × Nat) := match P.underlying T with
  | some (.struct fs) => fs.toList.map fun f => (f.type, f.offset)
  | _ => []
theorem trod_fields {T : TypeId} {l : List (TypeId × Nat)} (hl : fieldsOf Tryz.prog T = l) (hne : l ≠ []) {fuel : Nat} {cs : List Value} {x : DataW H × List MemPlace} (h : DataW.trod enc Tryz.prog W 0 sp true fuel T cs = some x) :
    ∃ (xs : List (DataW H × List MemPlace)) (n : Nat), fuel = n + 1 ∧ x = (.agg (xs.map (·.1)), xs.flatMap (·.2)) ∧ cs.length = Tryz.prog.cellsOf T ∧ xs.length = l.length ∧
      ∀ (i : Nat) (t : TypeId) (o : Nat), l[i]? = some (t, o) → DataW.trod enc Tryz.prog W 0 sp true n t (List.take (Tryz.prog.cellsOf t) (List.drop o cs)) = xs[i]? := by
  unfold fieldsOf at hl
  split at hl
  · rename_i fs hu
    obtain ⟨xs, n, h1, h2, h3, h4, h5⟩ := DataW.trod_struct hu h
    refine ⟨xs, n, h1, h2, h3, by rw [← hl, h4]; simp, fun i t o hi => ?_⟩
    rw [← hl, List.getElem?_map] at hi
    obtain ⟨f, hf, he⟩ := Option.map_eq_some_iff.1 hi
    rw [Prod.mk.injEq] at he
    obtain ⟨rfl, rfl⟩ := he
    exact h5 i f (by simpa using hf)
  · exact absurd hl.symm hne
theorem fields_C : fieldsOf Tryz.prog 43 = [(9, 0), (22, 1)] := by kernel_rfl
theorem cellsC : Tryz.prog.cellsOf 43 = 2 := by kernel_rfl
theorem cellsStr : Tryz.prog.cellsOf 9 = 1 := by kernel_rfl
theorem undStr : Tryz.prog.underlying 9 = some .string := by kernel_rfl
theorem slice_of {fuel : Nat} {S T : TypeId} (hu : Tryz.prog.underlying S = some (.slice T)) {cs : List Value} {x : DataW H × List MemPlace} (h : DataW.trod enc Tryz.prog W 0 sp true fuel S cs = some x) : ∃ A n c, cs = [.slice A n c] := by
  rcases DataW.trod_slice hu h with ⟨rfl, _⟩ | ⟨a, len, cap, elems, rest, m, rfl, rfl, _⟩
  · exact ⟨_, _, _, rfl⟩
  · exact ⟨_, _, _, rfl⟩
theorem und_L : Tryz.prog.underlying 22 = some (.slice 24) := by kernel_rfl
set_option maxRecDepth 20000 in
theorem read_C : ∀ n, ReadG enc W sp n 43 encCT (fun c => szL c.2 + 1) := by
  intro fuel cs x h hb
  obtain ⟨xs, n, rfl, rfl, hl, hxl, hf⟩ := trod_fields fields_C (by simp) h
  rw [cellsC] at hl
  have f0 := hf 0 _ _ rfl
  have f1 := hf 1 _ _ rfl
  match xs, hxl with
  | [y0, y1], _ =>
    match cs, hl with
    | [v0, v1], _ =>
      rw [cellsStr] at f0
      rw [cellsL] at f1
      obtain ⟨s, hk, e0, _⟩ := DataW.trod_string undStr f0
      simp at hk
      subst hk
      obtain ⟨A, m, c, hs⟩ := slice_of und_L f1
      simp at hs
      subst hs
      simp only [List.map_cons, List.map_nil, Rows.uptoBulk, Rows.uptoBulkAll] at hb ⊢
      have := bulk_one y0.1
      obtain ⟨ts, k1, k2⟩ := open_L f1 (by omega)
      refine ⟨(s, ts), ?_, by simp only; omega⟩
      simp only [encCT, RepDs]
      exact ⟨_, _, rfl, by simp only [RepD], _, _, rfl, k1, rfl⟩
theorem szC_szs (l : List CT) : szC l = szs (fun c => szL c.2 + 1) l := by
  induction l with
  | nil => rfl
  | cons c r ih => rw [szC, ih, szs_cons]
/-- A slice of constructors. -/
theorem open_C {fuel : Nat} {A : Option Addr} {n c : Nat} {x : DataW H × List MemPlace} (h : DataW.trod enc Tryz.prog W 0 sp true fuel 38 [.slice A n c] = some x) (hb : Rows.uptoBulk x.1 ≤ 1048576) :
    ∃ l : List CT, RepD (InW W) W (dCTs l) (.slice A n c) ∧ szC l ≤ Rows.uptoBulk x.1 := by
  obtain ⟨ts, h1, _, h2, _⟩ := open_gen (f := encCT) 40 (by decide) und_C cellsC encCT_len (fun m _ => read_C m) h hb
  exact ⟨ts, h1, by rw [szC_szs]; omega⟩
end
end Go.Proofs.YtmjjajhkokdikaaGreat

/- What any structure becomes. -/
set_option linter.unusedSimpArgs false
set_option linter.unusedVariables false
namespace Go.Proofs.YtmjjajhkokdikaaGreat
open Go.Vx Go.Vc Go.RowKit

def szCT (c : CT) : Nat := c.1.size + szL c.2 + 1
def szTyM (m : TyM) : Nat := m.nm.size + szT m.t + szs szCT m.cs + 1
def szVlM (m : VlM) : Nat := szT m.t + 1
mutual
def szStr : StrT → Nat
  | .mk tys vals subs funs _ => szs szTyM tys + szs szVlM vals + szSubs subs + szFuns funs + 1
def szSubs : List SubT → Nat
  | [] => 0
  | x :: r => szSub x + szSubs r
def szSub : SubT → Nat
  | .mk _ s => szStr s + 1
def szFuns : List FunT → Nat
  | [] => 0
  | x :: r => szFun x + szFuns r
def szFun : FunT → Nat
  | .mk _ st a rst r => st.length + szStr a + rst.length + szStr r + 1
end
theorem szSubs_eq : ∀ l : List SubT, szSubs l = szs szSub l
  | [] => by simp [szSubs, szs]
  | x :: r => by rw [szSubs, szSubs_eq r, szs_cons]
theorem szFuns_eq : ∀ l : List FunT, szFuns l = szs szFun l
  | [] => by simp [szFuns, szs]
  | x :: r => by rw [szFuns, szFuns_eq r, szs_cons]
theorem szs_le {α : Type} {sz : α → Nat} : ∀ l : List α, (∀ x, 1 ≤ sz x) → l.length ≤ szs sz l
  | [], _ => by simp
  | x :: r, h => by have := szs_le r h; have := h x; rw [szs_cons, List.length_cons]; omega
theorem szC_CT : ∀ l : List CT, szC l ≤ szs szCT l
  | [] => by simp [szC]
  | c :: r => by have := szC_CT r; rw [szC, szs_cons, szCT]; omega
/-- A result's size. -/
def szO : TG ⊕ Int → Nat
  | .inl t => szG t
  | .inr _ => 0
def szF (F : List FE) : Nat := szs (fun x => szO x.o) F
/-- What is asked of a field's closure. -/
def FEok (x : FE) : Prop := (∃ f caps, x.d = .fn f [] caps ∧ Goes Tryz.prog f ∧ FnQ Tryz.prog G0 f caps (fun o => o = outO x.o)) ∧ ∀ e, x.o = .inr e → e ≠ 0
/-- Such fields there are. -/
def FEs (xs : List Fld) (n : Nat) : Prop := ∃ F : List FE, F.map FE.f = xs ∧ (∀ x ∈ F, FEok x) ∧ szF F ≤ n
theorem FEs.nil : FEs [] 0 := ⟨[], rfl, by simp, by simp [szF, szs]⟩
theorem FEs.app {xs ys : List Fld} {n m : Nat} : FEs xs n → FEs ys m → FEs (xs ++ ys) (n + m) := by
  rintro ⟨F, h1, h2, h3⟩ ⟨F', g1, g2, g3⟩
  refine ⟨F ++ F', by rw [List.map_append, h1, g1], fun x hx => ?_, ?_⟩
  · rcases List.mem_append.1 hx with h | h
    · exact h2 x h
    · exact g2 x h
  · simp only [szF, szs, List.map_append, List.sum_append] at *
    omega
theorem FEs.one {lab : ByteArray} {d : D} (o : TG ⊕ Int) {f : FuncId} {caps : List D} (hd : d = .fn f [] caps) (hg : Goes Tryz.prog f) (hq : FnQ Tryz.prog G0 f caps (fun q => q = outO o)) (he : ∀ e, o = .inr e → e ≠ 0) : FEs [(lab, d)] (szO o) :=
  ⟨[⟨lab, d, o⟩], rfl, fun x hx => by simp at hx; subst hx; exact ⟨⟨f, caps, hd, hg, hq⟩, he⟩, by simp [szF, szs]⟩
theorem FEs.mono {xs : List Fld} {n m : Nat} (h : FEs xs n) (hm : n ≤ m) : FEs xs m := by
  obtain ⟨F, h1, h2, h3⟩ := h
  exact ⟨F, h1, h2, by omega⟩
theorem FEs.flat {α : Type} {g : α → List Fld} {sz : α → Nat} (c : Nat) : ∀ l : List α, (∀ x ∈ l, FEs (g x) (c * sz x)) → FEs (l.flatMap g) (c * szs sz l)
  | [], _ => by simpa [szs] using FEs.nil
  | x :: r, h => by
    rw [List.flatMap_cons, szs_cons, Nat.mul_add]
    exact (h x (by simp)).app (FEs.flat c r fun y hy => h y (by simp [hy]))
theorem FEs.maps {α : Type} {g : α → Fld} {sz : α → Nat} (c : Nat) (l : List α) (h : ∀ x ∈ l, FEs [g x] (c * sz x)) : FEs (l.map g) (c * szs sz l) := by
  have := FEs.flat (g := fun x => [g x]) c l h
  rwa [← List.map_eq_flatMap] at this
theorem conE_sz (m : TyM) (c : CT) : szO (conE m c) ≤ szL c.2 + 2 ∧ ∀ e, conE m c = .inr e → e ≠ 0 := by
  unfold conE
  cases stO m with
  | none => exact ⟨by simp [szO], by rintro e h; injection h with h; omega⟩
  | some n =>
    simp only
    obtain ⟨nm, ts⟩ := c
    match ts with
    | [] => exact ⟨by simp [conV, szO, szG, szGs, varG], by simp [conV]⟩
    | [t] =>
      by_cases ho : okT t = true
      · have := turn_sz 0 t
        refine ⟨by simp only [conV, if_pos ho, szO, szG, szGs, varG, szL]; omega, ?_⟩
        simp [conV, if_pos ho]
      · exact ⟨by simp [conV, if_neg ho, szO], by rintro e h; simp [conV, if_neg ho] at h; omega⟩
    | _ :: _ :: _ => exact ⟨by simp [conV, szO], by rintro e h; simp [conV] at h; omega⟩
theorem outE_sz (m : TyM) : szO (outE m) ≤ szC m.cs + 3 ∧ ∀ e, outE m = .inr e → e ≠ 0 := by
  unfold outE
  cases stO m with
  | none => exact ⟨by simp [szO], by rintro e h; injection h with h; omega⟩
  | some n =>
    simp only
    cases hx : sumV m.cs with
    | none => exact ⟨by simp [szO], by rintro e h; injection h with h; omega⟩
    | some ts =>
      have := sumV_sz _ _ hx
      exact ⟨by simp only [szO, szG, szGs, varG]; omega, by simp⟩
theorem szL_mem {l : List Tp} {t : Tp} (h : t ∈ l) : szT t ≤ szL l := szT_mem h
theorem tyM_FE (m : TyM) (hz : szTyM m < 1099511627776) : FEs (tyFs m) (4 * szTyM m) := by
  have hC := szC_CT m.cs
  have hln : m.cs.length ≤ szs szCT m.cs := szs_le _ fun c => by unfold szCT; omega
  unfold szTyM at hz
  have hcs : ∀ c ∈ m.cs, ∀ t ∈ c.2, SzT t := fun c hc t ht => szT_of (by have := szs_mem (sz := szCT) hc; have e : szCT c = c.1.size + szL c.2 + 1 := rfl; have := szT_mem ht; omega)
  have ht : SzT m.t := szT_of (by omega)
  unfold tyFs
  split
  · exact FEs.nil.mono (Nat.zero_le _)
  · rename_i hne
    have h1 : FEs (conFs m) (2 * szs szCT m.cs) := FEs.maps (g := fun c : CT => (conL c.1, conD m c)) (sz := szCT) 2 m.cs fun c hc => by
      have := conE_sz m c
      exact (FEs.one (lab := conL c.1) (d := conD m c) (conE m c) rfl gf128 (conD_out m c ht (hcs c hc)) this.2).mono (by have := this.1; unfold szCT; omega)
    have h2 := outE_sz m
    have h3 : FEs [(outL m.nm, outD m)] (szO (outE m)) := FEs.one (outE m) rfl gf130 (outD_out m ht hcs (by omega)) h2.2
    refine (h1.app h3).mono ?_
    have := h2.1
    have : 1 ≤ m.cs.length := by cases hm : m.cs with | nil => exact absurd hm hne | cons _ _ => simp
    unfold szTyM
    omega
theorem schE_ne (s : Sc) : ∀ e, schE s = .inr e → e ≠ 0 := by
  intro e h
  unfold schE at h
  split at h
  · cases h
  · injection h with h; omega
theorem szO_val (x : TG ⊕ Int) : szO x ≤ szG (valE x) := by cases x <;> simp [szO, valE]
theorem vlM_FE (m : VlM) (hz : szVlM m < 1099511627776) : FEs [(m.nm, valD m)] (4 * szVlM m) := by
  unfold szVlM at hz
  have h1 := schE_sz ⟨m.g, m.t⟩
  have h2 := szO_val (schE ⟨m.g, m.t⟩)
  refine (FEs.one (schE ⟨m.g, m.t⟩) rfl gf131 (valD_out m (by omega)) (schE_ne _)).mono ?_
  unfold szVlM
  simp only at h1
  omega
/-- The number of a structure's labels. -/
def cntStr : StrT → Nat
  | .mk tys vals subs funs _ => vals.length + subs.length + funs.length + (tysFs tys).length
/-- What a structure becomes, said in short. -/
def GoodS (s : StrT) : TG ⊕ Int → Prop
  | .inl t => t.k = 7 ∧ t.ls.length = cntStr s ∧ t.kids.length = cntStr s ∧ (t.ls.Pairwise fun a b => Op.bytesLess a.toList b.toList = true) ∧ szG t ≤ 4 * szStr s
  | .inr e => e ≠ 0
theorem sum_once {S : List ByteArray} (hn : S.Nodup) (g : ByteArray → Nat) (a : ByteArray) (c : Nat) : (S.map fun s => if s = a then c else g s).sum ≤ (S.map g).sum + c := by
  induction S with
  | nil => simp
  | cons x r ih =>
    rw [List.nodup_cons] at hn
    simp only [List.map_cons, List.sum_cons]
    by_cases hx : x = a
    · subst hx
      rw [if_pos rfl]
      have : (r.map fun s => if s = x then c else g s) = r.map g := by
        refine List.map_congr_left fun s hs => ?_
        rw [if_neg (by rintro rfl; exact hn.1 hs)]
      rw [this]; omega
    · rw [if_neg hx]
      have := ih hn.2
      omega
def szM (o : Option TG) : Nat := match o with | some t => szG t | none => 0
theorem mapE_sz {S : List ByteArray} (hn : S.Nodup) (F : List FE) : (S.map fun s => szM (mapE F s)).sum ≤ szF F := by
  refine snocInd (p := fun F => (S.map fun s => szM (mapE F s)).sum ≤ szF F) ?_ ?_ F
  · have : (S.map fun s => szM (mapE [] s)) = S.map fun _ => 0 := rfl
    rw [this]
    have : ∀ l : List ByteArray, (l.map fun _ => 0).sum = 0 := fun l => by induction l with | nil => rfl | cons _ _ ih => simpa using ih
    rw [this]; exact Nat.zero_le _
  · intro F x ih
    have e : szF (F ++ [x]) = szF F + szO x.o := by simp [szF, szs]
    rw [e, mapE_snoc]
    cases hx : x.o with
    | inr _ => simpa [szO] using ih
    | inl t =>
      have := sum_once hn (fun s => szM (mapE F s)) x.l (szG t)
      simp only [szO]
      have e2 : (fun s => szM ((fun s => if s = x.l then some t else mapE F s) s)) = fun s => if s = x.l then szG t else szM (mapE F s) := by
        funext s
        by_cases h : s = x.l <;> simp [h, szM]
      simp only at e2
      rw [e2]
      omega
/-- A structure's result. -/
def strX (F : List FE) : TG ⊕ Int :=
  if (setS (labsE F)).length ≠ F.length then .inr 20 else match firstE F with
  | some e => .inr e
  | none => .inl (.mk 7 0 (setS (labsE F)) ((setS (labsE F)).map fun s => (mapE F s).getD (.mk 0 0 [] [])))
theorem strX_out (F : List FE) : strRes F = outO (strX F) := by
  unfold strRes strX
  split
  · rfl
  · cases firstE F <;> rfl
theorem firstE_mem : ∀ {F : List FE} {e : Int}, firstE F = some e → ∃ x ∈ F, x.o = .inr e
  | x :: r, e, h => by
    rw [firstE] at h
    cases hx : x.o with
    | inl t => rw [hx] at h; obtain ⟨y, hy, h2⟩ := firstE_mem h; exact ⟨y, by simp [hy], h2⟩
    | inr e' => rw [hx] at h; injection h with h; subst h; exact ⟨x, by simp, hx⟩
theorem szGs_sum : ∀ l : List TG, szGs l = (l.map szG).sum
  | [] => rfl
  | t :: r => by simp only [szGs, szGs_sum r, List.map_cons, List.sum_cons]
theorem setS_nodup (l : List ByteArray) : (setS l).Nodup := by
  refine (setS_up l).imp ?_
  rintro a b h rfl
  rw [Go.Proofs.bytesLess_eq, decide_eq_true_iff] at h
  exact List.lt_irrefl _ h
theorem str_good (s : StrT) (F : List FE) (hF : F.map FE.f = allFs s) (hok : ∀ x ∈ F, FEok x) (hsz : szF F + 1 ≤ 4 * szStr s) : GoodS s (strX F) := by
  have hlen : F.length = cntStr s := by
    have := congrArg List.length hF
    obtain ⟨tys, vals, subs, funs, sigs⟩ := s
    simp only [List.length_map, allFs, List.length_append, valFs, subFs, funFs] at this
    simp only [cntStr]; omega
  unfold strX
  split
  · exact (by decide : (20 : Int) ≠ 0)
  · rename_i hd
    have hd : (setS (labsE F)).length = F.length := by simpa using hd
    cases hf : firstE F with
    | some e =>
      obtain ⟨x, hx, h⟩ := firstE_mem hf
      exact (hok x hx).2 e h
    | none =>
      have hm : ∀ s ∈ setS (labsE F), ∃ t, mapE F s = some t := fun s hs => mapE_mem F hf s (setS_mem hs)
      refine ⟨rfl, by rw [← hlen, ← hd]; rfl, by rw [← hlen, ← hd]; simp [TG.kids], setS_up _, ?_⟩
      have h1 := mapE_sz (setS_nodup (labsE F)) F
      have h2 : (((setS (labsE F)).map fun s => (mapE F s).getD (.mk 0 0 [] [])).map szG) = (setS (labsE F)).map fun s => szM (mapE F s) := by
        rw [List.map_map]
        refine List.map_congr_left fun s hs => ?_
        obtain ⟨t, ht⟩ := hm s hs
        simp [ht, szM]
      simp only [szG, szGs_sum, h2]
      omega
theorem absE_sz (st : List Int) (x : TG ⊕ Int) (hx : ∀ e, x = .inr e → e ≠ 0) : szO (absE st x) ≤ st.length + szO x ∧ ∀ e, absE st x = .inr e → e ≠ 0 := by
  have hne : ∀ e, stmE st = some e → e ≠ 0 := by
    intro e h
    unfold stmE at h
    split at h
    · split at h
      · cases h
      · injection h with h; omega
    · injection h with h; omega
  unfold absE
  cases hs : stmE st with
  | some e => exact ⟨by simp [szO], by rintro e' h; injection h with h; subst h; exact hne _ hs⟩
  | none =>
    cases x with
    | inl t => exact ⟨by simp only [szO, bindG_sz]; omega, by simp⟩
    | inr e => exact ⟨by simp [szO], by rintro e' h; injection h with h; subst h; exact hx _ rfl⟩
theorem funE_sz (st : List Int) (xa : TG ⊕ Int) (rst : List Int) (xr : TG ⊕ Int) (ha : ∀ e, xa = .inr e → e ≠ 0) (hr : ∀ e, xr = .inr e → e ≠ 0) : szO (funE st xa rst xr) ≤ st.length + szO xa + rst.length + szO xr + 1 ∧ ∀ e, funE st xa rst xr = .inr e → e ≠ 0 := by
  have h1 := absE_sz rst xr hr
  have h0 := absE_sz st xa ha
  unfold funE
  cases hs : stmE st with
  | some e =>
    refine ⟨by simp [szO], ?_⟩
    have : absE st xa = .inr e := by unfold absE; rw [hs]
    rintro e' h; injection h with h; subst h
    exact h0.2 _ this
  | none =>
    cases xa with
    | inr e => exact ⟨by simp [szO], by rintro e' h; injection h with h; subst h; exact ha _ rfl⟩
    | inl ta =>
      simp only
      cases hb : absE rst xr with
      | inr e => exact ⟨by simp [szO], by rintro e' h; injection h with h; subst h; exact h1.2 _ hb⟩
      | inl tr =>
        have := h1.1
        rw [hb] at this
        simp only [szO] at this
        refine ⟨?_, by simp⟩
        simp only [szO, bindG_sz, szG, szGs]
        omega
theorem GoodS.ne {s : StrT} {x : TG ⊕ Int} (h : GoodS s x) : ∀ e, x = .inr e → e ≠ 0 := by rintro e rfl; exact h
theorem GoodS.sz {s : StrT} {x : TG ⊕ Int} (h : GoodS s x) : szO x ≤ 4 * szStr s := by
  cases x with
  | inl t => exact h.2.2.2.2
  | inr e => simp [szO]
theorem str_any : ∀ (n : Nat) (s : StrT), szStr s ≤ n → n < 1000000000 → ∃ x, FnQ Tryz.prog G0 56 [dStr s] (fun o => o = outO x) ∧ GoodS s x := by
  intro n
  induction n with
  | zero => rintro ⟨tys, vals, subs, funs, sigs⟩ h; simp [szStr] at h
  | succ n ih =>
  rintro ⟨tys, vals, subs, funs, sigs⟩ hsz hn
  rw [szStr, szSubs_eq, szFuns_eq] at hsz
  have h1 : FEs (tysFs tys) (4 * szs szTyM tys) := FEs.flat 4 tys fun m hm => tyM_FE m (by have := szs_mem (sz := szTyM) hm; omega)
  have h2 : FEs (valFs vals) (4 * szs szVlM vals) := FEs.maps (g := fun m : VlM => (m.nm, valD m)) 4 vals fun m hm => vlM_FE m (by have := szs_mem (sz := szVlM) hm; omega)
  have h3 : FEs (subFs subs) (4 * szs szSub subs) := FEs.maps (g := fun m : SubT => (m.nm, subD m)) 4 subs fun m hm => by
    have hm1 := szs_mem (sz := szSub) hm
    obtain ⟨nm, s⟩ := m
    simp only [szSub] at hm1
    obtain ⟨x, hx, hg⟩ := ih s (by omega) (by omega)
    refine (FEs.one (d := subD (.mk nm s)) x rfl gf132 (subD_out nm s x hx) hg.ne).mono ?_
    have := hg.sz
    simp only [szSub]; omega
  have h4 : FEs (funFs funs) (4 * szs szFun funs) := FEs.maps (g := fun m : FunT => (m.nm, funD m)) 4 funs fun m hm => by
    have hm1 := szs_mem (sz := szFun) hm
    obtain ⟨nm, st, a, rst, r⟩ := m
    simp only [szFun] at hm1
    obtain ⟨xa, hxa, hga⟩ := ih a (by omega) (by omega)
    obtain ⟨xr, hxr, hgr⟩ := ih r (by omega) (by omega)
    have hf := funE_sz st xa rst xr hga.ne hgr.ne
    refine (FEs.one (d := funD (.mk nm st a rst r)) (funE st xa rst xr) rfl gf133 (funD_out nm st a rst r _ (fun_out st a rst r xa xr (by omega) (by omega) hxa hxr)) hf.2).mono ?_
    have := hf.1
    have := hga.sz
    have := hgr.sz
    simp only [szFun]; omega
  obtain ⟨F, hF, hok, hs⟩ := ((h1.app h2).app h3).app h4
  have hlen : F.length < 1099511627776 := by
    have hl := congrArg List.length hF
    have l1 : (tysFs tys).length ≤ szs szTyM tys := by
      unfold tysFs
      have : ∀ l : List TyM, (l.flatMap tyFs).length ≤ szs szTyM l := by
        intro l
        induction l with
        | nil => simp
        | cons m r ihl =>
          rw [List.flatMap_cons, List.length_append, szs_cons]
          have : (tyFs m).length ≤ szTyM m := by
            have hln : m.cs.length ≤ szs szCT m.cs := szs_le _ fun c => by unfold szCT; omega
            unfold tyFs szTyM
            split
            · simp
            · simp [conFs]; omega
          omega
      exact this tys
    have l2 : vals.length ≤ szs szVlM vals := szs_le _ fun m => by unfold szVlM; omega
    have l3 : subs.length ≤ szs szSub subs := szs_le _ fun m => by cases m; simp [szSub]
    have l4 : funs.length ≤ szs szFun funs := szs_le _ fun m => by cases m; simp [szFun]
    simp only [List.length_map, List.length_append, valFs, subFs, funFs] at hl
    omega
  refine ⟨strX F, ?_, str_good _ F hF hok (by rw [szStr, szSubs_eq, szFuns_eq]; omega)⟩
  have hc := str_core tys vals subs funs sigs F hF (fun x hx => (hok x hx).1) hlen (by have : tys.length ≤ szs szTyM tys := szs_le _ fun m => by unfold szTyM; omega
                                                                                       omega) (fun m hm => by
    have hm1 := szs_mem (sz := szTyM) hm
    have hln : m.cs.length ≤ szs szCT m.cs := szs_le _ fun c => by unfold szCT; omega
    have e1 : szTyM m = m.nm.size + szT m.t + szs szCT m.cs + 1 := rfl
    refine ⟨by omega, by omega, fun c hc => ?_⟩
    have := szs_mem (sz := szCT) hc
    have e2 : szCT c = c.1.size + szL c.2 + 1 := rfl
    omega)
  rw [strX_out] at hc
  exact hc
end Go.Proofs.YtmjjajhkokdikaaGreat

/- Readings of structures. -/
set_option linter.unusedSimpArgs false
set_option linter.unusedVariables false
namespace Go.Proofs.YtmjjajhkokdikaaGreat
open Go.Vx Go.Vc Go.RowKit
theorem encSigs_eq : ∀ l : List SigT, encSigs l = fl encSig0 l
  | [] => by simp only [encSigs]; rfl
  | x :: r => by simp only [encSigs, fl, encSigs_eq r]
theorem encSig0_len (s : SigT) : (encSig0 s).length = 7 := by cases s; simp only [encSig0, List.length_cons, encStr_len]
theorem fields_TyM : fieldsOf Tryz.prog 54 = [(9, 0), (24, 1), (38, 4)] := by kernel_rfl
theorem fields_VlM : fieldsOf Tryz.prog 155 = [(9, 0), (26, 1)] := by kernel_rfl
theorem fields_Sub : fieldsOf Tryz.prog 157 = [(9, 0), (51, 1)] := by kernel_rfl
theorem fields_FunM : fieldsOf Tryz.prog 161 = [(9, 0), (159, 1)] := by kernel_rfl
theorem fields_SigM : fieldsOf Tryz.prog 220 = [(9, 0), (59, 1)] := by kernel_rfl
theorem fields_Abs : fieldsOf Tryz.prog 59 = [(57, 0), (51, 1)] := by kernel_rfl
theorem fields_Fun : fieldsOf Tryz.prog 159 = [(57, 0), (51, 1), (59, 6)] := by kernel_rfl
theorem fields_Str : fieldsOf Tryz.prog 51 = [(45, 0), (46, 1), (47, 2), (48, 3), (49, 4)] := by kernel_rfl
theorem cells_TyM : Tryz.prog.cellsOf 54 = 5 := by kernel_rfl
theorem cells_VlM : Tryz.prog.cellsOf 155 = 5 := by kernel_rfl
theorem cells_Sub : Tryz.prog.cellsOf 157 = 6 := by kernel_rfl
theorem cells_FunM : Tryz.prog.cellsOf 161 = 13 := by kernel_rfl
theorem cells_SigM : Tryz.prog.cellsOf 220 = 7 := by kernel_rfl
theorem cells_Abs : Tryz.prog.cellsOf 59 = 6 := by kernel_rfl
theorem cells_Fun : Tryz.prog.cellsOf 159 = 12 := by kernel_rfl
theorem cells_Str : Tryz.prog.cellsOf 51 = 5 := by kernel_rfl
theorem cells_Cs : Tryz.prog.cellsOf 38 = 1 := by kernel_rfl
theorem cells_Is : Tryz.prog.cellsOf 57 = 1 := by kernel_rfl
theorem cells_Tys : Tryz.prog.cellsOf 45 = 1 := by kernel_rfl
theorem cells_Vls : Tryz.prog.cellsOf 46 = 1 := by kernel_rfl
theorem cells_Sbs : Tryz.prog.cellsOf 47 = 1 := by kernel_rfl
theorem cells_Fns : Tryz.prog.cellsOf 48 = 1 := by kernel_rfl
theorem cells_Sgs : Tryz.prog.cellsOf 49 = 1 := by kernel_rfl
theorem und_Is : Tryz.prog.underlying 57 = some (.slice 3) := by kernel_rfl
theorem und_Tys : Tryz.prog.underlying 45 = some (.slice 54) := by kernel_rfl
theorem und_Vls : Tryz.prog.underlying 46 = some (.slice 155) := by kernel_rfl
theorem und_Sbs : Tryz.prog.underlying 47 = some (.slice 157) := by kernel_rfl
theorem und_Fns : Tryz.prog.underlying 48 = some (.slice 161) := by kernel_rfl
theorem und_Sgs : Tryz.prog.underlying 49 = some (.slice 220) := by kernel_rfl
section
variable {H : Type} {enc : TypeId × Value → H} {W : World} {sp : Nat → Bool}
theorem read_name {fuel : Nat} {v : Value} {y : DataW H × List MemPlace} (h : DataW.trod enc Tryz.prog W 0 sp true fuel 9 [v] = some y) : ∃ s : ByteArray, v = .string s ∧ Rows.uptoBulk y.1 = s.size + 1 := by
  obtain ⟨s, hk, rfl, _⟩ := DataW.trod_string undStr h
  simp at hk
  exact ⟨s, hk, by simp [Rows.uptoBulk]⟩
theorem appR' {w : World} {S : Nat → Prop} {xs ys : List D} {vs us : List Value} (h : RepDs S w xs vs) (h' : RepDs S w ys us) : RepDs S w (xs ++ ys) (vs ++ us) := by
  induction xs generalizing vs with
  | nil =>
    simp only [RepDs] at h
    subst h; exact h'
  | cons x r ih =>
    simp only [RepDs] at h
    obtain ⟨v, s, rfl, h1, h2⟩ := h
    simp only [List.cons_append, RepDs]
    exact ⟨v, s ++ us, rfl, h1, ih h2⟩
theorem oneR {w : World} {S : Nat → Prop} {x : D} {v : Value} (h : RepD S w x v) : RepDs S w [x] [v] := by
  simp only [RepDs]; exact ⟨v, [], rfl, h, rfl⟩
set_option maxRecDepth 20000 in
theorem read_CT : ∀ n, ReadG enc W sp n 43 encCT szCT := by
  intro fuel cs x h hb
  obtain ⟨xs, n, rfl, rfl, hl, hxl, hf⟩ := trod_fields fields_C (by simp) h
  rw [cellsC] at hl
  have f0 := hf 0 _ _ rfl
  have f1 := hf 1 _ _ rfl
  match xs, hxl with
  | [y0, y1], _ =>
    match cs, hl with
    | [v0, v1], _ =>
      rw [cellsStr] at f0
      rw [cellsL] at f1
      obtain ⟨s, rfl, e0⟩ := read_name f0
      obtain ⟨A, m, c, hs⟩ := slice_of und_L f1
      simp at hs
      subst hs
      simp only [List.map_cons, List.map_nil, Rows.uptoBulk, Rows.uptoBulkAll] at hb ⊢
      obtain ⟨ts, k1, k2⟩ := open_L f1 (by omega)
      refine ⟨(s, ts), appR' (xs := [.str s]) (oneR (by simp only [RepD])) (oneR k1), by unfold szCT; simp only; omega⟩
set_option maxRecDepth 20000 in
theorem read_TyM : ∀ n, ReadG enc W sp n 54 encTyM szTyM := by
  intro fuel cs x h hb
  obtain ⟨xs, n, rfl, rfl, hl, hxl, hf⟩ := trod_fields fields_TyM (by simp) h
  rw [cells_TyM] at hl
  have f0 := hf 0 _ _ rfl
  have f1 := hf 1 _ _ rfl
  have f2 := hf 2 _ _ rfl
  match xs, hxl with
  | [y0, y1, y2], _ =>
    match cs, hl with
    | [v0, v1, v2, v3, v4], _ =>
      rw [cellsStr] at f0
      rw [cellsT] at f1
      rw [cells_Cs] at f2
      obtain ⟨s, rfl, e0⟩ := read_name f0
      obtain ⟨A, m, c, hs⟩ := slice_of und_C f2
      simp at hs
      subst hs
      simp only [List.map_cons, List.map_nil, Rows.uptoBulk, Rows.uptoBulkAll] at hb ⊢
      obtain ⟨t, k1, k2⟩ := open_T n _ y1 f1 (by omega)
      obtain ⟨ts, k3, _, k4, _⟩ := open_gen (f := encCT) 40 (by decide) und_C cellsC encCT_len (fun m _ => read_CT m) f2 (by omega)
      refine ⟨⟨s, t, ts⟩, appR' (xs := [.str s]) (oneR (by simp only [RepD])) (appR' (xs := encT t) k1 (oneR k3)), by unfold szTyM; simp only; omega⟩
set_option maxRecDepth 20000 in
theorem read_VlM : ∀ n, ReadG enc W sp n 155 encVlM szVlM := by
  intro fuel cs x h hb
  obtain ⟨xs, n, rfl, rfl, hl, hxl, hf⟩ := trod_fields fields_VlM (by simp) h
  rw [cells_VlM] at hl
  have f0 := hf 0 _ _ rfl
  have f1 := hf 1 _ _ rfl
  match xs, hxl with
  | [y0, y1], _ =>
    match cs, hl with
    | [v0, v1, v2, v3, v4], _ =>
      rw [cellsStr] at f0
      rw [cellsS] at f1
      obtain ⟨s, rfl, e0⟩ := read_name f0
      simp only [List.map_cons, List.map_nil, Rows.uptoBulk, Rows.uptoBulkAll] at hb ⊢
      obtain ⟨sc, k1, k2⟩ := open_S f1 (by omega)
      refine ⟨⟨s, sc.g, sc.t⟩, appR' (xs := [.str s]) (oneR (by simp only [RepD])) k1, by unfold szVlM; simp only; omega⟩
abbrev encAb (a : List Int × StrT) : List D := encAbs a.1 a.2
def szAb (a : List Int × StrT) : Nat := a.1.length + szStr a.2
theorem encAb_len (a : List Int × StrT) : (encAb a).length = 6 := by simp [encAb, encStr_len]
structure FunD where
  st : List Int
  a : StrT
  rst : List Int
  r : StrT
abbrev encFd (x : FunD) : List D := encFn x.st x.a x.rst x.r
def szFd (x : FunD) : Nat := x.st.length + szStr x.a + x.rst.length + szStr x.r
theorem encFd_len (x : FunD) : (encFd x).length = 12 := by simp [encFd, encFn, encStr_len]
set_option maxRecDepth 20000 in
theorem read_Ab {N : Nat} (ih : ∀ m, m < N → ReadG enc W sp m 51 encStr szStr) : ∀ m, m ≤ N → ReadG enc W sp m 59 encAb szAb := by
  intro fuel hN cs x h hb
  obtain ⟨xs, n, rfl, rfl, hl, hxl, hf⟩ := trod_fields fields_Abs (by simp) h
  rw [cells_Abs] at hl
  have f0 := hf 0 _ _ rfl
  have f1 := hf 1 _ _ rfl
  match xs, hxl with
  | [y0, y1], _ =>
    match cs, hl with
    | [v0, v1, v2, v3, v4, v5], _ =>
      rw [cells_Is] at f0
      rw [cells_Str] at f1
      obtain ⟨A, m, c, hs⟩ := slice_of und_Is f0
      simp at hs
      subst hs
      simp only [List.map_cons, List.map_nil, Rows.uptoBulk, Rows.uptoBulkAll] at hb ⊢
      obtain ⟨st, k1, k2⟩ := open_I f0 (by omega)
      obtain ⟨s, k3, k4⟩ := ih n (by omega) _ y1 f1 (by omega)
      exact ⟨(st, s), appR' (xs := [dI st]) (oneR k1) k3, by unfold szAb; simp only; omega⟩
set_option maxRecDepth 20000 in
theorem read_Fd {N : Nat} (ih : ∀ m, m < N → ReadG enc W sp m 51 encStr szStr) : ∀ m, m ≤ N → ReadG enc W sp m 159 encFd szFd := by
  intro fuel hN cs x h hb
  obtain ⟨xs, n, rfl, rfl, hl, hxl, hf⟩ := trod_fields fields_Fun (by simp) h
  rw [cells_Fun] at hl
  have f0 := hf 0 _ _ rfl
  have f1 := hf 1 _ _ rfl
  have f2 := hf 2 _ _ rfl
  match xs, hxl with
  | [y0, y1, y2], _ =>
    match cs, hl with
    | [v0, v1, v2, v3, v4, v5, v6, v7, v8, v9, v10, v11], _ =>
      rw [cells_Is] at f0
      rw [cells_Str] at f1
      rw [cells_Abs] at f2
      obtain ⟨A, m, c, hs⟩ := slice_of und_Is f0
      simp at hs
      subst hs
      simp only [List.map_cons, List.map_nil, Rows.uptoBulk, Rows.uptoBulkAll] at hb ⊢
      obtain ⟨st, k1, k2⟩ := open_I f0 (by omega)
      obtain ⟨a, k3, k4⟩ := ih n (by omega) _ y1 f1 (by omega)
      obtain ⟨⟨rst, r⟩, k5, k6⟩ := read_Ab ih n (by omega) _ y2 f2 (by omega)
      simp only [szAb] at k6
      exact ⟨⟨st, a, rst, r⟩, appR' (xs := [dI st]) (oneR k1) (appR' (xs := encStr a) k3 k5), by unfold szFd; simp only; omega⟩
set_option maxRecDepth 20000 in
theorem read_Sub {N : Nat} (ih : ∀ m, m < N → ReadG enc W sp m 51 encStr szStr) : ∀ m, m ≤ N → ReadG enc W sp m 157 encSub0 szSub := by
  intro fuel hN cs x h hb
  obtain ⟨xs, n, rfl, rfl, hl, hxl, hf⟩ := trod_fields fields_Sub (by simp) h
  rw [cells_Sub] at hl
  have f0 := hf 0 _ _ rfl
  have f1 := hf 1 _ _ rfl
  match xs, hxl with
  | [y0, y1], _ =>
    match cs, hl with
    | [v0, v1, v2, v3, v4, v5], _ =>
      rw [cellsStr] at f0
      rw [cells_Str] at f1
      obtain ⟨nm, rfl, e0⟩ := read_name f0
      simp only [List.map_cons, List.map_nil, Rows.uptoBulk, Rows.uptoBulkAll] at hb ⊢
      obtain ⟨s, k3, k4⟩ := ih n (by omega) _ y1 f1 (by omega)
      refine ⟨.mk nm s, ?_, by simp only [szSub]; omega⟩
      simp only [encSub0]
      exact appR' (xs := [.str nm]) (oneR (by simp only [RepD])) k3
set_option maxRecDepth 20000 in
theorem read_FunM {N : Nat} (ih : ∀ m, m < N → ReadG enc W sp m 51 encStr szStr) : ∀ m, m ≤ N → ReadG enc W sp m 161 encFun0 szFun := by
  intro fuel hN cs x h hb
  obtain ⟨xs, n, rfl, rfl, hl, hxl, hf⟩ := trod_fields fields_FunM (by simp) h
  rw [cells_FunM] at hl
  have f0 := hf 0 _ _ rfl
  have f1 := hf 1 _ _ rfl
  match xs, hxl with
  | [y0, y1], _ =>
    match cs, hl with
    | v0 :: r, hl =>
      rw [cellsStr] at f0
      rw [cells_Fun] at f1
      obtain ⟨nm, rfl, e0⟩ := read_name (v := v0) f0
      simp only [List.map_cons, List.map_nil, Rows.uptoBulk, Rows.uptoBulkAll] at hb ⊢
      have hr : List.take 12 (List.drop 1 (Value.string nm :: r)) = r := by
        rw [List.drop_succ_cons, List.drop_zero, List.take_of_length_le (by simp at hl; omega)]
      rw [hr] at f1
      obtain ⟨⟨st, a, rst, rs⟩, k3, k4⟩ := read_Fd ih n (by omega) _ y1 f1 (by omega)
      simp only [szFd] at k4
      refine ⟨.mk nm st a rst rs, ?_, by simp only [szFun]; omega⟩
      simp only [encFun0]
      exact appR' (xs := [.str nm]) (oneR (by simp only [RepD])) k3
set_option maxRecDepth 20000 in
theorem read_SigM {N : Nat} (ih : ∀ m, m < N → ReadG enc W sp m 51 encStr szStr) : ∀ m, m ≤ N → ReadG enc W sp m 220 encSig0 (fun _ => 0) := by
  intro fuel hN cs x h hb
  obtain ⟨xs, n, rfl, rfl, hl, hxl, hf⟩ := trod_fields fields_SigM (by simp) h
  rw [cells_SigM] at hl
  have f0 := hf 0 _ _ rfl
  have f1 := hf 1 _ _ rfl
  match xs, hxl with
  | [y0, y1], _ =>
    match cs, hl with
    | v0 :: r, hl =>
      rw [cellsStr] at f0
      rw [cells_Abs] at f1
      obtain ⟨nm, rfl, e0⟩ := read_name (v := v0) f0
      simp only [List.map_cons, List.map_nil, Rows.uptoBulk, Rows.uptoBulkAll] at hb ⊢
      have hr : List.take 6 (List.drop 1 (Value.string nm :: r)) = r := by
        rw [List.drop_succ_cons, List.drop_zero, List.take_of_length_le (by simp at hl; omega)]
      rw [hr] at f1
      obtain ⟨⟨st, s⟩, k3, k4⟩ := read_Ab ih n (by omega) _ y1 f1 (by omega)
      refine ⟨.mk nm st s, ?_, Nat.zero_le _⟩
      simp only [encSig0]
      exact appR' (xs := [.str nm]) (oneR (by simp only [RepD])) k3
set_option maxRecDepth 20000 in
theorem read_Str : ∀ n, ReadG enc W sp n 51 encStr szStr := by
  intro fuel
  induction fuel using Nat.strongRecOn with
  | _ fuel ih =>
    intro cs x h hb
    obtain ⟨xs, n, rfl, rfl, hl, hxl, hf⟩ := trod_fields fields_Str (by simp) h
    rw [cells_Str] at hl
    have f0 := hf 0 _ _ rfl
    have f1 := hf 1 _ _ rfl
    have f2 := hf 2 _ _ rfl
    have f3 := hf 3 _ _ rfl
    have f4 := hf 4 _ _ rfl
    match xs, hxl with
    | [y0, y1, y2, y3, y4], _ =>
      match cs, hl with
      | [v0, v1, v2, v3, v4], _ =>
        rw [cells_Tys] at f0
        rw [cells_Vls] at f1
        rw [cells_Sbs] at f2
        rw [cells_Fns] at f3
        rw [cells_Sgs] at f4
        obtain ⟨A0, m0, c0, hs⟩ := slice_of und_Tys f0
        simp at hs
        subst hs
        obtain ⟨A1, m1, c1, hs⟩ := slice_of und_Vls f1
        simp at hs
        subst hs
        obtain ⟨A2, m2, c2, hs⟩ := slice_of und_Sbs f2
        simp at hs
        subst hs
        obtain ⟨A3, m3, c3, hs⟩ := slice_of und_Fns f3
        simp at hs
        subst hs
        obtain ⟨A4, m4, c4, hs⟩ := slice_of und_Sgs f4
        simp at hs
        subst hs
        simp only [List.map_cons, List.map_nil, Rows.uptoBulk, Rows.uptoBulkAll] at hb ⊢
        obtain ⟨tys, a0, _, b0, _⟩ := open_gen (f := encTyM) 80 (by decide) und_Tys cells_TyM (fun _ => rfl) (fun m _ => read_TyM m) f0 (by omega)
        obtain ⟨vals, a1, _, b1, _⟩ := open_gen (f := encVlM) 64 (by decide) und_Vls cells_VlM (fun _ => rfl) (fun m _ => read_VlM m) f1 (by omega)
        obtain ⟨subs, a2, _, b2, _⟩ := open_gen (f := encSub0) 136 (by decide) und_Sbs cells_Sub encSub0_len (fun m hm => read_Sub (N := n + 1) ih m (by omega)) f2 (by omega)
        obtain ⟨funs, a3, _, b3, _⟩ := open_gen (f := encFun0) 304 (by decide) und_Fns cells_FunM encFun0_len (fun m hm => read_FunM (N := n + 1) ih m (by omega)) f3 (by omega)
        obtain ⟨sigs, a4, _, b4, _⟩ := open_gen (f := encSig0) 160 (by decide) und_Sgs cells_SigM encSig0_len (fun m hm => read_SigM (N := n + 1) ih m (by omega)) f4 (by omega)
        refine ⟨.mk tys vals subs funs sigs, ?_, by rw [szStr, szSubs_eq, szFuns_eq]; omega⟩
        simp only [encStr, encSubs_eq, encFuns_eq, encSigs_eq]
        exact appR' (xs := [_]) (oneR a0) (appR' (xs := [_]) (oneR a1) (appR' (xs := [_]) (oneR a2) (appR' (xs := [_]) (oneR a3) (oneR a4))))
theorem open_Str {fuel : Nat} {cs : List Value} {x : DataW H × List MemPlace} (h : DataW.trod enc Tryz.prog W 0 sp true fuel 51 cs = some x) (hb : Rows.uptoBulk x.1 ≤ 1048576) : ∃ s : StrT, RepDs (InW W) W (encStr s) cs ∧ szStr s ≤ Rows.uptoBulk x.1 := read_Str fuel cs x h hb
theorem open_Ab {fuel : Nat} {cs : List Value} {x : DataW H × List MemPlace} (h : DataW.trod enc Tryz.prog W 0 sp true fuel 59 cs = some x) (hb : Rows.uptoBulk x.1 ≤ 1048576) : ∃ a : List Int × StrT, RepDs (InW W) W (encAb a) cs ∧ szAb a ≤ Rows.uptoBulk x.1 := read_Ab (N := fuel) (fun m _ => read_Str m) fuel (Nat.le_refl _) cs x h hb
theorem open_Fd {fuel : Nat} {cs : List Value} {x : DataW H × List MemPlace} (h : DataW.trod enc Tryz.prog W 0 sp true fuel 159 cs = some x) (hb : Rows.uptoBulk x.1 ≤ 1048576) : ∃ a : FunD, RepDs (InW W) W (encFd a) cs ∧ szFd a ≤ Rows.uptoBulk x.1 := read_Fd (N := fuel) (fun m _ => read_Str m) fuel (Nat.le_refl _) cs x h hb
end
end Go.Proofs.YtmjjajhkokdikaaGreat

/- Plain laws: what stands free in a turned type. -/
set_option linter.unusedSimpArgs false
set_option linter.unusedVariables false
namespace Go.Proofs.YtmjjajhkokdikaaGreat
open Go.Vx Go.Vc Go.RowKit

theorem lastI_neg (s : List Int) (n : Int) : lastI s n < 0 ↔ n ∉ s := by
  unfold lastI
  constructor
  · intro h hn
    obtain ⟨i, hi, rfl⟩ := List.getElem_of_mem hn
    have hmem : (((i : Nat) : Int), s[i]) ∈ prI s := by
      unfold prI
      rw [List.mem_map]
      refine ⟨s.length - 1 - i, by rw [List.mem_range]; omega, ?_⟩
      have h1 : s.length - 1 - (s.length - 1 - i) = i := by omega
      rw [h1]
      simp [ixI, List.getD, hi]
    have h2 : ((prI s).find? fun p => p.2 == s[i]).isSome = true := by
      rw [List.find?_isSome]
      exact ⟨_, hmem, by simp⟩
    obtain ⟨p, hp⟩ := Option.isSome_iff_exists.1 h2
    rw [hp] at h
    have := List.mem_of_find?_eq_some hp
    unfold prI at this
    rw [List.mem_map] at this
    obtain ⟨j, _, rfl⟩ := this
    simp at h
    omega
  · intro hn
    have h2 : (prI s).find? (fun p => p.2 == n) = none := by
      rw [List.find?_eq_none]
      intro p hp
      unfold prI at hp
      rw [List.mem_map] at hp
      obtain ⟨j, hj, rfl⟩ := hp
      rw [List.mem_range] at hj
      have h3 : s.length - 1 - j < s.length := by omega
      simp only [ixI, List.getD, List.getElem?_eq_getElem h3, Option.getD_some, beq_iff_eq]
      intro e
      exact hn (e ▸ List.getElem_mem h3)
    rw [h2]
    decide
theorem mem_compactTo (d : Array Int) (x : Int) : ∀ m, x ∈ Go.Lib.compactUpTo d m ↔ ∃ j, j < m ∧ d[j]! = x
  | 0 => by simp [Go.Lib.compactUpTo]
  | m + 1 => by
    rw [Go.Lib.compactUpTo_succ, List.mem_append, mem_compactTo d x m]
    constructor
    · rintro (⟨j, hj, h⟩ | h)
      · exact ⟨j, by omega, h⟩
      · split at h
        · simp at h; exact ⟨m, by omega, h.symm⟩
        · cases h
    · rintro ⟨j, hj, h⟩
      by_cases hjm : j < m
      · exact .inl ⟨j, hjm, h⟩
      · obtain rfl : j = m := by omega
        by_cases hk : Go.Lib.keeps d j = true
        · right; rw [if_pos hk]; simp [h]
        · left
          have hj0 : 0 < j := by
            rcases Nat.eq_zero_or_pos j with h0 | h0
            · subst h0; exact absurd (Go.Lib.keeps_lt_one d 0 (by omega)) hk
            · exact h0
          have he : d[j]! = d[j - 1]! := by
            by_cases he : d[j]! = d[j - 1]!
            · exact he
            · exact absurd (Go.Lib.keeps_pos he) hk
          exact ⟨j - 1, by omega, by rw [← he]; exact h⟩
theorem mem_compact (l : List Int) (x : Int) : x ∈ Go.Lib.compact l ↔ x ∈ l := by
  unfold Go.Lib.compact
  rw [mem_compactTo]
  constructor
  · rintro ⟨j, hj, rfl⟩
    simp only [List.getElem!_toArray]
    rw [getElem!_pos l j hj]
    exact List.getElem_mem hj
  · intro h
    obtain ⟨i, hi, rfl⟩ := List.getElem_of_mem h
    refine ⟨i, hi, ?_⟩
    simp only [List.getElem!_toArray]
    rw [getElem!_pos l i hi]
theorem mem_freeS (t : TG) (x : Int) : x ∈ freeS t ↔ x ∈ frG t [] := by
  unfold freeS srtI
  rw [mem_compact, List.mem_mergeSort]
theorem mem_frGs (l : List TG) (s : List Int) (n : Int) : n ∈ frGs l s ↔ ∃ u ∈ l, n ∈ frG u s := by
  induction l with
  | nil => simp [frGs]
  | cons t r ih => rw [frGs, List.mem_append, ih]; simp
theorem mem_snocB (k p n : Int) (s : List Int) : n ∉ (if bndG k = true then s ++ [p] else s) ↔ n ∉ s ∧ (bndG k = true → n ≠ p) := by
  split <;> simp_all
theorem mem_frG : ∀ (t : TG) (s : List Int) (n : Int), n ∈ frG t s ↔ n ∈ frG t [] ∧ n ∉ s := by
  refine TG.ind fun k p ls l ih s n => ?_
  have key : ∀ s, n ∈ frG (.mk k p ls l) s ↔ n ∉ s ∧ ((k = 6 ∧ n = p) ∨ ((bndG k = true → n ≠ p) ∧ ∃ u ∈ l, n ∈ frG u [])) := by
    intro s
    rw [frG_mk, List.mem_append, mem_frGs]
    have h1 : (∃ u ∈ l, n ∈ frG u (if bndG k = true then s ++ [p] else s)) ↔ n ∉ s ∧ (bndG k = true → n ≠ p) ∧ ∃ u ∈ l, n ∈ frG u [] := by
      constructor
      · rintro ⟨u, hu, h⟩
        have h := (ih u hu _ n).1 h
        have h2 := (mem_snocB k p n s).1 h.2
        exact ⟨h2.1, h2.2, u, hu, h.1⟩
      · rintro ⟨h2, h3, u, hu, h⟩
        exact ⟨u, hu, (ih u hu _ n).2 ⟨h, (mem_snocB k p n s).2 ⟨h2, h3⟩⟩⟩
    rw [h1]
    have hl := lastI_neg s p
    by_cases h6 : k = 6 ∧ lastI s p < 0
    · rw [if_pos h6]
      have h6 : k = 6 ∧ p ∉ s := ⟨h6.1, hl.1 h6.2⟩
      simp only [List.mem_singleton]
      constructor
      · rintro (rfl | ⟨h2, h3, h4⟩)
        · exact ⟨h6.2, .inl ⟨h6.1, rfl⟩⟩
        · exact ⟨h2, .inr ⟨h3, h4⟩⟩
      · rintro ⟨h2, ⟨_, h3⟩ | ⟨h3, h4⟩⟩
        · exact .inl h3
        · exact .inr ⟨h2, h3, h4⟩
    · rw [if_neg h6]
      constructor
      · rintro (h | ⟨h2, h3, h4⟩)
        · cases h
        · exact ⟨h2, .inr ⟨h3, h4⟩⟩
      · rintro ⟨h2, ⟨h3, rfl⟩ | ⟨h3, h4⟩⟩
        · exact absurd ⟨h3, hl.2 h2⟩ h6
        · exact .inr ⟨h2, h3, h4⟩
  rw [key s, key []]
  simp only [List.not_mem_nil, not_false_eq_true, true_and]
  exact And.comm
theorem fv_mk (k p : Int) (ls : List ByteArray) (l : List TG) (n : Int) : n ∈ frG (.mk k p ls l) [] ↔ (k = 6 ∧ n = p) ∨ ((bndG k = true → n ≠ p) ∧ ∃ u ∈ l, n ∈ frG u []) := by
  rw [frG_mk, List.mem_append, mem_frGs]
  have h1 : (∃ u ∈ l, n ∈ frG u (if bndG k = true then [] ++ [p] else [])) ↔ (bndG k = true → n ≠ p) ∧ ∃ u ∈ l, n ∈ frG u [] := by
    constructor
    · rintro ⟨u, hu, h⟩
      have h := (mem_frG u _ n).1 h
      have h2 := (mem_snocB k p n []).1 h.2
      exact ⟨h2.2, u, hu, h.1⟩
    · rintro ⟨h3, u, hu, h⟩
      exact ⟨u, hu, (mem_frG u _ n).2 ⟨h, (mem_snocB k p n []).2 ⟨by simp, h3⟩⟩⟩
  rw [h1]
  have hl : lastI [] p < 0 := (lastI_neg [] p).2 (by simp)
  simp [hl]
theorem fv_bind (k : Int) (hk : bndG k = true) (t : TG) (x : Int) : ∀ l : List Int, x ∈ frG (bindG k l t) [] ↔ x ∈ frG t [] ∧ x ∉ l
  | [] => by simp [bindG]
  | n :: r => by
    have h := fv_bind k hk t x r
    have e : bindG k (n :: r) t = .mk k n [] [bindG k r t] := rfl
    have h6 : k ≠ 6 := by rintro rfl; simp [bndG] at hk
    have hex : (∃ u ∈ [bindG k r t], x ∈ frG u []) ↔ x ∈ frG (bindG k r t) [] := by simp
    rw [e, fv_mk, hex, h]
    simp only [List.mem_cons, not_or, h6, false_and, false_or, hk, true_implies]
    exact ⟨fun ⟨a, b, c⟩ => ⟨b, a, c⟩, fun ⟨b, a, c⟩ => ⟨a, b, c⟩⟩
theorem fv_turn (f x : Int) : ∀ t : Tp, right t = true → (x ∈ frG (turnG f t) [] ↔ hasN 6 x t ∨ ∃ n, hasN 8 n t ∧ x = IntKind.i64.wrap (f + n)) := by
  refine Tp.ind fun k n ks ih h1 => ?_
  have hk : ∀ kind y, hasN kind y (.mk k n ks) ↔ (k = kind ∧ n = y) ∨ ∃ t ∈ ks, hasN kind y t := fun kind y => by rw [hasN, hasL_iff]
  simp only [hk]
  rw [right] at h1
  split at h1
  · rename_i hk1
    simp only [Bool.or_eq_true, beq_iff_eq, Bool.and_eq_true] at hk1 h1
    have : ks = [] := List.eq_nil_of_length_eq_zero (by omega)
    subst this
    have hk1 : k = 1 ∨ k = 2 ∨ k = 3 := hk1
    rw [turnG, if_pos hk1, fv_mk]
    simp only [List.not_mem_nil, false_and, exists_false, and_false, or_false]
    constructor
    · rintro ⟨h, _⟩; omega
    · rintro (⟨h, _⟩ | ⟨m, ⟨h, _⟩, _⟩) <;> omega
  · split at h1
    · rename_i hk1 hk4
      simp only [Bool.or_eq_true, beq_iff_eq, Bool.and_eq_true] at hk4 h1
      have hr := (rights_iff ks).1 h1.2.2
      rw [turnG, if_neg (by omega), if_neg (by omega), if_neg (by omega), fv_mk, turnGs_map]
      have hb : bndG (if k = 5 then 5 else 4) = false := by split <;> rfl
      have h6 : (if k = 5 then 5 else 4 : Int) ≠ 6 := by split <;> decide
      have hex : (∃ u ∈ ks.map (turnG f), x ∈ frG u []) ↔ ∃ u ∈ ks, x ∈ frG (turnG f u) [] := by
        simp only [List.mem_map]
        constructor
        · rintro ⟨_, ⟨u, hu, rfl⟩, h⟩; exact ⟨u, hu, h⟩
        · rintro ⟨u, hu, h⟩; exact ⟨_, ⟨u, hu, rfl⟩, h⟩
      rw [hex]
      simp only [hb, h6, false_and, false_or, Bool.false_eq_true, false_implies, true_and]
      constructor
      · rintro ⟨u, hu, h⟩
        rcases (ih u hu (hr u hu)).1 h with h | ⟨m, h, e⟩
        · exact .inl (.inr ⟨u, hu, h⟩)
        · exact .inr ⟨m, .inr ⟨u, hu, h⟩, e⟩
      · rintro ((⟨h, _⟩ | ⟨u, hu, h⟩) | ⟨m, ⟨h, _⟩ | ⟨u, hu, h⟩, e⟩)
        · omega
        · exact ⟨u, hu, (ih u hu (hr u hu)).2 (.inl h)⟩
        · omega
        · exact ⟨u, hu, (ih u hu (hr u hu)).2 (.inr ⟨m, h, e⟩)⟩
    · split at h1
      · rename_i hk6
        simp only [Bool.or_eq_true, beq_iff_eq, Bool.and_eq_true, decide_eq_true_eq] at hk6 h1
        have : ks = [] := List.eq_nil_of_length_eq_zero (by omega)
        subst this
        simp only [List.not_mem_nil, false_and, exists_false, or_false]
        by_cases e6 : k = 6
        · subst e6
          rw [turnG, if_neg (by omega), if_pos rfl, varG, fv_mk]
          simp
          exact eq_comm
        · by_cases e8 : k = 8
          · subst e8
            rw [turnG, if_neg (by omega), if_neg (by omega), if_pos rfl, varG, fv_mk]
            simp
          · rw [turnG, if_neg (by omega), if_neg e6, if_neg e8, fv_mk, turnGs]
            have h4 : (if k = 5 then 5 else 4 : Int) ≠ 6 := by split <;> decide
            simp [h4, e6, e8]
      · cases h1
theorem len_same {l m : List Int} (hl : l.Nodup) (hm : m.Nodup) (h : ∀ x, x ∈ l ↔ x ∈ m) : l.length = m.length := ((List.perm_ext_iff_of_nodup hl hm).2 h).length_eq
theorem len_sub {l m : List Int} (hl : l.Nodup) (hm : m.Nodup) (h : ∀ x, x ∈ l → x ∈ m) : l.length ≤ m.length := by
  have : l.length = (m.filter (fun x => decide (x ∈ l))).length := len_same hl (hm.filter _) fun x => by
    simp only [List.mem_filter, decide_eq_true_eq]
    exact ⟨fun hx => ⟨h x hx, hx⟩, fun hx => hx.2⟩
  rw [this]
  exact List.length_filter_le _ _
theorem fnd_nodup (kind : Int) : ∀ (t : Tp) (acc : List Int), acc.Nodup → (fnd kind t acc).Nodup := by
  refine Tp.ind fun k n ks ih acc h => ?_
  rw [fnd]
  have key : ∀ (l : List Tp) (a : List Int), (∀ t ∈ l, t ∈ ks) → a.Nodup → (fndL kind l a).Nodup := by
    intro l
    induction l with
    | nil => intro a _ ha; simpa [fndL] using ha
    | cons t r ihl =>
      intro a hm ha
      rw [fndL]
      exact ihl _ (fun u hu => hm u (by simp [hu])) (ih t (hm t (by simp)) a ha)
  refine key _ _ (fun _ h => h) ?_
  split
  · rename_i hk
    rw [List.nodup_append]
    refine ⟨h, by simp, fun a ha b hb => ?_⟩
    simp at hb
    subst hb
    rintro rfl
    exact hk.2 ha
  · exact h
theorem isUp_mem : ∀ (l : List Int) (i : Int), isUp l i = true → ∀ x ∈ l, i ≤ x ∧ x < i + l.length
  | y :: r, i, h, x, hx => by
    rw [isUp, Bool.and_eq_true, decide_eq_true_eq] at h
    rcases List.mem_cons.1 hx with rfl | hx
    · simp; omega
    · have := isUp_mem r (i + 1) h.2 x hx
      simp only [List.length_cons]; omega
theorem mem_upI (k : Int) (n : Nat) (x : Int) : x ∈ upI k n ↔ k ≤ x ∧ x < k + n := by
  unfold upI
  simp only [List.mem_map, List.mem_range]
  constructor
  · rintro ⟨i, hi, rfl⟩; omega
  · rintro ⟨h1, h2⟩; exact ⟨(x - k).toNat, by omega, by omega⟩
theorem topI_mem : ∀ (l : List Int) (k : Int), ∀ x ∈ l, x < topI l k
  | y :: r, k, x, hx => by
    rw [topI]
    rcases List.mem_cons.1 hx with rfl | hx
    · have := topI_ge r (max k (x + 1)); omega
    · exact topI_mem r _ x hx
theorem mem_fnd0 (kind x : Int) (t : Tp) : x ∈ fnd kind t [] ↔ hasN kind x t := by rw [mem_fnd]; simp
theorem free_typ {t : Tp} (h : okT t = true) : (∀ x, x ∈ freeS (turnG 0 t) ↔ x ∈ fnd 6 t []) ∧ (freeS (turnG 0 t)).length = (fnd 6 t []).length := by
  have hf := (okT_facts t).1 h
  have h1 : ∀ x, x ∈ freeS (turnG 0 t) ↔ x ∈ fnd 6 t [] := fun x => by
    rw [mem_freeS, fv_turn 0 x t hf.1, mem_fnd0]
    constructor
    · rintro (h | ⟨n, h, _⟩)
      · exact h
      · exact absurd h (hf.2.2.1 n)
    · exact .inl
  exact ⟨h1, len_same (freeS_nodup _) (fnd_nodup 6 t [] (by simp)) h1⟩
theorem free_sch {s : Sc} (hz : szT s.t < 1099511627776) (h : okS s = true) : (freeS (schG s)).length = (fnd 6 s.t []).length := by
  refine len_same (freeS_nodup _) (fnd_nodup 6 s.t [] (by simp)) fun x => ?_
  unfold okS at h
  simp only [Bool.and_eq_true] at h
  obtain ⟨⟨h1, _⟩, h3⟩ := h
  have hr := h1
  unfold rightS at hr
  simp only [Bool.and_eq_true, decide_eq_true_eq] at hr
  obtain ⟨hr1, hr2, hr3⟩ := hr
  have hlow : ∀ y ∈ fnd 6 s.t [], y ≤ 2147483647 := fun y hy => by
    unfold lowT at h3
    simp only [Bool.not_eq_true', List.any_eq_false, decide_eq_true_eq] at h3
    have := h3 y hy; omega
  have hK := topI_le (fnd 6 s.t []) 0 (by decide) hlow
  have hK0 := topI_ge (fnd 6 s.t []) 0
  have h8 := fnd_sz 8 s.t []
  simp only [List.length_nil] at h8
  rw [mem_freeS]
  unfold schG
  rw [fv_bind 10 rfl, fv_turn _ _ _ hr1, mem_upI, mem_fnd0]
  constructor
  · rintro ⟨h | ⟨n, h, e⟩, hn⟩
    · exact h
    · have := isUp_mem _ _ hr2 n ((mem_fnd0 8 n s.t).2 h)
      rw [Go.Vc.wrap_small (by omega) (by omega)] at e
      exact absurd ⟨by omega, by omega⟩ hn
  · intro h
    have := topI_mem (fnd 6 s.t []) 0 x ((mem_fnd0 6 x s.t).2 h)
    exact ⟨.inl h, by omega⟩
end Go.Proofs.YtmjjajhkokdikaaGreat

/- The law TransFree, walked. -/
set_option linter.unusedSimpArgs false
set_option linter.unusedVariables false
namespace Go.Proofs.YtmjjajhkokdikaaGreat
open Go.Vx Go.Vc Go.RowKit

abbrev dAb (a : List Int × StrT) : D := .agg (encAb a)
abbrev dFd (a : FunD) : D := .agg (encFd a)
theorem absc_out (st : List Int) (s : StrT) (x : TG ⊕ Int) (h : FnQ Tryz.prog G0 63 [.agg (encAbs st s)] (fun o => o = outO x)) : FnQ Tryz.prog G0 62 [.ptr (encAbs st s) 0] (fun o => o = outO x) := by
  obtain ⟨a1, a2, a3, a4, a5⟩ := s
  simp only [encAbs, encStr] at h ⊢
  refine fnQ_of_vc txok mixed [] Tryz.func62 rfl rfl (by simp) fun b => ?_
  conv => whnf
  refine callQ rfl rfl gf63 h ?_
  rintro o rfl
  cases x with
  | inr e => exact rfl
  | inl t =>
    obtain ⟨k1, n1, l1, m1⟩ := t
    conv => whnf
    try exact rfl
theorem absF_fn (st : List Int) (s : StrT) (x : TG ⊕ Int) (h : FnQ Tryz.prog G0 63 [.agg (encAbs st s)] (fun o => o = outO x)) : FnR Tryz.prog G0 26 [.agg (encAbs st s)] (resE x) := by
  have h1 := made_E x gf62 (absc_out st s x h)
  obtain ⟨a1, a2, a3, a4, a5⟩ := s
  simp only [encAbs, encStr] at h1 ⊢
  refine fnQ_of_vc txok mixed [] Tryz.func26 rfl rfl (by simp) fun b => ?_
  conv => whnf
  refine pubC (fun i => Nat.beq i 0) ?_
  conv => whnf
  refine callF h1 gf32 rfl rfl ?_
  cases x with
  | inr e =>
    conv => whnf
    try exact rfl
  | inl t =>
    obtain ⟨k1, n1, l1, m1⟩ := t
    conv => whnf
    try exact rfl
theorem has_fn (l : List Int) (x : Int) : FnR Tryz.prog G0 25 [dI l, .int .i64 x] (.bool (decide (x ∈ l))) := by
  refine fnQ_sz fun hs => ?_
  have hl := (szOk_sl hs.1).1
  simp only [LB] at hl
  refine fnQ_of_vc txok mixed [] Tryz.func25 rfl rfl (by simp) fun b => ?_
  conv => whnf
  refine loopH (fun i : Nat => i ≤ l.length ∧ (x ∈ l ↔ x ∈ l.drop i)) (fun i => l.length - i) (fun i => [(5, .d (.int .i64 i))]) (fun _ => []) 0 0 ⟨by omega, by simp⟩ (weak_of rfl (by repeat ((conv => whnf); first | exact trivial | refine And.intro rfl ?_ | refine And.intro (incD (by omega)) ?_)) (by repeat ((conv => whnf); first | exact trivial | refine And.intro rfl ?_ | refine And.intro (incD (by omega)) ?_))) ?_
  rintro i ⟨hi, hx⟩
  conv => whnf
  refine And.intro (fun hb => ?_) (fun hb => ?_)
  · have hb := of_decide_eq_true hb
    have hil : i < l.length := by omega
    rw [List.drop_eq_getElem_cons hil, List.mem_cons] at hx
    conv => whnf
    refine IdxC.encI i hil rfl ?_
    conv => whnf
    refine And.intro (fun he => ?_) (fun he => ?_)
    · have he := eq_of_beq he
      conv => whnf
      rw [decide_eq_true (hx.2 (.inl he.symm))]
    · have he : l[i] ≠ x := by simpa using he
      exact again (i + 1) (by omega) ⟨by omega, hx.trans ⟨fun h => h.resolve_left (Ne.symm he), .inr⟩⟩ (weak_of rfl (by repeat ((conv => whnf); first | exact trivial | refine And.intro rfl ?_ | refine And.intro (incD (by omega)) ?_)) (by repeat ((conv => whnf); first | exact trivial | refine And.intro rfl ?_ | refine And.intro (incD (by omega)) ?_)))
  · have hb := of_decide_eq_false hb
    rw [List.drop_eq_nil_of_le (by omega)] at hx
    conv => whnf
    rw [decide_eq_false (by rw [hx]; simp)]
theorem free_law_fn (t : Tp) (s : Sc) (a : List Int × StrT) (hz : szT t + szT s.t + szAb a ≤ 1048576) : FnR Tryz.prog G0 6 [dT t, dS s, dAb a] (.bool true) := by
  obtain ⟨bs, str⟩ := a
  simp only [szAb] at hz
  obtain ⟨x, hx, hg⟩ := str_any 1048576 str (by omega) (by decide)
  have h1 := type_fn t (szT_of (by omega))
  have h2 := schemeF_fn s (by omega)
  have h3 := absF_fn bs str _ (abs_out bs str x (by omega) hx)
  have h4 := strF_fn str x hx
  rw [resE_eq] at h1 h2 h3 h4
  have hal := alive_fn
  have z1 := typE_sz t
  have z2 := schE_sz s
  have z3 : szG (valE (absE bs x)) ≤ 8388608 := by
    have h := (absE_sz bs x hg.ne).1
    have := hg.sz
    cases hc : absE bs x with
    | inl t =>
      rw [hc] at h
      have h' : szG t ≤ bs.length + szO x := h
      simp only [valE]; omega
    | inr e => simp [valE, szG, szGs]
  have z4 : szG (valE x) ≤ 8388608 := by
    have := hg.sz
    cases hc : x with
    | inl t => rw [hc] at this; simp only [szO, valE] at this ⊢; omega
    | inr e => simp [valE, szG, szGs]
  have q1 := freeT_fn (valE (typE t)) (by omega)
  have q2 := freeT_fn (valE (schE s)) (by omega)
  have q3 := freeT_fn (valE (absE bs x)) (by omega)
  have q4 := freeT_fn (valE x) (by omega)
  have f6 := fnd_sz 6 t []
  have g6 := fnd_sz 6 s.t []
  simp only [List.length_nil] at f6 g6
  have r1 := Ty.stamps_fn t (by simp only [LB]; omega)
  have r2 := Ty.stamps_fn s.t (by simp only [LB]; omega)
  have p1 : errE (typE t) = 0 → (freeS (valE (typE t))).length = (fnd 6 t []).length ∧ ∀ y ∈ fnd 6 t [], y ∈ freeS (valE (typE t)) := by
    intro h
    have ho : okT t = true := by
      rw [typE_err] at h
      split at h
      · assumption
      · cases h
    rw [typE_val ho]
    exact ⟨(free_typ ho).2, fun y hy => ((free_typ ho).1 y).2 hy⟩
  have p2 : errE (schE s) = 0 → (freeS (valE (schE s))).length = (fnd 6 s.t []).length := by
    intro h
    have ho : okS s = true := by
      unfold schE at h
      split at h
      · assumption
      · simp [errE] at h
    have : valE (schE s) = schG s := by rw [schE, if_pos ho]; rfl
    rw [this]
    exact free_sch (by omega) ho
  have p3 : errE (absE bs x) = 0 → errE x = 0 ∧ (∀ y ∈ freeS (valE x), (decide (y ∈ freeS (valE (absE bs x))) == decide (y ∈ bs)) = false) ∧ (freeS (valE (absE bs x))).length ≤ (freeS (valE x)).length := by
    intro h
    have hne := (absE_sz bs x hg.ne).2
    cases x with
    | inr e =>
      cases hc : absE bs (.inr e) with
      | inr e' => exact absurd (by simpa [hc, errE] using h) (hne e' hc)
      | inl t' =>
        unfold absE at hc
        split at hc <;> cases hc
    | inl t' =>
      have hv : absE bs (.inl t') = .inl (bindG 11 bs t') := by
        cases hs : stmE bs with
        | some e =>
          have : absE bs (.inl t') = .inr e := by unfold absE; rw [hs]
          exact absurd (by simpa [this, errE] using h) (hne e this)
        | none => unfold absE; rw [hs]
      rw [hv]
      simp only [valE]
      have hm : ∀ y, y ∈ freeS (bindG 11 bs t') ↔ y ∈ freeS t' ∧ y ∉ bs := fun y => by rw [mem_freeS, mem_freeS, fv_bind 11 rfl]
      refine ⟨rfl, fun y hy => ?_, len_sub (freeS_nodup _) (freeS_nodup _) fun y hy => ((hm y).1 hy).1⟩
      by_cases hb : y ∈ bs
      · have : y ∉ freeS (bindG 11 bs t') := fun h => ((hm y).1 h).2 hb
        simp [hb, this]
      · have : y ∈ freeS (bindG 11 bs t') := (hm y).2 ⟨hy, hb⟩
        simp [hb, this]
  have w1 := freeS_len (valE (typE t))
  have w2 := freeS_len (valE (schE s))
  have w3 := freeS_len (valE (absE bs x))
  have w4 := freeS_len (valE x)
  clear hx hg
  generalize errE (typE t) = e1 at *
  generalize errE (schE s) = e2 at *
  generalize errE (absE bs x) = e3 at *
  generalize errE x = e4 at *
  generalize valE (typE t) = v1 at *
  generalize valE (schE s) = v2 at *
  generalize valE (absE bs x) = v3 at *
  generalize valE x = v4 at *
  generalize freeS v1 = F1 at *
  generalize freeS v2 = F2 at *
  generalize freeS v3 = F3 at *
  generalize freeS v4 = F4 at *
  generalize fnd 6 t [] = S1 at *
  generalize fnd 6 s.t [] = S2 at *
  obtain ⟨k1, n1, l1, m1⟩ := v1
  obtain ⟨k2, n2, l2, m2⟩ := v2
  obtain ⟨k3, n3, l3, m3⟩ := v3
  obtain ⟨k4, n4, l4, m4⟩ := v4
  obtain ⟨tk, tn, tks⟩ := t
  obtain ⟨sg, ⟨sk, sn, sks⟩⟩ := s
  obtain ⟨a1, a2, a3, a4, a5⟩ := str
  simp only [dAb, encAb, encAbs, encStr, dStr, encSubs_eq, encFuns_eq, encSigs_eq] at h3 h4 ⊢
  generalize slD 80 a1.length (fl encTyM a1) = d1 at *
  generalize slD 64 a2.length (fl encVlM a2) = d2 at *
  generalize slD 136 a3.length (fl encSub0 a3) = d3 at *
  generalize slD 304 a4.length (fl encFun0 a4) = d4 at *
  generalize slD 160 a5.length (fl encSig0 a5) = d5 at *
  refine fnQ_of_vc txok mixed ((100011, .done) :: (100014, .done) :: [(3, .take 0 (.take 2 (.run 1 (.fin 3 (.pure 4 (.pure 5 .done)))))), (12, .pure 0 (.pure 1 (.pure 2 (.take 3 (.pure 6 (.take 7 (.run 4 (.pure 5 (.fin 8 (.pure 9 (.pure 10 (.pure 11 .done)))))))))))), (17, .take 0 (.take 2 (.run 1 (.fin 3 (.pure 4 (.pure 5 .done)))))), (23, .pure 0 (.pure 1 (.pure 2 (.pure 3 (.take 4 (.pure 6 (.take 7 (.pure 8 (.pure 9 (.pure 10 (.take 11 (.run 5 (.fin 12 (.pure 13 .done))))))))))))))]) Tryz.func6 rfl rfl (by simp) fun b => ?_
  conv => whnf
  refine callF h1 gf9 rfl rfl ?_
  conv => whnf
  refine CutC.mk (fun st => st = ⟨[(3, .own 0 0), (4, .own 1 0), (5, .own 2 0)], [(0, .blk 24 [.d (.int .i64 tk), .d (.int .i64 tn), .d (dK tks)]), (1, .blk 26 [.d (.int .i64 sg), .d (.int .i64 sk), .d (.int .i64 sn), .d (dK sks)]), (2, .blk 59 [.d (dI bs), .d d1, .d d2, .d d3, .d d4, .d d5])], 3⟩) ?_ ?_
  · (conv => whnf)
    refine And.intro (fun h => ?_) (fun h => ?_)
    · have h : e1 = 0 := eq_of_beq h
      subst h
      obtain ⟨p1a, p1b⟩ := p1 rfl
      conv => whnf
      refine And.intro (by kernel_rfl) ?_
      refine callF q1 gf23 rfl rfl ?_
      conv => whnf
      refine callF r1 gf24 rfl rfl ?_
      conv => whnf
      rw [p1a]
      refine And.intro (fun h => by simp at h) (fun _ => ?_)
      conv => whnf
      refine loopH (fun i : Nat => i ≤ S1.length) (fun i => S1.length - i) (fun i => [(11, .d (.int .i64 i))]) (fun _ => [(0, .blk 24 [.d (.int .i64 tk), .d (.int .i64 tn), .d (dK tks)]), (1, .blk 26 [.d (.int .i64 sg), .d (.int .i64 sk), .d (.int .i64 sn), .d (dK sks)]), (2, .blk 59 [.d (dI bs), .d d1, .d d2, .d d3, .d d4, .d d5])]) 4 0 (by omega) (weak_of rfl (by repeat ((conv => whnf); first | exact trivial | refine And.intro rfl ?_ | refine And.intro (incD (by omega)) ?_)) (by repeat ((conv => whnf); first | exact trivial | refine And.intro rfl ?_ | refine And.intro (incD (by omega)) ?_))) ?_
      intro i hi
      conv => whnf
      refine And.intro (fun hb => ?_) (fun hb => ?_)
      · have hil : i < S1.length := by have := of_decide_eq_true hb; omega
        have hin : decide (S1[i] ∈ F1) = true := decide_eq_true (p1b _ (List.getElem_mem hil))
        conv => whnf
        refine IdxC.encI i hil rfl ?_
        conv => whnf
        refine callF (has_fn F1 S1[i]) gf25 rfl rfl ?_
        rw [hin]
        conv => whnf
        refine And.intro (fun h => by cases h) (fun _ => ?_)
        conv => whnf
        rw [incD (by omega)]
        exact again (i + 1) (by omega) (by omega) (weak_of rfl (by repeat ((conv => whnf); first | exact trivial | refine And.intro rfl ?_ | refine And.intro (incD (by omega)) ?_)) (by repeat ((conv => whnf); first | exact trivial | refine And.intro rfl ?_ | refine And.intro (incD (by omega)) ?_)))
      · conv => whnf
        exact ⟨_, rfl, weak_of rfl (by repeat ((conv => whnf); first | exact trivial | refine And.intro rfl ?_ | refine And.intro (incD (by omega)) ?_)) (by repeat ((conv => whnf); first | exact trivial | refine And.intro rfl ?_ | refine And.intro (incD (by omega)) ?_))⟩
    · conv => whnf
      exact ⟨_, rfl, weak_of rfl (by repeat ((conv => whnf); first | exact trivial | refine And.intro rfl ?_ | refine And.intro (incD (by omega)) ?_)) (by repeat ((conv => whnf); first | exact trivial | refine And.intro rfl ?_ | refine And.intro (incD (by omega)) ?_))⟩
  rintro st' rfl
  conv => whnf
  refine callF h2 gf11 rfl rfl ?_
  conv => whnf
  refine CutC.mk (fun st => st = ⟨[(3, .own 0 0), (4, .own 1 0), (5, .own 2 0)], [(0, .blk 24 [.d (.int .i64 tk), .d (.int .i64 tn), .d (dK tks)]), (1, .blk 26 [.d (.int .i64 sg), .d (.int .i64 sk), .d (.int .i64 sn), .d (dK sks)]), (2, .blk 59 [.d (dI bs), .d d1, .d d2, .d d3, .d d4, .d d5])], 3⟩) ?_ ?_
  · (conv => whnf)
    refine And.intro (by kernel_rfl) ?_
    conv => whnf
    refine And.intro (fun h => ?_) (fun h => ?_)
    · have h : e2 = 0 := eq_of_beq h
      subst h
      have p2 := p2 rfl
      conv => whnf
      refine callF q2 gf23 rfl rfl ?_
      conv => whnf
      refine callF r2 gf24 rfl rfl ?_
      conv => whnf
      rw [p2]
      refine And.intro (fun h => by simp at h) (fun _ => ?_)
      conv => whnf
      exact ⟨_, rfl, weak_of rfl (by repeat ((conv => whnf); first | exact trivial | refine And.intro rfl ?_ | refine And.intro (incD (by omega)) ?_)) (by repeat ((conv => whnf); first | exact trivial | refine And.intro rfl ?_ | refine And.intro (incD (by omega)) ?_))⟩
    · conv => whnf
      exact ⟨_, rfl, weak_of rfl (by repeat ((conv => whnf); first | exact trivial | refine And.intro rfl ?_ | refine And.intro (incD (by omega)) ?_)) (by repeat ((conv => whnf); first | exact trivial | refine And.intro rfl ?_ | refine And.intro (incD (by omega)) ?_))⟩
  rintro st' rfl
  conv => whnf
  refine callF h3 gf26 rfl rfl ?_
  conv => whnf
  refine callF h4 gf21 rfl rfl ?_
  conv => whnf
  refine And.intro (fun h => ?_) (fun h => ?_)
  · have h : e3 = 0 := eq_of_beq h
    subst h
    obtain ⟨p3a, p3b, p3c⟩ := p3 rfl
    subst p3a
    conv => whnf
    refine And.intro (by kernel_rfl) ?_
    refine callF q3 gf23 rfl rfl ?_
    conv => whnf
    refine callF q4 gf23 rfl rfl ?_
    conv => whnf
    refine And.intro (fun h => by simp at h) (fun _ => ?_)
    conv => whnf
    refine loopH (fun i : Nat => i ≤ F4.length) (fun i => F4.length - i) (fun i => [(18, .d (.int .i64 i))]) (fun _ => [(0, .blk 24 [.d (.int .i64 tk), .d (.int .i64 tn), .d (dK tks)]), (1, .blk 26 [.d (.int .i64 sg), .d (.int .i64 sk), .d (.int .i64 sn), .d (dK sks)]), (2, .blk 59 [.d (dI bs), .d d1, .d d2, .d d3, .d d4, .d d5])]) 5 0 (by omega) (weak_of rfl (by repeat ((conv => whnf); first | exact trivial | refine And.intro rfl ?_ | refine And.intro (incD (by omega)) ?_)) (by repeat ((conv => whnf); first | exact trivial | refine And.intro rfl ?_ | refine And.intro (incD (by omega)) ?_))) ?_
    intro i hi
    conv => whnf
    refine And.intro (fun hb => ?_) (fun hb => ?_)
    · have hil : i < F4.length := by have := of_decide_eq_true hb; omega
      have hin := p3b _ (List.getElem_mem hil)
      conv => whnf
      refine And.intro (by kernel_rfl) ?_
      refine IdxC.encI i hil rfl ?_
      conv => whnf
      refine IdxC.encI i hil rfl ?_
      conv => whnf
      refine callF (has_fn F3 F4[i]) gf25 rfl rfl ?_
      conv => whnf
      refine callF (has_fn bs F4[i]) gf25 rfl rfl ?_
      conv => whnf
      rw [hin]
      refine And.intro (fun h => by cases h) (fun _ => ?_)
      conv => whnf
      rw [incD (by omega)]
      exact again (i + 1) (by omega) (by omega) (weak_of rfl (by repeat ((conv => whnf); first | exact trivial | refine And.intro rfl ?_ | refine And.intro (incD (by omega)) ?_)) (by repeat ((conv => whnf); first | exact trivial | refine And.intro rfl ?_ | refine And.intro (incD (by omega)) ?_)))
    · conv => whnf
      rw [show decide ((F3.length : Int) ≤ (F4.length : Int)) = true from decide_eq_true (by omega)]
      refine And.intro (fun _ => ?_) (fun h => by cases h)
      conv => whnf
      refine callF hal gf14 rfl rfl ?_
      conv => whnf
      try exact rfl
  · conv => whnf
    refine callF hal gf14 rfl rfl ?_
    conv => whnf
    try exact rfl
end Go.Proofs.YtmjjajhkokdikaaGreat

