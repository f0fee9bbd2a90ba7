/- What the rows' readings say of arguments in memory. -/
import Derived.Test.YtonhlccjfbfkcaaTq
import Derived.Test.YtonhlccjfbfkcaaRows
import Derived.WalkKit
import Derived.ProofKit
import Derived.OpenShut
import Derived.JoinedCond
import Derived.Carry
namespace Go.Proofs.Ytonhlccjfbfkcaa
open Go.Vc Go.RowKit

theorem cellsT : Try.prog.cellsOf 24 = 3 := by kernel_rfl
theorem cellsI : Try.prog.cellsOf 3 = 1 := by kernel_rfl
theorem cellsL : Try.prog.cellsOf 22 = 1 := by kernel_rfl
theorem cellsS : Try.prog.cellsOf 29 = 4 := by kernel_rfl

section
variable {H : Type} {enc : TypeId × Value → H} {W : World} {sp : Nat → Bool}

theorem bulk_one (d : DataW H) : 1 ≤ Rows.uptoBulk d := by
  cases d with
  | lit l => cases l <;> simp [Rows.uptoBulk]
  | nil => simp [Rows.uptoBulk]
  | ptr d => simp [Rows.uptoBulk]
  | slice elems spare => simp [Rows.uptoBulk]
  | agg parts => simp [Rows.uptoBulk]
  | iface t d => simp [Rows.uptoBulk]
  | map entries => simp [Rows.uptoBulk]
  | held h => simp [Rows.uptoBulk]

/-- A type's value reads as t. -/
def ReadsT (W : World) (cs : List Value) (d : DataW H) : Prop := ∃ (t : Tp) (A : Option Addr) (c : Nat), cs = [.int .i64 t.k, .int .i64 t.n, .slice A t.kids.length c] ∧ RepT (fun _ => True) W t (.agg cs.toArray) ∧ szT t ≤ Rows.uptoBulk d

/-- A slice's elements, each of which reads as a type. -/
theorem elems_T {n : Nat} (ih : ∀ (cs : List Value) (x : DataW H × List MemPlace), DataW.trod enc Try.prog W 0 sp true n 24 cs = some x → Rows.uptoBulk x.1 ≤ 1048576 → ReadsT W cs x.1)
    {a : Addr} {len : Nat} {elems : List (DataW H × List MemPlace)} (hlen : elems.length = len)
    (hel : ∀ i, i < len → (W.cells? 0 (a.add (i * Try.prog.cellsOf 24)) (Try.prog.cellsOf 24)).bind (DataW.trod enc Try.prog W 0 sp true n 24) = elems[i]?) :
    ∀ (m j : Nat), j + m = len → Rows.uptoBulkAll ((elems.drop j).map (·.1)) ≤ 1048576 → ∃ ts : List Tp, ts.length = m ∧ RepKs (fun _ => True) W ts (some a) j ∧ szL ts ≤ Rows.uptoBulkAll ((elems.drop j).map (·.1))
  | 0, j, _, _ => ⟨[], rfl, by simp only [RepKs], by simp [szL]⟩
  | m + 1, j, hj, hb => by
    have hjl : j < elems.length := by omega
    rw [List.drop_eq_getElem_cons hjl, List.map_cons, Rows.uptoBulkAll] at hb ⊢
    obtain ⟨ts, h1, h2, h3⟩ := elems_T ih hlen hel m (j + 1) (by omega) (by omega)
    have h4 := hel j (by omega)
    rw [List.getElem?_eq_getElem hjl, cellsT] at h4
    obtain ⟨cs, h5, h6⟩ := Option.bind_eq_some_iff.1 h4
    obtain ⟨t, A, c, rfl, k2, k3⟩ := ih cs _ h6 (by omega)
    obtain ⟨_, _, q⟩ := World.cells?_some h5
    have q0 := q 0 (by omega)
    have q1 := q 1 (by omega)
    have q2 := q 2 (by omega)
    rw [Go.Vc.add_add] at q0 q1 q2
    exact ⟨t :: ts, by simp [h1], by simp only [RepKs]; exact ⟨⟨a, _, _, _, rfl, trivial, q0, q1, q2, k2⟩, h2⟩, by simp only [szL]; omega⟩

theorem open_T : ∀ (fuel : Nat) (cs : List Value) (x : DataW H × List MemPlace), DataW.trod enc Try.prog W 0 sp true fuel 24 cs = some x → Rows.uptoBulk x.1 ≤ 1048576 → ReadsT W cs x.1 := by
  intro fuel
  induction fuel using Nat.strongRecOn with
  | _ fuel ih =>
    intro cs x h hb
    obtain ⟨xs, n, rfl, rfl, hl, hxl, hf⟩ := DataW.trod_struct Try.underlying24 h
    rw [cellsT] at hl
    have f0 := hf 0 _ rfl
    have f1 := hf 1 _ rfl
    have f2 := hf 2 _ rfl
    match xs, hxl with
    | [y0, y1, y2], _ =>
      match cs, hl with
      | [v0, v1, v2], _ =>
        have f0 : DataW.trod enc Try.prog W 0 sp true n 3 (List.take (Try.prog.cellsOf 3) [v0, v1, v2]) = some y0 := f0
        have f1 : DataW.trod enc Try.prog W 0 sp true n 3 (List.take (Try.prog.cellsOf 3) [v1, v2]) = some y1 := f1
        have f2 : DataW.trod enc Try.prog W 0 sp true n 22 (List.take (Try.prog.cellsOf 22) [v2]) = some y2 := f2
        rw [cellsI] at f0 f1
        obtain ⟨k, hk, e0, _⟩ := DataW.trod_int Try.underlying3 f0
        obtain ⟨nn, hn, e1, _⟩ := DataW.trod_int Try.underlying3 f1
        simp at hk hn
        subst hk; subst hn
        simp only [List.map_cons, List.map_nil, Rows.uptoBulk, Rows.uptoBulkAll] at hb ⊢
        rcases DataW.trod_slice Try.underlying22 f2 with ⟨hs, e2⟩ | ⟨a, len, cap, elems, rest, m, rfl, hs, e2, _, hle, hcap, hlen, hel, _⟩
        · have hs : [v2] = [.slice none 0 0] := hs
          injection hs with hs _
          subst hs
          refine ⟨.mk k nn [], none, 0, rfl, RepT.mk' (t := .mk k nn []) (by simp [Tp.kids]) (by simp [Tp.kids]) (by simp [Tp.kids, RepKs]), ?_⟩
          have := bulk_one y0.1
          simp only [szT, szL, Rows.uptoBulk, Rows.uptoBulkAll]
          omega
        · have hs : [v2] = [.slice (some a) len cap] := hs
          injection hs with hs _
          subst hs
          have e2' : y2.1 = .slice (elems.map (·.1)) (rest.map (·.1)) := congrArg Prod.fst e2
          rw [e2'] at hb ⊢
          simp only [Rows.uptoBulk] at hb
          obtain ⟨ts, h1, h2, h3⟩ := elems_T (fun cs x hx hb => ih m (by omega) cs x hx hb) hlen hel len 0 (by omega) (by simp; omega)
          simp only [List.drop_zero] at h3
          subst h1
          have hsl := szL_len ts
          refine ⟨.mk k nn ts, some a, cap, rfl, RepT.mk' (t := .mk k nn ts) hle (by simp only [Tp.kids, LIM]; omega) h2, ?_⟩
          have := bulk_one y0.1
          simp only [szT, szL, Rows.uptoBulk, Rows.uptoBulkAll]
          omega

/-- A slice of types. -/
theorem open_L {fuel : Nat} {A : Option Addr} {n c : Nat} {x : DataW H × List MemPlace} (h : DataW.trod enc Try.prog W 0 sp true fuel 22 [.slice A n c] = some x) (hb : Rows.uptoBulk x.1 ≤ 1048576) :
    ∃ ts : List Tp, ts.length = n ∧ n ≤ c ∧ RepKs (fun _ => True) W ts A 0 ∧ szL ts ≤ Rows.uptoBulk x.1 := by
  rcases DataW.trod_slice Try.underlying22 h with ⟨hs, e2⟩ | ⟨a, len, cap, elems, rest, m, rfl, hs, e2, _, hle, hcap, hlen, hel, _⟩
  · injection hs with hs _
    injection hs with h1 h2 h3
    subst h1; subst h2; subst h3
    exact ⟨[], rfl, Nat.le_refl _, by simp only [RepKs], by simp [szL]⟩
  · injection hs with hs _
    injection hs with h1 h2 h3
    subst h1; subst h2; subst h3
    subst e2
    simp only [Rows.uptoBulk] at hb ⊢
    obtain ⟨ts, h1, h2, h3⟩ := elems_T (fun cs x hx hb => open_T m cs x hx hb) hlen hel n 0 (by omega) (by simp; omega)
    simp only [List.drop_zero] at h3
    exact ⟨ts, h1, hle, h2, by omega⟩

/-- A slice of numbers. -/
theorem open_I {fuel : Nat} {A : Option Addr} {n c : Nat} {x : DataW H × List MemPlace} (h : DataW.trod enc Try.prog W 0 sp true fuel 25 [.slice A n c] = some x) :
    ∃ l : List Int, l.length = n ∧ n ≤ c ∧ Cells (fun _ => True) W A (ints l) ∧ n ≤ Rows.uptoBulk x.1 := by
  rcases DataW.trod_slice Try.underlying25 h with ⟨hs, e2⟩ | ⟨a, len, cap, elems, rest, m, rfl, hs, e2, _, hle, hcap, hlen, hel, _⟩
  · injection hs with hs _
    injection hs with h1 h2 h3
    subst h1; subst h2; subst h3
    exact ⟨[], rfl, Nat.le_refl _, .inl rfl, Nat.zero_le _⟩
  · injection hs with hs _
    injection hs with h1 h2 h3
    subst h1; subst h2; subst h3
    subst e2
    have key : ∀ m j : Nat, j + m = n → ∃ l : List Int, l.length = m ∧ (∀ i v, l[i]? = some v → W.cell? (a.add (j + i)) = some (.int .i64 v)) ∧ m ≤ Rows.uptoBulkAll ((elems.drop j).map (·.1)) := by
      intro m
      induction m with
      | zero => exact fun j _ => ⟨[], rfl, fun i v hv => by simp at hv, Nat.zero_le _⟩
      | succ m ihm =>
        intro j hj
        have hjl : j < elems.length := by omega
        obtain ⟨l, h1, h2, h3⟩ := ihm (j + 1) (by omega)
        have h4 := hel j (by omega)
        rw [List.getElem?_eq_getElem hjl, cellsI] at h4
        obtain ⟨cs, h5, h6⟩ := Option.bind_eq_some_iff.1 h4
        obtain ⟨k, rfl, _, _⟩ := DataW.trod_int Try.underlying3 h6
        obtain ⟨_, _, q⟩ := World.cells?_some h5
        have q0 := q 0 (by omega)
        rw [Go.Vc.add_add] at q0
        refine ⟨k :: l, by simp [h1], fun i v hv => ?_, ?_⟩
        · match i, hv with
          | 0, hv => simp at hv; subst hv; simpa using q0
          | i + 1, hv => have := h2 i v (by simpa using hv); rwa [show j + (i + 1) = j + 1 + i from by omega]
        · rw [List.drop_eq_getElem_cons hjl, List.map_cons, Rows.uptoBulkAll]
          have := bulk_one elems[j].1
          omega
    obtain ⟨l, h1, h2, h3⟩ := key n 0 (by omega)
    refine ⟨l, h1, hle, .inr ⟨a, rfl, trivial, fun j v hv => ?_⟩, ?_⟩
    · simp only [List.getElem?_map, Option.map_eq_some_iff] at hv
      obtain ⟨u, hu, rfl⟩ := hv
      have := h2 j u hu
      simpa using this
    · simp only [List.drop_zero] at h3
      simp only [Rows.uptoBulk]; omega

/-- A scheme. -/
theorem open_S {fuel : Nat} {cs : List Value} {x : DataW H × List MemPlace} (h : DataW.trod enc Try.prog W 0 sp true fuel 29 cs = some x) (hb : Rows.uptoBulk x.1 ≤ 1048576) :
    ∃ s : Sc, RepS (fun _ => True) W s (.agg cs.toArray) ∧ szT s.t ≤ Rows.uptoBulk x.1 := by
  obtain ⟨xs, n, rfl, rfl, hl, hxl, hf⟩ := DataW.trod_struct Try.underlying29 h
  rw [cellsS] at hl
  have f0 := hf 0 _ rfl
  have f1 := hf 1 _ rfl
  match xs, hxl with
  | [y0, y1], _ =>
    match cs, hl with
    | [v0, v1, v2, v3], _ =>
      have f0 : DataW.trod enc Try.prog W 0 sp true n 3 (List.take (Try.prog.cellsOf 3) [v0, v1, v2, v3]) = some y0 := f0
      have f1 : DataW.trod enc Try.prog W 0 sp true n 24 (List.take (Try.prog.cellsOf 24) [v1, v2, v3]) = some y1 := f1
      rw [cellsI] at f0
      rw [cellsT] at f1
      obtain ⟨k, hk, e0, _⟩ := DataW.trod_int Try.underlying3 f0
      simp at hk
      subst hk
      simp only [List.map_cons, List.map_nil, Rows.uptoBulk, Rows.uptoBulkAll] at hb ⊢
      obtain ⟨t, A, c, e1, k2, k3⟩ := open_T n _ y1 f1 (by omega)
      simp at e1
      obtain ⟨rfl, rfl, rfl⟩ := e1
      have k2' : RepT (fun _ => True) W t (.agg #[.int .i64 t.k, .int .i64 t.n, .slice A t.kids.length c]) := k2
      obtain ⟨A', c', ee, q1, q2, q3⟩ := k2'.opn
      injection ee with ee
      have ee' : [Value.int .i64 t.k, .int .i64 t.n, .slice A t.kids.length c] = [.int .i64 t.k, .int .i64 t.n, .slice A' t.kids.length c'] := congrArg Array.toList ee
      injection ee' with _ ee'; injection ee' with _ ee'; injection ee' with ee' _
      injection ee' with x1 _ x3
      subst x1; subst x3
      exact ⟨⟨k, t⟩, ⟨A, c, rfl, q1, q2, q3⟩, by simp only; omega⟩
end
end Go.Proofs.Ytonhlccjfbfkcaa
