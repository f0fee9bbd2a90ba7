/- Rows: slices of the call's own that grow, are written, are cut. -/
import Derived.Test.YtohmeplcjgmedaaDoorVcj
namespace Go.Vc
open Go.RowKit

section
variable {P : Program} {ty : List (Nat × TI)} {N : Nat} {b : Base}

theorem RowOk.nil (w : World) (e : TypeId) (sz : Nat) : RowOk w ⟨.slice none 0 0, e, sz, []⟩ := ⟨0, by simp, .inl ⟨rfl, rfl⟩⟩
theorem RowOk.form {w : World} {r : Row} (h : RowOk w r) : ∃ A n c, r.v = .slice A n c ∧ n ≤ c ∧ r.xs.length = n * r.sz := by
  obtain ⟨n, hl, ⟨hv, hn⟩ | ⟨g', o, cap, cur, hv, hh, h1, _⟩⟩ := h
  · exact ⟨none, 0, 0, hv, Nat.le_refl _, by rw [hl, hn]⟩
  · exact ⟨_, n, cap, hv, h1, hl⟩
theorem RowOk.cells {w : World} {r : Row} (h : RowOk w r) {A : Option Addr} {n c : Nat} (hv : r.v = .slice A n c) (S : Nat → Prop) (hS : ∀ g, rowB r.v = some g → S g) : Cells S w A r.xs := by
  obtain ⟨n', hl, ⟨hv', hn⟩ | ⟨g', o, cap, cur, hv', hh, h1, h2, h3, h4⟩⟩ := h
  · left
    rw [hn] at hl
    exact List.eq_nil_of_length_eq_zero (by simpa using hl)
  · right
    rw [hv] at hv'
    injection hv' with e1 e2 e3
    subst e1
    refine ⟨_, rfl, hS g' (by rw [hv]; rfl), fun j v hj => ?_⟩
    rw [add_own, cell_own hh]
    rw [← h4] at hj
    have : j < n' * r.sz := by
      rcases Nat.lt_or_ge j (n' * r.sz) with h | h
      · exact h
      · rw [List.getElem?_eq_none (by simp; omega)] at hj; cases hj
    rw [List.getElem?_take_of_lt this, List.getElem?_drop, Array.getElem?_toList] at hj
    exact hj

/-- What a step leaves that may write one row and make new blocks. -/
def Grew (w w' : World) (row : Option Nat) : Prop := w.grownBy w' row

/-- A row is another one now: written, grown in place or moved to a new block. -/
theorem Wd.grow {T : Tl} {ρ : List Nat} {E : El} {R : List Row} {pub : Nat → Prop} {s w w' : World} (h : Wd b ⟨T, ρ, E, R, pub, s⟩ w) {j : Nat} {r r' : Row} (hj : R[j]? = some r) (hg : w.grownBy w' (rowB r.v)) (hr : RowOk w' r')
    (hb : rowB r'.v = none ∨ rowB r'.v = rowB r.v ∨ ∃ g, rowB r'.v = some g ∧ w.heap.size ≤ g) : Wd b ⟨T, ρ, E, R.set j r', pub, s⟩ w' := by
  have hmem : r ∈ R := List.mem_of_getElem? hj
  obtain ⟨kr1, kr2⟩ := h.row r hmem
  have hlt : ∀ i c t, lk E i = some (c, t) → ρ.getD i 0 < w.heap.size := fun i c t hi => (Array.getElem?_eq_some_iff.1 (h.ent i c t hi)).1
  obtain ⟨lj, hj1⟩ := List.getElem?_eq_some_iff.1 hj
  have hp := List.pairwise_iff_getElem.1 h.rinj
  have other : ∀ i q g, R[i]? = some q → i ≠ j → rowB q.v = some g → rowB r.v ≠ some g := by
    intro i q g hi hne hq hr
    obtain ⟨li, hi1⟩ := List.getElem?_eq_some_iff.1 hi
    rcases Nat.lt_or_gt_of_ne hne with hlt' | hlt'
    · exact hp i j li lj hlt' g (by rw [hi1]; exact hq) (by rw [hj1]; exact hr)
    · exact hp j i lj li hlt' g (by rw [hj1]; exact hr) (by rw [hi1]; exact hq)
  have hmine : ∀ g, rowB r'.v = some g → b.mine g ∧ ¬ pub g ∧ (∀ i, (lk E i).isSome = true → ρ.getD i 0 ≠ g) ∧ (∀ q, q ∈ R → rowB q.v = some g → rowB r.v = some g) := by
    intro g hg'
    rcases hb with hb | hb | ⟨g2, hb, hge⟩
    · rw [hb] at hg'; cases hg'
    · rw [hb] at hg'
      obtain ⟨q1, q2, q3⟩ := kr2 g hg'
      exact ⟨q1, q2, q3, fun _ _ _ => hg'⟩
    · rw [hb] at hg'; injection hg' with hg'; subst hg'
      refine ⟨.inr (Nat.le_trans h.below.size hge), fun hp => ?_, fun i hi => ?_, fun q hq hqg => ?_⟩
      · have := (h.pub _ hp).1; have := h.size; simp only at *; omega
      · obtain ⟨⟨c, t⟩, hc⟩ := Option.isSome_iff_exists.1 hi
        have := hlt i c t hc; omega
      · have := (h.row q hq).1.lt hqg; omega
  have setAt : ∀ i q, (R.set j r')[i]? = some q → (i = j ∧ q = r') ∨ (i ≠ j ∧ R[i]? = some q) := by
    intro i q hi
    by_cases e : i = j
    · subst e
      rw [List.getElem?_set_self lj] at hi
      injection hi with hi
      exact .inl ⟨rfl, hi.symm⟩
    · rw [List.getElem?_set_ne (fun h => e h.symm)] at hi
      exact .inr ⟨e, hi⟩
  refine ⟨⟨hg.os.trans h.below.os, hg.tape.trans h.below.tape, hg.output.trans h.below.output, Nat.le_trans h.below.size hg.size, fun k hk hm => ?_⟩, Nat.le_trans h.size hg.size, fun k hk => ?_, fun i c t hi => ?_, h.entN, h.inj, fun q hq => ?_, ?_⟩
  · rw [hg.block k (Nat.lt_of_lt_of_le hk h.below.size) (fun e => ?_)]
    · exact h.below.block k hk hm
    · rcases (kr2 k e.symm).1 with h' | h'
      · exact hm h'
      · omega
  · obtain ⟨k1, k2⟩ := h.pub k hk
    refine ⟨k1, ?_⟩
    rw [hg.block k (Nat.lt_of_lt_of_le k1 h.size) (fun e => (kr2 k e.symm).2.1 hk)]
    exact k2
  · rw [hg.block _ (hlt i c t hi) (fun e => (kr2 _ e.symm).2.2 i (by show (lk E i).isSome = true; rw [hi]; rfl) rfl)]
    exact h.ent i c t hi
  · obtain ⟨i, hi⟩ := List.mem_iff_getElem?.1 hq
    rcases setAt i q hi with ⟨_, rfl⟩ | ⟨hne, hi'⟩
    · refine ⟨hr, fun g hg' => ?_⟩
      obtain ⟨q1, q2, q3, _⟩ := hmine g hg'
      exact ⟨q1, q2, q3⟩
    · obtain ⟨k1, k2⟩ := h.row q (List.mem_of_getElem? hi')
      exact ⟨k1.keep fun g hg' => hg.block g (k1.lt hg') (fun e => other i q g hi' hne hg' e.symm), k2⟩
  · refine List.pairwise_iff_getElem.2 fun i1 i2 l1 l2 hl g h1 h2 => ?_
    have e1 := setAt i1 _ (List.getElem?_eq_getElem l1)
    have e2 := setAt i2 _ (List.getElem?_eq_getElem l2)
    rcases e1 with ⟨rfl, e1⟩ | ⟨n1, e1⟩
    · rcases e2 with ⟨rfl, _⟩ | ⟨n2, e2⟩
      · omega
      · rw [e1] at h1
        exact other i2 _ g e2 n2 h2 ((hmine g h1).2.2.2 _ (List.mem_of_getElem? e2) h2)
    · rcases e2 with ⟨rfl, e2⟩ | ⟨n2, e2⟩
      · rw [e2] at h2
        exact other i1 _ g e1 n1 h1 ((hmine g h2).2.2.2 _ (List.mem_of_getElem? e1) h1)
      · obtain ⟨m1, e1'⟩ := List.getElem?_eq_some_iff.1 e1
        obtain ⟨m2, e2'⟩ := List.getElem?_eq_some_iff.1 e2
        exact hp i1 i2 m1 m2 hl g (by rw [e1']; exact h1) (by rw [e2']; exact h2)

/-- A new row comes. -/
theorem Wd.add {T : Tl} {ρ : List Nat} {E : El} {R : List Row} {pub : Nat → Prop} {s w w' : World} (h : Wd b ⟨T, ρ, E, R, pub, s⟩ w) {r : Row} (hg : Below w.heap.size w w') (hr : RowOk w' r)
    (hb : ∀ g, rowB r.v = some g → w.heap.size ≤ g) : Wd b ⟨T, ρ, E, r :: R, pub, s⟩ w' := by
  have h' := h.on hg
  have hlt : ∀ i c t, lk E i = some (c, t) → ρ.getD i 0 < w.heap.size := fun i c t hi => (Array.getElem?_eq_some_iff.1 (h.ent i c t hi)).1
  refine ⟨h'.below, h'.size, h'.pub, h'.ent, h'.entN, h'.inj, fun q hq => ?_, List.Pairwise.cons (fun q hq g h1 h2 => ?_) h'.rinj⟩
  · rcases List.mem_cons.1 hq with rfl | hq
    · refine ⟨hr, fun g hg' => ?_⟩
      have hge := hb g hg'
      refine ⟨.inr (Nat.le_trans h.below.size hge), fun hp => ?_, fun i hi => ?_⟩
      · have := (h.pub _ hp).1; have := h.size; simp only at *; omega
      · obtain ⟨⟨c, t⟩, hc⟩ := Option.isSome_iff_exists.1 hi
        have := hlt i c t hc; simp only at *; omega
    · exact h'.row q hq
  · have := (h.row q hq).1.lt h2
    have := hb g h1
    omega
/-- A nil row comes. -/
theorem Wd.addNil {T : Tl} {ρ : List Nat} {E : El} {R : List Row} {pub : Nat → Prop} {s w : World} (h : Wd b ⟨T, ρ, E, R, pub, s⟩ w) (e : TypeId) (sz : Nat) : Wd b ⟨T, ρ, E, ⟨.slice none 0 0, e, sz, []⟩ :: R, pub, s⟩ w :=
  h.add (Below.refl _ _) (RowOk.nil w e sz) (fun g hg => by cases hg)

def dropE (i : Nat) : El → El
  | [] => []
  | (k, x) :: r => match Nat.beq k i with
    | true => dropE i r
    | false => (k, x) :: dropE i r
theorem dropE_get {i : Nat} : ∀ {E : El} {k : Nat}, lk (dropE i E) k = if k = i then none else lk E k
  | [], k => by simp [dropE, lk]
  | (j, x) :: r, k => by
    simp only [dropE]
    split
    · rename_i e
      obtain rfl := nbeq.1 e
      rw [dropE_get]
      by_cases hk : k = j
      · simp [hk]
      · rw [if_neg hk, if_neg hk]
        simp only [lk]
        split
        · rename_i e'; exact absurd (nbeq.1 e').symm hk
        · rfl
    · rename_i e
      have hne := nbeq_ne.1 e
      simp only [lk]
      split
      · rename_i e'
        obtain rfl := nbeq.1 e'
        rw [if_neg hne]
      · rename_i e'
        exact dropE_get
/-- A block of the call's own becomes a row: a slice over all of it. -/
theorem Wd.toRow {T : Tl} {ρ : List Nat} {E : El} {R : List Row} {pub : Nat → Prop} {s w : World} (h : Wd b ⟨T, ρ, E, R, pub, s⟩ w) {i : Nat} {cs : List SV} {e : TypeId} {sz n : Nat} (hi : lk E i = some (cs, e)) (hn : cs.length = n * sz) (hm : n ≤ maxLen) :
    Wd b ⟨T, ρ, dropE i E, ⟨.slice (some ⟨ρ.getD i 0, 0, none⟩) n n, e, sz, denL ρ cs⟩ :: R, pub, s⟩ w := by
  obtain ⟨n1, n2, n3⟩ := h.entN i cs e hi
  have hsome : ∀ j, (lk (dropE i E) j).isSome = true → (lk E j).isSome = true ∧ j ≠ i := by
    intro j hj
    rw [dropE_get] at hj
    split at hj
    · cases hj
    · rename_i hne; exact ⟨hj, hne⟩
  refine ⟨h.below, h.size, h.pub, fun j c t hj => ?_, fun j c t hj => ?_, fun j k hj hk hne => h.inj j k (hsome j hj).1 (hsome k hk).1 hne, fun q hq => ?_, List.Pairwise.cons (fun q hq g h1 h2 => ?_) h.rinj⟩
  · simp only [dropE_get] at hj
    split at hj
    · cases hj
    · exact h.ent j c t hj
  · simp only [dropE_get] at hj
    split at hj
    · cases hj
    · exact h.entN j c t hj
  · rcases List.mem_cons.1 hq with rfl | hq
    · refine ⟨⟨n, by simp [denL_length, hn], .inr ⟨ρ.getD i 0, 0, n, (denL ρ cs).toArray, rfl, h.ent i cs e hi, Nat.le_refl _, hm, by simp [denL_length, hn], ?_⟩⟩, fun g hg => ?_⟩
      · rw [← hn, ← denL_length ρ cs]; simp
      · simp [rowB] at hg; subst hg
        exact ⟨n2, n3, fun j hj => h.inj j i (hsome j hj).1 (by simp only; rw [hi]; rfl) (hsome j hj).2⟩
    · obtain ⟨k1, k2⟩ := h.row q hq
      exact ⟨k1, fun g hg => ⟨(k2 g hg).1, (k2 g hg).2.1, fun j hj => (k2 g hg).2.2 j (hsome j hj).1⟩⟩
  · simp [rowB] at h1; subst h1
    exact ((h.row q hq).2 _ h2).2.2 i (by simp only; rw [hi]; rfl) rfl

/-- append(v, y...): v a row, y readable. -/
theorem append_run (hty : TyOk P ty) {t : TypeId} {ti ei : TI} {e : TypeId} (ht : lk ty t = some ti) (hel : ti.elem = some e) (he : lk ty e = some ei) (hz : ei.z.cells.size = ei.size) (h0 : 0 < ei.size)
    {w : World} {A : Option Addr} {n c : Nat} {xs : List Value} (hr : RowOk w ⟨.slice A n c, e, ei.size, xs⟩) {S : Nat → Prop} {B : Option Addr} {m d : Nat} {ys : List Value} (hys : ys.length = m * ei.size) (hc : Cells S w B ys) (hp : ∀ u ∈ ys, u.oneCell' = true)
    (hlim : (n + m) * ei.bytes ≤ 140737488355328) (hb0 : 0 < ei.bytes) (ty' : TypeId) :
    ∃ A' c' w', (Builtin.append_ #[t, t] ty' #[.slice A n c, .slice B m d]).run P w = .ok (.slice A' (n + m) c') w' ∧ RowOk w' ⟨.slice A' (n + m) c', e, ei.size, xs ++ ys⟩ ∧ w.grownBy w' (rowB (.slice A n c)) ∧
      (rowB (.slice A' (n + m) c') = rowB (.slice A n c) ∨ rowB (.slice A' (n + m) c') = some w.heap.size) := by
  obtain ⟨y, dd, hy, hd, h1, h2, h3, h4, h5, h6, h7, h8⟩ := (hty _ _ ht).get
  obtain ⟨y', dd', hy', hd', g1, g2, g3, g4, g5, g6, g7, g8⟩ := (hty _ _ he).get
  rw [hel] at h6
  cases dd <;> simp only [elB] at h6 <;> try (cases h6; done)
  rename_i e2
  have hd : P.underlying t = some (.slice e) := by rw [hd, nbeq.1 h6]
  obtain ⟨n', hown⟩ := hr
  obtain rfl : n' = n := by
    rcases hown.2 with ⟨hv, hn⟩ | ⟨g, o, cap, cur, hv, _⟩
    · injection hv with _ e1 _; rw [hn]; exact e1.symm
    · injection hv with _ e1 _; exact e1.symm
  have _hxl : xs.length = n' * ei.size := hown.1
  have hnm : (n' + m) * ei.bytes ≤ 140737488355328 := hlim
  have hmx : n' + m ≤ maxLen := by
    have : n' + m ≤ (n' + m) * ei.bytes := Nat.le_mul_of_pos_right _ hb0
    simp only [maxLen]; omega
  have hsmall : n' + m ≤ 9223372036854775807 := by simp only [maxLen] at hmx; omega
  have hlen : (xs ++ ys).length = (n' + m) * ei.size := by rw [List.length_append, _hxl, hys, Nat.add_mul]
  have grown : ∀ (old : Nat), old < n' + m → ∀ (row : Option Nat),
      RowOk (w.drew.alloc (.cells (xs.toArray ++ ys.toArray ++ Builtin.zeroCells ei.z.cells (grownCap w (n' + m) old e - (n' + m))) e)) ⟨.slice (some ⟨w.heap.size, 0, none⟩) (n' + m) (grownCap w (n' + m) old e), e, ei.size, xs ++ ys⟩ ∧
      w.grownBy (w.drew.alloc (.cells (xs.toArray ++ ys.toArray ++ Builtin.zeroCells ei.z.cells (grownCap w (n' + m) old e - (n' + m))) e)) row := by
    intro old ho row
    have hge := grownCap_ge w (n' + m) old e
    have hcm : grownCap w (n' + m) old e ≤ maxLen := grownCap_le_maxLen w (n' + m) old e hmx
    refine ⟨⟨n' + m, hlen, .inr ⟨w.heap.size, 0, _, _, rfl, heap_alloc_new w.drew _, hge, hcm, ?_, ?_⟩⟩, ⟨rfl, rfl, rfl, by simp, fun k hk _ => heap_alloc_old w.drew _ hk⟩⟩
    · simp only [Array.size_append, List.size_toArray, size_zeroCells, hz, _hxl, hys, ← Nat.add_mul, Nat.zero_add]
      exact Nat.le_of_eq (by congr 1; omega)
    · simp only [Array.toList_append, List.append_assoc, List.drop_zero]
      rw [← List.append_assoc, ← hlen]
      exact List.take_left
  have key : ∀ (a : Addr), (∀ j u, ys[j]? = some u → w.cell? (a.add j) = some u) → ∃ A' c' w', (Builtin.append_ #[t, t] ty' #[.slice A n' c, .slice (some a) m d]).run P w = .ok (.slice A' (n' + m) c') w' ∧ RowOk w' ⟨.slice A' (n' + m) c', e, ei.size, xs ++ ys⟩ ∧ w.grownBy w' (rowB (.slice A n' c)) ∧
      (rowB (.slice A' (n' + m) c') = rowB (.slice A n' c) ∨ rowB (.slice A' (n' + m) c') = some w.heap.size) := by
    intro a ha
    rcases hown.2 with ⟨hv, hn⟩ | ⟨g, o, cap, cur, hv, hh, hnc, hcm, hcs, htake⟩
    · injection hv with e1 e2 e3; subst e1; subst e2; subst e3
      obtain ⟨v', w', k1, k2, k3, _, k5⟩ := run_append_own_at (P := P) (w := w) 0 t ty' e y' ei.z ei.size ei.bytes hd hy' g3 g1 g2 hz h0 (.slice none 0 0) 0 xs ⟨_hxl, .inl ⟨rfl, rfl⟩⟩ a m d ys hys ha hp hmx hnm (Nat.zero_le _)
      have e' : ∀ u : Value, u.ownBlock = rowB u := fun u => by cases u <;> rfl
      rw [e', e'] at k5
      rw [e'] at k3
      obtain ⟨q1, ⟨hv, hn⟩ | ⟨g, cap, cur, hv, _, q2, q3, q4, q5, q6⟩⟩ := k2
      · exact ⟨none, 0, w', by rw [k1, hv, hn], ⟨0 + m, q1, .inl ⟨by rw [hn], hn⟩⟩, k3, by rw [hv] at k5; exact k5⟩
      · exact ⟨_, cap, w', by rw [k1, hv], ⟨0 + m, q1, .inr ⟨g, 0, cap, cur, rfl, q2, q3, q4, by rw [q5]; simp, q6⟩⟩, k3, by rw [← hv]; exact k5⟩
    · injection hv with e1 e2 e3; subst e1; subst e3
      by_cases hroom : n' + m ≤ c
      · have hfit : o + n' * ei.size + ys.length ≤ cur.size := by
          have : (n' + m) * ei.size ≤ c * ei.size := Nat.mul_le_mul_right _ hroom
          rw [Nat.add_mul] at this
          simp only at hcs
          omega
        have hf := run_firstCells_some (P := P) w ei.size m a m d ys hys ha
        have hst := run_storeCells_at P g (o + n' * ei.size) e ys 0 cur w hh (by simpa using hfit) hp
        simp only [Nat.add_zero] at hst
        have hr : (Builtin.append_ #[t, t] ty' #[.slice (some ⟨g, o, none⟩) n' c, .slice (some a) m d]).run P w = .ok (.slice (some ⟨g, o, none⟩) (n' + m) c) (w.setRow g (cur.toList.take (o + n' * ei.size) ++ ys ++ cur.toList.drop (o + n' * ei.size + ys.length)).toArray) := by
          simp [Builtin.append_, Go.run_underlying hd, sizeOf, typeInfo, hy', Builtin.lenOf, hroom, hf, Addr.add_lit, g1, hst]
        refine ⟨_, c, _, hr, ⟨n' + m, hlen, .inr ⟨g, o, c, _, rfl, setRow_heap w g cur _ e _ hh, hroom, hcm, ?_, ?_⟩⟩, ⟨rfl, rfl, rfl, by simp, fun k _ hk => setRow_other w g k _ (fun e => hk (by simp [rowB, e]))⟩, .inl rfl⟩
        · simp only [List.size_toArray, List.length_append, List.length_take, List.length_drop, Array.length_toList]
          simp only at hcs
          omega
        · have ht : cur.toList.take (o + n' * ei.size) = cur.toList.take o ++ xs := by
            have : (cur.toList.drop o).take (n' * ei.size) = xs := htake
            rw [List.take_add, this]
          have hto : (cur.toList.take o).length = o := by
            simp only [List.length_take, Array.length_toList]; simp only at hcs; omega
          simp only [ht, List.append_assoc]
          rw [List.drop_append_of_le_length (by omega), List.drop_of_length_le (by omega), List.nil_append, ← List.append_assoc, ← hlen]
          exact List.take_left
      · have holds : ∀ j u, xs[j]? = some u → w.cell? ((⟨g, o, none⟩ : Addr).add j) = some u := by
          intro j u hj
          have : Cells (fun _ => True) w (some ⟨g, o, none⟩) xs := (RowOk.cells (r := ⟨.slice (some ⟨g, o, none⟩) n' c, e, ei.size, xs⟩) ⟨n', hown⟩) rfl _ (fun _ _ => trivial)
          rcases this with h | ⟨ad, e1, _, h⟩
          · subst h; simp at hj
          · injection e1 with e1; subst e1; exact h j u hj
        have hr := run_append_grow (P := P) w t ty' e y' ei.z hd hy' g3 ⟨g, o, none⟩ n' c xs (by rw [_hxl, g1]) holds a m d ys (by rw [hys, g1]) ha (by omega) (by omega) (by rw [g2]; exact growslice_fits (by omega) hnm)
        have hgr := grown c (by omega) (rowB (.slice (some ⟨g, o, none⟩) n' c))
        exact ⟨_, _, _, hr, hgr.1, hgr.2, Or.inr rfl⟩
  rcases B with _ | a
  · have hm0 : ys = [] := by
      rcases hc with h | ⟨_, h, _⟩
      · exact h
      · cases h
    subst hm0
    have hm : m = 0 := by
      have h9 : m * ei.size = 0 := hys.symm
      rcases Nat.mul_eq_zero.1 h9 with h | h
      · exact h
      · omega
    subst hm
    -- nothing is appended
    have hrun : (Builtin.append_ #[t, t] ty' #[.slice A n' c, .slice none 0 d]).run P w = .ok (.slice A n' c) w := by
      rcases hown.2 with ⟨hv, hn⟩ | ⟨g, o, cap, cur, hv, hh, hnc, _⟩
      · injection hv with e1 e2 e3; subst e1; subst e2; subst e3
        simp [Builtin.append_, Go.run_underlying hd, sizeOf, typeInfo, hy', Builtin.lenOf, Builtin.firstCells]
      · injection hv with e1 e2 e3; subst e1; subst e3
        simp [Builtin.append_, Go.run_underlying hd, sizeOf, typeInfo, hy', Builtin.lenOf, Builtin.firstCells, hnc, storeCells]
    exact ⟨A, c, w, hrun, ⟨n', by simpa using hown⟩, World.grownBy.refl w _, .inl rfl⟩
  · refine key a fun j u hj => ?_
    rcases hc with h | ⟨ad, e1, _, h⟩
    · subst h; simp at hj
    · injection e1 with e1; subst e1; exact h j u hj

theorem exec_append {ρ : List Nat} {T : Tl} {x y : Operand} {t type : TypeId} {dst : Option Tmp} {pos : String} {after : Array Edge} {guard : Option (Nat × Bool)} {v u v' : Value} {w w' : World} (hx : evF ρ T x = v) (hy : evF ρ T y = u)
    (hrun : (Builtin.append_ #[t, t] type #[v, u]).run P w = .ok v' w') : (execOp (evF ρ T) { dst, op := .call { callee := .builtin .append, args := #[x, y], argTypes := #[t, t] }, type, pos, after, guard }).run P w = .ok (.value v') w' := by
  simp only [execOp, resolve, invoke, builtin, Sem.run_bind, Sem.run_pure, Result.andThen_ok, List.map_toArray, List.map_cons, List.map_nil, hx, hy, hrun]

/-- append(v, y...) where v is row number j. -/
theorem appendK (hty : TyOk P ty) {T : Tl} {ρ : List Nat} {E E0 : El} {R R0 : List Row} {pub pub0 : Nat → Prop} {s s0 : World} {K : St → Prop} {x y : Operand} {t type : TypeId} {dst : Option Tmp} {pos : String} {after : Array Edge} {guard : Option (Nat × Bool)}
    {ti ei : TI} {e : TypeId} (ht : lk ty t = some ti) (hel : ti.elem = some e) (he : lk ty e = some ei) (hz : ei.z.cells.size = ei.size) (h0 : 0 < ei.size) (hb0 : 0 < ei.bytes)
    {w : World} (hw : Wd b ⟨T, ρ, E, R, pub, s⟩ w) (j : Nat) {A : Option Addr} {n c : Nat} {xs : List Value} (hj : R[j]? = some ⟨.slice A n c, e, ei.size, xs⟩) (hx : evF ρ T x = .slice A n c)
    {B : Option Addr} {m d : Nat} {ys : List Value} (hy : evF ρ T y = .slice B m d) {S : Nat → Prop} (hys : ys.length = m * ei.size) (hc : Cells S w B ys) (hp : ∀ u ∈ ys, u.oneCell' = true) (hlim : (n + m) * ei.bytes ≤ 140737488355328)
    (hk : ∀ A' c', putK N dst (.v (.slice A' (n + m) c')) ⟨T, ρ, E, R.set j ⟨.slice A' (n + m) c', e, ei.size, xs ++ ys⟩, pub, s⟩ K) :
    GenR P (AfterK N b dst ⟨T, ρ, E0, R0, pub0, s0⟩ K) ((execOp (evF ρ T) { dst, op := .call { callee := .builtin .append, args := #[x, y], argTypes := #[t, t] }, type, pos, after, guard }).run P w) := by
  obtain ⟨A', c', w', h1, h2, h3, h4⟩ := append_run hty ht hel he hz h0 (hw.row _ (List.mem_of_getElem? hj)).1 hys hc hp hlim hb0 type
  rw [exec_append hx hy h1]
  exact ⟨E, R.set j ⟨.slice A' (n + m) c', e, ei.size, xs ++ ys⟩, pub, s, hw.grow hj h3 h2 (h4.elim (fun h => .inr (.inl h)) (fun h => .inr (.inr ⟨_, h, Nat.le_refl _⟩))), hk A' c'⟩

/-- Cells written over. -/
def ovw (xs : List Value) (k : Nat) (l : List Value) : List Value := xs.take k ++ l ++ xs.drop (k + l.length)
theorem ovw_length {xs : List Value} {k : Nat} {l : List Value} (h : k + l.length ≤ xs.length) : (ovw xs k l).length = xs.length := by simp [ovw]; omega
theorem ovw_get {xs : List Value} {k : Nat} {l : List Value} (h : k + l.length ≤ xs.length) (i : Nat) : (ovw xs k l)[i]? = if k ≤ i ∧ i < k + l.length then l[i - k]? else xs[i]? := by
  unfold ovw
  rw [List.append_assoc]
  rcases Nat.lt_or_ge i k with h1 | h1
  · rw [if_neg (by omega), List.getElem?_append_left (by simp; omega), List.getElem?_take_of_lt h1]
  · rw [List.getElem?_append_right (by simp; omega)]
    simp only [List.length_take, Nat.min_eq_left (show k ≤ xs.length by omega)]
    rcases Nat.lt_or_ge i (k + l.length) with h2 | h2
    · rw [if_pos ⟨h1, h2⟩, List.getElem?_append_left (by omega)]
    · rw [if_neg (by omega), List.getElem?_append_right (by omega), List.getElem?_drop]
      congr 1; omega

/-- A store into row number j. -/
theorem storeRow_run {w : World} {g o n c : Nat} {e : TypeId} {sz : Nat} {xs : List Value} (hr : RowOk w ⟨.slice (some ⟨g, o, none⟩) n c, e, sz, xs⟩) {k : Nat} {l : List Value} (hk : k + l.length ≤ xs.length) (hp : ∀ u ∈ l, plainV u = true) :
    ∃ w', (storeCells ⟨g, o + k, none⟩ l 0).run P w = .ok () w' ∧ RowOk w' ⟨.slice (some ⟨g, o, none⟩) n c, e, sz, ovw xs k l⟩ ∧ w.grownBy w' (some g) := by
  obtain ⟨n', hl, ⟨hv, hn⟩ | ⟨g', o', cap, cur, hv, hh, h1, h2, h3, h4⟩⟩ := hr
  · cases hv
  · injection hv with e1 e2 e3
    injection e1 with e1; injection e1 with e1 e1'
    subst e1; subst e2; subst e3; subst e1'
    simp only at h3
    have hle : o + n * sz ≤ cur.size := Nat.le_trans (Nat.add_le_add_left (Nat.mul_le_mul_right _ h1) _) h3
    have hl' : xs.length = n * sz := hl
    have h4' : (cur.toList.drop o).take (n * sz) = xs := h4
    have hrun := run_storeCells (P := P) (g := g) (off := o + k) (t := e) l 0 cur w hp hh (by omega)
    refine ⟨_, hrun, ⟨n, by rw [ovw_length hk]; exact hl, .inr ⟨g, o, c, _, rfl, setW_at _ _ _ (Array.getElem?_eq_some_iff.1 hh).1, h1, h2, ?_, ?_⟩⟩, ⟨rfl, rfl, rfl, by rw [setW_size]; exact Nat.le_refl _, fun q _ hne => setW_ne _ _ (fun e => hne (by rw [e]))⟩⟩
    · rw [(foldl_put cur (o + k) l 0 cur).1]; exact h3
    · apply List.ext_getElem?
      intro i
      simp only
      rw [ovw_get hk]
      rcases Nat.lt_or_ge i (n * sz) with hi | hi
      · rw [List.getElem?_take_of_lt hi, List.getElem?_drop, Array.getElem?_toList, (foldl_put cur (o + k) l 0 cur).2 (o + i)]
        by_cases c1 : k ≤ i ∧ i < k + l.length
        · rw [if_pos c1, if_pos ⟨by omega, by omega, by omega⟩]
          congr 1; omega
        · rw [if_neg c1, if_neg (by omega), ← h4', List.getElem?_take_of_lt hi, List.getElem?_drop, Array.getElem?_toList]
      · rw [List.getElem?_eq_none (by simp; omega), if_neg (by omega), List.getElem?_eq_none (by omega)]

theorem exec_store (hty : TyOk P ty) {ρ : List Nat} {T : Tl} {x y : Operand} {t type : TypeId} {dst : Option Tmp} {pos : String} {after : Array Edge} {guard : Option (Nat × Bool)} {ti : TI} (ht : lk ty t = some ti) {a : Addr} {u : Value} {l : List Value} {w w' : World}
    (hx : evF ρ T x = .pointer (some a)) (hy : evF ρ T y = u) (hu : u.cells = l.toArray) (hl : l.length = ti.size) (hrun : (storeCells a l 0).run P w = .ok () w') :
    (execOp (evF ρ T) { dst, op := .store t x y, type, pos, after, guard }).run P w = .ok .skip w' := by
  simp only [execOp]
  refine run_unit ?_
  rw [hx, hy]
  simp only [Instr.storeAt, Instr.sureAddr, Sem.run_bind, Sem.run_pure, Result.andThen_ok, storeVar, run_sizeOf (hty _ _ ht), hu]
  rw [if_neg (by simp [hl])]
  exact hrun

/-- A store into row number j, cells from k on. -/
theorem storeK (hty : TyOk P ty) {T : Tl} {ρ : List Nat} {E E0 : El} {R R0 : List Row} {pub pub0 : Nat → Prop} {s s0 : World} {K : St → Prop} {x y : Operand} {t type : TypeId} {pos : String} {after : Array Edge} {guard : Option (Nat × Bool)}
    {ti : TI} (ht : lk ty t = some ti) {w : World} (hw : Wd b ⟨T, ρ, E, R, pub, s⟩ w) (j : Nat) {ad : Addr} {n c : Nat} {e : TypeId} {sz : Nat} {xs : List Value} (hj : R[j]? = some ⟨.slice (some ad) n c, e, sz, xs⟩) (k : Nat) (hx : evF ρ T x = .pointer (some (ad.add k)))
    {u : Value} {l : List Value} (hy : evF ρ T y = u) (hu : u.cells = l.toArray) (hl : l.length = ti.size) (hk : k + l.length ≤ xs.length) (hp : ∀ u ∈ l, plainV u = true)
    (hK : K ⟨T, ρ, E, R.set j ⟨.slice (some ad) n c, e, sz, ovw xs k l⟩, pub, s⟩) :
    GenR P (AfterK N b none ⟨T, ρ, E0, R0, pub0, s0⟩ K) ((execOp (evF ρ T) { dst := none, op := .store t x y, type, pos, after, guard }).run P w) := by
  have hr := (hw.row _ (List.mem_of_getElem? hj)).1
  have had : ad = ⟨ad.block, ad.off, none⟩ := by
    obtain ⟨n', hl, ⟨hv, hn⟩ | ⟨g', o, cap, cur, hv, _⟩⟩ := hr
    · cases hv
    · injection hv with e1 _ _; injection e1 with e1; rw [e1]
  rw [had] at hr
  obtain ⟨w', h1, h2, h3⟩ := storeRow_run (P := P) hr hk hp
  have ha : ad.add k = ⟨ad.block, ad.off + k, none⟩ := by
    rw [had, add_own]
  rw [ha] at hx
  rw [exec_store hty ht hx hy hu hl h1]
  rw [← had] at h2
  exact ⟨E, R.set j ⟨.slice (some ad) n c, e, sz, ovw xs k l⟩, pub, s, hw.grow hj (by rw [had]; exact h3) h2 (.inr (.inl (by rfl))), hK⟩

/-- A read of a cell of a row. -/
theorem RowOk.cell {w : World} {ad : Addr} {n c : Nat} {e : TypeId} {sz : Nat} {xs : List Value} (hr : RowOk w ⟨.slice (some ad) n c, e, sz, xs⟩) {k : Nat} {u : Value} (hk : xs[k]? = some u) : w.cell? (ad.add k) = some u := by
  have := hr.cells (A := some ad) (n := n) (c := c) rfl (fun _ => True) (fun _ _ => trivial)
  rcases this with h | ⟨ad', e1, _, h⟩
  · simp only at h; subst h; simp at hk
  · injection e1 with e1; subst e1; exact h k u hk

/-- Behind a call that was handed a block of the call's own and a row, and may have written both. -/
theorem Wd.handed {T : Tl} {ρ : List Nat} {E : El} {R : List Row} {pub : Nat → Prop} {s w w' : World} (h : Wd b ⟨T, ρ, E, R, pub, s⟩ w) {i : Nat} {cs cs' : List SV} {t : TypeId} (hi : lk E i = some (cs, t)) {j : Nat} {r r' : Row} (hj : R[j]? = some r)
    (ho : Only (fun k => k = ρ.getD i 0 ∨ rowB r.v = some k) w w') (hc : w'.heap[ρ.getD i 0]? = some (.cells (denL ρ cs').toArray t (0, 0))) (hr : RowOk w' r')
    (hb : ∀ g, rowB r'.v = some g → rowB r.v = some g ∨ w.heap.size ≤ g) : Wd b ⟨T, ρ, (i, (cs', t)) :: E, R.set j r', pub, s⟩ w' := by
  have hmem : r ∈ R := List.mem_of_getElem? hj
  obtain ⟨kr1, kr2⟩ := h.row r hmem
  obtain ⟨ne1, ne2, ne3⟩ := h.entN i cs t hi
  have hlt : ∀ i c t, lk E i = some (c, t) → ρ.getD i 0 < w.heap.size := fun i c t hi => (Array.getElem?_eq_some_iff.1 (h.ent i c t hi)).1
  have hsome : ∀ k, (lk ((i, (cs', t)) :: E) k).isSome = true → (lk E k).isSome = true := by
    intro k hk
    simp only [lk] at hk
    split at hk
    · rename_i e; obtain rfl := nbeq.1 e; rw [hi]; rfl
    · exact hk
  obtain ⟨lj, hj1⟩ := List.getElem?_eq_some_iff.1 hj
  have hp := List.pairwise_iff_getElem.1 h.rinj
  have other : ∀ i q g, R[i]? = some q → i ≠ j → rowB q.v = some g → rowB r.v ≠ some g := by
    intro i q g hi hne hq hr
    obtain ⟨li, hi1⟩ := List.getElem?_eq_some_iff.1 hi
    rcases Nat.lt_or_gt_of_ne hne with hlt' | hlt'
    · exact hp i j li lj hlt' g (by rw [hi1]; exact hq) (by rw [hj1]; exact hr)
    · exact hp j i lj li hlt' g (by rw [hj1]; exact hr) (by rw [hi1]; exact hq)
  have hmine : ∀ g, rowB r'.v = some g → b.mine g ∧ ¬ pub g ∧ (∀ i, (lk E i).isSome = true → ρ.getD i 0 ≠ g) ∧ (∀ q, q ∈ R → rowB q.v = some g → rowB r.v = some g) := by
    intro g hg'
    rcases hb g hg' with hb | hge
    · obtain ⟨q1, q2, q3⟩ := kr2 g hb
      exact ⟨q1, q2, q3, fun _ _ _ => hb⟩
    · refine ⟨.inr (Nat.le_trans h.below.size hge), fun hp => ?_, fun i hi => ?_, fun q hq hqg => ?_⟩
      · have := (h.pub _ hp).1; have := h.size; simp only at *; omega
      · obtain ⟨⟨c, t⟩, hc⟩ := Option.isSome_iff_exists.1 hi
        have := hlt i c t hc; omega
      · have := (h.row q hq).1.lt hqg; omega
  have setAt : ∀ i q, (R.set j r')[i]? = some q → (i = j ∧ q = r') ∨ (i ≠ j ∧ R[i]? = some q) := by
    intro i q hi
    by_cases e : i = j
    · subst e
      rw [List.getElem?_set_self lj] at hi
      injection hi with hi
      exact .inl ⟨rfl, hi.symm⟩
    · rw [List.getElem?_set_ne (fun h => e h.symm)] at hi
      exact .inr ⟨e, hi⟩
  refine ⟨⟨ho.os.trans h.below.os, ho.tape.trans h.below.tape, ho.output.trans h.below.output, Nat.le_trans h.below.size ho.size, fun k hk hm => ?_⟩, Nat.le_trans h.size ho.size, fun k hk => ?_, fun k c t' hk => ?_, fun k c t' hk => ?_, fun k l hk hl hne => h.inj k l (hsome k hk) (hsome l hl) hne, fun q hq => ?_, ?_⟩
  · rw [ho.block k (Nat.lt_of_lt_of_le hk h.below.size)]
    · exact h.below.block k hk hm
    · rintro (e | e)
      · rcases ne2 with h' | h'
        · exact hm (by rw [e]; exact h')
        · simp only at *; omega
      · rcases (kr2 k e).1 with h' | h'
        · exact hm h'
        · omega
  · obtain ⟨k1, k2⟩ := h.pub k hk
    refine ⟨k1, ?_⟩
    rw [ho.block k (Nat.lt_of_lt_of_le k1 h.size)]
    · exact k2
    · rintro (e | e)
      · exact ne3 (by rw [e] at hk; exact hk)
      · exact (kr2 k e).2.1 hk
  · simp only [lk] at hk
    split at hk
    · rename_i e; obtain rfl := nbeq.1 e
      injection hk with hk; injection hk with e1 e2; subst e1; subst e2
      exact hc
    · rename_i e
      show w'.heap[ρ.getD k 0]? = _
      rw [ho.block _ (hlt k c t' hk)]
      · exact h.ent k c t' hk
      · rintro (e' | e')
        · exact h.inj k i (by simp only; rw [hk]; rfl) (by simp only; rw [hi]; rfl) (fun e2 => nbeq_ne.1 e e2.symm) e'
        · exact (kr2 _ e').2.2 k (by simp only; rw [hk]; rfl) rfl
  · simp only [lk] at hk
    split at hk
    · rename_i e; obtain rfl := nbeq.1 e
      exact ⟨ne1, ne2, ne3⟩
    · exact h.entN k c t' hk
  · obtain ⟨k, hk⟩ := List.mem_iff_getElem?.1 hq
    rcases setAt k q hk with ⟨_, rfl⟩ | ⟨hne, hi'⟩
    · refine ⟨hr, fun g hg' => ?_⟩
      obtain ⟨q1, q2, q3, _⟩ := hmine g hg'
      exact ⟨q1, q2, fun l hl => q3 l (hsome l hl)⟩
    · obtain ⟨k1, k2⟩ := h.row q (List.mem_of_getElem? hi')
      refine ⟨k1.keep fun g hg' => ho.block g (k1.lt hg') ?_, fun g hg' => ⟨(k2 g hg').1, (k2 g hg').2.1, fun l hl => (k2 g hg').2.2 l (hsome l hl)⟩⟩
      rintro (e' | e')
      · exact (k2 g hg').2.2 i (by simp only; rw [hi]; rfl) e'.symm
      · exact other k q g hi' hne hg' e'
  · refine List.pairwise_iff_getElem.2 fun i1 i2 l1 l2 hl g h1 h2 => ?_
    have e1 := setAt i1 _ (List.getElem?_eq_getElem l1)
    have e2 := setAt i2 _ (List.getElem?_eq_getElem l2)
    rcases e1 with ⟨rfl, e1⟩ | ⟨n1, e1⟩
    · rcases e2 with ⟨rfl, _⟩ | ⟨n2, e2⟩
      · omega
      · rw [e1] at h1
        exact other i2 _ g e2 n2 h2 ((hmine g h1).2.2.2 _ (List.mem_of_getElem? e2) h2)
    · rcases e2 with ⟨rfl, e2⟩ | ⟨n2, e2⟩
      · rw [e2] at h2
        exact other i1 _ g e1 n1 h1 ((hmine g h2).2.2.2 _ (List.mem_of_getElem? e1) h1)
      · obtain ⟨m1, e1'⟩ := List.getElem?_eq_some_iff.1 e1
        obtain ⟨m2, e2'⟩ := List.getElem?_eq_some_iff.1 e2
        exact hp i1 i2 m1 m2 hl g (by rw [e1']; exact h1) (by rw [e2']; exact h2)

/-- The start of a call that is handed a block (its first argument's) and a row, both to be written. -/
theorem Wd.start {w : World} {g : Nat} {cs : List SV} {t : TypeId} {r : Row} {T : Tl} {pub : Nat → Prop} (_hok : okNL 1 cs = true) (hc : w.heap[g]? = some (.cells (denL [g] cs).toArray t (0, 0))) (hr : RowOk w r) (hne : rowB r.v ≠ some g)
    (hp : ∀ k, pub k → k < w.heap.size) (hp1 : ¬ pub g) (hp2 : ∀ k, rowB r.v = some k → ¬ pub k) :
    Wd ⟨w, fun k => k = g ∨ rowB r.v = some k⟩ ⟨T, [g], [(0, (cs, t))], [r], pub, w⟩ w := by
  refine ⟨Only.refl _ _, Nat.le_refl _, fun k hk => ⟨hp k hk, rfl⟩, fun i c t' hi => ?_, fun i c t' hi => ?_, fun i j hi hj hne' => ?_, fun q hq => ?_, List.pairwise_singleton _ _⟩
  · simp only [lk] at hi
    split at hi
    · rename_i e; obtain rfl := nbeq.1 e
      injection hi with hi; injection hi with e1 e2; subst e1; subst e2
      exact hc
    · cases hi
  · simp only [lk] at hi
    split at hi
    · rename_i e; obtain rfl := nbeq.1 e
      exact ⟨by simp, .inl (.inl rfl), hp1⟩
    · cases hi
  · simp only [lk] at hi hj
    split at hi
    · rename_i e; split at hj
      · rename_i e'; exact absurd ((nbeq.1 e).symm.trans (nbeq.1 e')) hne'
      · cases hj
    · cases hi
  · rw [List.mem_singleton] at hq; subst hq
    refine ⟨hr, fun k hk => ⟨.inl (.inr hk), hp2 k hk, fun i hi => ?_⟩⟩
    simp only [lk] at hi
    split at hi
    · rename_i e; obtain rfl := nbeq.1 e
      rintro rfl
      exact hne hk
    · cases hi
end
end Go.Vc
namespace Go.Vc
open Go.RowKit
/-- What might be read ahead of a call reads the same behind it. -/
theorem Wd.pass {b : Base} {st : St} {w w' : World} (h : Wd b st w) (hb : Below w.heap.size w w') : Same st.pub st.s w' := by
  intro k hk hl
  have := h.pub k hk
  rw [hb.block k (by have := h.size; omega)]
  exact this.2
theorem Wd.heldW {b : Base} {T : Tl} {ρ : List Nat} {E : El} {R : List Row} {pub : Nat → Prop} {s w w' : World} (h : Wd b ⟨T, ρ, E, R, pub, s⟩ w) (hb : Below w.heap.size w w') {T' : Tl} {ρ' : List Nat} {E' : El} {R' : List Row} :
    HeldW pub s ⟨T', ρ', E', R', extP pub w w', w'⟩ := fun k hk => ⟨.inl hk, h.pass hb k hk (h.pub k hk).1⟩
end Go.Vc
namespace Go.Vc
open Go.RowKit
/-- Cells of elements (three each) that are the types of a list. -/
def RepFlat (S : Nat → Prop) (w : World) : List Tp → List Value → Prop
  | [], xs => xs = []
  | t :: r, xs => ∃ v0 v1 v2 ys, xs = v0 :: v1 :: v2 :: ys ∧ RepT S w t (.agg #[v0, v1, v2]) ∧ RepFlat S w r ys
theorem RepFlat.to {S S' : Nat → Prop} {w w' : World} (hs : Same S w w') (hS : ∀ k, S k → k < w.heap.size → S' k) : ∀ {ts : List Tp} {xs : List Value}, RepFlat S w ts xs → RepFlat S' w' ts xs
  | [], xs, h => h
  | t :: r, xs, h => by
    obtain ⟨v0, v1, v2, ys, h1, h2, h3⟩ := h
    exact ⟨v0, v1, v2, ys, h1, h2.to hs hS, RepFlat.to hs hS h3⟩
theorem RepFlat.len {S : Nat → Prop} {w : World} : ∀ {ts : List Tp} {xs : List Value}, RepFlat S w ts xs → xs.length = ts.length * 3
  | [], xs, h => by simp only [RepFlat] at h; subst h; rfl
  | t :: r, xs, h => by
    obtain ⟨v0, v1, v2, ys, h1, _, h3⟩ := h
    subst h1
    simp [h3.len, Nat.add_mul]
theorem RepFlat.plain {S : Nat → Prop} {w : World} : ∀ {ts : List Tp} {xs : List Value}, RepFlat S w ts xs → ∀ u ∈ xs, u.oneCell' = true ∧ plainV u = true
  | [], xs, h, u, hu => by simp only [RepFlat] at h; subst h; cases hu
  | t :: r, xs, h, u, hu => by
    obtain ⟨v0, v1, v2, ys, h1, h2, h3⟩ := h
    subst h1
    obtain ⟨A, c, e, _⟩ := h2.opn
    injection e with e
    have e' : [v0, v1, v2] = [.int .i64 t.k, .int .i64 t.n, .slice A t.kids.length c] := congrArg Array.toList e
    injection e' with e0 e'; injection e' with e1 e'; injection e' with e2 e'
    simp only [List.mem_cons] at hu
    rcases hu with rfl | rfl | rfl | hu
    · subst e0; exact ⟨rfl, rfl⟩
    · subst e1; exact ⟨rfl, rfl⟩
    · subst e2; exact ⟨rfl, rfl⟩
    · exact h3.plain u hu
theorem RepFlat.app {S : Nat → Prop} {w : World} : ∀ {ts us : List Tp} {xs ys : List Value}, RepFlat S w ts xs → RepFlat S w us ys → RepFlat S w (ts ++ us) (xs ++ ys)
  | [], us, xs, ys, h, h' => by simp only [RepFlat] at h; subst h; exact h'
  | t :: r, us, xs, ys, h, h' => by
    obtain ⟨v0, v1, v2, zs, h1, h2, h3⟩ := h
    subst h1
    exact ⟨v0, v1, v2, zs ++ ys, rfl, h2, h3.app h'⟩
theorem RepFlat.one {S : Nat → Prop} {w : World} {t : Tp} {v0 v1 v2 : Value} (h : RepT S w t (.agg #[v0, v1, v2])) : RepFlat S w [t] [v0, v1, v2] := ⟨v0, v1, v2, [], rfl, h, rfl⟩
theorem RepFlat.split {S : Nat → Prop} {w : World} : ∀ {ts us : List Tp} {xs : List Value}, RepFlat S w (ts ++ us) xs → ∃ ys zs, xs = ys ++ zs ∧ RepFlat S w ts ys ∧ RepFlat S w us zs
  | [], us, xs, h => ⟨[], xs, rfl, rfl, h⟩
  | t :: r, us, xs, h => by
    obtain ⟨v0, v1, v2, ys, h1, h2, h3⟩ := h
    obtain ⟨ys', zs, e, k1, k2⟩ := h3.split
    exact ⟨v0 :: v1 :: v2 :: ys', zs, by rw [h1, e]; rfl, ⟨v0, v1, v2, ys', rfl, h2, k1⟩, k2⟩
/-- A slice's kids as its cells. -/
theorem RepKs.flat {S : Nat → Prop} {w : World} : ∀ {ks : List Tp} {ad : Addr} {j : Nat}, RepKs S w ks (some ad) j → ∃ xs, RepFlat S w ks xs ∧ ∀ i v, xs[i]? = some v → S ad.block ∧ w.cell? (ad.add (j * 3 + i)) = some v
  | [], ad, j, h => ⟨[], rfl, fun i v hv => by simp at hv⟩
  | t :: r, ad, j, h => by
    simp only [RepKs] at h
    obtain ⟨⟨ad', v0, v1, v2, e, h1, h2, h3, h4, h5⟩, h6⟩ := h
    injection e with e; subst e
    obtain ⟨xs, k1, k2⟩ := RepKs.flat h6
    refine ⟨v0 :: v1 :: v2 :: xs, ⟨v0, v1, v2, xs, rfl, h5, k1⟩, fun i v hv => ?_⟩
    match i, hv with
    | 0, hv => simp at hv; subst hv; exact ⟨h1, h2⟩
    | 1, hv => simp at hv; subst hv; exact ⟨h1, h3⟩
    | 2, hv => simp at hv; subst hv; exact ⟨h1, h4⟩
    | i + 3, hv =>
      obtain ⟨q1, q2⟩ := k2 i v (by simpa using hv)
      exact ⟨q1, by rwa [show j * 3 + (i + 3) = (j + 1) * 3 + i from by omega]⟩
theorem RepKs.cells {S : Nat → Prop} {w : World} {ks : List Tp} {A : Option Addr} (h : RepKs S w ks A 0) : ∃ xs, RepFlat S w ks xs ∧ Cells S w A xs := by
  cases ks with
  | nil => exact ⟨[], rfl, .inl rfl⟩
  | cons t r =>
    have h' := h
    simp only [RepKs] at h'
    obtain ⟨⟨ad, _, _, _, rfl, h1, _⟩, _⟩ := h'
    obtain ⟨xs, k1, k2⟩ := RepKs.flat h
    exact ⟨xs, k1, .inr ⟨ad, rfl, h1, fun j v hv => by have := (k2 j v hv).2; simpa using this⟩⟩
theorem RepKs.ofFlat {S : Nat → Prop} {w : World} {A : Option Addr} : ∀ {ks : List Tp} {xs : List Value} {j : Nat}, RepFlat S w ks xs → (∀ i v, xs[i]? = some v → ∃ ad, A = some ad ∧ S ad.block ∧ w.cell? (ad.add (j * 3 + i)) = some v) → RepKs S w ks A j
  | [], _, _, _, _ => by simp only [RepKs]
  | t :: r, xs, j, h, hc => by
    obtain ⟨v0, v1, v2, ys, rfl, h2, h3⟩ := h
    simp only [RepKs]
    obtain ⟨ad, rfl, hs, h0⟩ := hc 0 v0 rfl
    obtain ⟨ad1, e1, _, h1⟩ := hc 1 v1 rfl
    obtain ⟨ad2, e2, _, h2'⟩ := hc 2 v2 rfl
    injection e1 with e1; subst e1
    injection e2 with e2; subst e2
    refine ⟨⟨ad, v0, v1, v2, rfl, hs, h0, h1, h2', h2⟩, RepKs.ofFlat h3 fun i v hv => ?_⟩
    obtain ⟨ad', e, q1, q2⟩ := hc (i + 3) v (by simpa using hv)
    exact ⟨ad', e, q1, by rwa [show (j + 1) * 3 + i = j * 3 + (i + 3) from by omega]⟩
theorem RepKs.ofCells {S S' : Nat → Prop} {w : World} {A : Option Addr} {ks : List Tp} {xs : List Value} (h : RepFlat S w ks xs) (hc : Cells S' w A xs) (hS : ∀ k, S k → k < w.heap.size → S' k) : RepKs S' w ks A 0 := by
  refine RepKs.ofFlat (h.to (Same.rfl' _ _) hS) fun i v hv => ?_
  rcases hc with hc | ⟨ad, rfl, h1, h2⟩
  · subst hc; simp at hv
  · exact ⟨ad, rfl, h1, by have := h2 i v hv; simpa using this⟩

end Go.Vc
namespace Go.Vc
open Go.RowKit
theorem RowOk.some {w : World} {A : Option Addr} {n c : Nat} {e : TypeId} {sz : Nat} {xs : List Value} (h : RowOk w ⟨.slice A n c, e, sz, xs⟩) (hn : n ≠ 0) : ∃ ad, A = .some ad := by
  obtain ⟨n', hl, ⟨hv, h0⟩ | ⟨g', o, cap, cur, hv, _⟩⟩ := h
  · injection hv with e1 e2 e3; exact absurd e2 hn
  · injection hv with e1 e2 e3; exact ⟨_, e1⟩
/-- An element of three cells read out of a row. -/
theorem RowOk.ld3 {P : Program} {w : World} {ad : Addr} {n c : Nat} {e : TypeId} {tn : TypeId} {ti : TI} (hi : TIok P tn ti) (hsz : ti.size = 3) (hag : ti.agg = true) {ys zs : List Value} {v0 v1 v2 : Value} (h : RowOk w ⟨.slice (.some ad) n c, e, 3, ys ++ v0 :: v1 :: v2 :: zs⟩) {i : Nat} (hy : ys.length = i * 3) :
    (loadVar tn (ad.add ((i : Int).toNat * 3))).run P w = .ok (.agg #[v0, v1, v2]) w := by
  have hg : ∀ j, (ys ++ v0 :: v1 :: v2 :: zs)[i * 3 + j]? = (v0 :: v1 :: v2 :: zs)[j]? := by
    intro j
    rw [List.getElem?_append_right (by omega), hy]
    congr 1; omega
  refine run_loadVar hi (l := [v0, v1, v2]) (by simp [hsz]) (fun j v hj => ?_) hag
  rw [add_add]
  have hlt : j < 3 := by
    rcases Nat.lt_or_ge j 3 with h' | h'
    · exact h'
    · rw [List.getElem?_eq_none (by simp; omega)] at hj; cases hj
  refine h.cell ?_
  rw [show (i : Int).toNat * 3 + j = i * 3 + j from by simp, hg j]
  match j, hj with
  | 0, hj => exact hj
  | 1, hj => exact hj
  | 2, hj => exact hj
  | j + 3, hj => simp at hj
theorem ovw_at {ys zs : List Value} {v0 v1 v2 u0 u1 u2 : Value} {k : Nat} (hy : ys.length = k) : ovw (ys ++ v0 :: v1 :: v2 :: zs) k [u0, u1, u2] = ys ++ u0 :: u1 :: u2 :: zs := by
  subst hy
  simp [ovw]
end Go.Vc
namespace Go.Vc
open Go.RowKit
theorem RowOk.cap {w : World} {A : Option Addr} {n c : Nat} {e : TypeId} {sz : Nat} {xs : List Value} (h : RowOk w ⟨.slice A n c, e, sz, xs⟩) : n ≤ c := by
  obtain ⟨A', n', c', hv, hn, _⟩ := h.form
  injection hv with e1 e2 e3
  omega
end Go.Vc
