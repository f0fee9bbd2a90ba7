/- Elements of rows; rows of zeros. -/
import Derived.Test.YtohmeplcjgmedaaDoorVcm
namespace Go.Vc
open Go.RowKit

theorem RepFlat.atI {S : Nat → Prop} {w : World} : ∀ {ts : List Tp} {xs : List Value} {i : Nat} (_h : RepFlat S w ts xs) (hi : i < ts.length), ∃ ys v0 v1 v2 zs, xs = ys ++ v0 :: v1 :: v2 :: zs ∧ ys.length = i * 3 ∧ RepT S w ts[i] (.agg #[v0, v1, v2]) ∧
    ∀ u u0 u1 u2, RepT S w u (.agg #[u0, u1, u2]) → RepFlat S w (ts.set i u) (ys ++ u0 :: u1 :: u2 :: zs)
  | [], _, i, _, hi => by simp at hi
  | t :: r, xs, 0, h, _ => by
    obtain ⟨v0, v1, v2, ys, rfl, h2, h3⟩ := h
    exact ⟨[], v0, v1, v2, ys, rfl, rfl, h2, fun u u0 u1 u2 hu => ⟨u0, u1, u2, ys, rfl, hu, h3⟩⟩
  | t :: r, xs, i + 1, h, hi => by
    obtain ⟨a0, a1, a2, as, rfl, h2, h3⟩ := h
    obtain ⟨ys, v0, v1, v2, zs, rfl, k1, k2, k3⟩ := h3.atI (i := i) (by simpa using hi)
    exact ⟨a0 :: a1 :: a2 :: ys, v0, v1, v2, zs, rfl, by simp [k1]; omega, by simpa using k2, fun u u0 u1 u2 hu => ⟨a0, a1, a2, _, rfl, h2, k3 u u0 u1 u2 hu⟩⟩

/-- Cells of a row loaded. -/
theorem RowOk.ldA {P : Program} {w : World} {ad : Addr} {n c : Nat} {e : TypeId} {sz : Nat} {tn : TypeId} {ti : TI} (hi : TIok P tn ti) (hag : ti.agg = true) {xs l : List Value} (hl : l.length = ti.size) {k : Nat} (h : RowOk w ⟨.slice (Option.some ad) n c, e, sz, xs⟩) (hx : ∀ j v, l[j]? = Option.some v → xs[k + j]? = Option.some v) :
    (loadVar tn (ad.add k)).run P w = .ok (.agg l.toArray) w := by
  refine run_loadVar hi hl (fun j v hj => ?_) hag
  rw [add_add]
  exact h.cell (hx j v hj)
theorem RowOk.ldV {P : Program} {w : World} {ad : Addr} {n c : Nat} {e : TypeId} {sz : Nat} {tn : TypeId} {ti : TI} (hi : TIok P tn ti) (hag : ti.agg = false) {xs : List Value} {k : Nat} {v : Value} (h : RowOk w ⟨.slice (Option.some ad) n c, e, sz, xs⟩) (hx : xs[k]? = Option.some v) :
    (loadVar tn (ad.add k)).run P w = .ok v w := run_loadVar1 hi (h.cell hx) hag
theorem ovw_set {α : Type} {f : α → Value} {l : List α} {i : Nat} {x : α} (h : i < l.length) : ovw (l.map f) (i * 1) [f x] = (l.set i x).map f := by
  unfold ovw
  rw [List.set_eq_take_append_cons_drop]
  simp [h]

/-- The zero type. -/
def zeroT : Tp := .mk 0 0 []
theorem zeroT_rep (S : Nat → Prop) (w : World) : RepT S w zeroT (.agg #[.int .i64 0, .int .i64 0, .slice none 0 0]) := by
  have := RepT.mk' (t := zeroT) (S := S) (w := w) (A := none) (c := 0) (by simp [Tp.kids, zeroT]) (by simp [Tp.kids, zeroT]) (by simp [Tp.kids, RepKs, zeroT])
  exact this
theorem madeCells_add (z : Array Value) (n : Nat) (hz : z.size = 3) : (madeCells z ((n + 1) * 3)).toList = (madeCells z (n * 3)).toList ++ [z[0]!, z[1]!, z[2]!] := by
  unfold madeCells
  simp only [Array.toList_map, Array.toList_range]
  rw [show (n + 1) * 3 = n * 3 + 1 + 1 + 1 from by omega, List.range_succ, List.range_succ, List.range_succ]
  simp only [List.map_append, List.map_cons, List.map_nil, List.append_assoc, List.cons_append, List.nil_append, hz]
  rw [show n * 3 % 3 = 0 from by omega, show (n * 3 + 1) % 3 = 1 from by omega, show (n * 3 + 1 + 1) % 3 = 2 from by omega]
theorem zeros_flat (S : Nat → Prop) (w : World) : ∀ n, RepFlat S w (List.replicate n zeroT) (madeCells #[.int .i64 0, .int .i64 0, .slice none 0 0] (n * 3)).toList
  | 0 => by simp [madeCells, RepFlat]
  | n + 1 => by
    rw [madeCells_add _ n rfl, List.replicate_succ']
    exact (zeros_flat S w n).app (RepFlat.one (zeroT_rep S w))
theorem zeros_one (z : Value) (n : Nat) : (madeCells #[z] (n * 1)).toList = List.replicate n z := by
  rw [Nat.mul_one]; exact toList_madeCells_one z n

/-- An own block becomes a row. -/
theorem weak_row {N : Nat} {b : Base} {T : Tl} {ρ : List Nat} {E : El} {R : List Row} {pub : Nat → Prop} {s : World} {i : Nat} {cs : List SV} {e : TypeId} {sz n : Nat} (hi : lk E i = some (cs, e)) (hn : cs.length = n * sz) (hm : n ≤ maxLen) :
    Weak N b ⟨T, ρ, E, R, pub, s⟩ ⟨T, ρ, dropE i E, ⟨.slice (some ⟨ρ.getD i 0, 0, none⟩) n n, e, sz, denL ρ cs⟩ :: R, pub, s⟩ := fun _ _ h => ⟨h.sz, h.df, h.tm, h.wd.toRow hi hn hm⟩

mutual
/-- How many nodes. -/
def szT : Tp → Nat
  | .mk _ _ ks => szL ks + 1
def szL : List Tp → Nat
  | [] => 0
  | t :: r => szT t + szL r
end
theorem szT_pos (t : Tp) : 0 < szT t := by cases t; simp [szT]
theorem szL_len : ∀ l : List Tp, l.length ≤ szL l
  | [] => Nat.zero_le _
  | t :: r => by have := szL_len r; have := szT_pos t; simp only [szL, List.length_cons]; omega
theorem szL_append : ∀ l m : List Tp, szL (l ++ m) = szL l + szL m
  | [], m => by simp [szL]
  | t :: r, m => by simp only [List.cons_append, szL, szL_append r m]; omega
theorem szT_mem : ∀ {l : List Tp} {t : Tp}, t ∈ l → szT t ≤ szL l
  | t' :: r, t, h => by
    simp only [szL]
    rcases List.mem_cons.1 h with rfl | h
    · omega
    · have := szT_mem h; omega
theorem ovw_one {ys zs : List Value} {v u : Value} {k : Nat} (hy : ys.length = k) : ovw (ys ++ v :: zs) k [u] = ys ++ u :: zs := by
  subst hy
  simp [ovw]
theorem HeldW.trans {pub pub' : Nat → Prop} {s s' : World} {T : Tl} {ρ : List Nat} {E : El} {R : List Row} {st : St} (h : HeldW pub s ⟨T, ρ, E, R, pub', s'⟩) (h' : HeldW pub' s' st) : HeldW pub s st :=
  fun k hk => ⟨(h' k (h k hk).1).1, ((h' k (h k hk).1).2).trans (h k hk).2⟩
/-- An own block that is written no more may be read. -/
theorem Wd.pubE {b : Base} {T : Tl} {ρ : List Nat} {E : El} {R : List Row} {pub : Nat → Prop} {s w : World} (h : Wd b ⟨T, ρ, E, R, pub, s⟩ w) {i g : Nat} {cs : List SV} {t : TypeId} (hg : ρ.getD i 0 = g) (hi : lk E i = some (cs, t)) :
    ∃ pub', Wd b ⟨T, ρ, dropE i E, R, pub', w⟩ w ∧ Step b pub s w pub' w ∧ Cells pub' w (some ⟨g, 0, none⟩) (denL ρ cs) := by
  subst hg
  have h' := h.now
  obtain ⟨n1, n2, n3⟩ := h.entN i cs t hi
  have hsome : ∀ j c t, lk (dropE i E) j = some (c, t) → lk E j = some (c, t) ∧ j ≠ i := by
    intro j c t hj
    rw [dropE_get] at hj
    split at hj
    · cases hj
    · rename_i hne; exact ⟨hj, hne⟩
  have hs1 : ∀ j, (lk (dropE i E) j).isSome = true → (lk E j).isSome = true ∧ j ≠ i := by
    intro j hj
    obtain ⟨⟨c, t⟩, hc⟩ := Option.isSome_iff_exists.1 hj
    obtain ⟨h1, h2⟩ := hsome j c t hc
    exact ⟨by rw [h1]; rfl, h2⟩
  have his : (lk E i).isSome = true := by rw [hi]; rfl
  have hlt : ρ.getD i 0 < w.heap.size := (Array.getElem?_eq_some_iff.1 (h.ent i cs t hi)).1
  refine ⟨fun k => pub k ∨ k = ρ.getD i 0, ⟨h'.below, Nat.le_refl _, fun k hk => ⟨?_, rfl⟩, fun j c t hj => h.ent j c t (hsome j c t hj).1, fun j c t hj => ?_, fun j k hj hk hne => h.inj j k (hs1 j hj).1 (hs1 k hk).1 hne, fun r hr => ?_, h.rinj⟩, ⟨fun k hk => .inl hk, fun k hk => (h.pub k hk).1, fun k h1 h2 => by omega, fun k hk => ?_, h.same, Below.refl _ _⟩, ?_⟩
  · rcases hk with hk | rfl
    · exact (h'.pub k hk).1
    · exact hlt
  · obtain ⟨q1, q2⟩ := hsome j c t hj
    obtain ⟨k1, k2, k3⟩ := h.entN j c t q1
    refine ⟨k1, k2, fun hk => ?_⟩
    rcases hk with hk | hk
    · exact k3 hk
    · exact h.inj j i (by simp only; rw [q1]; rfl) his q2 hk
  · obtain ⟨k1, k2⟩ := h.row r hr
    refine ⟨k1, fun g hg => ⟨(k2 g hg).1, fun hk => ?_, fun j hj => (k2 g hg).2.2 j (hs1 j hj).1⟩⟩
    rcases hk with hk | hk
    · exact (k2 g hg).2.1 hk
    · exact (k2 g hg).2.2 i his hk.symm
  · rcases hk with hk | rfl
    · exact .inl hk
    · exact .inr n2
  · refine .inr ⟨_, rfl, .inr rfl, fun j v hj => ?_⟩
    rw [add_own, cell_own (h.ent i cs t hi), List.getElem?_toArray, Nat.zero_add]
    exact hj
/-- Behind a call that was handed a block of the call's own and the two rows, and may have written all three. -/
theorem Wd.handed2 {b : Base} {T : Tl} {ρ : List Nat} {E : El} {r1 r2 r1' r2' : Row} {pub : Nat → Prop} {s w w' : World} (h : Wd b ⟨T, ρ, E, [r1, r2], pub, s⟩ w) {i : Nat} {cs cs' : List SV} {t : TypeId} (hi : lk E i = some (cs, t))
    (ho : Only (fun k => k = ρ.getD i 0 ∨ rowB r1.v = some k ∨ rowB r2.v = some k) w w') (hc : w'.heap[ρ.getD i 0]? = some (.cells (denL ρ cs').toArray t (0, 0))) (hr1 : RowOk w' r1') (hr2 : RowOk w' r2') (hb1 : rowB r1'.v = rowB r1.v) (hb2 : rowB r2'.v = rowB r2.v) :
    Wd b ⟨T, ρ, (i, (cs', t)) :: E, [r1', r2'], pub, s⟩ w' := by
  obtain ⟨q1, q2⟩ := h.row r1 (by simp)
  obtain ⟨p1, p2⟩ := h.row r2 (by simp)
  obtain ⟨ne1, ne2, ne3⟩ := h.entN i cs t hi
  have hlt : ∀ i c t, lk E i = some (c, t) → ρ.getD i 0 < w.heap.size := fun i c t hi => (Array.getElem?_eq_some_iff.1 (h.ent i c t hi)).1
  have hsome : ∀ k, (lk ((i, (cs', t)) :: E) k).isSome = true → (lk E k).isSome = true := by
    intro k hk
    simp only [lk] at hk
    split at hk
    · rename_i e; obtain rfl := nbeq.1 e; rw [hi]; rfl
    · exact hk
  have his : (lk E i).isSome = true := by rw [hi]; rfl
  refine ⟨⟨ho.os.trans h.below.os, ho.tape.trans h.below.tape, ho.output.trans h.below.output, Nat.le_trans h.below.size ho.size, fun k hk hm => ?_⟩, Nat.le_trans h.size ho.size, fun k hk => ?_, fun k c t' hk => ?_, fun k c t' hk => ?_, fun k l hk hl hne => h.inj k l (hsome k hk) (hsome l hl) hne, fun q hq => ?_, ?_⟩
  · rw [ho.block k (Nat.lt_of_lt_of_le hk h.below.size)]
    · exact h.below.block k hk hm
    · rintro (e | e | e)
      · rcases ne2 with h' | h'
        · exact hm (by rw [e]; exact h')
        · simp only at *; omega
      · rcases (q2 k e).1 with h' | h'
        · exact hm h'
        · omega
      · rcases (p2 k e).1 with h' | h'
        · exact hm h'
        · omega
  · obtain ⟨k1, k2⟩ := h.pub k hk
    refine ⟨k1, ?_⟩
    rw [ho.block k (Nat.lt_of_lt_of_le k1 h.size)]
    · exact k2
    · rintro (e | e | e)
      · exact ne3 (by rw [e] at hk; exact hk)
      · exact (q2 k e).2.1 hk
      · exact (p2 k e).2.1 hk
  · simp only [lk] at hk
    split at hk
    · rename_i e; obtain rfl := nbeq.1 e
      injection hk with hk; injection hk with e1 e2; subst e1; subst e2
      exact hc
    · rename_i e
      show w'.heap[ρ.getD k 0]? = _
      have hks : (lk E k).isSome = true := by rw [hk]; rfl
      rw [ho.block _ (hlt k c t' hk)]
      · exact h.ent k c t' hk
      · rintro (e' | e' | e')
        · exact h.inj k i hks his (fun e2 => nbeq_ne.1 e e2.symm) e'
        · exact (q2 _ e').2.2 k hks rfl
        · exact (p2 _ e').2.2 k hks rfl
  · simp only [lk] at hk
    split at hk
    · rename_i e; obtain rfl := nbeq.1 e
      exact ⟨ne1, ne2, ne3⟩
    · exact h.entN k c t' hk
  · simp only [List.mem_cons, List.not_mem_nil, or_false] at hq
    rcases hq with rfl | rfl
    · exact ⟨hr1, fun g hg => by rw [hb1] at hg; exact ⟨(q2 g hg).1, (q2 g hg).2.1, fun l hl => (q2 g hg).2.2 l (hsome l hl)⟩⟩
    · exact ⟨hr2, fun g hg => by rw [hb2] at hg; exact ⟨(p2 g hg).1, (p2 g hg).2.1, fun l hl => (p2 g hg).2.2 l (hsome l hl)⟩⟩
  · have := h.rinj
    simp only [List.pairwise_cons, List.mem_singleton, forall_eq, List.not_mem_nil, false_imp_iff, implies_true, List.Pairwise.nil, and_true] at this ⊢
    intro g hg
    rw [hb1] at hg
    rw [hb2]
    exact this g hg
/-- The start of a call that is handed a block (its first argument's) and two rows. -/
theorem Wd.start2 {w : World} {g : Nat} {cs : List SV} {t : TypeId} {r1 r2 : Row} {T : Tl} {pub : Nat → Prop} (hc : w.heap[g]? = some (.cells (denL [g] cs).toArray t (0, 0))) (hr1 : RowOk w r1) (hr2 : RowOk w r2) (n1 : rowB r1.v ≠ some g) (n2 : rowB r2.v ≠ some g)
    (n3 : ∀ k, rowB r1.v = some k → rowB r2.v ≠ some k) (hp : ∀ k, pub k → k < w.heap.size) (hp0 : ¬ pub g) (hp1 : ∀ k, rowB r1.v = some k → ¬ pub k) (hp2 : ∀ k, rowB r2.v = some k → ¬ pub k) :
    Wd ⟨w, fun k => k = g ∨ rowB r1.v = some k ∨ rowB r2.v = some k⟩ ⟨T, [g], [(0, (cs, t))], [r1, r2], pub, w⟩ w := by
  refine ⟨Only.refl _ _, Nat.le_refl _, fun k hk => ⟨hp k hk, rfl⟩, fun i c t' hi => ?_, fun i c t' hi => ?_, fun i j hi hj hne' => ?_, fun q hq => ?_, ?_⟩
  · simp only [lk] at hi
    split at hi
    · rename_i e; obtain rfl := nbeq.1 e
      injection hi with hi; injection hi with e1 e2; subst e1; subst e2
      exact hc
    · cases hi
  · simp only [lk] at hi
    split at hi
    · rename_i e; obtain rfl := nbeq.1 e
      exact ⟨by simp, .inl (.inl rfl), hp0⟩
    · cases hi
  · simp only [lk] at hi hj
    split at hi
    · rename_i e; split at hj
      · rename_i e'; exact absurd ((nbeq.1 e).symm.trans (nbeq.1 e')) hne'
      · cases hj
    · cases hi
  · have key : ∀ (r : Row) (k : Nat), rowB r.v ≠ some g → rowB r.v = some k → ∀ i, (lk [(0, (cs, t))] i).isSome = true → [g].getD i 0 ≠ k := by
      intro r k hn hk i hi
      simp only [lk] at hi
      split at hi
      · rename_i e; obtain rfl := nbeq.1 e
        rintro rfl
        exact hn hk
      · cases hi
    simp only [List.mem_cons, List.not_mem_nil, or_false] at hq
    rcases hq with rfl | rfl
    · exact ⟨hr1, fun k hk => ⟨.inl (.inr (.inl hk)), hp1 k hk, key _ k n1 hk⟩⟩
    · exact ⟨hr2, fun k hk => ⟨.inl (.inr (.inr hk)), hp2 k hk, key _ k n2 hk⟩⟩
  · simp only [List.pairwise_cons, List.mem_singleton, forall_eq, List.not_mem_nil, false_imp_iff, implies_true, List.Pairwise.nil, and_true]
    exact n3
end Go.Vc
