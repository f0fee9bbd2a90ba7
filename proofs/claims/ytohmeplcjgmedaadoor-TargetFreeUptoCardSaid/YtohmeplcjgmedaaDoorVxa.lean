/- Data without memory, and how it lies in memory. -/
import Derived.Test.YtohmeplcjgmedaaDoorVcz
namespace Go.Vx
open Go.RowKit Go.Vc

/-- Closed data: what may be read and is never written again. -/
inductive D where
  | int (k : IntKind) (n : Int)
  | bool (b : Bool)
  | str (s : ByteArray)
  | sl (eb n : Nat) (cs : List D)
  | csl (eb n : Nat) (cs : List D)
  | ptr (cs : List D) (off : Nat)
  | fn (f : FuncId) (a b : List D)
  | ifc (t : TypeId) (x : D)
  | agg (l : List D)
  | tup (l : List D)
  | val (x : Value)

/-- The most bytes of a slice. -/
def LB : Nat := 140737488355328

mutual
def RepD (S : Nat → Prop) (w : World) : D → Value → Prop
  | .int k n, v => v = .int k n
  | .bool b, v => v = .bool b
  | .str s, v => v = .string s
  | .sl eb n cs, v => ∃ A c, v = .slice A n c ∧ n ≤ c ∧ n * eb ≤ LB ∧ (n ≠ 0 → ∃ ad, A = some ad) ∧ RepC S w cs A 0
  | .csl eb n cs, v => ∃ A, v = .slice A n n ∧ n * eb ≤ LB ∧ (n ≠ 0 → ∃ ad, A = some ad) ∧ RepC S w cs A 0
  | .ptr cs off, v => ∃ ad, v = .pointer (some (ad.add off)) ∧ RepC S w cs (some ad) 0
  | .fn f a b, v => ∃ a' b', v = .func (.func f) a' b' ∧ RepDs S w a a'.toList ∧ RepDs S w b b'.toList
  | .ifc t x, v => ∃ y, v = .iface t y ∧ RepD S w x y
  | .agg l, v => ∃ l', v = .agg l' ∧ RepDs S w l l'.toList
  | .tup l, v => ∃ l', v = .tuple l' ∧ RepDs S w l l'.toList
  | .val x, v => v = x
def RepC (S : Nat → Prop) (w : World) : List D → Option Addr → Nat → Prop
  | [], _, _ => True
  | x :: r, A, j => (∃ ad v, A = some ad ∧ S ad.block ∧ w.cell? (ad.add j) = some v ∧ RepD S w x v) ∧ RepC S w r A (j + 1)
def RepDs (S : Nat → Prop) (w : World) : List D → List Value → Prop
  | [], l => l = []
  | x :: r, l => ∃ v s, l = v :: s ∧ RepD S w x v ∧ RepDs S w r s
end

mutual
theorem RepD.to {S S' : Nat → Prop} {w w' : World} (hs : Same S w w') (hS : ∀ k, S k → k < w.heap.size → S' k) : ∀ {x : D} {v : Value}, RepD S w x v → RepD S' w' x v
  | .int k n, v, h => h
  | .bool b, v, h => h
  | .str s, v, h => h
  | .sl eb n cs, v, h => by
    simp only [RepD] at h ⊢
    obtain ⟨A, c, e, h1, h2, h4, h3⟩ := h
    exact ⟨A, c, e, h1, h2, h4, RepC.to hs hS h3⟩
  | .csl eb n cs, v, h => by
    simp only [RepD] at h ⊢
    obtain ⟨A, e, h2, h4, h3⟩ := h
    exact ⟨A, e, h2, h4, RepC.to hs hS h3⟩
  | .ptr cs off, v, h => by
    simp only [RepD] at h ⊢
    obtain ⟨ad, e, h3⟩ := h
    exact ⟨ad, e, RepC.to hs hS h3⟩
  | .fn f a b, v, h => by
    simp only [RepD] at h ⊢
    obtain ⟨a', b', e, h1, h2⟩ := h
    exact ⟨a', b', e, RepDs.to hs hS h1, RepDs.to hs hS h2⟩
  | .ifc t x, v, h => by
    simp only [RepD] at h ⊢
    obtain ⟨y, e, h1⟩ := h
    exact ⟨y, e, RepD.to hs hS h1⟩
  | .agg l, v, h => by
    simp only [RepD] at h ⊢
    obtain ⟨l', e, h1⟩ := h
    exact ⟨l', e, RepDs.to hs hS h1⟩
  | .tup l, v, h => by
    simp only [RepD] at h ⊢
    obtain ⟨l', e, h1⟩ := h
    exact ⟨l', e, RepDs.to hs hS h1⟩
  | .val x, v, h => h
theorem RepC.to {S S' : Nat → Prop} {w w' : World} (hs : Same S w w') (hS : ∀ k, S k → k < w.heap.size → S' k) : ∀ {l : List D} {A : Option Addr} {j : Nat}, RepC S w l A j → RepC S' w' l A j
  | [], _, _, _ => by simp only [RepC]
  | x :: r, A, j, h => by
    simp only [RepC] at h ⊢
    obtain ⟨⟨ad, v, e, h1, h2, h3⟩, h4⟩ := h
    refine ⟨⟨ad, v, e, ?_, hs.cell (by rw [add_block]; exact h1) h2, RepD.to hs hS h3⟩, RepC.to hs hS h4⟩
    have := World.block_lt_of_cell? w _ h2
    rw [add_block] at this
    exact hS _ h1 this
theorem RepDs.to {S S' : Nat → Prop} {w w' : World} (hs : Same S w w') (hS : ∀ k, S k → k < w.heap.size → S' k) : ∀ {l : List D} {l' : List Value}, RepDs S w l l' → RepDs S' w' l l'
  | [], _, h => by simpa only [RepDs] using h
  | x :: r, l', h => by
    simp only [RepDs] at h ⊢
    obtain ⟨v, s, e, h1, h2⟩ := h
    exact ⟨v, s, e, RepD.to hs hS h1, RepDs.to hs hS h2⟩
end

theorem RepDs.len {S : Nat → Prop} {w : World} : ∀ {l : List D} {l' : List Value}, RepDs S w l l' → l'.length = l.length
  | [], _, h => by simp only [RepDs] at h; subst h; rfl
  | x :: r, l', h => by
    simp only [RepDs] at h
    obtain ⟨v, s, rfl, h1, h2⟩ := h
    simp [RepDs.len h2]
theorem RepDs.get {S : Nat → Prop} {w : World} : ∀ {l : List D} {l' : List Value} {i : Nat} {x : D}, RepDs S w l l' → l[i]? = some x → ∃ v, l'[i]? = some v ∧ RepD S w x v
  | [], _, i, x, _, hi => by simp at hi
  | y :: r, l', i, x, h, hi => by
    simp only [RepDs] at h
    obtain ⟨v, s, rfl, h1, h2⟩ := h
    cases i with
    | zero => simp at hi; subst hi; exact ⟨v, rfl, h1⟩
    | succ i => simpa using RepDs.get h2 (by simpa using hi)
theorem RepDs.mk {S : Nat → Prop} {w : World} : ∀ {l : List D} {l' : List Value}, l'.length = l.length → (∀ (i : Nat) x v, l[i]? = some x → l'[i]? = some v → RepD S w x v) → RepDs S w l l'
  | [], l', h, _ => by simp only [RepDs]; exact List.eq_nil_of_length_eq_zero (by simpa using h)
  | x :: r, [], h, _ => by simp at h
  | x :: r, v :: s, h, hg => by
    simp only [RepDs]
    exact ⟨v, s, rfl, hg 0 x v rfl rfl, RepDs.mk (by simpa using h) fun i y u h1 h2 => hg (i + 1) y u (by simpa using h1) (by simpa using h2)⟩
theorem RepDs.app {S : Nat → Prop} {w : World} : ∀ {l m : List D} {l' m' : List Value}, RepDs S w l l' → RepDs S w m m' → RepDs S w (l ++ m) (l' ++ m')
  | [], m, l', m', h, h' => by simp only [RepDs] at h; subst h; exact h'
  | x :: r, m, l', m', h, h' => by
    simp only [RepDs] at h
    obtain ⟨v, s, rfl, h1, h2⟩ := h
    simp only [List.cons_append, RepDs]
    exact ⟨v, _, rfl, h1, RepDs.app h2 h'⟩
theorem RepDs.take {S : Nat → Prop} {w : World} {l : List D} {l' : List Value} (h : RepDs S w l l') (n : Nat) : RepDs S w (l.take n) (l'.take n) := by
  refine RepDs.mk (by simp [h.len]) fun i x v h1 h2 => ?_
  rw [List.getElem?_take] at h1 h2
  split at h1
  · rename_i hi
    rw [if_pos hi] at h2
    obtain ⟨u, e, hu⟩ := h.get h1
    rw [h2] at e; injection e with e; subst e; exact hu
  · cases h1
theorem RepDs.drop {S : Nat → Prop} {w : World} {l : List D} {l' : List Value} (h : RepDs S w l l') (n : Nat) : RepDs S w (l.drop n) (l'.drop n) := by
  refine RepDs.mk (by simp [h.len]) fun i x v h1 h2 => ?_
  rw [List.getElem?_drop] at h1 h2
  obtain ⟨u, e, hu⟩ := h.get h1
  rw [h2] at e; injection e with e; subst e; exact hu
theorem RepC.get {S : Nat → Prop} {w : World} : ∀ {l : List D} {A : Option Addr} {j i : Nat} {x : D}, RepC S w l A j → l[i]? = some x → ∃ ad v, A = some ad ∧ S ad.block ∧ w.cell? (ad.add (j + i)) = some v ∧ RepD S w x v
  | [], _, _, i, x, _, hi => by simp at hi
  | y :: r, A, j, i, x, h, hi => by
    simp only [RepC] at h
    cases i with
    | zero => simp at hi; subst hi; exact h.1
    | succ i =>
      have := RepC.get h.2 (i := i) (by simpa using hi)
      rwa [show j + 1 + i = j + (i + 1) from by omega] at this
/-- The cells that are data l. -/
theorem RepC.cells {S : Nat → Prop} {w : World} : ∀ {l : List D} {ad : Addr} {j : Nat}, RepC S w l (some ad) j → ∃ xs, RepDs S w l xs ∧ ∀ (i : Nat) v, xs[i]? = some v → S ad.block ∧ w.cell? (ad.add (j + i)) = some v
  | [], ad, j, h => ⟨[], by simp only [RepDs], fun i v hv => by simp at hv⟩
  | x :: r, ad, j, h => by
    simp only [RepC] at h
    obtain ⟨⟨ad', v, e, h1, h2, h3⟩, h4⟩ := h
    injection e with e; subst e
    obtain ⟨xs, k1, k2⟩ := RepC.cells h4
    refine ⟨v :: xs, by simp only [RepDs]; exact ⟨v, xs, rfl, h3, k1⟩, fun i u hu => ?_⟩
    cases i with
    | zero => simp at hu; subst hu; exact ⟨h1, h2⟩
    | succ i =>
      have := k2 i u (by simpa using hu)
      rwa [show j + 1 + i = j + (i + 1) from by omega] at this
theorem RepC.cells0 {S : Nat → Prop} {w : World} {l : List D} {A : Option Addr} (h : RepC S w l A 0) : ∃ xs, RepDs S w l xs ∧ Cells S w A xs := by
  cases l with
  | nil => exact ⟨[], by simp only [RepDs], .inl rfl⟩
  | cons x r =>
    have h' := h
    simp only [RepC] at h'
    obtain ⟨⟨ad, v, rfl, h1, _⟩, _⟩ := h'
    obtain ⟨xs, k1, k2⟩ := h.cells
    exact ⟨xs, k1, .inr ⟨ad, rfl, h1, fun i v hv => by have := (k2 i v hv).2; simpa using this⟩⟩
theorem RepC.of {S : Nat → Prop} {w : World} {A : Option Addr} : ∀ {l : List D} {xs : List Value} {j : Nat}, RepDs S w l xs → (∀ (i : Nat) v, xs[i]? = some v → ∃ ad, A = some ad ∧ S ad.block ∧ w.cell? (ad.add (j + i)) = some v) → RepC S w l A j
  | [], _, _, _, _ => by simp only [RepC]
  | x :: r, xs, j, h, hc => by
    simp only [RepDs] at h
    obtain ⟨v, s, rfl, h1, h2⟩ := h
    simp only [RepC]
    obtain ⟨ad, e, hs, h0⟩ := hc 0 v rfl
    refine ⟨⟨ad, v, e, hs, h0, h1⟩, RepC.of h2 fun i u hu => ?_⟩
    have := hc (i + 1) u (by simpa using hu)
    rwa [show j + (i + 1) = j + 1 + i from by omega] at this
theorem RepC.ofCells {S : Nat → Prop} {w : World} {A : Option Addr} {l : List D} {xs : List Value} (h : RepDs S w l xs) (hc : Cells S w A xs) : RepC S w l A 0 := by
  refine RepC.of h fun i v hv => ?_
  rcases hc with hc | ⟨ad, rfl, h1, h2⟩
  · subst hc; simp at hv
  · exact ⟨ad, rfl, h1, by have := h2 i v hv; simpa using this⟩
/-- Cells from a place on. -/
theorem RepC.drop {S : Nat → Prop} {w : World} {l : List D} {ad : Addr} (h : RepC S w l (some ad) 0) (k : Nat) : RepC S w (l.drop k) (some (ad.add k)) 0 := by
  obtain ⟨xs, h1, h2⟩ := h.cells
  refine RepC.of (h1.drop k) fun i v hv => ⟨_, rfl, ?_⟩
  rw [List.getElem?_drop] at hv
  have := h2 _ v hv
  rw [add_block, add_add]
  simpa using this
theorem RepC.take {S : Nat → Prop} {w : World} {l : List D} {A : Option Addr} {j : Nat} (h : RepC S w l A j) (k : Nat) : RepC S w (l.take k) A j := by
  induction l generalizing j k with
  | nil => simp [RepC]
  | cons x r ih =>
    cases k with
    | zero => simp [RepC]
    | succ k =>
      simp only [RepC, List.take_succ_cons] at h ⊢
      exact ⟨h.1, ih h.2 k⟩

/-- Symbolic values: closed data, and what speaks of the call's own objects. -/
inductive SV where
  | d (x : D)
  | kb (b : Bool)
  | own (i off : Nat)
  | row (i : Nat)
  | rowp (i off : Nat)
  | nm (i : Nat)
  | agg (l : List SV)
  | tup (l : List SV)
  | fn (f : FuncId) (a b : List SV)
  | ifc (t : TypeId) (x : SV)
  | nl
  | any

/-- What the names of the own objects stand for: a block's first place, a row's slice; and what may be read. -/
structure Env where
  m : List Value
  pub : Nat → Prop

mutual
def RepSV (e : Env) (w : World) : SV → Value → Prop
  | .d x, v => RepD e.pub w x v
  | .kb b, v => v = .bool b
  | .own i off, v => ∃ g, e.m[i]? = some (.pointer (some ⟨g, 0, none⟩)) ∧ v = .pointer (some ⟨g, off, none⟩)
  | .row i, v => ∃ A n c, v = .slice A n c ∧ e.m[i]? = some v
  | .rowp i off, v => ∃ ad n c, e.m[i]? = some (.slice (some ad) n c) ∧ v = .pointer (some (ad.add off))
  | .nm i, v => ∃ g, v = .map (some g) ∧ e.m[i]? = some v
  | .agg l, v => ∃ l', v = .agg l' ∧ RepSVs e w l l'.toList
  | .tup l, v => ∃ l', v = .tuple l' ∧ RepSVs e w l l'.toList
  | .fn f a b, v => ∃ a' b', v = .func (.func f) a' b' ∧ RepSVs e w a a'.toList ∧ RepSVs e w b b'.toList
  | .ifc t x, v => ∃ y, v = .iface t y ∧ RepSV e w x y
  | .nl, v => v = .slice none 0 0
  | .any, _ => True
def RepSVs (e : Env) (w : World) : List SV → List Value → Prop
  | [], l => l = []
  | x :: r, l => ∃ v s, l = v :: s ∧ RepSV e w x v ∧ RepSVs e w r s
end

/-- One reading goes over into another one. -/
structure Kept (e : Env) (w : World) (e' : Env) (w' : World) : Prop where
  m : ∀ (i : Nat) v, e.m[i]? = some v → e'.m[i]? = some v
  pub : ∀ k, e.pub k → e'.pub k
  same : Same e.pub w w'
  sz : w.heap.size ≤ w'.heap.size
theorem Kept.refl (e : Env) (w : World) : Kept e w e w := ⟨fun _ _ h => h, fun _ h => h, Same.rfl' _ _, Nat.le_refl _⟩
theorem Kept.trans {e e1 e2 : Env} {w w1 w2 : World} (h : Kept e w e1 w1) (h' : Kept e1 w1 e2 w2) : Kept e w e2 w2 :=
  ⟨fun i v hi => h'.m i v (h.m i v hi), fun k hk => h'.pub k (h.pub k hk), fun k hk hl => by rw [h'.same k (h.pub k hk) (Nat.lt_of_lt_of_le hl h.sz), h.same k hk hl], Nat.le_trans h.sz h'.sz⟩
theorem RepD.kept {e e' : Env} {w w' : World} (h : Kept e w e' w') {x : D} {v : Value} (hx : RepD e.pub w x v) : RepD e'.pub w' x v := hx.to h.same fun k hk _ => h.pub k hk
theorem RepDs.kept {e e' : Env} {w w' : World} (h : Kept e w e' w') {x : List D} {v : List Value} (hx : RepDs e.pub w x v) : RepDs e'.pub w' x v := hx.to h.same fun k hk _ => h.pub k hk
mutual
theorem RepSV.kept {e e' : Env} {w w' : World} (h : Kept e w e' w') : ∀ {x : SV} {v : Value}, RepSV e w x v → RepSV e' w' x v
  | .d x, v, hx => by simp only [RepSV] at hx ⊢; exact RepD.kept h hx
  | .kb b, v, hx => hx
  | .own i off, v, hx => by
    simp only [RepSV] at hx ⊢
    obtain ⟨g, h1, h2⟩ := hx
    exact ⟨g, h.m _ _ h1, h2⟩
  | .row i, v, hx => by
    simp only [RepSV] at hx ⊢
    obtain ⟨A, n, c, h1, h2⟩ := hx
    exact ⟨A, n, c, h1, h.m _ _ h2⟩
  | .rowp i off, v, hx => by
    simp only [RepSV] at hx ⊢
    obtain ⟨ad, n, c, h1, h2⟩ := hx
    exact ⟨ad, n, c, h.m _ _ h1, h2⟩
  | .agg l, v, hx => by
    simp only [RepSV] at hx ⊢
    obtain ⟨l', e, h1⟩ := hx
    exact ⟨l', e, RepSVs.kept h h1⟩
  | .tup l, v, hx => by
    simp only [RepSV] at hx ⊢
    obtain ⟨l', e, h1⟩ := hx
    exact ⟨l', e, RepSVs.kept h h1⟩
  | .fn f a b, v, hx => by
    simp only [RepSV] at hx ⊢
    obtain ⟨a', b', e, h1, h2⟩ := hx
    exact ⟨a', b', e, RepSVs.kept h h1, RepSVs.kept h h2⟩
  | .ifc t x, v, hx => by
    simp only [RepSV] at hx ⊢
    obtain ⟨y, e, h1⟩ := hx
    exact ⟨y, e, RepSV.kept h h1⟩
  | .nm i, v, hx => by
    simp only [RepSV] at hx ⊢
    obtain ⟨g, h1, h2⟩ := hx
    exact ⟨g, h1, h.m _ _ h2⟩
  | .nl, v, hx => hx
  | .any, v, hx => by simp only [RepSV]
theorem RepSVs.kept {e e' : Env} {w w' : World} (h : Kept e w e' w') : ∀ {l : List SV} {l' : List Value}, RepSVs e w l l' → RepSVs e' w' l l'
  | [], _, hx => by simpa only [RepSVs] using hx
  | x :: r, l', hx => by
    simp only [RepSVs] at hx ⊢
    obtain ⟨v, s, e, h1, h2⟩ := hx
    exact ⟨v, s, e, RepSV.kept h h1, RepSVs.kept h h2⟩
end
theorem RepSVs.len {e : Env} {w : World} : ∀ {l : List SV} {l' : List Value}, RepSVs e w l l' → l'.length = l.length
  | [], _, h => by simp only [RepSVs] at h; subst h; rfl
  | x :: r, l', h => by
    simp only [RepSVs] at h
    obtain ⟨v, s, rfl, h1, h2⟩ := h
    simp [RepSVs.len h2]
theorem RepSVs.get {e : Env} {w : World} : ∀ {l : List SV} {l' : List Value} {i : Nat} {x : SV}, RepSVs e w l l' → l[i]? = some x → ∃ v, l'[i]? = some v ∧ RepSV e w x v
  | [], _, i, x, _, hi => by simp at hi
  | y :: r, l', i, x, h, hi => by
    simp only [RepSVs] at h
    obtain ⟨v, s, rfl, h1, h2⟩ := h
    cases i with
    | zero => simp at hi; subst hi; exact ⟨v, rfl, h1⟩
    | succ i => simpa using RepSVs.get h2 (by simpa using hi)
theorem RepSVs.mk {e : Env} {w : World} : ∀ {l : List SV} {l' : List Value}, l'.length = l.length → (∀ (i : Nat) x v, l[i]? = some x → l'[i]? = some v → RepSV e w x v) → RepSVs e w l l'
  | [], l', h, _ => by simp only [RepSVs]; exact List.eq_nil_of_length_eq_zero (by simpa using h)
  | x :: r, [], h, _ => by simp at h
  | x :: r, v :: s, h, hg => by
    simp only [RepSVs]
    exact ⟨v, s, rfl, hg 0 x v rfl rfl, RepSVs.mk (by simpa using h) fun i y u h1 h2 => hg (i + 1) y u (by simpa using h1) (by simpa using h2)⟩
theorem RepSVs.app {e : Env} {w : World} : ∀ {l m : List SV} {l' m' : List Value}, RepSVs e w l l' → RepSVs e w m m' → RepSVs e w (l ++ m) (l' ++ m')
  | [], m, l', m', h, h' => by simp only [RepSVs] at h; subst h; exact h'
  | x :: r, m, l', m', h, h' => by
    simp only [RepSVs] at h
    obtain ⟨v, s, rfl, h1, h2⟩ := h
    simp only [List.cons_append, RepSVs]
    exact ⟨v, _, rfl, h1, RepSVs.app h2 h'⟩
/-- Closed data as symbolic values. -/
theorem RepSVs.ofD {e : Env} {w : World} : ∀ {l : List D} {l' : List Value}, RepDs e.pub w l l' ↔ RepSVs e w (l.map .d) l'
  | [], l' => by simp [RepDs, RepSVs]
  | x :: r, l' => by
    simp only [RepDs, List.map_cons, RepSVs, RepSV]
    constructor
    · rintro ⟨v, s, h1, h2, h3⟩; exact ⟨v, s, h1, h2, RepSVs.ofD.1 h3⟩
    · rintro ⟨v, s, h1, h2, h3⟩; exact ⟨v, s, h1, h2, RepSVs.ofD.2 h3⟩
end Go.Vx
