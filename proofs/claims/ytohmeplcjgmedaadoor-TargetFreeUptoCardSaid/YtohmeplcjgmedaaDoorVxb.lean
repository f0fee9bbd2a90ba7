/- States over data; what a state says of a machine's state; how it goes on. -/
import Derived.Test.YtohmeplcjgmedaaDoorVxa
namespace Go.Vx
open Go.RowKit Go.Vc

abbrev Tl := List (Nat × SV)
/-- The call's own objects: a block of cells; a slice that may be written and grow. -/
inductive Ob where
  | blk (t : TypeId) (cs : List SV)
  | row (t : TypeId) (eb sz n : Nat) (xs : List D)
  | ab (φ : Value → Obj → Prop)
abbrev Hp := List (Nat × Ob)
structure St where
  T : Tl
  H : Hp
  n : Nat

/-- What is told of the program's package variables: it stays true. -/
structure Glob where
  p : (Nat → Prop) → World → Prop
  mono : ∀ {S S' : Nat → Prop} {w w' : World}, p S w → Same S w w' → (∀ k, S k → S' k) → w.heap.size ≤ w'.heap.size → p S' w'
  /-- How a world goes on: what is asked of it beside (that draws are counted, or nothing). -/
  d : World → World → Prop
  dt : ∀ {a b c : World}, d a b → d b c → d a c
  dm : ∀ {a b : World}, a.drawn ≤ b.drawn → d a b
/-- The world in which a call began; what might be read then; what the call may write of it. -/
structure Bs (G : Glob) (n0 : Nat) where
  w : World
  S : Nat → Prop
  M : Nat → Prop
  m : List Value
  hm : m.length = n0
def Bs.mine {G : Glob} {n0 : Nat} (b : Bs G n0) (k : Nat) : Prop := b.M k ∨ b.w.heap.size ≤ k

def footB : Value → Option Nat
  | .pointer (some a) => some a.block
  | .slice (some a) _ _ => some a.block
  | .map (some b) => some b
  | _ => none
def foot (e : Env) (i k : Nat) : Prop := ∃ v, e.m[i]? = some v ∧ footB v = some k
theorem footB_slice (A : Option Addr) (n c : Nat) : footB (.slice A n c) = rowB (.slice A n c) := by cases A <;> rfl

def ObOk (e : Env) (w : World) (i : Nat) : Ob → Prop
  | .blk t cs => ∃ g vs, e.m[i]? = some (.pointer (some ⟨g, 0, none⟩)) ∧ w.heap[g]? = some (.cells vs t (0, 0)) ∧ RepSVs e w cs vs.toList
  | .row t eb sz n xs => ∃ A c vs, e.m[i]? = some (.slice A n c) ∧ RowOk w ⟨.slice A n c, t, sz, vs⟩ ∧ RepDs e.pub w xs vs ∧ n * eb ≤ LB
  | .ab φ => ∃ v g o, e.m[i]? = some v ∧ footB v = some g ∧ (∀ A n c, v ≠ .slice A n c) ∧ w.heap[g]? = some o ∧ φ v o

def has (H : Hp) (i : Nat) : Prop := (lk H i).isSome = true
structure HpOk (e : Env) (w : World) (H : Hp) : Prop where
  ob : ∀ i o, lk H i = some o → ObOk e w i o
  sep : ∀ i j k, has H i → has H j → i ≠ j → foot e i k → ¬ foot e j k
  npub : ∀ i k, has H i → foot e i k → ¬ e.pub k
  pubLt : ∀ k, e.pub k → k < w.heap.size

theorem ObOk.lt {e : Env} {w : World} {i : Nat} {o : Ob} (h : ObOk e w i o) {k : Nat} (hk : foot e i k) : k < w.heap.size := by
  obtain ⟨v, hv, hf⟩ := hk
  cases o with
  | blk t cs =>
    obtain ⟨g, vs, h1, h2, _⟩ := h
    rw [h1] at hv; injection hv with hv; subst hv
    injection hf with hf; subst hf
    exact (Array.getElem?_eq_some_iff.1 h2).1
  | row t eb sz n xs =>
    obtain ⟨A, c, vs, h1, h2, _⟩ := h
    rw [h1] at hv; injection hv with hv; subst hv
    rw [footB_slice] at hf
    exact h2.lt hf
  | ab φ =>
    obtain ⟨v', g, o, h1, h2, _, h3, _⟩ := h
    rw [h1] at hv; injection hv with hv; subst hv
    rw [h2] at hf; injection hf with hf; subst hf
    exact (Array.getElem?_eq_some_iff.1 h3).1
theorem HpOk.lt {e : Env} {w : World} {H : Hp} (h : HpOk e w H) {i k : Nat} (hi : has H i) (hk : foot e i k) : k < w.heap.size := by
  obtain ⟨o, ho⟩ := Option.isSome_iff_exists.1 hi
  exact (h.ob i o ho).lt hk

/-- The names that a call was given stand for what they stood for (slices may move). -/
structure Pre {G : Glob} {n0 : Nat} (b : Bs G n0) (e : Env) : Prop where
  m : ∀ (i : Nat) v, b.m[i]? = some v → (∀ A n c, v ≠ .slice A n c) → e.m[i]? = some v
  le : b.m.length ≤ e.m.length
  up : ∀ k, b.S k → e.pub k
structure Ok {G : Glob} {n0 : Nat} (b : Bs G n0) (N : Nat) (e : Env) (st : St) (a : Act) (w : World) : Prop where
  sz : a.tmps.size = N
  df : a.defers = []
  len : e.m.length = st.n
  tm : ∀ t sv, lk st.T t = some sv → RepSV e w sv (a.tmps.getD t undef)
  hp : HpOk e w st.H
  below : Only b.M b.w w
  dr : G.d b.w w
  mine : ∀ i k, has st.H i → foot e i k → b.mine k
  frm : ∀ k, e.pub k → b.S k ∨ b.mine k
  pre : Pre b e
  gl : G.p e.pub w

section
variable {G : Glob} {n0 : Nat} {b : Bs G n0} {N : Nat} {e : Env} {st : St} {a : Act} {w : World}

theorem Ok.drew (h : Ok b N e st a w) : Ok b N e st a { w with drawn := w.drawn + 1 } := by
  have kw : Kept e w e { w with drawn := w.drawn + 1 } := ⟨fun _ _ h => h, fun _ h => h, fun _ _ _ => rfl, Nat.le_refl _⟩
  refine ⟨h.sz, h.df, h.len, fun t sv ht => (h.tm t sv ht).kept kw, ⟨fun i o ho => ?_, h.hp.sep, h.hp.npub, h.hp.pubLt⟩, ⟨h.below.os, h.below.tape, h.below.output, h.below.size, h.below.block⟩, G.dt h.dr (G.dm (Nat.le_succ _)), h.mine, h.frm, h.pre, G.mono h.gl kw.same kw.pub (Nat.le_refl _)⟩
  have := h.hp.ob i o ho
  cases o with
  | blk t cs =>
    obtain ⟨g, vs, h1, h2, h3⟩ := this
    exact ⟨g, vs, h1, h2, h3.kept kw⟩
  | row t eb sz n xs =>
    obtain ⟨A, c, vs, h1, h2, h3, h4⟩ := this
    exact ⟨A, c, vs, h1, h2.keep fun _ _ => rfl, h3.kept kw, h4⟩
  | ab φ => exact this

/-- A temporary gets a value. -/
theorem Ok.put (h : Ok b N e st a w) {d : Nat} {sv : SV} {v : Value} (hd : d < N) (hv : RepSV e w sv v) : Ok b N e ⟨(d, sv) :: st.T, st.H, st.n⟩ (a.put (some d) v) w := by
  refine ⟨by simp [Act.put, h.sz], h.df, h.len, fun t sv' ht => ?_, h.hp, h.below, h.dr, h.mine, h.frm, h.pre, h.gl⟩
  rw [put_get a d t _ (by rw [h.sz]; exact hd)]
  simp only [lk] at ht
  split at ht
  · rename_i e
    rw [if_pos (nbeq.1 e)]
    injection ht with ht; subst ht; exact hv
  · rename_i e
    rw [if_neg (nbeq_ne.1 e)]
    exact h.tm t sv' ht
def putK (N : Nat) (dst : Option Tmp) (sv : SV) (st : St) (K : St → Prop) : Prop :=
  match dst with
  | none => K st
  | some d => match Nat.blt d N, st with
    | true, ⟨T, H, n⟩ => K ⟨(d, sv) :: T, H, n⟩
    | false, _ => False
theorem putK_sound {dst : Option Tmp} {sv : SV} {K : St → Prop} {v : Value} (h : Ok b N e st a w) (hv : RepSV e w sv v) (hk : putK N dst sv st K) : ∃ st', Ok b N e st' (a.put dst v) w ∧ K st' ∧ st'.H = st.H := by
  unfold putK at hk
  split at hk
  · exact ⟨st, h, hk, rfl⟩
  · rename_i d
    split at hk
    · rename_i T H n hd
      rw [Nat.blt_eq] at hd
      exact ⟨_, h.put hd hv, hk, rfl⟩
    · exact hk.elim

/-- An object more, in new memory. -/
theorem Ok.addOb (h : Ok b N e st a w) {w' : World} {v : Value} {o : Ob} (hb : Below w.heap.size w w') (hd : w.drawn ≤ w'.drawn) (hf : ∀ k, footB v = some k → w.heap.size ≤ k) (ho : ∀ e' : Env, Kept e w e' w' → e'.m[st.n]? = some v → ObOk e' w' st.n o) :
    ∃ e', Ok b N e' ⟨st.T, (st.n, o) :: st.H, st.n + 1⟩ a w' ∧ Kept e w e' w' ∧ e'.m[st.n]? = some v ∧ e'.pub = e.pub := by
  have hm : ∀ (i : Nat) (u : Value), e.m[i]? = some u → (e.m ++ [v])[i]? = some u := fun i u hi => by
    rw [List.getElem?_append_left (List.getElem?_eq_some_iff.1 hi).1]; exact hi
  have hn : (e.m ++ [v])[st.n]? = some v := by rw [← h.len]; simp
  have kw : Kept e w ⟨e.m ++ [v], e.pub⟩ w' := ⟨hm, fun _ h => h, same_of_below hb _, hb.size⟩
  have hft : ∀ i k, has st.H i → foot ⟨e.m ++ [v], e.pub⟩ i k → foot e i k := by
    rintro i k hi ⟨u, h1, h2⟩
    obtain ⟨o', ho'⟩ := Option.isSome_iff_exists.1 hi
    have : ∃ u', e.m[i]? = some u' := by
      have := h.hp.ob i o' ho'
      cases o' with
      | blk t cs => obtain ⟨g, vs, h1, _⟩ := this; exact ⟨_, h1⟩
      | row t eb sz n xs => obtain ⟨A, c, vs, h1, _⟩ := this; exact ⟨_, h1⟩
      | ab φ => obtain ⟨v', g, o, h1, _⟩ := this; exact ⟨_, h1⟩
    obtain ⟨u', hu'⟩ := this
    have h1 : (e.m ++ [v])[i]? = some u := h1
    rw [hm i u' hu'] at h1; injection h1 with h1; subst h1
    exact ⟨_, hu', h2⟩
  have hnew : ∀ k, foot ⟨e.m ++ [v], e.pub⟩ st.n k → w.heap.size ≤ k := by
    rintro k ⟨u, h1, h2⟩
    have h1 : (e.m ++ [v])[st.n]? = some u := h1
    rw [hn] at h1; injection h1 with h1; subst h1; exact hf k h2
  have hsz := hb.size
  have hold : ∀ i, has ((st.n, o) :: st.H) i → i = st.n ∨ (has st.H i) := by
    intro i hi
    unfold has at hi
    simp only [lk] at hi
    split at hi
    · rename_i e'; exact .inl (nbeq.1 e').symm
    · exact .inr hi
  refine ⟨⟨e.m ++ [v], e.pub⟩, ⟨h.sz, h.df, by simp [h.len], fun t sv ht => (h.tm t sv ht).kept kw, ⟨fun i o' ho' => ?_, fun i j k hi hj hne h1 h2 => ?_, fun i k hi h1 h2 => ?_, fun k hk => Nat.lt_of_lt_of_le (h.hp.pubLt k hk) hsz⟩, h.below.trans (Only.of_below hb), G.dt h.dr (G.dm hd), fun i k hi h1 => ?_, h.frm, ⟨fun i v hi hv => hm i v (h.pre.m i v hi hv), by simp; have := h.pre.le; omega, h.pre.up⟩, G.mono h.gl kw.same kw.pub hsz⟩, kw, hn, rfl⟩
  · simp only [lk] at ho'
    split at ho'
    · rename_i e'
      obtain rfl := nbeq.1 e'
      injection ho' with ho'; subst ho'
      exact ho _ kw hn
    · have hlt : ∀ {k}, foot e i k → k < w.heap.size := fun hk => (h.hp.ob i o' ho').lt hk
      have := h.hp.ob i o' ho'
      cases o' with
      | blk t cs =>
        obtain ⟨g, vs, h1, h2, h3⟩ := this
        exact ⟨g, vs, hm _ _ h1, by rw [hb.block g (hlt ⟨_, h1, rfl⟩)]; exact h2, h3.kept kw⟩
      | row t eb sz n xs =>
        obtain ⟨A, c, vs, h1, h2, h3, h4⟩ := this
        exact ⟨A, c, vs, hm _ _ h1, h2.keep fun g hg => hb.block g (h2.lt hg), h3.kept kw, h4⟩
      | ab φ =>
        obtain ⟨v', g, o, h1, h2, h3, h4, h5⟩ := this
        exact ⟨v', g, o, hm _ _ h1, h2, h3, by rw [hb.block g (hlt ⟨_, h1, h2⟩)]; exact h4, h5⟩
  · rcases hold i hi with rfl | hi' <;> rcases hold j hj with rfl | hj'
    · exact hne rfl
    · have := hnew k h1
      have := h.hp.lt hj' (hft j k hj' h2); omega
    · have := hnew k h2
      have := h.hp.lt hi' (hft i k hi' h1); omega
    · exact h.hp.sep i j k hi' hj' hne (hft i k hi' h1) (hft j k hj' h2)
  · rcases hold i hi with rfl | hi'
    · have := hnew k h1
      have := h.hp.pubLt k h2; omega
    · exact h.hp.npub i k hi' (hft i k hi' h1) h2
  · rcases hold i hi with rfl | hi'
    · exact .inr (Nat.le_trans h.below.size (hnew k h1))
    · exact h.mine i k hi' (hft i k hi' h1)
end

/-! ### Names that no longer stand for what they stood for -/
mutual
/-- What is known of a value, but for the slices of some rows. -/
def scrub (r : Nat → Bool) : SV → SV
  | .row i => match r i with
    | true => .any
    | false => .row i
  | .rowp i o => match r i with
    | true => .any
    | false => .rowp i o
  | .nm i => .nm i
  | .agg l => .agg (scrubs r l)
  | .tup l => .tup (scrubs r l)
  | .fn f a b => .fn f (scrubs r a) (scrubs r b)
  | .ifc t x => .ifc t (scrub r x)
  | .d x => .d x
  | .kb b => .kb b
  | .own i o => .own i o
  | .nl => .nl
  | .any => .any
def scrubs (r : Nat → Bool) : List SV → List SV
  | [] => []
  | x :: l => scrub r x :: scrubs r l
end
mutual
theorem RepSV.scrub {e e' : Env} {w w' : World} {r : Nat → Bool} (hm : ∀ (i : Nat) v, e.m[i]? = some v → (∀ A n c, v = .slice A n c → r i = false) → e'.m[i]? = some v) (hp : ∀ k, e.pub k → e'.pub k) (hs : Same e.pub w w') : ∀ {x : SV} {v : Value}, RepSV e w x v → RepSV e' w' (scrub r x) v
  | .d x, v, hx => by simp only [Vx.scrub, RepSV] at hx ⊢; exact hx.to hs fun k hk _ => hp k hk
  | .kb b, v, hx => by simpa only [Vx.scrub, RepSV] using hx
  | .own i off, v, hx => by
    simp only [Vx.scrub, RepSV] at hx ⊢
    obtain ⟨g, h1, h2⟩ := hx
    exact ⟨g, hm i _ h1 (fun _ _ _ h => by cases h), h2⟩
  | .row i, v, hx => by
    simp only [Vx.scrub]
    split
    · simp only [RepSV]
    · rename_i hr
      simp only [RepSV] at hx ⊢
      obtain ⟨A, n, c, h1, h2⟩ := hx
      exact ⟨A, n, c, h1, hm i _ h2 (fun _ _ _ _ => hr)⟩
  | .rowp i off, v, hx => by
    simp only [Vx.scrub]
    split
    · simp only [RepSV]
    · rename_i hr
      simp only [RepSV] at hx ⊢
      obtain ⟨ad, n, c, h1, h2⟩ := hx
      exact ⟨ad, n, c, hm i _ h1 (fun _ _ _ _ => hr), h2⟩
  | .agg l, v, hx => by
    simp only [Vx.scrub, RepSV] at hx ⊢
    obtain ⟨l', e, h1⟩ := hx
    exact ⟨l', e, RepSVs.scrub hm hp hs h1⟩
  | .tup l, v, hx => by
    simp only [Vx.scrub, RepSV] at hx ⊢
    obtain ⟨l', e, h1⟩ := hx
    exact ⟨l', e, RepSVs.scrub hm hp hs h1⟩
  | .fn f a b, v, hx => by
    simp only [Vx.scrub, RepSV] at hx ⊢
    obtain ⟨a', b', e, h1, h2⟩ := hx
    exact ⟨a', b', e, RepSVs.scrub hm hp hs h1, RepSVs.scrub hm hp hs h2⟩
  | .ifc t x, v, hx => by
    simp only [Vx.scrub, RepSV] at hx ⊢
    obtain ⟨y, e, h1⟩ := hx
    exact ⟨y, e, RepSV.scrub hm hp hs h1⟩
  | .nm i, v, hx => by
    simp only [Vx.scrub, RepSV] at hx ⊢
    obtain ⟨g, h1, h2⟩ := hx
    exact ⟨g, h1, hm i v h2 fun A n c h => by rw [h1] at h; cases h⟩
  | .nl, v, hx => by simpa only [Vx.scrub, RepSV] using hx
  | .any, v, hx => by simp only [Vx.scrub, RepSV]
theorem RepSVs.scrub {e e' : Env} {w w' : World} {r : Nat → Bool} (hm : ∀ (i : Nat) v, e.m[i]? = some v → (∀ A n c, v = .slice A n c → r i = false) → e'.m[i]? = some v) (hp : ∀ k, e.pub k → e'.pub k) (hs : Same e.pub w w') : ∀ {l : List SV} {l' : List Value}, RepSVs e w l l' → RepSVs e' w' (scrubs r l) l'
  | [], _, hx => by simpa only [scrubs, RepSVs] using hx
  | x :: r, l', hx => by
    simp only [scrubs, RepSVs] at hx ⊢
    obtain ⟨v, s, e, h1, h2⟩ := hx
    exact ⟨v, s, e, RepSV.scrub hm hp hs h1, RepSVs.scrub hm hp hs h2⟩
end
def scrubO (r : Nat → Bool) : Ob → Ob
  | .blk t cs => .blk t (scrubs r cs)
  | .row t eb sz n xs => .row t eb sz n xs
  | .ab φ => .ab φ
def scrubT (r : Nat → Bool) (T : Tl) : Tl := T.map fun p => (p.1, scrub r p.2)
def without (r : Nat → Bool) : Hp → Hp
  | [] => []
  | (i, o) :: l => match r i with
    | true => without r l
    | false => (i, o) :: without r l
def scrubH (r : Nat → Bool) (H : Hp) : Hp := H.map fun p => (p.1, scrubO r p.2)
theorem lk_map {α β : Type} (f : α → β) : ∀ (l : List (Nat × α)) (i : Nat), lk (l.map fun p => (p.1, f p.2)) i = (lk l i).map f
  | [], i => rfl
  | (k, x) :: r, i => by
    simp only [List.map_cons, lk]
    split
    · rfl
    · exact lk_map f r i
theorem lk_without {r : Nat → Bool} : ∀ {H : Hp} {i : Nat}, lk (without r H) i = if r i = true then none else lk H i
  | [], i => by simp [without, lk]
  | (k, x) :: l, i => by
    simp only [without]
    split
    · rename_i hk
      rw [lk_without]
      by_cases he : k = i
      · subst he; simp [hk]
      · simp only [lk, nbeq_ne.2 he]
    · rename_i hk
      simp only [lk]
      split
      · rename_i e; obtain rfl := nbeq.1 e; simp [hk]
      · exact lk_without
theorem lk_app {α : Type} : ∀ (l m : List (Nat × α)) (i : Nat), lk (l ++ m) i = match lk l i with
    | some x => some x
    | none => lk m i
  | [], m, i => by simp [lk]
  | (k, x) :: r, m, i => by
    simp only [List.cons_append, lk]
    split
    · rfl
    · exact lk_app r m i

section
variable {G : Glob} {n0 : Nat} {b : Bs G n0} {N : Nat} {e : Env} {st : St} {a : Act} {w : World}
/-- Some objects are handed on, and come back otherwise: what else there is stays. 'r': those whose slices may be other ones now. -/
theorem Ok.frame (h : Ok b N e st a w) {r s : Nat → Bool} (hsr : ∀ i, s i = true → r i = true) {e' : Env} {w' : World} {H' : Hp} (q : Nat) (hlen : e'.m.length = e.m.length + q)
    (ho : Only (fun k => ∃ i, r i = true ∧ has st.H i ∧ foot e i k) w w') (hd : G.d w w')
    (hm : ∀ (i : Nat) v, e.m[i]? = some v → (∀ A n c, v = .slice A n c → s i = false) → e'.m[i]? = some v)
    (hp : ∀ k, e.pub k → e'.pub k) (hq : ∀ k, e'.pub k → e.pub k ∨ (∃ i, r i = true ∧ has st.H i ∧ foot e i k) ∨ w.heap.size ≤ k)
    (hH : HpOk e' w' H') (hf : ∀ i k, has H' i → foot e' i k → (∃ i, r i = true ∧ has st.H i ∧ foot e i k) ∨ w.heap.size ≤ k) :
    Ok b N e' ⟨scrubT s st.T, H' ++ scrubH s (without r st.H), st.n + q⟩ a w' := by
  have hrs : ∀ i, r i = false → s i = false := fun i hi => by
    cases hsi : s i with
    | false => rfl
    | true => rw [hsr i hsi] at hi; cases hi
  have hsame : Same e.pub w w' := fun k hk hl => ho.block k hl (by rintro ⟨i, h1, h2, h3⟩; exact h.hp.npub i k h2 h3 hk)
  have hrest : ∀ i, has (H' ++ scrubH s (without r st.H)) i → has H' i ∨ (r i = false ∧ has st.H i) := by
    intro i hi
    unfold has at hi
    rw [lk_app] at hi
    split at hi
    · rename_i x hx; exact .inl (by simp [has, hx])
    · rw [scrubH, lk_map, lk_without] at hi
      split at hi
      · cases hi
      · rename_i hr
        refine .inr ⟨by simpa using hr, ?_⟩
        unfold has
        cases hl : lk st.H i with
        | none => rw [hl] at hi; cases hi
        | some o => rfl
  have hfr : ∀ i k, r i = false → has st.H i → foot e' i k → foot e i k := by
    rintro i k hr hi ⟨u, h1, h2⟩
    obtain ⟨o, ho⟩ := Option.isSome_iff_exists.1 hi
    have : ∃ u', e.m[i]? = some u' := by
      have := h.hp.ob i o ho
      cases o with
      | blk t cs => obtain ⟨g, vs, h1, _⟩ := this; exact ⟨_, h1⟩
      | row t eb sz n xs => obtain ⟨A, c, vs, h1, _⟩ := this; exact ⟨_, h1⟩
      | ab φ => obtain ⟨v', g, o, h1, _⟩ := this; exact ⟨_, h1⟩
    obtain ⟨u', hu'⟩ := this
    have := hm i u' hu' (fun _ _ _ _ => hrs i hr)
    rw [this] at h1; injection h1 with h1; subst h1
    exact ⟨_, hu', h2⟩
  have hno : ∀ i k, r i = false → has st.H i → foot e i k → ¬ ∃ j, r j = true ∧ has st.H j ∧ foot e j k := by
    rintro i k hr hi h1 ⟨j, h2, h3, h4⟩
    exact h.hp.sep i j k hi h3 (by rintro rfl; rw [hr] at h2; cases h2) h1 h4
  refine ⟨h.sz, h.df, by rw [hlen, h.len], fun t sv ht => ?_, ⟨fun i o ho' => ?_, fun i j k hi hj hne h1 h2 => ?_, fun i k hi h1 h2 => ?_, hH.pubLt⟩, ⟨ho.os.trans h.below.os, ho.tape.trans h.below.tape, ho.output.trans h.below.output, Nat.le_trans h.below.size ho.size, fun k hk hn => ?_⟩, G.dt h.dr hd, fun i k hi h1 => ?_, fun k hk => ?_, ⟨fun i v hi hv => hm i v (h.pre.m i v hi hv) (fun A n c e => absurd e (hv A n c)), by rw [hlen]; have := h.pre.le; omega, fun k hk => hp k (h.pre.up k hk)⟩, G.mono h.gl hsame hp ho.size⟩
  · rw [scrubT, lk_map] at ht
    cases hl : lk st.T t with
    | none => rw [hl] at ht; cases ht
    | some x =>
      rw [hl] at ht; injection ht with ht; subst ht
      exact (h.tm t x hl).scrub hm hp hsame
  · rw [lk_app] at ho'
    split at ho'
    · rename_i x hx
      injection ho' with ho'; subst ho'
      exact hH.ob i _ hx
    · rw [scrubH, lk_map, lk_without] at ho'
      split at ho'
      · cases ho'
      · rename_i hr
        have hr : r i = false := by simpa using hr
        cases hl : lk st.H i with
        | none => rw [hl] at ho'; cases ho'
        | some o' =>
          rw [hl] at ho'; injection ho' with ho'; subst ho'
          have hi : has st.H i := by simp [has, hl]
          have hstay : ∀ k, foot e i k → w'.heap[k]? = w.heap[k]? := fun k hk => ho.block k (h.hp.lt hi hk) (hno i k hr hi hk)
          have := h.hp.ob i o' hl
          cases o' with
          | blk t cs =>
            obtain ⟨g, vs, h1, h2, h3⟩ := this
            exact ⟨g, vs, hm _ _ h1 (fun _ _ _ h => by cases h), by rw [hstay g ⟨_, h1, rfl⟩]; exact h2, h3.scrub hm hp hsame⟩
          | row t eb sz n xs =>
            obtain ⟨A, c, vs, h1, h2, h3, h4⟩ := this
            refine ⟨A, c, vs, hm _ _ h1 (fun _ _ _ _ => hrs i hr), h2.keep fun g hg => hstay g ⟨_, h1, by rw [footB_slice]; exact hg⟩, h3.to hsame fun k hk _ => hp k hk, h4⟩
          | ab φ =>
            obtain ⟨v', g, o, h1, h2, h3, h4, h5⟩ := this
            exact ⟨v', g, o, hm _ _ h1 (fun A n c h => absurd h (h3 A n c)), h2, h3, by rw [hstay g ⟨_, h1, h2⟩]; exact h4, h5⟩
  · rcases hrest i hi with hi' | ⟨ri, hi'⟩ <;> rcases hrest j hj with hj' | ⟨rj, hj'⟩
    · exact hH.sep i j k hi' hj' hne h1 h2
    · have h2' := hfr j k rj hj' h2
      rcases hf i k hi' h1 with h3 | h3
      · exact hno j k rj hj' h2' h3
      · have := h.hp.lt hj' h2'; omega
    · have h1' := hfr i k ri hi' h1
      rcases hf j k hj' h2 with h3 | h3
      · exact hno i k ri hi' h1' h3
      · have := h.hp.lt hi' h1'; omega
    · exact h.hp.sep i j k hi' hj' hne (hfr i k ri hi' h1) (hfr j k rj hj' h2)
  · rcases hrest i hi with hi' | ⟨ri, hi'⟩
    · exact hH.npub i k hi' h1 h2
    · have h1' := hfr i k ri hi' h1
      rcases hq k h2 with h3 | h3 | h3
      · exact h.hp.npub i k hi' h1' h3
      · exact hno i k ri hi' h1' h3
      · have := h.hp.lt hi' h1'; omega
  · rw [ho.block k (Nat.lt_of_lt_of_le hk h.below.size) ?_]
    · exact h.below.block k hk hn
    · rintro ⟨i, h1, h2, h3⟩
      rcases h.mine i k h2 h3 with h4 | h4
      · exact hn h4
      · omega
  · rcases hrest i hi with hi' | ⟨ri, hi'⟩
    · rcases hf i k hi' h1 with ⟨j, h2, h3, h4⟩ | h3
      · exact h.mine j k h3 h4
      · exact .inr (Nat.le_trans h.below.size h3)
    · exact h.mine i k hi' (hfr i k ri hi' h1)
  · rcases hq k hk with h3 | ⟨j, h2, h3, h4⟩ | h3
    · exact h.frm k h3
    · exact .inr (h.mine j k h3 h4)
    · exact .inr (.inr (Nat.le_trans h.below.size h3))
end
end Go.Vx
