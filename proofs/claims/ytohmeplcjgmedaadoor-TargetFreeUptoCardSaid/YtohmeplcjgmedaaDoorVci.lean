/- Weaker states; what calls leave; what lies in memory. -/
import Derived.Test.YtohmeplcjgmedaaDoorVch
set_option linter.unusedSimpArgs false
set_option linter.unusedVariables false
namespace Go.Vc
open Go.RowKit

section
variable {P : Program} {ty : List (Nat × TI)} {N : Nat} {w0 : Base}

theorem goes_of {f : FuncId} {fn : Func} (hf : P.funcs[f]? = some fn) (hn : (fn.name == "runtime.NumGoroutine") = false) (hb : fn.body.isNone = false) : Goes P f := by
  intro args w
  unfold callFunc
  rw [Sem.run_bind, run_program]
  simp only [Result.andThen_ok, hf, hn, hb, Bool.false_eq_true, if_false, Sem.run_pure]

def weakT (ρ : List Nat) (T : Tl) (ρ' : List Nat) : Tl → Prop
  | [] => True
  | (t, x) :: r => (match lk T t with
    | some y => den ρ y = den ρ' x
    | none => False) ∧ weakT ρ T ρ' r
def weakE (ρ : List Nat) (E : El) (ρ' : List Nat) : El → Prop
  | [] => True
  | (i, (c, t)) :: r => (match lk E i with
    | some (c', t') => denL ρ c' = denL ρ' c ∧ t' = t ∧ Nat.blt i ρ'.length = true
    | none => False) ∧ weakE ρ E ρ' r
theorem weakT_get {ρ ρ' : List Nat} {T : Tl} : ∀ {T' : Tl}, weakT ρ T ρ' T' → ∀ t x, lk T' t = some x → ∃ y, lk T t = some y ∧ den ρ y = den ρ' x
  | [], _, t, x, h => by simp [lk] at h
  | (k, z) :: r, hw, t, x, h => by
    simp only [lk] at h
    split at h
    · rename_i e
      obtain rfl := nbeq.1 e
      injection h with h; subst h
      have := hw.1
      split at this
      · rename_i y hy; exact ⟨y, hy, this⟩
      · exact this.elim
    · exact weakT_get hw.2 t x h
theorem weakE_get {ρ ρ' : List Nat} {E : El} : ∀ {E' : El}, weakE ρ E ρ' E' → ∀ i c t, lk E' i = some (c, t) → ∃ c', lk E i = some (c', t) ∧ denL ρ c' = denL ρ' c ∧ i < ρ'.length
  | [], _, i, c, t, h => by simp [lk] at h
  | (k, (c0, t0)) :: r, hw, i, c, t, h => by
    simp only [lk] at h
    split at h
    · rename_i e
      obtain rfl := nbeq.1 e
      injection h with h; injection h with h1 h2; subst h1; subst h2
      have := hw.1
      split at this
      · rename_i c' t' hy
        obtain ⟨h1, rfl, h3⟩ := this
        exact ⟨c', hy, h1, by simpa using h3⟩
      · exact this.elim
    · exact weakE_get hw.2 i c t h
theorem weak_of {st st' : St} (hρ : preP st'.ρ st.ρ) (hT : weakT st.ρ st.T st'.ρ st'.T) (hE : weakE st.ρ st.E st'.ρ st'.E) (hR : List.Sublist st'.R st.R) (hp : st'.pub = st.pub) (hs : st'.s = st.s) : Weak N w0 st st' := by
  intro a w h
  refine ⟨h.sz, h.df, fun t sv ht => ?_, ⟨h.wd.below, by rw [hs]; exact h.wd.size, by rw [hp, hs]; exact h.wd.pub, fun i c t hi => ?_, fun i c t hi => ?_, fun i j hi hj hne => ?_, fun r hr => ?_, h.wd.rinj.sublist hR⟩⟩
  · obtain ⟨y, h1, h2⟩ := weakT_get hT t sv ht
    rw [h.tm t y h1, h2]
  · obtain ⟨c', h1, h2, h3⟩ := weakE_get hE i c t hi
    rw [← h2, ← preP_get hρ i h3]
    exact h.wd.ent i c' t h1
  · obtain ⟨c', h1, h2, h3⟩ := weakE_get hE i c t hi
    obtain ⟨k1, k2, k3⟩ := h.wd.entN i c' t h1
    rw [← preP_get hρ i h3, hp]
    exact ⟨h3, k2, k3⟩
  · obtain ⟨⟨c, t⟩, hc⟩ := Option.isSome_iff_exists.1 hi
    obtain ⟨⟨d, u⟩, hd⟩ := Option.isSome_iff_exists.1 hj
    obtain ⟨c', h1, h2, h3⟩ := weakE_get hE i c t hc
    obtain ⟨d', h4, h5, h6⟩ := weakE_get hE j d u hd
    rw [← preP_get hρ i h3, ← preP_get hρ j h6]
    exact h.wd.inj i j (by simp [h1]) (by simp [h4]) hne
  · obtain ⟨k1, k2⟩ := h.wd.row r (hR.subset hr)
    refine ⟨k1, fun g hg => ?_⟩
    obtain ⟨q1, q2, q3⟩ := k2 g hg
    refine ⟨q1, by rw [hp]; exact q2, fun i hi => ?_⟩
    obtain ⟨⟨c, t⟩, hc⟩ := Option.isSome_iff_exists.1 hi
    obtain ⟨c', h1, h2, h3⟩ := weakE_get hE i c t hc
    rw [← preP_get hρ i h3]
    exact q3 i (by simp [h1])

/-- What may be read behind a call: what might be read ahead of it, and what the call has made. -/
def extP (pub : Nat → Prop) (w w' : World) : Nat → Prop := fun k => pub k ∨ (w.heap.size ≤ k ∧ k < w'.heap.size)

theorem Only.trans {M : Nat → Prop} {w w1 w2 : World} (h : Only M w w1) (k : Only M w1 w2) : Only M w w2 :=
  ⟨k.os.trans h.os, k.tape.trans h.tape, k.output.trans h.output, Nat.le_trans h.size k.size, fun b hb hm => (k.block b (Nat.lt_of_lt_of_le hb h.size) hm).trans (h.block b hb hm)⟩
theorem Only.below {w w' : World} (h : Only (fun _ => False) w w') : Below w.heap.size w w' := ⟨h.os, h.tape, h.output, h.size, fun k hk => h.block k hk id⟩
theorem Only.of_below {M : Nat → Prop} {w w' : World} (h : Below w.heap.size w w') : Only M w w' := ⟨h.os, h.tape, h.output, h.size, fun k hk _ => h.block k hk⟩
theorem Only.mono {M M' : Nat → Prop} {w w' : World} (h : Only M w w') (hm : ∀ k, k < w.heap.size → M k → M' k) : Only M' w w' := ⟨h.os, h.tape, h.output, h.size, fun k hk hn => h.block k hk fun hk' => hn (hm k hk hk')⟩
theorem Wd.bel {w1 : World} {st : St} {w : World} (h : Wd ⟨w1, fun _ => False⟩ st w) : Below w1.heap.size w1 w := h.below.below
/-- Behind a call that leaves all that was there. -/
theorem Wd.call {st : St} {w w' : World} (h : Wd w0 st w) (hb : Below w.heap.size w w') : Wd w0 ⟨st.T, st.ρ, st.E, st.R, extP st.pub w w', w'⟩ w' := by
  have hlt : ∀ i c t, lk st.E i = some (c, t) → st.ρ.getD i 0 < w.heap.size := fun i c t hi => (Array.getElem?_eq_some_iff.1 (h.ent i c t hi)).1
  refine ⟨⟨hb.os.trans h.below.os, hb.tape.trans h.below.tape, hb.output.trans h.below.output, Nat.le_trans h.below.size hb.size, fun k hk hm => ?_⟩, Nat.le_refl _, fun b hp => ⟨?_, rfl⟩, fun i c t hi => ?_, fun i c t hi => ?_, h.inj, fun r hr => ?_, h.rinj⟩
  · rw [hb.block k (by have := h.below.size; omega)]
    exact h.below.block k hk hm
  · rcases hp with hp | hp
    · show b < w'.heap.size
      have := (h.pub b hp).1; have := h.size; have := hb.size; omega
    · exact hp.2
  · rw [hb.block _ (hlt i c t hi)]; exact h.ent i c t hi
  · obtain ⟨k1, k2, k3⟩ := h.entN i c t hi
    refine ⟨k1, k2, fun hp => ?_⟩
    rcases hp with hp | hp
    · exact k3 hp
    · have h' : w.heap.size ≤ st.ρ.getD i 0 := hp.1
      have := hlt i c t hi; omega
  · obtain ⟨k1, k2⟩ := h.row r hr
    refine ⟨k1.keep fun g hg => hb.block g (k1.lt hg), fun g hg => ?_⟩
    obtain ⟨q1, q2, q3⟩ := k2 g hg
    refine ⟨q1, fun hp => ?_, q3⟩
    rcases hp with hp | hp
    · exact q2 hp
    · have := k1.lt hg; omega
/-- The same, nothing new to be read. -/
theorem Wd.call0 {st : St} {w w' : World} (h : Wd w0 st w) (hb : Below w.heap.size w w') : Wd w0 ⟨st.T, st.ρ, st.E, st.R, st.pub, w'⟩ w' := by
  have h1 := h.call hb
  exact ⟨h1.below, h1.size, fun b hp => h1.pub b (.inl hp), h1.ent, fun i c t hi => ⟨(h1.entN i c t hi).1, (h1.entN i c t hi).2.1, fun hp => (h1.entN i c t hi).2.2 (.inl hp)⟩, h1.inj, fun r hr => ⟨(h1.row r hr).1, fun g hg => ⟨((h1.row r hr).2 g hg).1, fun hp => ((h1.row r hr).2 g hg).2.1 (.inl hp), ((h1.row r hr).2 g hg).2.2⟩⟩, h1.rinj⟩
/-- Nothing but a look: the state may speak of the world at hand. -/
theorem Wd.now {st : St} {w : World} (h : Wd w0 st w) : Wd w0 ⟨st.T, st.ρ, st.E, st.R, st.pub, w⟩ w := h.call0 (Below.refl _ _)

/-! ### What lies in memory -/
/-- Cells in a row, from an address on; S: the blocks that may be read. -/
def Cells (S : Nat → Prop) (w : World) (A : Option Addr) (l : List Value) : Prop := l = [] ∨ ∃ ad, A = some ad ∧ S ad.block ∧ ∀ j v, l[j]? = some v → w.cell? (ad.add j) = some v
/-- One world reads as another one at some blocks. -/
def Same (S : Nat → Prop) (w w' : World) : Prop := ∀ b, S b → b < w.heap.size → w'.heap[b]? = w.heap[b]?
theorem Same.rfl' (S : Nat → Prop) (w : World) : Same S w w := fun _ _ _ => rfl
theorem add_block (a : Addr) (n : Nat) : (a.add n).block = a.block := by unfold Addr.add; split <;> rfl
theorem Same.cell {S : Nat → Prop} {w w' : World} (h : Same S w w') {a : Addr} {v : Value} (ha : S a.block) (hc : w.cell? a = some v) : w'.cell? a = some v := by
  have := h a.block ha (World.block_lt_of_cell? w a hc)
  rw [← hc]; exact World.cell?_of_block this
theorem Cells.to {S S' : Nat → Prop} {w w' : World} {A : Option Addr} {l : List Value} (h : Cells S w A l) (hs : Same S w w') (hS : ∀ k, S k → k < w.heap.size → S' k) : Cells S' w' A l := by
  rcases h with h | ⟨ad, rfl, h1, h2⟩
  · exact .inl h
  · by_cases hl : l = []
    · exact .inl hl
    · refine .inr ⟨ad, rfl, ?_, fun j v hj => hs.cell (by rw [add_block]; exact h1) (h2 j v hj)⟩
      obtain ⟨x, r, rfl⟩ := List.exists_cons_of_ne_nil hl
      have := World.block_lt_of_cell? w _ (h2 0 x rfl)
      rw [add_block] at this
      exact hS _ h1 this
theorem same_of_below {w w' : World} (h : Below w.heap.size w w') (S : Nat → Prop) : Same S w w' := fun b _ hl => h.block b hl
theorem Wd.same {st : St} {w : World} (h : Wd w0 st w) : Same st.pub st.s w := fun b hb _ => (h.pub b hb).2
theorem Wd.same0 {st : St} {w : World} (h : Wd w0 st w) (S : Nat → Prop) (hS : ∀ b, S b → ¬ w0.M b) : Same S w0.w w := fun b hb hl => h.below.block b hl (hS b hb)
theorem Wd.samev {w1 : World} {st : St} {w : World} (h : Wd ⟨w1, fun _ => False⟩ st w) (S : Nat → Prop) : Same S w1 w := fun b hb hl => h.below.block b hl id

abbrev ints (l : List Int) : List Value := l.map (Value.int .i64)
end
end Go.Vc
namespace Go.Vc
theorem tyOk_nil {P : Program} : TyOk P [] := fun t i h => by simp [lk] at h
theorem tyOk_cons {P : Program} {k : Nat} {i : TI} {r : List (Nat × TI)} (h : TIok P k i) (hr : TyOk P r) : TyOk P ((k, i) :: r) := by
  intro t j hj
  simp only [lk] at hj
  split at hj
  · rename_i e
    obtain rfl := nbeq.1 e
    injection hj with hj; subst hj; exact h
  · exact hr t j hj
end Go.Vc
