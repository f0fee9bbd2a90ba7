/- What may be read grows: calls that make memory, rows that are written no more. -/
import Derived.Test.YtohmeplcjgmedaaDoorVcl
namespace Go.Vc
open Go.RowKit

/-- What might be read in one state reads alike in a later one, in which more may be read. -/
structure Step (b : Base) (pub : Nat → Prop) (s w : World) (pub' : Nat → Prop) (w' : World) : Prop where
  up : ∀ k, pub k → pub' k
  old : ∀ k, pub k → k < s.heap.size
  new : ∀ k, w.heap.size ≤ k → k < w'.heap.size → pub' k
  bk : ∀ k, pub' k → pub k ∨ b.mine k
  sm : Same pub s w'
  below : Below w.heap.size w w'
theorem Step.held {b : Base} {pub pub' : Nat → Prop} {s w w' : World} (h : Step b pub s w pub' w') {T : Tl} {ρ : List Nat} {E : El} {R : List Row} : HeldW pub s ⟨T, ρ, E, R, pub', w'⟩ := fun k hk => ⟨h.up k hk, h.sm k hk (h.old k hk)⟩
theorem Step.nw {b : Base} {pub pub' : Nat → Prop} {s w w' : World} (h : Step b pub s w pub' w') (k : Nat) (hk : ext pub w k) (hl : k < w'.heap.size) : pub' k := hk.elim (h.up k) fun h' => h.new k h' hl
theorem Step.fr {b : Base} {pub pub' S : Nat → Prop} {s w w' : World} (h : Step b pub s w pub' w') (hp : ∀ k, pub k → S k ∨ b.mine k) (k : Nat) (hk : pub' k) : S k ∨ b.mine k := (h.bk k hk).elim (hp k) .inr
theorem RepT.mv {b : Base} {pub pub' : Nat → Prop} {s w w' : World} {t : Tp} {v : Value} (h : RepT pub s t v) (st : Step b pub s w pub' w') : RepT pub' w' t v := h.to st.sm fun k h _ => st.up k h
theorem RepKs.mv {b : Base} {pub pub' : Nat → Prop} {s w w' : World} {t : List Tp} {A : Option Addr} {j : Nat} (h : RepKs pub s t A j) (st : Step b pub s w pub' w') : RepKs pub' w' t A j := h.to st.sm fun k h _ => st.up k h
theorem RepL.mv {b : Base} {pub pub' : Nat → Prop} {s w w' : World} {t : List Tp} {v : Value} (h : RepL pub s t v) (st : Step b pub s w pub' w') : RepL pub' w' t v := h.to st.sm fun k h _ => st.up k h
theorem RepI.mv {b : Base} {pub pub' : Nat → Prop} {s w w' : World} {t : List Int} {v : Value} (h : RepI pub s t v) (st : Step b pub s w pub' w') : RepI pub' w' t v := h.to st.sm fun k h _ => st.up k h
theorem RepS.mv {b : Base} {pub pub' : Nat → Prop} {s w w' : World} {t : Sc} {v : Value} (h : RepS pub s t v) (st : Step b pub s w pub' w') : RepS pub' w' t v := h.to st.sm fun k h _ => st.up k h
theorem Cells.mv {b : Base} {pub pub' : Nat → Prop} {s w w' : World} {A : Option Addr} {l : List Value} (h : Cells pub s A l) (st : Step b pub s w pub' w') : Cells pub' w' A l := h.to st.sm fun k h _ => st.up k h
theorem RepFlat.mv {b : Base} {pub pub' : Nat → Prop} {s w w' : World} {ts : List Tp} {l : List Value} (h : RepFlat pub s ts l) (st : Step b pub s w pub' w') : RepFlat pub' w' ts l := h.to st.sm fun k h _ => st.up k h
theorem RepT.nw {b : Base} {pub pub' : Nat → Prop} {s w w' : World} {t : Tp} {v : Value} (h : RepT (ext pub w) w' t v) (st : Step b pub s w pub' w') : RepT pub' w' t v := h.to (Same.rfl' _ _) st.nw
theorem RepKs.nw {b : Base} {pub pub' : Nat → Prop} {s w w' : World} {t : List Tp} {A : Option Addr} {j : Nat} (h : RepKs (ext pub w) w' t A j) (st : Step b pub s w pub' w') : RepKs pub' w' t A j := h.to (Same.rfl' _ _) st.nw
theorem RepL.nw {b : Base} {pub pub' : Nat → Prop} {s w w' : World} {t : List Tp} {v : Value} (h : RepL (ext pub w) w' t v) (st : Step b pub s w pub' w') : RepL pub' w' t v := h.to (Same.rfl' _ _) st.nw
theorem RepS.nw {b : Base} {pub pub' : Nat → Prop} {s w w' : World} {t : Sc} {v : Value} (h : RepS (ext pub w) w' t v) (st : Step b pub s w pub' w') : RepS pub' w' t v := h.to (Same.rfl' _ _) st.nw
theorem RowOk.nw {b : Base} {pub pub' : Nat → Prop} {s w w' : World} {A : Option Addr} {n c : Nat} {e : TypeId} {sz : Nat} {xs : List Value} (h : RowOk w' ⟨.slice A n c, e, sz, xs⟩) (hge : ∀ k, rowB (.slice A n c) = Option.some k → w.heap.size ≤ k) (st : Step b pub s w pub' w') : Cells pub' w' A xs :=
  h.cells rfl _ fun q hq => st.new q (hge q hq) (h.lt hq)

section
variable {P : Program} {N : Nat} {b : Base}
theorem Wd.step {st : St} {w w' : World} (h : Wd b st w) (hb : Below w.heap.size w w') : Step b st.pub st.s w (extP st.pub w w') w' := by
  refine ⟨fun _ h => .inl h, fun k hk => (h.pub k hk).1, fun k h1 h2 => .inr ⟨h1, h2⟩, fun k hk => ?_, h.pass hb, hb⟩
  exact hk.elim .inl fun hk => .inr (.inr (Nat.le_trans h.below.size hk.1))
/-- Behind a call that leaves what was there. -/
theorem resN {f : FuncId} {args : Array Value} {w : World} {Φ : Value → World → Prop} {dst : Option Tmp} {T : Tl} {ρ : List Nat} {E E0 : El} {R R0 : List Row} {pub pub0 : Nat → Prop} {s s0 : World} {K : St → Prop} (hc : Calls P f args w (Res w Φ)) (hw : Wd b ⟨T, ρ, E, R, pub, s⟩ w)
    (hk : ∀ v w' pub', Φ v w' → Step b pub s w pub' w' → putK N dst (.v v) ⟨T, ρ, E, R, pub', w'⟩ K) : Calls P f args w fun e w' => ∃ v, e = .returned v ∧ AfterK N b dst ⟨T, ρ, E0, R0, pub0, s0⟩ K v w' :=
  hc.mono fun _ w' ⟨v, he, hv, hb⟩ => ⟨v, he, E, R, extP pub w w', w', hw.call hb, hk v w' _ hv (hw.step hb)⟩
/-- A row that is written no more may be read. -/
theorem Wd.pubN {T : Tl} {ρ : List Nat} {E : El} {R : List Row} {pub : Nat → Prop} {s w : World} (h : Wd b ⟨T, ρ, E, R, pub, s⟩ w) {j : Nat} {A : Option Addr} {n c : Nat} {e : TypeId} {sz : Nat} {xs : List Value} (hj : R[j]? = some ⟨.slice A n c, e, sz, xs⟩) :
    ∃ pub', Wd b ⟨T, ρ, E, R.eraseIdx j, pub', w⟩ w ∧ Step b pub s w pub' w ∧ Cells pub' w A xs := by
  obtain ⟨r1, r2⟩ := h.row _ (List.mem_of_getElem? hj)
  refine ⟨_, h.publish hj, ⟨fun k hk => .inl hk, fun k hk => (h.pub k hk).1, fun k h1 h2 => by omega, fun k hk => ?_, h.same, Below.refl _ _⟩, r1.cells rfl _ fun q hq => .inr hq⟩
  exact hk.elim .inl fun hk => .inr (r2 k hk).1
end
theorem mine0 {S : Nat → Prop} {w : World} {k : Nat} (h : S k ∨ Base.mine ⟨w, fun _ => False⟩ k) : ext S w k := h.elim .inl fun h => .inr (h.elim False.elim id)
/-- A fact at the end of a call. -/
theorem ends {S pub : Nat → Prop} {w : World} (h : ∀ k, pub k → S k ∨ Base.mine ⟨w, fun _ => False⟩ k) {s : World} (k : Nat) (hk : pub k) (_ : k < s.heap.size) : ext S w k := mine0 (h k hk)
end Go.Vc
