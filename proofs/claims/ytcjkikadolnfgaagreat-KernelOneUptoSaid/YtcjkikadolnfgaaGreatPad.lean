/- Texts of mine, joined: Vcl Vcm Vcn Vcz Vxa Vxb Vxc Vxd Vxe. -/
import Derived.Test.YtcjkikadolnfgaaGreatPac
import Derived.Laws.OwnMore
/- Rows cut, cleared, made. -/
set_option linter.unusedSimpArgs false
set_option linter.unusedVariables false
namespace Go.Vc
open Go.RowKit
section
variable {P : Program} {ty : List (Nat × TI)} {N : Nat} {b : Base}
theorem run_sliceBound' {w : World} {k : IntKind} {i : Int} {n : Nat} {c : BoundsCode} (h0 : 0 ≤ i) (h1 : i ≤ n) : (Instr.sliceBound (.int k i) n c).run P w = .ok i.toNat w := by
  unfold Instr.sliceBound
  have : (asIntOf (.int k i)).run P w = .ok (k, i) w := rfl
  rw [Sem.run_bind, this]
  simp only [Result.andThen_ok]
  rw [if_pos ⟨h0, h1⟩]; rfl
theorem RowOk.cut {w : World} {A : Option Addr} {n c m : Nat} {e : TypeId} {sz : Nat} {xs : List Value} (h : RowOk w ⟨.slice A n c, e, sz, xs⟩) (hm : m ≤ n) : RowOk w ⟨.slice A m c, e, sz, xs.take (m * sz)⟩ := by
  obtain ⟨n', hl, ⟨hv, h0⟩ | ⟨g', o, cap, cur, hv, hh, q1, q2, q3, q4⟩⟩ := h
  · injection hv with e1 e2 e3
    have hm0 : m = 0 := by omega
    subst hm0; subst e1; subst e3
    simpa using RowOk.nil w e sz
  · injection hv with e1 e2 e3
    subst e1; subst e2; subst e3
    have hle : m * sz ≤ n * sz := Nat.mul_le_mul_right _ hm
    have hl' : xs.length = n * sz := hl
    refine ⟨m, by simp only [List.length_take]; omega, .inr ⟨g', o, c, cur, rfl, hh, by omega, q2, q3, ?_⟩⟩
    have q4' : (cur.toList.drop o).take (n * sz) = xs := q4
    rw [← q4', List.take_take, Nat.min_eq_left hle]
theorem RowOk.tail {w : World} {A : Option Addr} {n c j : Nat} {e : TypeId} {sz : Nat} {xs : List Value} (h : RowOk w ⟨.slice A n c, e, sz, xs⟩) (hj : j ≤ n) : RowOk w ⟨.slice (if c = j then A else A.map (·.add (j * sz))) (n - j) (c - j), e, sz, xs.drop (j * sz)⟩ := by
  have h' := h
  obtain ⟨n', hl, ⟨hv, h0⟩ | ⟨g', o, cap, cur, hv, hh, q1, q2, q3, q4⟩⟩ := h
  · injection hv with e1 e2 e3
    have hj0 : j = 0 := by omega
    subst hj0; subst e1; subst e3; subst e2
    simpa using h'
  · injection hv with e1 e2 e3
    subst e1; subst e2; subst e3
    have hl' : xs.length = n * sz := hl
    have q4' : (cur.toList.drop o).take (n * sz) = xs := q4
    simp only at q3
    by_cases hc : c = j
    · subst hc
      have hnc : n = c := by omega
      subst hnc
      rw [if_pos rfl, Nat.sub_self]
      refine ⟨0, by simp; omega, .inr ⟨g', o, 0, cur, rfl, hh, Nat.le_refl _, Nat.zero_le _, by simp; omega, ?_⟩⟩
      simp; omega
    · rw [if_neg hc]
      simp only [Option.map_some, add_own]
      refine ⟨n - j, by simp [hl', Nat.sub_mul], .inr ⟨g', o + j * sz, c - j, cur, rfl, hh, by omega, by omega, ?_, ?_⟩⟩
      · have : j * sz ≤ c * sz := Nat.mul_le_mul_right _ (by omega)
        simp only [Nat.sub_mul]; omega
      · simp only
        rw [← q4', List.drop_take, List.drop_drop, Nat.sub_mul]
theorem Only.grown {w w' : World} {v : Value} (h : Only (fun k => rowB v = some k) w w') : w.grownBy w' (rowB v) := ⟨h.os, h.tape, h.output, h.size, fun k hk hne => h.block k hk (fun e => hne e.symm)⟩
theorem Weak.trans {st st' st'' : St} (h : Weak N b st st') (h' : Weak N b st' st'') : Weak N b st st'' := fun a w k => h' a w (h a w k)
theorem Wd.publish {T : Tl} {ρ : List Nat} {E : El} {R : List Row} {pub : Nat → Prop} {s w : World} (h : Wd b ⟨T, ρ, E, R, pub, s⟩ w) {j : Nat} {r : Row} (hj : R[j]? = some r) :
    Wd b ⟨T, ρ, E, R.eraseIdx j, fun k => pub k ∨ rowB r.v = some k, w⟩ w := by
  have h' := h.now
  obtain ⟨lj, hj1⟩ := List.getElem?_eq_some_iff.1 hj
  have hmem : r ∈ R := List.mem_of_getElem? hj
  obtain ⟨r1, r2⟩ := h.row r hmem
  have hp := List.pairwise_iff_getElem.1 h.rinj
  refine ⟨h'.below, Nat.le_refl _, fun k hk => ⟨?_, rfl⟩, h'.ent, fun i c t hi => ⟨(h.entN i c t hi).1, (h.entN i c t hi).2.1, fun hk => ?_⟩, h'.inj, fun q hq => ?_, h'.rinj.sublist (List.eraseIdx_sublist R j)⟩
  · rcases hk with hk | hk
    · exact (h'.pub k hk).1
    · exact r1.lt hk
  · rcases hk with hk | hk
    · exact (h.entN i c t hi).2.2 hk
    · exact (r2 _ hk).2.2 i (by show (lk E i).isSome = true; simp only at hi; rw [hi]; rfl) rfl
  · obtain ⟨i, li, hi, hi1⟩ := List.mem_eraseIdx_iff_getElem.1 hq
    obtain ⟨k1, k2⟩ := h.row q (by rw [← hi1]; exact List.getElem_mem _)
    refine ⟨k1, fun g hg => ⟨(k2 g hg).1, fun hk => ?_, (k2 g hg).2.2⟩⟩
    rcases hk with hk | hk
    · exact (k2 g hg).2.1 hk
    · rcases Nat.lt_or_gt_of_ne hi with hlt | hlt
      · exact hp i j (by omega) lj hlt g (by rw [hi1]; exact hg) (by rw [hj1]; exact hk)
      · exact hp j i lj (by omega) hlt g (by rw [hj1]; exact hk) (by rw [hi1]; exact hg)
end
end Go.Vc
namespace Go.Vc
open Go.RowKit
structure Sc where
  g : Int
  t : Tp
def RepS (S : Nat → Prop) (w : World) (s : Sc) (v : Value) : Prop := ∃ A c, v = .agg #[.int .i64 s.g, .int .i64 s.t.k, .int .i64 s.t.n, .slice A s.t.kids.length c] ∧ s.t.kids.length ≤ c ∧ s.t.kids.length ≤ LIM ∧ RepKs S w s.t.kids A 0
theorem RepS.to {S S' : Nat → Prop} {w w' : World} (hs : Same S w w') (hS : ∀ k, S k → k < w.heap.size → S' k) {s : Sc} {v : Value} (h : RepS S w s v) : RepS S' w' s v := by
  obtain ⟨A, c, e, h1, h2, h3⟩ := h
  exact ⟨A, c, e, h1, h2, h3.to hs hS⟩
end Go.Vc
namespace Go.Vc
open Go.RowKit
end Go.Vc


/- What may be read grows: calls that make memory, rows that are written no more. -/
namespace Go.Vc
open Go.RowKit
structure Step (b : Base) (pub : Nat → Prop) (s w : World) (pub' : Nat → Prop) (w' : World) : Prop where
  up : ∀ k, pub k → pub' k
  old : ∀ k, pub k → k < s.heap.size
  new : ∀ k, w.heap.size ≤ k → k < w'.heap.size → pub' k
  bk : ∀ k, pub' k → pub k ∨ b.mine k
  sm : Same pub s w'
  below : Below w.heap.size w w'
theorem Step.held {b : Base} {pub pub' : Nat → Prop} {s w w' : World} (h : Step b pub s w pub' w') {T : Tl} {ρ : List Nat} {E : El} {R : List Row} : HeldW pub s ⟨T, ρ, E, R, pub', w'⟩ := fun k hk => ⟨h.up k hk, h.sm k hk (h.old k hk)⟩
theorem Step.nw {b : Base} {pub pub' : Nat → Prop} {s w w' : World} (h : Step b pub s w pub' w') (k : Nat) (hk : ext pub w k) (hl : k < w'.heap.size) : pub' k := hk.elim (h.up k) fun h' => h.new k h' hl
theorem Step.fr {b : Base} {pub pub' S : Nat → Prop} {s w w' : World} (h : Step b pub s w pub' w') (hp : ∀ k, pub k → S k ∨ b.mine k) (k : Nat) (hk : pub' k) : S k ∨ b.mine k := (h.bk k hk).elim (hp k) .inr
theorem RepT.nw {b : Base} {pub pub' : Nat → Prop} {s w w' : World} {t : Tp} {v : Value} (h : RepT (ext pub w) w' t v) (st : Step b pub s w pub' w') : RepT pub' w' t v := h.to (Same.rfl' _ _) st.nw
theorem RepKs.nw {b : Base} {pub pub' : Nat → Prop} {s w w' : World} {t : List Tp} {A : Option Addr} {j : Nat} (h : RepKs (ext pub w) w' t A j) (st : Step b pub s w pub' w') : RepKs pub' w' t A j := h.to (Same.rfl' _ _) st.nw
theorem RepL.nw {b : Base} {pub pub' : Nat → Prop} {s w w' : World} {t : List Tp} {v : Value} (h : RepL (ext pub w) w' t v) (st : Step b pub s w pub' w') : RepL pub' w' t v := h.to (Same.rfl' _ _) st.nw
theorem RepS.nw {b : Base} {pub pub' : Nat → Prop} {s w w' : World} {t : Sc} {v : Value} (h : RepS (ext pub w) w' t v) (st : Step b pub s w pub' w') : RepS pub' w' t v := h.to (Same.rfl' _ _) st.nw
theorem RowOk.nw {b : Base} {pub pub' : Nat → Prop} {s w w' : World} {A : Option Addr} {n c : Nat} {e : TypeId} {sz : Nat} {xs : List Value} (h : RowOk w' ⟨.slice A n c, e, sz, xs⟩) (hge : ∀ k, rowB (.slice A n c) = Option.some k → w.heap.size ≤ k) (st : Step b pub s w pub' w') : Cells pub' w' A xs :=
  h.cells rfl _ fun q hq => st.new q (hge q hq) (h.lt hq)
section
variable {P : Program} {N : Nat} {b : Base}
theorem Wd.step {st : St} {w w' : World} (h : Wd b st w) (hb : Below w.heap.size w w') : Step b st.pub st.s w (extP st.pub w w') w' := by
  refine ⟨fun _ h => .inl h, fun k hk => (h.pub k hk).1, fun k h1 h2 => .inr ⟨h1, h2⟩, fun k hk => ?_, h.pass hb, hb⟩
  exact hk.elim .inl fun hk => .inr (.inr (Nat.le_trans h.below.size hk.1))
theorem Wd.pubN {T : Tl} {ρ : List Nat} {E : El} {R : List Row} {pub : Nat → Prop} {s w : World} (h : Wd b ⟨T, ρ, E, R, pub, s⟩ w) {j : Nat} {A : Option Addr} {n c : Nat} {e : TypeId} {sz : Nat} {xs : List Value} (hj : R[j]? = some ⟨.slice A n c, e, sz, xs⟩) :
    ∃ pub', Wd b ⟨T, ρ, E, R.eraseIdx j, pub', w⟩ w ∧ Step b pub s w pub' w ∧ Cells pub' w A xs := by
  obtain ⟨r1, r2⟩ := h.row _ (List.mem_of_getElem? hj)
  refine ⟨_, h.publish hj, ⟨fun k hk => .inl hk, fun k hk => (h.pub k hk).1, fun k h1 h2 => by omega, fun k hk => ?_, h.same, Below.refl _ _⟩, r1.cells rfl _ fun q hq => .inr hq⟩
  exact hk.elim .inl fun hk => .inr (r2 k hk).1
end
theorem mine0 {S : Nat → Prop} {w : World} {k : Nat} (h : S k ∨ Base.mine ⟨w, fun _ => False⟩ k) : ext S w k := h.elim .inl fun h => .inr (h.elim False.elim id)
theorem ends {S pub : Nat → Prop} {w : World} (h : ∀ k, pub k → S k ∨ Base.mine ⟨w, fun _ => False⟩ k) {s : World} (k : Nat) (hk : pub k) (_ : k < s.heap.size) : ext S w k := mine0 (h k hk)
end Go.Vc


/- Elements of rows; rows of zeros. -/
namespace Go.Vc
open Go.RowKit
theorem RowOk.ldA {P : Program} {w : World} {ad : Addr} {n c : Nat} {e : TypeId} {sz : Nat} {tn : TypeId} {ti : TI} (hi : TIok P tn ti) (hag : ti.agg = true) {xs l : List Value} (hl : l.length = ti.size) {k : Nat} (h : RowOk w ⟨.slice (Option.some ad) n c, e, sz, xs⟩) (hx : ∀ j v, l[j]? = Option.some v → xs[k + j]? = Option.some v) :
    (loadVar tn (ad.add k)).run P w = .ok (.agg l.toArray) w := by
  refine run_loadVar hi hl (fun j v hj => ?_) hag
  rw [add_add]
  exact h.cell (hx j v hj)
theorem RowOk.ldV {P : Program} {w : World} {ad : Addr} {n c : Nat} {e : TypeId} {sz : Nat} {tn : TypeId} {ti : TI} (hi : TIok P tn ti) (hag : ti.agg = false) {xs : List Value} {k : Nat} {v : Value} (h : RowOk w ⟨.slice (Option.some ad) n c, e, sz, xs⟩) (hx : xs[k]? = Option.some v) :
    (loadVar tn (ad.add k)).run P w = .ok v w := run_loadVar1 hi (h.cell hx) hag
def zeroT : Tp := .mk 0 0 []
mutual
def szT : Tp → Nat
  | .mk _ _ ks => szL ks + 1
def szL : List Tp → Nat
  | [] => 0
  | t :: r => szT t + szL r
end
theorem HeldW.trans {pub pub' : Nat → Prop} {s s' : World} {T : Tl} {ρ : List Nat} {E : El} {R : List Row} {st : St} (h : HeldW pub s ⟨T, ρ, E, R, pub', s'⟩) (h' : HeldW pub' s' st) : HeldW pub s st :=
  fun k hk => ⟨(h' k (h k hk).1).1, ((h' k (h k hk).1).2).trans (h k hk).2⟩
end Go.Vc


/- The number of draws never falls. -/
namespace Go.Vc
set_option linter.unusedVariables false
theorem exc_bind {ε α β : Type} {x : Except ε α} {f : α → Except ε β} {b : β} (h : (x >>= f) = .ok b) : ∃ a, x = .ok a ∧ f a = .ok b := by
  cases x with
  | error e => cases h
  | ok a => exact ⟨a, rfl, h⟩
def Kp (w : World) (r : Except String (World × List Addr)) : Prop := ∀ x, r = .ok x → x.1.drawn = w.drawn
theorem Kp.bind {α : Type} {w : World} {x : Except String α} {f : α → Except String (World × List Addr)} (h : ∀ a, Kp w (f a)) : Kp w (x >>= f) := by
  intro y hy
  obtain ⟨a, _, h2⟩ := exc_bind hy
  exact h a y h2
theorem Kp.throw {w : World} {e : String} : Kp w (.error e) := fun x hx => by cases hx
theorem Kp.pure {w w' : World} {l : List Addr} (h : w'.drawn = w.drawn) : Kp w (Pure.pure (w', l)) := fun x hx => by
  injection hx with hx; subst hx; exact h
theorem viewStore_kp (p : Program) (w : World) (at_ : Addr) (u : TypeId) (k : Addr) (v : Value) (b : Bool) : Kp w (w.viewStore p at_ u k v b) := by
  unfold World.viewStore
  dsimp only
  repeat' first | exact Kp.pure rfl | exact Kp.throw | (refine Kp.bind fun _ => ?_) | split
theorem viewStore_drawn {p : Program} {w w' : World} {at_ : Addr} {u : TypeId} {k : Addr} {v : Value} {b : Bool} {l : List Addr} (h : w.viewStore p at_ u k v b = .ok (w', l)) : w'.drawn = w.drawn :=
  viewStore_kp p w at_ u k v b _ h
theorem ask_drawn {α : Type} : ∀ (x : Ask α) (w : World), w.drawn ≤ (w.ask x).2.drawn
  | .done a, w => Nat.le_refl _
  | .ask what range k, w => by
    simp only [World.ask]
    split
    · exact ask_drawn _ w
    · exact Nat.le_trans (Nat.le_succ _) (ask_drawn (k _) { w with drawn := w.drawn + 1 })
theorem sys_drawn (w : World) (c : Sys) : w.drawn ≤ (w.sys c).2.drawn := by
  have h := ask_drawn (Kernel.perform c w.os) w
  unfold World.sys
  split
  · exact Nat.le_refl _
  · rename_i r os w1 he
    rw [he] at h
    exact h
def dle (n : Nat) {α : Type} : Result α → Prop
  | .ok _ w' => n ≤ w'.drawn
  | .halt _ w' => n ≤ w'.drawn
theorem run_dle {α : Type} (P : Program) (s : Sem α) : ∀ (w : World) (n : Nat), n ≤ w.drawn → dle n (s.run P w) := by
  induction s with
  | pure a => intro w n h; exact h
  | load m a k ih =>
    intro w n h
    simp only [Sem.run]
    split
    · exact ih _ _ _ h
    · split
      · exact ih _ _ _ h
      · exact h
  | store m a v k ih =>
    intro w n h
    have key : dle n (match w.cell? a with
        | some _ => if w.frozen? a then Result.halt (.unsupported (.unsafePointer "a write to bytes that a string shares")) w else k.run P (w.setCell a v)
        | none => match w.farStore P a v (m == .atomic) with
          | .ok (w, _) => k.run P w
          | .error h => .halt h w) := by
      split
      · split
        · exact h
        · exact ih _ _ h
      · split
        · rename_i w1 l he
          refine ih _ _ ?_
          unfold World.farStore at he
          split at he
          · split at he
            · rename_i r hv
              injection he with he
              subst he
              rw [viewStore_drawn hv]; exact h
            · cases he
          · cases he
        · exact h
    cases v <;> simp only [Sem.run] <;> first | exact h | exact key
  | new o k ih => intro w n h; simp only [Sem.run]; exact ih _ _ _ h
  | shape r k ih => intro w n h; simp only [Sem.run]; exact ih _ _ _ h
  | freeze a m k ih =>
    intro w n h
    simp only [Sem.run]
    have e : (w.freeze a m).drawn = w.drawn := by unfold World.freeze; first | rfl | (split <;> rfl) | (split <;> split <;> rfl)
    exact ih _ _ (by rw [e]; exact h)
  | frozen a k ih => intro w n h; simp only [Sem.run]; exact ih _ _ _ h
  | getObj r k ih =>
    intro w n h
    simp only [Sem.run]
    split
    · exact h
    · exact ih _ _ _ h
    · exact h
  | setObj r o k ih =>
    intro w n h
    simp only [Sem.run]
    split
    · exact h
    · exact ih _ _ h
    · exact h
  | choose q k ih =>
    intro w n h
    simp only [Sem.run]
    split
    · exact ih _ _ _ h
    · exact ih _ _ _ (Nat.le_trans h (Nat.le_succ _))
  | sys c k ih => intro w n h; simp only [Sem.run]; exact ih _ _ _ (Nat.le_trans h (sys_drawn w c))
  | program k ih => intro w n h; simp only [Sem.run]; exact ih _ _ _ h
  | mark m k ih => intro w n h; simp only [Sem.run]; exact ih _ _ h
  | halt hh => intro w n h; exact h
theorem run_drawn {α : Type} {P : Program} {s : Sem α} {w w' : World} {a : α} (h : s.run P w = .ok a w') : w.drawn ≤ w'.drawn := by
  have := run_dle P s w _ (Nat.le_refl _)
  rw [h] at this; exact this
end Go.Vc


/- Data without memory, and how it lies in memory. -/
namespace Go.Vx
open Go.RowKit Go.Vc
inductive D where
  | int (k : IntKind) (n : Int)
  | bool (b : Bool)
  | str (s : ByteArray)
  | sl (eb n : Nat) (cs : List D)
  | csl (eb n : Nat) (cs : List D)
  | ptr (cs : List D) (off : Nat)
  | fn (f : FuncId) (a b : List D)
  | ifc (t : TypeId) (x : D)
  | agg (l : List D)
  | tup (l : List D)
  | val (x : Value)
def LB : Nat := 140737488355328
mutual
def RepD (S : Nat → Prop) (w : World) : D → Value → Prop
  | .int k n, v => v = .int k n
  | .bool b, v => v = .bool b
  | .str s, v => v = .string s
  | .sl eb n cs, v => ∃ A c, v = .slice A n c ∧ n ≤ c ∧ n * eb ≤ LB ∧ (n ≠ 0 → ∃ ad, A = some ad) ∧ RepC S w cs A 0
  | .csl eb n cs, v => ∃ A, v = .slice A n n ∧ n * eb ≤ LB ∧ (n ≠ 0 → ∃ ad, A = some ad) ∧ RepC S w cs A 0
  | .ptr cs off, v => ∃ ad, v = .pointer (some (ad.add off)) ∧ RepC S w cs (some ad) 0
  | .fn f a b, v => ∃ a' b', v = .func (.func f) a' b' ∧ RepDs S w a a'.toList ∧ RepDs S w b b'.toList
  | .ifc t x, v => ∃ y, v = .iface t y ∧ RepD S w x y
  | .agg l, v => ∃ l', v = .agg l' ∧ RepDs S w l l'.toList
  | .tup l, v => ∃ l', v = .tuple l' ∧ RepDs S w l l'.toList
  | .val x, v => v = x
def RepC (S : Nat → Prop) (w : World) : List D → Option Addr → Nat → Prop
  | [], _, _ => True
  | x :: r, A, j => (∃ ad v, A = some ad ∧ S ad.block ∧ w.cell? (ad.add j) = some v ∧ RepD S w x v) ∧ RepC S w r A (j + 1)
def RepDs (S : Nat → Prop) (w : World) : List D → List Value → Prop
  | [], l => l = []
  | x :: r, l => ∃ v s, l = v :: s ∧ RepD S w x v ∧ RepDs S w r s
end
mutual
theorem RepD.to {S S' : Nat → Prop} {w w' : World} (hs : Same S w w') (hS : ∀ k, S k → k < w.heap.size → S' k) : ∀ {x : D} {v : Value}, RepD S w x v → RepD S' w' x v
  | .int k n, v, h => h
  | .bool b, v, h => h
  | .str s, v, h => h
  | .sl eb n cs, v, h => by
    simp only [RepD] at h ⊢
    obtain ⟨A, c, e, h1, h2, h4, h3⟩ := h
    exact ⟨A, c, e, h1, h2, h4, RepC.to hs hS h3⟩
  | .csl eb n cs, v, h => by
    simp only [RepD] at h ⊢
    obtain ⟨A, e, h2, h4, h3⟩ := h
    exact ⟨A, e, h2, h4, RepC.to hs hS h3⟩
  | .ptr cs off, v, h => by
    simp only [RepD] at h ⊢
    obtain ⟨ad, e, h3⟩ := h
    exact ⟨ad, e, RepC.to hs hS h3⟩
  | .fn f a b, v, h => by
    simp only [RepD] at h ⊢
    obtain ⟨a', b', e, h1, h2⟩ := h
    exact ⟨a', b', e, RepDs.to hs hS h1, RepDs.to hs hS h2⟩
  | .ifc t x, v, h => by
    simp only [RepD] at h ⊢
    obtain ⟨y, e, h1⟩ := h
    exact ⟨y, e, RepD.to hs hS h1⟩
  | .agg l, v, h => by
    simp only [RepD] at h ⊢
    obtain ⟨l', e, h1⟩ := h
    exact ⟨l', e, RepDs.to hs hS h1⟩
  | .tup l, v, h => by
    simp only [RepD] at h ⊢
    obtain ⟨l', e, h1⟩ := h
    exact ⟨l', e, RepDs.to hs hS h1⟩
  | .val x, v, h => h
theorem RepC.to {S S' : Nat → Prop} {w w' : World} (hs : Same S w w') (hS : ∀ k, S k → k < w.heap.size → S' k) : ∀ {l : List D} {A : Option Addr} {j : Nat}, RepC S w l A j → RepC S' w' l A j
  | [], _, _, _ => by simp only [RepC]
  | x :: r, A, j, h => by
    simp only [RepC] at h ⊢
    obtain ⟨⟨ad, v, e, h1, h2, h3⟩, h4⟩ := h
    refine ⟨⟨ad, v, e, ?_, hs.cell (by rw [add_block]; exact h1) h2, RepD.to hs hS h3⟩, RepC.to hs hS h4⟩
    have := World.block_lt_of_cell? w _ h2
    rw [add_block] at this
    exact hS _ h1 this
theorem RepDs.to {S S' : Nat → Prop} {w w' : World} (hs : Same S w w') (hS : ∀ k, S k → k < w.heap.size → S' k) : ∀ {l : List D} {l' : List Value}, RepDs S w l l' → RepDs S' w' l l'
  | [], _, h => by simpa only [RepDs] using h
  | x :: r, l', h => by
    simp only [RepDs] at h ⊢
    obtain ⟨v, s, e, h1, h2⟩ := h
    exact ⟨v, s, e, RepD.to hs hS h1, RepDs.to hs hS h2⟩
end
theorem RepDs.len {S : Nat → Prop} {w : World} : ∀ {l : List D} {l' : List Value}, RepDs S w l l' → l'.length = l.length
  | [], _, h => by simp only [RepDs] at h; subst h; rfl
  | x :: r, l', h => by
    simp only [RepDs] at h
    obtain ⟨v, s, rfl, h1, h2⟩ := h
    simp [RepDs.len h2]
theorem RepDs.get {S : Nat → Prop} {w : World} : ∀ {l : List D} {l' : List Value} {i : Nat} {x : D}, RepDs S w l l' → l[i]? = some x → ∃ v, l'[i]? = some v ∧ RepD S w x v
  | [], _, i, x, _, hi => by simp at hi
  | y :: r, l', i, x, h, hi => by
    simp only [RepDs] at h
    obtain ⟨v, s, rfl, h1, h2⟩ := h
    cases i with
    | zero => simp at hi; subst hi; exact ⟨v, rfl, h1⟩
    | succ i => simpa using RepDs.get h2 (by simpa using hi)
theorem RepDs.mk {S : Nat → Prop} {w : World} : ∀ {l : List D} {l' : List Value}, l'.length = l.length → (∀ (i : Nat) x v, l[i]? = some x → l'[i]? = some v → RepD S w x v) → RepDs S w l l'
  | [], l', h, _ => by simp only [RepDs]; exact List.eq_nil_of_length_eq_zero (by simpa using h)
  | x :: r, [], h, _ => by simp at h
  | x :: r, v :: s, h, hg => by
    simp only [RepDs]
    exact ⟨v, s, rfl, hg 0 x v rfl rfl, RepDs.mk (by simpa using h) fun i y u h1 h2 => hg (i + 1) y u (by simpa using h1) (by simpa using h2)⟩
theorem RepDs.app {S : Nat → Prop} {w : World} : ∀ {l m : List D} {l' m' : List Value}, RepDs S w l l' → RepDs S w m m' → RepDs S w (l ++ m) (l' ++ m')
  | [], m, l', m', h, h' => by simp only [RepDs] at h; subst h; exact h'
  | x :: r, m, l', m', h, h' => by
    simp only [RepDs] at h
    obtain ⟨v, s, rfl, h1, h2⟩ := h
    simp only [List.cons_append, RepDs]
    exact ⟨v, _, rfl, h1, RepDs.app h2 h'⟩
theorem RepDs.take {S : Nat → Prop} {w : World} {l : List D} {l' : List Value} (h : RepDs S w l l') (n : Nat) : RepDs S w (l.take n) (l'.take n) := by
  refine RepDs.mk (by simp [h.len]) fun i x v h1 h2 => ?_
  rw [List.getElem?_take] at h1 h2
  split at h1
  · rename_i hi
    rw [if_pos hi] at h2
    obtain ⟨u, e, hu⟩ := h.get h1
    rw [h2] at e; injection e with e; subst e; exact hu
  · cases h1
theorem RepDs.drop {S : Nat → Prop} {w : World} {l : List D} {l' : List Value} (h : RepDs S w l l') (n : Nat) : RepDs S w (l.drop n) (l'.drop n) := by
  refine RepDs.mk (by simp [h.len]) fun i x v h1 h2 => ?_
  rw [List.getElem?_drop] at h1 h2
  obtain ⟨u, e, hu⟩ := h.get h1
  rw [h2] at e; injection e with e; subst e; exact hu
theorem RepC.get {S : Nat → Prop} {w : World} : ∀ {l : List D} {A : Option Addr} {j i : Nat} {x : D}, RepC S w l A j → l[i]? = some x → ∃ ad v, A = some ad ∧ S ad.block ∧ w.cell? (ad.add (j + i)) = some v ∧ RepD S w x v
  | [], _, _, i, x, _, hi => by simp at hi
  | y :: r, A, j, i, x, h, hi => by
    simp only [RepC] at h
    cases i with
    | zero => simp at hi; subst hi; exact h.1
    | succ i =>
      have := RepC.get h.2 (i := i) (by simpa using hi)
      rwa [show j + 1 + i = j + (i + 1) from by omega] at this
theorem RepC.cells {S : Nat → Prop} {w : World} : ∀ {l : List D} {ad : Addr} {j : Nat}, RepC S w l (some ad) j → ∃ xs, RepDs S w l xs ∧ ∀ (i : Nat) v, xs[i]? = some v → S ad.block ∧ w.cell? (ad.add (j + i)) = some v
  | [], ad, j, h => ⟨[], by simp only [RepDs], fun i v hv => by simp at hv⟩
  | x :: r, ad, j, h => by
    simp only [RepC] at h
    obtain ⟨⟨ad', v, e, h1, h2, h3⟩, h4⟩ := h
    injection e with e; subst e
    obtain ⟨xs, k1, k2⟩ := RepC.cells h4
    refine ⟨v :: xs, by simp only [RepDs]; exact ⟨v, xs, rfl, h3, k1⟩, fun i u hu => ?_⟩
    cases i with
    | zero => simp at hu; subst hu; exact ⟨h1, h2⟩
    | succ i =>
      have := k2 i u (by simpa using hu)
      rwa [show j + 1 + i = j + (i + 1) from by omega] at this
theorem RepC.cells0 {S : Nat → Prop} {w : World} {l : List D} {A : Option Addr} (h : RepC S w l A 0) : ∃ xs, RepDs S w l xs ∧ Cells S w A xs := by
  cases l with
  | nil => exact ⟨[], by simp only [RepDs], .inl rfl⟩
  | cons x r =>
    have h' := h
    simp only [RepC] at h'
    obtain ⟨⟨ad, v, rfl, h1, _⟩, _⟩ := h'
    obtain ⟨xs, k1, k2⟩ := h.cells
    exact ⟨xs, k1, .inr ⟨ad, rfl, h1, fun i v hv => by have := (k2 i v hv).2; simpa using this⟩⟩
theorem RepC.of {S : Nat → Prop} {w : World} {A : Option Addr} : ∀ {l : List D} {xs : List Value} {j : Nat}, RepDs S w l xs → (∀ (i : Nat) v, xs[i]? = some v → ∃ ad, A = some ad ∧ S ad.block ∧ w.cell? (ad.add (j + i)) = some v) → RepC S w l A j
  | [], _, _, _, _ => by simp only [RepC]
  | x :: r, xs, j, h, hc => by
    simp only [RepDs] at h
    obtain ⟨v, s, rfl, h1, h2⟩ := h
    simp only [RepC]
    obtain ⟨ad, e, hs, h0⟩ := hc 0 v rfl
    refine ⟨⟨ad, v, e, hs, h0, h1⟩, RepC.of h2 fun i u hu => ?_⟩
    have := hc (i + 1) u (by simpa using hu)
    rwa [show j + (i + 1) = j + 1 + i from by omega] at this
theorem RepC.ofCells {S : Nat → Prop} {w : World} {A : Option Addr} {l : List D} {xs : List Value} (h : RepDs S w l xs) (hc : Cells S w A xs) : RepC S w l A 0 := by
  refine RepC.of h fun i v hv => ?_
  rcases hc with hc | ⟨ad, rfl, h1, h2⟩
  · subst hc; simp at hv
  · exact ⟨ad, rfl, h1, by have := h2 i v hv; simpa using this⟩
theorem RepC.drop {S : Nat → Prop} {w : World} {l : List D} {ad : Addr} (h : RepC S w l (some ad) 0) (k : Nat) : RepC S w (l.drop k) (some (ad.add k)) 0 := by
  obtain ⟨xs, h1, h2⟩ := h.cells
  refine RepC.of (h1.drop k) fun i v hv => ⟨_, rfl, ?_⟩
  rw [List.getElem?_drop] at hv
  have := h2 _ v hv
  rw [add_block, add_add]
  simpa using this
theorem RepC.take {S : Nat → Prop} {w : World} {l : List D} {A : Option Addr} {j : Nat} (h : RepC S w l A j) (k : Nat) : RepC S w (l.take k) A j := by
  induction l generalizing j k with
  | nil => simp [RepC]
  | cons x r ih =>
    cases k with
    | zero => simp [RepC]
    | succ k =>
      simp only [RepC, List.take_succ_cons] at h ⊢
      exact ⟨h.1, ih h.2 k⟩
inductive SV where
  | d (x : D)
  | kb (b : Bool)
  | own (i off : Nat)
  | row (i : Nat)
  | rowp (i off : Nat)
  | nm (i : Nat)
  | osl (i n : Nat)
  | agg (l : List SV)
  | tup (l : List SV)
  | fn (f : FuncId) (a b : List SV)
  | ifc (t : TypeId) (x : SV)
  | nl
  | any
structure Env where
  m : List Value
  pub : Nat → Prop
mutual
def RepSV (e : Env) (w : World) : SV → Value → Prop
  | .d x, v => RepD e.pub w x v
  | .kb b, v => v = .bool b
  | .own i off, v => ∃ g, e.m[i]? = some (.pointer (some ⟨g, 0, none⟩)) ∧ v = .pointer (some ⟨g, off, none⟩)
  | .row i, v => ∃ A n c, v = .slice A n c ∧ e.m[i]? = some v
  | .rowp i off, v => ∃ ad n c, e.m[i]? = some (.slice (some ad) n c) ∧ v = .pointer (some (ad.add off))
  | .nm i, v => ∃ g, v = .map (some g) ∧ e.m[i]? = some v
  | .osl i n, v => ∃ g, e.m[i]? = some (.pointer (some ⟨g, 0, none⟩)) ∧ v = .slice (some ⟨g, 0, none⟩) n n
  | .agg l, v => ∃ l', v = .agg l' ∧ RepSVs e w l l'.toList
  | .tup l, v => ∃ l', v = .tuple l' ∧ RepSVs e w l l'.toList
  | .fn f a b, v => ∃ a' b', v = .func (.func f) a' b' ∧ RepSVs e w a a'.toList ∧ RepSVs e w b b'.toList
  | .ifc t x, v => ∃ y, v = .iface t y ∧ RepSV e w x y
  | .nl, v => v = .slice none 0 0
  | .any, _ => True
def RepSVs (e : Env) (w : World) : List SV → List Value → Prop
  | [], l => l = []
  | x :: r, l => ∃ v s, l = v :: s ∧ RepSV e w x v ∧ RepSVs e w r s
end
structure Kept (e : Env) (w : World) (e' : Env) (w' : World) : Prop where
  m : ∀ (i : Nat) v, e.m[i]? = some v → e'.m[i]? = some v
  pub : ∀ k, e.pub k → e'.pub k
  same : Same e.pub w w'
  sz : w.heap.size ≤ w'.heap.size
theorem Kept.refl (e : Env) (w : World) : Kept e w e w := ⟨fun _ _ h => h, fun _ h => h, Same.rfl' _ _, Nat.le_refl _⟩
theorem Kept.trans {e e1 e2 : Env} {w w1 w2 : World} (h : Kept e w e1 w1) (h' : Kept e1 w1 e2 w2) : Kept e w e2 w2 :=
  ⟨fun i v hi => h'.m i v (h.m i v hi), fun k hk => h'.pub k (h.pub k hk), fun k hk hl => by rw [h'.same k (h.pub k hk) (Nat.lt_of_lt_of_le hl h.sz), h.same k hk hl], Nat.le_trans h.sz h'.sz⟩
theorem RepD.kept {e e' : Env} {w w' : World} (h : Kept e w e' w') {x : D} {v : Value} (hx : RepD e.pub w x v) : RepD e'.pub w' x v := hx.to h.same fun k hk _ => h.pub k hk
theorem RepDs.kept {e e' : Env} {w w' : World} (h : Kept e w e' w') {x : List D} {v : List Value} (hx : RepDs e.pub w x v) : RepDs e'.pub w' x v := hx.to h.same fun k hk _ => h.pub k hk
mutual
theorem RepSV.kept {e e' : Env} {w w' : World} (h : Kept e w e' w') : ∀ {x : SV} {v : Value}, RepSV e w x v → RepSV e' w' x v
  | .d x, v, hx => by simp only [RepSV] at hx ⊢; exact RepD.kept h hx
  | .kb b, v, hx => hx
  | .own i off, v, hx => by
    simp only [RepSV] at hx ⊢
    obtain ⟨g, h1, h2⟩ := hx
    exact ⟨g, h.m _ _ h1, h2⟩
  | .row i, v, hx => by
    simp only [RepSV] at hx ⊢
    obtain ⟨A, n, c, h1, h2⟩ := hx
    exact ⟨A, n, c, h1, h.m _ _ h2⟩
  | .rowp i off, v, hx => by
    simp only [RepSV] at hx ⊢
    obtain ⟨ad, n, c, h1, h2⟩ := hx
    exact ⟨ad, n, c, h.m _ _ h1, h2⟩
  | .agg l, v, hx => by
    simp only [RepSV] at hx ⊢
    obtain ⟨l', e, h1⟩ := hx
    exact ⟨l', e, RepSVs.kept h h1⟩
  | .tup l, v, hx => by
    simp only [RepSV] at hx ⊢
    obtain ⟨l', e, h1⟩ := hx
    exact ⟨l', e, RepSVs.kept h h1⟩
  | .fn f a b, v, hx => by
    simp only [RepSV] at hx ⊢
    obtain ⟨a', b', e, h1, h2⟩ := hx
    exact ⟨a', b', e, RepSVs.kept h h1, RepSVs.kept h h2⟩
  | .ifc t x, v, hx => by
    simp only [RepSV] at hx ⊢
    obtain ⟨y, e, h1⟩ := hx
    exact ⟨y, e, RepSV.kept h h1⟩
  | .osl i n, v, hx => by
    simp only [RepSV] at hx ⊢
    obtain ⟨g, h1, h2⟩ := hx
    exact ⟨g, h.m _ _ h1, h2⟩
  | .nm i, v, hx => by
    simp only [RepSV] at hx ⊢
    obtain ⟨g, h1, h2⟩ := hx
    exact ⟨g, h1, h.m _ _ h2⟩
  | .nl, v, hx => hx
  | .any, v, hx => by simp only [RepSV]
theorem RepSVs.kept {e e' : Env} {w w' : World} (h : Kept e w e' w') : ∀ {l : List SV} {l' : List Value}, RepSVs e w l l' → RepSVs e' w' l l'
  | [], _, hx => by simpa only [RepSVs] using hx
  | x :: r, l', hx => by
    simp only [RepSVs] at hx ⊢
    obtain ⟨v, s, e, h1, h2⟩ := hx
    exact ⟨v, s, e, RepSV.kept h h1, RepSVs.kept h h2⟩
end
theorem RepSVs.len {e : Env} {w : World} : ∀ {l : List SV} {l' : List Value}, RepSVs e w l l' → l'.length = l.length
  | [], _, h => by simp only [RepSVs] at h; subst h; rfl
  | x :: r, l', h => by
    simp only [RepSVs] at h
    obtain ⟨v, s, rfl, h1, h2⟩ := h
    simp [RepSVs.len h2]
theorem RepSVs.get {e : Env} {w : World} : ∀ {l : List SV} {l' : List Value} {i : Nat} {x : SV}, RepSVs e w l l' → l[i]? = some x → ∃ v, l'[i]? = some v ∧ RepSV e w x v
  | [], _, i, x, _, hi => by simp at hi
  | y :: r, l', i, x, h, hi => by
    simp only [RepSVs] at h
    obtain ⟨v, s, rfl, h1, h2⟩ := h
    cases i with
    | zero => simp at hi; subst hi; exact ⟨v, rfl, h1⟩
    | succ i => simpa using RepSVs.get h2 (by simpa using hi)
theorem RepSVs.mk {e : Env} {w : World} : ∀ {l : List SV} {l' : List Value}, l'.length = l.length → (∀ (i : Nat) x v, l[i]? = some x → l'[i]? = some v → RepSV e w x v) → RepSVs e w l l'
  | [], l', h, _ => by simp only [RepSVs]; exact List.eq_nil_of_length_eq_zero (by simpa using h)
  | x :: r, [], h, _ => by simp at h
  | x :: r, v :: s, h, hg => by
    simp only [RepSVs]
    exact ⟨v, s, rfl, hg 0 x v rfl rfl, RepSVs.mk (by simpa using h) fun i y u h1 h2 => hg (i + 1) y u (by simpa using h1) (by simpa using h2)⟩
theorem RepSVs.app {e : Env} {w : World} : ∀ {l m : List SV} {l' m' : List Value}, RepSVs e w l l' → RepSVs e w m m' → RepSVs e w (l ++ m) (l' ++ m')
  | [], m, l', m', h, h' => by simp only [RepSVs] at h; subst h; exact h'
  | x :: r, m, l', m', h, h' => by
    simp only [RepSVs] at h
    obtain ⟨v, s, rfl, h1, h2⟩ := h
    simp only [List.cons_append, RepSVs]
    exact ⟨v, _, rfl, h1, RepSVs.app h2 h'⟩
theorem RepSVs.ofD {e : Env} {w : World} : ∀ {l : List D} {l' : List Value}, RepDs e.pub w l l' ↔ RepSVs e w (l.map .d) l'
  | [], l' => by simp [RepDs, RepSVs]
  | x :: r, l' => by
    simp only [RepDs, List.map_cons, RepSVs, RepSV]
    constructor
    · rintro ⟨v, s, h1, h2, h3⟩; exact ⟨v, s, h1, h2, RepSVs.ofD.1 h3⟩
    · rintro ⟨v, s, h1, h2, h3⟩; exact ⟨v, s, h1, h2, RepSVs.ofD.2 h3⟩
end Go.Vx


/- States over data; what a state says of a machine's state; how it goes on. -/
namespace Go.Vx
open Go.RowKit Go.Vc
abbrev Tl := List (Nat × SV)
structure AbP where
  φ : (Nat → Prop) → World → Value → Obj → Prop
  up : ∀ {S S' : Nat → Prop} {w w' : World} {v : Value} {o : Obj}, φ S w v o → Same S w w' → (∀ k, S k → k < w.heap.size → S' k) → φ S' w' v o
def abP (φ : Value → Obj → Prop) : AbP := ⟨fun _ _ v o => φ v o, fun h _ _ => h⟩
inductive Ob where
  | blk (t : TypeId) (cs : List SV)
  | row (t : TypeId) (eb sz n : Nat) (xs : List D)
  | ab (φ : AbP)
abbrev Hp := List (Nat × Ob)
structure St where
  T : Tl
  H : Hp
  n : Nat
structure Glob where
  p : (Nat → Prop) → World → Prop
  mono : ∀ {S S' : Nat → Prop} {w w' : World}, p S w → Same S w w' → (∀ k, S k → S' k) → w.heap.size ≤ w'.heap.size → p S' w'
  /-- How a world goes on: what is asked of it beside (that draws are counted, or nothing). -/
  d : World → World → Prop
  dt : ∀ {a b c : World}, d a b → d b c → d a c
  dm : ∀ {a b : World}, a.drawn ≤ b.drawn → d a b
structure Bs (G : Glob) (n0 : Nat) where
  w : World
  S : Nat → Prop
  M : Nat → Prop
  m : List Value
  hm : m.length = n0
  ds : List Deferred := []
def Bs.mine {G : Glob} {n0 : Nat} (b : Bs G n0) (k : Nat) : Prop := b.M k ∨ b.w.heap.size ≤ k
def footB : Value → Option Nat
  | .pointer (some a) => some a.block
  | .slice (some a) _ _ => some a.block
  | .map (some b) => some b
  | _ => none
def foot (e : Env) (i k : Nat) : Prop := ∃ v, e.m[i]? = some v ∧ footB v = some k
theorem footB_slice (A : Option Addr) (n c : Nat) : footB (.slice A n c) = rowB (.slice A n c) := by cases A <;> rfl
def ObOk (e : Env) (w : World) (i : Nat) : Ob → Prop
  | .blk t cs => ∃ g vs, e.m[i]? = some (.pointer (some ⟨g, 0, none⟩)) ∧ w.heap[g]? = some (.cells vs t (0, 0)) ∧ RepSVs e w cs vs.toList
  | .row t eb sz n xs => ∃ A c vs, e.m[i]? = some (.slice A n c) ∧ RowOk w ⟨.slice A n c, t, sz, vs⟩ ∧ RepDs e.pub w xs vs ∧ n * eb ≤ LB
  | .ab φ => ∃ v g o, e.m[i]? = some v ∧ footB v = some g ∧ (∀ A n c, v ≠ .slice A n c) ∧ w.heap[g]? = some o ∧ φ.φ e.pub w v o
def has (H : Hp) (i : Nat) : Prop := (lk H i).isSome = true
structure HpOk (e : Env) (w : World) (H : Hp) : Prop where
  ob : ∀ i o, lk H i = some o → ObOk e w i o
  sep : ∀ i j k, has H i → has H j → i ≠ j → foot e i k → ¬ foot e j k
  npub : ∀ i k, has H i → foot e i k → ¬ e.pub k
  pubLt : ∀ k, e.pub k → k < w.heap.size
theorem ObOk.lt {e : Env} {w : World} {i : Nat} {o : Ob} (h : ObOk e w i o) {k : Nat} (hk : foot e i k) : k < w.heap.size := by
  obtain ⟨v, hv, hf⟩ := hk
  cases o with
  | blk t cs =>
    obtain ⟨g, vs, h1, h2, _⟩ := h
    rw [h1] at hv; injection hv with hv; subst hv
    injection hf with hf; subst hf
    exact (Array.getElem?_eq_some_iff.1 h2).1
  | row t eb sz n xs =>
    obtain ⟨A, c, vs, h1, h2, _⟩ := h
    rw [h1] at hv; injection hv with hv; subst hv
    rw [footB_slice] at hf
    exact h2.lt hf
  | ab φ =>
    obtain ⟨v', g, o, h1, h2, _, h3, _⟩ := h
    rw [h1] at hv; injection hv with hv; subst hv
    rw [h2] at hf; injection hf with hf; subst hf
    exact (Array.getElem?_eq_some_iff.1 h3).1
theorem HpOk.lt {e : Env} {w : World} {H : Hp} (h : HpOk e w H) {i k : Nat} (hi : has H i) (hk : foot e i k) : k < w.heap.size := by
  obtain ⟨o, ho⟩ := Option.isSome_iff_exists.1 hi
  exact (h.ob i o ho).lt hk
structure Pre {G : Glob} {n0 : Nat} (b : Bs G n0) (e : Env) : Prop where
  m : ∀ (i : Nat) v, b.m[i]? = some v → (∀ A n c, v ≠ .slice A n c) → e.m[i]? = some v
  le : b.m.length ≤ e.m.length
  up : ∀ k, b.S k → e.pub k
structure Ok {G : Glob} {n0 : Nat} (b : Bs G n0) (N : Nat) (e : Env) (st : St) (a : Act) (w : World) : Prop where
  sz : a.tmps.size = N
  df : a.defers = b.ds
  len : e.m.length = st.n
  tm : ∀ t sv, lk st.T t = some sv → RepSV e w sv (a.tmps.getD t undef)
  hp : HpOk e w st.H
  below : Only b.M b.w w
  dr : G.d b.w w
  mine : ∀ i k, has st.H i → foot e i k → b.mine k
  frm : ∀ k, e.pub k → b.S k ∨ b.mine k
  pre : Pre b e
  gl : G.p e.pub w
section
variable {G : Glob} {n0 : Nat} {b : Bs G n0} {N : Nat} {e : Env} {st : St} {a : Act} {w : World}
theorem Ok.drew (h : Ok b N e st a w) : Ok b N e st a { w with drawn := w.drawn + 1 } := by
  have kw : Kept e w e { w with drawn := w.drawn + 1 } := ⟨fun _ _ h => h, fun _ h => h, fun _ _ _ => rfl, Nat.le_refl _⟩
  refine ⟨h.sz, h.df, h.len, fun t sv ht => (h.tm t sv ht).kept kw, ⟨fun i o ho => ?_, h.hp.sep, h.hp.npub, h.hp.pubLt⟩, ⟨h.below.os, h.below.tape, h.below.output, h.below.size, h.below.block⟩, G.dt h.dr (G.dm (Nat.le_succ _)), h.mine, h.frm, h.pre, G.mono h.gl kw.same kw.pub (Nat.le_refl _)⟩
  have := h.hp.ob i o ho
  cases o with
  | blk t cs =>
    obtain ⟨g, vs, h1, h2, h3⟩ := this
    exact ⟨g, vs, h1, h2, h3.kept kw⟩
  | row t eb sz n xs =>
    obtain ⟨A, c, vs, h1, h2, h3, h4⟩ := this
    exact ⟨A, c, vs, h1, h2.keep fun _ _ => rfl, h3.kept kw, h4⟩
  | ab φ =>
    obtain ⟨v', g, o, h1, h2, h3, h4, h5⟩ := this
    exact ⟨v', g, o, h1, h2, h3, h4, φ.up h5 kw.same fun k hk _ => hk⟩
theorem Ok.put (h : Ok b N e st a w) {d : Nat} {sv : SV} {v : Value} (hd : d < N) (hv : RepSV e w sv v) : Ok b N e ⟨(d, sv) :: st.T, st.H, st.n⟩ (a.put (some d) v) w := by
  refine ⟨by simp [Act.put, h.sz], h.df, h.len, fun t sv' ht => ?_, h.hp, h.below, h.dr, h.mine, h.frm, h.pre, h.gl⟩
  rw [put_get a d t _ (by rw [h.sz]; exact hd)]
  simp only [lk] at ht
  split at ht
  · rename_i e
    rw [if_pos (nbeq.1 e)]
    injection ht with ht; subst ht; exact hv
  · rename_i e
    rw [if_neg (nbeq_ne.1 e)]
    exact h.tm t sv' ht
def putK (N : Nat) (dst : Option Tmp) (sv : SV) (st : St) (K : St → Prop) : Prop :=
  match dst with
  | none => K st
  | some d => match Nat.blt d N, st with
    | true, ⟨T, H, n⟩ => K ⟨(d, sv) :: T, H, n⟩
    | false, _ => False
theorem putK_sound {dst : Option Tmp} {sv : SV} {K : St → Prop} {v : Value} (h : Ok b N e st a w) (hv : RepSV e w sv v) (hk : putK N dst sv st K) : ∃ st', Ok b N e st' (a.put dst v) w ∧ K st' ∧ st'.H = st.H := by
  unfold putK at hk
  split at hk
  · exact ⟨st, h, hk, rfl⟩
  · rename_i d
    split at hk
    · rename_i T H n hd
      rw [Nat.blt_eq] at hd
      exact ⟨_, h.put hd hv, hk, rfl⟩
    · exact hk.elim
theorem Ok.addOb (h : Ok b N e st a w) {w' : World} {v : Value} {o : Ob} (hb : Below w.heap.size w w') (hd : w.drawn ≤ w'.drawn) (hf : ∀ k, footB v = some k → w.heap.size ≤ k) (ho : ∀ e' : Env, Kept e w e' w' → e'.m[st.n]? = some v → ObOk e' w' st.n o) :
    ∃ e', Ok b N e' ⟨st.T, (st.n, o) :: st.H, st.n + 1⟩ a w' ∧ Kept e w e' w' ∧ e'.m[st.n]? = some v ∧ e'.pub = e.pub := by
  have hm : ∀ (i : Nat) (u : Value), e.m[i]? = some u → (e.m ++ [v])[i]? = some u := fun i u hi => by
    rw [List.getElem?_append_left (List.getElem?_eq_some_iff.1 hi).1]; exact hi
  have hn : (e.m ++ [v])[st.n]? = some v := by rw [← h.len]; simp
  have kw : Kept e w ⟨e.m ++ [v], e.pub⟩ w' := ⟨hm, fun _ h => h, same_of_below hb _, hb.size⟩
  have hft : ∀ i k, has st.H i → foot ⟨e.m ++ [v], e.pub⟩ i k → foot e i k := by
    rintro i k hi ⟨u, h1, h2⟩
    obtain ⟨o', ho'⟩ := Option.isSome_iff_exists.1 hi
    have : ∃ u', e.m[i]? = some u' := by
      have := h.hp.ob i o' ho'
      cases o' with
      | blk t cs => obtain ⟨g, vs, h1, _⟩ := this; exact ⟨_, h1⟩
      | row t eb sz n xs => obtain ⟨A, c, vs, h1, _⟩ := this; exact ⟨_, h1⟩
      | ab φ => obtain ⟨v', g, o, h1, _⟩ := this; exact ⟨_, h1⟩
    obtain ⟨u', hu'⟩ := this
    have h1 : (e.m ++ [v])[i]? = some u := h1
    rw [hm i u' hu'] at h1; injection h1 with h1; subst h1
    exact ⟨_, hu', h2⟩
  have hnew : ∀ k, foot ⟨e.m ++ [v], e.pub⟩ st.n k → w.heap.size ≤ k := by
    rintro k ⟨u, h1, h2⟩
    have h1 : (e.m ++ [v])[st.n]? = some u := h1
    rw [hn] at h1; injection h1 with h1; subst h1; exact hf k h2
  have hsz := hb.size
  have hold : ∀ i, has ((st.n, o) :: st.H) i → i = st.n ∨ (has st.H i) := by
    intro i hi
    unfold has at hi
    simp only [lk] at hi
    split at hi
    · rename_i e'; exact .inl (nbeq.1 e').symm
    · exact .inr hi
  refine ⟨⟨e.m ++ [v], e.pub⟩, ⟨h.sz, h.df, by simp [h.len], fun t sv ht => (h.tm t sv ht).kept kw, ⟨fun i o' ho' => ?_, fun i j k hi hj hne h1 h2 => ?_, fun i k hi h1 h2 => ?_, fun k hk => Nat.lt_of_lt_of_le (h.hp.pubLt k hk) hsz⟩, h.below.trans (Only.of_below hb), G.dt h.dr (G.dm hd), fun i k hi h1 => ?_, h.frm, ⟨fun i v hi hv => hm i v (h.pre.m i v hi hv), by simp; have := h.pre.le; omega, h.pre.up⟩, G.mono h.gl kw.same kw.pub hsz⟩, kw, hn, rfl⟩
  · simp only [lk] at ho'
    split at ho'
    · rename_i e'
      obtain rfl := nbeq.1 e'
      injection ho' with ho'; subst ho'
      exact ho _ kw hn
    · have hlt : ∀ {k}, foot e i k → k < w.heap.size := fun hk => (h.hp.ob i o' ho').lt hk
      have := h.hp.ob i o' ho'
      cases o' with
      | blk t cs =>
        obtain ⟨g, vs, h1, h2, h3⟩ := this
        exact ⟨g, vs, hm _ _ h1, by rw [hb.block g (hlt ⟨_, h1, rfl⟩)]; exact h2, h3.kept kw⟩
      | row t eb sz n xs =>
        obtain ⟨A, c, vs, h1, h2, h3, h4⟩ := this
        exact ⟨A, c, vs, hm _ _ h1, h2.keep fun g hg => hb.block g (h2.lt hg), h3.kept kw, h4⟩
      | ab φ =>
        obtain ⟨v', g, o, h1, h2, h3, h4, h5⟩ := this
        exact ⟨v', g, o, hm _ _ h1, h2, h3, by rw [hb.block g (hlt ⟨_, h1, h2⟩)]; exact h4, φ.up h5 kw.same fun k hk _ => hk⟩
  · rcases hold i hi with rfl | hi' <;> rcases hold j hj with rfl | hj'
    · exact hne rfl
    · have := hnew k h1
      have := h.hp.lt hj' (hft j k hj' h2); omega
    · have := hnew k h2
      have := h.hp.lt hi' (hft i k hi' h1); omega
    · exact h.hp.sep i j k hi' hj' hne (hft i k hi' h1) (hft j k hj' h2)
  · rcases hold i hi with rfl | hi'
    · have := hnew k h1
      have := h.hp.pubLt k h2; omega
    · exact h.hp.npub i k hi' (hft i k hi' h1) h2
  · rcases hold i hi with rfl | hi'
    · exact .inr (Nat.le_trans h.below.size (hnew k h1))
    · exact h.mine i k hi' (hft i k hi' h1)
end
mutual
def scrub (r : Nat → Bool) : SV → SV
  | .row i => match r i with
    | true => .any
    | false => .row i
  | .rowp i o => match r i with
    | true => .any
    | false => .rowp i o
  | .nm i => .nm i
  | .osl i n => .osl i n
  | .agg l => .agg (scrubs r l)
  | .tup l => .tup (scrubs r l)
  | .fn f a b => .fn f (scrubs r a) (scrubs r b)
  | .ifc t x => .ifc t (scrub r x)
  | .d x => .d x
  | .kb b => .kb b
  | .own i o => .own i o
  | .nl => .nl
  | .any => .any
def scrubs (r : Nat → Bool) : List SV → List SV
  | [] => []
  | x :: l => scrub r x :: scrubs r l
end
mutual
theorem RepSV.scrub {e e' : Env} {w w' : World} {r : Nat → Bool} (hm : ∀ (i : Nat) v, e.m[i]? = some v → (∀ A n c, v = .slice A n c → r i = false) → e'.m[i]? = some v) (hp : ∀ k, e.pub k → e'.pub k) (hs : Same e.pub w w') : ∀ {x : SV} {v : Value}, RepSV e w x v → RepSV e' w' (scrub r x) v
  | .d x, v, hx => by simp only [Vx.scrub, RepSV] at hx ⊢; exact hx.to hs fun k hk _ => hp k hk
  | .kb b, v, hx => by simpa only [Vx.scrub, RepSV] using hx
  | .own i off, v, hx => by
    simp only [Vx.scrub, RepSV] at hx ⊢
    obtain ⟨g, h1, h2⟩ := hx
    exact ⟨g, hm i _ h1 (fun _ _ _ h => by cases h), h2⟩
  | .row i, v, hx => by
    simp only [Vx.scrub]
    split
    · simp only [RepSV]
    · rename_i hr
      simp only [RepSV] at hx ⊢
      obtain ⟨A, n, c, h1, h2⟩ := hx
      exact ⟨A, n, c, h1, hm i _ h2 (fun _ _ _ _ => hr)⟩
  | .rowp i off, v, hx => by
    simp only [Vx.scrub]
    split
    · simp only [RepSV]
    · rename_i hr
      simp only [RepSV] at hx ⊢
      obtain ⟨ad, n, c, h1, h2⟩ := hx
      exact ⟨ad, n, c, hm i _ h1 (fun _ _ _ _ => hr), h2⟩
  | .agg l, v, hx => by
    simp only [Vx.scrub, RepSV] at hx ⊢
    obtain ⟨l', e, h1⟩ := hx
    exact ⟨l', e, RepSVs.scrub hm hp hs h1⟩
  | .tup l, v, hx => by
    simp only [Vx.scrub, RepSV] at hx ⊢
    obtain ⟨l', e, h1⟩ := hx
    exact ⟨l', e, RepSVs.scrub hm hp hs h1⟩
  | .fn f a b, v, hx => by
    simp only [Vx.scrub, RepSV] at hx ⊢
    obtain ⟨a', b', e, h1, h2⟩ := hx
    exact ⟨a', b', e, RepSVs.scrub hm hp hs h1, RepSVs.scrub hm hp hs h2⟩
  | .ifc t x, v, hx => by
    simp only [Vx.scrub, RepSV] at hx ⊢
    obtain ⟨y, e, h1⟩ := hx
    exact ⟨y, e, RepSV.scrub hm hp hs h1⟩
  | .osl i n, v, hx => by
    simp only [Vx.scrub, RepSV] at hx ⊢
    obtain ⟨g, h1, h2⟩ := hx
    exact ⟨g, hm i _ h1 (fun _ _ _ h => by cases h), h2⟩
  | .nm i, v, hx => by
    simp only [Vx.scrub, RepSV] at hx ⊢
    obtain ⟨g, h1, h2⟩ := hx
    exact ⟨g, h1, hm i v h2 fun A n c h => by rw [h1] at h; cases h⟩
  | .nl, v, hx => by simpa only [Vx.scrub, RepSV] using hx
  | .any, v, hx => by simp only [Vx.scrub, RepSV]
theorem RepSVs.scrub {e e' : Env} {w w' : World} {r : Nat → Bool} (hm : ∀ (i : Nat) v, e.m[i]? = some v → (∀ A n c, v = .slice A n c → r i = false) → e'.m[i]? = some v) (hp : ∀ k, e.pub k → e'.pub k) (hs : Same e.pub w w') : ∀ {l : List SV} {l' : List Value}, RepSVs e w l l' → RepSVs e' w' (scrubs r l) l'
  | [], _, hx => by simpa only [scrubs, RepSVs] using hx
  | x :: r, l', hx => by
    simp only [scrubs, RepSVs] at hx ⊢
    obtain ⟨v, s, e, h1, h2⟩ := hx
    exact ⟨v, s, e, RepSV.scrub hm hp hs h1, RepSVs.scrub hm hp hs h2⟩
end
def scrubO (r : Nat → Bool) : Ob → Ob
  | .blk t cs => .blk t (scrubs r cs)
  | .row t eb sz n xs => .row t eb sz n xs
  | .ab φ => .ab φ
def scrubT (r : Nat → Bool) (T : Tl) : Tl := T.map fun p => (p.1, scrub r p.2)
def without (r : Nat → Bool) : Hp → Hp
  | [] => []
  | (i, o) :: l => match r i with
    | true => without r l
    | false => (i, o) :: without r l
def scrubH (r : Nat → Bool) (H : Hp) : Hp := H.map fun p => (p.1, scrubO r p.2)
theorem lk_map {α β : Type} (f : α → β) : ∀ (l : List (Nat × α)) (i : Nat), lk (l.map fun p => (p.1, f p.2)) i = (lk l i).map f
  | [], i => rfl
  | (k, x) :: r, i => by
    simp only [List.map_cons, lk]
    split
    · rfl
    · exact lk_map f r i
theorem lk_without {r : Nat → Bool} : ∀ {H : Hp} {i : Nat}, lk (without r H) i = if r i = true then none else lk H i
  | [], i => by simp [without, lk]
  | (k, x) :: l, i => by
    simp only [without]
    split
    · rename_i hk
      rw [lk_without]
      by_cases he : k = i
      · subst he; simp [hk]
      · simp only [lk, nbeq_ne.2 he]
    · rename_i hk
      simp only [lk]
      split
      · rename_i e; obtain rfl := nbeq.1 e; simp [hk]
      · exact lk_without
theorem lk_app {α : Type} : ∀ (l m : List (Nat × α)) (i : Nat), lk (l ++ m) i = match lk l i with
    | some x => some x
    | none => lk m i
  | [], m, i => by simp [lk]
  | (k, x) :: r, m, i => by
    simp only [List.cons_append, lk]
    split
    · rfl
    · exact lk_app r m i
section
variable {G : Glob} {n0 : Nat} {b : Bs G n0} {N : Nat} {e : Env} {st : St} {a : Act} {w : World}
theorem Ok.frame (h : Ok b N e st a w) {r s : Nat → Bool} (hsr : ∀ i, s i = true → r i = true) {e' : Env} {w' : World} {H' : Hp} (q : Nat) (hlen : e'.m.length = e.m.length + q)
    (ho : Only (fun k => ∃ i, r i = true ∧ has st.H i ∧ foot e i k) w w') (hd : G.d w w')
    (hm : ∀ (i : Nat) v, e.m[i]? = some v → (∀ A n c, v = .slice A n c → s i = false) → e'.m[i]? = some v)
    (hp : ∀ k, e.pub k → e'.pub k) (hq : ∀ k, e'.pub k → e.pub k ∨ (∃ i, r i = true ∧ has st.H i ∧ foot e i k) ∨ w.heap.size ≤ k)
    (hH : HpOk e' w' H') (hf : ∀ i k, has H' i → foot e' i k → (∃ i, r i = true ∧ has st.H i ∧ foot e i k) ∨ w.heap.size ≤ k) :
    Ok b N e' ⟨scrubT s st.T, H' ++ scrubH s (without r st.H), st.n + q⟩ a w' := by
  have hrs : ∀ i, r i = false → s i = false := fun i hi => by
    cases hsi : s i with
    | false => rfl
    | true => rw [hsr i hsi] at hi; cases hi
  have hsame : Same e.pub w w' := fun k hk hl => ho.block k hl (by rintro ⟨i, h1, h2, h3⟩; exact h.hp.npub i k h2 h3 hk)
  have hrest : ∀ i, has (H' ++ scrubH s (without r st.H)) i → has H' i ∨ (r i = false ∧ has st.H i) := by
    intro i hi
    unfold has at hi
    rw [lk_app] at hi
    split at hi
    · rename_i x hx; exact .inl (by simp [has, hx])
    · rw [scrubH, lk_map, lk_without] at hi
      split at hi
      · cases hi
      · rename_i hr
        refine .inr ⟨by simpa using hr, ?_⟩
        unfold has
        cases hl : lk st.H i with
        | none => rw [hl] at hi; cases hi
        | some o => rfl
  have hfr : ∀ i k, r i = false → has st.H i → foot e' i k → foot e i k := by
    rintro i k hr hi ⟨u, h1, h2⟩
    obtain ⟨o, ho⟩ := Option.isSome_iff_exists.1 hi
    have : ∃ u', e.m[i]? = some u' := by
      have := h.hp.ob i o ho
      cases o with
      | blk t cs => obtain ⟨g, vs, h1, _⟩ := this; exact ⟨_, h1⟩
      | row t eb sz n xs => obtain ⟨A, c, vs, h1, _⟩ := this; exact ⟨_, h1⟩
      | ab φ => obtain ⟨v', g, o, h1, _⟩ := this; exact ⟨_, h1⟩
    obtain ⟨u', hu'⟩ := this
    have := hm i u' hu' (fun _ _ _ _ => hrs i hr)
    rw [this] at h1; injection h1 with h1; subst h1
    exact ⟨_, hu', h2⟩
  have hno : ∀ i k, r i = false → has st.H i → foot e i k → ¬ ∃ j, r j = true ∧ has st.H j ∧ foot e j k := by
    rintro i k hr hi h1 ⟨j, h2, h3, h4⟩
    exact h.hp.sep i j k hi h3 (by rintro rfl; rw [hr] at h2; cases h2) h1 h4
  refine ⟨h.sz, h.df, by rw [hlen, h.len], fun t sv ht => ?_, ⟨fun i o ho' => ?_, fun i j k hi hj hne h1 h2 => ?_, fun i k hi h1 h2 => ?_, hH.pubLt⟩, ⟨ho.os.trans h.below.os, ho.tape.trans h.below.tape, ho.output.trans h.below.output, Nat.le_trans h.below.size ho.size, fun k hk hn => ?_⟩, G.dt h.dr hd, fun i k hi h1 => ?_, fun k hk => ?_, ⟨fun i v hi hv => hm i v (h.pre.m i v hi hv) (fun A n c e => absurd e (hv A n c)), by rw [hlen]; have := h.pre.le; omega, fun k hk => hp k (h.pre.up k hk)⟩, G.mono h.gl hsame hp ho.size⟩
  · rw [scrubT, lk_map] at ht
    cases hl : lk st.T t with
    | none => rw [hl] at ht; cases ht
    | some x =>
      rw [hl] at ht; injection ht with ht; subst ht
      exact (h.tm t x hl).scrub hm hp hsame
  · rw [lk_app] at ho'
    split at ho'
    · rename_i x hx
      injection ho' with ho'; subst ho'
      exact hH.ob i _ hx
    · rw [scrubH, lk_map, lk_without] at ho'
      split at ho'
      · cases ho'
      · rename_i hr
        have hr : r i = false := by simpa using hr
        cases hl : lk st.H i with
        | none => rw [hl] at ho'; cases ho'
        | some o' =>
          rw [hl] at ho'; injection ho' with ho'; subst ho'
          have hi : has st.H i := by simp [has, hl]
          have hstay : ∀ k, foot e i k → w'.heap[k]? = w.heap[k]? := fun k hk => ho.block k (h.hp.lt hi hk) (hno i k hr hi hk)
          have := h.hp.ob i o' hl
          cases o' with
          | blk t cs =>
            obtain ⟨g, vs, h1, h2, h3⟩ := this
            exact ⟨g, vs, hm _ _ h1 (fun _ _ _ h => by cases h), by rw [hstay g ⟨_, h1, rfl⟩]; exact h2, h3.scrub hm hp hsame⟩
          | row t eb sz n xs =>
            obtain ⟨A, c, vs, h1, h2, h3, h4⟩ := this
            refine ⟨A, c, vs, hm _ _ h1 (fun _ _ _ _ => hrs i hr), h2.keep fun g hg => hstay g ⟨_, h1, by rw [footB_slice]; exact hg⟩, h3.to hsame fun k hk _ => hp k hk, h4⟩
          | ab φ =>
            obtain ⟨v', g, o, h1, h2, h3, h4, h5⟩ := this
            exact ⟨v', g, o, hm _ _ h1 (fun A n c h => absurd h (h3 A n c)), h2, h3, by rw [hstay g ⟨_, h1, h2⟩]; exact h4, φ.up h5 hsame fun k hk _ => hp k hk⟩
  · rcases hrest i hi with hi' | ⟨ri, hi'⟩ <;> rcases hrest j hj with hj' | ⟨rj, hj'⟩
    · exact hH.sep i j k hi' hj' hne h1 h2
    · have h2' := hfr j k rj hj' h2
      rcases hf i k hi' h1 with h3 | h3
      · exact hno j k rj hj' h2' h3
      · have := h.hp.lt hj' h2'; omega
    · have h1' := hfr i k ri hi' h1
      rcases hf j k hj' h2 with h3 | h3
      · exact hno i k ri hi' h1' h3
      · have := h.hp.lt hi' h1'; omega
    · exact h.hp.sep i j k hi' hj' hne (hfr i k ri hi' h1) (hfr j k rj hj' h2)
  · rcases hrest i hi with hi' | ⟨ri, hi'⟩
    · exact hH.npub i k hi' h1 h2
    · have h1' := hfr i k ri hi' h1
      rcases hq k h2 with h3 | h3 | h3
      · exact h.hp.npub i k hi' h1' h3
      · exact hno i k ri hi' h1' h3
      · have := h.hp.lt hi' h1'; omega
  · rw [ho.block k (Nat.lt_of_lt_of_le hk h.below.size) ?_]
    · exact h.below.block k hk hn
    · rintro ⟨i, h1, h2, h3⟩
      rcases h.mine i k h2 h3 with h4 | h4
      · exact hn h4
      · omega
  · rcases hrest i hi with hi' | ⟨ri, hi'⟩
    · rcases hf i k hi' h1 with ⟨j, h2, h3, h4⟩ | h3
      · exact h.mine j k h3 h4
      · exact .inr (Nat.le_trans h.below.size h3)
    · exact h.mine i k hi' (hfr i k ri hi' h1)
  · rcases hq k hk with h3 | ⟨j, h2, h3, h4⟩ | h3
    · exact h.frm k h3
    · exact .inr (h.mine j k h3 h4)
    · exact .inr (.inr (Nat.le_trans h.below.size h3))
end
end Go.Vx


/- Pure operations over symbolic values: what they come to. -/
namespace Go.Vx
open Go.RowKit Go.Vc
inductive Kd where
  | int (k : IntKind) | bool | str | slice (e : Nat) | ptr | ifc | fn | map | other
structure TY where
  i : TI
  kd : Kd
def kdB : TypeDesc → Kd → Bool
  | .int k, .int k' => sameK k k'
  | .bool, .bool => true
  | .string, .str => true
  | .slice e, .slice e' => Nat.beq e e'
  | .pointer _, .ptr => true
  | .interface _, .ifc => true
  | .func _ _ _, .fn => true
  | .map _ _, .map => true
  | _, .other => true
  | _, _ => false
def kdOk (P : Program) (t : TypeId) (k : Kd) : Bool :=
  match P.underlying t with
  | some d => kdB d k
  | none => false
structure TYok (P : Program) (t : TypeId) (y : TY) : Prop where
  i : TIok P t y.i
  k : kdOk P t y.kd = true
def Tys (P : Program) (ty : List (Nat × TY)) : Prop := ∀ t y, lk ty t = some y → TYok P t y
theorem Tys_nil {P : Program} : Tys P [] := fun t i h => by simp [lk] at h
theorem Tys_cons {P : Program} {k : Nat} {i : TY} {r : List (Nat × TY)} (h : TYok P k i) (hr : Tys P r) : Tys P ((k, i) :: r) := by
  intro t j hj
  simp only [lk] at hj
  split at hj
  · rename_i e
    obtain rfl := nbeq.1 e
    injection hj with hj; subst hj; exact h
  · exact hr t j hj
theorem Tys.old {P : Program} {ty : List (Nat × TY)} (h : Tys P ty) : TyOk P (ty.map fun p => (p.1, p.2.i)) := by
  intro t i hi
  rw [lk_map] at hi
  cases hl : lk ty t with
  | none => rw [hl] at hi; cases hi
  | some y => rw [hl] at hi; injection hi with hi; subst hi; exact (h t y hl).i
theorem TYok.get {P : Program} {t : TypeId} {y : TY} (h : TYok P t y) : ∃ d, P.underlying t = some d ∧ kdB d y.kd = true := by
  have := h.k
  unfold kdOk at this
  split at this
  · rename_i d hd; exact ⟨d, hd, this⟩
  · cases this
theorem TYok.int {P : Program} {t : TypeId} {y : TY} {k : IntKind} (h : TYok P t y) (hk : y.kd = .int k) : P.underlying t = some (.int k) := by
  obtain ⟨d, h1, h2⟩ := h.get
  rw [hk] at h2
  cases d <;> simp only [kdB] at h2 <;> try (cases h2; done)
  rw [h1, sameK_eq h2]
theorem TYok.bool {P : Program} {t : TypeId} {y : TY} (h : TYok P t y) (hk : y.kd = .bool) : P.underlying t = some .bool := by
  obtain ⟨d, h1, h2⟩ := h.get
  rw [hk] at h2
  cases d <;> simp only [kdB] at h2 <;> try (cases h2; done)
  exact h1
theorem TYok.str {P : Program} {t : TypeId} {y : TY} (h : TYok P t y) (hk : y.kd = .str) : P.underlying t = some .string := by
  obtain ⟨d, h1, h2⟩ := h.get
  rw [hk] at h2
  cases d <;> simp only [kdB] at h2 <;> try (cases h2; done)
  exact h1
theorem TYok.slice {P : Program} {t : TypeId} {y : TY} {e : Nat} (h : TYok P t y) (hk : y.kd = .slice e) : P.underlying t = some (.slice e) := by
  obtain ⟨d, h1, h2⟩ := h.get
  rw [hk] at h2
  cases d <;> simp only [kdB] at h2 <;> try (cases h2; done)
  rw [h1, nbeq.1 h2]
theorem TYok.ptr {P : Program} {t : TypeId} {y : TY} (h : TYok P t y) (hk : y.kd = .ptr) : ∃ e, P.underlying t = some (.pointer e) := by
  obtain ⟨d, h1, h2⟩ := h.get
  rw [hk] at h2
  cases d <;> simp only [kdB] at h2 <;> try (cases h2; done)
  exact ⟨_, h1⟩
theorem TYok.ifc {P : Program} {t : TypeId} {y : TY} (h : TYok P t y) (hk : y.kd = .ifc) : ∃ e, P.underlying t = some (.interface e) := by
  obtain ⟨d, h1, h2⟩ := h.get
  rw [hk] at h2
  cases d <;> simp only [kdB] at h2 <;> try (cases h2; done)
  exact ⟨_, h1⟩
def cD : Value → SV
  | .int k n => .d (.int k n)
  | .bool b => .kb b
  | .string s => .d (.str s)
  | .slice none 0 0 => .nl
  | v => .d (.val v)
theorem cD_rep (e : Env) (w : World) (v : Value) : RepSV e w (cD v) v := by
  unfold cD
  split
  · simp only [RepSV, RepD]
  · simp only [RepSV]
  · simp only [RepSV, RepD]
  · simp only [RepSV]
  · simp only [RepSV, RepD]
def zD : Value → D
  | .int k n => .int k n
  | .bool b => .bool b
  | .string s => .str s
  | .slice none 0 0 => .sl 0 0 []
  | v => .val v
theorem zD_rep (S : Nat → Prop) (w : World) (v : Value) : RepD S w (zD v) v := by
  unfold zD
  split
  · simp only [RepD]
  · simp only [RepD]
  · simp only [RepD]
  · simp only [RepD, RepC]
    exact ⟨none, 0, rfl, Nat.le_refl _, Nat.zero_le _, fun h => absurd rfl h, trivial⟩
  · simp only [RepD]
def cZ : Value → SV
  | .int k n => .d (.int k n)
  | .bool b => .d (.bool b)
  | .string s => .d (.str s)
  | .slice none 0 0 => .nl
  | v => .d (.val v)
theorem cZ_rep (e : Env) (w : World) (v : Value) : RepSV e w (cZ v) v := by
  unfold cZ
  split <;> simp only [RepSV, RepD]
def zs : List Value → List SV
  | [] => []
  | v :: r => cZ v :: zs r
theorem zs_rep (e : Env) (w : World) : ∀ l : List Value, RepSVs e w (zs l) l
  | [] => by simp [zs, RepSVs]
  | v :: r => by simp only [zs, RepSVs]; exact ⟨v, r, rfl, cZ_rep _ _ _, zs_rep e w r⟩
def ev (T : Tl) : Operand → Option SV
  | .tmp t => lk T t
  | .const v => some (cD v)
  | .global g => some (.d (.val (.pointer (some ⟨g, 0, none⟩))))
  | .func f => some (.d (.fn f [] []))
def evs (T : Tl) : List Operand → Option (List SV)
  | [] => some []
  | x :: r => match ev T x, evs T r with
    | some a, some l => some (a :: l)
    | _, _ => none
def evp (T : Tl) : List (Nat × Operand) → Option (List (Nat × SV))
  | [] => some []
  | (i, x) :: r => match ev T x, evp T r with
    | some a, some l => some ((i, a) :: l)
    | _, _ => none
def dL : List D → List SV
  | [] => []
  | x :: r => .d x :: dL r
theorem dL_map (l : List D) : dL l = l.map .d := by
  induction l with
  | nil => rfl
  | cons x r ih => simp [dL, ih]
def cellsOf : SV → Option (List SV)
  | .agg l => some l
  | .d (.agg l) => some (dL l)
  | .d (.tup _) => none
  | .tup _ => none
  | .any => none
  | .d (.val (.agg _)) => none
  | .d (.val (.tuple _)) => none
  | x => some [x]
theorem cellsOf_rep {e : Env} {w : World} {x : SV} {l : List SV} {v : Value} (h : cellsOf x = some l) (hx : RepSV e w x v) : RepSVs e w l v.cells.toList := by
  have one : ∀ u : Value, RepSV e w x u → u.cells = #[u] → RepSVs e w [x] u.cells.toList := fun u hu hc => by
    rw [hc]; simp only [RepSVs]; exact ⟨u, [], rfl, hu, rfl⟩
  cases x with
  | agg m =>
    simp only [cellsOf, Option.some.injEq] at h; subst h
    simp only [RepSV] at hx
    obtain ⟨l', rfl, h1⟩ := hx
    exact h1
  | d y =>
    cases y with
    | agg m =>
      simp only [cellsOf, Option.some.injEq] at h; subst h
      simp only [RepSV, RepD] at hx
      obtain ⟨l', rfl, h1⟩ := hx
      rw [dL_map]
      exact RepSVs.ofD.1 h1
    | tup m => simp [cellsOf] at h
    | val u =>
      have hx' := hx
      simp only [RepSV, RepD] at hx
      subst hx
      cases v with
      | agg _ => simp [cellsOf] at h
      | tuple _ => simp [cellsOf] at h
      | _ =>
        simp only [cellsOf, Option.some.injEq] at h; subst h
        exact one _ hx' rfl
    | int k n =>
      simp only [cellsOf, Option.some.injEq] at h; subst h
      refine one _ hx ?_
      simp only [RepSV, RepD] at hx; subst hx; rfl
    | bool k =>
      simp only [cellsOf, Option.some.injEq] at h; subst h
      refine one _ hx ?_
      simp only [RepSV, RepD] at hx; subst hx; rfl
    | str k =>
      simp only [cellsOf, Option.some.injEq] at h; subst h
      refine one _ hx ?_
      simp only [RepSV, RepD] at hx; subst hx; rfl
    | sl eb n cs =>
      simp only [cellsOf, Option.some.injEq] at h; subst h
      refine one _ hx ?_
      simp only [RepSV, RepD] at hx; obtain ⟨A, c, rfl, _⟩ := hx; rfl
    | csl eb n cs =>
      simp only [cellsOf, Option.some.injEq] at h; subst h
      refine one _ hx ?_
      simp only [RepSV, RepD] at hx; obtain ⟨A, rfl, _⟩ := hx; rfl
    | ptr cs off =>
      simp only [cellsOf, Option.some.injEq] at h; subst h
      refine one _ hx ?_
      simp only [RepSV, RepD] at hx; obtain ⟨A, rfl, _⟩ := hx; rfl
    | fn f a b =>
      simp only [cellsOf, Option.some.injEq] at h; subst h
      refine one _ hx ?_
      simp only [RepSV, RepD] at hx; obtain ⟨A, c, rfl, _⟩ := hx; rfl
    | ifc t y =>
      simp only [cellsOf, Option.some.injEq] at h; subst h
      refine one _ hx ?_
      simp only [RepSV, RepD] at hx; obtain ⟨A, rfl, _⟩ := hx; rfl
  | kb k =>
    simp only [cellsOf, Option.some.injEq] at h; subst h
    refine one _ hx ?_
    simp only [RepSV] at hx; subst hx; rfl
  | own i o =>
    simp only [cellsOf, Option.some.injEq] at h; subst h
    refine one _ hx ?_
    simp only [RepSV] at hx; obtain ⟨g, _, rfl⟩ := hx; rfl
  | row i =>
    simp only [cellsOf, Option.some.injEq] at h; subst h
    refine one _ hx ?_
    simp only [RepSV] at hx; obtain ⟨A, n, c, rfl, _⟩ := hx; rfl
  | rowp i o =>
    simp only [cellsOf, Option.some.injEq] at h; subst h
    refine one _ hx ?_
    simp only [RepSV] at hx; obtain ⟨A, n, c, _, rfl⟩ := hx; rfl
  | osl i n =>
    simp only [cellsOf, Option.some.injEq] at h; subst h
    refine one _ hx ?_
    simp only [RepSV] at hx; obtain ⟨g, _, rfl⟩ := hx; rfl
  | nm i =>
    simp only [cellsOf, Option.some.injEq] at h; subst h
    refine one _ hx ?_
    simp only [RepSV] at hx; obtain ⟨g, rfl, _⟩ := hx; rfl
  | fn f a b =>
    simp only [cellsOf, Option.some.injEq] at h; subst h
    refine one _ hx ?_
    simp only [RepSV] at hx; obtain ⟨A, n, rfl, _⟩ := hx; rfl
  | ifc t y =>
    simp only [cellsOf, Option.some.injEq] at h; subst h
    refine one _ hx ?_
    simp only [RepSV] at hx; obtain ⟨A, rfl, _⟩ := hx; rfl
  | nl =>
    simp only [cellsOf, Option.some.injEq] at h; subst h
    refine one _ hx ?_
    simp only [RepSV] at hx; subst hx; rfl
  | tup m => simp [cellsOf] at h
  | any => simp [cellsOf] at h
def fillF (flds : List (Nat × Nat)) : List SV → List (Nat × SV) → Option (List SV)
  | cs, [] => some cs
  | cs, (f, x) :: r => match nth flds f, cellsOf x with
    | some (o, n), some l => match Nat.beq l.length n, Nat.ble (o + n) cs.length, putAt o l cs with
      | true, true, some cs' => fillF flds cs' r
      | _, _, _ => none
    | _, _ => none
def isNilK : Kd → SV → Option Bool
  | .ptr, .d (.val (.pointer none)) => some true
  | .ptr, .d (.ptr _ _) => some false
  | .ptr, .own _ _ => some false
  | .ptr, .rowp _ _ => some false
  | _, _ => none
def boolOf : SV → Option Bool
  | .d (.bool b) => some b
  | .kb b => some b
  | _ => none
def binB (kd : Kd) (op : BinOp) (a b : SV) : Option SV :=
  match kd with
  | .int _ => match a, b with
    | .d (.int k a), .d (.int k' b) => match sameK k k' with
      | true => match op with
        | .add => some (.d (.int k (k.wrap (a + b))))
        | .sub => some (.d (.int k (k.wrap (a - b))))
        | .mul => some (.d (.int k (k.wrap (a * b))))
        | .eql => some (.d (.bool (a == b)))
        | .neq => some (.d (.bool (a != b)))
        | .lss => some (.d (.bool (decide (a < b))))
        | .leq => some (.d (.bool (decide (a ≤ b))))
        | .gtr => some (.d (.bool (decide (a > b))))
        | .geq => some (.d (.bool (decide (a ≥ b))))
        | _ => none
      | false => none
    | _, _ => none
  | .str => match a, b with
    | .d (.str x), .d (.str y) => match op with
      | .eql => some (.d (.bool (x.toList == y.toList)))
      | .neq => some (.d (.bool (!(x.toList == y.toList))))
      | .lss => some (.d (.bool (Op.bytesLess x.toList y.toList)))
      | .leq => some (.d (.bool (Op.bytesLess x.toList y.toList || x.toList == y.toList)))
      | .gtr => some (.d (.bool (!(Op.bytesLess x.toList y.toList || x.toList == y.toList))))
      | .geq => some (.d (.bool (!(Op.bytesLess x.toList y.toList))))
      | _ => none
    | _, _ => none
  | .bool => match boolOf a, boolOf b with
    | some x, some y => match op with
      | .eql => some (.d (.bool (x == y)))
      | .neq => some (.d (.bool (!(x == y))))
      | _ => none
    | _, _ => none
  | .ptr => match isNilK .ptr a, isNilK .ptr b with
    | some true, some y => match op with
      | .eql => some (.kb y)
      | .neq => some (.kb (!y))
      | _ => none
    | some false, some true => match op with
      | .eql => some (.kb false)
      | .neq => some (.kb true)
      | _ => none
    | _, _ => none
  | _ => none
def lenOp (ty : List (Nat × TY)) (T : Tl) (H : Hp) (args : List Operand) (tys : List TypeId) : Option SV :=
  match args, tys with
  | x :: _, t :: _ => match lk ty t with
    | some y => match y.kd with
      | .slice _ => match ev T x with
        | some (.d (.sl _ n _)) => some (.d (.int .i64 n))
        | some (.d (.csl _ n _)) => some (.d (.int .i64 n))
        | some .nl => some (.d (.int .i64 0))
        | some (.row i) => match lk H i with
          | some (.row _ _ _ n _) => some (.d (.int .i64 n))
          | _ => none
        | _ => none
      | .str => match ev T x with
        | some (.d (.str s)) => some (.d (.int .i64 s.size))
        | _ => none
      | _ => none
    | none => none
  | _, _ => none
def pOp (ty : List (Nat × TY)) (T : Tl) (H : Hp) : Op → Option SV
  | .move x => ev T x
  | .assign x => ev T x
  | .extract x i => match ev T x with
    | some (.tup l) => nth l i
    | _ => none
  | .unOp .not _ x => match ev T x with
    | some (.d (.bool b)) => some (.d (.bool (!b)))
    | some (.kb b) => some (.kb (!b))
    | _ => none
  | .unOp .neg _ x => match ev T x with
    | some (.d (.int k n)) => some (.d (.int k (k.wrap (0 - n))))
    | _ => none
  | .binOp op t x y _ => match lk ty t with
    | some z => match ev T x, ev T y with
      | some a, some b => binB z.kd op a b
      | _, _ => none
    | none => none
  | .fieldAddr s x f => match lk ty s with
    | some y => match nth y.i.flds f with
      | some (o, _) => match ev T x with
        | some (.own j off) => some (.own j (off + o))
        | some (.rowp j off) => some (.rowp j (off + o))
        | some (.d (.ptr cs off)) => some (.d (.ptr cs (off + o)))
        | _ => none
      | none => none
    | none => none
  | .nilCheck x => match ev T x with
    | some (.own j o) => some (.own j o)
    | some (.rowp j o) => some (.rowp j o)
    | some (.d (.ptr cs off)) => some (.d (.ptr cs off))
    | some (.d (.fn f a b)) => some (.d (.fn f a b))
    | some (.fn f a b) => some (.fn f a b)
    | _ => none
  | .load t x => match lk ty t with
    | some y => match ev T x with
      | some (.own j off) => match lk H j with
        | some (.blk _ cs) => match y.i.agg with
          | true => match takeF y.i.size (dropN off cs) with
            | some l => some (.agg l)
            | none => none
          | false => nth cs off
        | _ => none
      | some (.d (.ptr cs off)) => match y.i.agg with
        | true => match takeF y.i.size (dropN off cs) with
          | some l => some (.agg (dL l))
          | none => none
        | false => match nth cs off with
          | some x => some (.d x)
          | none => none
      | _ => none
    | none => none
  | .call { callee := .builtin .len, args := as, argTypes := ts } => lenOp ty T H as.toList ts.toList
  | .build t ps => match lk ty t with
    | some y => match evp T ps.toList, y.i.flds with
      | some l, _ :: _ => match fillF y.i.flds (zs y.i.z.cells.toList) l with
        | some cs => some (.agg cs)
        | none => none
      | _, _ => none
    | none => none
  | .makeFunc (.func f) a b => match evs T a.toList, evs T b.toList with
    | some x, some y => some (.fn f x y)
    | _, _ => none
  | .makeInterface t x => match lk ty t with
    | some y => match y.i.ifc with
      | false => match ev T x with
        | some a => some (.ifc t a)
        | none => none
      | true => none
    | none => none
  | .convert s t x => match lk ty s, lk ty t with
    | some a, some b => match a.kd, b.kd, ev T x with
      | .int _, .int k, some (.d (.int _ n)) => some (.d (.int k (k.wrap n)))
      | .str, .str, some (.d (.str s)) => some (.d (.str s))
      | _, _, _ => none
    | _, _ => none
  | _ => none
def TmOk (e : Env) (w : World) (T : Tl) (f : Operand → Value) : Prop := ∀ x sv, ev T x = some sv → RepSV e w sv (f x)
theorem Ok.tmok {G : Glob} {n0 : Nat} {b : Bs G n0} {N : Nat} {e : Env} {st : St} {a : Act} {w : World} (h : Ok b N e st a w) : TmOk e w st.T a.eval := by
  intro x sv hx
  cases x with
  | tmp t => exact h.tm t sv hx
  | const v => simp only [ev, Option.some.injEq] at hx; subst hx; exact cD_rep _ _ _
  | global g => simp only [ev, Option.some.injEq] at hx; subst hx; simp only [RepSV, RepD]; rfl
  | func g => simp only [ev, Option.some.injEq] at hx; subst hx; simp only [RepSV, RepD]; exact ⟨#[], #[], rfl, rfl, rfl⟩
theorem evs_rep {e : Env} {w : World} {T : Tl} {f : Operand → Value} (hT : TmOk e w T f) : ∀ (l : List Operand) (r : List SV), evs T l = some r → RepSVs e w r (l.map f)
  | [], r, h => by simp [evs] at h; subst h; simp [RepSVs]
  | x :: t, r, h => by
    simp only [evs] at h
    split at h
    · rename_i a l ha hl
      injection h with h; subst h
      simp only [List.map_cons, RepSVs]
      exact ⟨_, _, rfl, hT x a ha, evs_rep hT t l hl⟩
    · cases h
theorem evp_rep {e : Env} {w : World} {T : Tl} {f : Operand → Value} (hT : TmOk e w T f) : ∀ (l : List (Nat × Operand)) (r : List (Nat × SV)), evp T l = some r → l.map (·.1) = r.map (·.1) ∧ RepSVs e w (r.map (·.2)) (l.map fun p => f p.2)
  | [], r, h => by simp [evp] at h; subst h; simp [RepSVs]
  | (i, x) :: t, r, h => by
    simp only [evp] at h
    split at h
    · rename_i a l ha hl
      injection h with h; subst h
      obtain ⟨h1, h2⟩ := evp_rep hT t l hl
      simp only [List.map_cons, RepSVs, h1]
      exact ⟨trivial, _, _, rfl, hT x a ha, h2⟩
    · cases h
end Go.Vx


/- Pure operations: soundness. -/
namespace Go.Vx
open Go.RowKit Go.Vc
def Agr (e : Env) (H : Hp) (w w' : World) : Prop := Same e.pub w w' ∧ ∀ i t cs k, lk H i = some (.blk t cs) → foot e i k → w'.heap[k]? = w.heap[k]?
theorem Agr.refl (e : Env) (H : Hp) (w : World) : Agr e H w w := ⟨Same.rfl' _ _, fun _ _ _ _ _ _ => rfl⟩
def ObsOk (e : Env) (w : World) (H : Hp) : Prop := ∀ i o, lk H i = some o → ObOk e w i o
section
variable {P : Program} {w : World} {f : Operand → Value} {e : Env}
theorem binB_int {op : BinOp} {t : TypeId} {x y : Operand} {k : IntKind} {a b : Int} {sv : SV} {k0 : IntKind} (h : binB (.int k0) op (.d (.int k a)) (.d (.int k b)) = some sv) :
    ∃ v, RepSV e w sv v ∧ ∀ w', (do eqGuard op t x y (.int k a) (.int k b); binOp op t (.int k a) (.int k b) : Sem Value).run P w' = .ok v w' := by
  have hk : sameK k k = true := by cases k <;> rfl
  simp only [binB, hk] at h
  cases op <;> simp only [Option.some.injEq] at h <;> try (cases h; done)
  all_goals
    subst h
    refine ⟨_, by simp only [RepSV, RepD]; rfl, fun w' => ?_⟩
    rw [Sem.run_bind, eqGuard_int]
    simp [binOp, Op.intArith, Op.intCmp, go_sem]
theorem binB_str {op : BinOp} {t : TypeId} {x y : Operand} {a b : ByteArray} {sv : SV} (h : binB .str op (.d (.str a)) (.d (.str b)) = some sv) :
    ∃ v, RepSV e w sv v ∧ ∀ w', (do eqGuard op t x y (.string a) (.string b); binOp op t (.string a) (.string b) : Sem Value).run P w' = .ok v w' := by
  simp only [binB] at h
  cases op <;> simp only [Option.some.injEq] at h <;> try (cases h; done)
  all_goals
    subst h
    refine ⟨_, by simp only [RepSV, RepD]; rfl, fun w' => ?_⟩
    rw [Sem.run_bind, eqGuard_str]
    simp [binOp, Op.stringOp, go_sem]
theorem run_equal_bool {t : TypeId} (ht : P.underlying t = some .bool) {a b : Bool} {w' : World} : (Op.equal t (.bool a) (.bool b)).run P w' = .ok (a == b) w' := by
  unfold Op.equal
  rw [show Op.maxDepth = 9999 + 1 from rfl]
  unfold Op.equalIn
  rw [Sem.run_bind, run_under ht]
  rfl
theorem boolOf_rep {x : SV} {b : Bool} {v : Value} (h : boolOf x = some b) (hx : RepSV e w x v) : v = .bool b := by
  unfold boolOf at h
  split at h
  · injection h with h; subst h; simpa only [RepSV, RepD] using hx
  · injection h with h; subst h; simpa only [RepSV] using hx
  · cases h
theorem binB_bool {op : BinOp} {t : TypeId} (ht : P.underlying t = some .bool) {x y : Operand} {p q : SV} {u v : Value} {sv : SV} (h : binB .bool op p q = some sv) (hp : RepSV e w p u) (hq : RepSV e w q v) :
    ∃ v', RepSV e w sv v' ∧ ∀ w', (do eqGuard op t x y u v; binOp op t u v : Sem Value).run P w' = .ok v' w' := by
  simp only [binB] at h
  split at h <;> try (cases h; done)
  rename_i a b ha hb
  obtain rfl := boolOf_rep ha hp
  obtain rfl := boolOf_rep hb hq
  have hg : ∀ (w' : World), (eqGuard op t x y (.bool a) (.bool b)).run P w' = .ok () w' := by
    intro w'; unfold eqGuard; cases op <;> rfl
  cases op <;> simp only [Option.some.injEq] at h <;> try (cases h; done)
  · subst h
    refine ⟨_, by simp only [RepSV, RepD]; rfl, fun w' => ?_⟩
    rw [Sem.run_bind, hg]
    simp only [Result.andThen_ok, binOp]
    rw [Sem.run_bind, run_equal_bool ht]
    simp [go_sem]
  · subst h
    refine ⟨_, by simp only [RepSV, RepD]; rfl, fun w' => ?_⟩
    rw [Sem.run_bind, hg]
    simp only [Result.andThen_ok, binOp]
    rw [Sem.run_bind, run_equal_bool ht]
    simp [go_sem]
theorem isNil_rep {x : SV} {b : Bool} {v : Value} (h : isNilK .ptr x = some b) (hx : RepSV e w x v) : ∃ a : Option Addr, v = .pointer a ∧ a.isNone = b := by
  unfold isNilK at h
  split at h
  · injection h with h; subst h; simp only [RepSV, RepD] at hx; exact ⟨none, hx, rfl⟩
  · injection h with h; subst h; simp only [RepSV, RepD] at hx; obtain ⟨ad, rfl, _⟩ := hx; exact ⟨_, rfl, rfl⟩
  · injection h with h; subst h; simp only [RepSV] at hx; obtain ⟨ad, _, rfl⟩ := hx; exact ⟨_, rfl, rfl⟩
  · injection h with h; subst h; simp only [RepSV] at hx; obtain ⟨ad, _, _, _, rfl⟩ := hx; exact ⟨_, rfl, rfl⟩
  · cases h
theorem run_equal_ptr {t e' : TypeId} (ht : P.underlying t = some (.pointer e')) {a b : Option Addr} (h : a.isNone = true ∨ b.isNone = true) {w' : World} : (Op.equal t (.pointer a) (.pointer b)).run P w' = .ok (a.isNone && b.isNone) w' := by
  unfold Op.equal
  rw [show Op.maxDepth = 9999 + 1 from rfl]
  unfold Op.equalIn
  rw [Sem.run_bind, run_under ht]
  cases a with
  | none => rfl
  | some a => cases b with
    | none => rfl
    | some b => simp at h
theorem binB_ptr {op : BinOp} {t e' : TypeId} (ht : P.underlying t = some (.pointer e')) {x y : Operand} {p q : SV} {u v : Value} {sv : SV} (h : binB .ptr op p q = some sv) (hp : RepSV e w p u) (hq : RepSV e w q v) :
    ∃ v', RepSV e w sv v' ∧ ∀ w', (do eqGuard op t x y u v; binOp op t u v : Sem Value).run P w' = .ok v' w' := by
  have key : ∀ c : Bool, (∀ w', (Op.equal t u v).run P w' = .ok c w') → (∃ a b, u = .pointer a ∧ v = .pointer b) → (match op with | .eql => some (SV.kb c) | .neq => some (SV.kb (!c)) | _ => none) = some sv → ∃ v', RepSV e w sv v' ∧ ∀ w', (do eqGuard op t x y u v; binOp op t u v : Sem Value).run P w' = .ok v' w' := by
    rintro c hc ⟨a, b, rfl, rfl⟩ h
    have hg : ∀ (w' : World), (eqGuard op t x y (.pointer a) (.pointer b)).run P w' = .ok () w' := by
      intro w'; unfold eqGuard; cases op <;> rfl
    cases op <;> simp only [Option.some.injEq] at h <;> try (cases h; done)
    · subst h
      refine ⟨_, by simp only [RepSV]; rfl, fun w' => ?_⟩
      rw [Sem.run_bind, hg]
      simp only [Result.andThen_ok, binOp]
      rw [Sem.run_bind, hc]
      simp [go_sem]
    · subst h
      refine ⟨_, by simp only [RepSV]; rfl, fun w' => ?_⟩
      rw [Sem.run_bind, hg]
      simp only [Result.andThen_ok, binOp]
      rw [Sem.run_bind, hc]
      simp [go_sem]
  simp only [binB] at h
  split at h <;> try (cases h; done)
  · rename_i c ha hb
    obtain ⟨a, rfl, h1⟩ := isNil_rep ha hp
    obtain ⟨b, rfl, h2⟩ := isNil_rep hb hq
    refine key c (fun w' => by rw [run_equal_ptr ht (.inl h1), h1, h2]; rfl) ⟨_, _, rfl, rfl⟩ ?_
    cases op <;> exact h
  · rename_i ha hb
    obtain ⟨a, rfl, h1⟩ := isNil_rep ha hp
    obtain ⟨b, rfl, h2⟩ := isNil_rep hb hq
    refine key false (fun w' => by rw [run_equal_ptr ht (.inr h2), h1, h2]; rfl) ⟨_, _, rfl, rfl⟩ ?_
    cases op <;> exact h
theorem binB_sound {ty : List (Nat × TY)} (hty : Tys P ty) {op : BinOp} {t : TypeId} {z : TY} (hz : lk ty t = some z) {x y : Operand} {p q : SV} {u v : Value} {sv : SV} (h : binB z.kd op p q = some sv) (hp : RepSV e w p u) (hq : RepSV e w q v) :
    ∃ v', RepSV e w sv v' ∧ ∀ w', (do eqGuard op t x y u v; binOp op t u v : Sem Value).run P w' = .ok v' w' := by
  have ht := hty _ _ hz
  cases hk : z.kd with
  | int k0 =>
    rw [hk] at h
    cases p <;> try (simp [binB] at h; done)
    rename_i p; cases p <;> try (simp [binB] at h; done)
    cases q <;> try (simp [binB] at h; done)
    rename_i q; cases q <;> try (simp [binB] at h; done)
    rename_i k a k' b
    by_cases hs : sameK k k' = true
    · obtain rfl := sameK_eq hs
      simp only [RepSV, RepD] at hp hq
      subst hp; subst hq
      exact binB_int h
    · simp only [binB] at h
      rw [Bool.not_eq_true] at hs
      simp [hs] at h
  | str =>
    rw [hk] at h
    cases p <;> try (simp [binB] at h; done)
    rename_i p; cases p <;> try (simp [binB] at h; done)
    cases q <;> try (simp [binB] at h; done)
    rename_i q; cases q <;> try (simp [binB] at h; done)
    simp only [RepSV, RepD] at hp hq
    subst hp; subst hq
    exact binB_str h
  | bool => rw [hk] at h; exact binB_bool (ht.bool hk) h hp hq
  | ptr =>
    rw [hk] at h
    obtain ⟨e', he⟩ := ht.ptr hk
    exact binB_ptr he h hp hq
  | _ => rw [hk] at h; simp [binB] at h
theorem lenOp_sound {ty : List (Nat × TY)} (hty : Tys P ty) {T : Tl} {H : Hp} (hT : TmOk e w T f) (hH : ObsOk e w H) {as : Array Operand} {ts : Array TypeId} {sv : SV} {t0 : TypeId} (h : lenOp ty T H as.toList ts.toList = some sv) :
    ∃ v, RepSV e w sv v ∧ ∀ w', (Builtin.len_ ts t0 (as.map f)).run P w' = .ok v w' := by
  unfold lenOp at h
  split at h
  · rename_i x as' t ts' ha ht
    have ha' : (as.map f)[0]? = some (f x) := by rw [← Array.getElem?_toList]; simp [ha]
    have ht' : ts[0]? = some t := by rw [← Array.getElem?_toList]; simp [ht]
    unfold Builtin.len_
    rw [ha', ht']
    split at h <;> try (cases h; done)
    rename_i y hy
    have hk := hty _ _ hy
    split at h <;> try (cases h; done)
    · rename_i el hkd
      have hu := hk.slice hkd
      split at h <;> try (cases h; done)
      · rename_i eb n cs hx
        injection h with h; subst h
        have := hT _ _ hx
        simp only [RepSV, RepD] at this
        obtain ⟨A, c, hv, _⟩ := this
        rw [hv]
        refine ⟨_, by simp only [RepSV, RepD]; rfl, fun w' => ?_⟩
        simp only [Sem.run_bind, run_under hu, Result.andThen_ok]
        rfl
      · rename_i eb n cs hx
        injection h with h; subst h
        have := hT _ _ hx
        simp only [RepSV, RepD] at this
        obtain ⟨A, hv, _⟩ := this
        rw [hv]
        refine ⟨_, by simp only [RepSV, RepD]; rfl, fun w' => ?_⟩
        simp only [Sem.run_bind, run_under hu, Result.andThen_ok]
        rfl
      · rename_i hx
        injection h with h; subst h
        have := hT _ _ hx
        simp only [RepSV] at this
        rw [this]
        refine ⟨_, by simp only [RepSV, RepD]; rfl, fun w' => ?_⟩
        simp only [Sem.run_bind, run_under hu, Result.andThen_ok]
        rfl
      · rename_i i hx
        split at h <;> try (cases h; done)
        rename_i t1 eb sz n xs hi
        injection h with h; subst h
        have h1 := hT _ _ hx
        simp only [RepSV] at h1
        obtain ⟨A, n', c, hv, hm⟩ := h1
        obtain ⟨A', c', vs, hm', _⟩ := hH _ _ hi
        rw [hv, hm'] at hm
        injection hm with hm; injection hm with e1 e2 e3
        subst e2
        rw [hv]
        refine ⟨_, by simp only [RepSV, RepD]; rfl, fun w' => ?_⟩
        simp only [Sem.run_bind, run_under hu, Result.andThen_ok]
        rfl
    · rename_i hkd
      have hu := hk.str hkd
      split at h <;> try (cases h; done)
      rename_i s hx
      injection h with h; subst h
      have := hT _ _ hx
      simp only [RepSV, RepD] at this
      rw [this]
      refine ⟨_, by simp only [RepSV, RepD]; rfl, fun w' => ?_⟩
      simp only [Sem.run_bind, run_under hu, Result.andThen_ok]
      rfl
  · cases h
theorem putAt_rep {off : Nat} {l cs cs' : List SV} {vl vc : List Value} (h : putAt off l cs = some cs') (hb : off + l.length ≤ cs.length) (hl : RepSVs e w l vl) (hc : RepSVs e w cs vc) :
    ∃ vr : Array Value, (vl.zipIdx 0).foldl (fun cs (x : Value × Nat) => cs.setIfInBounds (off + x.2) x.1) vc.toArray = vr ∧ RepSVs e w cs' vr.toList := by
  obtain ⟨g1, g2, g3⟩ := putAt_get _ _ _ _ h
  obtain ⟨k1, k2⟩ := foldl_put vc.toArray off vl 0 vc.toArray
  refine ⟨_, rfl, RepSVs.mk ?_ fun i x v hx hv => ?_⟩
  · rw [Array.length_toList, k1]; simp [hc.len, g1]
  · rw [Array.getElem?_toList, k2 i] at hv
    rw [g3 i] at hx
    simp only [Nat.add_zero, List.size_toArray, hl.len, hc.len, List.getElem?_toArray] at hv
    by_cases c : off ≤ i ∧ i < off + l.length
    · rw [if_pos c] at hx
      rw [if_pos ⟨c.1, c.2, by omega⟩] at hv
      obtain ⟨u, h1, h2⟩ := hl.get hx
      rw [hv] at h1; injection h1 with h1; subst h1; exact h2
    · rw [if_neg c] at hx
      rw [if_neg (by omega)] at hv
      obtain ⟨u, h1, h2⟩ := hc.get hx
      rw [hv] at h1; injection h1 with h1; subst h1; exact h2
theorem fill_rep {flds : List (Nat × Nat)} {place : Nat → Option (Nat × Nat)} (hp : ∀ (i o n : Nat), flds[i]? = some (o, n) → place i = some (o, n)) : ∀ (ps : List (Nat × SV)) (pv : List (Nat × Value)) (cs r : List SV) (vc : List Value), fillF flds cs ps = some r → pv.map (·.1) = ps.map (·.1) → RepSVs e w (ps.map (·.2)) (pv.map (·.2)) → RepSVs e w cs vc →
    ∃ vr : Array Value, Instr.fill place vc.toArray pv = some vr ∧ RepSVs e w r vr.toList
  | [], pv, cs, r, vc, h, he, _, hc => by
    simp [fillF] at h; subst h
    have : pv = [] := by simpa using he
    subst this
    exact ⟨vc.toArray, by simp [Instr.fill], by simpa using hc⟩
  | (i, x) :: ps, pv, cs, r, vc, h, he, hv, hc => by
    simp only [fillF] at h
    split at h <;> try (cases h; done)
    rename_i o n l h1 h2
    split at h <;> try (cases h; done)
    rename_i cs' h3 hb h4
    cases pv with
    | nil => simp at he
    | cons p pv =>
      obtain ⟨i', v⟩ := p
      simp only [List.map_cons, List.cons.injEq] at he
      obtain ⟨rfl, he⟩ := he
      simp only [List.map_cons, RepSVs] at hv
      obtain ⟨v', s, e1, hv1, hv2⟩ := hv
      simp only [List.cons.injEq] at e1
      obtain ⟨rfl, rfl⟩ := e1
      rw [nth_eq] at h1
      have hpl := hp _ _ _ h1
      have hcs := cellsOf_rep h2 hv1
      have hn := nbeq.1 h3
      have hb' := Nat.le_of_ble_eq_true hb
      have hsz : v.cells.size = n := by
        have := hcs.len
        rw [Array.length_toList] at this
        omega
      obtain ⟨vr, q1, q2⟩ := putAt_rep h4 (by omega) hcs hc
      simp only [Instr.fill, hpl, hsz]
      rw [if_neg (by have := hc.len; simp; omega)]
      have he' : v.cells.zipIdx.foldl (fun cs (c, j) => cs.setIfInBounds (o + j) c) vc.toArray = vr := by
        rw [← q1, ← Array.foldl_toList, Array.toList_zipIdx]
      rw [he']
      have := fill_rep hp ps pv cs' r vr.toList h he hv2 q2
      simpa using this
theorem build_rep {ty : List (Nat × TY)} (hty : Tys P ty) {t : TypeId} {y : TY} (ht : lk ty t = some y) {ps : List (Nat × SV)} {pv : List (Nat × Value)} {cs : List SV} (hne : y.i.flds ≠ [])
    (h : fillF y.i.flds (zs y.i.z.cells.toList) ps = some cs) (he : pv.map (·.1) = ps.map (·.1)) (hv : RepSVs e w (ps.map (·.2)) (pv.map (·.2))) :
    ∃ v, RepSV e w (.agg cs) v ∧ ∀ w', (Instr.build t pv.toArray).run P w' = .ok v w' := by
  have hyi := (hty _ _ ht).i
  obtain ⟨yy, d, hy, hd, h1, h2, h3, h4, h5, h6, h7, h8⟩ := hyi.get
  have hz := fun w' => run_zeroValue (w := w') hyi
  obtain ⟨a0, b0, hf0⟩ := List.exists_cons_of_ne_nil hne
  have h0 : y.i.flds[0]? = some a0 := by rw [hf0]; rfl
  obtain ⟨fs, _, _, rfl, hsz, _⟩ := fldB_get h5 h0
  let r : Field → Nat × Nat := fun fd => (fd.offset, ((P.info? fd.type).map (·.size)).getD 0)
  have hr : ∀ w', ∀ x, x ∈ fs.toList → (do pure (x.offset, ← sizeOf x.type) : Sem (Nat × Nat)).run P w' = .ok (r x) w' := by
    intro w' x hx
    obtain ⟨j, hj⟩ := List.mem_iff_getElem?.1 hx
    rw [Array.getElem?_toList] at hj
    have hlt : j < fs.size := (Array.getElem?_eq_some_iff.1 hj).1
    have hl : j < y.i.flds.length := by omega
    obtain ⟨fs', fd', x', e, _, k1, k2, k3, k4, k5⟩ := fldB_get h5 (List.getElem?_eq_getElem hl)
    injection e with e; subst e
    rw [hj] at k1; injection k1 with k1; subst k1
    have : (sizeOf x.type).run P w' = .ok x'.size w' := by
      unfold sizeOf
      rw [Sem.run_bind, run_info k3]; rfl
    rw [Sem.run_bind, this]
    simp [r, k3, go_sem]
  have hm2 : ∀ w', (fs.mapM fun f : Field => (do pure (f.offset, ← sizeOf f.type) : Sem (Nat × Nat))).run P w' = .ok (fs.map r) w' := by
    intro w'
    have hm := run_mapM (P := P) (w := w') (fun f : Field => (do pure (f.offset, ← sizeOf f.type) : Sem (Nat × Nat))) r fs.toList (hr w')
    rw [Array.mapM_eq_mapM_toList, map_eq_pure_bind, Sem.run_bind, hm]
    simp [go_sem]
    apply Array.ext'
    simp
  have hp : ∀ (j o n : Nat), y.i.flds[j]? = some (o, n) → (fs.map r)[j]? = some (o, n) := by
    intro j o n hj
    obtain ⟨fs', fd', x', e, _, k1, k2, k3, k4, k5⟩ := fldB_get h5 hj
    injection e with e; subst e
    rw [Array.getElem?_map, k1]
    simp [r, k3, k2, k4]
  obtain ⟨vr, q1, q2⟩ := fill_rep (e := e) (w := w) hp ps pv _ cs y.i.z.cells.toList h he hv (zs_rep _ _ _)
  refine ⟨.agg vr, by simp only [RepSV]; exact ⟨_, rfl, q2⟩, fun w' => ?_⟩
  unfold Instr.build
  simp only [Sem.run_bind, hz, Result.andThen_ok, run_under hd]
  rw [hm2]
  simp only [Result.andThen_ok]
  simp only [Array.toArray_toList] at q1
  rw [q1]
  simp [go_sem]
end
end Go.Vx


/- Pure operations: all of them; what is asked where more must be known. -/
namespace Go.Vx
open Go.RowKit Go.Vc
section
variable {P : Program} {w : World} {f : Operand → Value} {e : Env}
theorem lk_old {ty : List (Nat × TY)} (hty : Tys P ty) {t : TypeId} {y : TY} (h : lk ty t = some y) : TIok P t y.i := (hty _ _ h).i
theorem nthD {S : Nat → Prop} {w : World} {cs : List D} {off : Nat} {x : D} {ad : Addr} (h : RepC S w cs (some ad) 0) (hx : nth cs off = some x) : ∃ v, S ad.block ∧ w.cell? (ad.add off) = some v ∧ RepD S w x v := by
  rw [nth_eq] at hx
  obtain ⟨ad', v, e1, h1, h2, h3⟩ := h.get hx
  injection e1 with e1; subst e1
  exact ⟨v, h1, by simpa using h2, h3⟩
def ldB : Op → Bool
  | .load _ _ => true
  | _ => false
theorem pOp_sound {ty : List (Nat × TY)} (hty : Tys P ty) {T : Tl} {H : Hp} (hT : TmOk e w T f) (hH : ObsOk e w H) {o : Oper} {sv : SV} (h : pOp ty T H o.op = some sv) :
    ∃ v, RepSV e w sv v ∧ ∀ w', (ldB o.op = true → Agr e H w w') → (execOp f o).run P w' = .ok (.value v) w' := by
  obtain ⟨dst, op, type, pos, after, guard⟩ := o
  simp only at h
  unfold pOp at h
  split at h <;> try (cases h; done)
  · exact ⟨_, hT _ _ h, fun w' _ => by simp only [execOp]; rfl⟩
  · exact ⟨_, hT _ _ h, fun w' _ => by simp only [execOp]; rfl⟩
  · rename_i x i
    split at h <;> try (cases h; done)
    rename_i l hx
    have := hT _ _ hx
    simp only [RepSV] at this
    obtain ⟨l', hv, h1⟩ := this
    rw [nth_eq] at h
    obtain ⟨v, h2, h3⟩ := h1.get h
    refine ⟨v, h3, fun w' _ => ?_⟩
    simp only [execOp]
    refine run_val ?_
    rw [hv]
    rw [Array.getElem?_toList] at h2
    simp only [Instr.extract, h2]; rfl
  · rename_i x
    split at h <;> try (cases h; done)
    · rename_i b hx
      injection h with h; subst h
      have := hT _ _ hx
      simp only [RepSV, RepD] at this
      refine ⟨.bool !b, by simp only [RepSV, RepD], fun w' _ => ?_⟩
      simp only [execOp]
      refine run_val ?_
      rw [this]; rfl
    · rename_i b hx
      injection h with h; subst h
      have := hT _ _ hx
      simp only [RepSV] at this
      refine ⟨.bool !b, by simp only [RepSV], fun w' _ => ?_⟩
      simp only [execOp]
      refine run_val ?_
      rw [this]; rfl
  · rename_i x
    split at h <;> try (cases h; done)
    rename_i k n hx
    injection h with h; subst h
    have := hT _ _ hx
    simp only [RepSV, RepD] at this
    refine ⟨_, by simp only [RepSV, RepD]; rfl, fun w' _ => ?_⟩
    simp only [execOp]
    refine run_val ?_
    rw [this]; rfl
  · rename_i op' t x y t'
    split at h <;> try (cases h; done)
    rename_i z hz
    split at h <;> try (cases h; done)
    rename_i a b hx hy
    obtain ⟨v, h1, h2⟩ := binB_sound hty hz (x := x) (y := y) h (hT _ _ hx) (hT _ _ hy)
    refine ⟨v, h1, fun w' _ => ?_⟩
    simp only [execOp]
    exact run_val (h2 w')
  · rename_i s x fd
    split at h <;> try (cases h; done)
    rename_i y hs
    split at h <;> try (cases h; done)
    rename_i o n hf
    have hlk : lk (ty.map fun p => (p.1, p.2.i)) s = some y.i := by rw [lk_map, hs]; rfl
    have hfa : ∀ (a : Addr) w', (Instr.fieldAt s (.pointer (some a)) fd).run P w' = .ok (.pointer (some (a.add o))) w' := fun a w' => fieldAt_sound hty.old hlk hf a
    split at h <;> try (cases h; done)
    · rename_i j off hx
      injection h with h; subst h
      have := hT _ _ hx
      simp only [RepSV] at this
      obtain ⟨g, h1, hv⟩ := this
      refine ⟨.pointer (some ⟨g, off + o, none⟩), by simp only [RepSV]; exact ⟨g, h1, rfl⟩, fun w' _ => ?_⟩
      simp only [execOp]
      refine run_val ?_
      rw [hv, hfa, add_own]
    · rename_i j off hx
      injection h with h; subst h
      have := hT _ _ hx
      simp only [RepSV] at this
      obtain ⟨ad, n', c, h1, hv⟩ := this
      refine ⟨.pointer (some (ad.add (off + o))), by simp only [RepSV]; exact ⟨ad, n', c, h1, rfl⟩, fun w' _ => ?_⟩
      simp only [execOp]
      refine run_val ?_
      rw [hv, hfa, add_add]
    · rename_i cs off hx
      injection h with h; subst h
      have := hT _ _ hx
      simp only [RepSV, RepD] at this
      obtain ⟨ad, hv, h1⟩ := this
      refine ⟨.pointer (some (ad.add (off + o))), by simp only [RepSV, RepD]; exact ⟨ad, rfl, h1⟩, fun w' _ => ?_⟩
      simp only [execOp]
      refine run_val ?_
      rw [hv, hfa, add_add]
  · rename_i x
    split at h <;> try (cases h; done)
    · rename_i j o' hx
      injection h with h; subst h
      have hr := hT _ _ hx
      have := hr
      simp only [RepSV] at this
      obtain ⟨g, h1, hv⟩ := this
      refine ⟨_, hr, fun w' _ => ?_⟩
      simp only [execOp]; rw [hv]; rfl
    · rename_i j o' hx
      injection h with h; subst h
      have hr := hT _ _ hx
      have := hr
      simp only [RepSV] at this
      obtain ⟨g, _, _, h1, hv⟩ := this
      refine ⟨_, hr, fun w' _ => ?_⟩
      simp only [execOp]; rw [hv]; rfl
    · rename_i cs off hx
      injection h with h; subst h
      have hr := hT _ _ hx
      have := hr
      simp only [RepSV, RepD] at this
      obtain ⟨g, hv, _⟩ := this
      refine ⟨_, hr, fun w' _ => ?_⟩
      simp only [execOp]; rw [hv]; rfl
    · rename_i g a b hx
      injection h with h; subst h
      have hr := hT _ _ hx
      have := hr
      simp only [RepSV, RepD] at this
      obtain ⟨a', b', hv, _⟩ := this
      refine ⟨_, hr, fun w' _ => ?_⟩
      simp only [execOp]; rw [hv]; rfl
    · rename_i g a b hx
      injection h with h; subst h
      have hr := hT _ _ hx
      have := hr
      simp only [RepSV] at this
      obtain ⟨a', b', hv, _⟩ := this
      refine ⟨_, hr, fun w' _ => ?_⟩
      simp only [execOp]; rw [hv]; rfl
  · rename_i t x
    split at h <;> try (cases h; done)
    rename_i y hy
    have hyi := lk_old hty hy
    split at h <;> try (cases h; done)
    · rename_i j off hx
      have hr := hT _ _ hx
      simp only [RepSV] at hr
      obtain ⟨g, hm, hv⟩ := hr
      split at h <;> try (cases h; done)
      rename_i t1 cs hj
      obtain ⟨g', vs, hm', hh, hcs⟩ := hH _ _ hj
      rw [hm] at hm'; injection hm' with hm'; injection hm' with hm'; injection hm' with hm'; injection hm' with hm'
      subst hm'
      have hcell : ∀ w', Agr e H w w' → ∀ o, w'.cell? ⟨g, o, none⟩ = vs[o]? := fun w' hw o => cell_own (by rw [hw.2 j t1 cs g hj ⟨_, hm, rfl⟩]; exact hh) o
      split at h
      · rename_i hagg
        split at h <;> try (cases h; done)
        rename_i l hl
        injection h with h; subst h
        obtain ⟨rfl, h2⟩ := takeF_eq _ _ _ hl
        rw [dropN_eq] at h2 ⊢
        refine ⟨.agg ((vs.toList.drop off).take y.i.size).toArray, ?_, fun w' hw => ?_⟩
        · simp only [RepSV]
          refine ⟨_, rfl, RepSVs.mk ?_ fun i x' v h3 h4 => ?_⟩
          · have := hcs.len; simp at this ⊢; omega
          · rw [List.getElem?_take] at h3
            simp only [List.getElem?_take] at h4
            split at h3
            · rename_i hi
              rw [if_pos hi, List.getElem?_drop] at h4
              rw [List.getElem?_drop] at h3
              obtain ⟨u, h5, h6⟩ := hcs.get h3
              rw [h4] at h5; injection h5 with h5; subst h5; exact h6
            · cases h3
        · have hw := hw rfl
          simp only [execOp]
          refine run_val ?_
          rw [hv]
          simp only [Instr.loadAt, Sem.run_bind, Instr.sureAddr, Sem.run_pure, Result.andThen_ok]
          refine run_loadVar hyi ?_ (fun k v hk => ?_) hagg
          · have := hcs.len; simp at this h2 ⊢; omega
          · rw [add_own, hcell w' hw]
            rw [List.getElem?_take] at hk
            split at hk
            · rw [List.getElem?_drop, Array.getElem?_toList] at hk; exact hk
            · cases hk
      · rename_i hagg
        rw [nth_eq] at h
        obtain ⟨v, h1, h2⟩ := hcs.get h
        refine ⟨v, h2, fun w' hw => ?_⟩
        have hw := hw rfl
        simp only [execOp]
        refine run_val ?_
        rw [hv]
        simp only [Instr.loadAt, Sem.run_bind, Instr.sureAddr, Sem.run_pure, Result.andThen_ok]
        refine run_loadVar1 hyi ?_ hagg
        rw [hcell w' hw, ← Array.getElem?_toList]; exact h1
    · rename_i cs off hx
      have hr := hT _ _ hx
      simp only [RepSV, RepD] at hr
      obtain ⟨ad, hv, hc⟩ := hr
      split at h
      · rename_i hagg
        split at h <;> try (cases h; done)
        rename_i l hl
        injection h with h; subst h
        obtain ⟨rfl, h2⟩ := takeF_eq _ _ _ hl
        rw [dropN_eq] at h2 ⊢
        obtain ⟨xs, k1, k2⟩ := (hc.drop off).cells
        have hlen := k1.len
        refine ⟨.agg (xs.take y.i.size).toArray, ?_, fun w' hw => ?_⟩
        · simp only [RepSV]
          refine ⟨_, rfl, ?_⟩
          rw [dL_map]
          exact RepSVs.ofD.1 (k1.take _)
        · have hw := hw rfl
          simp only [execOp]
          refine run_val ?_
          rw [hv]
          simp only [Instr.loadAt, Sem.run_bind, Instr.sureAddr, Sem.run_pure, Result.andThen_ok]
          refine run_loadVar hyi (by simp; omega) (fun k v hk => ?_) hagg
          rw [List.getElem?_take] at hk
          split at hk
          · obtain ⟨q1, q2⟩ := k2 k v hk
            exact hw.1.cell (by rw [add_block]; exact q1) (by simpa using q2)
          · cases hk
      · rename_i hagg
        split at h <;> try (cases h; done)
        rename_i x' hx'
        injection h with h; subst h
        obtain ⟨v, h1, h2, h3⟩ := nthD hc hx'
        refine ⟨v, by simpa only [RepSV] using h3, fun w' hw => ?_⟩
        have hw := hw rfl
        simp only [execOp]
        refine run_val ?_
        rw [hv]
        simp only [Instr.loadAt, Sem.run_bind, Instr.sureAddr, Sem.run_pure, Result.andThen_ok]
        exact run_loadVar1 hyi (hw.1.cell (by rw [add_block]; exact h1) h2) hagg
  · rename_i as ts
    obtain ⟨v, h1, h2⟩ := lenOp_sound hty hT hH (t0 := type) h
    refine ⟨v, h1, fun w' _ => ?_⟩
    simp only [execOp, resolve, invoke, builtin, Sem.run_bind, Sem.run_pure, Result.andThen_ok, h2]
  · rename_i t ps
    split at h <;> try (cases h; done)
    rename_i y hy
    split at h <;> try (cases h; done)
    rename_i l a0 b0 hl hf
    split at h <;> try (cases h; done)
    rename_i cs hcs
    injection h with h; subst h
    obtain ⟨e1, e2⟩ := evp_rep hT _ _ hl
    obtain ⟨v, h1, h2⟩ := build_rep (pv := ps.toList.map fun p => (p.1, f p.2)) hty hy (by rw [hf]; simp) hcs (by simpa [Function.comp_def] using e1) (by simpa [Function.comp_def] using e2)
    refine ⟨v, h1, fun w' _ => ?_⟩
    simp only [execOp]
    refine run_val ?_
    rw [← h2 w']
    congr 2
    apply Array.ext'
    simp
  · rename_i g a b
    split at h <;> try (cases h; done)
    rename_i x y hx hy
    injection h with h; subst h
    have h1 := evs_rep hT _ _ hx
    have h2 := evs_rep hT _ _ hy
    refine ⟨.func (.func g) (a.map f) (b.map f), by simp only [RepSV]; exact ⟨_, _, rfl, by simpa using h1, by simpa using h2⟩, fun w' _ => ?_⟩
    simp only [execOp]
    exact run_val rfl
  · rename_i t x
    split at h <;> try (cases h; done)
    rename_i y hy
    split at h <;> try (cases h; done)
    rename_i hif
    split at h <;> try (cases h; done)
    rename_i a hx
    injection h with h; subst h
    obtain ⟨_, d, _, hd, _, _, _, _, _, _, _, h8⟩ := (lk_old hty hy).get
    refine ⟨.iface t (f x), by simp only [RepSV]; exact ⟨_, rfl, hT _ _ hx⟩, fun w' _ => ?_⟩
    simp only [execOp]
    refine run_val ?_
    rw [hif] at h8
    unfold Instr.makeInterface
    rw [Sem.run_bind, run_under hd]
    simp only [Result.andThen_ok]
    cases d <;> first | rfl | simp [ifcB] at h8
  · rename_i s t x
    split at h <;> try (cases h; done)
    rename_i a b ha hb
    split at h <;> try (cases h; done)
    · rename_i k0 k k1 n hka hkb hx
      injection h with h; subst h
      have := hT _ _ hx
      simp only [RepSV, RepD] at this
      have hs := (hty _ _ ha).int hka
      have ht := (hty _ _ hb).int hkb
      refine ⟨_, by simp only [RepSV, RepD]; rfl, fun w' _ => ?_⟩
      simp only [execOp]
      refine run_val ?_
      rw [this]
      unfold convert
      simp only [Sem.run_bind, run_under hs, run_under ht, Result.andThen_ok]
      rfl
    · rename_i s' hka hkb hx
      injection h with h; subst h
      have := hT _ _ hx
      simp only [RepSV, RepD] at this
      have hs := (hty _ _ ha).str hka
      have ht := (hty _ _ hb).str hkb
      refine ⟨_, by simp only [RepSV, RepD]; rfl, fun w' _ => ?_⟩
      simp only [execOp]
      refine run_val ?_
      rw [this]
      unfold convert
      simp only [Sem.run_bind, run_under hs, run_under ht, Result.andThen_ok]
      rfl
end
end Go.Vx


