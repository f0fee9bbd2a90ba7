/- Types (api.Type) as plain data, and how they lie in memory. -/
import Derived.Test.YtohmeplcjgmedaaDoorVci
namespace Go.Vc
open Go.RowKit

theorem wrap_small {a : Int} (h0 : -9223372036854775808 ≤ a) (h1 : a ≤ 9223372036854775807) : IntKind.i64.wrap a = a := IntWalk.i64_in a ⟨h0, h1⟩
theorem add_add (a : Addr) (m n : Nat) : (a.add m).add n = a.add (m + n) := by
  unfold Addr.add
  by_cases h1 : m = 0 <;> by_cases h2 : n = 0 <;> simp [h1, h2, Nat.add_assoc]

/-- api.Type: a kind, a number, kids. -/
inductive Tp where
  | mk (k n : Int) (kids : List Tp)
def Tp.k : Tp → Int
  | .mk k _ _ => k
def Tp.n : Tp → Int
  | .mk _ n _ => n
def Tp.kids : Tp → List Tp
  | .mk _ _ l => l
theorem Tp.eta (t : Tp) : Tp.mk t.k t.n t.kids = t := by cases t; rfl
theorem Tp.ind {Q : Tp → Prop} (h : ∀ k n ks, (∀ t ∈ ks, Q t) → Q (.mk k n ks)) : ∀ t, Q t
  | .mk k n ks => h k n ks (go ks)
where
  go : ∀ ks : List Tp, ∀ t ∈ ks, Q t
    | [], t, ht => by cases ht
    | x :: r, t, ht => by
      rcases List.mem_cons.1 ht with e | e
      · rw [e]; exact Tp.ind h x
      · exact go r t e

def LIM : Nat := 3518437208780

mutual
/-- Value v is type t, in world w, by the blocks of S. -/
def RepT (S : Nat → Prop) (w : World) : Tp → Value → Prop
  | .mk k n ks, v => ∃ A c, v = .agg #[.int .i64 k, .int .i64 n, .slice A ks.length c] ∧ ks.length ≤ c ∧ ks.length ≤ LIM ∧ RepKs S w ks A 0
def RepKs (S : Nat → Prop) (w : World) : List Tp → Option Addr → Nat → Prop
  | [], _, _ => True
  | t :: r, A, j => (∃ ad v0 v1 v2, A = some ad ∧ S ad.block ∧ w.cell? (ad.add (j * 3)) = some v0 ∧ w.cell? (ad.add (j * 3 + 1)) = some v1 ∧ w.cell? (ad.add (j * 3 + 2)) = some v2 ∧ RepT S w t (.agg #[v0, v1, v2])) ∧ RepKs S w r A (j + 1)
end

theorem RepT.opn {S : Nat → Prop} {w : World} {t : Tp} {v : Value} (h : RepT S w t v) : ∃ A c, v = .agg #[.int .i64 t.k, .int .i64 t.n, .slice A t.kids.length c] ∧ t.kids.length ≤ c ∧ t.kids.length ≤ LIM ∧ RepKs S w t.kids A 0 := by
  cases t; simpa only [RepT, Tp.k, Tp.n, Tp.kids] using h
theorem RepT.mk' {S : Nat → Prop} {w : World} {t : Tp} {A : Option Addr} {c : Nat} (h1 : t.kids.length ≤ c) (h2 : t.kids.length ≤ LIM) (h3 : RepKs S w t.kids A 0) : RepT S w t (.agg #[.int .i64 t.k, .int .i64 t.n, .slice A t.kids.length c]) := by
  cases t; simp only [RepT, Tp.k, Tp.n, Tp.kids] at *; exact ⟨A, c, rfl, h1, h2, h3⟩

mutual
theorem RepT.to {S S' : Nat → Prop} {w w' : World} (hs : Same S w w') (hS : ∀ k, S k → k < w.heap.size → S' k) : ∀ {t : Tp} {v : Value}, RepT S w t v → RepT S' w' t v
  | .mk k n ks, v, h => by
    simp only [RepT] at h ⊢
    obtain ⟨A, c, e, h1, h2, h3⟩ := h
    exact ⟨A, c, e, h1, h2, RepKs.to hs hS h3⟩
theorem RepKs.to {S S' : Nat → Prop} {w w' : World} (hs : Same S w w') (hS : ∀ k, S k → k < w.heap.size → S' k) : ∀ {ks : List Tp} {A : Option Addr} {j : Nat}, RepKs S w ks A j → RepKs S' w' ks A j
  | [], _, _, _ => by simp only [RepKs]
  | t :: r, A, j, h => by
    simp only [RepKs] at h ⊢
    obtain ⟨⟨ad, v0, v1, v2, e, h1, h2, h3, h4, h5⟩, h6⟩ := h
    refine ⟨⟨ad, v0, v1, v2, e, ?_, hs.cell (by rw [add_block]; exact h1) h2, hs.cell (by rw [add_block]; exact h1) h3, hs.cell (by rw [add_block]; exact h1) h4, RepT.to hs hS h5⟩, RepKs.to hs hS h6⟩
    have := World.block_lt_of_cell? w _ h2
    rw [add_block] at this
    exact hS _ h1 this
end

theorem RepKs.get {S : Nat → Prop} {w : World} : ∀ {ks : List Tp} {A : Option Addr} {j i : Nat} {t : Tp}, RepKs S w ks A j → ks[i]? = some t →
    ∃ ad v0 v1 v2, A = some ad ∧ S ad.block ∧ w.cell? (ad.add ((j + i) * 3)) = some v0 ∧ w.cell? (ad.add ((j + i) * 3 + 1)) = some v1 ∧ w.cell? (ad.add ((j + i) * 3 + 2)) = some v2 ∧ RepT S w t (.agg #[v0, v1, v2])
  | [], _, _, _, _, _, h => by simp at h
  | t :: r, A, j, 0, t', h, ht => by
    simp only [RepKs] at h
    simp at ht; subst ht
    exact h.1
  | t :: r, A, j, i + 1, t', h, ht => by
    simp only [RepKs] at h
    have := RepKs.get h.2 (i := i) (by simpa using ht)
    rwa [show j + (i + 1) = j + 1 + i from by omega]

/-- A kid read. -/
theorem RepKs.ld {P : Program} {S : Nat → Prop} {w : World} {tn : TypeId} {ti : TI} (hi : TIok P tn ti) (hsz : ti.size = 3) (hag : ti.agg = true) {ks : List Tp} {A : Option Addr} (h : RepKs S w ks A 0) {i : Nat} {t : Tp} (ht : ks[i]? = some t) :
    ∃ ad A' c', A = some ad ∧ S ad.block ∧ (∀ w', Same S w w' → (loadVar tn (ad.add ((i : Int).toNat * 3))).run P w' = .ok (.agg #[.int .i64 t.k, .int .i64 t.n, .slice A' t.kids.length c']) w') ∧
      t.kids.length ≤ c' ∧ t.kids.length ≤ LIM ∧ RepKs S w t.kids A' 0 ∧ RepT S w t (.agg #[.int .i64 t.k, .int .i64 t.n, .slice A' t.kids.length c']) := by
  obtain ⟨ad, v0, v1, v2, rfl, h1, h2, h3, h4, h5⟩ := h.get ht
  obtain ⟨A', c', e, k1, k2, k3⟩ := h5.opn
  injection e with e
  have e' : [v0, v1, v2] = [.int .i64 t.k, .int .i64 t.n, .slice A' t.kids.length c'] := congrArg Array.toList e
  injection e' with e0 e'; injection e' with e1 e'; injection e' with e2 e'
  subst e0; subst e1; subst e2
  refine ⟨ad, A', c', rfl, h1, fun w' hs => ?_, k1, k2, k3, RepT.mk' k1 k2 k3⟩
  have := run_loadVar (P := P) (w := w') hi (a := ad.add ((i : Int).toNat * 3)) (l := [.int .i64 t.k, .int .i64 t.n, .slice A' t.kids.length c']) (by simp [hsz]) (fun j v hj => ?_) hag
  · exact this
  · rw [add_add]
    have hb : ∀ n, S (ad.add n).block := fun n => by rw [add_block]; exact h1
    simp only [Nat.zero_add] at h2 h3 h4
    match j, hj with
    | 0, hj => simp at hj; subst hj; exact hs.cell (hb _) (by simpa using h2)
    | 1, hj => simp at hj; subst hj; exact hs.cell (hb _) (by simpa using h3)
    | 2, hj => simp at hj; subst hj; exact hs.cell (hb _) (by simpa using h4)
    | j + 3, hj => simp at hj

/-- A number of a slice of numbers read. -/
theorem Cells.ld1 {P : Program} {S : Nat → Prop} {w : World} {tn : TypeId} {ti : TI} (hi : TIok P tn ti) (hag : ti.agg = false) {l : List Value} {A : Option Addr} (h : Cells S w A l) {i : Nat} {v : Value} (ht : l[i]? = some v) :
    ∃ ad, A = some ad ∧ S ad.block ∧ ∀ w', Same S w w' → (loadVar tn (ad.add ((i : Int).toNat * 1))).run P w' = .ok v w' := by
  rcases h with h | ⟨ad, rfl, h1, h2⟩
  · subst h; simp at ht
  · refine ⟨ad, rfl, h1, fun w' hs => run_loadVar1 hi (hs.cell (by rw [add_block]; exact h1) ?_) hag⟩
    have := h2 i v ht
    simpa using this

/-- A slice of types. -/
def RepL (S : Nat → Prop) (w : World) (l : List Tp) (v : Value) : Prop := ∃ A c, v = .slice A l.length c ∧ l.length ≤ c ∧ l.length ≤ LIM ∧ RepKs S w l A 0
theorem RepL.to {S S' : Nat → Prop} {w w' : World} (hs : Same S w w') (hS : ∀ k, S k → k < w.heap.size → S' k) {l : List Tp} {v : Value} (h : RepL S w l v) : RepL S' w' l v := by
  obtain ⟨A, c, e, h1, h2, h3⟩ := h
  exact ⟨A, c, e, h1, h2, h3.to hs hS⟩
/-- A slice of numbers. -/
def RepI (S : Nat → Prop) (w : World) (l : List Int) (v : Value) : Prop := ∃ A c, v = .slice A l.length c ∧ l.length ≤ c ∧ l.length ≤ 17592186044416 ∧ Cells S w A (ints l)
theorem RepI.to {S S' : Nat → Prop} {w w' : World} (hs : Same S w w') (hS : ∀ k, S k → k < w.heap.size → S' k) {l : List Int} {v : Value} (h : RepI S w l v) : RepI S' w' l v := by
  obtain ⟨A, c, e, h1, h2, h3⟩ := h
  exact ⟨A, c, e, h1, h2, h3.to hs hS⟩
end Go.Vc
namespace Go.Vc
open Go.RowKit
section
variable {P : Program} {ty : List (Nat × TI)} {N : Nat} {b : Base} {plans : List (Nat × (List Nat × Pl))}

theorem calls0 (hty : TyOk P ty) (hm : P.follows .mixedOrders = true) {f : FuncId} {fn : Func} {c : Code} {args : List Value} {w : World} {R : Ending → World → Prop}
    (plans : List (Nat × (List Nat × Pl))) (hf : P.funcs[f]? = some fn) (hb : fn.body = some c) (hn : fn.ntmps = N) (ha : args.length ≤ N)
    (h : vcCode P ty N ⟨w, fun _ => False⟩ plans c ⟨numb 0 args, [], [], [], fun _ => False, w⟩ (retK ty ⟨w, fun _ => False⟩ fn.results.toList R)) : Calls P f args.toArray w R :=
  calls_of_vc hty hm hf hb hn ha (fun _ => False) (fun _ h => h.elim) h

/-- A call that makes memory alone leaves what a state says. -/
theorem Wd.on {st : St} {w w' : World} (h : Wd b st w) (hb : Below w.heap.size w w') : Wd b st w' := by
  have h1 := h.call0 hb
  refine ⟨h1.below, Nat.le_trans h.size hb.size, fun k hk => ⟨(h.pub k hk).1, ?_⟩, h1.ent, h1.entN, h1.inj, h1.row, h1.rinj⟩
  rw [hb.block k (by have := (h.pub k hk).1; have := h.size; omega)]
  exact (h.pub k hk).2
/-- Behind a call whose answer is one value. -/
theorem scalK {f : FuncId} {args : Array Value} {w : World} {v : Value} {dst : Option Tmp} {st : St} {K : St → Prop} (hc : Calls P f args w fun e w' => e = .returned v ∧ Below w.heap.size w w') (hw : Wd b st w)
    (hk : putK N dst (.v v) st K) : Calls P f args w fun e w' => ∃ v, e = .returned v ∧ AfterK N b dst st K v w' :=
  hc.mono fun _ _ ⟨he, hb⟩ => ⟨v, he, st.E, st.R, st.pub, st.s, hw.on hb, hk⟩
/-- What a call gives that leaves all that was there: a value of which more is told. -/
def Res (w : World) (Φ : Value → World → Prop) (e : Ending) (w' : World) : Prop := ∃ v, e = .returned v ∧ Φ v w' ∧ Below w.heap.size w w'
theorem resK {f : FuncId} {args : Array Value} {w : World} {Φ : Value → World → Prop} {dst : Option Tmp} {T : Tl} {ρ : List Nat} {E : El} {R : List Row} {pub : Nat → Prop} {s : World} {K : St → Prop} (hc : Calls P f args w (Res w Φ)) (hw : Wd b ⟨T, ρ, E, R, pub, s⟩ w)
    (hk : ∀ v w', Φ v w' → Below w.heap.size w w' → Wd b ⟨T, ρ, E, R, extP pub w w', w'⟩ w' → putK N dst (.v v) ⟨T, ρ, E, R, extP pub w w', w'⟩ K) : Calls P f args w fun e w' => ∃ v, e = .returned v ∧ AfterK N b dst ⟨T, ρ, E, R, pub, s⟩ K v w' :=
  hc.mono fun _ w' ⟨v, he, hv, hb⟩ => ⟨v, he, E, R, extP pub w w', w', hw.call hb, hk v w' hv hb (hw.call hb)⟩
/-- The blocks of S, and those that have come since w. -/
def ext (S : Nat → Prop) (w : World) (k : Nat) : Prop := S k ∨ w.heap.size ≤ k
end
end Go.Vc
namespace Go.Vc
theorem inc {i : Nat} (h : i < 9223372036854775807) : IntKind.i64.wrap ((i : Int) + 1) = ((i + 1 : Nat) : Int) := by
  rw [wrap_small (by omega) (by omega)]; rfl
theorem incV {i : Nat} (h : i < 9223372036854775807) : Value.int .i64 (IntKind.i64.wrap ((i : Int) + 1)) = Value.int .i64 ((i + 1 : Nat) : Int) := by rw [inc h]
end Go.Vc
namespace Go.Vc
theorem retI {a b : Int} (h : a = b) : Ending.returned (.int .i64 a) = Ending.returned (.int .i64 b) := by rw [h]
theorem retB {a b : Bool} (h : a = b) : Ending.returned (.bool a) = Ending.returned (.bool b) := by rw [h]
theorem retS {a b : ByteArray} (h : a = b) : Ending.returned (.string a) = Ending.returned (.string b) := by rw [h]
end Go.Vc
namespace Go.Vc
/-- An own block's cells. -/
theorem Wd.own {b : Base} {st : St} {w : World} (h : Wd b st w) {i : Nat} {cs : List SV} {t : TypeId} (hi : lk st.E i = some (cs, t)) : Cells (fun _ => True) w (some ⟨st.ρ.getD i 0, 0, none⟩) (denL st.ρ cs) := by
  refine .inr ⟨_, rfl, trivial, fun j v hj => ?_⟩
  rw [add_own, cell_own (h.ent i cs t hi), List.getElem?_toArray, Nat.zero_add]
  exact hj
end Go.Vc
