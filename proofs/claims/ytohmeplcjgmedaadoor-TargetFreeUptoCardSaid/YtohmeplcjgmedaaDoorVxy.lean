/- Laws of operations: assertions of types of closed data. -/
import Derived.Test.YtohmeplcjgmedaaDoorVxx
namespace Go.Vx
open Go.RowKit Go.Vc
set_option linter.unusedVariables false
set_option linter.unusedSimpArgs false

section
variable {P : Program} {G : Glob} {ty : List (Nat × TY)} {N n0 : Nat} {b : Bs G n0}

def notIfc (P : Program) (t : TypeId) : Bool :=
  match P.underlying t with
  | some (.interface _) => false
  | some _ => true
  | none => false
/-- v, ok := x.(T), of closed data. -/
theorem tassD {kp : Bool} {o : Oper} {st : St} {K : SExit → St → Prop} {x : Operand} {xt t : TypeId} {y : D} (ho : o.op = .typeAssert x xt t true) (hx : ev st.T x = some (.d (.ifc t y))) (hn : notIfc P t = true)
    (hk : putK N o.dst (.tup [.d y, .kb true]) st (K .normal)) : OpC P b N kp o st K := by
  obtain ⟨d, hu, hd⟩ : ∃ d, P.underlying t = some d ∧ ∀ m, d ≠ .interface m := by
    unfold notIfc at hn
    split at hn
    · cases hn
    · rename_i d hd hu; exact ⟨_, hu, fun m h => hd m (by rw [← h]; first | done | exact hu)⟩
    · cases hn
  refine valC _ (fun e a w hok => ?_) hk
  have h1 := hok.tmok _ _ hx
  simp only [RepSV, RepD] at h1
  obtain ⟨v, hv, hy⟩ := h1
  refine ⟨.tuple #[v, .bool true], ?_, ?_⟩
  · simp only [RepSV, RepSVs]
    exact ⟨_, rfl, _, _, rfl, hy, _, _, rfl, rfl, rfl⟩
  · obtain ⟨dst, op, type, pos, after, guard⟩ := o
    simp only at ho; subst ho
    simp only [execOp]
    refine run_val ?_
    rw [hv]
    unfold Instr.typeAssert
    simp only [Sem.run_bind, run_under hu, Result.andThen_ok]
    cases d <;> first | (exfalso; exact hd _ rfl) | (simp only [if_true]; rfl)
/-- A contract, where less is asked of the worlds. -/
theorem FnQ.to {G' : Glob} {f : FuncId} {ds : List D} {Q : DOut → Prop} (h : FnQ P G f ds Q) (hp : ∀ S w, G'.p S w → G.p S w) (hd : ∀ w w', G.d w w' → G'.d w w') : FnQ P G' f ds Q := by
  intro S w vs h1 h2 h3
  refine (h S w vs h1 h2 (hp S w h3)).mono ?_
  rintro en w' ⟨o, S', q1, q2, ⟨q3, q4⟩, q5⟩
  exact ⟨o, S', q1, q2, ⟨q3, hd _ _ q4⟩, q5⟩
/-- A struct of an int and a string. -/
def IsIt (X : SV) (a : Int) (s : ByteArray) : Prop := ∀ (e : Env) (w : World) (v : Value), RepSV e w X v → v = .agg #[.int .i64 a, .string s]
theorem isIt1 (a : Int) (s : ByteArray) : IsIt (.agg [.d (.int .i64 a), .d (.str s)]) a s := by
  intro e w v h
  simp only [RepSV, RepSVs, RepD] at h
  obtain ⟨l', rfl, _, _, hl, rfl, _, _, rfl, rfl, rfl⟩ := h
  congr 1; apply Array.ext'; exact hl
theorem isIt2 (a : Int) (s : ByteArray) : IsIt (.d (.agg [.int .i64 a, .str s])) a s := by
  intro e w v h
  simp only [RepSV, RepD, RepDs] at h
  obtain ⟨l', rfl, _, _, hl, rfl, _, _, rfl, rfl, rfl⟩ := h
  congr 1; apply Array.ext'; exact hl
/-- What is told of such a type. -/
structure ItTy (P : Program) (t : TypeId) : Prop where
  u : P.underlying t = some (.struct (P.fieldsOf t))
  h : P.stoodInHeld t = false
  g : P.eqGuardType P.depth t = false
  f : ∀ (a b : Int) (s u : ByteArray) (w : World), (Op.eqFields 9999 #[.int .i64 a, .string s] #[.int .i64 b, .string u] (P.fieldsOf t).toList).run P w = .ok (a == b && s.toList == u.toList) w
/-- Two structs of an int and a string: are they unlike? -/
theorem neqItC {t t' : TypeId} (I : ItTy P t) {kp : Bool} {o : Oper} {st : St} {K : SExit → St → Prop} {x y : Operand} {X Y : SV} {a b' : Int} {s u : ByteArray} (ho : o.op = .binOp .neq t x y t') (hx : ev st.T x = some X) (hy : ev st.T y = some Y) (h1 : IsIt X a s) (h2 : IsIt Y b' u) {c : Bool} (hc : (!(a == b' && s.toList == u.toList)) = c)
    (hk : putK N o.dst (.d (.bool c)) st (K .normal)) : OpC P b N kp o st K := by
  subst hc
  refine valC _ (fun e w' w hok => ?_) hk
  have e1 := h1 _ _ _ (hok.tmok _ _ hx)
  have e2 := h2 _ _ _ (hok.tmok _ _ hy)
  refine ⟨.bool (!(a == b' && s.toList == u.toList)), by simp only [RepSV, RepD], ?_⟩
  obtain ⟨dst, op, type, pos, after, guard⟩ := o
  simp only at ho; subst ho
  simp only [execOp]
  refine run_val ?_
  rw [e1, e2, Sem.run_bind, run_eqGuard_agg _ _ _ _ _ _ _ I.g]
  simp only [Result.andThen_ok]
  rw [run_neq_struct, show (10000 : Nat) = 9999 + 1 from rfl, run_equalIn_agg _ _ _ _ _ I.u I.h, I.f]
  rfl
theorem setC_len {α : Type} : ∀ (k : Nat) (x : α) (l : List α), (setC k x l).length = l.length := by
  intro k x l
  induction l generalizing k with
  | nil => simp [setC]
  | cons y r ih => cases k <;> simp [setC, ih]
/-- An own block's cell, said otherwise. -/
theorem weak_cell {T : Tl} {H : Hp} {n : Nat} (i c : Nat) (y : SV) {t : TypeId} {cs : List SV} {x : SV} (hi : lk H i = some (.blk t cs)) (hc : cs[c]? = some x) (hxy : ∀ (e : Env) (w : World) (v : Value), RepSV e w x v → RepSV e w y v) : Weak b N ⟨T, H, n⟩ ⟨T, (i, .blk t (setC c y cs)) :: H, n⟩ := by
  intro e a w h
  have hb := h.hp.ob i _ hi
  have has' : ∀ j, has ((i, Ob.blk t (setC c y cs)) :: H) j → has H j := by
    intro j hj
    unfold has at hj ⊢
    rw [lk] at hj
    split at hj
    · rename_i e'; obtain rfl := nbeq.1 e'; rw [hi]; rfl
    · exact hj
  refine ⟨e, fun _ h => h, h.sz, h.df, h.len, h.tm, ⟨fun j o hj => ?_, fun j j' k h1 h2 => h.hp.sep j j' k (has' j h1) (has' j' h2), fun j k h1 => h.hp.npub j k (has' j h1), h.hp.pubLt⟩, h.below, h.dr, fun j k h1 => h.mine j k (has' j h1), h.frm, h.pre, h.gl⟩
  rw [lk] at hj
  split at hj
  · rename_i e'
    obtain rfl := nbeq.1 e'
    injection hj with hj; subst hj
    obtain ⟨g, vs, h1, h2, h3⟩ := hb
    refine ⟨g, vs, h1, h2, RepSVs.mk (by have := h3.len; rw [setC_len]; omega) fun q z v hx hv => ?_⟩
    rw [setC_get] at hx
    split at hx
    · rename_i hq
      injection hx with hx; subst hx
      obtain ⟨u, hu1, hu2⟩ := h3.get hc
      rw [hq.1, hu1] at hv; injection hv with hv; subst hv
      exact hxy _ _ _ hu2
    · obtain ⟨u, hu1, hu2⟩ := h3.get hx
      rw [hu1] at hv; injection hv with hv; subst hv
      exact hu2
  · exact h.hp.ob j o hj
/-- No slice, as data. -/
theorem nl_data {eb : Nat} (e : Env) (w : World) (v : Value) (h : RepSV e w .nl v) : RepSV e w (.d (slD eb 0 [])) v := by
  simp only [RepSV] at h
  subst h
  simp only [RepSV, slD, ebn, RepD]
  exact ⟨none, 0, rfl, Nat.le_refl _, by simp, by simp, by simp only [RepC]⟩
end
end Go.Vx
