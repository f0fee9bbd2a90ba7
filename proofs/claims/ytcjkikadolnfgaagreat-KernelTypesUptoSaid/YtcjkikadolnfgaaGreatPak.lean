/- Texts of mine, joined: Vxx Vxy Vxall. -/
import Derived.Test.YtcjkikadolnfgaaGreatPaj
import Derived.LaidEql
import Derived.Test.YtcjkikadolnfgaaGreatPai
/- Laws of operations: assertions of types, slices cut, structs and pointers compared. -/
namespace Go.Vx
open Go.RowKit Go.Vc
set_option linter.unusedVariables false
set_option linter.unusedSimpArgs false

section
variable {P : Program} {G : Glob} {ty : List (Nat × TY)} {N n0 : Nat} {b : Bs G n0}

/-- v, ok := x.(T), of a type that is no interface, and is the one that is held. -/
theorem tassC {d : TypeDesc} {kp : Bool} {o : Oper} {st : St} {K : SExit → St → Prop} {x : Operand} {xt t : TypeId} {y : SV} (ho : o.op = .typeAssert x xt t true) (hx : ev st.T x = some (.ifc t y)) (hu : P.underlying t = some d) (hd : ∀ m, d ≠ .interface m)
    (hk : putK N o.dst (.tup [y, .kb true]) st (K .normal)) : OpC P b N kp o st K := by
  refine valC _ (fun e a w hok => ?_) hk
  have h1 := hok.tmok _ _ hx
  simp only [RepSV] at h1
  obtain ⟨v, hv, hy⟩ := h1
  refine ⟨.tuple #[v, .bool true], ?_, ?_⟩
  · simp only [RepSV, RepSVs]
    exact ⟨_, rfl, _, _, rfl, hy, _, _, rfl, rfl, rfl⟩
  · obtain ⟨dst, op, type, pos, after, guard⟩ := o
    simp only at ho; subst ho
    simp only [execOp]
    refine run_val ?_
    rw [hv]
    unfold Instr.typeAssert
    simp only [Sem.run_bind, run_under hu, Result.andThen_ok]
    cases d <;> first | (exfalso; exact hd _ rfl) | (simp only [if_true]; rfl)
/-- An own slice's name stands for another slice of it now. -/
theorem Ok.rename {e : Env} {st : St} {a : Act} {w : World} (h : Ok b N e st a w) {i : Nat} {el : TypeId} {eb sz n m : Nat} {xs ys : List D} {A A' : Option Addr} {c c' : Nat} (hi : lk st.H i = some (.row el eb sz n xs)) (hm : e.m[i]? = some (.slice A n c))
    {vs : List Value} (hrow : RowOk w ⟨.slice A' m c', el, sz, vs⟩) (hys : RepDs e.pub w ys vs) (hlim : m * eb ≤ LB) (hA : Go.Vc.rowB (.slice A' m c') = Go.Vc.rowB (.slice A n c) ∨ Go.Vc.rowB (.slice A' m c') = none) (dr : Nat → Bool) :
    ∃ e' : Env, e'.m[i]? = some (.slice A' m c') ∧ KeptP e w e' w ∧ Ok b N e' ⟨scrubT (fun k => Nat.beq k i || dr k) st.T, (i, .row el eb sz m ys) :: scrubH (fun k => Nat.beq k i || dr k) (without (fun k => Nat.beq k i || dr k) st.H), st.n⟩ a w := by
  have hil : i < e.m.length := (List.getElem?_eq_some_iff.1 hm).1
  have hnew : (e.m.set i (.slice A' m c'))[i]? = some (.slice A' m c') := by simp [hil]
  have hne : ∀ (j : Nat) v, j ≠ i → e.m[j]? = some v → (e.m.set i (.slice A' m c'))[j]? = some v := fun j v hj hv => by
    rw [List.getElem?_set_ne (Ne.symm hj)]; exact hv
  have one : ∀ q, has [(i, Ob.row el eb sz m ys)] q → q = i := by
    intro q hq
    unfold has at hq
    simp only [lk] at hq
    split at hq
    · rename_i e'; exact (nbeq.1 e').symm
    · cases hq
  have hft : ∀ k, foot ⟨e.m.set i (.slice A' m c'), e.pub⟩ i k → foot e i k := by
    rintro k ⟨v, h1, h2⟩
    have h1 : (e.m.set i (.slice A' m c'))[i]? = some v := h1
    rw [hnew] at h1; injection h1 with h1; subst h1
    rw [footB_slice] at h2
    rcases hA with hA | hA
    · rw [hA] at h2
      exact ⟨_, hm, by rw [footB_slice]; exact h2⟩
    · rw [hA] at h2; cases h2
  have hmm : ∀ (j : Nat) v, e.m[j]? = some v → (∀ A n c, v = .slice A n c → (Nat.beq j i || dr j) = false) → (e.m.set i (.slice A' m c'))[j]? = some v := by
    intro j v hj hv
    rcases Decidable.em (j = i) with hji | hji
    · rw [hji, hm] at hj
      injection hj with hj
      have hfalse := hv A n c hj.symm
      rw [hji, Nat.beq_refl] at hfalse
      cases hfalse
    · exact hne j v hji hj
  have h1 := h.frame (r := fun k => Nat.beq k i || dr k) (s := fun k => Nat.beq k i || dr k) (fun _ h => h) (e' := ⟨e.m.set i (.slice A' m c'), e.pub⟩) (w' := w) (H' := [(i, .row el eb sz m ys)]) 0 (by simp) (Only.refl _ w) (G.dm (Nat.le_refl _))
    hmm (fun _ h => h) (fun _ h => .inl h)
    ⟨fun j o' hj => ?_, fun j j' k hj hj' hne _ _ => absurd ((one j hj).trans (one j' hj').symm) hne, fun j k hj hk hp => ?_, fun k hk => h.hp.pubLt k hk⟩ (fun j k hj hk => ?_)
  · exact ⟨⟨e.m.set i (.slice A' m c'), e.pub⟩, hnew, ⟨fun _ h => h, Same.rfl' _ _, Nat.le_refl _⟩, h1⟩
  · obtain rfl := one j (by simp [has, hj])
    simp only [lk, Nat.beq_refl] at hj
    injection hj with hj; subst hj
    exact ⟨A', c', vs, hnew, hrow, hys, hlim⟩
  · obtain rfl := one j hj
    exact h.hp.npub j k (by simp [has, hi]) (hft k hk) hp
  · obtain rfl := one j hj
    exact .inl ⟨j, by simp, by simp [has, hi], hft k hk⟩
/-- x[:hi], of an own slice. -/
theorem cutC (hty : Tys P ty) {o : Oper} {st : St} {K : SExit → St → Prop} {t el : TypeId} {y ye : TY} {x hi : Operand} {i : Nat} {eb sz n : Nat} {xs : List D} {kh : IntKind} {j : Int} (dr : Nat → Bool) (m : Nat) (ys : List D) (ho : o.op = .slice t x none (some hi) none) (hy : lk ty t = some y) (hyk : y.kd = .slice el) (hye : lk ty el = some ye) (hx : ev st.T x = some (.row i)) (hi' : lk st.H i = some (.row el eb sz n xs)) (hh : ev st.T hi = some (.d (.int kh j)))
    (hj : j = (m : Int)) (hm : m ≤ n) (hys : xs.take (m * sz) = ys)
    (hk : match st with
      | ⟨T, H, q⟩ => scrubTK (fun k => Nat.beq k i || dr k) T fun T' => withoutK (fun k => Nat.beq k i || dr k) H fun H1 => scrubHK (fun k => Nat.beq k i || dr k) H1 fun H2 => putK N o.dst (.row i) ⟨T', (i, .row el eb sz m ys) :: H2, q⟩ (K .normal)) : OpC P b N false o st K := by
  subst hys; subst hj
  obtain ⟨T, H, q⟩ := st
  simp only [scrubTK_eq, withoutK_eq, scrubHK_eq] at hk
  refine ⟨fun e a w hok => ?_⟩
  have h1 := hok.tmok _ _ hx
  have h2 := hok.tmok _ _ hh
  simp only [RepSV, RepD] at h1 h2
  obtain ⟨A, n', c, hv, hme⟩ := h1
  rw [hv] at hme
  obtain ⟨A2, c2, vs, hme2, hrow, hxs, hlb⟩ := hok.hp.ob _ _ hi'
  rw [hme] at hme2; injection hme2 with hme2; injection hme2 with e1 e2 e3
  subst e1; subst e2; subst e3
  have hcap := hrow.cap
  have hu := (hty _ _ hy).slice hyk
  have hsz := fun w' => Go.Vc.run_sizeOf (P := P) (w := w') (hty _ _ hye).i
  have hr : (execOp a.eval o).run P w = .ok (.value (.slice A m c)) w := by
    obtain ⟨dst, op, type, pos, after, guard⟩ := o
    simp only at ho; subst ho
    simp only [execOp]
    refine run_val ?_
    rw [hv]
    simp only [Option.map_some, Option.map_none, h2, Instr.sliceAt, Sem.run_bind, run_under hu, Result.andThen_ok, Instr.slice, Instr.sliceBounds, Sem.run_pure, if_true]
    rw [run_sliceBound' (by omega) (by omega)]
    simp only [Result.andThen_ok, Sem.run_pure, hsz, Int.toNat_natCast, Nat.zero_mul, Nat.sub_zero]
    have : A.map (·.add 0) = A := by cases A <;> simp [Addr.add]
    simp [this]
  have hle : m * eb ≤ LB := Nat.le_trans (Nat.mul_le_mul_right _ hm) hlb
  obtain ⟨e', g1, kpp, g2⟩ := hok.rename hi' hme (hrow.cut hm) (hxs.take (m * sz)) hle (.inl (by cases A <;> rfl)) dr
  obtain ⟨st', g3, g4, _⟩ := putK_sound (v := .slice A m c) g2 (by simp only [RepSV]; exact ⟨_, _, _, rfl, g1⟩) hk
  rw [hr]
  exact ⟨e', st', ⟨fun h => by (cases h), kpp⟩, g3, g4⟩
/-- Own pointers compared. -/
theorem ptrC (hty : Tys P ty) {e' : TypeId} {ye : TY} {kp : Bool} {o : Oper} {st : St} {K : SExit → St → Prop} {t t' : TypeId} {x y : Operand} {i j : Nat} (eq : Bool) (ho : o.op = .binOp (if eq then .eql else .neq) t x y t') (hu : P.underlying t = some (.pointer e')) (hx : ev st.T x = some (.own i 0)) (hy : ev st.T y = some (.own j 0)) (hye : lk ty e' = some ye) (hsz : ye.i.size ≠ 0) {ti tj : TypeId} {ci cj : List SV} (hi : lk st.H i = some (.blk ti ci)) (hj : lk st.H j = some (.blk tj cj))
    (hk : putK N o.dst (.kb (if eq then Nat.beq i j else !Nat.beq i j)) st (K .normal)) : OpC P b N kp o st K := by
  refine valC _ (fun e a w hok => ?_) hk
  have h1 := hok.tmok _ _ hx
  have h2 := hok.tmok _ _ hy
  simp only [RepSV] at h1 h2
  obtain ⟨g, hm1, hv1⟩ := h1
  obtain ⟨g', hm2, hv2⟩ := h2
  have hgg : (g == g') = Nat.beq i j := by
    rw [Bool.eq_iff_iff, beq_iff_eq, nbeq]
    constructor
    · rintro rfl
      refine Classical.byContradiction fun hne => ?_
      exact hok.hp.sep i j g (by simp [has, hi]) (by simp [has, hj]) hne ⟨_, hm1, rfl⟩ ⟨_, hm2, rfl⟩
    · rintro rfl
      rw [hm1] at hm2; injection hm2 with hm2; injection hm2 with hm2; injection hm2 with hm2; injection hm2 with hm2
  refine ⟨.bool (if eq then Nat.beq i j else !Nat.beq i j), by simp only [RepSV], ?_⟩
  obtain ⟨dst, op, type, pos, after, guard⟩ := o
  simp only at ho; subst ho
  simp only [execOp]
  refine run_val ?_
  rw [hv1, hv2, ← hgg]
  obtain ⟨g1, vs1, q1, q2, _⟩ := hok.hp.ob _ _ hi
  obtain ⟨g2, vs2, q3, q4, _⟩ := hok.hp.ob _ _ hj
  rw [hm1] at q1; injection q1 with q1; injection q1 with q1; injection q1 with q1; injection q1 with q1; subst q1
  rw [hm2] at q3; injection q3 with q3; injection q3 with q3; injection q3 with q3; injection q3 with q3; subst q3
  have heq : (Op.equal t (.pointer (some ⟨g, 0, none⟩)) (.pointer (some ⟨g', 0, none⟩))).run P w = .ok (g == g') w := by
    unfold Op.equal
    rw [show Op.maxDepth = 9999 + 1 from rfl]
    unfold Op.equalIn
    rw [Sem.run_bind, run_under hu]
    simp only [Result.andThen_ok]
    rw [Sem.run_bind, Go.Vc.run_sizeOf (hty _ _ hye).i]
    simp only [Result.andThen_ok]
    rw [if_pos hsz]
    by_cases hgg' : g = g'
    · subst hgg'
      rw [run_sameAddr_same]; simp
    · rw [run_sameAddr_other w (fun e => hgg' (by injection e)) q2 q4]
      simp [hgg']
  cases eq
  · have hg : ∀ (w' : World), (eqGuard .neq t x y (.pointer (some ⟨g, 0, none⟩)) (.pointer (some ⟨g', 0, none⟩))).run P w' = .ok () w' := by
      intro w'; unfold eqGuard; rfl
    simp only [Bool.false_eq_true, if_false]
    rw [Sem.run_bind, hg]
    simp only [Result.andThen_ok, binOp]
    rw [Sem.run_bind, heq]
    simp [go_sem]
  · have hg : ∀ (w' : World), (eqGuard .eql t x y (.pointer (some ⟨g, 0, none⟩)) (.pointer (some ⟨g', 0, none⟩))).run P w' = .ok () w' := by
      intro w'; unfold eqGuard; rfl
    simp only [if_true]
    rw [Sem.run_bind, hg]
    simp only [Result.andThen_ok, binOp]
    rw [Sem.run_bind, heq]
    simp [go_sem]
end
end Go.Vx

/- Laws of operations: assertions of types of closed data. -/
namespace Go.Vx
open Go.RowKit Go.Vc
set_option linter.unusedVariables false
set_option linter.unusedSimpArgs false

section
variable {P : Program} {G : Glob} {ty : List (Nat × TY)} {N n0 : Nat} {b : Bs G n0}

def notIfc (P : Program) (t : TypeId) : Bool :=
  match P.underlying t with
  | some (.interface _) => false
  | some _ => true
  | none => false
/-- v, ok := x.(T), of closed data. -/
theorem tassD {kp : Bool} {o : Oper} {st : St} {K : SExit → St → Prop} {x : Operand} {xt t : TypeId} {y : D} (ho : o.op = .typeAssert x xt t true) (hx : ev st.T x = some (.d (.ifc t y))) (hn : notIfc P t = true)
    (hk : putK N o.dst (.tup [.d y, .kb true]) st (K .normal)) : OpC P b N kp o st K := by
  obtain ⟨d, hu, hd⟩ : ∃ d, P.underlying t = some d ∧ ∀ m, d ≠ .interface m := by
    unfold notIfc at hn
    split at hn
    · cases hn
    · rename_i d hd hu; exact ⟨_, hu, fun m h => hd m (by rw [← h]; first | done | exact hu)⟩
    · cases hn
  refine valC _ (fun e a w hok => ?_) hk
  have h1 := hok.tmok _ _ hx
  simp only [RepSV, RepD] at h1
  obtain ⟨v, hv, hy⟩ := h1
  refine ⟨.tuple #[v, .bool true], ?_, ?_⟩
  · simp only [RepSV, RepSVs]
    exact ⟨_, rfl, _, _, rfl, hy, _, _, rfl, rfl, rfl⟩
  · obtain ⟨dst, op, type, pos, after, guard⟩ := o
    simp only at ho; subst ho
    simp only [execOp]
    refine run_val ?_
    rw [hv]
    unfold Instr.typeAssert
    simp only [Sem.run_bind, run_under hu, Result.andThen_ok]
    cases d <;> first | (exfalso; exact hd _ rfl) | (simp only [if_true]; rfl)
/-- A contract, where less is asked of the worlds. -/
theorem FnQ.to {G' : Glob} {f : FuncId} {ds : List D} {Q : DOut → Prop} (h : FnQ P G f ds Q) (hp : ∀ S w, G'.p S w → G.p S w) (hd : ∀ w w', G.d w w' → G'.d w w') : FnQ P G' f ds Q := by
  intro S w vs h1 h2 h3
  refine (h S w vs h1 h2 (hp S w h3)).mono ?_
  rintro en w' ⟨o, S', q1, q2, ⟨q3, q4⟩, q5⟩
  exact ⟨o, S', q1, q2, ⟨q3, hd _ _ q4⟩, q5⟩
/-- A struct of an int and a string. -/
def IsIt (X : SV) (a : Int) (s : ByteArray) : Prop := ∀ (e : Env) (w : World) (v : Value), RepSV e w X v → v = .agg #[.int .i64 a, .string s]
theorem isIt1 (a : Int) (s : ByteArray) : IsIt (.agg [.d (.int .i64 a), .d (.str s)]) a s := by
  intro e w v h
  simp only [RepSV, RepSVs, RepD] at h
  obtain ⟨l', rfl, _, _, hl, rfl, _, _, rfl, rfl, rfl⟩ := h
  congr 1; apply Array.ext'; exact hl
theorem isIt2 (a : Int) (s : ByteArray) : IsIt (.d (.agg [.int .i64 a, .str s])) a s := by
  intro e w v h
  simp only [RepSV, RepD, RepDs] at h
  obtain ⟨l', rfl, _, _, hl, rfl, _, _, rfl, rfl, rfl⟩ := h
  congr 1; apply Array.ext'; exact hl
/-- What is told of such a type. -/
structure ItTy (P : Program) (t : TypeId) : Prop where
  u : P.underlying t = some (.struct (P.fieldsOf t))
  h : P.stoodInHeld t = false
  g : P.eqGuardType P.depth t = false
  f : ∀ (a b : Int) (s u : ByteArray) (w : World), (Op.eqFields 9999 #[.int .i64 a, .string s] #[.int .i64 b, .string u] (P.fieldsOf t).toList).run P w = .ok (a == b && s.toList == u.toList) w
/-- Two structs of an int and a string: are they unlike? -/
theorem neqItC {t t' : TypeId} (I : ItTy P t) {kp : Bool} {o : Oper} {st : St} {K : SExit → St → Prop} {x y : Operand} {X Y : SV} {a b' : Int} {s u : ByteArray} (ho : o.op = .binOp .neq t x y t') (hx : ev st.T x = some X) (hy : ev st.T y = some Y) (h1 : IsIt X a s) (h2 : IsIt Y b' u) {c : Bool} (hc : (!(a == b' && s.toList == u.toList)) = c)
    (hk : putK N o.dst (.d (.bool c)) st (K .normal)) : OpC P b N kp o st K := by
  subst hc
  refine valC _ (fun e w' w hok => ?_) hk
  have e1 := h1 _ _ _ (hok.tmok _ _ hx)
  have e2 := h2 _ _ _ (hok.tmok _ _ hy)
  refine ⟨.bool (!(a == b' && s.toList == u.toList)), by simp only [RepSV, RepD], ?_⟩
  obtain ⟨dst, op, type, pos, after, guard⟩ := o
  simp only at ho; subst ho
  simp only [execOp]
  refine run_val ?_
  rw [e1, e2, Sem.run_bind, run_eqGuard_agg _ _ _ _ _ _ _ I.g]
  simp only [Result.andThen_ok]
  rw [run_neq_struct, show (10000 : Nat) = 9999 + 1 from rfl, run_equalIn_agg _ _ _ _ _ I.u I.h, I.f]
  rfl
theorem setC_len {α : Type} : ∀ (k : Nat) (x : α) (l : List α), (setC k x l).length = l.length := by
  intro k x l
  induction l generalizing k with
  | nil => simp [setC]
  | cons y r ih => cases k <;> simp [setC, ih]
/-- An own block's cell, said otherwise. -/
theorem weak_cell {T : Tl} {H : Hp} {n : Nat} (i c : Nat) (y : SV) {t : TypeId} {cs : List SV} {x : SV} (hi : lk H i = some (.blk t cs)) (hc : cs[c]? = some x) (hxy : ∀ (e : Env) (w : World) (v : Value), RepSV e w x v → RepSV e w y v) : Weak b N ⟨T, H, n⟩ ⟨T, (i, .blk t (setC c y cs)) :: H, n⟩ := by
  intro e a w h
  have hb := h.hp.ob i _ hi
  have has' : ∀ j, has ((i, Ob.blk t (setC c y cs)) :: H) j → has H j := by
    intro j hj
    unfold has at hj ⊢
    rw [lk] at hj
    split at hj
    · rename_i e'; obtain rfl := nbeq.1 e'; rw [hi]; rfl
    · exact hj
  refine ⟨e, fun _ h => h, h.sz, h.df, h.len, h.tm, ⟨fun j o hj => ?_, fun j j' k h1 h2 => h.hp.sep j j' k (has' j h1) (has' j' h2), fun j k h1 => h.hp.npub j k (has' j h1), h.hp.pubLt⟩, h.below, h.dr, fun j k h1 => h.mine j k (has' j h1), h.frm, h.pre, h.gl⟩
  rw [lk] at hj
  split at hj
  · rename_i e'
    obtain rfl := nbeq.1 e'
    injection hj with hj; subst hj
    obtain ⟨g, vs, h1, h2, h3⟩ := hb
    refine ⟨g, vs, h1, h2, RepSVs.mk (by have := h3.len; rw [setC_len]; omega) fun q z v hx hv => ?_⟩
    rw [setC_get] at hx
    split at hx
    · rename_i hq
      injection hx with hx; subst hx
      obtain ⟨u, hu1, hu2⟩ := h3.get hc
      rw [hq.1, hu1] at hv; injection hv with hv; subst hv
      exact hxy _ _ _ hu2
    · obtain ⟨u, hu1, hu2⟩ := h3.get hx
      rw [hu1] at hv; injection hv with hv; subst hv
      exact hu2
  · exact h.hp.ob j o hj
/-- No slice, as data. -/
theorem nl_data {eb : Nat} (e : Env) (w : World) (v : Value) (h : RepSV e w .nl v) : RepSV e w (.d (slD eb 0 [])) v := by
  simp only [RepSV] at h
  subst h
  simp only [RepSV, slD, ebn, RepD]
  exact ⟨none, 0, rfl, Nat.le_refl _, by simp, by simp, by simp only [RepC]⟩
end
end Go.Vx


