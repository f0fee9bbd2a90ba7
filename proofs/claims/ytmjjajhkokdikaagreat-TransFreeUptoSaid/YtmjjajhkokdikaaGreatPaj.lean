/- Texts of mine, joined: Vxx Vxall Vxy Vpl. -/
import Derived.Test.YtmjjajhkokdikaaGreatPai
import Derived.LaidEql
import Derived.Test.YtmjjajhkokdikaaGreatPah
import Derived.Test.YtmjjajhkokdikaaGreatPaf
/- Laws of operations: assertions of types, slices cut, structs and pointers compared. -/
namespace Go.Vx
open Go.RowKit Go.Vc
set_option linter.unusedVariables false
set_option linter.unusedSimpArgs false

section
variable {P : Program} {G : Glob} {ty : List (Nat × TY)} {N n0 : Nat} {b : Bs G n0}

/-- v, ok := x.(T), of a type that is no interface, and is the one that is held. -/
theorem tassC {d : TypeDesc} {kp : Bool} {o : Oper} {st : St} {K : SExit → St → Prop} {x : Operand} {xt t : TypeId} {y : SV} (ho : o.op = .typeAssert x xt t true) (hx : ev st.T x = some (.ifc t y)) (hu : P.underlying t = some d) (hd : ∀ m, d ≠ .interface m)
    (hk : putK N o.dst (.tup [y, .kb true]) st (K .normal)) : OpC P b N kp o st K := by
  refine valC _ (fun e a w hok => ?_) hk
  have h1 := hok.tmok _ _ hx
  simp only [RepSV] at h1
  obtain ⟨v, hv, hy⟩ := h1
  refine ⟨.tuple #[v, .bool true], ?_, ?_⟩
  · simp only [RepSV, RepSVs]
    exact ⟨_, rfl, _, _, rfl, hy, _, _, rfl, rfl, rfl⟩
  · obtain ⟨dst, op, type, pos, after, guard⟩ := o
    simp only at ho; subst ho
    simp only [execOp]
    refine run_val ?_
    rw [hv]
    unfold Instr.typeAssert
    simp only [Sem.run_bind, run_under hu, Result.andThen_ok]
    cases d <;> first | (exfalso; exact hd _ rfl) | (simp only [if_true]; rfl)
/-- An own slice's name stands for another slice of it now. -/
theorem Ok.rename {e : Env} {st : St} {a : Act} {w : World} (h : Ok b N e st a w) {i : Nat} {el : TypeId} {eb sz n m : Nat} {xs ys : List D} {A A' : Option Addr} {c c' : Nat} (hi : lk st.H i = some (.row el eb sz n xs)) (hm : e.m[i]? = some (.slice A n c))
    {vs : List Value} (hrow : RowOk w ⟨.slice A' m c', el, sz, vs⟩) (hys : RepDs e.pub w ys vs) (hlim : m * eb ≤ LB) (hA : Go.Vc.rowB (.slice A' m c') = Go.Vc.rowB (.slice A n c) ∨ Go.Vc.rowB (.slice A' m c') = none) (dr : Nat → Bool) :
    ∃ e' : Env, e'.m[i]? = some (.slice A' m c') ∧ KeptP e w e' w ∧ Ok b N e' ⟨scrubT (fun k => Nat.beq k i || dr k) st.T, (i, .row el eb sz m ys) :: scrubH (fun k => Nat.beq k i || dr k) (without (fun k => Nat.beq k i || dr k) st.H), st.n⟩ a w := by
  have hil : i < e.m.length := (List.getElem?_eq_some_iff.1 hm).1
  have hnew : (e.m.set i (.slice A' m c'))[i]? = some (.slice A' m c') := by simp [hil]
  have hne : ∀ (j : Nat) v, j ≠ i → e.m[j]? = some v → (e.m.set i (.slice A' m c'))[j]? = some v := fun j v hj hv => by
    rw [List.getElem?_set_ne (Ne.symm hj)]; exact hv
  have one : ∀ q, has [(i, Ob.row el eb sz m ys)] q → q = i := by
    intro q hq
    unfold has at hq
    simp only [lk] at hq
    split at hq
    · rename_i e'; exact (nbeq.1 e').symm
    · cases hq
  have hft : ∀ k, foot ⟨e.m.set i (.slice A' m c'), e.pub⟩ i k → foot e i k := by
    rintro k ⟨v, h1, h2⟩
    have h1 : (e.m.set i (.slice A' m c'))[i]? = some v := h1
    rw [hnew] at h1; injection h1 with h1; subst h1
    rw [footB_slice] at h2
    rcases hA with hA | hA
    · rw [hA] at h2
      exact ⟨_, hm, by rw [footB_slice]; exact h2⟩
    · rw [hA] at h2; cases h2
  have hmm : ∀ (j : Nat) v, e.m[j]? = some v → (∀ A n c, v = .slice A n c → (Nat.beq j i || dr j) = false) → (e.m.set i (.slice A' m c'))[j]? = some v := by
    intro j v hj hv
    rcases Decidable.em (j = i) with hji | hji
    · rw [hji, hm] at hj
      injection hj with hj
      have hfalse := hv A n c hj.symm
      rw [hji, Nat.beq_refl] at hfalse
      cases hfalse
    · exact hne j v hji hj
  have h1 := h.frame (r := fun k => Nat.beq k i || dr k) (s := fun k => Nat.beq k i || dr k) (fun _ h => h) (e' := ⟨e.m.set i (.slice A' m c'), e.pub⟩) (w' := w) (H' := [(i, .row el eb sz m ys)]) 0 (by simp) (Only.refl _ w) (G.dm (Nat.le_refl _))
    hmm (fun _ h => h) (fun _ h => .inl h)
    ⟨fun j o' hj => ?_, fun j j' k hj hj' hne _ _ => absurd ((one j hj).trans (one j' hj').symm) hne, fun j k hj hk hp => ?_, fun k hk => h.hp.pubLt k hk⟩ (fun j k hj hk => ?_)
  · exact ⟨⟨e.m.set i (.slice A' m c'), e.pub⟩, hnew, ⟨fun _ h => h, Same.rfl' _ _, Nat.le_refl _⟩, h1⟩
  · obtain rfl := one j (by simp [has, hj])
    simp only [lk, Nat.beq_refl] at hj
    injection hj with hj; subst hj
    exact ⟨A', c', vs, hnew, hrow, hys, hlim⟩
  · obtain rfl := one j hj
    exact h.hp.npub j k (by simp [has, hi]) (hft k hk) hp
  · obtain rfl := one j hj
    exact .inl ⟨j, by simp, by simp [has, hi], hft k hk⟩
/-- x[:hi], of an own slice. -/
theorem cutC (hty : Tys P ty) {o : Oper} {st : St} {K : SExit → St → Prop} {t el : TypeId} {y ye : TY} {x hi : Operand} {i : Nat} {eb sz n : Nat} {xs : List D} {kh : IntKind} {j : Int} (dr : Nat → Bool) (m : Nat) (ys : List D) (ho : o.op = .slice t x none (some hi) none) (hy : lk ty t = some y) (hyk : y.kd = .slice el) (hye : lk ty el = some ye) (hx : ev st.T x = some (.row i)) (hi' : lk st.H i = some (.row el eb sz n xs)) (hh : ev st.T hi = some (.d (.int kh j)))
    (hj : j = (m : Int)) (hm : m ≤ n) (hys : xs.take (m * sz) = ys)
    (hk : match st with
      | ⟨T, H, q⟩ => scrubTK (fun k => Nat.beq k i || dr k) T fun T' => withoutK (fun k => Nat.beq k i || dr k) H fun H1 => scrubHK (fun k => Nat.beq k i || dr k) H1 fun H2 => putK N o.dst (.row i) ⟨T', (i, .row el eb sz m ys) :: H2, q⟩ (K .normal)) : OpC P b N false o st K := by
  subst hys; subst hj
  obtain ⟨T, H, q⟩ := st
  simp only [scrubTK_eq, withoutK_eq, scrubHK_eq] at hk
  refine ⟨fun e a w hok => ?_⟩
  have h1 := hok.tmok _ _ hx
  have h2 := hok.tmok _ _ hh
  simp only [RepSV, RepD] at h1 h2
  obtain ⟨A, n', c, hv, hme⟩ := h1
  rw [hv] at hme
  obtain ⟨A2, c2, vs, hme2, hrow, hxs, hlb⟩ := hok.hp.ob _ _ hi'
  rw [hme] at hme2; injection hme2 with hme2; injection hme2 with e1 e2 e3
  subst e1; subst e2; subst e3
  have hcap := hrow.cap
  have hu := (hty _ _ hy).slice hyk
  have hsz := fun w' => Go.Vc.run_sizeOf (P := P) (w := w') (hty _ _ hye).i
  have hr : (execOp a.eval o).run P w = .ok (.value (.slice A m c)) w := by
    obtain ⟨dst, op, type, pos, after, guard⟩ := o
    simp only at ho; subst ho
    simp only [execOp]
    refine run_val ?_
    rw [hv]
    simp only [Option.map_some, Option.map_none, h2, Instr.sliceAt, Sem.run_bind, run_under hu, Result.andThen_ok, Instr.slice, Instr.sliceBounds, Sem.run_pure, if_true]
    rw [run_sliceBound' (by omega) (by omega)]
    simp only [Result.andThen_ok, Sem.run_pure, hsz, Int.toNat_natCast, Nat.zero_mul, Nat.sub_zero]
    have : A.map (·.add 0) = A := by cases A <;> simp [Addr.add]
    simp [this]
  have hle : m * eb ≤ LB := Nat.le_trans (Nat.mul_le_mul_right _ hm) hlb
  obtain ⟨e', g1, kpp, g2⟩ := hok.rename hi' hme (hrow.cut hm) (hxs.take (m * sz)) hle (.inl (by cases A <;> rfl)) dr
  obtain ⟨st', g3, g4, _⟩ := putK_sound (v := .slice A m c) g2 (by simp only [RepSV]; exact ⟨_, _, _, rfl, g1⟩) hk
  rw [hr]
  exact ⟨e', st', ⟨fun h => by (cases h), kpp⟩, g3, g4⟩
/-- Own pointers compared. -/
theorem ptrC (hty : Tys P ty) {e' : TypeId} {ye : TY} {kp : Bool} {o : Oper} {st : St} {K : SExit → St → Prop} {t t' : TypeId} {x y : Operand} {i j : Nat} (eq : Bool) (ho : o.op = .binOp (if eq then .eql else .neq) t x y t') (hu : P.underlying t = some (.pointer e')) (hx : ev st.T x = some (.own i 0)) (hy : ev st.T y = some (.own j 0)) (hye : lk ty e' = some ye) (hsz : ye.i.size ≠ 0) {ti tj : TypeId} {ci cj : List SV} (hi : lk st.H i = some (.blk ti ci)) (hj : lk st.H j = some (.blk tj cj))
    (hk : putK N o.dst (.kb (if eq then Nat.beq i j else !Nat.beq i j)) st (K .normal)) : OpC P b N kp o st K := by
  refine valC _ (fun e a w hok => ?_) hk
  have h1 := hok.tmok _ _ hx
  have h2 := hok.tmok _ _ hy
  simp only [RepSV] at h1 h2
  obtain ⟨g, hm1, hv1⟩ := h1
  obtain ⟨g', hm2, hv2⟩ := h2
  have hgg : (g == g') = Nat.beq i j := by
    rw [Bool.eq_iff_iff, beq_iff_eq, nbeq]
    constructor
    · rintro rfl
      refine Classical.byContradiction fun hne => ?_
      exact hok.hp.sep i j g (by simp [has, hi]) (by simp [has, hj]) hne ⟨_, hm1, rfl⟩ ⟨_, hm2, rfl⟩
    · rintro rfl
      rw [hm1] at hm2; injection hm2 with hm2; injection hm2 with hm2; injection hm2 with hm2; injection hm2 with hm2
  refine ⟨.bool (if eq then Nat.beq i j else !Nat.beq i j), by simp only [RepSV], ?_⟩
  obtain ⟨dst, op, type, pos, after, guard⟩ := o
  simp only at ho; subst ho
  simp only [execOp]
  refine run_val ?_
  rw [hv1, hv2, ← hgg]
  obtain ⟨g1, vs1, q1, q2, _⟩ := hok.hp.ob _ _ hi
  obtain ⟨g2, vs2, q3, q4, _⟩ := hok.hp.ob _ _ hj
  rw [hm1] at q1; injection q1 with q1; injection q1 with q1; injection q1 with q1; injection q1 with q1; subst q1
  rw [hm2] at q3; injection q3 with q3; injection q3 with q3; injection q3 with q3; injection q3 with q3; subst q3
  have heq : (Op.equal t (.pointer (some ⟨g, 0, none⟩)) (.pointer (some ⟨g', 0, none⟩))).run P w = .ok (g == g') w := by
    unfold Op.equal
    rw [show Op.maxDepth = 9999 + 1 from rfl]
    unfold Op.equalIn
    rw [Sem.run_bind, run_under hu]
    simp only [Result.andThen_ok]
    rw [Sem.run_bind, Go.Vc.run_sizeOf (hty _ _ hye).i]
    simp only [Result.andThen_ok]
    rw [if_pos hsz]
    by_cases hgg' : g = g'
    · subst hgg'
      rw [run_sameAddr_same]; simp
    · rw [run_sameAddr_other w (fun e => hgg' (by injection e)) q2 q4]
      simp [hgg']
  cases eq
  · have hg : ∀ (w' : World), (eqGuard .neq t x y (.pointer (some ⟨g, 0, none⟩)) (.pointer (some ⟨g', 0, none⟩))).run P w' = .ok () w' := by
      intro w'; unfold eqGuard; rfl
    simp only [Bool.false_eq_true, if_false]
    rw [Sem.run_bind, hg]
    simp only [Result.andThen_ok, binOp]
    rw [Sem.run_bind, heq]
    simp [go_sem]
  · have hg : ∀ (w' : World), (eqGuard .eql t x y (.pointer (some ⟨g, 0, none⟩)) (.pointer (some ⟨g', 0, none⟩))).run P w' = .ok () w' := by
      intro w'; unfold eqGuard; rfl
    simp only [if_true]
    rw [Sem.run_bind, hg]
    simp only [Result.andThen_ok, binOp]
    rw [Sem.run_bind, heq]
    simp [go_sem]
end
end Go.Vx


/- Laws of operations: assertions of types of closed data. -/
namespace Go.Vx
open Go.RowKit Go.Vc
set_option linter.unusedVariables false
set_option linter.unusedSimpArgs false

section
variable {P : Program} {G : Glob} {ty : List (Nat × TY)} {N n0 : Nat} {b : Bs G n0}

def notIfc (P : Program) (t : TypeId) : Bool :=
  match P.underlying t with
  | some (.interface _) => false
  | some _ => true
  | none => false
/-- v, ok := x.(T), of closed data. -/
theorem tassD {kp : Bool} {o : Oper} {st : St} {K : SExit → St → Prop} {x : Operand} {xt t : TypeId} {y : D} (ho : o.op = .typeAssert x xt t true) (hx : ev st.T x = some (.d (.ifc t y))) (hn : notIfc P t = true)
    (hk : putK N o.dst (.tup [.d y, .kb true]) st (K .normal)) : OpC P b N kp o st K := by
  obtain ⟨d, hu, hd⟩ : ∃ d, P.underlying t = some d ∧ ∀ m, d ≠ .interface m := by
    unfold notIfc at hn
    split at hn
    · cases hn
    · rename_i d hd hu; exact ⟨_, hu, fun m h => hd m (by rw [← h]; first | done | exact hu)⟩
    · cases hn
  refine valC _ (fun e a w hok => ?_) hk
  have h1 := hok.tmok _ _ hx
  simp only [RepSV, RepD] at h1
  obtain ⟨v, hv, hy⟩ := h1
  refine ⟨.tuple #[v, .bool true], ?_, ?_⟩
  · simp only [RepSV, RepSVs]
    exact ⟨_, rfl, _, _, rfl, hy, _, _, rfl, rfl, rfl⟩
  · obtain ⟨dst, op, type, pos, after, guard⟩ := o
    simp only at ho; subst ho
    simp only [execOp]
    refine run_val ?_
    rw [hv]
    unfold Instr.typeAssert
    simp only [Sem.run_bind, run_under hu, Result.andThen_ok]
    cases d <;> first | (exfalso; exact hd _ rfl) | (simp only [if_true]; rfl)
/-- A contract, where less is asked of the worlds. -/
theorem FnQ.to {G' : Glob} {f : FuncId} {ds : List D} {Q : DOut → Prop} (h : FnQ P G f ds Q) (hp : ∀ S w, G'.p S w → G.p S w) (hd : ∀ w w', G.d w w' → G'.d w w') : FnQ P G' f ds Q := by
  intro S w vs h1 h2 h3
  refine (h S w vs h1 h2 (hp S w h3)).mono ?_
  rintro en w' ⟨o, S', q1, q2, ⟨q3, q4⟩, q5⟩
  exact ⟨o, S', q1, q2, ⟨q3, hd _ _ q4⟩, q5⟩
/-- A struct of an int and a string. -/
def IsIt (X : SV) (a : Int) (s : ByteArray) : Prop := ∀ (e : Env) (w : World) (v : Value), RepSV e w X v → v = .agg #[.int .i64 a, .string s]
theorem isIt1 (a : Int) (s : ByteArray) : IsIt (.agg [.d (.int .i64 a), .d (.str s)]) a s := by
  intro e w v h
  simp only [RepSV, RepSVs, RepD] at h
  obtain ⟨l', rfl, _, _, hl, rfl, _, _, rfl, rfl, rfl⟩ := h
  congr 1; apply Array.ext'; exact hl
theorem isIt2 (a : Int) (s : ByteArray) : IsIt (.d (.agg [.int .i64 a, .str s])) a s := by
  intro e w v h
  simp only [RepSV, RepD, RepDs] at h
  obtain ⟨l', rfl, _, _, hl, rfl, _, _, rfl, rfl, rfl⟩ := h
  congr 1; apply Array.ext'; exact hl
/-- What is told of such a type. -/
structure ItTy (P : Program) (t : TypeId) : Prop where
  u : P.underlying t = some (.struct (P.fieldsOf t))
  h : P.stoodInHeld t = false
  g : P.eqGuardType P.depth t = false
  f : ∀ (a b : Int) (s u : ByteArray) (w : World), (Op.eqFields 9999 #[.int .i64 a, .string s] #[.int .i64 b, .string u] (P.fieldsOf t).toList).run P w = .ok (a == b && s.toList == u.toList) w
/-- Two structs of an int and a string: are they unlike? -/
theorem neqItC {t t' : TypeId} (I : ItTy P t) {kp : Bool} {o : Oper} {st : St} {K : SExit → St → Prop} {x y : Operand} {X Y : SV} {a b' : Int} {s u : ByteArray} (ho : o.op = .binOp .neq t x y t') (hx : ev st.T x = some X) (hy : ev st.T y = some Y) (h1 : IsIt X a s) (h2 : IsIt Y b' u) {c : Bool} (hc : (!(a == b' && s.toList == u.toList)) = c)
    (hk : putK N o.dst (.d (.bool c)) st (K .normal)) : OpC P b N kp o st K := by
  subst hc
  refine valC _ (fun e w' w hok => ?_) hk
  have e1 := h1 _ _ _ (hok.tmok _ _ hx)
  have e2 := h2 _ _ _ (hok.tmok _ _ hy)
  refine ⟨.bool (!(a == b' && s.toList == u.toList)), by simp only [RepSV, RepD], ?_⟩
  obtain ⟨dst, op, type, pos, after, guard⟩ := o
  simp only at ho; subst ho
  simp only [execOp]
  refine run_val ?_
  rw [e1, e2, Sem.run_bind, run_eqGuard_agg _ _ _ _ _ _ _ I.g]
  simp only [Result.andThen_ok]
  rw [run_neq_struct, show (10000 : Nat) = 9999 + 1 from rfl, run_equalIn_agg _ _ _ _ _ I.u I.h, I.f]
  rfl
theorem setC_len {α : Type} : ∀ (k : Nat) (x : α) (l : List α), (setC k x l).length = l.length := by
  intro k x l
  induction l generalizing k with
  | nil => simp [setC]
  | cons y r ih => cases k <;> simp [setC, ih]
/-- An own block's cell, said otherwise. -/
theorem weak_cell {T : Tl} {H : Hp} {n : Nat} (i c : Nat) (y : SV) {t : TypeId} {cs : List SV} {x : SV} (hi : lk H i = some (.blk t cs)) (hc : cs[c]? = some x) (hxy : ∀ (e : Env) (w : World) (v : Value), RepSV e w x v → RepSV e w y v) : Weak b N ⟨T, H, n⟩ ⟨T, (i, .blk t (setC c y cs)) :: H, n⟩ := by
  intro e a w h
  have hb := h.hp.ob i _ hi
  have has' : ∀ j, has ((i, Ob.blk t (setC c y cs)) :: H) j → has H j := by
    intro j hj
    unfold has at hj ⊢
    rw [lk] at hj
    split at hj
    · rename_i e'; obtain rfl := nbeq.1 e'; rw [hi]; rfl
    · exact hj
  refine ⟨e, fun _ h => h, h.sz, h.df, h.len, h.tm, ⟨fun j o hj => ?_, fun j j' k h1 h2 => h.hp.sep j j' k (has' j h1) (has' j' h2), fun j k h1 => h.hp.npub j k (has' j h1), h.hp.pubLt⟩, h.below, h.dr, fun j k h1 => h.mine j k (has' j h1), h.frm, h.pre, h.gl⟩
  rw [lk] at hj
  split at hj
  · rename_i e'
    obtain rfl := nbeq.1 e'
    injection hj with hj; subst hj
    obtain ⟨g, vs, h1, h2, h3⟩ := hb
    refine ⟨g, vs, h1, h2, RepSVs.mk (by have := h3.len; rw [setC_len]; omega) fun q z v hx hv => ?_⟩
    rw [setC_get] at hx
    split at hx
    · rename_i hq
      injection hx with hx; subst hx
      obtain ⟨u, hu1, hu2⟩ := h3.get hc
      rw [hq.1, hu1] at hv; injection hv with hv; subst hv
      exact hxy _ _ _ hu2
    · obtain ⟨u, hu1, hu2⟩ := h3.get hx
      rw [hu1] at hv; injection hv with hv; subst hv
      exact hu2
  · exact h.hp.ob j o hj
/-- No slice, as data. -/
theorem nl_data {eb : Nat} (e : Env) (w : World) (v : Value) (h : RepSV e w .nl v) : RepSV e w (.d (slD eb 0 [])) v := by
  simp only [RepSV] at h
  subst h
  simp only [RepSV, slD, ebn, RepD]
  exact ⟨none, 0, rfl, Nat.le_refl _, by simp, by simp, by simp only [RepC]⟩
end
end Go.Vx

/- Laws: maps from strings to data; slices over own blocks. -/
namespace Go.Vx
open Go.RowKit Go.Vc
set_option linter.unusedVariables false
set_option linter.unusedSimpArgs false

abbrev EntV := (ByteArray × Value) × Nat
def enMV (x : EntV) : MapEntry := { key := .string x.1.1, val := x.1.2, born := x.2 }
def keysMV (l : List EntV) : List ByteArray := l.map (·.1.1)
def atMV : List EntV → ByteArray → Option Value
  | [], _ => none
  | x :: r, s => if s = x.1.1 then some x.1.2 else atMV r s
/-- A map's block, by what it tells. -/
def MapIsV (mp : ByteArray → Option Value) (v : Value) (o : Obj) : Prop :=
  ∃ g l clock, v = .map (some g) ∧ o = .map (l.map enMV).toArray clock ∧ (keysMV l).Nodup ∧ ∀ s, atMV l s = mp s
def updMV (mp : ByteArray → Option Value) (s : ByteArray) (n : Value) : ByteArray → Option Value := fun t => if t = s then some n else mp t
def delMV (mp : ByteArray → Option Value) (s : ByteArray) : ByteArray → Option Value := fun t => if t = s then none else mp t

theorem atM_noneV {s : ByteArray} : ∀ {l : List EntV}, s ∉ keysMV l → atMV l s = none
  | [], _ => rfl
  | x :: r, h => by
    simp only [keysMV, List.map_cons, List.mem_cons, not_or] at h
    rw [atMV, if_neg h.1]; exact atM_noneV h.2
theorem atM_appV {s : ByteArray} {n : Value} {k : Nat} : ∀ {l r : List EntV}, s ∉ keysMV l → atMV (l ++ ((s, n), k) :: r) s = some n
  | [], r, _ => by simp [atMV]
  | x :: l, r, h => by
    simp only [keysMV, List.map_cons, List.mem_cons, not_or] at h
    rw [List.cons_append, atMV, if_neg h.1]; exact atM_appV h.2
theorem atM_otherV {s t : ByteArray} {n : Value} {k : Nat} (ht : t ≠ s) : ∀ {l r : List EntV}, atMV (l ++ ((s, n), k) :: r) t = atMV (l ++ r) t
  | [], r => by simp [atMV, ht]
  | x :: l, r => by
    simp only [List.cons_append, atMV]
    rw [atM_otherV ht]
theorem findNow_noneV {s : ByteArray} : ∀ {l : List EntV} (i : Nat), s ∉ keysMV l → Instr.findNow .string (.string s) (l.map enMV) i = some none
  | [], i, _ => rfl
  | x :: r, i, h => by
    simp only [keysMV, List.map_cons, List.mem_cons, not_or] at h
    simp only [List.map_cons, Instr.findNow, enMV, Instr.sameNow]
    rw [beqB_ne.2 h.1]
    exact findNow_noneV (i + 1) h.2
theorem findNow_appV {s : ByteArray} {n : Value} {k : Nat} : ∀ {l r : List EntV} (i : Nat), s ∉ keysMV l → Instr.findNow .string (.string s) ((l ++ ((s, n), k) :: r).map enMV) i = some (some (i + l.length, n))
  | [], r, i, _ => by
    simp only [List.nil_append, List.map_cons, Instr.findNow, enMV, Instr.sameNow]
    rw [beqB.2 rfl]; rfl
  | x :: l, r, i, h => by
    simp only [keysMV, List.map_cons, List.mem_cons, not_or] at h
    simp only [List.cons_append, List.map_cons, Instr.findNow, enMV, Instr.sameNow]
    rw [beqB_ne.2 h.1]
    have := findNow_appV (s := s) (n := n) (k := k) (l := l) (r := r) (i + 1) h.2
    refine (show _ = Instr.findNow .string (.string s) ((l ++ ((s, n), k) :: r).map enMV) (i + 1) from rfl).trans (this.trans ?_)
    simp only [List.length_cons]
    congr 3; omega
theorem splitMV {s : ByteArray} : ∀ {l : List EntV}, s ∈ keysMV l → ∃ l1 n k l2, l = l1 ++ ((s, n), k) :: l2 ∧ s ∉ keysMV l1
  | x :: r, h => by
    by_cases e : s = x.1.1
    · obtain ⟨⟨a, n⟩, k⟩ := x
      simp only at e; subst e
      exact ⟨[], n, k, r, rfl, by simp [keysMV]⟩
    · have h' : s ∈ keysMV r := by
        simp only [keysMV, List.map_cons, List.mem_cons] at h
        exact h.resolve_left e
      obtain ⟨l1, n, k, l2, rfl, h2⟩ := splitMV h'
      exact ⟨x :: l1, n, k, l2, rfl, by simp only [keysMV, List.map_cons, List.mem_cons, not_or]; exact ⟨e, h2⟩⟩

section
variable {P : Program} {w : World} {t k e : TypeId}
/-- What is told of a map's type. -/
structure MapTyV (P : Program) (t k e : TypeId) : Prop where
  t : P.underlying t = some (.map k e)
  k : P.underlying k = some .string
theorem run_lookMV (M : MapTyV P t k e) {mp : ByteArray → Option Value} {v : Value} {g : Nat} {o : Obj} (hv : v = .map (some g)) (hg : w.heap[g]? = some o) (hm : MapIsV mp v o) (s : ByteArray) {u : Value} (hu : mp s = some u) :
    (Instr.lookup t v (.string s) false).run P w = .ok u w := by
  obtain ⟨g', l, c, hv', rfl, hnd, hat⟩ := hm
  rw [hv'] at hv; injection hv with hv; injection hv with hv; subst hv
  subst hv'
  unfold Instr.lookup
  simp only [Sem.run_bind, run_under M.t, Result.andThen_ok, run_getMap hg, Sem.run_pure, run_checkKey M.k]
  by_cases hs : s ∈ keysMV l
  · obtain ⟨l1, n, k', l2, rfl, h1⟩ := splitMV hs
    rw [← hat s, atM_appV h1] at hu
    injection hu with hu; subst hu
    rw [run_findKey M.k (findNow_appV 0 h1)]
    rfl
  · rw [← hat s, atM_noneV hs] at hu; cases hu
theorem run_updMV (M : MapTyV P t k e) {mp : ByteArray → Option Value} {v : Value} {g : Nat} {o : Obj} (hv : v = .map (some g)) (hg : w.heap[g]? = some o) (hm : MapIsV mp v o) (s : ByteArray) (n : Value) :
    ∃ o', (Instr.mapUpdate t v (.string s) n).run P w = .ok () { w with heap := w.heap.set! g o' } ∧ MapIsV (updMV mp s n) v o' := by
  obtain ⟨g', l, c, hv', rfl, hnd, hat⟩ := hm
  rw [hv'] at hv; injection hv with hv; injection hv with hv; subst hv
  subst hv'
  by_cases hs : s ∈ keysMV l
  · obtain ⟨l1, n', k', l2, rfl, h1⟩ := splitMV hs
    refine ⟨.map (((l1 ++ ((s, n), k') :: l2).map enMV).toArray) c, ?_, _, _, _, rfl, rfl, by simpa [keysMV] using hnd, fun x => ?_⟩
    · unfold Instr.mapUpdate
      simp only [Sem.run_bind, run_under M.t, Result.andThen_ok, run_getMap hg, Sem.run_pure, run_checkKey M.k]
      rw [run_findKey M.k (by simpa using findNow_appV (n := n') (k := k') (r := l2) 0 h1)]
      simp only [Result.andThen_ok, Sem.run_bind, Nat.zero_add]
      have hget : ((l1 ++ ((s, n'), k') :: l2).map enMV).toArray[l1.length]? = some (enMV ((s, n'), k')) := by simp
      have hks : ∀ old : Value, old = .string s → (Instr.keyThatStays old (.string s)).run P w = .ok (.string s) w := by
        rintro old rfl
        unfold Instr.keyThatStays
        have : Instr.sameBits 10000 (.string s) (.string s) = true := by
          rw [show (10000 : Nat) = 9999 + 1 from rfl, Instr.sameBits]; exact beqB.2 rfl
        rw [if_pos this]; rfl
      have hk : (Instr.keyThatStays (((((l1 ++ ((s, n'), k') :: l2).map enMV).toArray[l1.length]?).map (·.key)).getD (.string s)) (.string s)).run P w = .ok (.string s) w :=
        hks _ (by rw [hget]; rfl)
      rw [hk]
      simp only [Result.andThen_ok]
      rw [run_setMap _ hg]
      have hmod : (List.map enMV (l1 ++ ((s, n'), k') :: l2)).toArray.modify l1.length (fun e => { e with key := Value.string s, val := n }) = (List.map enMV (l1 ++ ((s, n), k') :: l2)).toArray := by
        apply Array.ext'
        rw [Array.toList_modify]
        simp only [List.map_append, List.map_cons]
        rw [List.modify_eq_take_cons_drop (by simp)]
        have hdr : ∀ (x : MapEntry), List.drop (l1.length + 1) (List.map enMV l1 ++ x :: List.map enMV l2) = List.map enMV l2 := fun x => by
          rw [show l1.length + 1 = (List.map enMV l1 ++ [x]).length from by simp, show List.map enMV l1 ++ x :: List.map enMV l2 = (List.map enMV l1 ++ [x]) ++ List.map enMV l2 from by simp, List.drop_left]
        simp only [hdr]
        simp [enMV]
      rw [hmod]
    · unfold updMV
      by_cases e' : x = s
      · subst e'; rw [if_pos rfl, atM_appV h1]
      · rw [if_neg e', ← hat x, atM_otherV e', atM_otherV e']
  · refine ⟨.map (((l ++ [((s, n), c)]).map enMV).toArray) (c + 1), ?_, _, _, _, rfl, rfl, ?_, fun x => ?_⟩
    · unfold Instr.mapUpdate
      simp only [Sem.run_bind, run_under M.t, Result.andThen_ok, run_getMap hg, Sem.run_pure, run_checkKey M.k]
      rw [run_findKey M.k (by simpa using findNow_noneV 0 hs)]
      simp only [Result.andThen_ok]
      rw [run_setMap _ hg]
      have hpush : (List.map enMV l).toArray.push { key := Value.string s, val := n, born := c } = (List.map enMV (l ++ [((s, n), c)])).toArray := by
        apply Array.ext'
        simp [enMV]
      rw [hpush]
    · unfold keysMV at *
      rw [List.map_append, List.nodup_append]
      exact ⟨hnd, by simp, fun a ha b hb => by simp at hb; subst hb; rintro rfl; exact hs ha⟩
    · unfold updMV
      by_cases e' : x = s
      · subst e'; rw [if_pos rfl, atM_appV hs]
      · rw [if_neg e', ← hat x, atM_otherV e', List.append_nil]
end

/-- A map, by the data that it tells. -/
def MapD (md : ByteArray → Option D) : AbP where
  φ := fun S w v o => ∃ mp, MapIsV mp v o ∧ ∀ s, (md s = none ∧ mp s = none) ∨ ∃ x u, md s = some x ∧ mp s = some u ∧ RepD S w x u
  up := by
    rintro S S' w w' v o ⟨mp, h1, h2⟩ hs hS
    refine ⟨mp, h1, fun s => ?_⟩
    rcases h2 s with h | ⟨x, u, a, b, c⟩
    · exact .inl h
    · exact .inr ⟨x, u, a, b, c.to hs hS⟩
def updD (md : ByteArray → Option D) (s : ByteArray) (x : D) : ByteArray → Option D := fun t => if t = s then some x else md t
section
variable {P : Program} {G : Glob} {ty : List (Nat × TY)} {N n0 : Nat} {b : Bs G n0}
theorem abD_get {e : Env} {w : World} {i : Nat} {md : ByteArray → Option D} {v : Value} (h : ObOk e w i (.ab (MapD md))) (hv : e.m[i]? = some v) : ∃ g o, v = .map (some g) ∧ w.heap[g]? = some o ∧ (MapD md).φ e.pub w v o := by
  obtain ⟨v', g, o, h1, h2, h3, h4, h5⟩ := h
  rw [hv] at h1; injection h1 with h1; subst h1
  have h5' := h5
  obtain ⟨mp, ⟨g', l, c, rfl, _⟩, _⟩ := h5
  simp only [footB] at h2
  injection h2 with h2; subst h2
  exact ⟨g', o, rfl, h4, h5'⟩
/-- m[s], where it is there. -/
theorem lkDC {t k e : TypeId} (M : MapTyV P t k e) {kp : Bool} {o : Oper} {st : St} {K : SExit → St → Prop} {m x : Operand} {i : Nat} {md : ByteArray → Option D} {s : ByteArray} (d : D) (ho : o.op = .lookup t m x false) (hm : ev st.T m = some (.nm i)) (hi : lk st.H i = some (.ab (MapD md))) (hx : ev st.T x = some (.d (.str s)))
    (hn : md s = some d) (hk : nrm (svD d) fun sv => putK N o.dst sv st (K .normal)) : OpC P b N kp o st K := by
  refine ⟨fun e' a w hok => ?_⟩
  have h1 := hok.tmok _ _ hm
  have h2 := hok.tmok _ _ hx
  simp only [RepSV, RepD] at h1 h2
  obtain ⟨g, hv, hme⟩ := h1
  obtain ⟨g', o', hv', hg, mp, hM, hmd⟩ := abD_get (hok.hp.ob _ _ hi) hme
  rcases hmd s with ⟨h, _⟩ | ⟨y, u, q1, q2, q3⟩
  · rw [hn] at h; cases h
  rw [hn] at q1; injection q1 with q1; subst q1
  have hr : (execOp a.eval o).run P w = .ok (.value u) w := by
    obtain ⟨dst, op, type, pos, after, guard⟩ := o
    simp only at ho; subst ho
    simp only [execOp]
    refine run_val ?_
    rw [h2]
    exact run_lookMV M hv' hg hM s q2
  rw [hr]
  obtain ⟨z, hz, hrep⟩ := nrm_eq (e := e') _ _ hk (svD_rep q3)
  obtain ⟨st', g1, g2, _⟩ := putK_sound hok hrep hz
  exact ⟨e', st', .of ⟨Kept.refl _ _, Agr.refl _ _ _⟩, g1, g2⟩
/-- m[s] = x. -/
theorem updDC {t k e : TypeId} (M : MapTyV P t k e) {kp : Bool} {o : Oper} {st : St} {K : SExit → St → Prop} {m x y : Operand} {i : Nat} {md : ByteArray → Option D} {s : ByteArray} {sv : SV} (d : D) (md' : ByteArray → Option D) (ho : o.op = .mapUpdate t m x y) (hm : ev st.T m = some (.nm i)) (hi : lk st.H i = some (.ab (MapD md))) (hx : ev st.T x = some (.d (.str s))) (hy : ev st.T y = some sv) (hd : dOf sv = some d)
    (hn : updD md s d = md') (hk : match st with
      | ⟨T, H, q⟩ => withoutK (Nat.beq i) H fun H' => putK N o.dst .any ⟨T, (i, .ab (MapD md')) :: H', q⟩ (K .normal)) : OpC P b N kp o st K := by
  subst hn
  obtain ⟨T, H, q⟩ := st
  simp only [withoutK_eq] at hk
  refine ⟨fun e' a w hok => ?_⟩
  have h1 := hok.tmok _ _ hm
  have h2 := hok.tmok _ _ hx
  have h3 := dOf_rep hd (hok.tmok _ _ hy)
  simp only [RepSV, RepD] at h1 h2
  obtain ⟨g, hv, hme⟩ := h1
  obtain ⟨g', o', hv', hg, mp, hM, hmd⟩ := abD_get (hok.hp.ob _ _ hi) hme
  obtain ⟨o2, hrun, hM2⟩ := run_updMV M hv' hg hM s (a.eval y)
  have hlt : g' < w.heap.size := (Array.getElem?_eq_some_iff.1 hg).1
  have hfoot : foot e' i g' := ⟨_, hme, by rw [hv']; rfl⟩
  have hot : ∀ k, k ≠ g' → (w.heap.set! g' o2)[k]? = w.heap[k]? := fun k hk => by
    rw [Array.set!_eq_setIfInBounds, Array.getElem?_setIfInBounds_ne (Ne.symm hk)]
  have hnp : ¬ e'.pub g' := hok.hp.npub i g' (by simp [has, hi]) hfoot
  have hsm : Same e'.pub w { w with heap := w.heap.set! g' o2 } := fun k hk _ => hot k fun e1 => hnp (by rw [← e1]; exact hk)
  obtain ⟨k1, k2, k3⟩ := hok.setOb (i := i) (o := .ab (MapD (updD md s d))) (w' := { w with heap := w.heap.set! g' o2 }) (by simp [has, hi])
    ⟨rfl, rfl, rfl, by simp, fun k hk hn => hot k fun e1 => hn (by rw [e1]; exact hfoot)⟩ (Nat.le_refl _)
    (fun _ => ⟨_, g', o2, hme, by rw [hv']; rfl, (fun A n c e1 => by rw [hv'] at e1; cases e1), by simp [hlt], updMV mp s (a.eval y), hM2, fun z => by
      unfold updD updMV
      by_cases hz : z = s
      · rw [if_pos hz, if_pos hz]
        exact .inr ⟨d, _, rfl, rfl, h3.to hsm fun _ h _ => h⟩
      · rw [if_neg hz, if_neg hz]
        rcases hmd z with h | ⟨y', u', q1, q2, q3⟩
        · exact .inl h
        · exact .inr ⟨y', u', q1, q2, q3.to hsm fun _ h _ => h⟩⟩)
  obtain ⟨st', g1, g2, _⟩ := putK_sound (v := undef) k1 (by simp only [RepSV]) hk
  have hr : (execOp a.eval o).run P w = .ok .skip { w with heap := w.heap.set! g' o2 } := by
    obtain ⟨dst, op, type, pos, after, guard⟩ := o
    simp only at ho; subst ho
    simp only [execOp, Sem.run_bind]
    rw [h2, hrun]
    rfl
  rw [hr]
  exact ⟨e', st', .of ⟨k2, ⟨k2.same, fun j t cs k hj hk => k3 j k (by simp [has, hj]) (by rintro rfl; rw [hi] at hj; cases hj) hk⟩⟩, g1, g2⟩
/-- make(map). -/
theorem mkMapDC {t k e : TypeId} (M : MapTyV P t k e) {kp : Bool} {o : Oper} {st : St} {K : SExit → St → Prop} (ho : o.op = .makeMap t none)
    (hk : match st with
      | ⟨T, H, q⟩ => putK N o.dst (.nm q) ⟨T, (q, .ab (MapD fun _ => none)) :: H, q + 1⟩ (K .normal)) : OpC P b N kp o st K := by
  obtain ⟨T, H, q⟩ := st
  refine ⟨fun e' a w hok => ?_⟩
  have hbl : Below w.heap.size w (pushW w (.map #[] 0)) := pushW_below w _
  obtain ⟨e1, ok1, kw, hm, hpb⟩ := hok.addOb (w' := pushW w (.map #[] 0)) (v := .map (some w.heap.size)) (o := .ab (MapD fun _ => none)) hbl (Nat.le_refl _) (fun k hk => by simp only [footB] at hk; injection hk with hk; omega)
    (fun e2 _ hm => ⟨_, w.heap.size, _, hm, rfl, (fun A n c e' => by cases e'), pushW_new w _, fun _ => none, ⟨w.heap.size, [], 0, rfl, rfl, by simp [keysMV], fun s => rfl⟩, fun s => .inl ⟨rfl, rfl⟩⟩)
  obtain ⟨st', g1, g2, _⟩ := putK_sound (v := .map (some w.heap.size)) ok1 (by simp only [RepSV]; exact ⟨_, rfl, hm⟩) hk
  have hr : (execOp a.eval o).run P w = .ok (.value (.map (some w.heap.size))) (pushW w (.map #[] 0)) := by
    obtain ⟨dst, op, type, pos, after, guard⟩ := o
    simp only at ho; subst ho
    simp only [execOp, Option.map_none]
    refine run_val ?_
    unfold Instr.makeMap
    rfl
  rw [hr]
  exact ⟨e1, st', .of ⟨kw, Agr.below hok.hp hbl⟩, g1, g2⟩

/-! ### A slice over an own block -/
def repS (l : List SV) : Nat → List SV
  | 0 => []
  | n + 1 => l ++ repS l n
theorem repS_rep {e : Env} {w : World} {l : List SV} {v : List Value} (h : RepSVs e w l v) : ∀ n, RepSVs e w (repS l n) (repV v n)
  | 0 => by simp [repS, repV, RepSVs]
  | n + 1 => by simp only [repS, repV]; exact h.app (repS_rep h n)
def fillS (sz : Nat) : List SV → List (Nat × SV) → Option (List SV)
  | cs, [] => some cs
  | cs, (i, x) :: r => match cellsOf x with
    | some l => match Nat.beq l.length sz, Nat.ble (i * sz + sz) cs.length, putAt (i * sz) l cs with
      | true, true, some cs' => fillS sz cs' r
      | _, _, _ => none
    | none => none
theorem fillS_rep {e : Env} {w : World} {sz : Nat} : ∀ (ps : List (Nat × SV)) (pv : List (Nat × Value)) (cs r : List SV) (vc : List Value), fillS sz cs ps = some r → pv.map (·.1) = ps.map (·.1) → RepSVs e w (ps.map (·.2)) (pv.map (·.2)) → RepSVs e w cs vc →
    ∃ vr : Array Value, Instr.fill (fun i => some (i * sz, sz)) vc.toArray pv = some vr ∧ RepSVs e w r vr.toList ∧ vr.size = vc.length
  | [], pv, cs, r, vc, h, he, _, hc => by
    simp [fillS] at h; subst h
    have : pv = [] := by simpa using he
    subst this
    exact ⟨vc.toArray, by simp [Instr.fill], by simpa using hc, by simp⟩
  | (i, x) :: ps, pv, cs, r, vc, h, he, hv, hc => by
    simp only [fillS] at h
    split at h <;> try (cases h; done)
    rename_i l h2
    split at h <;> try (cases h; done)
    rename_i cs' h3 hb h4
    cases pv with
    | nil => simp at he
    | cons p pv =>
      obtain ⟨i', v⟩ := p
      simp only [List.map_cons, List.cons.injEq] at he
      obtain ⟨rfl, he⟩ := he
      simp only [List.map_cons, RepSVs] at hv
      obtain ⟨v', s, e1, hv1, hv2⟩ := hv
      simp only [List.cons.injEq] at e1
      obtain ⟨rfl, rfl⟩ := e1
      have hcs := cellsOf_rep h2 hv1
      have hn := nbeq.1 h3
      have hb' := Nat.le_of_ble_eq_true hb
      have hsz : v.cells.size = sz := by
        have := hcs.len
        rw [Array.length_toList] at this
        omega
      obtain ⟨vr, q1, q2⟩ := putAt_rep h4 (by omega) hcs hc
      have q3 : vr.size = vc.length := by
        have h5 := (putAt_get _ _ _ _ h4).1
        have h6 := q2.len
        have h7 := hc.len
        rw [Array.length_toList] at h6
        omega
      simp only [Instr.fill, hsz]
      rw [if_neg (by have := hc.len; simp; omega)]
      have he' : v.cells.zipIdx.foldl (fun cs (c, j) => cs.setIfInBounds (i' * sz + j) c) vc.toArray = vr := by
        rw [← q1, ← Array.foldl_toList, Array.toList_zipIdx]
      rw [he']
      obtain ⟨vr', p1, p2, p3⟩ := fillS_rep ps pv cs' r vr.toList h he hv2 q2
      exact ⟨vr', by simpa using p1, p2, by rw [p3]; simpa using q3⟩
/-- A slice is built of what may name own objects: its cells are an own block. -/
theorem bsOwnC (hty : Tys P ty) {kp : Bool} {o : Oper} {st : St} {K : SExit → St → Prop} {t el : TypeId} {y ey : TY} {m : Nat} {ps : Array (Nat × Operand)} {l : List (Nat × SV)} (cs : List SV) (ho : o.op = .buildSlice t m ps) (hy : lk ty t = some y) (hkd : y.kd = .slice el) (hey : lk ty el = some ey) (hl : evp st.T ps.toList = some l)
    (hb : (Nat.ble (m * ey.i.size) 16777216 && Nat.beq ey.i.z.cells.toList.length ey.i.size && Nat.ble (m * ey.i.bytes) 140737488355328 && Nat.ble 1 ey.i.size) = true) (hf : fillS ey.i.size (repS (zs ey.i.z.cells.toList) m) l = some cs)
    (hk : match st with
      | ⟨T, H, n⟩ => putK N o.dst (.osl n m) ⟨T, (n, .blk el cs) :: H, n + 1⟩ (K .normal)) : OpC P b N kp o st K := by
  simp only [Bool.and_eq_true] at hb
  obtain ⟨⟨⟨hle, hsz⟩, hby⟩, h1⟩ := hb
  refine ⟨fun e a w h => ?_⟩
  have hT := h.tmok
  have hu := (hty _ _ hy).slice hkd
  have hle' := Nat.le_of_ble_eq_true hle
  have hsz' := nbeq.1 hsz
  have hby' := Nat.le_of_ble_eq_true hby
  have h1' := Nat.le_of_ble_eq_true h1
  have h0 : ey.i.size ≠ 0 := by omega
  have hzs : ey.i.z.cells.size = ey.i.size := by rw [← Array.length_toList]; exact hsz'
  obtain ⟨p1, p2⟩ := evp_rep hT _ _ hl
  have hzc : (Array.range (m * ey.i.size)).map (fun i => (if m * ey.i.size = 0 then #[] else ey.i.z.cells)[i % (if m * ey.i.size = 0 then (#[] : Array Value) else ey.i.z.cells).size]!) = (repV ey.i.z.cells.toList m).toArray := by
    split
    · rename_i hm0
      have : m = 0 := by rcases Nat.mul_eq_zero.1 hm0 with h' | h'; exact h'; exact absurd h' h0
      subst this
      simp [repV]
    · exact zero_repV hzs h0
  obtain ⟨vr, q1, q2, q3⟩ := fillS_rep (e := e) (w := w) l (ps.toList.map fun p => (p.1, a.eval p.2)) _ _ _ hf (by simpa [Function.comp_def] using p1) (by simpa [Function.comp_def] using p2) (repS_rep (zs_rep e w _) m)
  have hbl := pushW_below w (.cells vr el (0, 0))
  obtain ⟨T, H, n⟩ := st
  obtain ⟨e', g1, kw, hm, _⟩ := h.addOb (v := .pointer (some ⟨w.heap.size, 0, none⟩)) (o := .blk el cs) hbl (Nat.le_refl _) (fun k hk => by injection hk with hk; subst hk; exact Nat.le_refl _)
    (fun e' kw hm => ⟨_, vr, hm, pushW_new _ _, q2.kept kw⟩)
  obtain ⟨st', g2, g3, _⟩ := putK_sound (v := .slice (some ⟨w.heap.size, 0, none⟩) m m) g1 (by simp only [RepSV]; exact ⟨_, hm, rfl⟩) hk
  have hrun : (execOp a.eval o).run P w = .ok (.value (.slice (some ⟨w.heap.size, 0, none⟩) m m)) (pushW w (.cells vr el (0, 0))) := by
    obtain ⟨dst, op, type, pos, after, guard⟩ := o
    simp only at ho; subst ho
    simp only [execOp]
    refine run_val ?_
    unfold Instr.buildSlice
    simp only [Sem.run_bind, run_under hu, Result.andThen_ok, Vc.run_sizeOf (hty _ _ hey).i]
    rw [if_neg (by omega)]
    have hmap : (ps.map fun x => (x.1, a.eval x.2)).toList = ps.toList.map fun x => (x.1, a.eval x.2) := by simp
    by_cases hm0 : m * ey.i.size = 0
    · rw [if_pos hm0]
      rw [if_pos hm0] at hzc
      simp only [Sem.run_bind, Sem.run_pure, Result.andThen_ok]
      rw [hzc, hmap, q1]
      simp only [Sem.run_bind, Sem.run_pure, run_newRow, Result.andThen_ok]
    · rw [if_neg hm0]
      rw [if_neg hm0] at hzc
      simp only [Sem.run_bind, Sem.run_pure, Vc.run_zeroValue (hty _ _ hey).i, Result.andThen_ok]
      rw [hzc, hmap, q1]
      simp only [Sem.run_bind, Sem.run_pure, run_newRow, Result.andThen_ok]
  rw [hrun]
  exact ⟨e', st', .of ⟨kw, Agr.below h.hp hbl⟩, g2, g3⟩
/-- Its length. -/
theorem lenOslC {kp : Bool} {o : Oper} {st : St} {K : SExit → St → Prop} {x : Operand} {t : TypeId} {i m : Nat} {el : TypeId} (ho : o.op = .call { callee := .builtin .len, args := #[x], argTypes := #[t] }) (hu : P.underlying t = some (.slice el)) (hx : ev st.T x = some (.osl i m))
    (hk : putK N o.dst (.d (.int .i64 m)) st (K .normal)) : OpC P b N kp o st K := by
  refine valC _ (fun e a w hok => ?_) hk
  have h1 := hok.tmok _ _ hx
  simp only [RepSV] at h1
  obtain ⟨g, _, hv⟩ := h1
  refine ⟨.int .i64 m, by simp only [RepSV, RepD], ?_⟩
  obtain ⟨dst, op, type, pos, after, guard⟩ := o
  simp only at ho; subst ho
  simp only [execOp, resolve, invoke, builtin, Sem.run_bind, Sem.run_pure, Result.andThen_ok]
  have ea : Array.map a.eval #[x] = #[.slice (some ⟨g, 0, none⟩) m m] := by simp [hv]
  rw [ea]
  unfold Builtin.len_
  rw [show (#[Value.slice (some ⟨g, 0, none⟩) m m] : Array Value)[0]? = some (.slice (some ⟨g, 0, none⟩) m m) from rfl, show (#[t] : Array TypeId)[0]? = some t from rfl]
  simp only [Sem.run_bind, run_under hu, Result.andThen_ok]
  rfl
/-- One of its places. -/
theorem idxOslC (hty : Tys P ty) {kp : Bool} {o : Oper} {st : St} {K : SExit → St → Prop} {t el : TypeId} {y ey : TY} {x ix : Operand} {i m : Nat} {k : IntKind} {j : Int} (q : Nat) (ho : o.op = .indexAddr t x ix) (hy : lk ty t = some y) (hkd : y.kd = .slice el) (hey : lk ty el = some ey) (hx : ev st.T x = some (.osl i m)) (hix : ev st.T ix = some (.d (.int k j))) (hj : j = (q : Int)) (hq : q < m)
    (hk : putK N o.dst (.own i (q * ey.i.size)) st (K .normal)) : OpC P b N kp o st K := by
  subst hj
  refine valC _ (fun e a w hok => ?_) hk
  have h1 := hok.tmok _ _ hx
  have h2 := hok.tmok _ _ hix
  simp only [RepSV, RepD] at h1 h2
  obtain ⟨g, hm, hv⟩ := h1
  have hu := (hty _ _ hy).slice hkd
  refine ⟨.pointer (some ⟨g, q * ey.i.size, none⟩), by simp only [RepSV]; exact ⟨g, hm, rfl⟩, ?_⟩
  obtain ⟨dst, op, type, pos, after, guard⟩ := o
  simp only at ho; subst ho
  simp only [execOp]
  refine run_val ?_
  rw [hv, h2]
  unfold Instr.indexAt
  simp only [asIntOf, Sem.run_bind, Sem.run_pure, Result.andThen_ok, run_under hu]
  have h0 : (0 : Int) ≤ (q : Int) := by omega
  have h1 : (q : Int) < (m : Int) := by omega
  simp only [Bool.and_false, Bool.false_eq_true, if_false, h0, h1, and_self, if_true]
  rw [Sem.run_bind, Vc.run_sizeOf (hty _ _ hey).i]
  simp [go_sem, add_own]

/-! ### A call that writes a row in place -/
theorem Ok.setObG {e : Env} {st : St} {a : Act} {w : World} (h : Ok b N e st a w) {i : Nat} {o : Ob} {w' : World} (hi : has st.H i) (ho : Only (fun k => foot e i k) w w') (hd : G.d w w') (hob : Kept e w e w' → ObOk e w' i o) :
    Ok b N e ⟨st.T, (i, o) :: without (Nat.beq i) st.H, st.n⟩ a w' ∧ Kept e w e w' ∧ ∀ j k, has st.H j → j ≠ i → foot e j k → w'.heap[k]? = w.heap[k]? := by
  have hsame : Same e.pub w w' := fun k hk hl => ho.block k hl fun hf => h.hp.npub i k hi hf hk
  have kw : Kept e w e w' := ⟨fun _ _ h => h, fun _ h => h, hsame, ho.size⟩
  have h1 := h.frame (r := Nat.beq i) (s := fun _ => false) (fun _ h => by cases h) (e' := e) (w' := w') (H' := [(i, o)]) 0 rfl (ho.mono fun k _ hk => ⟨i, Nat.beq_refl i, hi, hk⟩) hd (fun _ _ h _ => h) (fun _ h => h) (fun _ h => .inl h)
    ⟨fun j o' hj => ?_, fun j j' k hj hj' hne _ _ => ?_, fun j k hj hk => ?_, fun k hk => Nat.lt_of_lt_of_le (h.hp.pubLt k hk) ho.size⟩ (fun j k hj hk => ?_)
  · rw [scrubT_none, scrubH_none] at h1
    exact ⟨h1, kw, fun j k hj hne hk => ho.block k (h.hp.lt hj hk) fun hf => h.hp.sep j i k hj hi hne hk hf⟩
  all_goals
    have one : ∀ q, has [(i, o)] q → q = i := by
      intro q hq
      unfold has at hq
      simp only [lk] at hq
      split at hq
      · rename_i e'; exact (nbeq.1 e').symm
      · cases hq
  · obtain rfl := one j (by simp [has, hj])
    simp only [lk, Nat.beq_refl] at hj
    injection hj with hj; subst hj; exact hob kw
  · exact absurd ((one j hj).trans (one j' hj').symm) hne
  · obtain rfl := one j hj; exact h.hp.npub j k hi hk
  · obtain rfl := one j hj; exact .inl ⟨j, Nat.beq_refl j, hi, hk⟩
theorem inPlaceC {o : Oper} {st : St} {K : SExit → St → Prop} {f : FuncId} {i : Nat} {t : TypeId} {eb sz n : Nat} {xs : List D} (xs' : List D) (ho : callOf st.T o.op = some (f, [.row i])) (hg : Goes P f) (hGd : ∀ w w', G.d w w') (hi : lk st.H i = some (.row t eb sz n xs))
    (hc : ∀ (S : Nat → Prop) (w : World) (A : Option Addr) (c : Nat) (vs : List Value), RowOk w ⟨.slice A n c, t, sz, vs⟩ → RepDs S w xs vs → Calls P f #[.slice A n c] w fun en w' => en = .returned (.tuple #[]) ∧ Only (fun k => Vc.rowB (.slice A n c) = some k) w w' ∧ ∃ vs', RowOk w' ⟨.slice A n c, t, sz, vs'⟩ ∧ ∀ S, RepDs S w' xs' vs')
    (hk : match st with
      | ⟨T, H, q⟩ => withoutK (Nat.beq i) H fun H' => putK N o.dst (.tup []) ⟨T, (i, .row t eb sz n xs') :: H', q⟩ (K .normal)) : OpC P b N false o st K := by
  obtain ⟨T, H, q⟩ := st
  simp only [withoutK_eq] at hk
  refine ⟨fun e' a w hok => ?_⟩
  obtain ⟨us, hus, hr⟩ := callOf_run hok.tmok ho hg
  obtain ⟨A', c', vs, hm', hrow, hxs, hlb⟩ := hok.hp.ob _ _ hi
  simp only [RepSVs, RepSV] at hus
  obtain ⟨u, s, rfl, ⟨A, n', c, rfl, hm⟩, rfl⟩ := hus
  rw [hm'] at hm; injection hm with hm; injection hm with q1 q2 q3; subst q1; subst q2; subst q3
  rw [hr]
  refine (hc e'.pub w A' c' vs hrow hxs).mono ?_
  rintro en w' ⟨rfl, honly, vs', hrow', hxs'⟩
  obtain ⟨k1, k2, k3⟩ := hok.setObG (i := i) (o := .row t eb sz n xs') (w' := w') (by simp [has, hi])
    (honly.mono fun k _ hk => ⟨_, hm', by rw [footB_slice]; exact hk⟩) (hGd _ _) (fun _ => ⟨A', c', vs', hm', hrow', hxs' _, hlb⟩)
  obtain ⟨st', g1, g2, _⟩ := putK_sound (v := .tuple #[]) k1 (by simp only [RepSV, RepSVs]; exact ⟨_, rfl, rfl⟩) hk
  exact ⟨e', st', ⟨(fun h => Bool.noConfusion h), k2.p⟩, g1, g2⟩
end
end Go.Vx

