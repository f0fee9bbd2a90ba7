/- Laws of operations: maps, assertions of types, slices cut, structs and pointers compared. -/
import Derived.Test.YtohmeplcjgmedaaDoorVxv
namespace Go.Vx
open Go.RowKit Go.Vc
set_option linter.unusedVariables false
set_option linter.unusedSimpArgs false

section
variable {P : Program} {G : Glob} {ty : List (Nat × TY)} {N n0 : Nat} {b : Bs G n0}

theorem ab_get {e : Env} {w : World} {i : Nat} {mp : ByteArray → Option Int} {v : Value} (h : ObOk e w i (.ab (MapIs mp))) (hv : e.m[i]? = some v) : ∃ g o, v = .map (some g) ∧ w.heap[g]? = some o ∧ MapIs mp v o := by
  obtain ⟨v', g, o, h1, h2, h3, h4, h5⟩ := h
  rw [hv] at h1; injection h1 with h1; subst h1
  have h5' := h5
  obtain ⟨g', l, c, rfl, _⟩ := h5
  simp only [footB] at h2
  injection h2 with h2; subst h2
  exact ⟨g', o, rfl, h4, h5'⟩
/-- v, ok := m[s]. -/
theorem lkpC {t k e : TypeId} (M : MapTy P t k e) {kp : Bool} {o : Oper} {st : St} {K : SExit → St → Prop} {m x : Operand} {i : Nat} {mp : ByteArray → Option Int} {s : ByteArray} (n : Int) (r : Bool) (ho : o.op = .lookup t m x true) (hm : ev st.T m = some (.nm i)) (hi : lk st.H i = some (.ab (MapIs mp))) (hx : ev st.T x = some (.d (.str s)))
    (hn : (mp s).getD 0 = n) (hr : (mp s).isSome = r) (hk : putK N o.dst (.tup [.d (.int .i64 n), .d (.bool r)]) st (K .normal)) : OpC P b N kp o st K := by
  subst hn; subst hr
  refine valC _ (fun e' a w hok => ?_) hk
  have h1 := hok.tmok _ _ hm
  have h2 := hok.tmok _ _ hx
  simp only [RepSV, RepD] at h1 h2
  obtain ⟨g, hv, hme⟩ := h1
  obtain ⟨g', o', hv', hg, hM⟩ := ab_get (hok.hp.ob _ _ hi) hme
  refine ⟨.tuple #[.int .i64 ((mp s).getD 0), .bool (mp s).isSome], ?_, ?_⟩
  · simp only [RepSV, RepSVs, RepD]
    exact ⟨_, rfl, _, _, rfl, rfl, _, _, rfl, rfl, rfl⟩
  · obtain ⟨dst, op, type, pos, after, guard⟩ := o
    simp only at ho; subst ho
    simp only [execOp]
    refine run_val ?_
    rw [h2]
    exact run_lookM M hv' hg hM s true
/-- m[s]. -/
theorem lk1C {t k e : TypeId} (M : MapTy P t k e) {kp : Bool} {o : Oper} {st : St} {K : SExit → St → Prop} {m x : Operand} {i : Nat} {mp : ByteArray → Option Int} {s : ByteArray} (n : Int) (ho : o.op = .lookup t m x false) (hm : ev st.T m = some (.nm i)) (hi : lk st.H i = some (.ab (MapIs mp))) (hx : ev st.T x = some (.d (.str s)))
    (hn : (mp s).getD 0 = n) (hk : putK N o.dst (.d (.int .i64 n)) st (K .normal)) : OpC P b N kp o st K := by
  subst hn
  refine valC _ (fun e' a w hok => ?_) hk
  have h1 := hok.tmok _ _ hm
  have h2 := hok.tmok _ _ hx
  simp only [RepSV, RepD] at h1 h2
  obtain ⟨g, hv, hme⟩ := h1
  obtain ⟨g', o', hv', hg, hM⟩ := ab_get (hok.hp.ob _ _ hi) hme
  refine ⟨.int .i64 ((mp s).getD 0), by simp only [RepSV, RepD], ?_⟩
  obtain ⟨dst, op, type, pos, after, guard⟩ := o
  simp only at ho; subst ho
  simp only [execOp]
  refine run_val ?_
  rw [h2]
  exact run_lookM M hv' hg hM s false
/-- A map's block is another one now. -/
theorem Ok.setMap {e : Env} {st : St} {a : Act} {w : World} (h : Ok b N e st a w) {i g : Nat} {mp mp' : ByteArray → Option Int} {v : Value} {o o' : Obj} (hi : lk st.H i = some (.ab (MapIs mp))) (hv : e.m[i]? = some v) (hvg : v = .map (some g)) (hg : w.heap[g]? = some o) (hm : MapIs mp' v o') :
    Ok b N e ⟨st.T, (i, .ab (MapIs mp')) :: without (Nat.beq i) st.H, st.n⟩ a { w with heap := w.heap.set! g o' } ∧ Kept e w e { w with heap := w.heap.set! g o' } ∧ Agr e st.H w { w with heap := w.heap.set! g o' } := by
  have hlt : g < w.heap.size := (Array.getElem?_eq_some_iff.1 hg).1
  have hfoot : foot e i g := ⟨v, hv, by rw [hvg]; rfl⟩
  have hot : ∀ k, k ≠ g → (w.heap.set! g o')[k]? = w.heap[k]? := fun k hk => by
    rw [Array.set!_eq_setIfInBounds, Array.getElem?_setIfInBounds_ne (Ne.symm hk)]
  obtain ⟨h1, h2, h3⟩ := h.setOb (i := i) (o := .ab (MapIs mp')) (w' := { w with heap := w.heap.set! g o' }) (by simp [has, hi])
    ⟨rfl, rfl, rfl, by simp, fun k hk hn => hot k fun e' => hn (by rw [e']; exact hfoot)⟩ (Nat.le_refl _)
    (fun _ => ⟨v, g, o', hv, by rw [hvg]; rfl, (fun A n c e' => by rw [hvg] at e'; cases e'), by simp [hlt], hm⟩)
  refine ⟨h1, h2, h2.same, fun j t cs k hj hk => h3 j k (by simp [has, hj]) (by rintro rfl; rw [hi] at hj; cases hj) hk⟩
/-- m[s] = n. -/
theorem updC {t k e : TypeId} (M : MapTy P t k e) {kp : Bool} {o : Oper} {st : St} {K : SExit → St → Prop} {m x y : Operand} {i : Nat} {mp : ByteArray → Option Int} {s : ByteArray} {n : Int} (mp' : ByteArray → Option Int) (ho : o.op = .mapUpdate t m x y) (hm : ev st.T m = some (.nm i)) (hi : lk st.H i = some (.ab (MapIs mp))) (hx : ev st.T x = some (.d (.str s))) (hy : ev st.T y = some (.d (.int .i64 n)))
    (hn : updM mp s n = mp') (hk : match st with
      | ⟨T, H, q⟩ => withoutK (Nat.beq i) H fun H' => putK N o.dst .any ⟨T, (i, .ab (MapIs mp')) :: H', q⟩ (K .normal)) : OpC P b N kp o st K := by
  subst hn
  obtain ⟨T, H, q⟩ := st
  simp only [withoutK_eq] at hk
  refine ⟨fun e' a w hok => ?_⟩
  have h1 := hok.tmok _ _ hm
  have h2 := hok.tmok _ _ hx
  have h3 := hok.tmok _ _ hy
  simp only [RepSV, RepD] at h1 h2 h3
  obtain ⟨g, hv, hme⟩ := h1
  obtain ⟨g', o', hv', hg, hM⟩ := ab_get (hok.hp.ob _ _ hi) hme
  obtain ⟨o2, hrun, hM2⟩ := run_updM M hv' hg hM s n
  obtain ⟨k1, k2, k3⟩ := hok.setMap hi hme hv' hg hM2
  obtain ⟨st', g1, g2, _⟩ := putK_sound (v := undef) k1 (by simp only [RepSV]) hk
  have hr : (execOp a.eval o).run P w = .ok .skip { w with heap := w.heap.set! g' o2 } := by
    obtain ⟨dst, op, type, pos, after, guard⟩ := o
    simp only at ho; subst ho
    simp only [execOp, Sem.run_bind]
    rw [h2, h3, hrun]
    rfl
  rw [hr]
  exact ⟨e', st', .of ⟨k2, k3⟩, g1, g2⟩
/-- delete(m, s). -/
theorem delC {t k e : TypeId} (M : MapTy P t k e) {kp : Bool} {o : Oper} {st : St} {K : SExit → St → Prop} {m x : Operand} {i : Nat} {mp : ByteArray → Option Int} {s : ByteArray} {t' : TypeId} (mp' : ByteArray → Option Int) (ho : o.op = .call { callee := .builtin .delete, args := #[m, x], argTypes := #[t, t'] }) (hm : ev st.T m = some (.nm i)) (hi : lk st.H i = some (.ab (MapIs mp))) (hx : ev st.T x = some (.d (.str s)))
    (hn : delM mp s = mp') (hk : match st with
      | ⟨T, H, q⟩ => withoutK (Nat.beq i) H fun H' => putK N o.dst .any ⟨T, (i, .ab (MapIs mp')) :: H', q⟩ (K .normal)) : OpC P b N kp o st K := by
  subst hn
  obtain ⟨T, H, q⟩ := st
  simp only [withoutK_eq] at hk
  refine ⟨fun e' a w hok => ?_⟩
  have h1 := hok.tmok _ _ hm
  have h2 := hok.tmok _ _ hx
  simp only [RepSV, RepD] at h1 h2
  obtain ⟨g, hv, hme⟩ := h1
  obtain ⟨g', o', hv', hg, hM⟩ := ab_get (hok.hp.ob _ _ hi) hme
  obtain ⟨o2, hrun, hM2⟩ := run_delM M hv' hg hM s o.type (ts := #[t, t']) rfl
  obtain ⟨k1, k2, k3⟩ := hok.setMap hi hme hv' hg hM2
  obtain ⟨st', g1, g2, _⟩ := putK_sound (v := .tuple #[]) k1 (by simp only [RepSV]) hk
  have hr : (execOp a.eval o).run P w = .ok (.value (.tuple #[])) { w with heap := w.heap.set! g' o2 } := by
    obtain ⟨dst, op, type, pos, after, guard⟩ := o
    simp only at ho; subst ho
    simp only [execOp, resolve, Sem.run_bind, Sem.run_pure, Result.andThen_ok, invoke, builtin]
    have ea : Array.map a.eval #[m, x] = #[a.eval m, .string s] := by simp [h2]
    rw [ea, hrun]
    rfl
  rw [hr]
  exact ⟨e', st', .of ⟨k2, k3⟩, g1, g2⟩
/-- make(map). -/
theorem mkMapC {t k e : TypeId} (M : MapTy P t k e) {kp : Bool} {o : Oper} {st : St} {K : SExit → St → Prop} (ho : o.op = .makeMap t none)
    (hk : match st with
      | ⟨T, H, q⟩ => putK N o.dst (.nm q) ⟨T, (q, .ab (MapIs fun _ => none)) :: H, q + 1⟩ (K .normal)) : OpC P b N kp o st K := by
  obtain ⟨T, H, q⟩ := st
  refine ⟨fun e' a w hok => ?_⟩
  have hbl : Below w.heap.size w (pushW w (.map #[] 0)) := pushW_below w _
  obtain ⟨e1, ok1, kw, hm, hpb⟩ := hok.addOb (w' := pushW w (.map #[] 0)) (v := .map (some w.heap.size)) (o := .ab (MapIs fun _ => none)) hbl (Nat.le_refl _) (fun k hk => by simp only [footB] at hk; injection hk with hk; omega)
    (fun e2 _ hm => ⟨_, w.heap.size, _, hm, rfl, (fun A n c e' => by cases e'), pushW_new w _, w.heap.size, [], 0, rfl, rfl, by simp [keysM], fun s => rfl⟩)
  obtain ⟨st', g1, g2, _⟩ := putK_sound (v := .map (some w.heap.size)) ok1 (by simp only [RepSV]; exact ⟨_, rfl, hm⟩) hk
  have hr : (execOp a.eval o).run P w = .ok (.value (.map (some w.heap.size))) (pushW w (.map #[] 0)) := by
    obtain ⟨dst, op, type, pos, after, guard⟩ := o
    simp only at ho; subst ho
    simp only [execOp, Option.map_none]
    refine run_val ?_
    unfold Instr.makeMap
    rfl
  rw [hr]
  exact ⟨e1, st', .of ⟨kw, Agr.below hok.hp hbl⟩, g1, g2⟩
end
end Go.Vx
