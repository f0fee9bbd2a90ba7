/- Laws of calls. -/
import Derived.Test.YtohmeplcjgmedaaDoorVxm
namespace Go.Vx
open Go.RowKit Go.Vc

inductive DOut where
  | ret (x : D) | pan (x : D)
def DOutOk (S : Nat → Prop) (w : World) : DOut → Ending → Prop
  | .ret x, en => ∃ v, en = .returned v ∧ RepD S w x v
  | .pan x, en => ∃ v, en = .panicked [{ v, recovered := false }] ∧ RepD S w x v
/-- A contract over closed data: nothing that was there is written. -/
def FnQ (P : Program) (G : Glob) (f : FuncId) (ds : List D) (Q : DOut → Prop) : Prop :=
  ∀ (S : Nat → Prop) (w : World) (vs : List Value), RepDs S w ds vs → (∀ k, S k → k < w.heap.size) → G.p S w →
    Calls P f vs.toArray w fun en w' => ∃ o S', Q o ∧ DOutOk S' w' o en ∧ (Below w.heap.size w w' ∧ G.d w w') ∧ (∀ k, S k → S' k) ∧ (∀ k, S' k → S k ∨ w.heap.size ≤ k) ∧ ∀ k, S' k → k < w'.heap.size
def retD (r : D) : DOut → Prop
  | .ret y => y = r
  | .pan _ => False
abbrev FnR (P : Program) (G : Glob) (f : FuncId) (ds : List D) (r : D) : Prop := FnQ P G f ds (retD r)
/-- The same for an outcome of own objects' symbols. -/
def closeQ (Q : DOut → Prop) : Out → Hp → Prop
  | .ret x, _ => match dOf x with
    | some y => Q (.ret y)
    | none => False
  | .pan x, _ => match dOf x with
    | some y => Q (.pan y)
    | none => False

section
variable {P : Program} {G : Glob} {ty : List (Nat × TY)} {N : Nat} {plans : List (Nat × Pl)}

theorem HpOk.nil {S : Nat → Prop} {w : World} (h : ∀ k, S k → k < w.heap.size) : HpOk ⟨[], S⟩ w [] :=
  ⟨fun i o ho => by simp [lk] at ho, fun i j k hi => by simp [has, lk] at hi, fun i k hi => by simp [has, lk] at hi, h⟩
theorem fnQ_of_tri {f : FuncId} {ds : List D} {Q : DOut → Prop} (h : Tri P G f 0 0 (ds.map .d) [] (closeQ Q)) : FnQ P G f ds Q := by
  intro S w vs hds hS hG
  refine (h ⟨[], S⟩ w vs rfl (RepSVs.ofD.1 hds) (HpOk.nil hS) hG).mono ?_
  rintro en w' ⟨o, H', e', hq, ho, hl⟩
  have hf : ∀ k, ¬ feet ⟨[], S⟩ [] k := by rintro k ⟨i, hi, _⟩; simp [has, lk] at hi
  have hb : Below w.heap.size w w' := ⟨hl.only.os, hl.only.tape, hl.only.output, hl.only.size, fun k hk => hl.only.block k hk (hf k)⟩
  have hfr : ∀ k, e'.pub k → S k ∨ w.heap.size ≤ k := fun k hk => by
    rcases hl.frm k hk with h | h | h
    · exact .inl h
    · exact (hf k h).elim
    · exact .inr h
  cases o with
  | ret x =>
    simp only [closeQ] at hq
    split at hq <;> try (exact hq.elim)
    rename_i y hy
    obtain ⟨v, h1, h2⟩ := ho
    exact ⟨.ret y, e'.pub, hq, ⟨v, h1, dOf_rep hy h2⟩, ⟨hb, hl.dr⟩, hl.up, hfr, hl.hp.pubLt⟩
  | pan x =>
    simp only [closeQ] at hq
    split at hq <;> try (exact hq.elim)
    rename_i y hy
    obtain ⟨v, h1, h2⟩ := ho
    exact ⟨.pan y, e'.pub, hq, ⟨v, h1, dOf_rep hy h2⟩, ⟨hb, hl.dr⟩, hl.up, hfr, hl.hp.pubLt⟩
theorem fnQ_of_vc (hty : Tys P ty) (hm : P.follows .mixedOrders = true) {f : FuncId} {fn : Func} {c : Code} {ds : List D} {Q : DOut → Prop}
    (plans : List (Nat × Pl)) (hf : P.funcs[f]? = some fn) (hb : fn.body = some c) (hn : fn.ntmps = N) (ha : (ds.map SV.d).length ≤ N)
    (h : ∀ b : Bs G 0, nrmL (ds.map .d) fun args => vcCode P ty b N plans c ⟨numbS' 0 args, [], 0⟩ (retK ty 0 [] fn.results.toList (closeQ Q))) : FnQ P G f ds Q :=
  fnQ_of_tri (tri_of_vc hty hm [] plans hf hb hn ha fun b => by have := h b; rwa [nrmL_eq] at this)
theorem FnQ.mono {f : FuncId} {ds : List D} {Q Q' : DOut → Prop} (h : FnQ P G f ds Q) (hq : ∀ o, Q o → Q' o) : FnQ P G f ds Q' := by
  intro S w vs hds hS hG
  refine (h S w vs hds hS hG).mono ?_
  rintro en w' ⟨o, S', h1, h2⟩
  exact ⟨o, S', hq _ h1, h2⟩

/-- What is called, with all arguments. -/
def callOf (T : Tl) : Op → Option (FuncId × List SV)
  | .call { callee := .value fn, args := as, .. } => match ev T fn, evs T as.toList with
    | some (.d (.fn f a b)), some l => some (f, dL a ++ l ++ dL b)
    | some (.fn f a b), some l => some (f, a ++ l ++ b)
    | _, _ => none
  | _ => none
theorem callOf_run {e : Env} {w : World} {T : Tl} {g : Operand → Value} (hT : TmOk e w T g) {o : Oper} {f : FuncId} {l : List SV} (h : callOf T o.op = some (f, l)) (hg : Goes P f) :
    ∃ vs, RepSVs e w l vs ∧ (execOp g o).run P w = .ok (.enter f vs.toArray) w := by
  obtain ⟨dst, op, type, pos, after, guard⟩ := o
  simp only at h
  unfold callOf at h
  split at h <;> try (cases h; done)
  rename_i fn as ts
  split at h <;> try (cases h; done)
  · rename_i f' a b l' hf hl
    injection h with h; injection h with h1 h2; subst h1; subst h2
    have hv := hT _ _ hf
    simp only [RepSV, RepD] at hv
    obtain ⟨a', b', hv, ra, rb⟩ := hv
    refine ⟨a'.toList ++ as.toList.map g ++ b'.toList, ?_, ?_⟩
    · rw [dL_map, dL_map]
      exact ((RepSVs.ofD.1 ra).app (evs_rep hT _ _ hl)).app (RepSVs.ofD.1 rb)
    · simp only [execOp, resolve, hv, Deferred.ofValue, Sem.run_bind, Sem.run_pure, Result.andThen_ok, invoke]
      rw [hg]
      congr 2
      apply Array.ext'
      simp
  · rename_i f' a b l' hf hl
    injection h with h; injection h with h1 h2; subst h1; subst h2
    have hv := hT _ _ hf
    simp only [RepSV] at hv
    obtain ⟨a', b', hv, ra, rb⟩ := hv
    refine ⟨a'.toList ++ as.toList.map g ++ b'.toList, (ra.app (evs_rep hT _ _ hl)).app rb, ?_⟩
    simp only [execOp, resolve, hv, Deferred.ofValue, Sem.run_bind, Sem.run_pure, Result.andThen_ok, invoke]
    rw [hg]
    congr 2
    apply Array.ext'
    simp

/-- A call that goes to f, with these arguments. -/
def CallTo (P : Program) {G : Glob} {n0 : Nat} (b : Bs G n0) (N : Nat) (st : St) (o : Oper) (f : FuncId) (l : List SV) : Prop :=
  ∀ e a w, Ok b N e st a w → ∃ vs, RepSVs e w l vs ∧ (execOp a.eval o).run P w = .ok (.enter f vs.toArray) w
theorem callTo_of {n0 : Nat} {b : Bs G n0} {st : St} {o : Oper} {f : FuncId} {l : List SV} (h : callOf st.T o.op = some (f, l)) (hg : Goes P f) : CallTo P b N st o f l :=
  fun _ _ _ hok => callOf_run hok.tmok h hg
/-- A method of what an interface value holds. -/
theorem invTo {n0 : Nat} {b : Bs G n0} {st : St} {o : Oper} {f : FuncId} {recv : Operand} {name : String} {as : Array Operand} {ts : Array TypeId} {t : TypeId} {x : SV} {l : List SV} (ho : o.op = .call { callee := .invoke recv name, args := as, argTypes := ts }) (hr : ev st.T recv = some (.ifc t x)) (hl : evs st.T as.toList = some l)
    (hm : ∀ v args w, (callMethod (.iface t v) name args).run P w = .ok (.enter f (#[v] ++ args)) w) : CallTo P b N st o f (x :: l) := by
  intro e a w hok
  have h1 := hok.tmok _ _ hr
  simp only [RepSV] at h1
  obtain ⟨v, hv, hx⟩ := h1
  refine ⟨v :: as.toList.map a.eval, by simp only [RepSVs]; exact ⟨v, _, rfl, hx, evs_rep hok.tmok _ _ hl⟩, ?_⟩
  obtain ⟨dst, op, type, pos, after, guard⟩ := o
  simp only at ho
  subst ho
  simp only [execOp, resolve, Sem.run_bind, Sem.run_pure, Result.andThen_ok, invoke, hv]
  have e1 : (#[Value.iface t v] ++ Array.map a.eval as)[0]? = some (.iface t v) := by rw [Array.getElem?_append_left (by simp)]; rfl
  have e2 : (#[Value.iface t v] ++ Array.map a.eval as).extract 1 (#[Value.iface t v] ++ Array.map a.eval as).size = Array.map a.eval as := by
    apply Array.ext'
    simp
    exact List.take_of_length_le (by simp)
  rw [e2]
  split
  · rename_i r hr'
    have := e1.symm.trans hr'
    injection this with this; subst this
    rw [hm]
    congr 2
    apply Array.ext'
    simp
  · rename_i hr'
    exact absurd e1 (hr' _)

/-- A call's answer as a symbolic value. -/
def svD : D → SV
  | .tup l => .tup (dL l)
  | x => .d x
theorem svD_rep {e : Env} {w : World} {x : D} {v : Value} (h : RepD e.pub w x v) : RepSV e w (svD x) v := by
  cases x <;> first | (simpa only [svD, RepSV] using h) | skip
  rename_i l
  simp only [svD, RepSV]
  simp only [RepD] at h
  obtain ⟨l', e', h1⟩ := h
  exact ⟨l', e', by rw [dL_map]; exact RepSVs.ofD.1 h1⟩
def contK (N : Nat) (dst : Option Tmp) (st : St) (K : SExit → St → Prop) : DOut → Prop
  | .ret r => nrm (svD r) fun x => putK N dst x st (K .normal)
  | .pan r => K (.pan (.d r)) st

/-- More memory, and more that may be read. -/
theorem Ok.below' {n0 : Nat} {b : Bs G n0} {e : Env} {st : St} {a : Act} {w w' : World} (h : Ok b N e st a w) {S' : Nat → Prop} (hb : Below w.heap.size w w') (hd : G.d w w') (hup : ∀ k, e.pub k → S' k) (hfr : ∀ k, S' k → e.pub k ∨ w.heap.size ≤ k) (hlt : ∀ k, S' k → k < w'.heap.size) :
    Ok b N ⟨e.m, S'⟩ st a w' ∧ Kept e w ⟨e.m, S'⟩ w' ∧ Agr e st.H w w' := by
  have h1 := h.frame (r := fun _ => false) (s := fun _ => false) (fun _ h => h) (e' := ⟨e.m, S'⟩) (w' := w') (H' := []) 0 rfl (Only.of_below hb) hd (fun _ _ h _ => h) hup (fun k hk => (hfr k hk).imp id .inr)
    ⟨fun i o ho => by simp [lk] at ho, fun i j k hi => by simp [has, lk] at hi, fun i k hi => by simp [has, lk] at hi, hlt⟩ (fun i k hi => by simp [has, lk] at hi)
  have hw : without (fun _ => false) st.H = st.H := by
    have : ∀ H : Hp, without (fun _ => false) H = H := by
      intro H
      induction H with
      | nil => rfl
      | cons x r ih => obtain ⟨i, o⟩ := x; simp only [without, ih]
    exact this _
  rw [scrubT_none, hw, scrubH_none] at h1
  exact ⟨h1, ⟨fun _ _ h => h, hup, same_of_below hb _, hb.size⟩, Agr.below h.hp hb⟩

/-- A call, over closed data alone. -/
theorem callQc {n0 : Nat} {b : Bs G n0} {kp : Bool} {o : Oper} {st : St} {K : SExit → St → Prop} {f : FuncId} {l : List SV} {ds : List D} {Q : DOut → Prop} (h : CallTo P b N st o f l) (hd : dOf.dOfs l = some ds) (hc : FnQ P G f ds Q)
    (hk : ∀ o', Q o' → contK N o.dst st K o') : OpC P b N kp o st K := by
  refine ⟨fun e a w hok => ?_⟩
  obtain ⟨vs, h1, h2⟩ := h e a w hok
  rw [h2]
  refine (hc e.pub w vs (dOfs_rep hd h1) hok.hp.pubLt hok.gl).mono ?_
  rintro en w' ⟨o', S', hq, ho, ⟨hb, hdr⟩, hup, hfr, hlt⟩
  obtain ⟨ok', kw, hag⟩ := hok.below' hb hdr hup hfr hlt
  have hkk := hk o' hq
  cases o' with
  | ret r =>
    obtain ⟨v, rfl, hv⟩ := ho
    simp only [contK] at hkk
    obtain ⟨y, hy, hr⟩ := nrm_eq (e := ⟨e.m, S'⟩) _ _ hkk (svD_rep hv)
    obtain ⟨st', g1, g2, _⟩ := putK_sound ok' hr hy
    exact ⟨_, st', .of ⟨kw, hag⟩, g1, g2⟩
  | pan r =>
    obtain ⟨v, rfl, hv⟩ := ho
    exact ⟨_, st, .d r, v, rfl, by simpa only [RepSV] using hv, ok', hkk⟩
theorem callQ {n0 : Nat} {b : Bs G n0} {kp : Bool} {o : Oper} {st : St} {K : SExit → St → Prop} {f : FuncId} {l : List SV} {ds : List D} {Q : DOut → Prop} (h : callOf st.T o.op = some (f, l)) (hd : dOf.dOfs l = some ds) (hg : Goes P f) (hc : FnQ P G f ds Q)
    (hk : ∀ o', Q o' → contK N o.dst st K o') : OpC P b N kp o st K := callQc (callTo_of h hg) hd hc hk
theorem callF {n0 : Nat} {b : Bs G n0} {kp : Bool} {o : Oper} {st : St} {K : SExit → St → Prop} {f : FuncId} {l : List SV} {ds : List D} {r : D} (hc : FnR P G f ds r) (hg : Goes P f) (h : callOf st.T o.op = some (f, l)) (hd : dOf.dOfs l = some ds)
    (hk : contK N o.dst st K (.ret r)) : OpC P b N kp o st K :=
  callQ h hd hg hc fun o' ho => by
    cases o' with
    | ret y => simp only [retD] at ho; subst ho; exact hk
    | pan y => exact ho.elim

/-- Data that is in no memory. -/
def mfD : D → Bool
  | .int _ _ => true
  | .bool _ => true
  | .str _ => true
  | .val _ => true
  | .agg l => mfDs l
  | .tup l => mfDs l
  | _ => false
where mfDs : List D → Bool
  | [] => true
  | x :: r => mfD x && mfDs r
mutual
theorem mfD_rep {S S' : Nat → Prop} {w w' : World} : ∀ {x : D} {v : Value}, mfD x = true → RepD S w x v → RepD S' w' x v
  | .int k n, v, _, h => h
  | .bool c, v, _, h => h
  | .str s, v, _, h => h
  | .val u, v, _, h => h
  | .agg l, v, hm, h => by
    simp only [mfD] at hm
    simp only [RepD] at h ⊢
    obtain ⟨l', e, h1⟩ := h
    exact ⟨l', e, mfDs_rep hm h1⟩
  | .tup l, v, hm, h => by
    simp only [mfD] at hm
    simp only [RepD] at h ⊢
    obtain ⟨l', e, h1⟩ := h
    exact ⟨l', e, mfDs_rep hm h1⟩
  | .sl _ _ _, _, hm, _ => by simp [mfD] at hm
  | .csl _ _ _, _, hm, _ => by simp [mfD] at hm
  | .ptr _ _, _, hm, _ => by simp [mfD] at hm
  | .fn _ _ _, _, hm, _ => by simp [mfD] at hm
  | .ifc _ _, _, hm, _ => by simp [mfD] at hm
theorem mfDs_rep {S S' : Nat → Prop} {w w' : World} : ∀ {l : List D} {v : List Value}, mfD.mfDs l = true → RepDs S w l v → RepDs S' w' l v
  | [], v, _, h => by simpa only [RepDs] using h
  | x :: r, v, hm, h => by
    simp only [mfD.mfDs, Bool.and_eq_true] at hm
    simp only [RepDs] at h ⊢
    obtain ⟨u, s, e, h1, h2⟩ := h
    exact ⟨u, s, e, mfD_rep hm.1 h1, mfDs_rep hm.2 h2⟩
end
/-- A call that is shown own objects, and whose answer is in no memory. -/
theorem callV {n0 : Nat} {b : Bs G n0} {kp : Bool} {o : Oper} {st : St} {K : SExit → St → Prop} {f : FuncId} {l l' : List SV} {ds : List D} {r : D} (hc : FnR P G f ds r) (hg : Goes P f) (h : callOf st.T o.op = some (f, l)) (hl : mapO (frz (fun _ => true) (fun i => i) st.H 20) l = some l') (hd : dOf.dOfs l' = some ds)
    (hm : mfD r = true) (hk : contK N o.dst st K (.ret r)) : OpC P b N kp o st K := by
  refine ⟨fun e a w hok => ?_⟩
  obtain ⟨vs, h1, h2⟩ := callOf_run hok.tmok h hg
  rw [h2]
  have h3 := mapO_rep (fun x y v => frz_rep hok.hp (m' := []) (fun _ _ _ h => by cases h) 20 x y v) hl h1
  refine (hc (pubN e st.H fun _ => true) w vs (dOfs_rep hd h3) (fun k hk => ?_) (G.mono hok.gl (Same.rfl' _ _) (fun k hk => .inl hk) (Nat.le_refl _))).mono ?_
  · rcases hk with hk | ⟨i, _, h4, h5⟩
    · exact hok.hp.pubLt k hk
    · exact hok.hp.lt h4 h5
  rintro en w' ⟨o', S', hq, ho, ⟨hb, hdr⟩, hup, hfr, hlt⟩
  obtain ⟨ok', kw, hag⟩ := hok.below' (S' := e.pub) hb hdr (fun _ h => h) (fun _ h => .inl h) fun k hk => Nat.lt_of_lt_of_le (hok.hp.pubLt k hk) hb.size
  cases o' with
  | pan y => exact hq.elim
  | ret y =>
    simp only [retD] at hq; subst hq
    obtain ⟨v, rfl, hv⟩ := ho
    simp only [contK] at hk
    obtain ⟨y', hy, hr⟩ := nrm_eq (e := e) (w := w') _ _ hk (svD_rep (mfD_rep hm hv))
    obtain ⟨st', g1, g2, _⟩ := putK_sound ok' hr hy
    exact ⟨_, st', .of ⟨kw, hag⟩, g1, g2⟩

/-! ### Own objects that are written no more from here on -/
def frzA (p : Nat → Bool) (H : Hp) (x : SV) : SV :=
  match frz p (fun i => i) H 20 x with
  | some y => y
  | none => .any
def frzTK (p : Nat → Bool) (H : Hp) : Tl → (Tl → Prop) → Prop
  | [], K => K []
  | (t, x) :: r, K => nrmL [frzA p H x] fun
    | [y] => frzTK p H r fun l => K ((t, y) :: l)
    | _ => False
def frzs (p : Nat → Bool) (H : Hp) : List SV → List SV
  | [] => []
  | x :: r => frzA p H x :: frzs p H r
def frzHK (p : Nat → Bool) (H0 : Hp) : Hp → (Hp → Prop) → Prop
  | [], K => K []
  | (i, o) :: r, K => match p i with
    | true => frzHK p H0 r K
    | false => match o with
      | .blk t cs => nrmL (frzs p H0 cs) fun cs => frzHK p H0 r fun l => K ((i, .blk t cs) :: l)
      | .row t eb sz m xs => frzHK p H0 r fun l => K ((i, .row t eb sz m xs) :: l)
      | .ab φ => frzHK p H0 r fun l => K ((i, .ab φ) :: l)
theorem frzA_rep {e : Env} {w : World} {H : Hp} {p : Nat → Bool} (hH : HpOk e w H) {x : SV} {v : Value} (hx : RepSV e w x v) : RepSV ⟨e.m, pubN e H p⟩ w (frzA p H x) v := by
  unfold frzA
  split
  · rename_i y hy; exact frz_rep hH (fun _ _ h _ => h) 20 _ _ _ hy hx
  · simp only [RepSV]
theorem frzs_rep {e : Env} {w : World} {H : Hp} {p : Nat → Bool} (hH : HpOk e w H) : ∀ {l : List SV} {v : List Value}, RepSVs e w l v → RepSVs ⟨e.m, pubN e H p⟩ w (frzs p H l) v
  | [], v, h => by simpa only [frzs, RepSVs] using h
  | x :: r, v, h => by
    simp only [frzs, RepSVs] at h ⊢
    obtain ⟨u, s, e1, h1, h2⟩ := h
    exact ⟨u, s, e1, frzA_rep hH h1, frzs_rep hH h2⟩
theorem frzTK_get (p : Nat → Bool) (H : Hp) : ∀ (T : Tl) (K : Tl → Prop), frzTK p H T K → ∃ T', K T' ∧ ∀ t y, lk T' t = some y → ∃ x, lk T t = some x ∧ y = frzA p H x
  | [], K, h => ⟨[], h, fun t y hy => by simp [lk] at hy⟩
  | (t, x) :: r, K, h => by
    simp only [frzTK, nrmL_eq] at h
    obtain ⟨T', h1, h2⟩ := frzTK_get p H r _ h
    refine ⟨_, h1, fun t' y hy => ?_⟩
    simp only [lk] at hy ⊢
    split at hy
    · injection hy with hy; exact ⟨x, rfl, hy.symm⟩
    · exact h2 t' y hy
theorem frzHK_blk (p : Nat → Bool) (H0 : Hp) : ∀ (H : Hp) (K : Hp → Prop), frzHK p H0 H K → ∃ H', K H' ∧ (∀ i o, lk H' i = some o → p i = false ∧ ∃ o0, lk H i = some o0 ∧ (match o0 with | .blk t cs => o = .blk t (frzs p H0 cs) | .row t eb sz m xs => o = .row t eb sz m xs | .ab φ => o = .ab φ)) ∧
    ∀ i t cs, lk H i = some (.blk t cs) → p i = false → ∃ cs', lk H' i = some (.blk t cs')
  | [], K, h => ⟨[], h, fun i o ho => by simp [lk] at ho, fun i t cs hi => by simp [lk] at hi⟩
  | (i, x) :: r, K, h => by
    simp only [frzHK] at h
    split at h
    · rename_i hp
      obtain ⟨H', h1, h2, h3⟩ := frzHK_blk p H0 r K h
      refine ⟨H', h1, fun j o ho => ?_, fun j t cs hj hpj => ?_⟩
      · obtain ⟨q1, o0, q2, q3⟩ := h2 j o ho
        refine ⟨q1, o0, ?_, q3⟩
        simp only [lk]
        rw [nbeq_ne.2 (by rintro rfl; rw [hp] at q1; cases q1)]
        exact q2
      · simp only [lk] at hj
        rw [nbeq_ne.2 (by rintro rfl; rw [hp] at hpj; cases hpj)] at hj
        exact h3 j t cs hj hpj
    · rename_i hp
      have step : ∀ o', (match x with | .blk t cs => o' = .blk t (frzs p H0 cs) | .row t eb sz m xs => o' = .row t eb sz m xs | .ab φ => o' = .ab φ) → frzHK p H0 r (fun l => K ((i, o') :: l)) → ∃ H', K H' ∧ (∀ i_1 o, lk H' i_1 = some o → p i_1 = false ∧ ∃ o0, lk ((i, x) :: r) i_1 = some o0 ∧ (match o0 with | .blk t cs => o = .blk t (frzs p H0 cs) | .row t eb sz m xs => o = .row t eb sz m xs | .ab φ => o = .ab φ)) ∧
          ∀ i_1 t cs, lk ((i, x) :: r) i_1 = some (.blk t cs) → p i_1 = false → ∃ cs', lk H' i_1 = some (.blk t cs') := by
        intro o' ho' h
        obtain ⟨H', h1, h2, h3⟩ := frzHK_blk p H0 r _ h
        refine ⟨_, h1, fun j o ho => ?_, fun j t cs hj hpj => ?_⟩
        · simp only [lk] at ho ⊢
          split at ho
          · rename_i e; obtain rfl := nbeq.1 e
            injection ho with ho; subst ho; exact ⟨hp, _, rfl, ho'⟩
          · exact h2 j o ho
        · simp only [lk] at hj ⊢
          split at hj
          · injection hj with hj; subst hj
            simp only at ho'
            exact ⟨_, by rw [ho']⟩
          · exact h3 j t cs hj hpj
      split at h
      · rename_i t cs
        rw [nrmL_eq] at h
        exact step _ rfl h
      · rename_i t eb sz m xs
        exact step _ rfl h
      · exact step _ rfl h
def pubK (p : Nat → Bool) (st : St) (K : St → Prop) : Prop :=
  match st with
  | ⟨T, H, n⟩ => frzTK p H T fun T' => frzHK p H H fun H' => K ⟨T', H', n⟩
theorem pubK_sound {n0 : Nat} {b : Bs G n0} {e : Env} {st : St} {a : Act} {w : World} (h : Ok b N e st a w) (p : Nat → Bool) {K : St → Prop} (hk : pubK p st K) :
    ∃ e' st', K st' ∧ Kept e w e' w ∧ Ok b N e' st' a w ∧ (∀ i t cs k, lk st.H i = some (.blk t cs) → foot e i k → e'.pub k ∨ ∃ cs', lk st'.H i = some (.blk t cs')) ∧ e'.m = e.m := by
  obtain ⟨T, H, n⟩ := st
  simp only [pubK] at hk
  obtain ⟨T', hk, hT⟩ := frzTK_get _ _ _ _ hk
  obtain ⟨H', hk, hH, hB⟩ := frzHK_blk _ _ _ _ hk
  have kw : Kept e w ⟨e.m, pubN e H p⟩ w := ⟨fun _ _ h => h, fun _ h => .inl h, Same.rfl' _ _, Nat.le_refl _⟩
  have hd : ∀ i, has H' i → p i = false ∧ has H i := by
    intro i hi
    obtain ⟨o, ho⟩ := Option.isSome_iff_exists.1 hi
    obtain ⟨h1, o0, h2, _⟩ := hH i o ho
    exact ⟨h1, by simp [has, h2]⟩
  refine ⟨⟨e.m, pubN e H p⟩, _, hk, kw, ⟨h.sz, h.df, h.len, fun t y hy => ?_, ⟨fun i o ho => ?_, fun i j k hi hj hne h1 h2 => h.hp.sep i j k (hd i hi).2 (hd j hj).2 hne h1 h2, fun i k hi h1 h2 => ?_, fun k hk => ?_⟩, h.below, h.dr, fun i k hi h1 => h.mine i k (hd i hi).2 h1, fun k hk => ?_, ⟨h.pre.m, h.pre.le, fun k hk => .inl (h.pre.up k hk)⟩, G.mono h.gl kw.same kw.pub (Nat.le_refl _)⟩, fun i t cs k hi hf => ?_, rfl⟩
  · obtain ⟨x, hx, rfl⟩ := hT t y hy
    exact frzA_rep h.hp (h.tm t x hx)
  · obtain ⟨h1, o0, h2, h3⟩ := hH i o ho
    have := h.hp.ob i o0 h2
    cases o0 with
    | blk t cs =>
      simp only at h3; subst h3
      obtain ⟨g, vs, q1, q2, q3⟩ := this
      exact ⟨g, vs, q1, q2, frzs_rep h.hp q3⟩
    | row t eb sz m xs =>
      simp only at h3; subst h3
      obtain ⟨A, c, vs, q1, q2, q3, q4⟩ := this
      exact ⟨A, c, vs, q1, q2, q3.kept kw, q4⟩
    | ab φ =>
      simp only at h3; subst h3
      exact this
  · rcases h2 with h2 | ⟨j, h3, h4, h5⟩
    · exact h.hp.npub i k (hd i hi).2 h1 h2
    · exact h.hp.sep i j k (hd i hi).2 h4 (by rintro rfl; rw [(hd i hi).1] at h3; cases h3) h1 h5
  · rcases hk with hk | ⟨j, h3, h4, h5⟩
    · exact h.hp.pubLt k hk
    · exact h.hp.lt h4 h5
  · rcases hk with hk | ⟨j, h3, h4, h5⟩
    · exact h.frm k hk
    · exact .inr (h.mine j k h4 h5)
  · cases hp : p i with
    | true => exact .inl (.inr ⟨i, hp, by simp only at hi; simp [has, hi], hf⟩)
    | false => exact .inr (hB i t cs hi hp)
/-- Some own objects are written no more: they are data now. -/
theorem pubC {n0 : Nat} {b : Bs G n0} {kp : Bool} {o : Oper} {st : St} {K : SExit → St → Prop} (p : Nat → Bool) (hk : pubK p st fun st' => OpC P b N kp o st' K) : OpC P b N kp o st K := by
  refine ⟨fun e a w hok => ?_⟩
  obtain ⟨e', st', ⟨hc⟩, kw, hok', hsub, hm⟩ := pubK_sound hok p hk
  have hr := hc e' a w hok'
  have aft : ∀ v w', AftS b N kp e' st'.H w a o.dst K v w' → AftS b N kp e st.H w a o.dst K v w' := by
    rintro v w' ⟨e2, st2, h1, h2, h3⟩
    refine ⟨e2, st2, ⟨fun hkp => ?_, kw.p.trans h1.p⟩, h2, h3⟩
    obtain ⟨h4, h5⟩ := h1.all hkp
    refine ⟨kw.trans h4, (kw.trans h4).same, fun i t cs k hi hf => ?_⟩
    rcases hsub i t cs k hi hf with h6 | ⟨cs', h6⟩
    · exact h4.same k h6 (hok'.hp.pubLt k h6)
    · exact h5.2 i t cs' k h6 (by obtain ⟨v, q1, q2⟩ := hf; exact ⟨v, by rw [hm]; exact q1, q2⟩)
  generalize (execOp a.eval o).run P w = r at hr
  cases r with
  | halt x w' => cases x <;> simp only [OpR] at hr ⊢; exact hr
  | ok n w' =>
    cases n <;> simp only [OpR] at hr ⊢
    · exact aft _ _ hr
    · exact aft _ _ hr
    · refine hr.mono fun en w'' he => ?_
      cases en with
      | returned v => exact aft _ _ he
      | panicked c => exact he
      | outgrown => exact he
end
/-! ### What memory has room for -/
mutual
def szOk : D → Prop
  | .sl eb n cs => n * eb ≤ LB ∧ szOks cs
  | .csl eb n cs => n * eb ≤ LB ∧ szOks cs
  | .ptr cs _ => szOks cs
  | .fn _ a b => szOks a ∧ szOks b
  | .ifc _ x => szOk x
  | .agg l => szOks l
  | .tup l => szOks l
  | _ => True
def szOks : List D → Prop
  | [] => True
  | x :: r => szOk x ∧ szOks r
end
mutual
theorem szOk_of {S : Nat → Prop} {w : World} : ∀ {x : D} {v : Value}, RepD S w x v → szOk x
  | .int _ _, _, _ => by simp only [szOk]
  | .bool _, _, _ => by simp only [szOk]
  | .str _, _, _ => by simp only [szOk]
  | .val _, _, _ => by simp only [szOk]
  | .sl eb n cs, v, h => by
    simp only [RepD, szOk] at h ⊢
    obtain ⟨A, c, _, _, h2, _, h3⟩ := h
    exact ⟨h2, szOks_ofC h3⟩
  | .csl eb n cs, v, h => by
    simp only [RepD, szOk] at h ⊢
    obtain ⟨A, _, h2, _, h3⟩ := h
    exact ⟨h2, szOks_ofC h3⟩
  | .ptr cs off, v, h => by
    simp only [RepD, szOk] at h ⊢
    obtain ⟨ad, _, h3⟩ := h
    exact szOks_ofC h3
  | .fn f a b, v, h => by
    simp only [RepD, szOk] at h ⊢
    obtain ⟨a', b', _, h1, h2⟩ := h
    exact ⟨szOks_of h1, szOks_of h2⟩
  | .ifc t x, v, h => by
    simp only [RepD, szOk] at h ⊢
    obtain ⟨y, _, h1⟩ := h
    exact szOk_of h1
  | .agg l, v, h => by
    simp only [RepD, szOk] at h ⊢
    obtain ⟨l', _, h1⟩ := h
    exact szOks_of h1
  | .tup l, v, h => by
    simp only [RepD, szOk] at h ⊢
    obtain ⟨l', _, h1⟩ := h
    exact szOks_of h1
theorem szOks_of {S : Nat → Prop} {w : World} : ∀ {x : List D} {v : List Value}, RepDs S w x v → szOks x
  | [], _, _ => by simp only [szOks]
  | x :: r, v, h => by
    simp only [RepDs, szOks] at h ⊢
    obtain ⟨u, s, _, h1, h2⟩ := h
    exact ⟨szOk_of h1, szOks_of h2⟩
theorem szOks_ofC {S : Nat → Prop} {w : World} : ∀ {x : List D} {A : Option Addr} {j : Nat}, RepC S w x A j → szOks x
  | [], _, _, _ => by simp only [szOks]
  | x :: r, A, j, h => by
    simp only [RepC, szOks] at h ⊢
    obtain ⟨⟨ad, v, _, _, _, h1⟩, h2⟩ := h
    exact ⟨szOk_of h1, szOks_ofC h2⟩
end
theorem fnQ_sz {P : Program} {G : Glob} {f : FuncId} {ds : List D} {Q : DOut → Prop} (h : szOks ds → FnQ P G f ds Q) : FnQ P G f ds Q :=
  fun S w vs hds hS hG => h (szOks_of hds) S w vs hds hS hG
theorem szOks_app : ∀ {l m : List D}, szOks (l ++ m) → szOks l ∧ szOks m
  | [], m, h => ⟨by simp only [szOks], h⟩
  | x :: r, m, h => by
    simp only [List.cons_append, szOks] at h ⊢
    obtain ⟨h1, h2⟩ := szOks_app h.2
    exact ⟨⟨h.1, h1⟩, h2⟩
theorem szOk_sl {eb n : Nat} {cs : List D} (h : szOk (slD eb n cs)) : n * eb ≤ LB ∧ szOks cs := by
  simp only [slD, szOk] at h
  refine ⟨?_, h.2⟩
  cases n with
  | zero => simp [LB]
  | succ n => exact h.1
end Go.Vx
