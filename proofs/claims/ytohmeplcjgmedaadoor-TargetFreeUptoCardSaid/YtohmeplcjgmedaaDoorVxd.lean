/- Pure operations: soundness. -/
import Derived.Test.YtohmeplcjgmedaaDoorVxc
namespace Go.Vx
open Go.RowKit Go.Vc

/-- A later world in which the blocks at hand are as they were. -/
def Agr (e : Env) (H : Hp) (w w' : World) : Prop := Same e.pub w w' ∧ ∀ i t cs k, lk H i = some (.blk t cs) → foot e i k → w'.heap[k]? = w.heap[k]?
theorem Agr.refl (e : Env) (H : Hp) (w : World) : Agr e H w w := ⟨Same.rfl' _ _, fun _ _ _ _ _ _ => rfl⟩
def ObsOk (e : Env) (w : World) (H : Hp) : Prop := ∀ i o, lk H i = some o → ObOk e w i o

section
variable {P : Program} {w : World} {f : Operand → Value} {e : Env}

theorem binB_int {op : BinOp} {t : TypeId} {x y : Operand} {k : IntKind} {a b : Int} {sv : SV} {k0 : IntKind} (h : binB (.int k0) op (.d (.int k a)) (.d (.int k b)) = some sv) :
    ∃ v, RepSV e w sv v ∧ ∀ w', (do eqGuard op t x y (.int k a) (.int k b); binOp op t (.int k a) (.int k b) : Sem Value).run P w' = .ok v w' := by
  have hk : sameK k k = true := by cases k <;> rfl
  simp only [binB, hk] at h
  cases op <;> simp only [Option.some.injEq] at h <;> try (cases h; done)
  all_goals
    subst h
    refine ⟨_, by simp only [RepSV, RepD]; rfl, fun w' => ?_⟩
    rw [Sem.run_bind, eqGuard_int]
    simp [binOp, Op.intArith, Op.intCmp, go_sem]
theorem binB_str {op : BinOp} {t : TypeId} {x y : Operand} {a b : ByteArray} {sv : SV} (h : binB .str op (.d (.str a)) (.d (.str b)) = some sv) :
    ∃ v, RepSV e w sv v ∧ ∀ w', (do eqGuard op t x y (.string a) (.string b); binOp op t (.string a) (.string b) : Sem Value).run P w' = .ok v w' := by
  simp only [binB] at h
  cases op <;> simp only [Option.some.injEq] at h <;> try (cases h; done)
  all_goals
    subst h
    refine ⟨_, by simp only [RepSV, RepD]; rfl, fun w' => ?_⟩
    rw [Sem.run_bind, eqGuard_str]
    simp [binOp, Op.stringOp, go_sem]
theorem run_equal_bool {t : TypeId} (ht : P.underlying t = some .bool) {a b : Bool} {w' : World} : (Op.equal t (.bool a) (.bool b)).run P w' = .ok (a == b) w' := by
  unfold Op.equal
  rw [show Op.maxDepth = 9999 + 1 from rfl]
  unfold Op.equalIn
  rw [Sem.run_bind, run_under ht]
  rfl
theorem boolOf_rep {x : SV} {b : Bool} {v : Value} (h : boolOf x = some b) (hx : RepSV e w x v) : v = .bool b := by
  unfold boolOf at h
  split at h
  · injection h with h; subst h; simpa only [RepSV, RepD] using hx
  · injection h with h; subst h; simpa only [RepSV] using hx
  · cases h
theorem binB_bool {op : BinOp} {t : TypeId} (ht : P.underlying t = some .bool) {x y : Operand} {p q : SV} {u v : Value} {sv : SV} (h : binB .bool op p q = some sv) (hp : RepSV e w p u) (hq : RepSV e w q v) :
    ∃ v', RepSV e w sv v' ∧ ∀ w', (do eqGuard op t x y u v; binOp op t u v : Sem Value).run P w' = .ok v' w' := by
  simp only [binB] at h
  split at h <;> try (cases h; done)
  rename_i a b ha hb
  obtain rfl := boolOf_rep ha hp
  obtain rfl := boolOf_rep hb hq
  have hg : ∀ (w' : World), (eqGuard op t x y (.bool a) (.bool b)).run P w' = .ok () w' := by
    intro w'; unfold eqGuard; cases op <;> rfl
  cases op <;> simp only [Option.some.injEq] at h <;> try (cases h; done)
  · subst h
    refine ⟨_, by simp only [RepSV, RepD]; rfl, fun w' => ?_⟩
    rw [Sem.run_bind, hg]
    simp only [Result.andThen_ok, binOp]
    rw [Sem.run_bind, run_equal_bool ht]
    simp [go_sem]
  · subst h
    refine ⟨_, by simp only [RepSV, RepD]; rfl, fun w' => ?_⟩
    rw [Sem.run_bind, hg]
    simp only [Result.andThen_ok, binOp]
    rw [Sem.run_bind, run_equal_bool ht]
    simp [go_sem]
theorem isNil_rep {x : SV} {b : Bool} {v : Value} (h : isNilK .ptr x = some b) (hx : RepSV e w x v) : ∃ a : Option Addr, v = .pointer a ∧ a.isNone = b := by
  unfold isNilK at h
  split at h
  · injection h with h; subst h; simp only [RepSV, RepD] at hx; exact ⟨none, hx, rfl⟩
  · injection h with h; subst h; simp only [RepSV, RepD] at hx; obtain ⟨ad, rfl, _⟩ := hx; exact ⟨_, rfl, rfl⟩
  · injection h with h; subst h; simp only [RepSV] at hx; obtain ⟨ad, _, rfl⟩ := hx; exact ⟨_, rfl, rfl⟩
  · injection h with h; subst h; simp only [RepSV] at hx; obtain ⟨ad, _, _, _, rfl⟩ := hx; exact ⟨_, rfl, rfl⟩
  · cases h
theorem run_equal_ptr {t e' : TypeId} (ht : P.underlying t = some (.pointer e')) {a b : Option Addr} (h : a.isNone = true ∨ b.isNone = true) {w' : World} : (Op.equal t (.pointer a) (.pointer b)).run P w' = .ok (a.isNone && b.isNone) w' := by
  unfold Op.equal
  rw [show Op.maxDepth = 9999 + 1 from rfl]
  unfold Op.equalIn
  rw [Sem.run_bind, run_under ht]
  cases a with
  | none => rfl
  | some a => cases b with
    | none => rfl
    | some b => simp at h
theorem binB_ptr {op : BinOp} {t e' : TypeId} (ht : P.underlying t = some (.pointer e')) {x y : Operand} {p q : SV} {u v : Value} {sv : SV} (h : binB .ptr op p q = some sv) (hp : RepSV e w p u) (hq : RepSV e w q v) :
    ∃ v', RepSV e w sv v' ∧ ∀ w', (do eqGuard op t x y u v; binOp op t u v : Sem Value).run P w' = .ok v' w' := by
  have key : ∀ c : Bool, (∀ w', (Op.equal t u v).run P w' = .ok c w') → (∃ a b, u = .pointer a ∧ v = .pointer b) → (match op with | .eql => some (SV.kb c) | .neq => some (SV.kb (!c)) | _ => none) = some sv → ∃ v', RepSV e w sv v' ∧ ∀ w', (do eqGuard op t x y u v; binOp op t u v : Sem Value).run P w' = .ok v' w' := by
    rintro c hc ⟨a, b, rfl, rfl⟩ h
    have hg : ∀ (w' : World), (eqGuard op t x y (.pointer a) (.pointer b)).run P w' = .ok () w' := by
      intro w'; unfold eqGuard; cases op <;> rfl
    cases op <;> simp only [Option.some.injEq] at h <;> try (cases h; done)
    · subst h
      refine ⟨_, by simp only [RepSV]; rfl, fun w' => ?_⟩
      rw [Sem.run_bind, hg]
      simp only [Result.andThen_ok, binOp]
      rw [Sem.run_bind, hc]
      simp [go_sem]
    · subst h
      refine ⟨_, by simp only [RepSV]; rfl, fun w' => ?_⟩
      rw [Sem.run_bind, hg]
      simp only [Result.andThen_ok, binOp]
      rw [Sem.run_bind, hc]
      simp [go_sem]
  simp only [binB] at h
  split at h <;> try (cases h; done)
  · rename_i c ha hb
    obtain ⟨a, rfl, h1⟩ := isNil_rep ha hp
    obtain ⟨b, rfl, h2⟩ := isNil_rep hb hq
    refine key c (fun w' => by rw [run_equal_ptr ht (.inl h1), h1, h2]; rfl) ⟨_, _, rfl, rfl⟩ ?_
    cases op <;> exact h
  · rename_i ha hb
    obtain ⟨a, rfl, h1⟩ := isNil_rep ha hp
    obtain ⟨b, rfl, h2⟩ := isNil_rep hb hq
    refine key false (fun w' => by rw [run_equal_ptr ht (.inr h2), h1, h2]; rfl) ⟨_, _, rfl, rfl⟩ ?_
    cases op <;> exact h

theorem binB_sound {ty : List (Nat × TY)} (hty : Tys P ty) {op : BinOp} {t : TypeId} {z : TY} (hz : lk ty t = some z) {x y : Operand} {p q : SV} {u v : Value} {sv : SV} (h : binB z.kd op p q = some sv) (hp : RepSV e w p u) (hq : RepSV e w q v) :
    ∃ v', RepSV e w sv v' ∧ ∀ w', (do eqGuard op t x y u v; binOp op t u v : Sem Value).run P w' = .ok v' w' := by
  have ht := hty _ _ hz
  cases hk : z.kd with
  | int k0 =>
    rw [hk] at h
    cases p <;> try (simp [binB] at h; done)
    rename_i p; cases p <;> try (simp [binB] at h; done)
    cases q <;> try (simp [binB] at h; done)
    rename_i q; cases q <;> try (simp [binB] at h; done)
    rename_i k a k' b
    by_cases hs : sameK k k' = true
    · obtain rfl := sameK_eq hs
      simp only [RepSV, RepD] at hp hq
      subst hp; subst hq
      exact binB_int h
    · simp only [binB] at h
      rw [Bool.not_eq_true] at hs
      simp [hs] at h
  | str =>
    rw [hk] at h
    cases p <;> try (simp [binB] at h; done)
    rename_i p; cases p <;> try (simp [binB] at h; done)
    cases q <;> try (simp [binB] at h; done)
    rename_i q; cases q <;> try (simp [binB] at h; done)
    simp only [RepSV, RepD] at hp hq
    subst hp; subst hq
    exact binB_str h
  | bool => rw [hk] at h; exact binB_bool (ht.bool hk) h hp hq
  | ptr =>
    rw [hk] at h
    obtain ⟨e', he⟩ := ht.ptr hk
    exact binB_ptr he h hp hq
  | _ => rw [hk] at h; simp [binB] at h

theorem lenOp_sound {ty : List (Nat × TY)} (hty : Tys P ty) {T : Tl} {H : Hp} (hT : TmOk e w T f) (hH : ObsOk e w H) {as : Array Operand} {ts : Array TypeId} {sv : SV} {t0 : TypeId} (h : lenOp ty T H as.toList ts.toList = some sv) :
    ∃ v, RepSV e w sv v ∧ ∀ w', (Builtin.len_ ts t0 (as.map f)).run P w' = .ok v w' := by
  unfold lenOp at h
  split at h
  · rename_i x as' t ts' ha ht
    have ha' : (as.map f)[0]? = some (f x) := by rw [← Array.getElem?_toList]; simp [ha]
    have ht' : ts[0]? = some t := by rw [← Array.getElem?_toList]; simp [ht]
    unfold Builtin.len_
    rw [ha', ht']
    split at h <;> try (cases h; done)
    rename_i y hy
    have hk := hty _ _ hy
    split at h <;> try (cases h; done)
    · rename_i el hkd
      have hu := hk.slice hkd
      split at h <;> try (cases h; done)
      · rename_i eb n cs hx
        injection h with h; subst h
        have := hT _ _ hx
        simp only [RepSV, RepD] at this
        obtain ⟨A, c, hv, _⟩ := this
        rw [hv]
        refine ⟨_, by simp only [RepSV, RepD]; rfl, fun w' => ?_⟩
        simp only [Sem.run_bind, run_under hu, Result.andThen_ok]
        rfl
      · rename_i eb n cs hx
        injection h with h; subst h
        have := hT _ _ hx
        simp only [RepSV, RepD] at this
        obtain ⟨A, hv, _⟩ := this
        rw [hv]
        refine ⟨_, by simp only [RepSV, RepD]; rfl, fun w' => ?_⟩
        simp only [Sem.run_bind, run_under hu, Result.andThen_ok]
        rfl
      · rename_i hx
        injection h with h; subst h
        have := hT _ _ hx
        simp only [RepSV] at this
        rw [this]
        refine ⟨_, by simp only [RepSV, RepD]; rfl, fun w' => ?_⟩
        simp only [Sem.run_bind, run_under hu, Result.andThen_ok]
        rfl
      · rename_i i hx
        split at h <;> try (cases h; done)
        rename_i t1 eb sz n xs hi
        injection h with h; subst h
        have h1 := hT _ _ hx
        simp only [RepSV] at h1
        obtain ⟨A, n', c, hv, hm⟩ := h1
        obtain ⟨A', c', vs, hm', _⟩ := hH _ _ hi
        rw [hv, hm'] at hm
        injection hm with hm; injection hm with e1 e2 e3
        subst e2
        rw [hv]
        refine ⟨_, by simp only [RepSV, RepD]; rfl, fun w' => ?_⟩
        simp only [Sem.run_bind, run_under hu, Result.andThen_ok]
        rfl
    · rename_i hkd
      have hu := hk.str hkd
      split at h <;> try (cases h; done)
      rename_i s hx
      injection h with h; subst h
      have := hT _ _ hx
      simp only [RepSV, RepD] at this
      rw [this]
      refine ⟨_, by simp only [RepSV, RepD]; rfl, fun w' => ?_⟩
      simp only [Sem.run_bind, run_under hu, Result.andThen_ok]
      rfl
  · cases h

/-- Parts laid into a struct: the values follow the symbols. -/
theorem putAt_rep {off : Nat} {l cs cs' : List SV} {vl vc : List Value} (h : putAt off l cs = some cs') (hb : off + l.length ≤ cs.length) (hl : RepSVs e w l vl) (hc : RepSVs e w cs vc) :
    ∃ vr : Array Value, (vl.zipIdx 0).foldl (fun cs (x : Value × Nat) => cs.setIfInBounds (off + x.2) x.1) vc.toArray = vr ∧ RepSVs e w cs' vr.toList := by
  obtain ⟨g1, g2, g3⟩ := putAt_get _ _ _ _ h
  obtain ⟨k1, k2⟩ := foldl_put vc.toArray off vl 0 vc.toArray
  refine ⟨_, rfl, RepSVs.mk ?_ fun i x v hx hv => ?_⟩
  · rw [Array.length_toList, k1]; simp [hc.len, g1]
  · rw [Array.getElem?_toList, k2 i] at hv
    rw [g3 i] at hx
    simp only [Nat.add_zero, List.size_toArray, hl.len, hc.len, List.getElem?_toArray] at hv
    by_cases c : off ≤ i ∧ i < off + l.length
    · rw [if_pos c] at hx
      rw [if_pos ⟨c.1, c.2, by omega⟩] at hv
      obtain ⟨u, h1, h2⟩ := hl.get hx
      rw [hv] at h1; injection h1 with h1; subst h1; exact h2
    · rw [if_neg c] at hx
      rw [if_neg (by omega)] at hv
      obtain ⟨u, h1, h2⟩ := hc.get hx
      rw [hv] at h1; injection h1 with h1; subst h1; exact h2
theorem fill_rep {flds : List (Nat × Nat)} {place : Nat → Option (Nat × Nat)} (hp : ∀ (i o n : Nat), flds[i]? = some (o, n) → place i = some (o, n)) : ∀ (ps : List (Nat × SV)) (pv : List (Nat × Value)) (cs r : List SV) (vc : List Value), fillF flds cs ps = some r → pv.map (·.1) = ps.map (·.1) → RepSVs e w (ps.map (·.2)) (pv.map (·.2)) → RepSVs e w cs vc →
    ∃ vr : Array Value, Instr.fill place vc.toArray pv = some vr ∧ RepSVs e w r vr.toList
  | [], pv, cs, r, vc, h, he, _, hc => by
    simp [fillF] at h; subst h
    have : pv = [] := by simpa using he
    subst this
    exact ⟨vc.toArray, by simp [Instr.fill], by simpa using hc⟩
  | (i, x) :: ps, pv, cs, r, vc, h, he, hv, hc => by
    simp only [fillF] at h
    split at h <;> try (cases h; done)
    rename_i o n l h1 h2
    split at h <;> try (cases h; done)
    rename_i cs' h3 hb h4
    cases pv with
    | nil => simp at he
    | cons p pv =>
      obtain ⟨i', v⟩ := p
      simp only [List.map_cons, List.cons.injEq] at he
      obtain ⟨rfl, he⟩ := he
      simp only [List.map_cons, RepSVs] at hv
      obtain ⟨v', s, e1, hv1, hv2⟩ := hv
      simp only [List.cons.injEq] at e1
      obtain ⟨rfl, rfl⟩ := e1
      rw [nth_eq] at h1
      have hpl := hp _ _ _ h1
      have hcs := cellsOf_rep h2 hv1
      have hn := nbeq.1 h3
      have hb' := Nat.le_of_ble_eq_true hb
      have hsz : v.cells.size = n := by
        have := hcs.len
        rw [Array.length_toList] at this
        omega
      obtain ⟨vr, q1, q2⟩ := putAt_rep h4 (by omega) hcs hc
      simp only [Instr.fill, hpl, hsz]
      rw [if_neg (by have := hc.len; simp; omega)]
      have he' : v.cells.zipIdx.foldl (fun cs (c, j) => cs.setIfInBounds (o + j) c) vc.toArray = vr := by
        rw [← q1, ← Array.foldl_toList, Array.toList_zipIdx]
      rw [he']
      have := fill_rep hp ps pv cs' r vr.toList h he hv2 q2
      simpa using this

theorem build_rep {ty : List (Nat × TY)} (hty : Tys P ty) {t : TypeId} {y : TY} (ht : lk ty t = some y) {ps : List (Nat × SV)} {pv : List (Nat × Value)} {cs : List SV} (hne : y.i.flds ≠ [])
    (h : fillF y.i.flds (zs y.i.z.cells.toList) ps = some cs) (he : pv.map (·.1) = ps.map (·.1)) (hv : RepSVs e w (ps.map (·.2)) (pv.map (·.2))) :
    ∃ v, RepSV e w (.agg cs) v ∧ ∀ w', (Instr.build t pv.toArray).run P w' = .ok v w' := by
  have hyi := (hty _ _ ht).i
  obtain ⟨yy, d, hy, hd, h1, h2, h3, h4, h5, h6, h7, h8⟩ := hyi.get
  have hz := fun w' => run_zeroValue (w := w') hyi
  obtain ⟨a0, b0, hf0⟩ := List.exists_cons_of_ne_nil hne
  have h0 : y.i.flds[0]? = some a0 := by rw [hf0]; rfl
  obtain ⟨fs, _, _, rfl, hsz, _⟩ := fldB_get h5 h0
  let r : Field → Nat × Nat := fun fd => (fd.offset, ((P.info? fd.type).map (·.size)).getD 0)
  have hr : ∀ w', ∀ x, x ∈ fs.toList → (do pure (x.offset, ← sizeOf x.type) : Sem (Nat × Nat)).run P w' = .ok (r x) w' := by
    intro w' x hx
    obtain ⟨j, hj⟩ := List.mem_iff_getElem?.1 hx
    rw [Array.getElem?_toList] at hj
    have hlt : j < fs.size := (Array.getElem?_eq_some_iff.1 hj).1
    have hl : j < y.i.flds.length := by omega
    obtain ⟨fs', fd', x', e, _, k1, k2, k3, k4, k5⟩ := fldB_get h5 (List.getElem?_eq_getElem hl)
    injection e with e; subst e
    rw [hj] at k1; injection k1 with k1; subst k1
    have : (sizeOf x.type).run P w' = .ok x'.size w' := by
      unfold sizeOf
      rw [Sem.run_bind, run_info k3]; rfl
    rw [Sem.run_bind, this]
    simp [r, k3, go_sem]
  have hm2 : ∀ w', (fs.mapM fun f : Field => (do pure (f.offset, ← sizeOf f.type) : Sem (Nat × Nat))).run P w' = .ok (fs.map r) w' := by
    intro w'
    have hm := run_mapM (P := P) (w := w') (fun f : Field => (do pure (f.offset, ← sizeOf f.type) : Sem (Nat × Nat))) r fs.toList (hr w')
    rw [Array.mapM_eq_mapM_toList, map_eq_pure_bind, Sem.run_bind, hm]
    simp [go_sem]
    apply Array.ext'
    simp
  have hp : ∀ (j o n : Nat), y.i.flds[j]? = some (o, n) → (fs.map r)[j]? = some (o, n) := by
    intro j o n hj
    obtain ⟨fs', fd', x', e, _, k1, k2, k3, k4, k5⟩ := fldB_get h5 hj
    injection e with e; subst e
    rw [Array.getElem?_map, k1]
    simp [r, k3, k2, k4]
  obtain ⟨vr, q1, q2⟩ := fill_rep (e := e) (w := w) hp ps pv _ cs y.i.z.cells.toList h he hv (zs_rep _ _ _)
  refine ⟨.agg vr, by simp only [RepSV]; exact ⟨_, rfl, q2⟩, fun w' => ?_⟩
  unfold Instr.build
  simp only [Sem.run_bind, hz, Result.andThen_ok, run_under hd]
  rw [hm2]
  simp only [Result.andThen_ok]
  simp only [Array.toArray_toList] at q1
  rw [q1]
  simp [go_sem]
end
end Go.Vx
