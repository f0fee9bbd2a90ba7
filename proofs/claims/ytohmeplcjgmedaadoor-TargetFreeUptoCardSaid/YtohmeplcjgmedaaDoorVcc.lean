/- Pure operations: soundness. -/
import Derived.Test.YtohmeplcjgmedaaDoorVcb
namespace Go.Vc
open Go.RowKit

section
variable {P : Program} {w : World} {f : Operand → Value}

theorem run_val {s : Sem Value} {v : Value} {w' : World} (h : s.run P w = .ok v w') : (do pure (Next.value (← s)) : Sem Next).run P w = .ok (.value v) w' := by
  rw [Sem.run_bind, h]; rfl
theorem run_unit {s : Sem Unit} {w' : World} (h : s.run P w = .ok () w') : (do s; pure Next.skip : Sem Next).run P w = .ok .skip w' := by
  rw [Sem.run_bind, h]; rfl

theorem eqGuard_int {op : BinOp} {t : TypeId} {x y : Operand} {k k' : IntKind} {a b : Int} : (eqGuard op t x y (.int k a) (.int k' b)).run P w = .ok () w := by
  unfold eqGuard
  by_cases h : (!(match op with | .eql => true | .neq => true | _ => false)) = true
  · cases op <;> first | rfl | simp at h
  · cases op <;> first | rfl | simp at h
theorem eqGuard_str {op : BinOp} {t : TypeId} {x y : Operand} {a b : ByteArray} : (eqGuard op t x y (.string a) (.string b)).run P w = .ok () w := by
  unfold eqGuard
  cases op <;> rfl

theorem binB_sound {ρ : List Nat} {op : BinOp} {t : TypeId} {x y : Operand} {a b sv : SV} (h : binB op a b = some sv) :
    (do eqGuard op t x y (den ρ a) (den ρ b); binOp op t (den ρ a) (den ρ b) : Sem Value).run P w = .ok (den ρ sv) w := by
  unfold binB at h
  split at h
  · rename_i k a k' b
    split at h
    · rename_i hk
      obtain rfl := sameK_eq hk
      split at h
      · rename_i v hv
        injection h with h; subst h
        simp only [den]
        rw [Sem.run_bind, eqGuard_int]
        simp only [Result.andThen_ok]
        cases op <;> simp [intB] at hv <;> subst hv <;> simp [binOp, Op.intArith, Op.intCmp, go_sem]
      · cases h
    · cases h
  · rename_i x' y'
    split at h
    · rename_i v hv
      injection h with h; subst h
      simp only [den]
      rw [Sem.run_bind, eqGuard_str]
      simp only [Result.andThen_ok]
      cases op <;> simp [strOp] at hv <;> subst hv <;> simp [binOp, Op.stringOp, go_sem]
    · cases h
  · cases h

theorem lenOp_sound {ty : List (Nat × TI)} (hty : TyOk P ty) {ρ : List Nat} {T : Tl} (hT : TmOk ρ T f) {as : Array Operand} {ts : Array TypeId} {sv : SV} {t0 : TypeId} (h : lenOp ty T as.toList ts.toList = some sv) :
    (Builtin.len_ ts t0 (as.map f)).run P w = .ok (den ρ sv) w := by
  unfold lenOp at h
  split at h
  · rename_i x as' t ts' ha ht
    have ha' : (as.map f)[0]? = some (f x) := by rw [← Array.getElem?_toList]; simp [ha]
    have ht' : ts[0]? = some t := by rw [← Array.getElem?_toList]; simp [ht]
    unfold Builtin.len_
    rw [ha', ht']
    split at h
    · rename_i i x' n c hi hx
      obtain ⟨y, d, hy, hd, h1, h2, h3, h4, h5, h6, h7, h8⟩ := (hty _ _ hi).get
      rw [hT _ _ hx]
      split at h
      · rename_i e he
        injection h with h; subst h
        rw [he] at h6
        cases d <;> simp only [elB] at h6 <;> try (cases h6; done)
        simp only [Sem.run_bind, run_under hd, Result.andThen_ok, den]
        rfl
      · cases h
    · rename_i i j n c hi hx
      obtain ⟨y, d, hy, hd, h1, h2, h3, h4, h5, h6, h7, h8⟩ := (hty _ _ hi).get
      rw [hT _ _ hx]
      split at h
      · rename_i e he
        injection h with h; subst h
        rw [he] at h6
        cases d <;> simp only [elB] at h6 <;> try (cases h6; done)
        simp only [Sem.run_bind, run_under hd, Result.andThen_ok, den]
        rfl
      · cases h
    · rename_i i s hi hx
      obtain ⟨y, d, hy, hd, h1, h2, h3, h4, h5, h6, h7, h8⟩ := (hty _ _ hi).get
      rw [hT _ _ hx]
      split at h
      · rename_i he
        injection h with h; subst h
        rw [he] at h7
        cases d <;> simp only [strB] at h7 <;> try (cases h7; done)
        simp only [Sem.run_bind, run_under hd, Result.andThen_ok, den]
        rfl
      · cases h
    · cases h
  · cases h

theorem fieldAt_sound {ty : List (Nat × TI)} (hty : TyOk P ty) {s : TypeId} {i : TI} (hs : lk ty s = some i) {fd o n : Nat} (hf : nth i.flds fd = some (o, n)) (a : Addr) :
    (Instr.fieldAt s (.pointer (some a)) fd).run P w = .ok (.pointer (some (a.add o))) w := by
  obtain ⟨y, d, hy, hd, h1, h2, h3, h4, h5, h6, h7, h8⟩ := (hty _ _ hs).get
  rw [nth_eq] at hf
  obtain ⟨fs, fd', x, rfl, _, g1, g2, g3, g4, g5⟩ := fldB_get h5 hf
  unfold Instr.fieldAt
  simp only [Sem.run_bind, run_under hd, Result.andThen_ok]
  rw [g1]
  simp only [Sem.run_bind, Instr.sureAddr, Sem.run_pure, Result.andThen_ok, fieldPlace]
  have : (sizeOf fd'.type).run P w = .ok x.size w := by
    unfold sizeOf
    rw [Sem.run_bind, run_info g3]; rfl
  rw [this]
  simp only [Result.andThen_ok, g5, if_false, Sem.run_pure, g2]

theorem foldl_put (cs : Array Value) (off : Nat) : ∀ (l : List Value) (k : Nat) (c : Array Value), 
    ((l.zipIdx k).foldl (fun cs (x : Value × Nat) => cs.setIfInBounds (off + x.2) x.1) c).size = c.size ∧ ∀ j, ((l.zipIdx k).foldl (fun cs (x : Value × Nat) => cs.setIfInBounds (off + x.2) x.1) c)[j]? = if off + k ≤ j ∧ j < off + k + l.length ∧ j < c.size then l[j - (off + k)]? else c[j]?
  | [], k, c => by simp; intro j h1 h2; omega
  | x :: l, k, c => by
    obtain ⟨h1, h2⟩ := foldl_put cs off l (k + 1) (c.setIfInBounds (off + k) x)
    simp only [List.zipIdx_cons, List.foldl_cons]
    refine ⟨by rw [h1]; simp, fun j => ?_⟩
    rw [h2 j]
    simp only [Array.size_setIfInBounds, Array.getElem?_setIfInBounds, List.length_cons]
    by_cases c1 : off + k = j
    · subst c1
      rw [if_neg (by omega)]
      simp
      by_cases c2 : off + k < c.size
      · simp [c2]
      · simp [c2]
    · by_cases c2 : off + (k + 1) ≤ j ∧ j < off + (k + 1) + l.length ∧ j < c.size
      · rw [if_pos c2, if_pos (by omega)]
        have : j - (off + k) = (j - (off + (k + 1))) + 1 := by omega
        rw [this]; simp
      · rw [if_neg c2, if_neg c1]
        by_cases c3 : off + k ≤ j ∧ j < off + k + (l.length + 1) ∧ j < c.size
        · omega
        · rw [if_neg c3]

theorem fill_sound {ρ : List Nat} {flds : List (Nat × Nat)} {place : Nat → Option (Nat × Nat)} (hp : ∀ i o n, flds[i]? = some (o, n) → place i = some (o, n)) : ∀ (ps : List (Nat × SV)) (cs : List SV) (r : List SV), fillF flds cs ps = some r →
    Instr.fill place (denL ρ cs).toArray (ps.map fun p => (p.1, den ρ p.2)) = some (denL ρ r).toArray
  | [], cs, r, h => by simp [fillF] at h; subst h; simp [Instr.fill]
  | (i, x) :: ps, cs, r, h => by
    simp only [fillF] at h
    split at h
    · rename_i o n l h1 h2
      split at h
      · rename_i cs' h3 hb h4
        rw [nth_eq] at h1
        have hpl := hp _ _ _ h1
        have hcs := cellsOf_den (ρ := ρ) h2
        obtain ⟨g1, g2, g3⟩ := putAt_get _ _ _ _ h4
        have hn := nbeq.1 h3
        have hb' := Nat.le_of_ble_eq_true hb
        have hsz : (den ρ x).cells.size = n := by rw [hcs]; simp [denL_length, hn]
        simp only [List.map_cons, Instr.fill, hpl, hsz]
        rw [if_neg (by simp [denL_length]; omega)]
        have he : (den ρ x).cells.zipIdx.foldl (fun cs (c, j) => cs.setIfInBounds (o + j) c) (denL ρ cs).toArray = (denL ρ cs').toArray := by
          rw [hcs]
          obtain ⟨k1, k2⟩ := foldl_put (denL ρ cs).toArray o (denL ρ l) 0 (denL ρ cs).toArray
          have e0 : (denL ρ l).toArray.zipIdx.foldl (fun cs (x : Value × Nat) => cs.setIfInBounds (o + x.2) x.1) (denL ρ cs).toArray = ((denL ρ l).zipIdx 0).foldl (fun cs (x : Value × Nat) => cs.setIfInBounds (o + x.2) x.1) (denL ρ cs).toArray := by
            rw [← Array.foldl_toList, Array.toList_zipIdx]
          refine Eq.trans e0 ?_
          apply Array.ext_getElem?
          intro j
          rw [k2 j]
          simp only [List.getElem?_toArray, denL_get, g3 j, List.size_toArray, denL_length, Nat.add_zero]
          by_cases c : o ≤ j ∧ j < o + l.length
          · rw [if_pos c, if_pos ⟨c.1, c.2, by omega⟩]
          · rw [if_neg c, if_neg (by omega)]
        rw [he]
        exact fill_sound hp ps cs' r h
      · cases h
    · cases h

theorem run_mapM {α β : Type} (g : α → Sem β) (r : α → β) : ∀ (l : List α), (∀ x, x ∈ l → (g x).run P w = .ok (r x) w) → (l.mapM g).run P w = .ok (l.map r) w
  | [], _ => by simp [go_sem]
  | x :: l, h => by
    rw [List.mapM_cons]
    simp only [Sem.run_bind, h x (by simp), Result.andThen_ok, run_mapM g r l (fun y hy => h y (by simp [hy])), Sem.run_pure, List.map_cons]

theorem build_sound {ty : List (Nat × TI)} (hty : TyOk P ty) {ρ : List Nat} {t : TypeId} {i : TI} (ht : lk ty t = some i) {ps : List (Nat × SV)} {cs : List SV} (hne : i.flds ≠ [])
    (h : fillF i.flds (i.z.cells.toList.map .v) ps = some cs) :
    (Instr.build t (ps.map fun p => (p.1, den ρ p.2)).toArray).run P w = .ok (den ρ (.agg cs)) w := by
  obtain ⟨y, d, hy, hd, h1, h2, h3, h4, h5, h6, h7, h8⟩ := (hty _ _ ht).get
  have hz := run_zeroValue (w := w) (hty _ _ ht)
  obtain ⟨a0, b0, hf0⟩ := List.exists_cons_of_ne_nil hne
  have h0 : i.flds[0]? = some a0 := by rw [hf0]; rfl
  obtain ⟨fs, _, _, rfl, hsz, _⟩ := fldB_get h5 h0
  unfold Instr.build
  simp only [Sem.run_bind, hz, Result.andThen_ok, run_under hd]
  let r : Field → Nat × Nat := fun fd => (fd.offset, ((P.info? fd.type).map (·.size)).getD 0)
  have hr : ∀ x, x ∈ fs.toList → (do pure (x.offset, ← sizeOf x.type) : Sem (Nat × Nat)).run P w = .ok (r x) w := by
    intro x hx
    obtain ⟨j, hj⟩ := List.mem_iff_getElem?.1 hx
    rw [Array.getElem?_toList] at hj
    have hlt : j < fs.size := (Array.getElem?_eq_some_iff.1 hj).1
    have hl : j < i.flds.length := by omega
    obtain ⟨fs', fd', x', e, _, k1, k2, k3, k4, k5⟩ := fldB_get h5 (List.getElem?_eq_getElem hl)
    injection e with e; subst e
    rw [hj] at k1; injection k1 with k1; subst k1
    have : (sizeOf x.type).run P w = .ok x'.size w := by
      unfold sizeOf
      rw [Sem.run_bind, run_info k3]; rfl
    rw [Sem.run_bind, this]
    simp [r, k3, go_sem]
  have hm := run_mapM (P := P) (w := w) (fun f : Field => (do pure (f.offset, ← sizeOf f.type) : Sem (Nat × Nat))) r fs.toList hr
  have hm2 : (fs.mapM fun f : Field => (do pure (f.offset, ← sizeOf f.type) : Sem (Nat × Nat))).run P w = .ok (fs.map r) w := by
    rw [Array.mapM_eq_mapM_toList, map_eq_pure_bind, Sem.run_bind, hm]
    simp [go_sem]
    apply Array.ext'
    simp
  rw [hm2]
  simp only [Result.andThen_ok]
  have hp : ∀ (j o n : Nat), i.flds[j]? = some (o, n) → (fs.map r)[j]? = some (o, n) := by
    intro j o n hj
    obtain ⟨fs', fd', x', e, _, k1, k2, k3, k4, k5⟩ := fldB_get h5 hj
    injection e with e; subst e
    rw [Array.getElem?_map, k1]
    simp [r, k3, k2, k4]
  have hf := fill_sound (ρ := ρ) hp ps _ cs h
  have hz' : (denL ρ (i.z.cells.toList.map SV.v)).toArray = i.z.cells := by
    rw [denL_map]; simp [Function.comp_def, den]
  rw [hz'] at hf
  rw [hf]
  simp [den, go_sem]
end
end Go.Vc
namespace Go.Vc
open Go.RowKit
section
variable {P : Program} {w : World} {f : Operand → Value}

theorem pOp_sound {ty : List (Nat × TI)} (hty : TyOk P ty) {ρ : List Nat} {T : Tl} {E : El} (hT : TmOk ρ T f) (hE : EntOk ρ E w) {o : Oper} {sv : SV}
    (h : pOp ty T E o.op = some sv) :
    (execOp f o).run P w = .ok (.value (den ρ sv)) w := by
  obtain ⟨dst, op, type, pos, after, guard⟩ := o
  simp only at h
  unfold pOp at h
  split at h <;> try (cases h; done)
  · simp only [execOp, hT _ _ h]; rfl
  · simp only [execOp, hT _ _ h]; rfl
  · rename_i x i
    simp only [execOp]
    refine run_val ?_
    split at h
    · rename_i l hx
      rw [hT _ _ hx]
      simp only [den, Instr.extract, List.getElem?_toArray, denL_get]
      rw [nth_eq] at h
      rw [h]; rfl
    · rename_i a hx
      rw [hT _ _ hx]
      split at h
      · rename_i v hv
        injection h with h; subst h
        rw [nth_eq, Array.getElem?_toList] at hv
        simp only [den, Instr.extract, hv]; rfl
      · cases h
    · cases h
  · rename_i x
    simp only [execOp]
    refine run_val ?_
    split at h
    · rename_i b hx
      injection h with h; subst h
      rw [hT _ _ hx]; rfl
    · rename_i b hx
      injection h with h; subst h
      rw [hT _ _ hx]; rfl
    · cases h
  · rename_i x
    simp only [execOp]
    refine run_val ?_
    split at h
    · rename_i k n hx
      injection h with h; subst h
      rw [hT _ _ hx]; rfl
    · cases h
  · rename_i op' t x y t'
    simp only [execOp]
    refine run_val ?_
    split at h
    · rename_i a b hx hy
      rw [hT _ _ hx, hT _ _ hy]
      exact binB_sound h
    · cases h
  · rename_i s x fd
    simp only [execOp]
    refine run_val ?_
    split at h
    · rename_i i hs
      split at h
      · rename_i o n hf
        split at h
        · rename_i j off hx
          injection h with h; subst h
          rw [hT _ _ hx]
          simp only [den]
          rw [fieldAt_sound hty hs hf, add_own]
        · rename_i a hx
          injection h with h; subst h
          rw [hT _ _ hx]
          exact fieldAt_sound hty hs hf a
        · cases h
      · cases h
    · cases h
  · rename_i x
    simp only [execOp]
    split at h
    · rename_i j o' hx
      injection h with h; subst h
      rw [hT _ _ hx]; rfl
    · rename_i a hx
      injection h with h; subst h
      rw [hT _ _ hx]; rfl
    · rename_i g a b hx
      injection h with h; subst h
      rw [hT _ _ hx]; rfl
    · cases h
  · rename_i t x
    simp only [execOp]
    refine run_val ?_
    split at h
    · rename_i i hi
      split at h
      · rename_i j off hx
        split at h
        · rename_i cs e hj
          rw [hT _ _ hx]
          have hc := hE _ _ _ hj
          simp only [den, Instr.loadAt, Sem.run_bind, Instr.sureAddr, Sem.run_pure, Result.andThen_ok]
          split at h
          · rename_i hagg
            split at h
            · rename_i l hl
              injection h with h; subst h
              obtain ⟨rfl, h2⟩ := takeF_eq _ _ _ hl
              rw [dropN_eq] at h2 ⊢
              rw [den]
              refine run_loadVar (hty _ _ hi) (by rw [denL_length]; simp at h2 ⊢; omega) (fun k v hv => ?_) hagg
              rw [add_own, cell_own hc, List.getElem?_toArray, denL_get]
              rw [denL_get] at hv
              have hk : k < i.size := by
                rcases Nat.lt_or_ge k i.size with h' | h'
                · exact h'
                · rw [List.getElem?_eq_none (by simp; omega)] at hv; cases hv
              rw [List.getElem?_take_of_lt hk, List.getElem?_drop] at hv
              exact hv
            · cases h
          · rename_i hagg
            rw [nth_eq] at h
            refine run_loadVar1 (hty _ _ hi) ?_ hagg
            rw [cell_own hc, List.getElem?_toArray, denL_get, h]; rfl
        · cases h
      · cases h
    · cases h
  · rename_i as ts
    simp only [execOp]
    have := lenOp_sound (w := w) hty hT (t0 := type) h
    simp only [resolve, invoke, builtin, Sem.run_bind, Sem.run_pure, Result.andThen_ok, this]
  · rename_i t ps
    simp only [execOp]
    refine run_val ?_
    split at h
    · rename_i i hi
      split at h
      · rename_i l a0 b0 hl hf
        split at h
        · rename_i cs hcs
          injection h with h; subst h
          have e := evp_den hT _ _ hl
          have := build_sound (P := P) (w := w) hty (ρ := ρ) hi (by rw [hf]; simp) hcs
          rw [← e] at this
          rw [← this]
          congr 2
          apply Array.ext'
          simp
        · cases h
      · cases h
    · cases h
  · rename_i g a b
    simp only [execOp]
    refine run_val ?_
    split at h
    · rename_i x y hx hy
      injection h with h; subst h
      have e1 := evs_den hT _ _ hx
      have e2 := evs_den hT _ _ hy
      simp only [Instr.makeFunc, Sem.run_pure, den, ← e1, ← e2]
      have q : ∀ z : Array Operand, (List.map f z.toList).toArray = z.map f := fun z => by apply Array.ext'; simp
      rw [q, q]
    · cases h
  · rename_i t x
    simp only [execOp]
    refine run_val ?_
    split at h
    · rename_i i hi
      split at h
      · rename_i hif
        split at h
        · rename_i a hx
          injection h with h; subst h
          rw [hT _ _ hx]
          obtain ⟨y, d, hy, hd, h1, h2, h3, h4, h5, h6, h7, h8⟩ := (hty _ _ hi).get
          unfold Instr.makeInterface
          rw [Sem.run_bind, run_under hd]
          rw [hif] at h8
          cases d <;> first | (simp [ifcB] at h8; done) | rfl
        · cases h
      · cases h
    · cases h
end
end Go.Vc
