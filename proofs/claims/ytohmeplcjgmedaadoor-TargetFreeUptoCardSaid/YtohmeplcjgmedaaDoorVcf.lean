/- The conditions are enough: effects, guards, regions, code. -/
import Derived.Test.YtohmeplcjgmedaaDoorVce
namespace Go.Vc
open Go.RowKit

section
variable {P : Program} {ty : List (Nat × TI)} {N : Nat} {w0 : Base} {plans : List (Nat × (List Nat × Pl))}

theorem Oper.wp_value {o : Oper} {a : Act} {w w' : World} {next : Act → World → Prop} {Q : Exit → Act → World → Prop} {v : Value} (h : (execOp a.eval o).run P w = .ok (.value v) w') (hn : next (a.put o.dst v) w') : o.wp P a w next Q := by
  unfold Oper.wp; rw [h]; exact hn
theorem Oper.wp_skip {o : Oper} {a : Act} {w w' : World} {next : Act → World → Prop} {Q : Exit → Act → World → Prop} (h : (execOp a.eval o).run P w = .ok .skip w') (hn : next (a.put o.dst undef) w') : o.wp P a w next Q := by
  unfold Oper.wp; rw [h]; exact hn

theorem run_newRow {t : TypeId} {cs : Array Value} {w : World} : (newRow t cs).run P w = .ok ⟨w.heap.size, 0, none⟩ (pushW w (.cells cs t (0, 0))) := rfl

theorem rep_length (l : List SV) : ∀ n, (vcEff.rep n l).length = n * l.length
  | 0 => by simp [vcEff.rep]
  | n + 1 => by simp [vcEff.rep, rep_length l n, Nat.succ_mul, Nat.add_comm]
theorem rep_get (l : List SV) : ∀ n j, j < n * l.length → (vcEff.rep n l)[j]? = l[j % l.length]?
  | 0, j, h => by simp at h
  | n + 1, j, h => by
    simp only [vcEff.rep]
    rcases Nat.lt_or_ge j l.length with h1 | h1
    · rw [List.getElem?_append_left h1, Nat.mod_eq_of_lt h1]
    · rw [List.getElem?_append_right h1, rep_get l n _ (by rw [Nat.succ_mul] at h; omega)]
      congr 1
      exact (Nat.mod_eq_sub_mod h1).symm
theorem zero_rep {ρ : List Nat} {z : Array Value} {n sz : Nat} (hz : z.size = sz) (h0 : sz ≠ 0) : (Array.range (n * sz)).map (fun i => z[i % z.size]!) = (denL ρ (vcEff.rep n (z.toList.map .v))).toArray := by
  apply Array.ext_getElem?
  intro j
  simp only [Array.getElem?_map, List.getElem?_toArray, denL_get]
  rcases Nat.lt_or_ge j (n * sz) with h | h
  · rw [rep_get _ _ _ (by simp [hz, h])]
    have hm : j % sz < sz := Nat.mod_lt _ (by omega)
    subst hz
    have hm' : j % z.size < z.size := hm
    simp only [List.length_map, Array.length_toList, List.getElem?_map, Array.getElem?_toList]
    rw [Array.getElem?_eq_getElem hm']
    simp [h, hm', den]
  · rw [List.getElem?_eq_none (by rw [rep_length]; simp [hz]; exact h)]
    simp [h]

theorem fillA_sound {ρ : List Nat} {sz : Nat} : ∀ (ps : List (Nat × SV)) (cs r : List SV), vcEff.fillA sz cs ps = some r →
    Instr.fill (fun i => some (i * sz, sz)) (denL ρ cs).toArray (ps.map fun p => (p.1, den ρ p.2)) = some (denL ρ r).toArray
  | [], cs, r, h => by simp [vcEff.fillA] at h; subst h; simp [Instr.fill]
  | (i, x) :: ps, cs, r, h => by
    simp only [vcEff.fillA] at h
    split at h <;> try (cases h; done)
    rename_i l h2
    split at h <;> try (cases h; done)
    rename_i cs' h3 hb h4
    have hcs := cellsOf_den (ρ := ρ) h2
    have hn := nbeq.1 h3
    have hb' := Nat.le_of_ble_eq_true hb
    have hsz : (den ρ x).cells.size = sz := by rw [hcs]; simp [denL_length, hn]
    simp only [List.map_cons, Instr.fill, hsz]
    rw [if_neg (by simp [denL_length]; omega)]
    have he : (den ρ x).cells.zipIdx.foldl (fun cs (c, j) => cs.setIfInBounds (i * sz + j) c) (denL ρ cs).toArray = (denL ρ cs').toArray := by
      rw [hcs]
      have e0 : (denL ρ l).toArray.zipIdx.foldl (fun cs (x : Value × Nat) => cs.setIfInBounds (i * sz + x.2) x.1) (denL ρ cs).toArray = ((denL ρ l).zipIdx 0).foldl (fun cs (x : Value × Nat) => cs.setIfInBounds (i * sz + x.2) x.1) (denL ρ cs).toArray := by
        rw [← Array.foldl_toList, Array.toList_zipIdx]
      exact Eq.trans e0 (putAt_eq h4 (by omega))
    rw [he]
    exact fillA_sound ps cs' r h

theorem vcEff_sound (hty : TyOk P ty) {o : Oper} {st : St} {K : St → Prop} {a : Act} {w : World} (h : Ok N w0 st a w) (hk : vcEff P ty N w0 o st K) {next : Act → World → Prop} {Q : Exit → Act → World → Prop}
    (hn : ∀ st' a' w', Ok N w0 st' a' w' → K st' → next a' w') : o.wp P a w next Q := by
  have hT := h.tmok
  obtain ⟨dst, op, type, pos, after, guard⟩ := o
  unfold vcEff at hk
  simp only at hk
  split at hk
  · rename_i t x
    split at hk <;> try (exact hk.elim)
    rename_i sv hx
    split at hk <;> try (exact hk.elim)
    rename_i cs hcs
    obtain ⟨st', ok', hk', hg⟩ := newK_sound h hk
    obtain ⟨st'', k1, k2⟩ := putK_sound ok' hk'
    refine Oper.wp_value (v := den st'.ρ (.own st.ρ.length 0)) (w' := pushW w (.cells (denL st.ρ cs).toArray t (0, 0))) ?_ (hn _ _ _ k1 k2)
    simp only [execOp]
    refine run_val ?_
    rw [hT _ _ hx]
    simp only [Instr.box, newVar, Sem.run_bind, cellsOf_den hcs, run_newRow, Result.andThen_ok, Sem.run_pure, den, hg]
  · rename_i t
    split at hk <;> try (exact hk.elim)
    rename_i ti hti
    obtain ⟨st', ok', hk', hg⟩ := newK_sound h hk
    obtain ⟨st'', k1, k2⟩ := putK_sound ok' hk'
    refine Oper.wp_value (v := den st'.ρ (.own st.ρ.length 0)) (w' := pushW w (.cells (denL st.ρ (ti.z.cells.toList.map .v)).toArray t (0, 0))) ?_ (hn _ _ _ k1 k2)
    simp only [execOp]
    refine run_val ?_
    have hz : (denL st.ρ (ti.z.cells.toList.map SV.v)).toArray = ti.z.cells := by
      rw [denL_map]; simp [Function.comp_def, den]
    unfold Instr.alloc
    rw [Sem.run_bind, run_zeroValue (hty _ _ hti)]
    simp only [Result.andThen_ok, newVar, Sem.run_bind, run_newRow, Sem.run_pure, den, hg, hz]
  · rename_i t n ps
    split at hk <;> try (exact hk.elim)
    rename_i ti hti
    split at hk <;> try (exact hk.elim)
    rename_i e he
    split at hk <;> try (exact hk.elim)
    rename_i ei hei
    split at hk <;> try (exact hk.elim)
    rename_i l hl
    split at hk <;> try (exact hk.elim)
    rename_i z zs hz
    split at hk <;> try (exact hk.elim)
    rename_i cs hle hsz hfill
    obtain ⟨st', ok', hk', hg⟩ := newK_sound h hk
    obtain ⟨st'', k1, k2⟩ := putK_sound ok' hk'
    refine Oper.wp_value (v := den st'.ρ (.osl st.ρ.length n n)) (w' := pushW w (.cells (denL st.ρ cs).toArray e (0, 0))) ?_ (hn _ _ _ k1 k2)
    simp only [execOp]
    refine run_val ?_
    obtain ⟨y, d, hy, hd, h1, h2, h3, h4, h5, h6, h7, h8⟩ := (hty _ _ hti).get
    rw [he] at h6
    cases d <;> simp only [elB] at h6 <;> try (cases h6; done)
    rename_i e'
    obtain rfl := nbeq.1 h6
    have hle' := Nat.le_of_ble_eq_true hle
    have hsz' := nbeq.1 hsz
    have h0 : ei.size ≠ 0 := by rw [← hsz']; simp
    have hzs : ei.z.cells.size = ei.size := by rw [← Array.length_toList, hz]; exact hsz'
    have hp := evp_den hT _ _ hl
    have hf := fillA_sound (ρ := st.ρ) _ _ _ hfill
    rw [← hp, ← hz] at hf
    unfold Instr.buildSlice
    simp only [Sem.run_bind, run_under hd, Result.andThen_ok, run_sizeOf (hty _ _ hei)]
    rw [if_neg (by omega)]
    have hmap : (ps.map fun x => (x.1, a.eval x.2)).toList = ps.toList.map fun x => (x.1, a.eval x.2) := by simp
    by_cases hn0 : n * ei.size = 0
    · obtain rfl : n = 0 := by rcases Nat.mul_eq_zero.1 hn0 with h' | h'; exact h'; exact absurd h' h0
      have hr : (Array.range (0 * ei.size)).map (fun i => (#[] : Array Value)[i % (#[] : Array Value).size]!) = (denL st.ρ (vcEff.rep 0 (ei.z.cells.toList.map .v))).toArray := by
        rw [Nat.zero_mul]; simp [vcEff.rep, denL]
      rw [if_pos (Nat.zero_mul _)]
      simp only [Sem.run_bind, Sem.run_pure, Result.andThen_ok]
      rw [hr, hmap, hf]
      simp only [Sem.run_bind, Sem.run_pure, run_newRow, Result.andThen_ok, den, hg]
    · rw [if_neg hn0]
      simp only [Sem.run_bind, Sem.run_pure, run_zeroValue (hty _ _ hei), Result.andThen_ok]
      rw [zero_rep (ρ := st.ρ) hzs h0, hmap, hf]
      simp only [Sem.run_bind, Sem.run_pure, run_newRow, Result.andThen_ok, den, hg]
  · rename_i t ad x
    split at hk
    · rename_i i off ha
      split at hk <;> try (exact hk.elim)
      rename_i ti sv hti hx
      split at hk <;> try (exact hk.elim)
      rename_i l hl
      split at hk <;> try (exact hk.elim)
      rename_i cs e hsz hsc hi
      split at hk <;> try (exact hk.elim)
      rename_i cs' hp hb
      have hb' := Nat.le_of_ble_eq_true hb
      have ok' : Ok N w0 ⟨st.T, st.ρ, (i, (cs', e)) :: st.E, st.R, st.pub, st.s⟩ a (setW w (st.ρ.getD i 0) (.cells (denL st.ρ cs').toArray e (0, 0))) := ⟨h.sz, h.df, h.tm, h.wd.setEnt hi st.T⟩
      obtain ⟨st'', k1, k2⟩ := putK_sound ok' hk
      refine Oper.wp_skip (w' := setW w (st.ρ.getD i 0) (.cells (denL st.ρ cs').toArray e (0, 0))) ?_ (hn _ _ _ k1 k2)
      simp only [execOp]
      refine run_unit ?_
      rw [hT _ _ ha, hT _ _ hx]
      simp only [den, Instr.storeAt, Instr.sureAddr, Sem.run_bind, Sem.run_pure, Result.andThen_ok, storeVar, cellsOf_den hl, run_sizeOf (hty _ _ hti)]
      rw [if_neg (by simp [denL_length, nbeq.1 hsz])]
      rw [run_storeCells (denL st.ρ l) 0 (denL st.ρ cs).toArray w (scalars_plain hsc) (h.wd.ent i cs e hi) (by simp [denL_length]; omega), putAt_eq hp hb']
    · exact gen_sound h hk hn
  · rename_i t x
    split at hk <;> try (exact hk.elim)
    rename_i ad hx
    obtain ⟨v, hv, hp⟩ := hk w h.wd
    obtain ⟨st'', k1, k2⟩ := putK_sound h hp
    refine Oper.wp_value (v := v) (w' := w) ?_ (hn _ _ _ k1 k2)
    simp only [execOp]
    refine run_val ?_
    rw [hT _ _ hx]
    simp only [den, Instr.loadAt, Instr.sureAddr, Sem.run_bind, Sem.run_pure, Result.andThen_ok]
    exact hv
  · rename_i fn as ts
    split at hk <;> try (exact hk.elim)
    · rename_i f a' b' l hf hl
      obtain ⟨hg, hk⟩ := hk
      have hk := hk w h.wd
      unfold Oper.wp
      have e : (execOp a.eval { dst, op := .call { callee := .value fn, args := as, argTypes := ts }, type, pos, after, guard }).run P w = .ok (.enter f (denL st.ρ (a' ++ l ++ b')).toArray) w := by
        simp only [execOp, resolve, hT _ _ hf, den, Deferred.ofValue, Sem.run_bind, Sem.run_pure, Result.andThen_ok, invoke]
        have := evs_den hT _ _ hl
        have e2 : as.map a.eval = (denL st.ρ l).toArray := by rw [← this]; apply Array.ext'; simp
        rw [e2, hg]
        simp [denL_map]
      rw [e]
      simp only [Oper.upon]
      refine Calls.mono hk ?_
      rintro e w'' ⟨v, rfl, hk⟩
      obtain ⟨st', k1, k2⟩ := AfterK_sound h hk
      exact hn _ _ _ k1 k2
    · rename_i f a' b' l hf hl
      obtain ⟨hg, hk⟩ := hk
      have hk := hk w h.wd
      unfold Oper.wp
      have e : (execOp a.eval { dst, op := .call { callee := .value fn, args := as, argTypes := ts }, type, pos, after, guard }).run P w = .ok (.enter f (a' ++ (denL st.ρ l).toArray ++ b')) w := by
        simp only [execOp, resolve, hT _ _ hf, den, Deferred.ofValue, Sem.run_bind, Sem.run_pure, Result.andThen_ok, invoke]
        have := evs_den hT _ _ hl
        have e2 : as.map a.eval = (denL st.ρ l).toArray := by rw [← this]; apply Array.ext'; simp
        rw [e2, hg]
      rw [e]
      simp only [Oper.upon]
      refine Calls.mono hk ?_
      rintro e w'' ⟨v, rfl, hk⟩
      obtain ⟨st', k1, k2⟩ := AfterK_sound h hk
      exact hn _ _ _ k1 k2
  · exact gen_sound h hk hn
end
end Go.Vc
