/- Operations that act: soundness. -/
import Derived.Test.YtohmeplcjgmedaaDoorVxh
namespace Go.Vx
open Go.RowKit Go.Vc

section
variable {P : Program} {ty : List (Nat × TY)} {G : Glob} {n0 : Nat} {b : Bs G n0} {N : Nat} {kp : Bool}

/-- A new block. -/
theorem Ok.newBlk {e : Env} {st : St} {a : Act} {w : World} (h : Ok b N e st a w) {t : TypeId} {cs : List SV} {vs : Array Value} (hc : RepSVs e w cs vs.toList) {dst : Option Tmp} {K : St → Prop}
    (hk : putK N dst (.own st.n 0) ⟨st.T, (st.n, .blk t cs) :: st.H, st.n + 1⟩ K) :
    ∃ e' st', (Kept e w e' (pushW w (.cells vs t (0, 0))) ∧ Agr e st.H w (pushW w (.cells vs t (0, 0)))) ∧ Ok b N e' st' (a.put dst (.pointer (some ⟨w.heap.size, 0, none⟩))) (pushW w (.cells vs t (0, 0))) ∧ K st' := by
  have hb := pushW_below w (.cells vs t (0, 0))
  obtain ⟨e', h1, kw, hm, _⟩ := h.addOb (v := .pointer (some ⟨w.heap.size, 0, none⟩)) (o := .blk t cs) hb (Nat.le_refl _) (fun k hk => by injection hk with hk; subst hk; exact Nat.le_refl _)
    (fun e' kw hm => ⟨w.heap.size, vs, hm, pushW_new _ _, hc.kept kw⟩)
  obtain ⟨st', h2, h3, _⟩ := putK_sound (v := .pointer (some ⟨w.heap.size, 0, none⟩)) h1 (by simp only [RepSV]; exact ⟨_, hm, rfl⟩) hk
  exact ⟨e', st', ⟨kw, Agr.below h.hp hb⟩, h2, h3⟩

theorem store_run (hty : Tys P ty) {f : Operand → Value} {x y : Operand} {t type : TypeId} {dst : Option Tmp} {pos : String} {after : Array Edge} {guard : Option (Nat × Bool)} {ti : TY} (ht : lk ty t = some ti) {ad : Addr} {w w' : World}
    (hx : f x = .pointer (some ad)) (hl : (f y).cells.toList.length = ti.i.size) (hrun : (storeCells ad (f y).cells.toList 0).run P w = .ok () w') :
    (execOp f { dst, op := .store t x y, type, pos, after, guard }).run P w = .ok .skip w' := by
  simp only [execOp]
  refine run_unit ?_
  rw [hx]
  simp only [Instr.storeAt, Instr.sureAddr, Sem.run_bind, Sem.run_pure, Result.andThen_ok, storeVar, Vc.run_sizeOf (hty _ _ ht).i]
  rw [if_neg (by rw [Array.length_toList] at hl; simp [hl])]
  exact hrun

theorem vcEff_sound (hty : Tys P ty) {o : Oper} {e : Env} {st : St} {K : SExit → St → Prop} {a : Act} {w : World} (h : Ok b N e st a w) (hk : vcEff P ty b N kp o st K) : OpR P b N kp e st.H a o.dst w K ((execOp a.eval o).run P w) := by
  have hT := h.tmok
  obtain ⟨T, H, n⟩ := st
  obtain ⟨dst, op, type, pos, after, guard⟩ := o
  have gen : OpC P b N kp { dst, op, type, pos, after, guard } ⟨T, H, n⟩ K → OpR P b N kp e H a dst w K ((execOp a.eval { dst, op, type, pos, after, guard }).run P w) := fun hc => by
    obtain ⟨hc⟩ := hc; exact hc e a w h
  unfold vcEff at hk
  simp only at hk hT ⊢
  split at hk
  · -- box
    rename_i t x
    split at hk <;> try (exact hk.elim)
    rename_i sv hx
    split at hk <;> try (exact hk.elim)
    rename_i cs hcs
    rw [nrmL_eq] at hk
    have hr := cellsOf_rep hcs (hT _ _ hx)
    obtain ⟨e', st', h1, h2, h3⟩ := h.newBlk (t := t) hr hk
    have hrun : (execOp a.eval { dst, op := .box t x, type, pos, after, guard }).run P w = .ok (.value (.pointer (some ⟨w.heap.size, 0, none⟩))) (pushW w (.cells (a.eval x).cells t (0, 0))) := by
      simp only [execOp]
      refine run_val ?_
      simp only [Instr.box, newVar, Sem.run_bind, run_newRow, Result.andThen_ok, Sem.run_pure]
    rw [hrun]
    exact ⟨e', st', .of h1, h2, h3⟩
  · -- alloc
    rename_i t
    split at hk <;> try (exact hk.elim)
    rename_i y hy
    rw [nrmL_eq] at hk
    obtain ⟨e', st', h1, h2, h3⟩ := h.newBlk (t := t) (vs := y.i.z.cells) (zs_rep e w y.i.z.cells.toList) hk
    have hrun : (execOp a.eval { dst, op := .alloc t, type, pos, after, guard }).run P w = .ok (.value (.pointer (some ⟨w.heap.size, 0, none⟩))) (pushW w (.cells y.i.z.cells t (0, 0))) := by
      simp only [execOp]
      refine run_val ?_
      unfold Instr.alloc
      rw [Sem.run_bind, Vc.run_zeroValue (hty _ _ hy).i]
      simp only [newVar, Sem.run_bind, run_newRow, Result.andThen_ok, Sem.run_pure]
    rw [hrun]
    exact ⟨e', st', .of h1, h2, h3⟩
  · -- buildSlice
    rename_i t m ps
    split at hk <;> try (exact hk.elim)
    rename_i y hy
    split at hk <;> try (exact hk.elim)
    rename_i el hkd
    split at hk <;> try (exact hk.elim)
    rename_i ey hey
    split at hk <;> try (exact hk.elim)
    rename_i l hl hle hsz hby h1 hsd
    split at hk <;> try (first | exact hk.elim | exact gen hk)
    rename_i xs hfill
    have hu := (hty _ _ hy).slice hkd
    have hle' := Nat.le_of_ble_eq_true hle
    have hsz' := nbeq.1 hsz
    have hby' := Nat.le_of_ble_eq_true hby
    have h1' := Nat.le_of_ble_eq_true h1
    have h0 : ey.i.size ≠ 0 := by omega
    have hzs : ey.i.z.cells.size = ey.i.size := by rw [← Array.length_toList]; exact hsz'
    obtain ⟨p1, p2⟩ := evp_rep hT _ _ hl
    have hz : ((if m * ey.i.size = 0 then pure #[] else do pure (← zeroValue el).cells : Sem (Array Value))).run P w = .ok (if m * ey.i.size = 0 then #[] else ey.i.z.cells) w := by
      split
      · rfl
      · rw [Sem.run_bind, Vc.run_zeroValue (hty _ _ hey).i]; rfl
    have hzc : (Array.range (m * ey.i.size)).map (fun i => (if m * ey.i.size = 0 then #[] else ey.i.z.cells)[i % (if m * ey.i.size = 0 then (#[] : Array Value) else ey.i.z.cells).size]!) = (repV ey.i.z.cells.toList m).toArray := by
      split
      · rename_i hm0
        have : m = 0 := by rcases Nat.mul_eq_zero.1 hm0 with h' | h'; exact h'; exact absurd h' h0
        subst this
        simp [repV]
      · exact zero_repV hzs h0
    obtain ⟨vr, q1, q2, q3⟩ := fillA_rep (e := e) (w := w) l (ps.toList.map fun p => (p.1, a.eval p.2)) _ _ _ hfill (by simpa [Function.comp_def] using p1) (by simpa [Function.comp_def] using p2) (rep_rep (zdL_rep e.pub w _) m)
    have hb := pushW_below w (.cells vr el (0, 0))
    have hvl : vr.size = m * ey.i.size := by rw [q3, repV_length, hsz']
    have hrow : RowOk (pushW w (.cells vr el (0, 0))) ⟨.slice (some ⟨w.heap.size, 0, none⟩) m m, el, ey.i.size, vr.toList⟩ := by
      refine ⟨m, by simp [hvl], .inr ⟨w.heap.size, 0, m, vr, rfl, pushW_new _ _, Nat.le_refl _, ?_, by simp [hvl], ?_⟩⟩
      rotate_left
      · simp only [List.drop_zero]; rw [List.take_of_length_le (by simp [hvl])]
      have : m ≤ m * ey.i.size := Nat.le_mul_of_pos_right _ h1'
      simp only [maxLen]; omega
    obtain ⟨e', g1, kw, hm, _⟩ := h.addOb (v := .slice (some ⟨w.heap.size, 0, none⟩) m m) (o := .row el ey.i.bytes ey.i.size m xs) hb (Nat.le_refl _) (fun k hk => by injection hk with hk; subst hk; exact Nat.le_refl _)
      (fun e' kw hm => ⟨_, _, vr.toList, hm, hrow, q2.kept kw, hby'⟩)
    obtain ⟨st', g2, g3, _⟩ := putK_sound (v := .slice (some ⟨w.heap.size, 0, none⟩) m m) g1 (by simp only [RepSV]; exact ⟨_, _, _, rfl, hm⟩) hk
    have hrun : (execOp a.eval { dst, op := .buildSlice t m ps, type, pos, after, guard }).run P w = .ok (.value (.slice (some ⟨w.heap.size, 0, none⟩) m m)) (pushW w (.cells vr el (0, 0))) := by
      simp only [execOp]
      refine run_val ?_
      unfold Instr.buildSlice
      simp only [Sem.run_bind, run_under hu, Result.andThen_ok, Vc.run_sizeOf (hty _ _ hey).i]
      rw [if_neg (by omega)]
      have hmap : (ps.map fun x => (x.1, a.eval x.2)).toList = ps.toList.map fun x => (x.1, a.eval x.2) := by simp
      by_cases hm0 : m * ey.i.size = 0
      · rw [if_pos hm0]
        rw [if_pos hm0] at hzc
        simp only [Sem.run_bind, Sem.run_pure, Result.andThen_ok]
        rw [hzc, hmap, q1]
        simp only [Sem.run_bind, Sem.run_pure, run_newRow, Result.andThen_ok]
      · rw [if_neg hm0]
        rw [if_neg hm0] at hzc
        simp only [Sem.run_bind, Sem.run_pure, Vc.run_zeroValue (hty _ _ hey).i, Result.andThen_ok]
        rw [hzc, hmap, q1]
        simp only [Sem.run_bind, Sem.run_pure, run_newRow, Result.andThen_ok]
    rw [hrun]
    exact ⟨e', st', .of ⟨kw, Agr.below h.hp hb⟩, g2, g3⟩
  · -- store
    rename_i t ad x
    split at hk
    · rename_i i off ha
      split at hk <;> try (exact hk.elim)
      rename_i y sv hy hx
      split at hk <;> try (exact hk.elim)
      rename_i l hl
      split at hk <;> try (exact hk.elim)
      rename_i t' cs hsz hcl hi
      split at hk <;> try (exact hk.elim)
      rename_i cs' hp hb
      rw [nrmL_eq] at hk
      simp only [withoutK_eq] at hk
      have hb' := Nat.le_of_ble_eq_true hb
      have h1 := hT _ _ ha
      simp only [RepSV] at h1
      obtain ⟨g, hm, hv⟩ := h1
      have hr := cellsOf_rep hl (hT _ _ hx)
      have hlen := hr.len
      obtain ⟨g', vs, hm', hh, hcs⟩ := h.hp.ob _ _ hi
      rw [hm] at hm'; injection hm' with hm'; injection hm' with hm'; injection hm' with hm'; injection hm' with hm'
      subst hm'
      have hcl' := hcs.len
      obtain ⟨vr, q1, q2⟩ := putAt_rep hp hb' hr hcs
      have hlt := (Array.getElem?_eq_some_iff.1 hh).1
      have hrun := run_storeCells (P := P) (g := g) (off := off) (t := t') (a.eval x).cells.toList 0 vs w (cellsB_plain hcl hr) hh (by rw [Array.length_toList] at hlen hcl' ⊢; omega)
      rw [store_run hty hy hv (by rw [hlen]; exact nbeq.1 hsz) hrun]
      have q1' : ((a.eval x).cells.toList.zipIdx 0).foldl (fun cs (x : Value × Nat) => cs.setIfInBounds (off + x.2) x.1) vs = vr := by
        rw [← q1]
      rw [q1']
      have ho : Only (fun k => foot e i k) w (setW w g (.cells vr t' (0, 0))) := ⟨rfl, rfl, rfl, by rw [setW_size]; exact Nat.le_refl _, fun k hk hn => setW_ne _ _ (fun e' => hn ⟨_, hm, by rw [← e']; rfl⟩)⟩
      obtain ⟨g1, kw, g3⟩ := h.setOb (i := i) (o := .blk t' cs') (by simp [has, hi]) ho (Nat.le_refl _) (fun kw => ⟨g, vr, hm, setW_at _ _ _ hlt, q2.kept kw⟩)
      obtain ⟨st', g4, g5, _⟩ := putK_sound (v := undef) g1 (by simp only [RepSV]) hk
      exact ⟨e, st', ⟨fun hkp => (by cases hkp), kw.p⟩, g4, g5⟩
    · rename_i i off ha
      split at hk <;> try (exact hk.elim)
      rename_i y sv hy hx
      split at hk <;> try (exact hk.elim)
      rename_i l hl
      split at hk <;> try (first | exact hk.elim | exact gen hk)
      rename_i m t' eb sz q xs hsz hcl hm hi
      obtain ⟨xs', hle, hov, hk⟩ := hk
      simp only [withoutK_eq] at hk
      have h1 := hT _ _ ha
      simp only [RepSV] at h1
      obtain ⟨adr, n', c, hme, hv⟩ := h1
      have hr := cellsOf_rep hl (hT _ _ hx)
      have hlen := hr.len
      have hrd := dOfs_rep hm hr
      obtain ⟨A', c', vs, hme', hrow, hxs, hlb⟩ := h.hp.ob _ _ hi
      rw [hme] at hme'; injection hme' with hme'; injection hme' with e1 e2 e3
      subst e1; subst e2; subst e3
      have had : adr = ⟨adr.block, adr.off, none⟩ := by
        obtain ⟨n', hl, ⟨hv, hn⟩ | ⟨g', o, cap, cur, hv, _⟩⟩ := hrow
        · cases hv
        · injection hv with e1 _ _; injection e1 with e1; rw [e1]
      have hrow' := hrow
      rw [had] at hrow'
      have hml := hrd.len
      have hxl := hxs.len
      obtain ⟨w', p1, p2, p3⟩ := storeRow_run (P := P) hrow' (k := off) (l := (a.eval x).cells.toList) (by omega) (cellsB_plain hcl hr)
      have hadd : adr.add off = ⟨adr.block, adr.off + off, none⟩ := by rw [had, add_own]
      rw [hadd] at hv
      rw [store_run hty hy hv (by rw [hlen]; exact nbeq.1 hsz) p1]
      rw [← had] at p2
      have ho : Only (fun k => foot e i k) w w' := ⟨p3.os, p3.tape, p3.output, p3.size, fun k hk hn => p3.block k hk (fun e' => hn ⟨_, hme, e'.symm⟩)⟩
      obtain ⟨g1, kw, g3⟩ := h.setOb (i := i) (o := .row t' eb sz n' xs') (by simp [has, hi]) ho (run_drawn p1) (fun kw => ⟨_, _, _, hme, p2, by
        rw [← hov, ovl, ← hml]
        exact (((hxs.take off).app hrd).app (hxs.drop _)).kept kw, hlb⟩)
      obtain ⟨st', g4, g5, _⟩ := putK_sound (v := undef) g1 (by simp only [RepSV]) hk
      refine ⟨e, st', .of ⟨kw, kw.same, fun j t2 cs2 k hj hf => ?_⟩, g4, g5⟩
      refine g3 j k (by simp [has]; rw [hj]; rfl) ?_ hf
      rintro rfl
      rw [hi] at hj; cases hj
    · exact gen hk
  · -- load
    rename_i t x
    split at hk
    · rename_i i off hx
      split at hk <;> try (exact hk.elim)
      rename_i y t' eb sz n' xs hy hi
      have hyi := (hty _ _ hy).i
      have h1 := hT _ _ hx
      simp only [RepSV] at h1
      obtain ⟨adr, n', c, hme, hv⟩ := h1
      obtain ⟨A', c', vs, hme', hrow, hxs, hlb⟩ := h.hp.ob _ _ hi
      rw [hme] at hme'; injection hme' with hme'; injection hme' with e1 e2 e3
      subst e1; subst e2; subst e3
      split at hk
      · rename_i hagg
        obtain ⟨l, hl, hll, hk⟩ := hk
        rw [nrmL_eq] at hk
        have hvl : ((vs.drop off).take y.i.size).length = y.i.size := by
          have := ((hxs.drop off).take y.i.size).len
          rw [this, hl, hll]
        have hrun : (execOp a.eval { dst, op := .load t x, type, pos, after, guard }).run P w = .ok (.value (.agg ((vs.drop off).take y.i.size).toArray)) w := by
          simp only [execOp]
          refine run_val ?_
          rw [hv]
          simp only [Instr.loadAt, Sem.run_bind, Instr.sureAddr, Sem.run_pure, Result.andThen_ok]
          refine hrow.ldA hyi hagg hvl fun j v hj => ?_
          rw [List.getElem?_take] at hj
          split at hj
          · rw [List.getElem?_drop] at hj; exact hj
          · cases hj
        rw [hrun]
        obtain ⟨st', g4, g5, _⟩ := putK_sound (v := .agg ((vs.drop off).take y.i.size).toArray) h (by
          simp only [RepSV]
          refine ⟨_, rfl, ?_⟩
          rw [dL_map, ← hl]
          exact RepSVs.ofD.1 ((hxs.drop off).take _)) hk
        exact ⟨e, st', .of ⟨Kept.refl _ _, Agr.refl _ _ _⟩, g4, g5⟩
      · rename_i hagg
        obtain ⟨x', hx', hk⟩ := hk
        obtain ⟨v, hv1, hv2⟩ := hxs.get hx'
        have hrun : (execOp a.eval { dst, op := .load t x, type, pos, after, guard }).run P w = .ok (.value v) w := by
          simp only [execOp]
          refine run_val ?_
          rw [hv]
          simp only [Instr.loadAt, Sem.run_bind, Instr.sureAddr, Sem.run_pure, Result.andThen_ok]
          exact hrow.ldV hyi hagg hv1
        rw [hrun]
        obtain ⟨st', g4, g5, _⟩ := putK_sound (v := v) h (by simpa only [RepSV] using hv2) hk
        exact ⟨e, st', .of ⟨Kept.refl _ _, Agr.refl _ _ _⟩, g4, g5⟩
    · exact gen hk
  · -- panic
    rename_i x
    split at hk
    · rename_i t y hx
      have h1 := hT _ _ hx
      have h2 := h1
      simp only [RepSV] at h2
      obtain ⟨z, hz, _⟩ := h2
      have hrun : (execOp a.eval { dst, op := .panic x, type, pos, after, guard }).run P w = .halt (.panic (.iface t z)) w := by
        simp only [execOp]
        rw [Sem.run_bind, hz]; rfl
      rw [hrun]
      rw [hz] at h1
      exact ⟨e, _, _, _, rfl, h1, h, hk⟩
    · rename_i t y hx
      have h1 := hT _ _ hx
      have h2 := h1
      simp only [RepSV, RepD] at h2
      obtain ⟨z, hz, _⟩ := h2
      have hrun : (execOp a.eval { dst, op := .panic x, type, pos, after, guard }).run P w = .halt (.panic (.iface t z)) w := by
        simp only [execOp]
        rw [Sem.run_bind, hz]; rfl
      rw [hrun]
      rw [hz] at h1
      exact ⟨e, _, _, _, rfl, h1, h, hk⟩
    · exact gen hk
  · exact gen hk

theorem vcOp_sound (hty : Tys P ty) {o : Oper} {e : Env} {st : St} {K : SExit → St → Prop} {a : Act} {w : World} (h : Ok b N e st a w) (hk : vcOp P ty b N kp o st K) : OpR P b N kp e st.H a o.dst w K ((execOp a.eval o).run P w) := by
  unfold vcOp at hk
  split at hk
  · rename_i sv hsv
    obtain ⟨v, h1, h2⟩ := pOp_sound hty h.tmok h.hp.ob hsv
    obtain ⟨y, hy, hr⟩ := nrm_eq sv _ hk h1
    obtain ⟨st', g1, g2, _⟩ := putK_sound h hr hy
    rw [h2 w fun _ => Agr.refl _ _ _]
    exact ⟨e, st', .of ⟨Kept.refl _ _, Agr.refl _ _ _⟩, g1, g2⟩
  · split at hk
    · rename_i g hg
      obtain ⟨sv, v, h1, h2, h3⟩ := pStop_sound hty h.tmok h.hp.ob hg hk
      obtain ⟨st', g1, g2, _⟩ := putK_sound h h1 h3
      rw [h2 w]
      exact ⟨e, st', .of ⟨Kept.refl _ _, Agr.refl _ _ _⟩, g1, g2⟩
    · exact vcEff_sound hty h hk
/-- An operation whose conditions hold (behind a state that was said anew). -/
theorem effC (hty : Tys P ty) {o : Oper} {st : St} {K : SExit → St → Prop} (h : vcOp P ty b N kp o st K) : OpC P b N kp o st K :=
  ⟨fun _ _ _ hok => vcOp_sound hty hok h⟩
end
end Go.Vx
