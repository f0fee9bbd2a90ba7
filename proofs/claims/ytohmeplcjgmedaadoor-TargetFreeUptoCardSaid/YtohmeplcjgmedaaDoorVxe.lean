/- Pure operations: all of them; what is asked where more must be known. -/
import Derived.Test.YtohmeplcjgmedaaDoorVxd
namespace Go.Vx
open Go.RowKit Go.Vc

section
variable {P : Program} {w : World} {f : Operand → Value} {e : Env}

theorem lk_old {ty : List (Nat × TY)} (hty : Tys P ty) {t : TypeId} {y : TY} (h : lk ty t = some y) : TIok P t y.i := (hty _ _ h).i
theorem nthD {S : Nat → Prop} {w : World} {cs : List D} {off : Nat} {x : D} {ad : Addr} (h : RepC S w cs (some ad) 0) (hx : nth cs off = some x) : ∃ v, S ad.block ∧ w.cell? (ad.add off) = some v ∧ RepD S w x v := by
  rw [nth_eq] at hx
  obtain ⟨ad', v, e1, h1, h2, h3⟩ := h.get hx
  injection e1 with e1; subst e1
  exact ⟨v, h1, by simpa using h2, h3⟩

/-- Operations that look at memory. -/
def ldB : Op → Bool
  | .load _ _ => true
  | _ => false
theorem pOp_sound {ty : List (Nat × TY)} (hty : Tys P ty) {T : Tl} {H : Hp} (hT : TmOk e w T f) (hH : ObsOk e w H) {o : Oper} {sv : SV} (h : pOp ty T H o.op = some sv) :
    ∃ v, RepSV e w sv v ∧ ∀ w', (ldB o.op = true → Agr e H w w') → (execOp f o).run P w' = .ok (.value v) w' := by
  obtain ⟨dst, op, type, pos, after, guard⟩ := o
  simp only at h
  unfold pOp at h
  split at h <;> try (cases h; done)
  · exact ⟨_, hT _ _ h, fun w' _ => by simp only [execOp]; rfl⟩
  · exact ⟨_, hT _ _ h, fun w' _ => by simp only [execOp]; rfl⟩
  · rename_i x i
    split at h <;> try (cases h; done)
    rename_i l hx
    have := hT _ _ hx
    simp only [RepSV] at this
    obtain ⟨l', hv, h1⟩ := this
    rw [nth_eq] at h
    obtain ⟨v, h2, h3⟩ := h1.get h
    refine ⟨v, h3, fun w' _ => ?_⟩
    simp only [execOp]
    refine run_val ?_
    rw [hv]
    rw [Array.getElem?_toList] at h2
    simp only [Instr.extract, h2]; rfl
  · rename_i x
    split at h <;> try (cases h; done)
    · rename_i b hx
      injection h with h; subst h
      have := hT _ _ hx
      simp only [RepSV, RepD] at this
      refine ⟨.bool !b, by simp only [RepSV, RepD], fun w' _ => ?_⟩
      simp only [execOp]
      refine run_val ?_
      rw [this]; rfl
    · rename_i b hx
      injection h with h; subst h
      have := hT _ _ hx
      simp only [RepSV] at this
      refine ⟨.bool !b, by simp only [RepSV], fun w' _ => ?_⟩
      simp only [execOp]
      refine run_val ?_
      rw [this]; rfl
  · rename_i x
    split at h <;> try (cases h; done)
    rename_i k n hx
    injection h with h; subst h
    have := hT _ _ hx
    simp only [RepSV, RepD] at this
    refine ⟨_, by simp only [RepSV, RepD]; rfl, fun w' _ => ?_⟩
    simp only [execOp]
    refine run_val ?_
    rw [this]; rfl
  · rename_i op' t x y t'
    split at h <;> try (cases h; done)
    rename_i z hz
    split at h <;> try (cases h; done)
    rename_i a b hx hy
    obtain ⟨v, h1, h2⟩ := binB_sound hty hz (x := x) (y := y) h (hT _ _ hx) (hT _ _ hy)
    refine ⟨v, h1, fun w' _ => ?_⟩
    simp only [execOp]
    exact run_val (h2 w')
  · rename_i s x fd
    split at h <;> try (cases h; done)
    rename_i y hs
    split at h <;> try (cases h; done)
    rename_i o n hf
    have hlk : lk (ty.map fun p => (p.1, p.2.i)) s = some y.i := by rw [lk_map, hs]; rfl
    have hfa : ∀ (a : Addr) w', (Instr.fieldAt s (.pointer (some a)) fd).run P w' = .ok (.pointer (some (a.add o))) w' := fun a w' => fieldAt_sound hty.old hlk hf a
    split at h <;> try (cases h; done)
    · rename_i j off hx
      injection h with h; subst h
      have := hT _ _ hx
      simp only [RepSV] at this
      obtain ⟨g, h1, hv⟩ := this
      refine ⟨.pointer (some ⟨g, off + o, none⟩), by simp only [RepSV]; exact ⟨g, h1, rfl⟩, fun w' _ => ?_⟩
      simp only [execOp]
      refine run_val ?_
      rw [hv, hfa, add_own]
    · rename_i j off hx
      injection h with h; subst h
      have := hT _ _ hx
      simp only [RepSV] at this
      obtain ⟨ad, n', c, h1, hv⟩ := this
      refine ⟨.pointer (some (ad.add (off + o))), by simp only [RepSV]; exact ⟨ad, n', c, h1, rfl⟩, fun w' _ => ?_⟩
      simp only [execOp]
      refine run_val ?_
      rw [hv, hfa, add_add]
    · rename_i cs off hx
      injection h with h; subst h
      have := hT _ _ hx
      simp only [RepSV, RepD] at this
      obtain ⟨ad, hv, h1⟩ := this
      refine ⟨.pointer (some (ad.add (off + o))), by simp only [RepSV, RepD]; exact ⟨ad, rfl, h1⟩, fun w' _ => ?_⟩
      simp only [execOp]
      refine run_val ?_
      rw [hv, hfa, add_add]
  · rename_i x
    split at h <;> try (cases h; done)
    · rename_i j o' hx
      injection h with h; subst h
      have hr := hT _ _ hx
      have := hr
      simp only [RepSV] at this
      obtain ⟨g, h1, hv⟩ := this
      refine ⟨_, hr, fun w' _ => ?_⟩
      simp only [execOp]; rw [hv]; rfl
    · rename_i j o' hx
      injection h with h; subst h
      have hr := hT _ _ hx
      have := hr
      simp only [RepSV] at this
      obtain ⟨g, _, _, h1, hv⟩ := this
      refine ⟨_, hr, fun w' _ => ?_⟩
      simp only [execOp]; rw [hv]; rfl
    · rename_i cs off hx
      injection h with h; subst h
      have hr := hT _ _ hx
      have := hr
      simp only [RepSV, RepD] at this
      obtain ⟨g, hv, _⟩ := this
      refine ⟨_, hr, fun w' _ => ?_⟩
      simp only [execOp]; rw [hv]; rfl
    · rename_i g a b hx
      injection h with h; subst h
      have hr := hT _ _ hx
      have := hr
      simp only [RepSV, RepD] at this
      obtain ⟨a', b', hv, _⟩ := this
      refine ⟨_, hr, fun w' _ => ?_⟩
      simp only [execOp]; rw [hv]; rfl
    · rename_i g a b hx
      injection h with h; subst h
      have hr := hT _ _ hx
      have := hr
      simp only [RepSV] at this
      obtain ⟨a', b', hv, _⟩ := this
      refine ⟨_, hr, fun w' _ => ?_⟩
      simp only [execOp]; rw [hv]; rfl
  · rename_i t x
    split at h <;> try (cases h; done)
    rename_i y hy
    have hyi := lk_old hty hy
    split at h <;> try (cases h; done)
    · rename_i j off hx
      have hr := hT _ _ hx
      simp only [RepSV] at hr
      obtain ⟨g, hm, hv⟩ := hr
      split at h <;> try (cases h; done)
      rename_i t1 cs hj
      obtain ⟨g', vs, hm', hh, hcs⟩ := hH _ _ hj
      rw [hm] at hm'; injection hm' with hm'; injection hm' with hm'; injection hm' with hm'; injection hm' with hm'
      subst hm'
      have hcell : ∀ w', Agr e H w w' → ∀ o, w'.cell? ⟨g, o, none⟩ = vs[o]? := fun w' hw o => cell_own (by rw [hw.2 j t1 cs g hj ⟨_, hm, rfl⟩]; exact hh) o
      split at h
      · rename_i hagg
        split at h <;> try (cases h; done)
        rename_i l hl
        injection h with h; subst h
        obtain ⟨rfl, h2⟩ := takeF_eq _ _ _ hl
        rw [dropN_eq] at h2 ⊢
        refine ⟨.agg ((vs.toList.drop off).take y.i.size).toArray, ?_, fun w' hw => ?_⟩
        · simp only [RepSV]
          refine ⟨_, rfl, RepSVs.mk ?_ fun i x' v h3 h4 => ?_⟩
          · have := hcs.len; simp at this ⊢; omega
          · rw [List.getElem?_take] at h3
            simp only [List.getElem?_take] at h4
            split at h3
            · rename_i hi
              rw [if_pos hi, List.getElem?_drop] at h4
              rw [List.getElem?_drop] at h3
              obtain ⟨u, h5, h6⟩ := hcs.get h3
              rw [h4] at h5; injection h5 with h5; subst h5; exact h6
            · cases h3
        · have hw := hw rfl
          simp only [execOp]
          refine run_val ?_
          rw [hv]
          simp only [Instr.loadAt, Sem.run_bind, Instr.sureAddr, Sem.run_pure, Result.andThen_ok]
          refine run_loadVar hyi ?_ (fun k v hk => ?_) hagg
          · have := hcs.len; simp at this h2 ⊢; omega
          · rw [add_own, hcell w' hw]
            rw [List.getElem?_take] at hk
            split at hk
            · rw [List.getElem?_drop, Array.getElem?_toList] at hk; exact hk
            · cases hk
      · rename_i hagg
        rw [nth_eq] at h
        obtain ⟨v, h1, h2⟩ := hcs.get h
        refine ⟨v, h2, fun w' hw => ?_⟩
        have hw := hw rfl
        simp only [execOp]
        refine run_val ?_
        rw [hv]
        simp only [Instr.loadAt, Sem.run_bind, Instr.sureAddr, Sem.run_pure, Result.andThen_ok]
        refine run_loadVar1 hyi ?_ hagg
        rw [hcell w' hw, ← Array.getElem?_toList]; exact h1
    · rename_i cs off hx
      have hr := hT _ _ hx
      simp only [RepSV, RepD] at hr
      obtain ⟨ad, hv, hc⟩ := hr
      split at h
      · rename_i hagg
        split at h <;> try (cases h; done)
        rename_i l hl
        injection h with h; subst h
        obtain ⟨rfl, h2⟩ := takeF_eq _ _ _ hl
        rw [dropN_eq] at h2 ⊢
        obtain ⟨xs, k1, k2⟩ := (hc.drop off).cells
        have hlen := k1.len
        refine ⟨.agg (xs.take y.i.size).toArray, ?_, fun w' hw => ?_⟩
        · simp only [RepSV]
          refine ⟨_, rfl, ?_⟩
          rw [dL_map]
          exact RepSVs.ofD.1 (k1.take _)
        · have hw := hw rfl
          simp only [execOp]
          refine run_val ?_
          rw [hv]
          simp only [Instr.loadAt, Sem.run_bind, Instr.sureAddr, Sem.run_pure, Result.andThen_ok]
          refine run_loadVar hyi (by simp; omega) (fun k v hk => ?_) hagg
          rw [List.getElem?_take] at hk
          split at hk
          · obtain ⟨q1, q2⟩ := k2 k v hk
            exact hw.1.cell (by rw [add_block]; exact q1) (by simpa using q2)
          · cases hk
      · rename_i hagg
        split at h <;> try (cases h; done)
        rename_i x' hx'
        injection h with h; subst h
        obtain ⟨v, h1, h2, h3⟩ := nthD hc hx'
        refine ⟨v, by simpa only [RepSV] using h3, fun w' hw => ?_⟩
        have hw := hw rfl
        simp only [execOp]
        refine run_val ?_
        rw [hv]
        simp only [Instr.loadAt, Sem.run_bind, Instr.sureAddr, Sem.run_pure, Result.andThen_ok]
        exact run_loadVar1 hyi (hw.1.cell (by rw [add_block]; exact h1) h2) hagg
  · rename_i as ts
    obtain ⟨v, h1, h2⟩ := lenOp_sound hty hT hH (t0 := type) h
    refine ⟨v, h1, fun w' _ => ?_⟩
    simp only [execOp, resolve, invoke, builtin, Sem.run_bind, Sem.run_pure, Result.andThen_ok, h2]
  · rename_i t ps
    split at h <;> try (cases h; done)
    rename_i y hy
    split at h <;> try (cases h; done)
    rename_i l a0 b0 hl hf
    split at h <;> try (cases h; done)
    rename_i cs hcs
    injection h with h; subst h
    obtain ⟨e1, e2⟩ := evp_rep hT _ _ hl
    obtain ⟨v, h1, h2⟩ := build_rep (pv := ps.toList.map fun p => (p.1, f p.2)) hty hy (by rw [hf]; simp) hcs (by simpa [Function.comp_def] using e1) (by simpa [Function.comp_def] using e2)
    refine ⟨v, h1, fun w' _ => ?_⟩
    simp only [execOp]
    refine run_val ?_
    rw [← h2 w']
    congr 2
    apply Array.ext'
    simp
  · rename_i g a b
    split at h <;> try (cases h; done)
    rename_i x y hx hy
    injection h with h; subst h
    have h1 := evs_rep hT _ _ hx
    have h2 := evs_rep hT _ _ hy
    refine ⟨.func (.func g) (a.map f) (b.map f), by simp only [RepSV]; exact ⟨_, _, rfl, by simpa using h1, by simpa using h2⟩, fun w' _ => ?_⟩
    simp only [execOp]
    exact run_val rfl
  · rename_i t x
    split at h <;> try (cases h; done)
    rename_i y hy
    split at h <;> try (cases h; done)
    rename_i hif
    split at h <;> try (cases h; done)
    rename_i a hx
    injection h with h; subst h
    obtain ⟨_, d, _, hd, _, _, _, _, _, _, _, h8⟩ := (lk_old hty hy).get
    refine ⟨.iface t (f x), by simp only [RepSV]; exact ⟨_, rfl, hT _ _ hx⟩, fun w' _ => ?_⟩
    simp only [execOp]
    refine run_val ?_
    rw [hif] at h8
    unfold Instr.makeInterface
    rw [Sem.run_bind, run_under hd]
    simp only [Result.andThen_ok]
    cases d <;> first | rfl | simp [ifcB] at h8
  · rename_i s t x
    split at h <;> try (cases h; done)
    rename_i a b ha hb
    split at h <;> try (cases h; done)
    · rename_i k0 k k1 n hka hkb hx
      injection h with h; subst h
      have := hT _ _ hx
      simp only [RepSV, RepD] at this
      have hs := (hty _ _ ha).int hka
      have ht := (hty _ _ hb).int hkb
      refine ⟨_, by simp only [RepSV, RepD]; rfl, fun w' _ => ?_⟩
      simp only [execOp]
      refine run_val ?_
      rw [this]
      unfold convert
      simp only [Sem.run_bind, run_under hs, run_under ht, Result.andThen_ok]
      rfl
    · rename_i s' hka hkb hx
      injection h with h; subst h
      have := hT _ _ hx
      simp only [RepSV, RepD] at this
      have hs := (hty _ _ ha).str hka
      have ht := (hty _ _ hb).str hkb
      refine ⟨_, by simp only [RepSV, RepD]; rfl, fun w' _ => ?_⟩
      simp only [execOp]
      refine run_val ?_
      rw [this]
      unfold convert
      simp only [Sem.run_bind, run_under hs, run_under ht, Result.andThen_ok]
      rfl
end
end Go.Vx
