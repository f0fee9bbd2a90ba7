/- Texts of mine, joined: Vpk Vpp Vpr Vps Vpq. -/
import Derived.Test.YtcjkikadolnfgaaGreatPah
import Derived.RangeFuncNested
import Derived.RangeFuncLeaves
import Derived.TacticsIn
/- Ranges over functions: a state goes through an iterator's rounds. -/
namespace Go.Vx
open Go.RowKit Go.Vc
set_option linter.unusedVariables false
set_option linter.unusedSimpArgs false
def cellBl (w : World) (k : Nat) : Prop := ∃ o : Obj, w.heap[k]? = some o ∧ o.isCells = true
mutual
theorem RepD.cut {S : Nat → Prop} {w : World} : ∀ {x : D} {v : Value}, RepD S w x v → RepD (fun k => S k ∧ cellBl w k) w x v
  | .int k n, v, h => h
  | .bool b, v, h => h
  | .str s, v, h => h
  | .sl eb n cs, v, h => by
    simp only [RepD] at h ⊢
    obtain ⟨A, c, e, h1, h2, h4, h3⟩ := h
    exact ⟨A, c, e, h1, h2, h4, RepC.cut h3⟩
  | .csl eb n cs, v, h => by
    simp only [RepD] at h ⊢
    obtain ⟨A, e, h2, h4, h3⟩ := h
    exact ⟨A, e, h2, h4, RepC.cut h3⟩
  | .ptr cs off, v, h => by
    simp only [RepD] at h ⊢
    obtain ⟨ad, e, h3⟩ := h
    exact ⟨ad, e, RepC.cut h3⟩
  | .fn f a b, v, h => by
    simp only [RepD] at h ⊢
    obtain ⟨a', b', e, h1, h2⟩ := h
    exact ⟨a', b', e, RepDs.cut h1, RepDs.cut h2⟩
  | .ifc t x, v, h => by
    simp only [RepD] at h ⊢
    obtain ⟨y, e, h1⟩ := h
    exact ⟨y, e, RepD.cut h1⟩
  | .agg l, v, h => by
    simp only [RepD] at h ⊢
    obtain ⟨l', e, h1⟩ := h
    exact ⟨l', e, RepDs.cut h1⟩
  | .tup l, v, h => by
    simp only [RepD] at h ⊢
    obtain ⟨l', e, h1⟩ := h
    exact ⟨l', e, RepDs.cut h1⟩
  | .val x, v, h => h
theorem RepC.cut {S : Nat → Prop} {w : World} : ∀ {l : List D} {A : Option Addr} {j : Nat}, RepC S w l A j → RepC (fun k => S k ∧ cellBl w k) w l A j
  | [], _, _, _ => by simp only [RepC]
  | x :: r, A, j, h => by
    simp only [RepC] at h ⊢
    obtain ⟨⟨ad, v, e, h1, h2, h3⟩, h4⟩ := h
    exact ⟨⟨ad, v, e, ⟨h1, by have := cells_of_cell h2; rw [add_block] at this; exact this⟩, h2, RepD.cut h3⟩, RepC.cut h4⟩
theorem RepDs.cut {S : Nat → Prop} {w : World} : ∀ {l : List D} {l' : List Value}, RepDs S w l l' → RepDs (fun k => S k ∧ cellBl w k) w l l'
  | [], _, h => by simpa only [RepDs] using h
  | x :: r, l', h => by
    simp only [RepDs] at h ⊢
    obtain ⟨v, s, e, h1, h2⟩ := h
    exact ⟨v, s, e, RepD.cut h1, RepDs.cut h2⟩
end
mutual
theorem RepSV.up {m : List Value} {S S' : Nat → Prop} {w : World} (hd : ∀ x v, RepD S w x v → RepD S' w x v) : ∀ {x : SV} {v : Value}, RepSV ⟨m, S⟩ w x v → RepSV ⟨m, S'⟩ w x v
  | .d x, v, hx => by simp only [RepSV] at hx ⊢; exact hd _ _ hx
  | .kb b, v, hx => hx
  | .own i off, v, hx => by simpa only [RepSV] using hx
  | .row i, v, hx => by simpa only [RepSV] using hx
  | .rowp i off, v, hx => by simpa only [RepSV] using hx
  | .nm i, v, hx => by simpa only [RepSV] using hx
  | .osl i n, v, hx => by simpa only [RepSV] using hx
  | .agg l, v, hx => by
    simp only [RepSV] at hx ⊢
    obtain ⟨l', e, h1⟩ := hx
    exact ⟨l', e, RepSVs.up hd h1⟩
  | .tup l, v, hx => by
    simp only [RepSV] at hx ⊢
    obtain ⟨l', e, h1⟩ := hx
    exact ⟨l', e, RepSVs.up hd h1⟩
  | .fn f a b, v, hx => by
    simp only [RepSV] at hx ⊢
    obtain ⟨a', b', e, h1, h2⟩ := hx
    exact ⟨a', b', e, RepSVs.up hd h1, RepSVs.up hd h2⟩
  | .ifc t x, v, hx => by
    simp only [RepSV] at hx ⊢
    obtain ⟨y, e, h1⟩ := hx
    exact ⟨y, e, RepSV.up hd h1⟩
  | .nl, v, hx => hx
  | .any, v, hx => by simp only [RepSV]
theorem RepSVs.up {m : List Value} {S S' : Nat → Prop} {w : World} (hd : ∀ x v, RepD S w x v → RepD S' w x v) : ∀ {l : List SV} {l' : List Value}, RepSVs ⟨m, S⟩ w l l' → RepSVs ⟨m, S'⟩ w l l'
  | [], _, hx => by simpa only [RepSVs] using hx
  | x :: r, l', hx => by
    simp only [RepSVs] at hx ⊢
    obtain ⟨v, s, e, h1, h2⟩ := hx
    exact ⟨v, s, e, RepSV.up hd h1, RepSVs.up hd h2⟩
end
def plainH (H : Hp) : Prop := ∀ i o, lk H i = some o → ∀ φ, o ≠ .ab φ
section
variable {P : Program} {G : Glob} {ty : List (Nat × TY)} {n0 : Nat} {b : Bs G n0} {N : Nat} {e : Env} {st : St} {a : Act} {w : World}
theorem foot_cells (h : HpOk e w st.H) (hp : plainH st.H) {i k : Nat} (hi : has st.H i) (hk : foot e i k) : cellBl w k := by
  obtain ⟨o, ho⟩ := Option.isSome_iff_exists.1 hi
  obtain ⟨v, hv, hf⟩ := hk
  have := h.ob i o ho
  cases o with
  | blk t cs =>
    obtain ⟨g, vs, h1, h2, _⟩ := this
    rw [h1] at hv; injection hv with hv; subst hv
    injection hf with hf; subst hf
    exact ⟨_, h2, rfl⟩
  | row t eb sz n xs =>
    obtain ⟨A, c, vs, h1, ⟨n', hn, h2⟩, _⟩ := this
    rw [h1] at hv; injection hv with hv; subst hv
    rcases h2 with ⟨h2, _⟩ | ⟨g, o, cap, cur, h2, h3, _⟩
    · injection h2 with h2 _ _; subst h2; cases hf
    · injection h2 with h2 _ _; subst h2
      injection hf with hf; subst hf
      exact ⟨_, h3, rfl⟩
  | ab φ => exact absurd rfl (hp i _ ho φ)
theorem Ok.cut (h : Ok b N e st a w) (hG : ∀ S w, G.p S w) (hp : plainH st.H) (Z : Nat → Prop) (hZ : ∀ k, b.S k → Z k) : Ok b N ⟨e.m, fun k => e.pub k ∧ (Z k ∨ cellBl w k)⟩ st a w := by
  have hd : ∀ x v, RepD e.pub w x v → RepD (fun k => e.pub k ∧ (Z k ∨ cellBl w k)) w x v := fun x v hx => hx.cut.to (Same.rfl' _ _) fun k hk _ => ⟨hk.1, .inr hk.2⟩
  refine ⟨h.sz, h.df, h.len, fun t sv ht => (h.tm t sv ht).up hd, ⟨fun i o ho => ?_, h.hp.sep, fun i k hi hk h1 => h.hp.npub i k hi hk h1.1, fun k hk => h.hp.pubLt k hk.1⟩, h.below, h.dr, h.mine, fun k hk => h.frm k hk.1, ⟨h.pre.m, h.pre.le, fun k hk => ⟨h.pre.up k hk, .inl (hZ k hk)⟩⟩, hG _ _⟩
  have := h.hp.ob i o ho
  cases o with
  | blk t cs =>
    obtain ⟨g, vs, h1, h2, h3⟩ := this
    exact ⟨g, vs, h1, h2, h3.up hd⟩
  | row t eb sz n xs =>
    obtain ⟨A, c, vs, h1, h2, h3, h4⟩ := this
    exact ⟨A, c, vs, h1, h2, h3.cut.to (Same.rfl' _ _) fun k hk _ => ⟨hk.1, .inr hk.2⟩, h4⟩
  | ab φ => exact absurd rfl (hp i _ ho φ)
theorem Ok.abide {X Y : World} (h : Ok b N e st a X) {row : Option Nat} (hg : X.grownBy Y row) (hd : G.d X Y) (hr : ∀ r, row = some r → b.mine r ∧ ¬ e.pub r ∧ ∀ i, has st.H i → ¬ foot e i r) : Ok b N e st a Y := by
  have hsame : Same e.pub X Y := fun k hk hl => hg.block k hl fun e' => (hr k e'.symm).2.1 hk
  have kw : Kept e X e Y := ⟨fun _ _ h => h, fun _ h => h, hsame, hg.size⟩
  have hb : ∀ i k, has st.H i → foot e i k → Y.heap[k]? = X.heap[k]? := fun i k hi hk => hg.block k (h.hp.lt hi hk) fun e' => (hr k e'.symm).2.2 i hi hk
  refine ⟨h.sz, h.df, h.len, fun t sv ht => (h.tm t sv ht).kept kw, ⟨fun i o ho => ?_, h.hp.sep, h.hp.npub, fun k hk => Nat.lt_of_lt_of_le (h.hp.pubLt k hk) hg.size⟩, ⟨hg.os.trans h.below.os, hg.tape.trans h.below.tape, hg.output.trans h.below.output, Nat.le_trans h.below.size hg.size, fun k hk hn => ?_⟩, G.dt h.dr hd, h.mine, h.frm, h.pre, G.mono h.gl hsame (fun _ h => h) hg.size⟩
  · have hi : has st.H i := by simp [has, ho]
    have := h.hp.ob i o ho
    cases o with
    | blk t cs =>
      obtain ⟨g, vs, h1, h2, h3⟩ := this
      exact ⟨g, vs, h1, by rw [hb i g hi ⟨_, h1, rfl⟩]; exact h2, h3.kept kw⟩
    | row t eb sz n xs =>
      obtain ⟨A, c, vs, h1, h2, h3, h4⟩ := this
      exact ⟨A, c, vs, h1, h2.keep fun g hg' => hb i g hi ⟨_, h1, by rw [footB_slice]; exact hg'⟩, h3.kept kw, h4⟩
    | ab φ =>
      obtain ⟨v', g, o, h1, h2, h3, h4, h5⟩ := this
      exact ⟨v', g, o, h1, h2, h3, by rw [hb i g hi ⟨_, h1, h2⟩]; exact h4, φ.up h5 hsame fun k hk _ => hk⟩
  · rw [hg.block k (Nat.lt_of_lt_of_le hk h.below.size) ?_]
    · exact h.below.block k hk hn
    · intro e'
      rcases (hr k e'.symm).1 with h1 | h1
      · exact hn h1
      · omega
def calmB : Op → Bool
  | .move _ => true
  | .assign _ => true
  | .load _ _ => true
  | .store _ _ _ => true
  | .build _ _ => true
  | .buildSlice _ _ _ => true
  | .box _ _ => true
  | .alloc _ => true
  | .extract _ _ => true
  | .unOp _ _ _ => true
  | .binOp _ _ _ _ _ => true
  | .fieldAddr _ _ _ => true
  | .indexAddr _ _ _ => true
  | _ => false
def calmR : Result Next → Prop
  | .ok (.value _) _ => True
  | .ok .skip _ => True
  | .ok _ _ => False
  | _ => True
theorem calm_bind {α : Type} {x : Sem α} {f : α → Sem Next} (h : ∀ v w, calmR ((f v).run P w)) : calmR ((x >>= f).run P w) := by
  rw [Sem.run_bind]
  cases hx : x.run P w with
  | ok v w' => simp only [Result.andThen_ok]; exact h v w'
  | _ => simp [Result.andThen, calmR]
theorem calm_run {f : Operand → Value} {o : Oper} (h : calmB o.op = true) : calmR ((execOp f o).run P w) := by
  obtain ⟨dst, op, type, pos, after, guard⟩ := o
  simp only at h
  cases op <;> first | (simp only [calmB] at h; cases h; done) | skip
  all_goals
    simp only [execOp]
    first
      | exact trivial
      | (refine calm_bind fun v w => ?_; exact trivial)
      | (refine calm_bind fun v w => ?_; refine calm_bind fun v w => ?_; exact trivial)
theorem calm_in {l0 m : Nat} {ops : Array Oper} {Q : Exit → Act → World → Prop} (hQ : ∀ a w, ¬ Q .outgrown a w) : ∀ (l : List Oper) (a : Act) (w : World), (∀ o ∈ l, calmB o.op = true) → wpList P ops Q l a w → wpListIn (Fence.wide.inRound l0) m P ops Q l a w
  | [], a, w, _, h => h
  | o :: r, a, w, hc, h => by
    unfold wpList at h
    unfold wpListIn
    split at h
    · rename_i hw
      rw [if_pos hw]
      rcases h with h | ⟨_, a', w', h⟩
      · refine ⟨fun _ _ => trivial, ?_⟩
        have hcl := hc o (by simp)
        rw [Oper.semAt_eq _ _ _ fun c e => by rw [e] at hcl; cases hcl]
        have hr := calm_run (P := P) (w := w) (f := a.eval) hcl
        unfold Oper.wp at h
        generalize (execOp a.eval o).run P w = res at h hr
        unfold Oper.upon at h
        unfold Oper.uponIn
        have ih : ∀ a w, wpList P ops Q r a w → wpListIn (Fence.wide.inRound l0) m P ops Q r a w := fun a w h => calm_in hQ r a w (fun o ho => hc o (by simp [ho])) h
        split at h
        · exact ih _ _ h
        · exact ih _ _ h
        · exact hr.elim
        · exact hr.elim
        · exact hr.elim
        · exact h
        · exact h.elim
      · exact absurd h (hQ _ _)
    · rename_i hw
      rw [if_neg hw]
      exact ⟨fun _ _ => trivial, calm_in hQ r _ _ (fun o ho => hc o (by simp [ho])) h⟩
def KpP (S : Nat → Prop) (A B : World) : Prop := A.heap.size ≤ B.heap.size ∧ ∀ k, S k → B.heap[k]? = A.heap[k]?
theorem marks_fin (hty : Tys P ty) (hGd : ∀ w w', G.d w w') {fn : Func} {m : Nat} {kp : List Nat} {Q : Out → Hp → Prop} {e0 : Env} {w0 : World} {H0 : Hp} (hn0 : e0.m.length = n0) {D : Nat} (hok : Ok (⟨w0, e0.pub, feet e0 H0, e0.m, hn0, [{ target := .collected D, args := #[] }]⟩ : Bs G n0) N e st a w)
    (hD : w.heap[D]? = some (.deferred (some []))) (hm : w0.heap.size ≤ D) (hp : ¬ e.pub D) (hf : ∀ i, has st.H i → ¬ foot e i D) (hk : endK ty n0 kp fn.results.toList Q st) :
    LeavesInM Fence.wide m P fn a.tmps (fun en w' => ∃ o H' e', Q o H' ∧ OutOk e' w' o en ∧ Left G kp.length e0 w0 H0 e' w' H') a.defers .returning w := by
  have h1 := hok.abide (grownBy_putObj' w D (.deferred none)) (hGd _ _) fun r hr => by cases hr; exact ⟨.inr hm, hp, hf⟩
  obtain ⟨v, hv, hR⟩ := tri_fin (fn := fn) (kp := kp) (Q := Q) hty hn0 rfl h1 hk
  have hdf := hok.df
  simp only at hdf
  rw [hdf]
  exact ⟨by simp, .inl ⟨_, _, rfl, run_takeDeferred hD, v, hv, hR⟩⟩
theorem marks_pan (hty : Tys P ty) (hGd : ∀ w w', G.d w w') {fn : Func} {m : Nat} {kp : List Nat} {Q : Out → Hp → Prop} {e0 : Env} {w0 : World} {H0 : Hp} (hn0 : e0.m.length = n0) {D : Nat} (hok : Ok (⟨w0, e0.pub, feet e0 H0, e0.m, hn0, [{ target := .collected D, args := #[] }]⟩ : Bs G n0) N e ⟨[], st.H, st.n⟩ a w)
    (hD : w.heap[D]? = some (.deferred (some []))) (hm : w0.heap.size ≤ D) (hp : ¬ e.pub D) (hf : ∀ i, has st.H i → ¬ foot e i D) {x : SV} {v : Value} (hx : RepSV e w x v) (hk : retK ty n0 kp fn.results.toList Q (.pan x) st) :
    LeavesInM Fence.wide m P fn a.tmps (fun en w' => ∃ o H' e', Q o H' ∧ OutOk e' w' o en ∧ Left G kp.length e0 w0 H0 e' w' H') a.defers (.panicking [{ v, recovered := false }]) w := by
  have hg := grownBy_putObj' w D (.deferred none)
  have h1 := hok.abide hg (hGd _ _) fun r hr => by cases hr; exact ⟨.inr hm, hp, hf⟩
  have hsame : Same e.pub w (w.putObj D (.deferred none)) := fun k hk hl => hg.block k hl fun e' => by injection e' with e'; subst e'; exact hp hk
  have hx' := hx.kept (⟨fun _ _ h => h, fun _ h => h, hsame, hg.size⟩ : Kept e w e _)
  have hdf := hok.df
  simp only at hdf
  rw [hdf]
  refine ⟨by simp, .inl ⟨_, _, rfl, run_takeDeferred hD, ?_⟩⟩
  simp only [retK] at hk
  split at hk <;> try (exact hk.elim)
  rename_i x' hxx
  obtain ⟨H', q1, q2⟩ := leftK_get _ _ hk
  obtain ⟨e2, f1, f2⟩ := left_of h1 hn0 rfl hn0 q2
  exact ⟨.pan x', H', e2, q1, ⟨v, rfl, f1 _ _ _ hxx hx'⟩, f2⟩
theorem marks_end (hty : Tys P ty) (hmx : P.follows .mixedOrders = true) (hGd : ∀ w w', G.d w w') {fn : Func} {m : Nat} {kp : List Nat} {plans : List (Nat × Pl)} {Q : Out → Hp → Prop} {e0 : Env} {w0 : World} {H0 : Hp} (hn0 : e0.m.length = n0) {D : Nat}
    (hok : Ok (⟨w0, e0.pub, feet e0 H0, e0.m, hn0, [{ target := .collected D, args := #[] }]⟩ : Bs G n0) N e st a w) (hpl : plainH st.H)
    (hD : w.heap[D]? = some (.deferred (some []))) (hm : w0.heap.size ≤ D) (hp : ¬ e.pub D) {C : Code} (hC : ∀ b : Bs G st.n, vcCode P ty b N plans C st (retK ty n0 kp fn.results.toList Q)) :
    C.wp P (bodyPostM Fence.wide m P fn (fun en w' => ∃ o H' e', Q o H' ∧ OutOk e' w' o en ∧ Left G kp.length e0 w0 H0 e' w' H')) a w := by
  have hDlt := (Array.getElem?_eq_some_iff.1 hD).1
  have hnf : ¬ feet e st.H D := by
    rintro ⟨i, hi, hf⟩
    obtain ⟨o, h1, h2⟩ := foot_cells hok.hp hpl hi hf
    rw [hD] at h1; injection h1 with h1; subst h1; cases h2
  refine wp_mono (vcCode_sound hty hmx C e st _ a w (hok.start' hok.df) (hC _)) fun ex a2 w2 hq => ?_
  have go : ∀ (e2 : Env) (st2 : St), Ok (baseOf hok [{ target := .collected D, args := #[] }]) N e2 st2 a2 w2 → w2.heap[D]? = some (.deferred (some [])) ∧ ¬ e2.pub D ∧ ∀ i, has st2.H i → ¬ foot e2 i D := by
    intro e2 st2 h2
    refine ⟨(h2.below.block D hDlt hnf).trans hD, fun h => ?_, fun i hi hf => ?_⟩
    · rcases h2.frm D h with h | h | h
      · exact hp h
      · exact hnf h
      · exact absurd hDlt (Nat.not_lt.2 h)
    · rcases h2.mine i D hi hf with h | h
      · exact hnf h
      · exact absurd hDlt (Nat.not_lt.2 h)
  cases ex with
  | normal =>
    obtain ⟨e2, st2, h2, hk⟩ := hq
    obtain ⟨g1, g2, g3⟩ := go e2 st2 h2
    exact marks_fin hty hGd hn0 (hok.rebase h2) g1 hm g2 g3 hk
  | ret =>
    obtain ⟨e2, st2, h2, hk⟩ := hq
    obtain ⟨g1, g2, g3⟩ := go e2 st2 h2
    exact marks_fin hty hGd hn0 (hok.rebase h2) g1 hm g2 g3 hk
  | exit id => obtain ⟨_, _, _, h⟩ := hq; exact h.elim
  | goto l => obtain ⟨_, _, _, h⟩ := hq; exact h.elim
  | panic c =>
    obtain ⟨e2, st2, x, v, rfl, hx, h2, hk⟩ := hq
    obtain ⟨g1, g2, g3⟩ := go e2 _ h2
    exact marks_pan hty hGd hn0 (hok.rebase h2) g1 hm g2 g3 hx hk
  | outgrown => exact hq.elim
theorem vc_piece (hty : Tys P ty) (hmx : P.follows .mixedOrders = true) {c : Code} {plans : List (Nat × Pl)} {Q : Exit → Act → World → Prop} (st' : St) (ok : Ok b N e st a w) (h : vcCode P ty b N plans c st (fun x s => match x with | .normal => Weak b N s st' | _ => False))
    (hq : ∀ e' a' w', Ok b N e' st' a' w' → Q .normal a' w') : c.wp P Q a w := by
  refine wp_mono (vcCode_sound hty hmx c e st _ a w ok h) fun ex a1 w1 h1 => ?_
  cases ex with
  | panic c => obtain ⟨_, _, _, _, _, _, _, h⟩ := h1; exact h.elim
  | outgrown => exact h1.elim
  | ret => obtain ⟨_, _, _, h⟩ := h1; exact h.elim
  | exit id => obtain ⟨_, _, _, h⟩ := h1; exact h.elim
  | goto l => obtain ⟨_, _, _, h⟩ := h1; exact h.elim
  | normal =>
    obtain ⟨e0, st0, ok1, hw⟩ := h1
    obtain ⟨e1, _, ok1⟩ := hw e0 a1 w1 ok1
    exact hq e1 a1 w1 ok1
end
end Go.Vx


/- Walks in pieces: a piece of code leads from a state to what is wanted. -/
set_option linter.unusedVariables false
set_option linter.unusedSimpArgs false
namespace Go.Vx
open Go.RowKit Go.Vc
def Wk (P : Program) {G : Glob} {n0 : Nat} (b : Bs G n0) (N : Nat) (c : Code) (st : St) (K : SExit → St → Prop) : Prop :=
  ∀ (e : Env) (a : Act) (w : World), Ok b N e st a w → c.wp P (Kden b N K) a w
def toK {G : Glob} {n0 : Nat} (b : Bs G n0) (N : Nat) (st' : St) : SExit → St → Prop := fun x s => match x with
  | .normal => Weak b N s st'
  | _ => False
section
variable {P : Program} {ty : List (Nat × TY)} {G : Glob} {n0 : Nat} {b : Bs G n0} {N : Nat} {plans : List (Nat × Pl)}
theorem wk_vc (hty : Tys P ty) (hm : P.follows .mixedOrders = true) (plans : List (Nat × Pl)) {c : Code} {st : St} {K : SExit → St → Prop} (h : vcCode P ty b N plans c st K) : Wk P b N c st K :=
  fun e a w ok => vcCode_sound hty hm c e st K a w ok h
theorem wk_to {c : Code} {st : St} (st' : St) {Q : Exit → Act → World → Prop} {e : Env} {a : Act} {w : World} (ok : Ok b N e st a w) (h : Wk P b N c st (toK b N st'))
    (hq : ∀ e' a' w', Ok b N e' st' a' w' → Q .normal a' w') : c.wp P Q a w := by
  refine wp_mono (h e a w ok) fun ex a1 w1 h1 => ?_
  cases ex with
  | panic c => obtain ⟨_, _, _, _, _, _, _, h⟩ := h1; exact h.elim
  | outgrown => exact h1.elim
  | ret => obtain ⟨_, _, _, h⟩ := h1; exact h.elim
  | exit id => obtain ⟨_, _, _, h⟩ := h1; exact h.elim
  | goto l => obtain ⟨_, _, _, h⟩ := h1; exact h.elim
  | normal =>
    obtain ⟨e0, st0, ok1, hw⟩ := h1
    obtain ⟨e1, _, ok1⟩ := hw e0 a1 w1 ok1
    exact hq e1 a1 w1 ok1
theorem wk_seq {x y : Code} {st : St} {K : SExit → St → Prop} (st' : St) (h1 : Wk P b N x st (toK b N st')) (h2 : Wk P b N y st' K) : Wk P b N (.seq x y) st K :=
  fun e a w ok => wp_seq (wk_to st' ok h1 fun e' a' w' ok' => h2 e' a' w' ok')
theorem wk_true {x y : Code} {st : St} {K : SExit → St → Prop} {i : Nat} (hi : lk st.T i = some (.d (.bool true))) (h : Wk P b N x st K) : Wk P b N (.cond (.tmp i) x y) st K := by
  intro e a w ok
  have t := ok.tm i _ hi
  simp only [RepSV, RepD] at t
  exact wp_cond_true (by simpa [Act.eval] using t) (h e a w ok)
theorem tri_of_wk (hty : Tys P ty) (hm : P.follows .mixedOrders = true) {f : FuncId} {fn : Func} {c : Code} {n : Nat} {args : List SV} {H : Hp} {Q : Out → Hp → Prop}
    {G : Glob} (kp : List Nat) (hf : P.funcs[f]? = some fn) (hb : fn.body = some c) (hn : fn.ntmps = N) (ha : args.length ≤ N)
    (h : ∀ b : Bs G n, Wk P b N c ⟨numbS' 0 args, H, n⟩ (retK ty n kp fn.results.toList Q)) : Tri P G f n kp.length args H Q := by
  intro e w vs hlen hargs hH hG
  have hal := hargs.len
  let b : Bs G n := ⟨w, e.pub, feet e H, e.m, hlen, []⟩
  have ok0 : Ok b N e ⟨numbS' 0 args, H, n⟩ { tmps := vs.toArray ++ Array.replicate (fn.ntmps - vs.toArray.size) undef, defers := [] } w := by
    refine ⟨by simp; omega, rfl, hlen, ?_, hH, Only.refl _ _, G.dm (Nat.le_refl _), fun i k hi hk => .inl ⟨i, hi, hk⟩, fun k hk => .inl hk, ⟨fun i v h _ => h, Nat.le_refl _, fun k hk => hk⟩, hG⟩
    intro t sv ht
    obtain ⟨_, hv⟩ := numbS_getS args 0 t sv ht
    simp only [Nat.sub_zero] at hv
    obtain ⟨v, hv1, hv2⟩ := hargs.get hv
    have hlt : t < vs.length := (List.getElem?_eq_some_iff.1 hv1).1
    simp only [Array.getD_eq_getD_getElem?]
    rw [Array.getElem?_append_left (by simpa using hlt), List.getElem?_toArray, hv1]
    exact hv2
  refine calls_of_wp hf hb (wp_mono (h b e _ _ ok0) ?_)
  have fin : ∀ (e' : Env) (st : St) (a : Act) (w' : World), Ok b N e' st a w' → endK ty n kp fn.results.toList Q st → a.defers = [] ∧ ∃ v, (results fn a.tmps).run P w' = .ok v w' ∧ ∃ o H' e'', Q o H' ∧ OutOk e'' w' o (.returned v) ∧ Left G kp.length e w H e'' w' H' := by
    intro e' st a w' hok hk
    refine ⟨hok.df, ?_⟩
    unfold endK at hk
    split at hk <;> try (exact hk.elim)
    rename_i l hl
    split at hk <;> try (exact hk.elim)
    rename_i x hx
    obtain ⟨vs', r1, r2⟩ := resL_sound hty hok _ _ hl
    obtain ⟨H', q1, q2⟩ := leftK_get _ _ hk
    have hone : RepSV e' w' (one l) (match vs' with | [v] => v | l => .tuple l.toArray) := by
      have := r2.len
      match l, vs', r2 with
      | [], [], _ => simp only [one, RepSV]; exact ⟨_, rfl, by simp [RepSVs]⟩
      | [x], [v], r2 =>
        simp only [RepSVs] at r2
        obtain ⟨v', s, e1, h1, h2⟩ := r2
        injection e1 with e1 e2; subst e1
        exact h1
      | x :: y :: r, v :: u :: s, r2 => simp only [one, RepSV]; exact ⟨_, rfl, r2⟩
      | [], _ :: _, r2 => simp [RepSVs] at r2
      | [_], [], r2 => simp at this
      | [_], _ :: _ :: _, r2 => simp at this
      | _ :: _ :: _, [], r2 => simp at this
      | _ :: _ :: _, [_], r2 => simp at this
    obtain ⟨e2, f1, f2⟩ := left_of hok hlen rfl hlen q2
    refine ⟨_, ?_, .ret x, H', e2, q1, ⟨_, rfl, f1 _ _ _ hx hone⟩, f2⟩
    unfold results
    rw [Array.mapM_eq_mapM_toList, map_eq_pure_bind]
    simp only [Sem.run_bind]
    have this' : ∀ g : ResultVar → Sem Value, g = resR a.tmps → (fn.results.toList.mapM g).run P w' = .ok vs' w' := fun g hg => by rw [hg]; exact r1
    rw [this' _ (by funext x; cases x <;> rfl)]
    simp only [Result.andThen_ok, Sem.run_pure]
    match vs' with
    | [] => simp
    | [x] => simp
    | x :: y :: r => simp
  intro ex a w' hq
  cases ex with
  | normal => obtain ⟨e', st, h1, h2⟩ := hq; exact fin e' st a w' h1 h2
  | ret => obtain ⟨e', st, h1, h2⟩ := hq; exact fin e' st a w' h1 h2
  | exit id => obtain ⟨e', st, h1, h2⟩ := hq; exact h2.elim
  | goto l => obtain ⟨e', st, h1, h2⟩ := hq; exact h2.elim
  | panic c =>
    obtain ⟨e', st, x, v, h1, h2, h3, h4⟩ := hq
    subst h1
    simp only [retK] at h4
    split at h4 <;> try (exact h4.elim)
    rename_i x' hx'
    obtain ⟨H', q1, q2⟩ := leftK_get _ _ h4
    obtain ⟨e2, f1, f2⟩ := left_of h3 hlen rfl hlen q2
    exact ⟨h3.df, .pan x', H', e2, q1, ⟨v, rfl, f1 _ _ _ hx' h2⟩, f2⟩
  | outgrown => exact hq.elim
end
end Go.Vx


/- Ranges over functions, with what the rounds so far have found. -/
namespace Go.Vx
open Go.RowKit Go.Vc
set_option linter.unusedVariables false
set_option linter.unusedSimpArgs false
section
variable {P : Program} {ty : List (Nat × TY)} {G : Glob} {n0 : Nat} {b : Bs G n0} {N : Nat} {e : Env} {st : St} {a : Act} {w : World}
theorem range_okC {α : Type} {g : Operand} {ps : Array Tmp} {assign body : Code} {Q : Exit → Act → World → Prop}
    (hGp : ∀ S w, G.p S w) (hGd : ∀ w w', G.d w w')
    {T : Tl} {n : Nat} (H0 : Hp) (HX : List α → Hp) (RX R : List α → Prop) (hR0 : R []) (hpl : plainH H0) (hplX : ∀ pre, plainH (HX pre))
    (hok : Ok b N e ⟨T, H0, n⟩ a w)
    {gf : Nat} {lb : Array Value} (hg : a.eval g = .func (.func gf) #[] lb) (eg : Goes P gf)
    {encs : α → Array Value} {S Sp : List α → Prop} {M : Nat} (hseq : SeqStopsK Fence.wide 9 P gf lb encs (KpP e.pub) S Sp M w) (hps : ∀ x, (encs x).size = ps.size)
    (a1 : α → Act) (ha1 : ∀ x, a1 x = { tmps := (ps.zip (encs x)).foldl (fun t (p, v) => t.setIfInBounds p v) a.tmps, defers := [] }) (hsz : ∀ x, (a1 x).tmps.size = N)
    (TX : α → Tl) (hTX : ∀ (x : α) (m : List Value) (S' : Nat → Prop) (W : World), (∀ k, e.pub k → S' k) → Same e.pub w W → w.heap.size ≤ W.heap.size → ∀ t sv, lk (TX x) t = some sv → RepSV ⟨m, S'⟩ W sv ((a1 x).tmps.getD t undef))
    (hT : ∀ x t sv, lk T t = some sv → lk (TX x) t = none → (a1 x).tmps.getD t undef = a.tmps.getD t undef)
    (hTr : scrubT (fun _ => true) T = T)
    (U : α → Tl) (HA : α → Hp) (nA : Nat) (hplA : ∀ x, plainH (HA x))
    (hassign : ∀ (l : Nat) (b' : Bs G n) (x : α) (e' : Env) (W : World), Ok b' N e' ⟨TX x ++ T, H0, n⟩ (a1 x) W →
      assign.wpIn (Fence.wide.inRound l) 8 P (Kden b' N fun ex st => match ex with
        | .normal => Weak b' N st ⟨U x, HA x, nA⟩ ∧ Weak b' N st ⟨[], H0, n⟩
        | _ => False) (a1 x) W)
    (hbody : ∀ (l : Nat) (b' : Bs G nA) (pre : List α) (x : α) (e' : Env) (a' : Act) (W : World), pre.length < M → R pre → Ok b' N e' ⟨U x, HA x, nA⟩ a' W →
      body.wpIn (Fence.wide.inRound l) 8 P (Kden b' N fun ex st => match ex with
        | .normal => R (pre ++ [x]) ∧ Weak b' N st ⟨[], H0, nA⟩
        | .ret => RX (pre ++ [x]) ∧ Weak b' N st ⟨[], HX (pre ++ [x]), nA⟩
        | _ => False) a' W)
    (hsh0 : ∀ b' : Bs G n, Weak b' N ⟨[], H0, nA⟩ ⟨[], H0, n⟩) (hshX : ∀ (b' : Bs G n) (pre : List α), Weak b' N ⟨[], HX pre, nA⟩ ⟨[], HX pre, n⟩)
    (hdone : ∀ (D : Nat) (xs : List α) (e' : Env) (W : World), S xs → R xs → Ok (baseOf hok ({ target := .collected D, args := #[] } :: a.defers)) N e' ⟨T, H0, n⟩ { a with defers := { target := .collected D, args := #[] } :: a.defers } W →
      w.heap.size ≤ D → W.heap[D]? = some (.deferred (some [])) → ¬ e'.pub D → Q .normal { a with defers := { target := .collected D, args := #[] } :: a.defers } W)
    (hstop : ∀ (D : Nat) (xs : List α) (e' : Env) (W : World), Sp xs → RX xs → Ok (baseOf hok ({ target := .collected D, args := #[] } :: a.defers)) N e' ⟨T, HX xs, n⟩ { a with defers := { target := .collected D, args := #[] } :: a.defers } W →
      w.heap.size ≤ D → W.heap[D]? = some (.deferred (some [])) → ¬ e'.pub D → Q .ret { a with defers := { target := .collected D, args := #[] } :: a.defers } W) :
    (Code.rangeFunc g ps assign body).wp P Q a w := by
  have hlt : ∀ k, e.pub k → k < w.heap.size := hok.hp.pubLt
  have hdf : ∀ x, (a1 x).defers = [] := fun x => by rw [ha1]
  have ok0 : Ok (baseOf hok a.defers) N e ⟨T, H0, n⟩ a w := hok.start' rfl
  have same0 : ∀ {ds : List Deferred} {e' : Env} {st' : St} {a' : Act} {W : World}, Ok (baseOf hok ds) N e' st' a' W → Same e.pub w W := fun h k hk hl => h.below.block k hl fun ⟨i, hi, hf⟩ => hok.hp.npub i k hi hf hk
  have tmT : ∀ {ds : List Deferred} {e' : Env} {st' : St} {a' : Act} {W : World}, Ok (baseOf hok ds) N e' st' a' W → ∀ t sv, lk T t = some sv → RepSV e' W sv (a.tmps.getD t undef) := by
    intro ds e' st' a' W h t sv ht
    have h1 := (hok.tm t sv ht).scrub (r := fun _ => true) (e' := e') (w' := W) (fun i v hi hv => h.pre.m i v hi fun A n c e1 => Bool.noConfusion (hv A n c e1)) h.pre.up (same0 h)
    have h2 := lk_map (scrub fun _ => true) T t
    rw [show (T.map fun p => (p.1, scrub (fun _ => true) p.2)) = scrubT (fun _ => true) T from rfl, hTr, ht] at h2
    injection h2 with h2
    rwa [← h2] at h1
  have abide : ∀ (ds : List Deferred) (st' : St), plainH st'.H → ∀ {e' : Env} {a' : Act} {X Y : World} {row : Option Nat}, Ok (baseOf hok ds) N e' st' a' X → (∀ k, e'.pub k → k < w.heap.size ∨ cellBl X k) → X.grownBy Y row → (∀ r, row = some r → w.heap.size ≤ r ∧ ∃ o : Obj, X.heap[r]? = some o ∧ o.isCells = false) →
      Ok (baseOf hok ds) N e' st' a' Y ∧ ∀ k, e'.pub k → k < w.heap.size ∨ cellBl Y k := by
    intro ds st' hH e' a' X Y row h hpc hgr hr
    refine ⟨h.abide hgr (hGd _ _) fun r hr' => ?_, fun k hk => ?_⟩
    · obtain ⟨h1, o, h2, h3⟩ := hr r hr'
      have hnc : ¬ cellBl X r := by rintro ⟨o', q1, q2⟩; rw [h2] at q1; injection q1 with q1; subst q1; rw [h3] at q2; cases q2
      refine ⟨.inr h1, fun hp => ?_, fun i hi hf => hnc (foot_cells h.hp hH hi hf)⟩
      rcases hpc r hp with h4 | h4
      · omega
      · exact hnc h4
    · rcases hpc k hk with h1 | ⟨o, h1, h2⟩
      · exact .inl h1
      · exact .inr ⟨o, (grownBy_keeps_cells hgr (fun r hr' => (hr r hr').2) h1 h2).trans h1, h2⟩
  -- a phase that begins at one state of a round
  have phase : ∀ {st1 : St} {e1 : Env} {a1' : Act} {W : World} (okx : Ok (baseOf hok []) N e1 st1 a1' W) (hp1 : plainH st1.H), ∀ (st3 st4 : St) (a2 : Act) (W' : World) (e2 : Env) (st2 : St), plainH st4.H → (∀ b' : Bs G n, Weak b' N st3 st4) → Ok (baseOf okx []) N e2 st2 a2 W' → Weak (baseOf okx []) N st2 st3 → KeepsFrom w.heap.size W W' ∧ KpP e.pub W W' ∧ ∃ e', Ok (baseOf hok []) N e' st4 a2 W' ∧ ∀ k, e'.pub k → k < w.heap.size ∨ cellBl W' k := by
    intro st1 e1 a1' W okx hp1 st3 st4 a2 W' e2 st2 hp3 hsh h2 hw
    obtain ⟨e3, _, h3⟩ := hw e2 a2 W' h2
    obtain ⟨e4, _, h4⟩ := hsh _ e3 a2 W' (okx.rebase h3)
    have h5 := h4.cut (fun S w => hGp S w) hp3 (fun k => k < w.heap.size) (fun k hk => hlt k hk)
    refine ⟨⟨h3.below.size, fun k o hB hk ho => ?_⟩, ⟨h3.below.size, fun k hk => ?_⟩, ⟨e4.m, fun k => e4.pub k ∧ (k < w.heap.size ∨ cellBl W' k)⟩, h5, fun k hk => hk.2⟩
    · refine (h3.below.block k (Array.getElem?_eq_some_iff.1 hk).1 ?_).trans hk
      rintro ⟨i, hi, hf⟩
      obtain ⟨o', q1, q2⟩ := foot_cells okx.hp hp1 hi hf
      have q1 : W.heap[k]? = some o' := q1
      rw [hk] at q1; injection q1 with q1; subst q1; rw [ho] at q2; cases q2
    · have hk' := okx.pre.up k hk
      exact h3.below.block k (okx.hp.pubLt k hk') fun ⟨i, hi, hf⟩ => okx.hp.npub i k hi hf hk'
  -- the state between the rounds, of a state without temporaries
  have between : ∀ {H' : Hp} {e' : Env} {a2 : Act} {W' : World}, Ok (baseOf hok []) N e' ⟨[], H', n⟩ a2 W' → Ok (baseOf hok a.defers) N e' ⟨T, H', n⟩ a W' := by
    intro H' e' a2 W' h5
    exact ⟨hok.sz, rfl, h5.len, tmT h5, h5.hp, h5.below, h5.dr, h5.mine, h5.frm, ⟨h5.pre.m, h5.pre.le, h5.pre.up⟩, h5.gl⟩
  refine (wpIn_wide (n := 10)).1 ?_
  refine wpIn_rangeFunc_ownH rfl (by omega) hg trivial eg hseq
    (fun {A B C} h h' => ⟨Nat.le_trans h.1 h'.1, fun k hk => (h'.2 k hk).trans (h.2 k hk)⟩)
    (fun W l o o' hl ho _ _ => ⟨by simp [World.putObj], fun k hk => World.putObj_heap_other (by have := hlt k hk; omega)⟩) (Below.refl _ _) hps
    (fun pre W => R pre ∧ ∃ e', Ok (baseOf hok a.defers) N e' ⟨T, H0, n⟩ a W ∧ ∀ k, e'.pub k → k < w.heap.size ∨ cellBl W k)
    (fun c pre W => c = .ret ∧ RX pre ∧ ∃ e', Ok (baseOf hok a.defers) N e' ⟨T, HX pre, n⟩ a W ∧ ∀ k, e'.pub k → k < w.heap.size ∨ cellBl W k)
    (fun pre X Y row ⟨hR, e', h1, h2⟩ hgr hr => ⟨hR, e', abide _ _ hpl h1 h2 hgr hr⟩)
    (fun c pre X Y row ⟨hc, hx, e', h1, h2⟩ hgr hr => ⟨hc, hx, e', abide _ _ (hplX pre) h1 h2 hgr hr⟩)
    ⟨hR0, e, ok0, fun k hk => .inl (hlt k hk)⟩
    (fun x a' W => ∃ e', Ok (baseOf hok []) N e' ⟨U x, HA x, nA⟩ a' W ∧ ∀ k, e'.pub k → k < w.heap.size ∨ cellBl W k)
    (fun x a' _ X Y row ⟨e', h1, h2⟩ hgr hr => ⟨e', abide _ _ (hplA x) h1 h2 hgr hr⟩)
    ?_ ?_ ?_ ?_
  · rintro l pre x W K ⟨hR, e', hOk, hpc⟩ hK
    rw [← ha1]
    have okx : Ok (baseOf hok []) N e' ⟨TX x ++ T, H0, n⟩ (a1 x) W := by
      refine ⟨hsz x, hdf x, hOk.len, fun t sv ht => ?_, hOk.hp, hOk.below, hOk.dr, hOk.mine, hOk.frm, ⟨hOk.pre.m, hOk.pre.le, hOk.pre.up⟩, hOk.gl⟩
      simp only [lk_app] at ht
      split at ht
      · rename_i y hy
        injection ht with ht; subst ht
        exact hTX x e'.m e'.pub W hOk.pre.up (same0 hOk) hOk.below.size t y hy
      · rename_i hy
        rw [hT x t sv ht hy]
        exact hOk.tm t sv ht
    refine wpIn_mono (hassign l (baseOf okx []) x e' W (okx.start' (hdf x))) ?_
    intro ex a2 W' hq
    cases ex with
    | normal =>
      obtain ⟨e2, st2, h1, hw1, hw2⟩ := hq
      obtain ⟨q1, q2, q3⟩ := phase okx hpl ⟨U x, HA x, nA⟩ ⟨U x, HA x, nA⟩ a2 W' e2 st2 (hplA x) (fun _ => Weak.refl _ _ _) h1 hw1
      obtain ⟨_, _, e4, q4, q5⟩ := phase okx hpl ⟨[], H0, n⟩ ⟨[], H0, n⟩ a2 W' e2 st2 hpl (fun _ => Weak.refl _ _ _) h1 hw2
      exact hK a2 W' q1 q2 ⟨hR, e4, between q4, q5⟩ q3
    | ret => obtain ⟨_, _, _, h⟩ := hq; exact h.elim
    | exit id => obtain ⟨_, _, _, h⟩ := hq; exact h.elim
    | goto id => obtain ⟨_, _, _, h⟩ := hq; exact h.elim
    | panic c => obtain ⟨_, _, _, _, _, _, _, h⟩ := hq; exact h.elim
    | outgrown => exact hq.elim
  · rintro l pre x a' W hl ⟨r, hr⟩ ⟨hR, _⟩ ⟨e', okx, hpc⟩ hM
    refine wpIn_mono (hbody l (baseOf okx []) pre x e' a' W hM hR (okx.start' okx.df)) ?_
    intro ex a2 W' hq
    cases ex with
    | normal =>
      obtain ⟨e2, st2, h1, h2, h3⟩ := hq
      obtain ⟨q1, q2, e4, q4, q5⟩ := phase okx (hplA x) ⟨[], H0, nA⟩ ⟨[], H0, n⟩ a2 W' e2 st2 hpl hsh0 h1 h3
      exact ⟨q1, q2, h2, e4, between q4, q5⟩
    | ret =>
      obtain ⟨e2, st2, h1, h2, h3⟩ := hq
      obtain ⟨q1, q2, e4, q4, q5⟩ := phase okx (hplA x) ⟨[], HX (pre ++ [x]), nA⟩ ⟨[], HX (pre ++ [x]), n⟩ a2 W' e2 st2 (hplX _) (fun b' => hshX b' _) h1 h3
      exact ⟨q1, rfl, h2, e4, between q4, q5⟩
    | exit id => obtain ⟨_, _, _, h⟩ := hq; exact h.elim
    | goto id => obtain ⟨_, _, _, h⟩ := hq; exact h.elim
    | panic c => obtain ⟨_, _, _, _, _, _, _, h⟩ := hq; exact h.elim
    | outgrown => exact hq.elim
  · rintro D xs W hD hS ⟨hR, e', h1, h2⟩ hK
    refine hdone D xs e' W hS hR (h1.defers' _) hD hK fun hp => ?_
    rcases h2 D hp with h3 | ⟨o, h3, h4⟩
    · omega
    · rw [hK] at h3; injection h3 with h3; subst h3; cases h4
  · rintro D c xs W hD hS ⟨rfl, hx, e', h1, h2⟩ hK
    refine wpIn_ret (hstop D xs e' W hS hx (h1.defers' _) hD hK fun hp => ?_)
    rcases h2 D hp with h3 | ⟨o, h3, h4⟩
    · omega
    · rw [hK] at h3; injection h3 with h3; subst h3; cases h4
end
end Go.Vx


/- Walks in pieces, within a round. -/
set_option linter.unusedVariables false
set_option linter.unusedSimpArgs false
namespace Go.Vx
open Go.RowKit Go.Vc
def WkI (P : Program) (l : Nat) {G : Glob} {n0 : Nat} (b : Bs G n0) (N : Nat) (c : Code) (st : St) (K : SExit → St → Prop) : Prop :=
  ∀ (e : Env) (a : Act) (w : World), Ok b N e st a w → c.wpIn (Fence.wide.inRound l) 8 P (Kden b N K) a w
section
variable {P : Program} {l : Nat} {ty : List (Nat × TY)} {G : Glob} {n0 : Nat} {b : Bs G n0} {N : Nat}
theorem wki_region (hty : Tys P ty) {id : Nat} {ops : List Oper} {st : St} {K : SExit → St → Prop} (hc : ops.all (fun o => calmB o.op) = true)
    (h : Vx.vcSeq P ty b N ops.toArray ops st K) : WkI P l b N (.region id ops.toArray false) st K := by
  intro e a w ok
  refine wpIn_region_list (calm_in (fun _ _ h => h) _ _ _ (List.all_eq_true.1 hc) (vcSeq_sound hty _ _ _ _ _ _ ok h))
theorem wki_seq {x y : Code} {st : St} {K : SExit → St → Prop} (st' : St) (h1 : WkI P l b N x st (toK b N st')) (h2 : WkI P l b N y st' K) : WkI P l b N (.seq x y) st K := by
  intro e a w ok
  refine wpIn_seq (wpIn_mono (h1 e a w ok) fun ex a1 w1 hq => ?_)
  cases ex with
  | panic c => obtain ⟨_, _, _, _, _, _, _, h⟩ := hq; exact h.elim
  | outgrown => exact hq.elim
  | ret => obtain ⟨_, _, _, h⟩ := hq; exact h.elim
  | exit id => obtain ⟨_, _, _, h⟩ := hq; exact h.elim
  | goto l => obtain ⟨_, _, _, h⟩ := hq; exact h.elim
  | normal =>
    obtain ⟨e0, st0, ok1, hw⟩ := hq
    obtain ⟨e1, _, ok1⟩ := hw e0 a1 w1 ok1
    exact h2 e1 a1 w1 ok1
theorem wki_true {x y : Code} {st : St} {K : SExit → St → Prop} {i : Nat} (hi : lk st.T i = some (.d (.bool true))) (h : WkI P l b N x st K) : WkI P l b N (.cond (.tmp i) x y) st K := by
  intro e a w ok
  have t := ok.tm i _ hi
  simp only [RepSV, RepD] at t
  exact wpIn_cond_true (by simpa [Act.eval] using t) (h e a w ok)
theorem wki_false {x y : Code} {st : St} {K : SExit → St → Prop} {i : Nat} (hi : lk st.T i = some (.d (.bool false))) (h : WkI P l b N y st K) : WkI P l b N (.cond (.tmp i) x y) st K := by
  intro e a w ok
  have t := ok.tm i _ hi
  simp only [RepSV, RepD] at t
  exact wpIn_cond_false (by simpa [Act.eval] using t) (h e a w ok)
theorem wki_skip {st : St} {K : SExit → St → Prop} (h : K .normal st) : WkI P l b N .skip st K := fun e a w ok => wpIn_skip ⟨e, st, ok, h⟩
theorem wki_ret {st : St} {K : SExit → St → Prop} (h : K .ret st) : WkI P l b N .ret st K := fun e a w ok => wpIn_ret ⟨e, st, ok, h⟩
theorem wki_block {i : Nat} {c : Code} {st : St} {K : SExit → St → Prop} (hK : ∀ j s, ¬ K (.exit j) s) (h : WkI P l b N c st K) : WkI P l b N (.block i c) st K := by
  intro e a w ok
  refine wpIn_block (wpIn_mono (h e a w ok) fun ex a1 w1 h1 => ?_)
  cases ex with
  | exit j => obtain ⟨_, _, _, h⟩ := h1; exact (hK _ _ h).elim
  | _ => exact h1
end
end Go.Vx


/- Walks in pieces: functions of data; what does not end normally. -/
set_option linter.unusedVariables false
namespace Go.Vx
open Go.RowKit Go.Vc
def noN (K : SExit → St → Prop) : SExit → St → Prop := fun x s => match x with
  | .normal => False
  | e => K e s
section
variable {P : Program} {ty : List (Nat × TY)} {G : Glob} {N : Nat}
theorem fnQ_of_wk (hty : Tys P ty) (hm : P.follows .mixedOrders = true) {f : FuncId} {fn : Func} {c : Code} {ds : List D} {Q : DOut → Prop}
    (hf : P.funcs[f]? = some fn) (hb : fn.body = some c) (hn : fn.ntmps = N) (ha : (ds.map SV.d).length ≤ N)
    (h : ∀ b : Bs G 0, Wk P b N c ⟨numbS' 0 (ds.map .d), [], 0⟩ (retK ty 0 [] fn.results.toList (closeQ Q))) : FnQ P G f ds Q :=
  fnQ_of_tri (tri_of_wk hty hm [] hf hb hn ha h)
theorem wk_seqR {n0 : Nat} {b : Bs G n0} {x y : Code} {st : St} {K : SExit → St → Prop} (h : Wk P b N x st (noN K)) : Wk P b N (.seq x y) st K := by
  intro e a w ok
  refine wp_seq (wp_mono (h e a w ok) fun ex a1 w1 h1 => ?_)
  cases ex with
  | normal => obtain ⟨_, _, _, h⟩ := h1; exact h.elim
  | _ => exact h1
end
end Go.Vx


