/- Code and calls: soundness. -/
import Derived.Test.YtohmeplcjgmedaaDoorVxk
namespace Go.Vx
open Go.RowKit Go.Vc

section
variable {P : Program} {ty : List (Nat × TY)} {G : Glob} {n0 : Nat} {b : Bs G n0} {N : Nat} {plans : List (Nat × Pl)}

theorem keepK_get (l : List (List Nat)) : ∀ (seen : List Nat) (T : Tl) (K : Tl → Prop), keepK l seen T K → ∃ T0, K T0
  | _, [], K, h => ⟨[], h⟩
  | seen, (t, x) :: r, K, h => by
    simp only [keepK] at h
    split at h
    · split at h
      · obtain ⟨T0, h1⟩ := keepK_get l _ r _ h; exact ⟨_, h1⟩
      · exact keepK_get l _ r K h
    · exact keepK_get l _ r K h
theorem vcCode_sound (hty : Tys P ty) (hm : P.follows .mixedOrders = true) : ∀ (c : Code) (e : Env) (st : St) (K : SExit → St → Prop) (a : Act) (w : World), Ok b N e st a w → vcCode P ty b N plans c st K → c.wp P (Kden b N K) a w
  | .skip, e, st, K, a, w, h, hk => wp_skip ⟨e, st, h, hk⟩
  | .label _, e, st, K, a, w, h, hk => wp_label ⟨e, st, h, hk⟩
  | .exit id, e, st, K, a, w, h, hk => wp_exit ⟨e, st, h, hk⟩
  | .goto l, e, st, K, a, w, h, hk => wp_goto ⟨e, st, h, hk⟩
  | .ret, e, st, K, a, w, h, hk => wp_ret ⟨e, st, h, hk⟩
  | .seq x y, e, st, K, a, w, h, hk => by
    simp only [vcCode] at hk
    split at hk
    · refine wp_seq (wp_mono (vcCode_sound hty hm x e st _ a w h hk) fun ex a w hq => ?_)
      cases ex with
      | normal =>
        obtain ⟨e', st', h1, h2⟩ := hq
        exact vcCode_sound hty hm y e' st' K a w h1 h2
      | outgrown => exact hq.elim
      | panic c => obtain ⟨e', st', x, v, h1, h2, h3, h4⟩ := hq; exact ⟨e', st', x, v, h1, h2, h3, h4⟩
      | _ => obtain ⟨e', st', h1, h2⟩ := hq; exact ⟨e', st', h1, h2⟩
    · obtain ⟨M, hk1, hk2⟩ := hk
      refine wp_seq (wp_mono (vcCode_sound hty hm x e st _ a w h hk1) fun ex a w hq => ?_)
      cases ex with
      | normal =>
        obtain ⟨e', st', h1, st'', h2, h3⟩ := hq
        obtain ⟨e'', _, h4⟩ := h3 e' a w h1
        exact vcCode_sound hty hm y e'' st'' K a w h4 (hk2 st'' h2)
      | outgrown => exact hq.elim
      | panic c => obtain ⟨e', st', x, v, h1, h2, h3, h4⟩ := hq; exact ⟨e', st', x, v, h1, h2, h3, h4⟩
      | _ => obtain ⟨e', st', h1, h2⟩ := hq; exact ⟨e', st', h1, h2⟩
  | .block id c, e, st, K, a, w, h, hk => by
    simp only [vcCode] at hk
    refine wp_block (wp_mono (vcCode_sound hty hm c e st _ a w h hk) fun ex a w hq => ?_)
    cases ex with
    | exit id' =>
      obtain ⟨e', st', h1, h2⟩ := hq
      simp only at h2
      simp only [Exit.inBlock]
      split at h2
      · rename_i e
        rw [if_pos (nbeq.1 e)]
        exact ⟨e', st', h1, h2⟩
      · rename_i e
        rw [if_neg (nbeq_ne.1 e)]
        exact ⟨e', st', h1, h2⟩
    | outgrown => exact hq.elim
    | panic c => obtain ⟨e', st', x, v, h1, h2, h3, h4⟩ := hq; exact ⟨e', st', x, v, h1, h2, h3, h4⟩
    | _ => obtain ⟨e', st', h1, h2⟩ := hq; exact ⟨e', st', h1, h2⟩
  | .cond c x y, e, st, K, a, w, h, hk => by
    simp only [vcCode] at hk
    split at hk <;> try (exact hk.elim)
    · rename_i q hq
      have := h.tmok c _ hq
      simp only [RepSV] at this
      split at hk
      · exact wp_cond_true this (vcCode_sound hty hm x e st K a w h hk)
      · exact wp_cond_false this (vcCode_sound hty hm y e st K a w h hk)
    · rename_i q hq
      have := h.tmok c _ hq
      simp only [RepSV, RepD] at this
      split at hk
      · rename_i t T H n
        have hkn := h.know (d := t) (c := q) hq
        cases q
        · exact wp_cond_false this (vcCode_sound hty hm y e _ K a w hkn (hk.2 rfl))
        · exact wp_cond_true this (vcCode_sound hty hm x e _ K a w hkn (hk.1 rfl))
      · cases q
        · exact wp_cond_false this (vcCode_sound hty hm y e _ K a w h (hk.2 rfl))
        · exact wp_cond_true this (vcCode_sound hty hm x e _ K a w h (hk.1 rfl))
  | .region id ops false, e, st, K, a, w, h, hk => by
    simp only [vcCode] at hk
    exact wp_region_list (vcSeq_sound hty ops.toList e st _ a w h hk)
  | .region id ops true, e, st, K, a, w, h, hk => by
    simp only [vcCode] at hk
    split at hk <;> try (exact hk.elim)
    rename_i plan hL
    obtain ⟨hb, hk⟩ := hk
    simp only [Bool.and_eq_true] at hb
    obtain ⟨⟨⟨b1, b2⟩, bf⟩, b3⟩ := hb
    have hd := h.drew
    split at hk
    · rw [pubTK_eq] at hk
      refine wp_region_any hm (AnyR.any (Z := Agr e [] { w with drawn := w.drawn + 1 }) (F := plan.fins) _ _ _ _ ?_)
      refine vcPlan_sound hty b1 (fun _ => rfl) (fun i o hi => by simp [lk] at hi) plan _ _ _ e st a _ (Nat.le_of_ble_eq_true b2) b3 (fun j hj i hi => ?_) (fun j hj => hj) (ClosedL.zero _ _) hd (.inr ⟨pubTK_get rfl hd.tm, (Kept.refl _ _).m', Agr.refl _ _ _, rfl⟩) hk
      exact List.all_eq_true.1 (List.all_eq_true.1 bf j hj) i hi
    obtain ⟨HL, hk, hHL, hst⟩ := blksK_eq _ _ _ hk
    refine wp_region_any hm (AnyR.any (Z := Agr e HL { w with drawn := w.drawn + 1 }) (F := plan.fins) _ _ _ _ ?_)
    refine vcPlan_sound hty b1 (fun h => by (cases h)) (fun i o hi => hd.hp.ob i o (hHL i o hi).1) plan _ _ st.T e st a _ (Nat.le_of_ble_eq_true b2) b3 (fun j hj i hi => ?_) (fun j hj => hj) (ClosedL.zero _ _) hd (.inr ⟨hd.tm, (Kept.refl _ _).m', Agr.refl _ _ _, hst⟩) hk
    exact List.all_eq_true.1 (List.all_eq_true.1 bf j hj) i hi
  | .loop c, e, st, K, a, w, h, hk => by
    simp only [vcCode] at hk
    obtain ⟨T0, hk⟩ := keepK_get _ _ _ _ hk
    obtain ⟨I, ⟨m0, st0, hI0, hw0⟩, hk⟩ := hk
    let J : Nat → Act → World → Prop := fun n a w => ∃ e st, I n st ∧ Ok b N e st a w
    have key : ∀ n a w, J n a w → (Code.loop c).wp P (Kden b N K) a w := by
      intro n a w hJ
      classical
      let μ : Act → World → Nat := fun a w => if hx : ∃ n, J n a w then Classical.choose (least hx) else 0
      refine wp_loop (fun a w => ∃ n, J n a w) μ ⟨n, hJ⟩ ?_
      intro a w hx
      have hμ : μ a w = Classical.choose (least hx) := by simp only [μ, dif_pos hx]
      obtain ⟨e, st, hI, hok⟩ := (Classical.choose_spec (least hx)).1
      refine wp_mono (vcCode_sound hty hm c e st _ a w hok (hk _ st hI)) fun ex a' w' hq => ?_
      cases ex with
      | normal =>
        obtain ⟨e', st', h1, m, st'', h2, h3, h4⟩ := hq
        obtain ⟨e'', _, h5⟩ := h4 e' a' w' h1
        have hJ' : J m a' w' := ⟨e'', st'', h3, h5⟩
        refine ⟨⟨m, hJ'⟩, ?_⟩
        have : μ a' w' ≤ m := by
          have hx' : ∃ n, J n a' w' := ⟨m, hJ'⟩
          simp only [μ, dif_pos hx']
          exact (Classical.choose_spec (least hx')).2 m hJ'
        omega
      | outgrown => exact hq.elim
      | panic c => obtain ⟨e', st', x, v, h1, h2, h3, h4⟩ := hq; exact ⟨e', st', x, v, h1, h2, h3, h4⟩
      | _ => obtain ⟨e', st', h1, h2⟩ := hq; exact ⟨e', st', h1, h2⟩
    obtain ⟨e', _, h1⟩ := hw0 e a w h
    exact key m0 a w ⟨e', st0, hI0, h1⟩
  | .rangeFunc _ _ _ _, _, _, _, _, _, _, hk => (hk : False).elim
  | .scope c, e, st, K, a, w, h, hk => by
    simp only [vcCode] at hk
    refine wp_scope_straight (wp_mono (vcCode_sound hty hm c e st _ a w h hk) fun ex a w hq => ?_)
    cases ex with
    | goto l =>
      obtain ⟨e', st', h1, h2⟩ := hq
      exact h2.elim
    | outgrown => exact hq.elim
    | panic c => obtain ⟨e', st', x, v, h1, h2, h3, h4⟩ := hq; exact ⟨e', st', x, v, h1, h2, h3, h4⟩
    | _ => obtain ⟨e', st', h1, h2⟩ := hq; exact ⟨e', st', h1, h2⟩
  | .refuse _, _, _, _, _, _, _, hk => (hk : False).elim
end

/-! ### Own objects that are written no more -/
def mapO (f : SV → Option SV) : List SV → Option (List SV)
  | [] => some []
  | x :: r => match f x, mapO f r with
    | some y, some l => some (y :: l)
    | _, _ => none
def ebn (eb : Nat) : Nat → Nat
  | 0 => 0
  | _ + 1 => eb
/-- The slice of a row, as data. -/
def slD (eb n : Nat) (xs : List D) : D := .sl (ebn eb n) n xs
/-- A value, with some own objects taken as data, the others by other numbers. -/
def frz (p : Nat → Bool) (f : Nat → Nat) (H : Hp) : Nat → SV → Option SV
  | 0, _ => none
  | k + 1, x => match x with
    | .d y => some (.d y)
    | .kb c => some (.kb c)
    | .own i off => match p i with
      | false => some (.own (f i) off)
      | true => match lk H i with
        | some (.blk _ cs) => match mapO (frz p f H k) cs with
          | some cs' => match dOf.dOfs cs' with
            | some l => some (.d (.ptr l off))
            | none => none
          | none => none
        | _ => none
    | .row i => match p i with
      | false => some (.row (f i))
      | true => match lk H i with
        | some (.row _ eb _ m xs) => some (.d (slD eb m xs))
        | _ => none
    | .rowp i off => match p i with
      | false => some (.rowp (f i) off)
      | true => match lk H i with
        | some (.row _ _ _ _ xs) => some (.d (.ptr xs off))
        | _ => none
    | .nm i => match p i with
      | false => some (.nm (f i))
      | true => none
    | .agg l => match mapO (frz p f H k) l with
      | some m => some (.agg m)
      | none => none
    | .tup l => match mapO (frz p f H k) l with
      | some m => some (.tup m)
      | none => none
    | .fn g a b => match mapO (frz p f H k) a, mapO (frz p f H k) b with
      | some x, some y => some (.fn g x y)
      | _, _ => none
    | .ifc t x => match frz p f H k x with
      | some y => some (.ifc t y)
      | none => none
    | .nl => some .nl
    | .any => none

section
variable {e : Env} {w : World} {H : Hp} {p : Nat → Bool}
/-- What may be read, when some own objects are written no more. -/
def pubN (e : Env) (H : Hp) (p : Nat → Bool) (k : Nat) : Prop := e.pub k ∨ ∃ i, p i = true ∧ has H i ∧ foot e i k
theorem blt_false {i n : Nat} (h : Nat.blt i n = false) : n ≤ i := Nat.le_of_not_lt fun h' => by
  rw [← Nat.blt_eq, h] at h'; cases h'
theorem take_get {l : List Value} {n i : Nat} {v : Value} (h : l[i]? = some v) (hi : i < n) : (l.take n)[i]? = some v := by
  rw [List.getElem?_take, if_pos hi]; exact h
theorem mapO_rep {f : SV → Option SV} {e' : Env} (hf : ∀ x y v, f x = some y → RepSV e w x v → RepSV e' w y v) : ∀ {l m : List SV} {vs : List Value}, mapO f l = some m → RepSVs e w l vs → RepSVs e' w m vs
  | [], m, vs, h, hx => by simp only [mapO, Option.some.injEq] at h; subst h; simpa only [RepSVs] using hx
  | x :: r, m, vs, h, hx => by
    simp only [mapO] at h
    split at h <;> try (cases h; done)
    rename_i y l hy hl
    injection h with h; subst h
    simp only [RepSVs] at hx ⊢
    obtain ⟨v, s, e1, h1, h2⟩ := hx
    exact ⟨v, s, e1, hf _ _ _ hy h1, mapO_rep hf hl h2⟩
theorem sl_of_row {S : Nat → Prop} {t : TypeId} {eb sz m c : Nat} {A : Option Addr} {xs : List D} {vs : List Value} (hr : RowOk w ⟨.slice A m c, t, sz, vs⟩) (hx : RepDs S w xs vs) (hS : ∀ g, rowB (.slice A m c) = some g → S g) (hb : m * eb ≤ LB) : RepD S w (slD eb m xs) (.slice A m c) := by
  simp only [slD, RepD]
  refine ⟨A, c, rfl, hr.cap, ?_, fun h0 => hr.some h0, RepC.ofCells hx (hr.cells rfl S hS)⟩
  cases m with
  | zero => simp [ebn, LB]
  | succ m => exact hb
theorem frz_rep {f : Nat → Nat} (hH : HpOk e w H) {m' : List Value} (hm : ∀ (i : Nat) v, e.m[i]? = some v → p i = false → m'[f i]? = some v) : ∀ (k : Nat) (x y : SV) (v : Value), frz p f H k x = some y → RepSV e w x v → RepSV ⟨m', pubN e H p⟩ w y v := by
  have hup : ∀ {x : D} {v : Value}, RepD e.pub w x v → RepD (pubN e H p) w x v := fun h => h.to (Same.rfl' _ _) fun k hk _ => .inl hk
  have hups : ∀ {x : List D} {v : List Value}, RepDs e.pub w x v → RepDs (pubN e H p) w x v := fun h => h.to (Same.rfl' _ _) fun k hk _ => .inl hk
  intro k
  induction k with
  | zero => intro x y v h; simp [frz] at h
  | succ k ih =>
    intro x y v h hx
    simp only [frz] at h
    split at h
    · injection h with h; subst h
      simp only [RepSV] at hx ⊢
      exact hup hx
    · injection h with h; subst h
      simpa only [RepSV] using hx
    · rename_i i off
      simp only [RepSV] at hx
      obtain ⟨g, h1, rfl⟩ := hx
      split at h
      · rename_i hi
        injection h with h; subst h
        simp only [RepSV]
        exact ⟨g, hm _ _ h1 hi, rfl⟩
      · rename_i hi
        split at h <;> try (cases h; done)
        rename_i t cs hb
        split at h <;> try (cases h; done)
        rename_i cs' hcs'
        split at h <;> try (cases h; done)
        rename_i l hl
        injection h with h; subst h
        obtain ⟨g', vs, h2, h3, h4⟩ := hH.ob _ _ hb
        rw [h1] at h2; injection h2 with h2; injection h2 with h2; injection h2 with h2; injection h2 with h2
        subst h2
        have hr := dOfs_rep hl (mapO_rep (fun x y v => ih x y v) hcs' h4)
        simp only [RepSV, RepD]
        refine ⟨⟨g, 0, none⟩, by rw [add_own, Nat.zero_add], RepC.of hr fun j u hu => ⟨_, rfl, .inr ⟨i, hi, by simp [has, hb], _, h1, rfl⟩, ?_⟩⟩
        rw [add_own, cell_own h3, ← Array.getElem?_toList]
        simpa using hu
    · rename_i i
      simp only [RepSV] at hx
      obtain ⟨A, m, c, rfl, h1⟩ := hx
      split at h
      · rename_i hi
        injection h with h; subst h
        simp only [RepSV]
        exact ⟨A, m, c, rfl, hm _ _ h1 hi⟩
      · rename_i hi
        split at h <;> try (cases h; done)
        rename_i t eb sz m' xs hb
        injection h with h; subst h
        obtain ⟨A', c', vs, h2, h3, h4, h5⟩ := hH.ob _ _ hb
        rw [h1] at h2; injection h2 with h2; injection h2 with e1 e2 e3
        subst e1; subst e2; subst e3
        simp only [RepSV]
        exact sl_of_row h3 (hups h4) (fun g hg => .inr ⟨i, hi, by simp [has, hb], _, h1, by rw [footB_slice]; exact hg⟩) h5
    · rename_i i off
      simp only [RepSV] at hx
      obtain ⟨ad, m, c, h1, rfl⟩ := hx
      split at h
      · rename_i hi
        injection h with h; subst h
        simp only [RepSV]
        exact ⟨ad, m, c, hm _ _ h1 hi, rfl⟩
      · rename_i hi
        split at h <;> try (cases h; done)
        rename_i t eb sz m' xs hb
        injection h with h; subst h
        obtain ⟨A', c', vs, h2, h3, h4, h5⟩ := hH.ob _ _ hb
        rw [h1] at h2; injection h2 with h2; injection h2 with e1 e2 e3
        subst e1; subst e2; subst e3
        simp only [RepSV, RepD]
        exact ⟨ad, rfl, RepC.ofCells (hups h4) (h3.cells rfl _ fun g hg => .inr ⟨i, hi, by simp [has, hb], _, h1, by rw [footB_slice]; exact hg⟩)⟩
    · rename_i i
      simp only [RepSV] at hx
      obtain ⟨g, h1, h2⟩ := hx
      split at h <;> try (cases h; done)
      rename_i hi
      injection h with h; subst h
      simp only [RepSV]
      exact ⟨g, h1, hm _ _ h2 hi⟩
    · rename_i l
      split at h <;> try (cases h; done)
      rename_i m hm
      injection h with h; subst h
      simp only [RepSV] at hx ⊢
      obtain ⟨l', e1, h1⟩ := hx
      exact ⟨l', e1, mapO_rep (fun x y v => ih x y v) hm h1⟩
    · rename_i l
      split at h <;> try (cases h; done)
      rename_i m hm
      injection h with h; subst h
      simp only [RepSV] at hx ⊢
      obtain ⟨l', e1, h1⟩ := hx
      exact ⟨l', e1, mapO_rep (fun x y v => ih x y v) hm h1⟩
    · rename_i g a b
      split at h <;> try (cases h; done)
      rename_i x y hxx hyy
      injection h with h; subst h
      simp only [RepSV] at hx ⊢
      obtain ⟨a', b', e1, h1, h2⟩ := hx
      exact ⟨a', b', e1, mapO_rep (fun x y v => ih x y v) hxx h1, mapO_rep (fun x y v => ih x y v) hyy h2⟩
    · rename_i t x'
      split at h <;> try (cases h; done)
      rename_i y' hy
      injection h with h; subst h
      simp only [RepSV] at hx ⊢
      obtain ⟨z, e1, h1⟩ := hx
      exact ⟨z, e1, ih _ _ _ hy h1⟩
    · injection h with h; subst h
      simpa only [RepSV] using hx
    · cases h
end
end Go.Vx
