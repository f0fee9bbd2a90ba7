/- Texts of mine, joined: Vxk Vxl Vxm Vxn. -/
import Derived.Test.YtcjkikadolnfgaaGreatPae
/- Regions that draw their order, code, calls: soundness. -/
namespace Go.Vc
open Go.RowKit
section
variable {P : Program} {ops : Array Oper} {Q : Exit → Act → World → Prop} {Z : World → Prop} {F : List Nat}
def ClosedL (ops : Array Oper) (l : Array Bool) : Prop := ∀ j o, ops[j]? = some o → l.getD j false = true → ∀ e ∈ o.after, Region.binds .any e = true → l.getD e.on false = true
theorem ClosedL.zero (ops : Array Oper) (n : Nat) : ClosedL ops (Array.replicate n false) := by
  intro j o _ h
  exfalso
  rcases Nat.lt_or_ge j n with h' | h'
  · simp [h'] at h
  · simp [Array.getElem?_eq_none (xs := Array.replicate n false) (i := j) (by simpa using h')] at h
theorem getD_set_mono {l : Array Bool} {i k : Nat} (h : l.getD k false = true) : (l.setIfInBounds i true).getD k false = true := by
  rcases Decidable.em (i = k) with rfl | hne
  · rcases Nat.lt_or_ge i l.size with h' | h'
    · simp [h']
    · simp [Array.getElem?_eq_none h'] at h
  · simpa [Array.getElem?_setIfInBounds_ne hne] using h
theorem ClosedL.set {ops : Array Oper} {l : Array Bool} {i : Nat} (h : ClosedL ops l) (hi : i ∈ Region.ready .any ops l) : ClosedL ops (l.setIfInBounds i true) := by
  intro j o ho hj e he hb
  refine getD_set_mono ?_
  rcases Decidable.em (i = j) with rfl | hne
  · obtain ⟨_, o', ho', hall⟩ := mem_ready.1 hi
    rw [ho] at ho'; injection ho' with ho'; subst ho'
    exact hall e he hb
  · refine h j o ho ?_ e he hb
    simpa [Array.getElem?_setIfInBounds_ne hne] using hj
theorem ClosedL.dep {ops : Array Oper} {l : Array Bool} (h : ClosedL ops l) {i : Nat} : ∀ (n j : Nat) (o : Oper), ops[j]? = some o → (∀ e ∈ o.after, Region.binds .any e = true → l.getD e.on false = true) → Vx.depT ops n j i = true → l.getD i false = true
  | 0, j, o, _, _, hd => by cases hd
  | n + 1, j, o, ho, hall, hd => by
    simp only [Vx.depT, ho, Array.any_eq_true', Bool.and_eq_true, Bool.or_eq_true, nbeq] at hd
    obtain ⟨e, he, e1, e2⟩ := hd
    have hl := hall e he e1
    rcases e2 with rfl | e2
    · exact hl
    · cases hoe : ops[e.on]? with
      | none =>
        cases n with
        | zero => cases e2
        | succ n => simp [Vx.depT, hoe] at e2
      | some o' => exact h.dep n e.on o' hoe (fun e' he' hb' => h e.on o' hoe hl e' he' hb') e2
theorem AnyR.firstQ {i : Nat} {oi : Oper} {v : Value} {Z0 : World → Prop} (hi : ops[i]? = some oi) (hs : Region.noSelect ops = true) (hQ : ∀ c a w, Q (.panic c) (a.put oi.dst v) w → Q (.panic c) a w) (hF : (∀ w, Z0 w) ∨ ((∀ w, Z w → Z0 w) ∧ ∀ j ∈ F, Vx.depT ops 7 j i = true)) :
    ∀ (n : Nat) (l : Array Bool) (a : Act) (w : World), ClosedL ops l → (∀ j oj, ops[j]? = some oj → j ≠ i → l.getD j true = false → (∀ e ∈ oj.after, Region.binds .any e = true → e.on ≠ i) → oi.apart ops oj = true) →
      i ∈ Region.ready .any ops l → YieldsIf P ops Z0 oi v a → ((∀ w, Z0 w) ∨ Z w) → AnyR P ops Q Z F n (l.setIfInBounds i true) (a.put oi.dst v) w → AnyR P ops Q Z F (n + 1) l a w := by
  have hsel := Region.noSelect_spec hs
  have own : ∀ {n : Nat} {l : Array Bool} {a : Act} {w : World}, YieldsIf P ops Z0 oi v a → ((∀ w, Z0 w) ∨ Z w) → AnyR P ops Q Z F n (l.setIfInBounds i true) (a.put oi.dst v) w →
      wpOp P ops Q i (fun a' w' => (i ∉ F → Z w → Z w') ∧ AnyR P ops Q Z F n (l.setIfInBounds i true) a' w') a w := by
    intro n l a w hy hZ H
    have hZ0 : Z0 w := by
      rcases hZ with h | h
      · exact h w
      · rcases hF with h' | h'
        · exact h' w
        · exact h'.1 w h
    exact hy.wpOp hi hZ0 ⟨fun _ h => h, H⟩
  intro n
  induction n with
  | zero =>
    intro l a w _ _ hr hy hZ H
    refine ⟨fun h => (by rw [h] at hr; cases hr), fun j hj => ?_⟩
    rcases Decidable.em (j = i) with rfl | hne
    · exact own hy hZ H
    · have h0 := ready_mono hj hne
      rw [H.1] at h0; cases h0
  | succ n ih =>
    intro l a w hcl hfree hr hy hZ H
    refine ⟨fun h => (by rw [h] at hr; cases hr), fun j hj => ?_⟩
    rcases Decidable.em (j = i) with rfl | hne
    · exact own hy hZ H
    · have hrun := H.2 j (ready_mono hj hne)
      obtain ⟨hun, oj, hoj, hall⟩ := mem_ready.1 hj
      have hi0 := (mem_ready.1 hr).1
      -- j does not wait for i
      have hnot : ∀ e ∈ oj.after, Region.binds .any e = true → e.on ≠ i := by
        intro e he hb heq
        have ht := hall e he hb
        rw [heq] at ht
        rcases Nat.lt_or_ge i l.size with h' | h'
        · simp [h'] at hi0 ht; rw [hi0] at ht; cases ht
        · simp [Array.getElem?_eq_none h'] at ht
      have hstep : ∀ w', (j ∉ F → Z w → Z w') → (∀ w, Z0 w) ∨ Z w' := by
        intro w' hw'
        rcases hF with h' | ⟨_, h'⟩
        · exact .inl h'
        · rcases hZ with h | h
          · exact .inl h
          · refine .inr (hw' (fun hjF => ?_) h)
            have hd := h' j hjF
            have ht := hcl.dep 7 j oj hoj hall hd
            rcases Nat.lt_or_ge i l.size with h' | h'
            · simp [h'] at hi0 ht; rw [hi0] at ht; cases ht
            · simp [Array.getElem?_eq_none h'] at ht
      have hput := wpOp_putIf hoj (hfree j oj hoj hne hun hnot) (fun cs b => hsel i oi cs b hi) (fun cs b => hsel j oj cs b hoj) hQ hy hrun
      refine wpOp_mono (fun a' w' h3 => ⟨h3.2.1, ih (l.setIfInBounds j true) a' w' (hcl.set hj) ?_ (ready_mono hr (Ne.symm hne)) h3.1 (hstep w' h3.2.1) ?_⟩) hput
      · intro k ok hk hki hun' hno
        refine hfree k ok hk hki ?_ hno
        rcases Decidable.em (j = k) with rfl | hjk
        · exact hun
        · rwa [getD_set_ne true hjk] at hun'
      · rw [Array.setIfInBounds_comm _ _ hne]
        exact h3.2.2
end
end Go.Vc
namespace Go.Vx
open Go.RowKit Go.Vc
section
variable {P : Program} {ty : List (Nat × TY)} {G : Glob} {n0 : Nat} {b : Bs G n0} {N : Nat} {plans : List (Nat × Pl)}
def T0Ok (e : Env) (w : World) (T0 : Tl) (a : Act) : Prop := ∀ t sv, lk T0 t = some sv → RepSV e w sv (a.tmps.getD t undef)
theorem T0Ok.tm {e : Env} {w : World} {T0 : Tl} {a : Act} (h : T0Ok e w T0 a) : TmOk e w T0 a.eval := by
  intro x sv hx
  cases x with
  | tmp t => exact h t sv hx
  | const v => simp only [ev, Option.some.injEq] at hx; subst hx; exact cD_rep _ _ _
  | global g => simp only [ev, Option.some.injEq] at hx; subst hx; simp only [RepSV, RepD]; rfl
  | func g => simp only [ev, Option.some.injEq] at hx; subst hx; simp only [RepSV, RepD]; exact ⟨#[], #[], rfl, rfl, rfl⟩
theorem putK_lt {dst : Option Tmp} {sv : SV} {st : St} {K : St → Prop} (h : putK N dst sv st K) : ∀ d, dst = some d → d < N := by
  intro d hd
  subst hd
  unfold putK at h
  simp only at h
  split at h
  · rename_i hd; rwa [Nat.blt_eq] at hd
  · exact h.elim
theorem T0Ok.upd {e : Env} {w : World} {T0 : Tl} {a : Act} (h : T0Ok e w T0 a) (ha : a.tmps.size = N) {dst : Option Tmp} (hd : ∀ d, dst = some d → d < N) {x : SV} {v : Value} (hx : RepSV e w x v) {K : Tl → Prop} (hk : Vx.upd dst x T0 K) : ∃ T0', T0Ok e w T0' (a.put dst v) ∧ K T0' := by
  unfold Vx.upd at hk
  split at hk
  · exact ⟨T0, h, hk⟩
  · rename_i d
    refine ⟨_, fun t sv ht => ?_, hk⟩
    rw [put_get a d t v (by rw [ha]; exact hd d rfl)]
    simp only [lk] at ht
    split at ht
    · rename_i e'
      rw [if_pos (nbeq.1 e')]
      injection ht with ht; subst ht; exact hx
    · rename_i e'
      rw [if_neg (nbeq_ne.1 e')]
      exact h t sv ht
theorem T0Ok.updAny {e : Env} {w : World} {T0 : Tl} {a : Act} (h : T0Ok e w T0 a) {dst : Option Tmp} {v : Value} {K : Tl → Prop} (hk : Vx.upd dst .any T0 K) : ∃ T0', T0Ok e w T0' (a.put dst v) ∧ K T0' := by
  unfold Vx.upd at hk
  split at hk
  · exact ⟨T0, h, hk⟩
  · rename_i d
    refine ⟨_, fun t sv ht => ?_, hk⟩
    simp only [lk] at ht
    split at ht
    · injection ht with ht; subst ht; simp only [RepSV]
    · rename_i e'
      have : (a.put (some d) v).tmps.getD t undef = a.tmps.getD t undef := by
        simp only [Act.put, Array.getD_eq_getD_getElem?, Array.getElem?_setIfInBounds]
        rw [if_neg (nbeq_ne.1 e')]
      rw [this]
      exact h t sv ht
theorem T0Ok.know {e : Env} {w : World} {T0 : Tl} {a : Act} (h : T0Ok e w T0 a) {d : Nat} {c : Bool} (hd : a.tmps.getD d undef = .bool c) : T0Ok e w ((d, .kb c) :: T0) a := by
  intro t sv ht
  simp only [lk] at ht
  split at ht
  · rename_i e'
    obtain rfl := nbeq.1 e'
    injection ht with ht; subst ht
    simpa only [RepSV] using hd
  · exact h t sv ht
theorem guardP_sound {ops : Array Oper} {o : Oper} {e : Env} {T0 : Tl} {st : St} {A K : Tl → St → Prop} {a : Act} {w : World} {e0 : Env} {w0 : World} (h : Ok b N e st a w) (h0 : T0Ok e0 w0 T0 a) (hk : guardP N ops o T0 st A K) :
    (Region.wanted o (yielded ops a.tmps) = true ∧ ∃ T0' st', st'.H = st.H ∧ Ok b N e st' a w ∧ T0Ok e0 w0 T0' a ∧ A T0' st') ∨ (Region.wanted o (yielded ops a.tmps) = false ∧ ∃ T0' st', st'.H = st.H ∧ Ok b N e st' (a.put o.dst undef) w ∧ T0Ok e0 w0 T0' (a.put o.dst undef) ∧ K T0' st') := by
  unfold guardP at hk
  split at hk
  · rename_i hg
    exact .inl ⟨by simp [Region.wanted, hg], T0, st, rfl, h, h0, hk⟩
  · rename_i j want hg
    split at hk <;> try (exact hk.elim)
    rename_i d hd
    split at hk <;> try (exact hk.elim)
    · rename_i c hc
      have hy := yielded_of hd (h.boolAt (.inr hc))
      split at hk
      · rename_i he
        exact .inl ⟨by simp [Region.wanted, hg, hy, eq_of_beq he], T0, st, rfl, h, h0, hk⟩
      · rename_i he
        have hlt := putK_lt hk
        obtain ⟨st', k1, k2, k3⟩ := putK_sound (v := undef) h (by simp only [RepSV]) hk
        obtain ⟨T0', k4, k5⟩ := h0.upd h.sz hlt (v := undef) (by simp only [RepSV]) k2
        exact .inr ⟨by simp only [Region.wanted, hg, hy]; simpa using he, T0', st', k3, k1, k4, k5⟩
    · rename_i c hc
      have hba := h.boolAt (.inl hc)
      have hy := yielded_of hd hba
      by_cases he : c = want
      · subst he
        exact .inl ⟨by simp [Region.wanted, hg, hy], _, ⟨(d, .kb c) :: st.T, st.H, st.n⟩, rfl, h.know hc, h0.know hba, hk.1 rfl⟩
      · have he' : c = !want := by cases c <;> cases want <;> simp_all
        subst he'
        have hk' := hk.2 rfl
        have hlt := putK_lt hk'
        obtain ⟨st', k1, k2, k3⟩ := putK_sound (v := undef) (h.know hc) (by simp only [RepSV]) hk'
        obtain ⟨T0', k4, k5⟩ := (h0.know hba).upd h.sz hlt (v := undef) (by simp only [RepSV]) k2
        exact .inr ⟨by simp only [Region.wanted, hg, hy]; cases want <;> rfl, T0', st', k3, k1, k4, k5⟩
mutual
theorem pubS_kept {e e' : Env} {w w' : World} (h : KeptP e w e' w') : ∀ {x : SV} {v : Value}, pubS x = true → RepSV e w x v → RepSV e' w' x v
  | .d x, v, _, hx => by simp only [RepSV] at hx ⊢; exact hx.to h.same fun k hk _ => h.pub k hk
  | .kb b, v, _, hx => by simpa only [RepSV] using hx
  | .nl, v, _, hx => by simpa only [RepSV] using hx
  | .agg l, v, hp, hx => by
    simp only [RepSV] at hx ⊢
    obtain ⟨l', e, h1⟩ := hx
    exact ⟨l', e, pubSs_kept h (by simpa only [pubS] using hp) h1⟩
  | .tup l, v, hp, hx => by
    simp only [RepSV] at hx ⊢
    obtain ⟨l', e, h1⟩ := hx
    exact ⟨l', e, pubSs_kept h (by simpa only [pubS] using hp) h1⟩
  | .fn f a b, v, hp, hx => by
    simp only [pubS, Bool.and_eq_true] at hp
    simp only [RepSV] at hx ⊢
    obtain ⟨a', b', e, h1, h2⟩ := hx
    exact ⟨a', b', e, pubSs_kept h hp.1 h1, pubSs_kept h hp.2 h2⟩
  | .ifc t x, v, hp, hx => by
    simp only [RepSV] at hx ⊢
    obtain ⟨y, e, h1⟩ := hx
    exact ⟨y, e, pubS_kept h (by simpa only [pubS] using hp) h1⟩
  | .own _ _, _, hp, _ => by simp [pubS] at hp
  | .row _, _, hp, _ => by simp [pubS] at hp
  | .rowp _ _, _, hp, _ => by simp [pubS] at hp
  | .nm _, _, hp, _ => by simp [pubS] at hp
  | .osl _ _, _, hp, _ => by simp [pubS] at hp
  | .any, _, hp, _ => by simp [pubS] at hp
theorem pubSs_kept {e e' : Env} {w w' : World} (h : KeptP e w e' w') : ∀ {l : List SV} {v : List Value}, pubSs l = true → RepSVs e w l v → RepSVs e' w' l v
  | [], v, _, hx => by simpa only [RepSVs] using hx
  | x :: r, v, hp, hx => by
    simp only [pubSs] at hp
    split at hp <;> try (cases hp; done)
    rename_i hp1
    simp only [RepSVs] at hx ⊢
    obtain ⟨u, s, e, h1, h2⟩ := hx
    exact ⟨u, s, e, pubS_kept h hp1 h1, pubSs_kept h hp h2⟩
end
theorem nrm_eq2 (x : SV) (K : SV → Prop) (h : nrm x K) : ∃ y, K y ∧ ∀ {e : Env} {w : World} {v : Value}, RepSV e w x v → RepSV e w y v := by
  unfold nrm at h
  split at h
  · rw [nrmL_eq] at h; exact ⟨_, h, fun hv => hv⟩
  · rw [nrmL_eq] at h; exact ⟨_, h, fun hv => hv⟩
  · rw [nrmL_eq] at h
    refine ⟨_, h, fun hv => ?_⟩
    simp only [RepSV, RepD] at hv ⊢
    obtain ⟨l', e', h1⟩ := hv
    exact ⟨l', e', by rw [dL_map]; exact RepSVs.ofD.1 h1⟩
  · exact ⟨_, h, fun hv => hv⟩
def pubOr (x : SV) : SV :=
  match pubS x with
  | true => x
  | false => .any
theorem pubTK_eq : ∀ (T : Tl) (K : Tl → Prop), pubTK T K = K (T.map fun p => (p.1, pubOr p.2))
  | [], K => rfl
  | (t, x) :: r, K => by
    simp only [pubTK, List.map_cons]
    cases h : pubS x <;> simp only [pubTK_eq r, pubOr, h]
theorem pubTK_get {e : Env} {w : World} {T0 T : Tl} {a : Act} (h0 : T0 = T.map fun p => (p.1, pubOr p.2)) (h : T0Ok e w T a) : T0Ok e w T0 a := by
  intro t sv ht
  rw [h0, lk_map] at ht
  cases hl : lk T t with
  | none => rw [hl] at ht; cases ht
  | some x =>
    rw [hl] at ht; injection ht with ht; subst ht
    have := h t x hl
    unfold pubOr
    split
    · exact this
    · simp only [RepSV]
structure KeptM (md : Bool) (e : Env) (w : World) (e' : Env) (w' : World) : Prop where
  all : md = false → Kept e w e' w'
  p : KeptP e w e' w'
theorem Kept.m' {md : Bool} {e e' : Env} {w w' : World} (h : Kept e w e' w') : KeptM md e w e' w' := ⟨fun _ => h, h.p⟩
theorem KeptM.sv {md : Bool} {e e' : Env} {w w' : World} (h : KeptM md e w e' w') {x : SV} {v : Value} (hp : (md && !pubS x) = false) (hx : RepSV e w x v) : RepSV e' w' x v := by
  cases md with
  | false => exact hx.kept (h.all rfl)
  | true => exact pubS_kept h.p (by simpa using hp) hx
theorem pTake_sound (hty : Tys P ty) {T0 : Tl} {HL : Hp} {e e0 : Env} {w w0 : World} {st : St} {a : Act} {o : Oper} {k : Bool → SV → Prop} (h : Ok b N e st a w) (h0 : T0Ok e0 w0 T0 a) (hH : ObsOk e0 w0 HL) {md : Bool} (hk0 : KeptM md e0 w0 e w) (hk : pTake ty md T0 HL st.T st.H o.op k) :
    ∃ c sv v, k c sv ∧ RepSV e w sv v ∧ (c = true → RepSV e0 w0 sv v) ∧ ∀ w', (ldB o.op = true → Agr e0 HL w0 w') → (execOp a.eval o).run P w' = .ok (.value v) w' := by
  have low : pLow ty st.T st.H o.op k → ∃ c sv v, k c sv ∧ RepSV e w sv v ∧ (c = true → RepSV e0 w0 sv v) ∧ ∀ w', (ldB o.op = true → Agr e0 HL w0 w') → (execOp a.eval o).run P w' = .ok (.value v) w' := by
    intro hk
    unfold pLow at hk
    split at hk
    · exact hk.elim
    · rename_i hld
      split at hk
      · rename_i sv hsv
        obtain ⟨v, h1, h2⟩ := pOp_sound hty h.tmok h.hp.ob hsv
        obtain ⟨y, hy, hr⟩ := nrm_eq sv _ hk h1
        exact ⟨false, y, v, hy, hr, fun h => by (cases h), fun w' _ => h2 w' fun hl => by rw [hld] at hl; cases hl⟩
      · split at hk
        · rename_i g hg
          obtain ⟨sv, v, h1, h2, h3⟩ := pStop_sound hty h.tmok h.hp.ob hg hk
          exact ⟨false, sv, v, h3, h1, fun h => by (cases h), fun w' _ => h2 w'⟩
        · exact hk.elim
  unfold pTake at hk
  split at hk
  · exact low hk
  · rename_i sv _ hsv
    split at hk
    · exact low hk
    rename_i hmd
    obtain ⟨v, h1, h2⟩ := pOp_sound hty h0.tm hH hsv
    obtain ⟨y, hy, hr⟩ := nrm_eq2 sv _ hk
    exact ⟨true, y, v, hy, hr (hk0.sv hmd h1), fun _ => hr h1, h2⟩
  · split at hk
    · exact low hk
    split at hk
    · rename_i g hg
      split at hk
      · obtain ⟨sv, v, h1, h2, h3⟩ := pStop_sound hty h0.tm hH hg hk
        exact ⟨true, sv, v, h3, h1.kept (hk0.all rfl), fun _ => h1, fun w' _ => h2 w'⟩
      · obtain ⟨sv, v, h1, h2, h3⟩ := pStop_sound hty h0.tm hH hg hk
        split at h3 <;> try (exact h3.elim)
        rename_i hp
        exact ⟨true, sv, v, h3, pubS_kept hk0.p hp h1, fun _ => h1, fun w' _ => h2 w'⟩
    · exact low hk
theorem stillB_get : ∀ {HL H : Hp} {i : Nat} {o : Ob}, stillB HL H = true → lk HL i = some o → ∃ t cs, lk H i = some (.blk t cs)
  | [], H, i, o, _, h => by simp [lk] at h
  | (j, x) :: r, H, i, o, hs, h => by
    simp only [stillB] at hs
    split at hs <;> try (cases hs; done)
    rename_i t cs hj
    simp only [lk] at h
    split at h
    · rename_i e; obtain rfl := nbeq.1 e; exact ⟨t, cs, hj⟩
    · exact stillB_get hs h
theorem blksK_eq (H0 : Hp) : ∀ (H : Hp) (K : Hp → Prop), blksK H0 H K → ∃ HL, K HL ∧ (∀ i o, lk HL i = some o → lk H0 i = some o ∧ ∃ t cs, o = .blk t cs) ∧ stillB HL H0 = true
  | [], K, h => ⟨[], h, fun i o ho => by simp [lk] at ho, rfl⟩
  | (i, x) :: r, K, h => by
    simp only [blksK] at h
    split at h
    · rename_i t cs hi
      obtain ⟨HL, h1, h2, h3⟩ := blksK_eq H0 r _ h
      refine ⟨_, h1, fun j o ho => ?_, by simp only [stillB, hi, h3]⟩
      simp only [lk] at ho
      split at ho
      · rename_i e; obtain rfl := nbeq.1 e
        injection ho with ho; subst ho
        exact ⟨hi, t, cs, rfl⟩
      · exact h2 j o ho
    · exact blksK_eq H0 r K h
theorem vcStore_sound (hty : Tys P ty) {HL : Hp} {o : Oper} {e : Env} {st : St} {K : SExit → St → Prop} {a : Act} {w : World} (h : Ok b N e st a w) (hk : vcOp P ty b N false o st K) (hs : kpOf HL st.T o.op = false) :
    ∃ i w', lk HL i = none ∧ (execOp a.eval o).run P w = .ok .skip w' ∧ Kept e w e w' ∧ (∀ j k, j ≠ i → has st.H j → foot e j k → w'.heap[k]? = w.heap[k]?) ∧ ∃ st', Ok b N e st' (a.put o.dst undef) w' ∧ K .normal st' := by
  have hT := h.tmok
  obtain ⟨dst, op, type, pos, after, guard⟩ := o
  simp only at hs
  unfold kpOf at hs
  split at hs <;> try (cases hs; done)
  rename_i t ad x
  split at hs <;> try (cases hs; done)
  rename_i i off ha
  split at hs <;> try (cases hs; done)
  rename_i hHL
  unfold vcOp at hk
  have e1 : pOp ty st.T st.H (.store t ad x) = none := by simp only [pOp]
  have e2 : pStop ty st.T st.H (.store t ad x) = none := by simp only [pStop]
  rw [e1, e2] at hk
  simp only [vcEff, ha] at hk
  split at hk <;> try (exact hk.elim)
  rename_i y sv hy hx
  split at hk <;> try (exact hk.elim)
  rename_i l hl
  split at hk <;> try (exact hk.elim)
  rename_i t' cs hsz hcl hi _
  split at hk <;> try (exact hk.elim)
  rename_i cs' hp hb
  rw [nrmL_eq] at hk
  simp only [withoutK_eq] at hk
  have hb' := Nat.le_of_ble_eq_true hb
  have h1 := hT _ _ ha
  simp only [RepSV] at h1
  obtain ⟨g, hm, hv⟩ := h1
  have hr := cellsOf_rep hl (hT _ _ hx)
  have hlen := hr.len
  obtain ⟨g', vs, hm', hh, hcs⟩ := h.hp.ob _ _ hi
  rw [hm] at hm'; injection hm' with hm'; injection hm' with hm'; injection hm' with hm'; injection hm' with hm'
  subst hm'
  have hcl' := hcs.len
  obtain ⟨vr, q1, q2⟩ := putAt_rep hp hb' hr hcs
  have hlt := (Array.getElem?_eq_some_iff.1 hh).1
  have hrun := run_storeCells (P := P) (g := g) (off := off) (t := t') (a.eval x).cells.toList 0 vs w (cellsB_plain hcl hr) hh (by rw [Array.length_toList] at hlen hcl' ⊢; omega)
  rw [store_run hty hy hv (by rw [hlen]; exact nbeq.1 hsz) hrun]
  have q1' : ((a.eval x).cells.toList.zipIdx 0).foldl (fun cs (x : Value × Nat) => cs.setIfInBounds (off + x.2) x.1) vs = vr := by
    rw [← q1]
  rw [q1']
  have ho : Only (fun k => foot e i k) w (setW w g (.cells vr t' (0, 0))) := ⟨rfl, rfl, rfl, by rw [setW_size]; exact Nat.le_refl _, fun k hk hn => setW_ne _ _ (fun e' => hn ⟨_, hm, by rw [← e']; rfl⟩)⟩
  obtain ⟨g1, kw, g3⟩ := h.setOb (i := i) (o := .blk t' cs') (by simp [has, hi]) ho (Nat.le_refl _) (fun kw => ⟨g, vr, hm, setW_at _ _ _ hlt, q2.kept kw⟩)
  obtain ⟨st', g4, g5, _⟩ := putK_sound (v := undef) g1 (by simp only [RepSV]) hk
  refine ⟨i, _, hHL, rfl, kw, fun j k hj hh' hf => ?_, st', g4, g5⟩
  exact setW_ne _ _ (fun e' => h.hp.sep j i k hh' (by simp [has, hi]) hj hf ⟨_, hm, by rw [← e']; rfl⟩)
theorem vcPlan_sound (hty : Tys P ty) {ops : Array Oper} (hs : Region.noSelect ops = true) {md : Bool} {HL : Hp} (hmd : md = true → HL = []) {es : Env} {ws : World} {K : SExit → St → Prop} (hHL : ObsOk es ws HL) {F : List Nat} :
    ∀ (plan : Pl) (listed : Array Bool) (fuel : Nat) (T0 : Tl) (e : Env) (st : St) (a : Act) (w : World), plan.len ≤ fuel → planB ops plan listed = true → (∀ j ∈ F, ∀ i ∈ plan.takes, Vx.depT ops 7 j i = true) → (∀ j ∈ plan.fins, j ∈ F) → ClosedL ops listed →
      Ok b N e st a w → ((plan.onlyFins = true ∧ ∃ e0 w0, T0Ok e0 w0 T0 a ∧ KeptM md e0 w0 e w) ∨ (T0Ok es ws T0 a ∧ KeptM md es ws e w ∧ Agr es HL ws w ∧ stillB HL st.H = true)) →
      vcPlan P ty b N md ops HL plan T0 st K → AnyR P ops (Kden b N K) (Agr es HL ws) F fuel listed a w := by
  have runOp : ∀ {i : Nat} {o : Oper} {r : Pl} {fuel : Nat} {listed : Array Bool} {T0 : Tl} {e : Env} {st : St} {a : Act} {w : World}, ops[i]? = some o → Ok b N e st a w → T0Ok es ws T0 a → KeptM md es ws e w → Agr es HL ws w → stillB HL st.H = true →
      (∀ (T0 : Tl) (e : Env) (st : St) (a : Act) (w : World), Ok b N e st a w → T0Ok es ws T0 a → KeptM md es ws e w → Agr es HL ws w → stillB HL st.H = true → vcPlan P ty b N md ops HL r T0 st K → AnyR P ops (Kden b N K) (Agr es HL ws) F fuel (listed.setIfInBounds i true) a w) →
      (guardP N ops o T0 st (fun T0 st => vcOp P ty b N (kpM md HL st.T o.op) o st fun x st' => match x with
        | .normal => match stillB HL st'.H with
          | true => upd o.dst .any T0 fun T0' => vcPlan P ty b N md ops HL r T0' st' K
          | false => False
        | x => K x st') fun T0' st' => vcPlan P ty b N md ops HL r T0' st' K) →
      wpOp P ops (Kden b N K) i (fun a' w' => (i ∉ F → Agr es HL ws w → Agr es HL ws w') ∧ AnyR P ops (Kden b N K) (Agr es HL ws) F fuel (listed.setIfInBounds i true) a' w') a w := by
    intro i o r fuel listed T0 e st a w ho h h0 hkp hag hst ih hk
    unfold wpOp
    simp only [ho]
    rcases guardP_sound h h0 hk with ⟨hw, T0', st', e1, k1, k2, k3⟩ | ⟨hw, T0', st', e1, k1, k2, k3⟩
    · rw [if_pos hw]
      cases hkk : kpM md HL st'.T o.op with
      | true =>
        rw [hkk] at k3
        refine .inl ((vcOp_sound hty k1 k3).wp (fun v w' ha => ?_) fun c w' hc => ?_)
        · obtain ⟨e', st'', q0, q1, q2⟩ := ha
          have hmf : md = false := by cases md with
            | false => rfl
            | true => cases hkk
          obtain ⟨q3, q4⟩ := q0.all rfl
          have hkp' := hkp.all hmf
          simp only at q2
          split at q2 <;> try (exact q2.elim)
          rename_i hst'
          have hag' : Agr es HL ws w' := by
            refine ⟨fun k hk hl => ?_, fun j t cs k hj hf => ?_⟩
            · rw [q3.same k (hkp'.pub k hk) (Nat.lt_of_lt_of_le hl hkp'.sz)]
              exact hkp'.same k hk hl
            · obtain ⟨t', cs', hj'⟩ := stillB_get hst hj
              rw [← e1] at hj'
              obtain ⟨u, hu, hfu⟩ := hf
              rw [q4.2 j t' cs' k hj' ⟨u, hkp'.m _ _ hu, hfu⟩]
              exact hag.2 j t cs k hj ⟨u, hu, hfu⟩
          obtain ⟨T0'', k4, k5⟩ := k2.updAny (v := v) q2
          exact ⟨fun _ _ => hag', ih T0'' e' st'' _ w' q1 k4 (hkp'.trans q3).m' hag' hst' k5⟩
        · obtain ⟨e', st'', x, v, q1, q2, q3, q4⟩ := hc
          exact ⟨e', st'', x, v, q1, q2, q3.noT, q4⟩
      | false =>
        rw [hkk] at k3
        cases md with
        | true =>
          obtain rfl := hmd rfl
          refine .inl ((vcOp_sound hty k1 k3).wp (fun v w' ha => ?_) fun c w' hc => ?_)
          · obtain ⟨e', st'', q0, q1, q2⟩ := ha
            simp only at q2
            split at q2 <;> try (exact q2.elim)
            rename_i hst'
            have hk2 := hkp.p.trans q0.p
            have hag' : Agr es [] ws w' := ⟨hk2.same, fun j t cs k hj _ => by simp [lk] at hj⟩
            obtain ⟨T0'', k4, k5⟩ := k2.updAny (v := v) q2
            exact ⟨fun _ _ => hag', ih T0'' e' st'' _ w' q1 k4 ⟨fun h => by (cases h), hk2⟩ hag' hst' k5⟩
          · obtain ⟨e', st'', x, v, q1, q2, q3, q4⟩ := hc
            exact ⟨e', st'', x, v, q1, q2, q3.noT, q4⟩
        | false =>
        have hkp' := hkp.all rfl
        obtain ⟨i0, w', r1, r2, q3, r4, st'', q1, q2⟩ := vcStore_sound hty k1 k3 hkk
        simp only at q2
        split at q2 <;> try (exact q2.elim)
        rename_i hst'
        have hag' : Agr es HL ws w' := by
          refine ⟨fun k hk hl => ?_, fun j t cs k hj hf => ?_⟩
          · rw [q3.same k (hkp'.pub k hk) (Nat.lt_of_lt_of_le hl hkp'.sz)]
            exact hkp'.same k hk hl
          · obtain ⟨t', cs', hj'⟩ := stillB_get hst hj
            rw [← e1] at hj'
            obtain ⟨u, hu, hfu⟩ := hf
            rw [r4 j k (by rintro rfl; rw [hj] at r1; cases r1) (by simp [has, hj']) ⟨u, hkp'.m _ _ hu, hfu⟩]
            exact hag.2 j t cs k hj ⟨u, hu, hfu⟩
        obtain ⟨T0'', k4, k5⟩ := k2.updAny (v := undef) q2
        refine .inl ?_
        unfold Oper.wp
        rw [r2]
        exact ⟨fun _ _ => hag', ih T0'' e st'' _ w' q1 k4 (hkp'.trans q3).m' hag' hst' k5⟩
    · rw [if_neg (by simp [hw])]
      exact ⟨fun _ h => h, ih T0' e st' _ w k1 k2 hkp hag (by rw [e1]; exact hst) k3⟩
  intro plan
  induction plan with
  | done =>
    intro listed fuel T0 e st a w hf hp hF hF2 hcl h hpre hk
    simp only [planB, List.isEmpty_iff] at hp
    exact AnyR.stop hp ⟨e, st, h, hk⟩ fuel
  | take i r ih =>
    intro listed fuel T0 e st a w hf hp hF hF2 hcl h hpre hk
    obtain ⟨fuel, rfl⟩ : ∃ f, fuel = f + 1 := ⟨fuel - 1, by simp only [Pl.len] at hf; omega⟩
    have hf' : r.len ≤ fuel := by simp only [Pl.len] at hf; omega
    rcases hpre with ⟨hpre, _⟩ | ⟨h0, hkp, hag, hst⟩
    · simp [Pl.onlyFins] at hpre
    simp only [vcPlan] at hk
    split at hk <;> try (exact hk.elim)
    rename_i o ho
    have ho' : ops[i]? = some o := by rw [← Array.getElem?_toList, ← nth_eq]; exact ho
    simp only [planB, Bool.and_eq_true] at hp
    obtain ⟨⟨p1, p2⟩, p3⟩ := hp
    have hFi : ∀ j ∈ F, Vx.depT ops 7 j i = true := fun j hj => hF j hj i (by simp [Pl.takes])
    have hFr : ∀ j ∈ F, ∀ q ∈ r.takes, Vx.depT ops 7 j q = true := fun j hj q hq => hF j hj q (by simp [Pl.takes, hq])
    rcases guardP_sound h h0 hk with ⟨hw, T0', st', e1, k1, k2, k3⟩ | ⟨hw, T0', st', e1, k1, k2, k3⟩
    · obtain ⟨c, sv, v, y1, y2, y3, y4⟩ := pTake_sound hty k1 k2 hHL hkp k3
      have hlt := putK_lt y1
      obtain ⟨st'', q1, q2, q3⟩ := putK_sound k1 y2 y1
      refine AnyR.firstQ (Z0 := Agr es HL ws) ho' hs (fun c a w => Kden_pan) (.inr ⟨fun _ h => h, hFi⟩) fuel listed a w hcl (Region.free_spec ho' p1) (by simpa using p2) (v := v) (.inl ⟨hw, fun w' hw' => y4 w' fun _ => hw'⟩) (.inr hag) ?_
      obtain ⟨T0'', k4, k5⟩ : ∃ T0'', T0Ok es ws T0'' (a.put o.dst v) ∧ vcPlan P ty b N md ops HL r T0'' st'' K := by
        cases c with
        | true => exact k2.upd k1.sz hlt (y3 rfl) q2
        | false => exact k2.updAny q2
      exact ih _ fuel T0'' e st'' _ w hf' p3 hFr hF2 (hcl.set (by simpa using p2)) q1 (.inr ⟨k4, hkp, hag, by rw [q3, e1]; exact hst⟩) k5
    · refine AnyR.firstQ (Z0 := fun _ => True) ho' hs (fun c a w => Kden_pan) (.inl fun _ => trivial) fuel listed a w hcl (Region.free_spec ho' p1) (by simpa using p2) (v := undef) (.inr ⟨hw, rfl⟩) (.inl fun _ => trivial) ?_
      exact ih _ fuel T0' e st' _ w hf' p3 hFr hF2 (hcl.set (by simpa using p2)) k1 (.inr ⟨k2, hkp, hag, by rw [e1]; exact hst⟩) k3
  | run i r ih =>
    intro listed fuel T0 e st a w hf hp hF hF2 hcl h hpre hk
    obtain ⟨fuel, rfl⟩ : ∃ f, fuel = f + 1 := ⟨fuel - 1, by simp only [Pl.len] at hf; omega⟩
    have hf' : r.len ≤ fuel := by simp only [Pl.len] at hf; omega
    rcases hpre with ⟨hpre, _⟩ | ⟨h0, hkp, hag, hst⟩
    · simp [Pl.onlyFins] at hpre
    simp only [vcPlan] at hk
    split at hk <;> try (exact hk.elim)
    rename_i o ho
    have ho' : ops[i]? = some o := by rw [← Array.getElem?_toList, ← nth_eq]; exact ho
    simp only [planB, Bool.and_eq_true, beq_iff_eq] at hp
    obtain ⟨p1, p3⟩ := hp
    refine ⟨fun h0 => (by rw [p1] at h0; cases h0), fun j hj => ?_⟩
    rw [p1, List.mem_singleton] at hj
    subst hj
    exact runOp ho' h h0 hkp hag hst (fun T0 e st a w q1 q2 q3 q4 q5 q6 => ih _ fuel T0 e st a w hf' p3 hF hF2 (hcl.set (by rw [p1]; simp)) q1 (.inr ⟨q2, q3, q4, q5⟩) q6) hk
  | two i j ri rj ihi ihj =>
    intro listed fuel T0 e st a w hf hp hF hF2 hcl h hpre hk
    obtain ⟨fuel, rfl⟩ : ∃ f, fuel = f + 1 := ⟨fuel - 1, by simp only [Pl.len] at hf; omega⟩
    have hf1 : ri.len ≤ fuel := by simp only [Pl.len] at hf; have := Nat.le_max_left ri.len rj.len; have e : Nat.max ri.len rj.len = max ri.len rj.len := rfl; omega
    have hf2 : rj.len ≤ fuel := by simp only [Pl.len] at hf; have := Nat.le_max_right ri.len rj.len; have e : Nat.max ri.len rj.len = max ri.len rj.len := rfl; omega
    rcases hpre with ⟨hpre, _⟩ | ⟨h0, hkp, hag, hst⟩
    · simp [Pl.onlyFins] at hpre
    simp only [vcPlan] at hk
    split at hk <;> try (exact hk.elim)
    rename_i o o' ho1 ho2
    have ho1' : ops[i]? = some o := by rw [← Array.getElem?_toList, ← nth_eq]; exact ho1
    have ho2' : ops[j]? = some o' := by rw [← Array.getElem?_toList, ← nth_eq]; exact ho2
    simp only [planB, Bool.and_eq_true, beq_iff_eq] at hp
    obtain ⟨⟨p1, p2⟩, p3⟩ := hp
    simp only [Pl.takes, Pl.fins, List.mem_append] at hF hF2
    refine ⟨fun h0 => (by rw [p1] at h0; cases h0), fun q hq => ?_⟩
    rw [p1] at hq
    simp only [List.mem_cons, List.not_mem_nil, or_false] at hq
    rcases hq with rfl | rfl
    · exact runOp ho1' h h0 hkp hag hst (fun T0 e st a w q1 q2 q3 q4 q5 q6 => ihi _ fuel T0 e st a w hf1 p2 (fun j hj i hi => hF j hj i (.inl hi)) (fun j hj => hF2 j (.inl hj)) (hcl.set (by rw [p1]; simp)) q1 (.inr ⟨q2, q3, q4, q5⟩) q6) hk.1
    · exact runOp ho2' h h0 hkp hag hst (fun T0 e st a w q1 q2 q3 q4 q5 q6 => ihj _ fuel T0 e st a w hf2 p3 (fun j hj i hi => hF j hj i (.inr hi)) (fun j hj => hF2 j (.inr hj)) (hcl.set (by rw [p1]; simp)) q1 (.inr ⟨q2, q3, q4, q5⟩) q6) hk.2
  | three i j k ri rj rk ihi ihj ihk =>
    intro listed fuel T0 e st a w hf hp hF hF2 hcl h hpre hk
    obtain ⟨fuel, rfl⟩ : ∃ f, fuel = f + 1 := ⟨fuel - 1, by simp only [Pl.len] at hf; omega⟩
    have hf1 : ri.len ≤ fuel := by simp only [Pl.len] at hf; omega
    have hf2 : rj.len ≤ fuel := by simp only [Pl.len] at hf; omega
    have hf3 : rk.len ≤ fuel := by simp only [Pl.len] at hf; omega
    rcases hpre with ⟨hpre, _⟩ | ⟨h0, hkp, hag, hst⟩
    · simp [Pl.onlyFins] at hpre
    simp only [vcPlan] at hk
    split at hk <;> try (exact hk.elim)
    rename_i o o' o'' ho1 ho2 ho3
    have ho1' : ops[i]? = some o := by rw [← Array.getElem?_toList, ← nth_eq]; exact ho1
    have ho2' : ops[j]? = some o' := by rw [← Array.getElem?_toList, ← nth_eq]; exact ho2
    have ho3' : ops[k]? = some o'' := by rw [← Array.getElem?_toList, ← nth_eq]; exact ho3
    simp only [planB, Bool.and_eq_true, beq_iff_eq] at hp
    obtain ⟨⟨⟨p1, p2⟩, p3⟩, p4⟩ := hp
    simp only [Pl.takes, Pl.fins, List.mem_append] at hF hF2
    refine ⟨fun h0 => (by rw [p1] at h0; cases h0), fun q hq => ?_⟩
    rw [p1] at hq
    simp only [List.mem_cons, List.not_mem_nil, or_false] at hq
    rcases hq with rfl | rfl | rfl
    · exact runOp ho1' h h0 hkp hag hst (fun T0 e st a w q1 q2 q3 q4 q5 q6 => ihi _ fuel T0 e st a w hf1 p2 (fun j hj i hi => hF j hj i (.inl hi)) (fun j hj => hF2 j (.inl hj)) (hcl.set (by rw [p1]; simp)) q1 (.inr ⟨q2, q3, q4, q5⟩) q6) hk.1
    · exact runOp ho2' h h0 hkp hag hst (fun T0 e st a w q1 q2 q3 q4 q5 q6 => ihj _ fuel T0 e st a w hf2 p3 (fun j hj i hi => hF j hj i (.inr (.inl hi))) (fun j hj => hF2 j (.inr (.inl hj))) (hcl.set (by rw [p1]; simp)) q1 (.inr ⟨q2, q3, q4, q5⟩) q6) hk.2.1
    · exact runOp ho3' h h0 hkp hag hst (fun T0 e st a w q1 q2 q3 q4 q5 q6 => ihk _ fuel T0 e st a w hf3 p4 (fun j hj i hi => hF j hj i (.inr (.inr hi))) (fun j hj => hF2 j (.inr (.inr hj))) (hcl.set (by rw [p1]; simp)) q1 (.inr ⟨q2, q3, q4, q5⟩) q6) hk.2.2
  | four i j k l ri rj rk rl ihi ihj ihk ihl =>
    intro listed fuel T0 e st a w hf hp hF hF2 hcl h hpre hk
    obtain ⟨fuel, rfl⟩ : ∃ f, fuel = f + 1 := ⟨fuel - 1, by simp only [Pl.len] at hf; omega⟩
    have hf1 : ri.len ≤ fuel := by simp only [Pl.len] at hf; omega
    have hf2 : rj.len ≤ fuel := by simp only [Pl.len] at hf; omega
    have hf3 : rk.len ≤ fuel := by simp only [Pl.len] at hf; omega
    have hf4 : rl.len ≤ fuel := by simp only [Pl.len] at hf; omega
    rcases hpre with ⟨hpre, _⟩ | ⟨h0, hkp, hag, hst⟩
    · simp [Pl.onlyFins] at hpre
    simp only [vcPlan] at hk
    split at hk <;> try (exact hk.elim)
    rename_i o o' o'' o3 ho1 ho2 ho3 ho4
    have ho1' : ops[i]? = some o := by rw [← Array.getElem?_toList, ← nth_eq]; exact ho1
    have ho2' : ops[j]? = some o' := by rw [← Array.getElem?_toList, ← nth_eq]; exact ho2
    have ho3' : ops[k]? = some o'' := by rw [← Array.getElem?_toList, ← nth_eq]; exact ho3
    have ho4' : ops[l]? = some o3 := by rw [← Array.getElem?_toList, ← nth_eq]; exact ho4
    simp only [planB, Bool.and_eq_true, beq_iff_eq] at hp
    obtain ⟨⟨⟨⟨p1, p2⟩, p3⟩, p4⟩, p5⟩ := hp
    simp only [Pl.takes, Pl.fins, List.mem_append] at hF hF2
    refine ⟨fun h0 => (by rw [p1] at h0; cases h0), fun q hq => ?_⟩
    rw [p1] at hq
    simp only [List.mem_cons, List.not_mem_nil, or_false] at hq
    rcases hq with rfl | rfl | rfl | rfl
    · exact runOp ho1' h h0 hkp hag hst (fun T0 e st a w q1 q2 q3 q4 q5 q6 => ihi _ fuel T0 e st a w hf1 p2 (fun j hj i hi => hF j hj i (.inl hi)) (fun j hj => hF2 j (.inl hj)) (hcl.set (by rw [p1]; simp)) q1 (.inr ⟨q2, q3, q4, q5⟩) q6) hk.1
    · exact runOp ho2' h h0 hkp hag hst (fun T0 e st a w q1 q2 q3 q4 q5 q6 => ihj _ fuel T0 e st a w hf2 p3 (fun j hj i hi => hF j hj i (.inr (.inl hi))) (fun j hj => hF2 j (.inr (.inl hj))) (hcl.set (by rw [p1]; simp)) q1 (.inr ⟨q2, q3, q4, q5⟩) q6) hk.2.1
    · exact runOp ho3' h h0 hkp hag hst (fun T0 e st a w q1 q2 q3 q4 q5 q6 => ihk _ fuel T0 e st a w hf3 p4 (fun j hj i hi => hF j hj i (.inr (.inr (.inl hi)))) (fun j hj => hF2 j (.inr (.inr (.inl hj)))) (hcl.set (by rw [p1]; simp)) q1 (.inr ⟨q2, q3, q4, q5⟩) q6) hk.2.2.1
    · exact runOp ho4' h h0 hkp hag hst (fun T0 e st a w q1 q2 q3 q4 q5 q6 => ihl _ fuel T0 e st a w hf4 p5 (fun j hj i hi => hF j hj i (.inr (.inr (.inr hi)))) (fun j hj => hF2 j (.inr (.inr (.inr hj)))) (hcl.set (by rw [p1]; simp)) q1 (.inr ⟨q2, q3, q4, q5⟩) q6) hk.2.2.2
  | pure i r ih =>
    intro listed fuel T0 e st a w hf hp hF hF2 hcl h hpre hk
    obtain ⟨fuel, rfl⟩ : ∃ f, fuel = f + 1 := ⟨fuel - 1, by simp only [Pl.len] at hf; omega⟩
    have hf' : r.len ≤ fuel := by simp only [Pl.len] at hf; omega
    simp only [vcPlan] at hk
    split at hk <;> try (exact hk.elim)
    rename_i o ho
    split at hk <;> try (exact hk.elim)
    rename_i hld
    have ho' : ops[i]? = some o := by rw [← Array.getElem?_toList, ← nth_eq]; exact ho
    simp only [planB, Bool.and_eq_true] at hp
    obtain ⟨⟨p1, p2⟩, p3⟩ := hp
    obtain ⟨e0, w0, h0, hkp, hrest⟩ : ∃ e0 w0, T0Ok e0 w0 T0 a ∧ KeptM md e0 w0 e w ∧ ∀ (T0' : Tl) (a' : Act) (st' : St), T0Ok e0 w0 T0' a' → st'.H = st.H → ((r.onlyFins = true ∧ ∃ e0 w0, T0Ok e0 w0 T0' a' ∧ KeptM md e0 w0 e w) ∨ (T0Ok es ws T0' a' ∧ KeptM md es ws e w ∧ Agr es HL ws w ∧ stillB HL st'.H = true)) := by
      rcases hpre with ⟨h', e0, w0, h1, h2⟩ | ⟨h1, h2, h3, h4⟩
      · exact ⟨e0, w0, h1, h2, fun T0' a' st' h3 _ => .inl ⟨h', e0, w0, h3, h2⟩⟩
      · exact ⟨es, ws, h1, h2, fun T0' a' st' h5 h6 => .inr ⟨h5, h2, h3, by rw [h6]; exact h4⟩⟩
    rcases guardP_sound h h0 hk with ⟨hw, T0', st', e1, k1, k2, k3⟩ | ⟨hw, T0', st', e1, k1, k2, k3⟩
    · obtain ⟨c, sv, v, y1, y2, y3, y4⟩ := pTake_sound hty k1 k2 (fun i o hi => by simp [lk] at hi) hkp k3
      have hlt := putK_lt y1
      obtain ⟨st'', q1, q2, q3⟩ := putK_sound k1 y2 y1
      refine AnyR.firstQ (Z0 := fun _ => True) ho' hs (fun c a w => Kden_pan) (.inl fun _ => trivial) fuel listed a w hcl (Region.free_spec ho' p1) (by simpa using p2) (v := v) (.inl ⟨hw, fun w' _ => y4 w' fun hl => by rw [hld] at hl; cases hl⟩) (.inl fun _ => trivial) ?_
      obtain ⟨T0'', k4, k5⟩ : ∃ T0'', T0Ok e0 w0 T0'' (a.put o.dst v) ∧ vcPlan P ty b N md ops HL r T0'' st'' K := by
        cases c with
        | true => exact k2.upd k1.sz hlt (y3 rfl) q2
        | false => exact k2.updAny q2
      exact ih _ fuel T0'' e st'' _ w hf' p3 hF hF2 (hcl.set (by simpa using p2)) q1 (hrest _ _ _ k4 (q3.trans e1)) k5
    · refine AnyR.firstQ (Z0 := fun _ => True) ho' hs (fun c a w => Kden_pan) (.inl fun _ => trivial) fuel listed a w hcl (Region.free_spec ho' p1) (by simpa using p2) (v := undef) (.inr ⟨hw, rfl⟩) (.inl fun _ => trivial) ?_
      exact ih _ fuel T0' e st' _ w hf' p3 hF hF2 (hcl.set (by simpa using p2)) k1 (hrest _ _ _ k2 e1) k3
  | fin i r ih =>
    intro listed fuel T0 e st a w hf hp hF hF2 hcl h hpre hk
    obtain ⟨fuel, rfl⟩ : ∃ f, fuel = f + 1 := ⟨fuel - 1, by simp only [Pl.len] at hf; omega⟩
    have hf' : r.len ≤ fuel := by simp only [Pl.len] at hf; omega
    simp only [vcPlan] at hk
    split at hk <;> try (exact hk.elim)
    rename_i o ho
    have ho' : ops[i]? = some o := by rw [← Array.getElem?_toList, ← nth_eq]; exact ho
    simp only [planB, Bool.and_eq_true, beq_iff_eq] at hp
    obtain ⟨⟨p1, p2⟩, p3⟩ := hp
    have hiF : i ∈ F := hF2 i (by simp [Pl.fins])
    refine ⟨fun h0 => (by rw [p1] at h0; cases h0), fun j hj => ?_⟩
    rw [p1, List.mem_singleton] at hj
    subst hj
    unfold wpOp
    simp only [ho']
    have nil : ∀ (e : Env) (w : World) (a : Act), T0Ok e w [] a := fun e w a t sv ht => by simp [lk] at ht
    rcases guardK_sound h hk with ⟨hw, st', e1, k1, k2⟩ | ⟨hw, st', k1, k2⟩
    · rw [if_pos hw]
      refine .inl ((vcOp_sound hty k1 k2).wp (fun v w' ha => ?_) fun c w' hc => ?_)
      · obtain ⟨e', st'', _, q1, q2⟩ := ha
        exact ⟨fun hnF _ => absurd hiF hnF, ih _ fuel [] e' st'' _ w' hf' p3 hF (fun q hq => hF2 q (by simp [Pl.fins, hq])) (hcl.set (by rw [p1]; simp)) q1 (.inl ⟨p2, e', w', nil _ _ _, (Kept.refl _ _).m'⟩) q2⟩
      · obtain ⟨e', st'', x, v, q1, q2, q3, q4⟩ := hc
        exact ⟨e', st'', x, v, q1, q2, q3.noT, q4⟩
    · rw [if_neg (by simp [hw])]
      exact ⟨fun hnF _ => absurd hiF hnF, ih _ fuel [] e st' _ w hf' p3 hF (fun q hq => hF2 q (by simp [Pl.fins, hq])) (hcl.set (by rw [p1]; simp)) k1 (.inl ⟨p2, e, w, nil _ _ _, (Kept.refl _ _).m'⟩) k2⟩
end
end Go.Vx


/- Code and calls: soundness. -/
namespace Go.Vx
open Go.RowKit Go.Vc
section
variable {P : Program} {ty : List (Nat × TY)} {G : Glob} {n0 : Nat} {b : Bs G n0} {N : Nat} {plans : List (Nat × Pl)}
theorem keepK_get (l : List (List Nat)) : ∀ (seen : List Nat) (T : Tl) (K : Tl → Prop), keepK l seen T K → ∃ T0, K T0
  | _, [], K, h => ⟨[], h⟩
  | seen, (t, x) :: r, K, h => by
    simp only [keepK] at h
    split at h
    · split at h
      · obtain ⟨T0, h1⟩ := keepK_get l _ r _ h; exact ⟨_, h1⟩
      · exact keepK_get l _ r K h
    · exact keepK_get l _ r K h
theorem vcCode_sound (hty : Tys P ty) (hm : P.follows .mixedOrders = true) : ∀ (c : Code) (e : Env) (st : St) (K : SExit → St → Prop) (a : Act) (w : World), Ok b N e st a w → vcCode P ty b N plans c st K → c.wp P (Kden b N K) a w
  | .skip, e, st, K, a, w, h, hk => wp_skip ⟨e, st, h, hk⟩
  | .label _, e, st, K, a, w, h, hk => wp_label ⟨e, st, h, hk⟩
  | .exit id, e, st, K, a, w, h, hk => wp_exit ⟨e, st, h, hk⟩
  | .goto l, e, st, K, a, w, h, hk => wp_goto ⟨e, st, h, hk⟩
  | .ret, e, st, K, a, w, h, hk => wp_ret ⟨e, st, h, hk⟩
  | .seq x y, e, st, K, a, w, h, hk => by
    simp only [vcCode] at hk
    split at hk
    · refine wp_seq (wp_mono (vcCode_sound hty hm x e st _ a w h hk) fun ex a w hq => ?_)
      cases ex with
      | normal =>
        obtain ⟨e', st', h1, h2⟩ := hq
        exact vcCode_sound hty hm y e' st' K a w h1 h2
      | outgrown => exact hq.elim
      | panic c => obtain ⟨e', st', x, v, h1, h2, h3, h4⟩ := hq; exact ⟨e', st', x, v, h1, h2, h3, h4⟩
      | _ => obtain ⟨e', st', h1, h2⟩ := hq; exact ⟨e', st', h1, h2⟩
    · obtain ⟨M, hk1, hk2⟩ := hk
      refine wp_seq (wp_mono (vcCode_sound hty hm x e st _ a w h hk1) fun ex a w hq => ?_)
      cases ex with
      | normal =>
        obtain ⟨e', st', h1, st'', h2, h3⟩ := hq
        obtain ⟨e'', _, h4⟩ := h3 e' a w h1
        exact vcCode_sound hty hm y e'' st'' K a w h4 (hk2 st'' h2)
      | outgrown => exact hq.elim
      | panic c => obtain ⟨e', st', x, v, h1, h2, h3, h4⟩ := hq; exact ⟨e', st', x, v, h1, h2, h3, h4⟩
      | _ => obtain ⟨e', st', h1, h2⟩ := hq; exact ⟨e', st', h1, h2⟩
  | .block id c, e, st, K, a, w, h, hk => by
    simp only [vcCode] at hk
    refine wp_block (wp_mono (vcCode_sound hty hm c e st _ a w h hk) fun ex a w hq => ?_)
    cases ex with
    | exit id' =>
      obtain ⟨e', st', h1, h2⟩ := hq
      simp only at h2
      simp only [Exit.inBlock]
      split at h2
      · rename_i e
        rw [if_pos (nbeq.1 e)]
        exact ⟨e', st', h1, h2⟩
      · rename_i e
        rw [if_neg (nbeq_ne.1 e)]
        exact ⟨e', st', h1, h2⟩
    | outgrown => exact hq.elim
    | panic c => obtain ⟨e', st', x, v, h1, h2, h3, h4⟩ := hq; exact ⟨e', st', x, v, h1, h2, h3, h4⟩
    | _ => obtain ⟨e', st', h1, h2⟩ := hq; exact ⟨e', st', h1, h2⟩
  | .cond c x y, e, st, K, a, w, h, hk => by
    simp only [vcCode] at hk
    split at hk <;> try (exact hk.elim)
    · rename_i q hq
      have := h.tmok c _ hq
      simp only [RepSV] at this
      split at hk
      · exact wp_cond_true this (vcCode_sound hty hm x e st K a w h hk)
      · exact wp_cond_false this (vcCode_sound hty hm y e st K a w h hk)
    · rename_i q hq
      have := h.tmok c _ hq
      simp only [RepSV, RepD] at this
      split at hk
      · rename_i t T H n
        have hkn := h.know (d := t) (c := q) hq
        cases q
        · exact wp_cond_false this (vcCode_sound hty hm y e _ K a w hkn (hk.2 rfl))
        · exact wp_cond_true this (vcCode_sound hty hm x e _ K a w hkn (hk.1 rfl))
      · cases q
        · exact wp_cond_false this (vcCode_sound hty hm y e _ K a w h (hk.2 rfl))
        · exact wp_cond_true this (vcCode_sound hty hm x e _ K a w h (hk.1 rfl))
  | .region id ops false, e, st, K, a, w, h, hk => by
    simp only [vcCode] at hk
    exact wp_region_list (vcSeq_sound hty ops.toList e st _ a w h hk)
  | .region id ops true, e, st, K, a, w, h, hk => by
    simp only [vcCode] at hk
    split at hk <;> try (exact hk.elim)
    rename_i plan hL
    obtain ⟨hb, hk⟩ := hk
    simp only [Bool.and_eq_true] at hb
    obtain ⟨⟨⟨b1, b2⟩, bf⟩, b3⟩ := hb
    have hd := h.drew
    split at hk
    · rw [pubTK_eq] at hk
      refine wp_region_any hm (AnyR.any (Z := Agr e [] { w with drawn := w.drawn + 1 }) (F := plan.fins) _ _ _ _ ?_)
      refine vcPlan_sound hty b1 (fun _ => rfl) (fun i o hi => by simp [lk] at hi) plan _ _ _ e st a _ (Nat.le_of_ble_eq_true b2) b3 (fun j hj i hi => ?_) (fun j hj => hj) (ClosedL.zero _ _) hd (.inr ⟨pubTK_get rfl hd.tm, (Kept.refl _ _).m', Agr.refl _ _ _, rfl⟩) hk
      exact List.all_eq_true.1 (List.all_eq_true.1 bf j hj) i hi
    obtain ⟨HL, hk, hHL, hst⟩ := blksK_eq _ _ _ hk
    refine wp_region_any hm (AnyR.any (Z := Agr e HL { w with drawn := w.drawn + 1 }) (F := plan.fins) _ _ _ _ ?_)
    refine vcPlan_sound hty b1 (fun h => by (cases h)) (fun i o hi => hd.hp.ob i o (hHL i o hi).1) plan _ _ st.T e st a _ (Nat.le_of_ble_eq_true b2) b3 (fun j hj i hi => ?_) (fun j hj => hj) (ClosedL.zero _ _) hd (.inr ⟨hd.tm, (Kept.refl _ _).m', Agr.refl _ _ _, hst⟩) hk
    exact List.all_eq_true.1 (List.all_eq_true.1 bf j hj) i hi
  | .loop c, e, st, K, a, w, h, hk => by
    simp only [vcCode] at hk
    obtain ⟨T0, hk⟩ := keepK_get _ _ _ _ hk
    obtain ⟨I, ⟨m0, st0, hI0, hw0⟩, hk⟩ := hk
    let J : Nat → Act → World → Prop := fun n a w => ∃ e st, I n st ∧ Ok b N e st a w
    have key : ∀ n a w, J n a w → (Code.loop c).wp P (Kden b N K) a w := by
      intro n a w hJ
      classical
      let μ : Act → World → Nat := fun a w => if hx : ∃ n, J n a w then Classical.choose (least hx) else 0
      refine wp_loop (fun a w => ∃ n, J n a w) μ ⟨n, hJ⟩ ?_
      intro a w hx
      have hμ : μ a w = Classical.choose (least hx) := by simp only [μ, dif_pos hx]
      obtain ⟨e, st, hI, hok⟩ := (Classical.choose_spec (least hx)).1
      refine wp_mono (vcCode_sound hty hm c e st _ a w hok (hk _ st hI)) fun ex a' w' hq => ?_
      cases ex with
      | normal =>
        obtain ⟨e', st', h1, m, st'', h2, h3, h4⟩ := hq
        obtain ⟨e'', _, h5⟩ := h4 e' a' w' h1
        have hJ' : J m a' w' := ⟨e'', st'', h3, h5⟩
        refine ⟨⟨m, hJ'⟩, ?_⟩
        have : μ a' w' ≤ m := by
          have hx' : ∃ n, J n a' w' := ⟨m, hJ'⟩
          simp only [μ, dif_pos hx']
          exact (Classical.choose_spec (least hx')).2 m hJ'
        omega
      | outgrown => exact hq.elim
      | panic c => obtain ⟨e', st', x, v, h1, h2, h3, h4⟩ := hq; exact ⟨e', st', x, v, h1, h2, h3, h4⟩
      | _ => obtain ⟨e', st', h1, h2⟩ := hq; exact ⟨e', st', h1, h2⟩
    obtain ⟨e', _, h1⟩ := hw0 e a w h
    exact key m0 a w ⟨e', st0, hI0, h1⟩
  | .rangeFunc _ _ _ _, _, _, _, _, _, _, hk => (hk : False).elim
  | .scope c, e, st, K, a, w, h, hk => by
    simp only [vcCode] at hk
    refine wp_scope_straight (wp_mono (vcCode_sound hty hm c e st _ a w h hk) fun ex a w hq => ?_)
    cases ex with
    | goto l =>
      obtain ⟨e', st', h1, h2⟩ := hq
      exact h2.elim
    | outgrown => exact hq.elim
    | panic c => obtain ⟨e', st', x, v, h1, h2, h3, h4⟩ := hq; exact ⟨e', st', x, v, h1, h2, h3, h4⟩
    | _ => obtain ⟨e', st', h1, h2⟩ := hq; exact ⟨e', st', h1, h2⟩
  | .refuse _, _, _, _, _, _, _, hk => (hk : False).elim
end
def mapO (f : SV → Option SV) : List SV → Option (List SV)
  | [] => some []
  | x :: r => match f x, mapO f r with
    | some y, some l => some (y :: l)
    | _, _ => none
def ebn (eb : Nat) : Nat → Nat
  | 0 => 0
  | _ + 1 => eb
def slD (eb n : Nat) (xs : List D) : D := .sl (ebn eb n) n xs
def frz (p : Nat → Bool) (f : Nat → Nat) (H : Hp) : Nat → SV → Option SV
  | 0, _ => none
  | k + 1, x => match x with
    | .d y => some (.d y)
    | .kb c => some (.kb c)
    | .own i off => match p i with
      | false => some (.own (f i) off)
      | true => match lk H i with
        | some (.blk _ cs) => match mapO (frz p f H k) cs with
          | some cs' => match dOf.dOfs cs' with
            | some l => some (.d (.ptr l off))
            | none => none
          | none => none
        | _ => none
    | .row i => match p i with
      | false => some (.row (f i))
      | true => match lk H i with
        | some (.row _ eb _ m xs) => some (.d (slD eb m xs))
        | _ => none
    | .rowp i off => match p i with
      | false => some (.rowp (f i) off)
      | true => match lk H i with
        | some (.row _ _ _ _ xs) => some (.d (.ptr xs off))
        | _ => none
    | .nm i => match p i with
      | false => some (.nm (f i))
      | true => none
    | .osl i n => match p i with
      | false => some (.osl (f i) n)
      | true => none
    | .agg l => match mapO (frz p f H k) l with
      | some m => some (.agg m)
      | none => none
    | .tup l => match mapO (frz p f H k) l with
      | some m => some (.tup m)
      | none => none
    | .fn g a b => match mapO (frz p f H k) a, mapO (frz p f H k) b with
      | some x, some y => some (.fn g x y)
      | _, _ => none
    | .ifc t x => match frz p f H k x with
      | some y => some (.ifc t y)
      | none => none
    | .nl => some .nl
    | .any => none
section
variable {e : Env} {w : World} {H : Hp} {p : Nat → Bool}
def pubN (e : Env) (H : Hp) (p : Nat → Bool) (k : Nat) : Prop := e.pub k ∨ ∃ i, p i = true ∧ has H i ∧ foot e i k
theorem take_get {l : List Value} {n i : Nat} {v : Value} (h : l[i]? = some v) (hi : i < n) : (l.take n)[i]? = some v := by
  rw [List.getElem?_take, if_pos hi]; exact h
theorem mapO_rep {f : SV → Option SV} {e' : Env} (hf : ∀ x y v, f x = some y → RepSV e w x v → RepSV e' w y v) : ∀ {l m : List SV} {vs : List Value}, mapO f l = some m → RepSVs e w l vs → RepSVs e' w m vs
  | [], m, vs, h, hx => by simp only [mapO, Option.some.injEq] at h; subst h; simpa only [RepSVs] using hx
  | x :: r, m, vs, h, hx => by
    simp only [mapO] at h
    split at h <;> try (cases h; done)
    rename_i y l hy hl
    injection h with h; subst h
    simp only [RepSVs] at hx ⊢
    obtain ⟨v, s, e1, h1, h2⟩ := hx
    exact ⟨v, s, e1, hf _ _ _ hy h1, mapO_rep hf hl h2⟩
theorem sl_of_row {S : Nat → Prop} {t : TypeId} {eb sz m c : Nat} {A : Option Addr} {xs : List D} {vs : List Value} (hr : RowOk w ⟨.slice A m c, t, sz, vs⟩) (hx : RepDs S w xs vs) (hS : ∀ g, rowB (.slice A m c) = some g → S g) (hb : m * eb ≤ LB) : RepD S w (slD eb m xs) (.slice A m c) := by
  simp only [slD, RepD]
  refine ⟨A, c, rfl, hr.cap, ?_, fun h0 => hr.some h0, RepC.ofCells hx (hr.cells rfl S hS)⟩
  cases m with
  | zero => simp [ebn, LB]
  | succ m => exact hb
theorem frz_rep {f : Nat → Nat} (hH : HpOk e w H) {m' : List Value} (hm : ∀ (i : Nat) v, e.m[i]? = some v → p i = false → m'[f i]? = some v) : ∀ (k : Nat) (x y : SV) (v : Value), frz p f H k x = some y → RepSV e w x v → RepSV ⟨m', pubN e H p⟩ w y v := by
  have hup : ∀ {x : D} {v : Value}, RepD e.pub w x v → RepD (pubN e H p) w x v := fun h => h.to (Same.rfl' _ _) fun k hk _ => .inl hk
  have hups : ∀ {x : List D} {v : List Value}, RepDs e.pub w x v → RepDs (pubN e H p) w x v := fun h => h.to (Same.rfl' _ _) fun k hk _ => .inl hk
  intro k
  induction k with
  | zero => intro x y v h; simp [frz] at h
  | succ k ih =>
    intro x y v h hx
    simp only [frz] at h
    split at h
    · injection h with h; subst h
      simp only [RepSV] at hx ⊢
      exact hup hx
    · injection h with h; subst h
      simpa only [RepSV] using hx
    · rename_i i off
      simp only [RepSV] at hx
      obtain ⟨g, h1, rfl⟩ := hx
      split at h
      · rename_i hi
        injection h with h; subst h
        simp only [RepSV]
        exact ⟨g, hm _ _ h1 hi, rfl⟩
      · rename_i hi
        split at h <;> try (cases h; done)
        rename_i t cs hb
        split at h <;> try (cases h; done)
        rename_i cs' hcs'
        split at h <;> try (cases h; done)
        rename_i l hl
        injection h with h; subst h
        obtain ⟨g', vs, h2, h3, h4⟩ := hH.ob _ _ hb
        rw [h1] at h2; injection h2 with h2; injection h2 with h2; injection h2 with h2; injection h2 with h2
        subst h2
        have hr := dOfs_rep hl (mapO_rep (fun x y v => ih x y v) hcs' h4)
        simp only [RepSV, RepD]
        refine ⟨⟨g, 0, none⟩, by rw [add_own, Nat.zero_add], RepC.of hr fun j u hu => ⟨_, rfl, .inr ⟨i, hi, by simp [has, hb], _, h1, rfl⟩, ?_⟩⟩
        rw [add_own, cell_own h3, ← Array.getElem?_toList]
        simpa using hu
    · rename_i i
      simp only [RepSV] at hx
      obtain ⟨A, m, c, rfl, h1⟩ := hx
      split at h
      · rename_i hi
        injection h with h; subst h
        simp only [RepSV]
        exact ⟨A, m, c, rfl, hm _ _ h1 hi⟩
      · rename_i hi
        split at h <;> try (cases h; done)
        rename_i t eb sz m' xs hb
        injection h with h; subst h
        obtain ⟨A', c', vs, h2, h3, h4, h5⟩ := hH.ob _ _ hb
        rw [h1] at h2; injection h2 with h2; injection h2 with e1 e2 e3
        subst e1; subst e2; subst e3
        simp only [RepSV]
        exact sl_of_row h3 (hups h4) (fun g hg => .inr ⟨i, hi, by simp [has, hb], _, h1, by rw [footB_slice]; exact hg⟩) h5
    · rename_i i off
      simp only [RepSV] at hx
      obtain ⟨ad, m, c, h1, rfl⟩ := hx
      split at h
      · rename_i hi
        injection h with h; subst h
        simp only [RepSV]
        exact ⟨ad, m, c, hm _ _ h1 hi, rfl⟩
      · rename_i hi
        split at h <;> try (cases h; done)
        rename_i t eb sz m' xs hb
        injection h with h; subst h
        obtain ⟨A', c', vs, h2, h3, h4, h5⟩ := hH.ob _ _ hb
        rw [h1] at h2; injection h2 with h2; injection h2 with e1 e2 e3
        subst e1; subst e2; subst e3
        simp only [RepSV, RepD]
        exact ⟨ad, rfl, RepC.ofCells (hups h4) (h3.cells rfl _ fun g hg => .inr ⟨i, hi, by simp [has, hb], _, h1, by rw [footB_slice]; exact hg⟩)⟩
    · rename_i i
      simp only [RepSV] at hx
      obtain ⟨g, h1, h2⟩ := hx
      split at h <;> try (cases h; done)
      rename_i hi
      injection h with h; subst h
      simp only [RepSV]
      exact ⟨g, h1, hm _ _ h2 hi⟩
    · rename_i i n
      simp only [RepSV] at hx
      obtain ⟨g, h1, h2⟩ := hx
      split at h <;> try (cases h; done)
      rename_i hi
      injection h with h; subst h
      simp only [RepSV]
      exact ⟨g, hm _ _ h1 hi, h2⟩
    · rename_i l
      split at h <;> try (cases h; done)
      rename_i m hm
      injection h with h; subst h
      simp only [RepSV] at hx ⊢
      obtain ⟨l', e1, h1⟩ := hx
      exact ⟨l', e1, mapO_rep (fun x y v => ih x y v) hm h1⟩
    · rename_i l
      split at h <;> try (cases h; done)
      rename_i m hm
      injection h with h; subst h
      simp only [RepSV] at hx ⊢
      obtain ⟨l', e1, h1⟩ := hx
      exact ⟨l', e1, mapO_rep (fun x y v => ih x y v) hm h1⟩
    · rename_i g a b
      split at h <;> try (cases h; done)
      rename_i x y hxx hyy
      injection h with h; subst h
      simp only [RepSV] at hx ⊢
      obtain ⟨a', b', e1, h1, h2⟩ := hx
      exact ⟨a', b', e1, mapO_rep (fun x y v => ih x y v) hxx h1, mapO_rep (fun x y v => ih x y v) hyy h2⟩
    · rename_i t x'
      split at h <;> try (cases h; done)
      rename_i y' hy
      injection h with h; subst h
      simp only [RepSV] at hx ⊢
      obtain ⟨z, e1, h1⟩ := hx
      exact ⟨z, e1, ih _ _ _ hy h1⟩
    · injection h with h; subst h
      simpa only [RepSV] using hx
    · cases h
end
end Go.Vx


/- Calls: contracts, and how they come out of conditions. -/
namespace Go.Vx
open Go.RowKit Go.Vc
inductive Out where
  | ret (x : SV) | pan (x : SV)
def OutOk (e : Env) (w : World) : Out → Ending → Prop
  | .ret x, en => ∃ v, en = .returned v ∧ RepSV e w x v
  | .pan x, en => ∃ v, en = .panicked [{ v, recovered := false }] ∧ RepSV e w x v
def feet (e : Env) (H : Hp) (k : Nat) : Prop := ∃ i, has H i ∧ foot e i k
mutual
def rn (f : Nat → Nat) : SV → SV
  | .own i o => .own (f i) o
  | .row i => .row (f i)
  | .rowp i o => .rowp (f i) o
  | .nm i => .nm (f i)
  | .osl i n => .osl (f i) n
  | .agg l => .agg (rns f l)
  | .tup l => .tup (rns f l)
  | .fn g a b => .fn g (rns f a) (rns f b)
  | .ifc t x => .ifc t (rn f x)
  | .d x => .d x
  | .kb b => .kb b
  | .nl => .nl
  | .any => .any
def rns (f : Nat → Nat) : List SV → List SV
  | [] => []
  | x :: r => rn f x :: rns f r
end
mutual
theorem rn_rep {f : Nat → Nat} {e e' : Env} {w : World} (hp : e'.pub = e.pub) (hm : ∀ (i : Nat) v, e.m[i]? = some v → e'.m[f i]? = some v) : ∀ {x : SV} {v : Value}, RepSV e w x v → RepSV e' w (rn f x) v
  | .d x, v, hx => by simp only [rn, RepSV] at hx ⊢; rw [hp]; exact hx
  | .kb b, v, hx => by simpa only [rn, RepSV] using hx
  | .osl i n, v, hx => by
    simp only [rn, RepSV] at hx ⊢
    obtain ⟨g, h1, h2⟩ := hx
    exact ⟨g, hm _ _ h1, h2⟩
  | .nm i, v, hx => by
    simp only [rn, RepSV] at hx ⊢
    obtain ⟨g, h1, h2⟩ := hx
    exact ⟨g, h1, hm _ _ h2⟩
  | .nl, v, hx => by simpa only [rn, RepSV] using hx
  | .any, v, hx => by simp only [rn, RepSV]
  | .own i off, v, hx => by
    simp only [rn, RepSV] at hx ⊢
    obtain ⟨g, h1, h2⟩ := hx
    exact ⟨g, hm _ _ h1, h2⟩
  | .row i, v, hx => by
    simp only [rn, RepSV] at hx ⊢
    obtain ⟨A, n, c, h1, h2⟩ := hx
    exact ⟨A, n, c, h1, hm _ _ h2⟩
  | .rowp i off, v, hx => by
    simp only [rn, RepSV] at hx ⊢
    obtain ⟨ad, n, c, h1, h2⟩ := hx
    exact ⟨ad, n, c, hm _ _ h1, h2⟩
  | .agg l, v, hx => by
    simp only [rn, RepSV] at hx ⊢
    obtain ⟨l', e1, h1⟩ := hx
    exact ⟨l', e1, rns_rep hp hm h1⟩
  | .tup l, v, hx => by
    simp only [rn, RepSV] at hx ⊢
    obtain ⟨l', e1, h1⟩ := hx
    exact ⟨l', e1, rns_rep hp hm h1⟩
  | .fn g a b, v, hx => by
    simp only [rn, RepSV] at hx ⊢
    obtain ⟨a', b', e1, h1, h2⟩ := hx
    exact ⟨a', b', e1, rns_rep hp hm h1, rns_rep hp hm h2⟩
  | .ifc t x, v, hx => by
    simp only [rn, RepSV] at hx ⊢
    obtain ⟨y, e1, h1⟩ := hx
    exact ⟨y, e1, rn_rep hp hm h1⟩
theorem rns_rep {f : Nat → Nat} {e e' : Env} {w : World} (hp : e'.pub = e.pub) (hm : ∀ (i : Nat) v, e.m[i]? = some v → e'.m[f i]? = some v) : ∀ {l : List SV} {v : List Value}, RepSVs e w l v → RepSVs e' w (rns f l) v
  | [], v, hx => by simpa only [rns, RepSVs] using hx
  | x :: r, v, hx => by
    simp only [rns, RepSVs] at hx ⊢
    obtain ⟨u, s, e1, h1, h2⟩ := hx
    exact ⟨u, s, e1, rn_rep hp hm h1, rns_rep hp hm h2⟩
end
def rnO (f : Nat → Nat) : Ob → Ob
  | .blk t cs => .blk t (rns f cs)
  | .row t eb sz n xs => .row t eb sz n xs
  | .ab φ => .ab φ
structure Left (G : Glob) (q : Nat) (e : Env) (w : World) (H : Hp) (e' : Env) (w' : World) (H' : Hp) : Prop where
  hp : HpOk e' w' H'
  len : e'.m.length = e.m.length + q
  only : Only (feet e H) w w'
  dr : G.d w w'
  m : ∀ (i : Nat) v, e.m[i]? = some v → (∀ A n c, v ≠ .slice A n c) → e'.m[i]? = some v
  up : ∀ k, e.pub k → e'.pub k
  frm : ∀ k, e'.pub k → e.pub k ∨ feet e H k ∨ w.heap.size ≤ k
  dom : ∀ i, has H' i → i < e.m.length + q
  ft : ∀ i k, has H' i → foot e' i k → feet e H k ∨ w.heap.size ≤ k
def Tri (P : Program) (G : Glob) (f : FuncId) (n q : Nat) (args : List SV) (H : Hp) (Q : Out → Hp → Prop) : Prop :=
  ∀ (e : Env) (w : World) (vs : List Value), e.m.length = n → RepSVs e w args vs → HpOk e w H → G.p e.pub w →
    Calls P f vs.toArray w fun en w' => ∃ o H' e', Q o H' ∧ OutOk e' w' o en ∧ Left G q e w H e' w' H'
section
variable {P : Program} {ty : List (Nat × TY)} {N : Nat} {plans : List (Nat × Pl)}
def resL (ty : List (Nat × TY)) (T : Tl) (H : Hp) : List ResultVar → Option (List SV)
  | [] => some []
  | .tmp t :: r => match lk T t, resL ty T H r with
    | some x, some l => some (x :: l)
    | _, _ => none
  | .cell a t :: r => match lk T a with
    | some (.own _ _) => match pOp ty T H (.load t (.tmp a)), resL ty T H r with
      | some x, some l => some (x :: l)
      | _, _ => none
    | _ => none
def posN (i : Nat) : List Nat → Option Nat
  | [] => none
  | k :: r => match Nat.beq k i with
    | true => some 0
    | false => match posN i r with
      | some p => some (p + 1)
      | none => none
def goneB (n : Nat) (kp : List Nat) (i : Nat) : Bool :=
  match Nat.blt i n with
  | true => false
  | false => match posN i kp with
    | some _ => false
    | none => true
def renN (n : Nat) (kp : List Nat) (i : Nat) : Nat :=
  match Nat.blt i n with
  | true => i
  | false => match posN i kp with
    | some p => n + p
    | none => i
def frzO (p : Nat → Bool) (H0 : Hp) (f : Nat → Nat) : Ob → Option Ob
  | .blk t cs => match mapO (frz p f H0 20) cs with
    | some cs' => some (.blk t cs')
    | none => none
  | .row t eb sz m xs => some (.row t eb sz m xs)
  | .ab φ => some (.ab φ)
def upN : Nat → Nat → List Nat
  | _, 0 => []
  | n, q + 1 => n :: upN (n + 1) q
def leftK (n : Nat) (kp : List Nat) (H0 : Hp) : List Nat → (Hp → Prop) → Prop
  | [], K => K []
  | i :: r, K => match goneB n kp i with
    | false => match lk H0 i with
      | some o => match frzO (goneB n kp) H0 (renN n kp) o with
        | some (.blk t cs) => nrmL cs fun cs => leftK n kp H0 r fun l => K ((renN n kp i, .blk t cs) :: l)
        | some (.row t eb sz m xs) => leftK n kp H0 r fun l => K ((renN n kp i, .row t eb sz m xs) :: l)
        | some (.ab φ) => leftK n kp H0 r fun l => K ((renN n kp i, .ab φ) :: l)
        | none => leftK n kp H0 r K
      | none => leftK n kp H0 r K
    | true => leftK n kp H0 r K
def one : List SV → SV
  | [x] => x
  | l => .tup l
def endK (ty : List (Nat × TY)) (n : Nat) (kp : List Nat) (rs : List ResultVar) (Q : Out → Hp → Prop) (st : St) : Prop :=
  match resL ty st.T st.H rs with
  | some l => match frz (goneB n kp) (renN n kp) st.H 20 (one l) with
    | some x => leftK n kp st.H (upN 0 n ++ kp) fun H' => Q (.ret x) H'
    | none => False
  | none => False
def retK (ty : List (Nat × TY)) (n : Nat) (kp : List Nat) (rs : List ResultVar) (Q : Out → Hp → Prop) : SExit → St → Prop
  | .normal, st => endK ty n kp rs Q st
  | .ret, st => endK ty n kp rs Q st
  | .pan x, st => match frz (goneB n kp) (renN n kp) st.H 20 x with
    | some x => leftK n kp st.H (upN 0 n ++ kp) fun H' => Q (.pan x) H'
    | none => False
  | _, _ => False
theorem resL_sound (hty : Tys P ty) {G : Glob} {n0 : Nat} {b : Bs G n0} {e : Env} {st : St} {a : Act} {w : World} (h : Ok b N e st a w) : ∀ (rs : List ResultVar) (l : List SV), resL ty st.T st.H rs = some l →
    ∃ vs, (rs.mapM (resR a.tmps)).run P w = .ok vs w ∧ RepSVs e w l vs
  | [], l, hl => by simp [resL] at hl; subst hl; exact ⟨[], by simp [go_sem], by simp [RepSVs]⟩
  | .tmp t :: r, l, hl => by
    simp only [resL] at hl
    split at hl <;> try (cases hl; done)
    rename_i x l' hx hl'
    injection hl with hl; subst hl
    obtain ⟨vs, h1, h2⟩ := resL_sound hty h r l' hl'
    refine ⟨_ :: vs, ?_, by simp only [RepSVs]; exact ⟨_, _, rfl, h.tm t x hx, h2⟩⟩
    rw [List.mapM_cons, resR_tmp]
    simp only [Sem.run_bind, Sem.run_pure, Result.andThen_ok, h1]
  | .cell ad t :: r, l, hl => by
    simp only [resL] at hl
    split at hl <;> try (cases hl; done)
    rename_i i off hi
    split at hl <;> try (cases hl; done)
    rename_i x l' hx hl'
    injection hl with hl; subst hl
    obtain ⟨vs, h1, h2⟩ := resL_sound hty h r l' hl'
    obtain ⟨v, q1, q2⟩ := pOp_sound hty h.tmok h.hp.ob (o := { dst := none, op := .load t (.tmp ad), type := 0, pos := "", after := #[], guard := none }) hx
    have hp := q2 w fun _ => Agr.refl _ _ _
    have ha := h.tm ad _ hi
    simp only [RepSV] at ha
    obtain ⟨g, _, ha⟩ := ha
    refine ⟨v :: vs, ?_, by simp only [RepSVs]; exact ⟨_, _, rfl, q1, h2⟩⟩
    rw [List.mapM_cons, resR_cell]
    have he : (a.eval (.tmp ad)) = .pointer (some ⟨g, off, none⟩) := ha
    simp only [execOp, Instr.loadAt, he, Instr.sureAddr, Sem.run_bind, Sem.run_pure, Result.andThen_ok] at hp
    have hp2 : (loadVar t ⟨g, off, none⟩).run P w = .ok v w := by
      generalize (loadVar t ⟨g, off, none⟩).run P w = q at hp
      cases q with
      | ok v w' => simp [Result.andThen] at hp; obtain ⟨h1, h2⟩ := hp; rw [h1, h2]
      | halt _ _ => simp [Result.andThen] at hp
    simp only [ha, asAddr, Sem.run_bind, Sem.run_pure, Result.andThen_ok, hp2, h1]
theorem leftK_get {n : Nat} {kp : List Nat} {H0 : Hp} : ∀ (H : List Nat) (K : Hp → Prop), leftK n kp H0 H K → ∃ H', K H' ∧ ∀ i o, lk H' i = some o → ∃ i0, goneB n kp i0 = false ∧ i = renN n kp i0 ∧ ∃ o0, lk H0 i0 = some o0 ∧ frzO (goneB n kp) H0 (renN n kp) o0 = some o
  | [], K, h => ⟨[], h, fun i o ho => by simp [lk] at ho⟩
  | i :: r, K, h => by
    simp only [leftK] at h
    split at h
    · rename_i hi
      split at h
      · rename_i o ho
        have step : ∀ o', frzO (goneB n kp) H0 (renN n kp) o = some o' → leftK n kp H0 r (fun l => K ((renN n kp i, o') :: l)) → ∃ H', K H' ∧ ∀ i o, lk H' i = some o → ∃ i0, goneB n kp i0 = false ∧ i = renN n kp i0 ∧ ∃ o0, lk H0 i0 = some o0 ∧ frzO (goneB n kp) H0 (renN n kp) o0 = some o := by
          intro o' ho' h
          obtain ⟨H', h1, h2⟩ := leftK_get r _ h
          refine ⟨_, h1, fun j q hq => ?_⟩
          simp only [lk] at hq
          split at hq
          · rename_i e
            injection hq with hq; subst hq
            exact ⟨i, hi, (nbeq.1 e).symm, o, ho, ho'⟩
          · exact h2 j q hq
        split at h
        · rename_i t cs hf
          rw [nrmL_eq] at h
          exact step _ hf h
        · rename_i t eb sz m xs hf
          exact step _ hf h
        · rename_i φ hf
          exact step _ hf h
        · exact leftK_get r K h
      · exact leftK_get r K h
    · exact leftK_get r K h
theorem posN_get : ∀ {l : List Nat} {i p : Nat}, posN i l = some p → l[p]? = some i
  | [], i, p, h => by simp [posN] at h
  | k :: r, i, p, h => by
    simp only [posN] at h
    split at h
    · rename_i e; injection h with h; subst h; rw [← nbeq.1 e]; rfl
    · split at h
      · rename_i q hq
        injection h with h; subst h
        simpa using posN_get hq
      · cases h
theorem blt_true {i n : Nat} (h : i < n) : Nat.blt i n = true := by rw [Nat.blt_eq]; exact h
theorem goneB_lt {n : Nat} {kp : List Nat} {i : Nat} (h : i < n) : goneB n kp i = false := by
  unfold goneB
  rw [blt_true h]
theorem left_of {G : Glob} {n0 : Nat} {b : Bs G n0} {e0 e : Env} {w0 w : World} {H0 H' : Hp} {st : St} {a : Act} {n : Nat} {kp : List Nat} (h : Ok b N e st a w) (hn0 : e0.m.length = n0) {ds : List Deferred} (hb : b = ⟨w0, e0.pub, feet e0 H0, e0.m, hn0, ds⟩) (hn : e0.m.length = n) (hH : ∀ i o, lk H' i = some o → ∃ i0, goneB n kp i0 = false ∧ i = renN n kp i0 ∧ ∃ o0, lk st.H i0 = some o0 ∧ frzO (goneB n kp) st.H (renN n kp) o0 = some o) :
    ∃ e', (∀ x y v, frz (goneB n kp) (renN n kp) st.H 20 x = some y → RepSV e w x v → RepSV e' w y v) ∧ Left G kp.length e0 w0 H0 e' w H' := by
  subst hb
  have hle : n ≤ e.m.length := by have := h.pre.le; simp only at this; omega
  have hmm : ∀ (i : Nat) v, e.m[i]? = some v → goneB n kp i = false → (e.m.take n ++ kp.map (fun i => e.m.getD i undef))[renN n kp i]? = some v := by
    intro i v hv hg
    unfold goneB at hg
    unfold renN
    cases hb : Nat.blt i n with
    | true =>
      have hi : i < n := by simpa using hb
      rw [List.getElem?_append_left (by simp; omega)]
      exact take_get hv hi
    | false =>
      rw [hb] at hg
      simp only at hg ⊢
      cases hp : posN i kp with
      | none => rw [hp] at hg; cases hg
      | some p =>
        have hk := posN_get hp
        rw [List.getElem?_append_right (by simp; omega)]
        simp only [List.length_take, Nat.min_eq_left hle, Nat.add_sub_cancel_left, List.getElem?_map, hk, Option.map_some, List.getD_eq_getElem?_getD, hv, Option.getD_some]
  have back : ∀ (i0 : Nat) u, goneB n kp i0 = false → (∃ v, e.m[i0]? = some v) → (e.m.take n ++ kp.map (fun i => e.m.getD i undef))[renN n kp i0]? = some u → e.m[i0]? = some u := by
    rintro i0 u hg ⟨v, hv⟩ hu
    rw [hmm i0 v hv hg] at hu
    injection hu with hu; rw [hv, hu]
  have hob : ∀ i0, has st.H i0 → ∃ v, e.m[i0]? = some v := by
    intro i0 hi
    obtain ⟨o, ho⟩ := Option.isSome_iff_exists.1 hi
    have := h.hp.ob i0 o ho
    cases o with
    | blk t cs => obtain ⟨g, vs, h1, _⟩ := this; exact ⟨_, h1⟩
    | row t eb sz n xs => obtain ⟨A, c, vs, h1, _⟩ := this; exact ⟨_, h1⟩
    | ab φ => obtain ⟨v', g, o, h1, _⟩ := this; exact ⟨_, h1⟩
  have hd : ∀ i, has H' i → ∃ i0, goneB n kp i0 = false ∧ i = renN n kp i0 ∧ has st.H i0 := by
    intro i hi
    obtain ⟨o, ho⟩ := Option.isSome_iff_exists.1 hi
    obtain ⟨i0, h1, h2, o0, h3, _⟩ := hH i o ho
    exact ⟨i0, h1, h2, by simp [has, h3]⟩
  have ft : ∀ i0 k, goneB n kp i0 = false → has st.H i0 → foot ⟨e.m.take n ++ kp.map (fun i => e.m.getD i undef), pubN e st.H (goneB n kp)⟩ (renN n kp i0) k → foot e i0 k := by
    rintro i0 k hg hi ⟨v, h1, h2⟩
    exact ⟨v, back i0 v hg (hob i0 hi) h1, h2⟩
  have hup : ∀ {x : List D} {v : List Value}, RepDs e.pub w x v → RepDs (pubN e st.H (goneB n kp)) w x v := fun h => h.to (Same.rfl' _ _) fun k hk _ => .inl hk
  refine ⟨⟨e.m.take n ++ kp.map (fun i => e.m.getD i undef), pubN e st.H (goneB n kp)⟩, fun x y v => frz_rep h.hp hmm 20 x y v, ⟨fun i o ho => ?_, fun i j k hi hj hne h1 h2 => ?_, fun i k hi h1 h2 => ?_, fun k hk => ?_⟩, by simp; omega, h.below, h.dr, fun i v hi hv => ?_, fun k hk => .inl (h.pre.up k hk), fun k hk => ?_, fun i hi => ?_, fun i k hi h1 => ?_⟩
  · obtain ⟨i0, h1, rfl, o0, h2, h3⟩ := hH i o ho
    have := h.hp.ob i0 o0 h2
    cases o0 with
    | blk t cs =>
      obtain ⟨g, vs, q1, q2, q3⟩ := this
      simp only [frzO] at h3
      split at h3 <;> try (cases h3; done)
      rename_i cs' hcs
      injection h3 with h3; subst h3
      exact ⟨g, vs, hmm _ _ q1 h1, q2, mapO_rep (fun x y v => frz_rep h.hp hmm 20 x y v) hcs q3⟩
    | row t eb sz m xs =>
      obtain ⟨A, c, vs, q1, q2, q3, q4⟩ := this
      simp only [frzO, Option.some.injEq] at h3; subst h3
      exact ⟨A, c, vs, hmm _ _ q1 h1, q2, hup q3, q4⟩
    | ab φ =>
      obtain ⟨v', g, o', q1, q2, q3, q4, q5⟩ := this
      simp only [frzO, Option.some.injEq] at h3; subst h3
      exact ⟨v', g, o', hmm _ _ q1 h1, q2, q3, q4, φ.up q5 (Same.rfl' _ _) fun k hk _ => .inl hk⟩
  · obtain ⟨i0, hi1, rfl, hi2⟩ := hd i hi
    obtain ⟨j0, hj1, rfl, hj2⟩ := hd j hj
    exact h.hp.sep i0 j0 k hi2 hj2 (by rintro rfl; exact hne rfl) (ft i0 k hi1 hi2 h1) (ft j0 k hj1 hj2 h2)
  · obtain ⟨i0, hi1, rfl, hi2⟩ := hd i hi
    have h1' := ft i0 k hi1 hi2 h1
    rcases h2 with h2 | ⟨j, h3, h4, h5⟩
    · exact h.hp.npub i0 k hi2 h1' h2
    · exact h.hp.sep i0 j k hi2 h4 (by rintro rfl; rw [hi1] at h3; cases h3) h1' h5
  · rcases hk with hk | ⟨j, h3, h4, h5⟩
    · exact h.hp.pubLt k hk
    · exact h.hp.lt h4 h5
  · have hlt : i < n := by have := (List.getElem?_eq_some_iff.1 hi).1; omega
    have := hmm i v (h.pre.m i v hi hv) (goneB_lt hlt)
    have e1 : renN n kp i = i := by unfold renN; rw [blt_true hlt]
    rwa [e1] at this
  · rcases hk with hk | ⟨j, h3, h4, h5⟩
    · exact (h.frm k hk).imp id fun h' => h'
    · exact .inr (h.mine j k h4 h5)
  · obtain ⟨i0, hi1, rfl, hi2⟩ := hd i hi
    obtain ⟨v, hv⟩ := hob i0 hi2
    have := (List.getElem?_eq_some_iff.1 (hmm i0 v hv hi1)).1
    simp at this; omega
  · obtain ⟨i0, hi1, rfl, hi2⟩ := hd i hi
    exact h.mine i0 k hi2 (ft i0 k hi1 hi2 h1)
def numbS' : Nat → List SV → Tl
  | _, [] => []
  | n, v :: r => (n, v) :: numbS' (n + 1) r
theorem numbS_getS : ∀ (l : List SV) (n t : Nat) (sv : SV), lk (numbS' n l) t = some sv → n ≤ t ∧ l[t - n]? = some sv
  | [], n, t, sv, h => by simp [numbS', lk] at h
  | v :: r, n, t, sv, h => by
    simp only [numbS', lk] at h
    split at h
    · rename_i e
      obtain rfl := nbeq.1 e
      injection h with h; subst h
      exact ⟨Nat.le_refl _, by simp⟩
    · obtain ⟨h1, h2⟩ := numbS_getS r (n + 1) t sv h
      refine ⟨by omega, ?_⟩
      rw [show t - n = (t - (n + 1)) + 1 from by omega]
      simpa using h2
theorem tri_of_vc (hty : Tys P ty) (hm : P.follows .mixedOrders = true) {f : FuncId} {fn : Func} {c : Code} {n : Nat} {args : List SV} {H : Hp} {Q : Out → Hp → Prop}
    {G : Glob} (kp : List Nat) (plans : List (Nat × Pl)) (hf : P.funcs[f]? = some fn) (hb : fn.body = some c) (hn : fn.ntmps = N) (ha : args.length ≤ N)
    (h : ∀ b : Bs G n, vcCode P ty b N plans c ⟨numbS' 0 args, H, n⟩ (retK ty n kp fn.results.toList Q)) : Tri P G f n kp.length args H Q := by
  intro e w vs hlen hargs hH hG
  have hal := hargs.len
  let b : Bs G n := ⟨w, e.pub, feet e H, e.m, hlen, []⟩
  have ok0 : Ok b N e ⟨numbS' 0 args, H, n⟩ { tmps := vs.toArray ++ Array.replicate (fn.ntmps - vs.toArray.size) undef, defers := [] } w := by
    refine ⟨by simp; omega, rfl, hlen, ?_, hH, Only.refl _ _, G.dm (Nat.le_refl _), fun i k hi hk => .inl ⟨i, hi, hk⟩, fun k hk => .inl hk, ⟨fun i v h _ => h, Nat.le_refl _, fun k hk => hk⟩, hG⟩
    intro t sv ht
    obtain ⟨_, hv⟩ := numbS_getS args 0 t sv ht
    simp only [Nat.sub_zero] at hv
    obtain ⟨v, hv1, hv2⟩ := hargs.get hv
    have hlt : t < vs.length := (List.getElem?_eq_some_iff.1 hv1).1
    simp only [Array.getD_eq_getD_getElem?]
    rw [Array.getElem?_append_left (by simpa using hlt), List.getElem?_toArray, hv1]
    exact hv2
  refine calls_of_wp hf hb (wp_mono (vcCode_sound hty hm c e _ _ _ _ ok0 (h b)) ?_)
  have fin : ∀ (e' : Env) (st : St) (a : Act) (w' : World), Ok b N e' st a w' → endK ty n kp fn.results.toList Q st → a.defers = [] ∧ ∃ v, (results fn a.tmps).run P w' = .ok v w' ∧ ∃ o H' e'', Q o H' ∧ OutOk e'' w' o (.returned v) ∧ Left G kp.length e w H e'' w' H' := by
    intro e' st a w' hok hk
    refine ⟨hok.df, ?_⟩
    unfold endK at hk
    split at hk <;> try (exact hk.elim)
    rename_i l hl
    split at hk <;> try (exact hk.elim)
    rename_i x hx
    obtain ⟨vs', r1, r2⟩ := resL_sound hty hok _ _ hl
    obtain ⟨H', q1, q2⟩ := leftK_get _ _ hk
    have hone : RepSV e' w' (one l) (match vs' with | [v] => v | l => .tuple l.toArray) := by
      have := r2.len
      match l, vs', r2 with
      | [], [], _ => simp only [one, RepSV]; exact ⟨_, rfl, by simp [RepSVs]⟩
      | [x], [v], r2 =>
        simp only [RepSVs] at r2
        obtain ⟨v', s, e1, h1, h2⟩ := r2
        injection e1 with e1 e2; subst e1
        exact h1
      | x :: y :: r, v :: u :: s, r2 => simp only [one, RepSV]; exact ⟨_, rfl, r2⟩
      | [], _ :: _, r2 => simp [RepSVs] at r2
      | [_], [], r2 => simp at this
      | [_], _ :: _ :: _, r2 => simp at this
      | _ :: _ :: _, [], r2 => simp at this
      | _ :: _ :: _, [_], r2 => simp at this
    obtain ⟨e2, f1, f2⟩ := left_of hok hlen rfl hlen q2
    refine ⟨_, ?_, .ret x, H', e2, q1, ⟨_, rfl, f1 _ _ _ hx hone⟩, f2⟩
    unfold results
    rw [Array.mapM_eq_mapM_toList, map_eq_pure_bind]
    simp only [Sem.run_bind]
    have this' : ∀ g : ResultVar → Sem Value, g = resR a.tmps → (fn.results.toList.mapM g).run P w' = .ok vs' w' := fun g hg => by rw [hg]; exact r1
    rw [this' _ (by funext x; cases x <;> rfl)]
    simp only [Result.andThen_ok, Sem.run_pure]
    match vs' with
    | [] => simp
    | [x] => simp
    | x :: y :: r => simp
  intro ex a w' hq
  cases ex with
  | normal => obtain ⟨e', st, h1, h2⟩ := hq; exact fin e' st a w' h1 h2
  | ret => obtain ⟨e', st, h1, h2⟩ := hq; exact fin e' st a w' h1 h2
  | exit id => obtain ⟨e', st, h1, h2⟩ := hq; exact h2.elim
  | goto l => obtain ⟨e', st, h1, h2⟩ := hq; exact h2.elim
  | panic c =>
    obtain ⟨e', st, x, v, h1, h2, h3, h4⟩ := hq
    subst h1
    simp only [retK] at h4
    split at h4 <;> try (exact h4.elim)
    rename_i x' hx'
    obtain ⟨H', q1, q2⟩ := leftK_get _ _ h4
    obtain ⟨e2, f1, f2⟩ := left_of h3 hlen rfl hlen q2
    exact ⟨h3.df, .pan x', H', e2, q1, ⟨v, rfl, f1 _ _ _ hx' h2⟩, f2⟩
  | outgrown => exact hq.elim
end
end Go.Vx


/- Laws of calls. -/
namespace Go.Vx
open Go.RowKit Go.Vc
inductive DOut where
  | ret (x : D) | pan (x : D)
def DOutOk (S : Nat → Prop) (w : World) : DOut → Ending → Prop
  | .ret x, en => ∃ v, en = .returned v ∧ RepD S w x v
  | .pan x, en => ∃ v, en = .panicked [{ v, recovered := false }] ∧ RepD S w x v
def FnQ (P : Program) (G : Glob) (f : FuncId) (ds : List D) (Q : DOut → Prop) : Prop :=
  ∀ (S : Nat → Prop) (w : World) (vs : List Value), RepDs S w ds vs → (∀ k, S k → k < w.heap.size) → G.p S w →
    Calls P f vs.toArray w fun en w' => ∃ o S', Q o ∧ DOutOk S' w' o en ∧ (Below w.heap.size w w' ∧ G.d w w') ∧ (∀ k, S k → S' k) ∧ (∀ k, S' k → S k ∨ w.heap.size ≤ k) ∧ ∀ k, S' k → k < w'.heap.size
def retD (r : D) : DOut → Prop
  | .ret y => y = r
  | .pan _ => False
abbrev FnR (P : Program) (G : Glob) (f : FuncId) (ds : List D) (r : D) : Prop := FnQ P G f ds (retD r)
def closeQ (Q : DOut → Prop) : Out → Hp → Prop
  | .ret x, _ => match dOf x with
    | some y => Q (.ret y)
    | none => False
  | .pan x, _ => match dOf x with
    | some y => Q (.pan y)
    | none => False
section
variable {P : Program} {G : Glob} {ty : List (Nat × TY)} {N : Nat} {plans : List (Nat × Pl)}
theorem HpOk.nil {S : Nat → Prop} {w : World} (h : ∀ k, S k → k < w.heap.size) : HpOk ⟨[], S⟩ w [] :=
  ⟨fun i o ho => by simp [lk] at ho, fun i j k hi => by simp [has, lk] at hi, fun i k hi => by simp [has, lk] at hi, h⟩
theorem fnQ_of_tri {f : FuncId} {ds : List D} {Q : DOut → Prop} (h : Tri P G f 0 0 (ds.map .d) [] (closeQ Q)) : FnQ P G f ds Q := by
  intro S w vs hds hS hG
  refine (h ⟨[], S⟩ w vs rfl (RepSVs.ofD.1 hds) (HpOk.nil hS) hG).mono ?_
  rintro en w' ⟨o, H', e', hq, ho, hl⟩
  have hf : ∀ k, ¬ feet ⟨[], S⟩ [] k := by rintro k ⟨i, hi, _⟩; simp [has, lk] at hi
  have hb : Below w.heap.size w w' := ⟨hl.only.os, hl.only.tape, hl.only.output, hl.only.size, fun k hk => hl.only.block k hk (hf k)⟩
  have hfr : ∀ k, e'.pub k → S k ∨ w.heap.size ≤ k := fun k hk => by
    rcases hl.frm k hk with h | h | h
    · exact .inl h
    · exact (hf k h).elim
    · exact .inr h
  cases o with
  | ret x =>
    simp only [closeQ] at hq
    split at hq <;> try (exact hq.elim)
    rename_i y hy
    obtain ⟨v, h1, h2⟩ := ho
    exact ⟨.ret y, e'.pub, hq, ⟨v, h1, dOf_rep hy h2⟩, ⟨hb, hl.dr⟩, hl.up, hfr, hl.hp.pubLt⟩
  | pan x =>
    simp only [closeQ] at hq
    split at hq <;> try (exact hq.elim)
    rename_i y hy
    obtain ⟨v, h1, h2⟩ := ho
    exact ⟨.pan y, e'.pub, hq, ⟨v, h1, dOf_rep hy h2⟩, ⟨hb, hl.dr⟩, hl.up, hfr, hl.hp.pubLt⟩
theorem fnQ_of_vc (hty : Tys P ty) (hm : P.follows .mixedOrders = true) {f : FuncId} {fn : Func} {c : Code} {ds : List D} {Q : DOut → Prop}
    (plans : List (Nat × Pl)) (hf : P.funcs[f]? = some fn) (hb : fn.body = some c) (hn : fn.ntmps = N) (ha : (ds.map SV.d).length ≤ N)
    (h : ∀ b : Bs G 0, nrmL (ds.map .d) fun args => vcCode P ty b N plans c ⟨numbS' 0 args, [], 0⟩ (retK ty 0 [] fn.results.toList (closeQ Q))) : FnQ P G f ds Q :=
  fnQ_of_tri (tri_of_vc hty hm [] plans hf hb hn ha fun b => by have := h b; rwa [nrmL_eq] at this)
theorem FnQ.mono {f : FuncId} {ds : List D} {Q Q' : DOut → Prop} (h : FnQ P G f ds Q) (hq : ∀ o, Q o → Q' o) : FnQ P G f ds Q' := by
  intro S w vs hds hS hG
  refine (h S w vs hds hS hG).mono ?_
  rintro en w' ⟨o, S', h1, h2⟩
  exact ⟨o, S', hq _ h1, h2⟩
def callOf (T : Tl) : Op → Option (FuncId × List SV)
  | .call { callee := .value fn, args := as, .. } => match ev T fn, evs T as.toList with
    | some (.d (.fn f a b)), some l => some (f, dL a ++ l ++ dL b)
    | some (.fn f a b), some l => some (f, a ++ l ++ b)
    | _, _ => none
  | _ => none
theorem callOf_run {e : Env} {w : World} {T : Tl} {g : Operand → Value} (hT : TmOk e w T g) {o : Oper} {f : FuncId} {l : List SV} (h : callOf T o.op = some (f, l)) (hg : Goes P f) :
    ∃ vs, RepSVs e w l vs ∧ (execOp g o).run P w = .ok (.enter f vs.toArray) w := by
  obtain ⟨dst, op, type, pos, after, guard⟩ := o
  simp only at h
  unfold callOf at h
  split at h <;> try (cases h; done)
  rename_i fn as ts
  split at h <;> try (cases h; done)
  · rename_i f' a b l' hf hl
    injection h with h; injection h with h1 h2; subst h1; subst h2
    have hv := hT _ _ hf
    simp only [RepSV, RepD] at hv
    obtain ⟨a', b', hv, ra, rb⟩ := hv
    refine ⟨a'.toList ++ as.toList.map g ++ b'.toList, ?_, ?_⟩
    · rw [dL_map, dL_map]
      exact ((RepSVs.ofD.1 ra).app (evs_rep hT _ _ hl)).app (RepSVs.ofD.1 rb)
    · simp only [execOp, resolve, hv, Deferred.ofValue, Sem.run_bind, Sem.run_pure, Result.andThen_ok, invoke]
      rw [hg]
      congr 2
      apply Array.ext'
      simp
  · rename_i f' a b l' hf hl
    injection h with h; injection h with h1 h2; subst h1; subst h2
    have hv := hT _ _ hf
    simp only [RepSV] at hv
    obtain ⟨a', b', hv, ra, rb⟩ := hv
    refine ⟨a'.toList ++ as.toList.map g ++ b'.toList, (ra.app (evs_rep hT _ _ hl)).app rb, ?_⟩
    simp only [execOp, resolve, hv, Deferred.ofValue, Sem.run_bind, Sem.run_pure, Result.andThen_ok, invoke]
    rw [hg]
    congr 2
    apply Array.ext'
    simp
def CallTo (P : Program) {G : Glob} {n0 : Nat} (b : Bs G n0) (N : Nat) (st : St) (o : Oper) (f : FuncId) (l : List SV) : Prop :=
  ∀ e a w, Ok b N e st a w → ∃ vs, RepSVs e w l vs ∧ (execOp a.eval o).run P w = .ok (.enter f vs.toArray) w
theorem callTo_of {n0 : Nat} {b : Bs G n0} {st : St} {o : Oper} {f : FuncId} {l : List SV} (h : callOf st.T o.op = some (f, l)) (hg : Goes P f) : CallTo P b N st o f l :=
  fun _ _ _ hok => callOf_run hok.tmok h hg
def svD : D → SV
  | .tup l => .tup (dL l)
  | x => .d x
theorem svD_rep {e : Env} {w : World} {x : D} {v : Value} (h : RepD e.pub w x v) : RepSV e w (svD x) v := by
  cases x <;> first | (simpa only [svD, RepSV] using h) | skip
  rename_i l
  simp only [svD, RepSV]
  simp only [RepD] at h
  obtain ⟨l', e', h1⟩ := h
  exact ⟨l', e', by rw [dL_map]; exact RepSVs.ofD.1 h1⟩
def contK (N : Nat) (dst : Option Tmp) (st : St) (K : SExit → St → Prop) : DOut → Prop
  | .ret r => nrm (svD r) fun x => putK N dst x st (K .normal)
  | .pan r => K (.pan (.d r)) st
theorem Ok.below' {n0 : Nat} {b : Bs G n0} {e : Env} {st : St} {a : Act} {w w' : World} (h : Ok b N e st a w) {S' : Nat → Prop} (hb : Below w.heap.size w w') (hd : G.d w w') (hup : ∀ k, e.pub k → S' k) (hfr : ∀ k, S' k → e.pub k ∨ w.heap.size ≤ k) (hlt : ∀ k, S' k → k < w'.heap.size) :
    Ok b N ⟨e.m, S'⟩ st a w' ∧ Kept e w ⟨e.m, S'⟩ w' ∧ Agr e st.H w w' := by
  have h1 := h.frame (r := fun _ => false) (s := fun _ => false) (fun _ h => h) (e' := ⟨e.m, S'⟩) (w' := w') (H' := []) 0 rfl (Only.of_below hb) hd (fun _ _ h _ => h) hup (fun k hk => (hfr k hk).imp id .inr)
    ⟨fun i o ho => by simp [lk] at ho, fun i j k hi => by simp [has, lk] at hi, fun i k hi => by simp [has, lk] at hi, hlt⟩ (fun i k hi => by simp [has, lk] at hi)
  have hw : without (fun _ => false) st.H = st.H := by
    have : ∀ H : Hp, without (fun _ => false) H = H := by
      intro H
      induction H with
      | nil => rfl
      | cons x r ih => obtain ⟨i, o⟩ := x; simp only [without, ih]
    exact this _
  rw [scrubT_none, hw, scrubH_none] at h1
  exact ⟨h1, ⟨fun _ _ h => h, hup, same_of_below hb _, hb.size⟩, Agr.below h.hp hb⟩
theorem callQc {n0 : Nat} {b : Bs G n0} {kp : Bool} {o : Oper} {st : St} {K : SExit → St → Prop} {f : FuncId} {l : List SV} {ds : List D} {Q : DOut → Prop} (h : CallTo P b N st o f l) (hd : dOf.dOfs l = some ds) (hc : FnQ P G f ds Q)
    (hk : ∀ o', Q o' → contK N o.dst st K o') : OpC P b N kp o st K := by
  refine ⟨fun e a w hok => ?_⟩
  obtain ⟨vs, h1, h2⟩ := h e a w hok
  rw [h2]
  refine (hc e.pub w vs (dOfs_rep hd h1) hok.hp.pubLt hok.gl).mono ?_
  rintro en w' ⟨o', S', hq, ho, ⟨hb, hdr⟩, hup, hfr, hlt⟩
  obtain ⟨ok', kw, hag⟩ := hok.below' hb hdr hup hfr hlt
  have hkk := hk o' hq
  cases o' with
  | ret r =>
    obtain ⟨v, rfl, hv⟩ := ho
    simp only [contK] at hkk
    obtain ⟨y, hy, hr⟩ := nrm_eq (e := ⟨e.m, S'⟩) _ _ hkk (svD_rep hv)
    obtain ⟨st', g1, g2, _⟩ := putK_sound ok' hr hy
    exact ⟨_, st', .of ⟨kw, hag⟩, g1, g2⟩
  | pan r =>
    obtain ⟨v, rfl, hv⟩ := ho
    exact ⟨_, st, .d r, v, rfl, by simpa only [RepSV] using hv, ok', hkk⟩
theorem callQ {n0 : Nat} {b : Bs G n0} {kp : Bool} {o : Oper} {st : St} {K : SExit → St → Prop} {f : FuncId} {l : List SV} {ds : List D} {Q : DOut → Prop} (h : callOf st.T o.op = some (f, l)) (hd : dOf.dOfs l = some ds) (hg : Goes P f) (hc : FnQ P G f ds Q)
    (hk : ∀ o', Q o' → contK N o.dst st K o') : OpC P b N kp o st K := callQc (callTo_of h hg) hd hc hk
theorem callF {n0 : Nat} {b : Bs G n0} {kp : Bool} {o : Oper} {st : St} {K : SExit → St → Prop} {f : FuncId} {l : List SV} {ds : List D} {r : D} (hc : FnR P G f ds r) (hg : Goes P f) (h : callOf st.T o.op = some (f, l)) (hd : dOf.dOfs l = some ds)
    (hk : contK N o.dst st K (.ret r)) : OpC P b N kp o st K :=
  callQ h hd hg hc fun o' ho => by
    cases o' with
    | ret y => simp only [retD] at ho; subst ho; exact hk
    | pan y => exact ho.elim
def mfD : D → Bool
  | .int _ _ => true
  | .bool _ => true
  | .str _ => true
  | .val _ => true
  | .agg l => mfDs l
  | .tup l => mfDs l
  | _ => false
where mfDs : List D → Bool
  | [] => true
  | x :: r => mfD x && mfDs r
mutual
theorem mfD_rep {S S' : Nat → Prop} {w w' : World} : ∀ {x : D} {v : Value}, mfD x = true → RepD S w x v → RepD S' w' x v
  | .int k n, v, _, h => h
  | .bool c, v, _, h => h
  | .str s, v, _, h => h
  | .val u, v, _, h => h
  | .agg l, v, hm, h => by
    simp only [mfD] at hm
    simp only [RepD] at h ⊢
    obtain ⟨l', e, h1⟩ := h
    exact ⟨l', e, mfDs_rep hm h1⟩
  | .tup l, v, hm, h => by
    simp only [mfD] at hm
    simp only [RepD] at h ⊢
    obtain ⟨l', e, h1⟩ := h
    exact ⟨l', e, mfDs_rep hm h1⟩
  | .sl _ _ _, _, hm, _ => by simp [mfD] at hm
  | .csl _ _ _, _, hm, _ => by simp [mfD] at hm
  | .ptr _ _, _, hm, _ => by simp [mfD] at hm
  | .fn _ _ _, _, hm, _ => by simp [mfD] at hm
  | .ifc _ _, _, hm, _ => by simp [mfD] at hm
theorem mfDs_rep {S S' : Nat → Prop} {w w' : World} : ∀ {l : List D} {v : List Value}, mfD.mfDs l = true → RepDs S w l v → RepDs S' w' l v
  | [], v, _, h => by simpa only [RepDs] using h
  | x :: r, v, hm, h => by
    simp only [mfD.mfDs, Bool.and_eq_true] at hm
    simp only [RepDs] at h ⊢
    obtain ⟨u, s, e, h1, h2⟩ := h
    exact ⟨u, s, e, mfD_rep hm.1 h1, mfDs_rep hm.2 h2⟩
end
theorem callV {n0 : Nat} {b : Bs G n0} {kp : Bool} {o : Oper} {st : St} {K : SExit → St → Prop} {f : FuncId} {l l' : List SV} {ds : List D} {r : D} (hc : FnR P G f ds r) (hg : Goes P f) (h : callOf st.T o.op = some (f, l)) (hl : mapO (frz (fun _ => true) (fun i => i) st.H 20) l = some l') (hd : dOf.dOfs l' = some ds)
    (hm : mfD r = true) (hk : contK N o.dst st K (.ret r)) : OpC P b N kp o st K := by
  refine ⟨fun e a w hok => ?_⟩
  obtain ⟨vs, h1, h2⟩ := callOf_run hok.tmok h hg
  rw [h2]
  have h3 := mapO_rep (fun x y v => frz_rep hok.hp (m' := []) (fun _ _ _ h => by cases h) 20 x y v) hl h1
  refine (hc (pubN e st.H fun _ => true) w vs (dOfs_rep hd h3) (fun k hk => ?_) (G.mono hok.gl (Same.rfl' _ _) (fun k hk => .inl hk) (Nat.le_refl _))).mono ?_
  · rcases hk with hk | ⟨i, _, h4, h5⟩
    · exact hok.hp.pubLt k hk
    · exact hok.hp.lt h4 h5
  rintro en w' ⟨o', S', hq, ho, ⟨hb, hdr⟩, hup, hfr, hlt⟩
  obtain ⟨ok', kw, hag⟩ := hok.below' (S' := e.pub) hb hdr (fun _ h => h) (fun _ h => .inl h) fun k hk => Nat.lt_of_lt_of_le (hok.hp.pubLt k hk) hb.size
  cases o' with
  | pan y => exact hq.elim
  | ret y =>
    simp only [retD] at hq; subst hq
    obtain ⟨v, rfl, hv⟩ := ho
    simp only [contK] at hk
    obtain ⟨y', hy, hr⟩ := nrm_eq (e := e) (w := w') _ _ hk (svD_rep (mfD_rep hm hv))
    obtain ⟨st', g1, g2, _⟩ := putK_sound ok' hr hy
    exact ⟨_, st', .of ⟨kw, hag⟩, g1, g2⟩
def frzA (p : Nat → Bool) (H : Hp) (x : SV) : SV :=
  match frz p (fun i => i) H 20 x with
  | some y => y
  | none => .any
def frzTK (p : Nat → Bool) (H : Hp) : Tl → (Tl → Prop) → Prop
  | [], K => K []
  | (t, x) :: r, K => nrmL [frzA p H x] fun
    | [y] => frzTK p H r fun l => K ((t, y) :: l)
    | _ => False
def frzs (p : Nat → Bool) (H : Hp) : List SV → List SV
  | [] => []
  | x :: r => frzA p H x :: frzs p H r
def frzHK (p : Nat → Bool) (H0 : Hp) : Hp → (Hp → Prop) → Prop
  | [], K => K []
  | (i, o) :: r, K => match p i with
    | true => frzHK p H0 r K
    | false => match o with
      | .blk t cs => nrmL (frzs p H0 cs) fun cs => frzHK p H0 r fun l => K ((i, .blk t cs) :: l)
      | .row t eb sz m xs => frzHK p H0 r fun l => K ((i, .row t eb sz m xs) :: l)
      | .ab φ => frzHK p H0 r fun l => K ((i, .ab φ) :: l)
theorem frzA_rep {e : Env} {w : World} {H : Hp} {p : Nat → Bool} (hH : HpOk e w H) {x : SV} {v : Value} (hx : RepSV e w x v) : RepSV ⟨e.m, pubN e H p⟩ w (frzA p H x) v := by
  unfold frzA
  split
  · rename_i y hy; exact frz_rep hH (fun _ _ h _ => h) 20 _ _ _ hy hx
  · simp only [RepSV]
theorem frzs_rep {e : Env} {w : World} {H : Hp} {p : Nat → Bool} (hH : HpOk e w H) : ∀ {l : List SV} {v : List Value}, RepSVs e w l v → RepSVs ⟨e.m, pubN e H p⟩ w (frzs p H l) v
  | [], v, h => by simpa only [frzs, RepSVs] using h
  | x :: r, v, h => by
    simp only [frzs, RepSVs] at h ⊢
    obtain ⟨u, s, e1, h1, h2⟩ := h
    exact ⟨u, s, e1, frzA_rep hH h1, frzs_rep hH h2⟩
theorem frzTK_get (p : Nat → Bool) (H : Hp) : ∀ (T : Tl) (K : Tl → Prop), frzTK p H T K → ∃ T', K T' ∧ ∀ t y, lk T' t = some y → ∃ x, lk T t = some x ∧ y = frzA p H x
  | [], K, h => ⟨[], h, fun t y hy => by simp [lk] at hy⟩
  | (t, x) :: r, K, h => by
    simp only [frzTK, nrmL_eq] at h
    obtain ⟨T', h1, h2⟩ := frzTK_get p H r _ h
    refine ⟨_, h1, fun t' y hy => ?_⟩
    simp only [lk] at hy ⊢
    split at hy
    · injection hy with hy; exact ⟨x, rfl, hy.symm⟩
    · exact h2 t' y hy
theorem frzHK_blk (p : Nat → Bool) (H0 : Hp) : ∀ (H : Hp) (K : Hp → Prop), frzHK p H0 H K → ∃ H', K H' ∧ (∀ i o, lk H' i = some o → p i = false ∧ ∃ o0, lk H i = some o0 ∧ (match o0 with | .blk t cs => o = .blk t (frzs p H0 cs) | .row t eb sz m xs => o = .row t eb sz m xs | .ab φ => o = .ab φ)) ∧
    ∀ i t cs, lk H i = some (.blk t cs) → p i = false → ∃ cs', lk H' i = some (.blk t cs')
  | [], K, h => ⟨[], h, fun i o ho => by simp [lk] at ho, fun i t cs hi => by simp [lk] at hi⟩
  | (i, x) :: r, K, h => by
    simp only [frzHK] at h
    split at h
    · rename_i hp
      obtain ⟨H', h1, h2, h3⟩ := frzHK_blk p H0 r K h
      refine ⟨H', h1, fun j o ho => ?_, fun j t cs hj hpj => ?_⟩
      · obtain ⟨q1, o0, q2, q3⟩ := h2 j o ho
        refine ⟨q1, o0, ?_, q3⟩
        simp only [lk]
        rw [nbeq_ne.2 (by rintro rfl; rw [hp] at q1; cases q1)]
        exact q2
      · simp only [lk] at hj
        rw [nbeq_ne.2 (by rintro rfl; rw [hp] at hpj; cases hpj)] at hj
        exact h3 j t cs hj hpj
    · rename_i hp
      have step : ∀ o', (match x with | .blk t cs => o' = .blk t (frzs p H0 cs) | .row t eb sz m xs => o' = .row t eb sz m xs | .ab φ => o' = .ab φ) → frzHK p H0 r (fun l => K ((i, o') :: l)) → ∃ H', K H' ∧ (∀ i_1 o, lk H' i_1 = some o → p i_1 = false ∧ ∃ o0, lk ((i, x) :: r) i_1 = some o0 ∧ (match o0 with | .blk t cs => o = .blk t (frzs p H0 cs) | .row t eb sz m xs => o = .row t eb sz m xs | .ab φ => o = .ab φ)) ∧
          ∀ i_1 t cs, lk ((i, x) :: r) i_1 = some (.blk t cs) → p i_1 = false → ∃ cs', lk H' i_1 = some (.blk t cs') := by
        intro o' ho' h
        obtain ⟨H', h1, h2, h3⟩ := frzHK_blk p H0 r _ h
        refine ⟨_, h1, fun j o ho => ?_, fun j t cs hj hpj => ?_⟩
        · simp only [lk] at ho ⊢
          split at ho
          · rename_i e; obtain rfl := nbeq.1 e
            injection ho with ho; subst ho; exact ⟨hp, _, rfl, ho'⟩
          · exact h2 j o ho
        · simp only [lk] at hj ⊢
          split at hj
          · injection hj with hj; subst hj
            simp only at ho'
            exact ⟨_, by rw [ho']⟩
          · exact h3 j t cs hj hpj
      split at h
      · rename_i t cs
        rw [nrmL_eq] at h
        exact step _ rfl h
      · rename_i t eb sz m xs
        exact step _ rfl h
      · exact step _ rfl h
def pubK (p : Nat → Bool) (st : St) (K : St → Prop) : Prop :=
  match st with
  | ⟨T, H, n⟩ => frzTK p H T fun T' => frzHK p H H fun H' => K ⟨T', H', n⟩
theorem pubK_sound {n0 : Nat} {b : Bs G n0} {e : Env} {st : St} {a : Act} {w : World} (h : Ok b N e st a w) (p : Nat → Bool) {K : St → Prop} (hk : pubK p st K) :
    ∃ e' st', K st' ∧ Kept e w e' w ∧ Ok b N e' st' a w ∧ (∀ i t cs k, lk st.H i = some (.blk t cs) → foot e i k → e'.pub k ∨ ∃ cs', lk st'.H i = some (.blk t cs')) ∧ e'.m = e.m := by
  obtain ⟨T, H, n⟩ := st
  simp only [pubK] at hk
  obtain ⟨T', hk, hT⟩ := frzTK_get _ _ _ _ hk
  obtain ⟨H', hk, hH, hB⟩ := frzHK_blk _ _ _ _ hk
  have kw : Kept e w ⟨e.m, pubN e H p⟩ w := ⟨fun _ _ h => h, fun _ h => .inl h, Same.rfl' _ _, Nat.le_refl _⟩
  have hd : ∀ i, has H' i → p i = false ∧ has H i := by
    intro i hi
    obtain ⟨o, ho⟩ := Option.isSome_iff_exists.1 hi
    obtain ⟨h1, o0, h2, _⟩ := hH i o ho
    exact ⟨h1, by simp [has, h2]⟩
  refine ⟨⟨e.m, pubN e H p⟩, _, hk, kw, ⟨h.sz, h.df, h.len, fun t y hy => ?_, ⟨fun i o ho => ?_, fun i j k hi hj hne h1 h2 => h.hp.sep i j k (hd i hi).2 (hd j hj).2 hne h1 h2, fun i k hi h1 h2 => ?_, fun k hk => ?_⟩, h.below, h.dr, fun i k hi h1 => h.mine i k (hd i hi).2 h1, fun k hk => ?_, ⟨h.pre.m, h.pre.le, fun k hk => .inl (h.pre.up k hk)⟩, G.mono h.gl kw.same kw.pub (Nat.le_refl _)⟩, fun i t cs k hi hf => ?_, rfl⟩
  · obtain ⟨x, hx, rfl⟩ := hT t y hy
    exact frzA_rep h.hp (h.tm t x hx)
  · obtain ⟨h1, o0, h2, h3⟩ := hH i o ho
    have := h.hp.ob i o0 h2
    cases o0 with
    | blk t cs =>
      simp only at h3; subst h3
      obtain ⟨g, vs, q1, q2, q3⟩ := this
      exact ⟨g, vs, q1, q2, frzs_rep h.hp q3⟩
    | row t eb sz m xs =>
      simp only at h3; subst h3
      obtain ⟨A, c, vs, q1, q2, q3, q4⟩ := this
      exact ⟨A, c, vs, q1, q2, q3.kept kw, q4⟩
    | ab φ =>
      simp only at h3; subst h3
      obtain ⟨v', g, o', q1, q2, q3, q4, q5⟩ := this
      exact ⟨v', g, o', q1, q2, q3, q4, φ.up q5 kw.same fun k hk _ => kw.pub k hk⟩
  · rcases h2 with h2 | ⟨j, h3, h4, h5⟩
    · exact h.hp.npub i k (hd i hi).2 h1 h2
    · exact h.hp.sep i j k (hd i hi).2 h4 (by rintro rfl; rw [(hd i hi).1] at h3; cases h3) h1 h5
  · rcases hk with hk | ⟨j, h3, h4, h5⟩
    · exact h.hp.pubLt k hk
    · exact h.hp.lt h4 h5
  · rcases hk with hk | ⟨j, h3, h4, h5⟩
    · exact h.frm k hk
    · exact .inr (h.mine j k h4 h5)
  · cases hp : p i with
    | true => exact .inl (.inr ⟨i, hp, by simp only at hi; simp [has, hi], hf⟩)
    | false => exact .inr (hB i t cs hi hp)
theorem pubC {n0 : Nat} {b : Bs G n0} {kp : Bool} {o : Oper} {st : St} {K : SExit → St → Prop} (p : Nat → Bool) (hk : pubK p st fun st' => OpC P b N kp o st' K) : OpC P b N kp o st K := by
  refine ⟨fun e a w hok => ?_⟩
  obtain ⟨e', st', ⟨hc⟩, kw, hok', hsub, hm⟩ := pubK_sound hok p hk
  have hr := hc e' a w hok'
  have aft : ∀ v w', AftS b N kp e' st'.H w a o.dst K v w' → AftS b N kp e st.H w a o.dst K v w' := by
    rintro v w' ⟨e2, st2, h1, h2, h3⟩
    refine ⟨e2, st2, ⟨fun hkp => ?_, kw.p.trans h1.p⟩, h2, h3⟩
    obtain ⟨h4, h5⟩ := h1.all hkp
    refine ⟨kw.trans h4, (kw.trans h4).same, fun i t cs k hi hf => ?_⟩
    rcases hsub i t cs k hi hf with h6 | ⟨cs', h6⟩
    · exact h4.same k h6 (hok'.hp.pubLt k h6)
    · exact h5.2 i t cs' k h6 (by obtain ⟨v, q1, q2⟩ := hf; exact ⟨v, by rw [hm]; exact q1, q2⟩)
  generalize (execOp a.eval o).run P w = r at hr
  cases r with
  | halt x w' => cases x <;> simp only [OpR] at hr ⊢; exact hr
  | ok n w' =>
    cases n <;> simp only [OpR] at hr ⊢
    · exact aft _ _ hr
    · exact aft _ _ hr
    · refine hr.mono fun en w'' he => ?_
      cases en with
      | returned v => exact aft _ _ he
      | panicked c => exact he
      | outgrown => exact he
end
mutual
def szOk : D → Prop
  | .sl eb n cs => n * eb ≤ LB ∧ szOks cs
  | .csl eb n cs => n * eb ≤ LB ∧ szOks cs
  | .ptr cs _ => szOks cs
  | .fn _ a b => szOks a ∧ szOks b
  | .ifc _ x => szOk x
  | .agg l => szOks l
  | .tup l => szOks l
  | _ => True
def szOks : List D → Prop
  | [] => True
  | x :: r => szOk x ∧ szOks r
end
mutual
theorem szOk_of {S : Nat → Prop} {w : World} : ∀ {x : D} {v : Value}, RepD S w x v → szOk x
  | .int _ _, _, _ => by simp only [szOk]
  | .bool _, _, _ => by simp only [szOk]
  | .str _, _, _ => by simp only [szOk]
  | .val _, _, _ => by simp only [szOk]
  | .sl eb n cs, v, h => by
    simp only [RepD, szOk] at h ⊢
    obtain ⟨A, c, _, _, h2, _, h3⟩ := h
    exact ⟨h2, szOks_ofC h3⟩
  | .csl eb n cs, v, h => by
    simp only [RepD, szOk] at h ⊢
    obtain ⟨A, _, h2, _, h3⟩ := h
    exact ⟨h2, szOks_ofC h3⟩
  | .ptr cs off, v, h => by
    simp only [RepD, szOk] at h ⊢
    obtain ⟨ad, _, h3⟩ := h
    exact szOks_ofC h3
  | .fn f a b, v, h => by
    simp only [RepD, szOk] at h ⊢
    obtain ⟨a', b', _, h1, h2⟩ := h
    exact ⟨szOks_of h1, szOks_of h2⟩
  | .ifc t x, v, h => by
    simp only [RepD, szOk] at h ⊢
    obtain ⟨y, _, h1⟩ := h
    exact szOk_of h1
  | .agg l, v, h => by
    simp only [RepD, szOk] at h ⊢
    obtain ⟨l', _, h1⟩ := h
    exact szOks_of h1
  | .tup l, v, h => by
    simp only [RepD, szOk] at h ⊢
    obtain ⟨l', _, h1⟩ := h
    exact szOks_of h1
theorem szOks_of {S : Nat → Prop} {w : World} : ∀ {x : List D} {v : List Value}, RepDs S w x v → szOks x
  | [], _, _ => by simp only [szOks]
  | x :: r, v, h => by
    simp only [RepDs, szOks] at h ⊢
    obtain ⟨u, s, _, h1, h2⟩ := h
    exact ⟨szOk_of h1, szOks_of h2⟩
theorem szOks_ofC {S : Nat → Prop} {w : World} : ∀ {x : List D} {A : Option Addr} {j : Nat}, RepC S w x A j → szOks x
  | [], _, _, _ => by simp only [szOks]
  | x :: r, A, j, h => by
    simp only [RepC, szOks] at h ⊢
    obtain ⟨⟨ad, v, _, _, _, h1⟩, h2⟩ := h
    exact ⟨szOk_of h1, szOks_ofC h2⟩
end
theorem fnQ_sz {P : Program} {G : Glob} {f : FuncId} {ds : List D} {Q : DOut → Prop} (h : szOks ds → FnQ P G f ds Q) : FnQ P G f ds Q :=
  fun S w vs hds hS hG => h (szOks_of hds) S w vs hds hS hG
theorem szOk_sl {eb n : Nat} {cs : List D} (h : szOk (slD eb n cs)) : n * eb ≤ LB ∧ szOks cs := by
  simp only [slD, szOk] at h
  refine ⟨?_, h.2⟩
  cases n with
  | zero => simp [LB]
  | succ n => exact h.1
end Go.Vx


