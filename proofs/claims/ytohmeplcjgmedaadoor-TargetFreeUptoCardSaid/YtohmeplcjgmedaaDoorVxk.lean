/- Regions that draw their order, code, calls: soundness. -/
import Derived.Test.YtohmeplcjgmedaaDoorVxj
namespace Go.Vc
open Go.RowKit
section
variable {P : Program} {ops : Array Oper} {Q : Exit → Act → World → Prop} {Z : World → Prop} {F : List Nat}
/-- What is listed has been waited for. -/
def ClosedL (ops : Array Oper) (l : Array Bool) : Prop := ∀ j o, ops[j]? = some o → l.getD j false = true → ∀ e ∈ o.after, Region.binds .any e = true → l.getD e.on false = true
theorem ClosedL.zero (ops : Array Oper) (n : Nat) : ClosedL ops (Array.replicate n false) := by
  intro j o _ h
  exfalso
  rcases Nat.lt_or_ge j n with h' | h'
  · simp [h'] at h
  · simp [Array.getElem?_eq_none (xs := Array.replicate n false) (i := j) (by simpa using h')] at h
theorem getD_set_mono {l : Array Bool} {i k : Nat} (h : l.getD k false = true) : (l.setIfInBounds i true).getD k false = true := by
  rcases Decidable.em (i = k) with rfl | hne
  · rcases Nat.lt_or_ge i l.size with h' | h'
    · simp [h']
    · simp [Array.getElem?_eq_none h'] at h
  · simpa [Array.getElem?_setIfInBounds_ne hne] using h
theorem ClosedL.set {ops : Array Oper} {l : Array Bool} {i : Nat} (h : ClosedL ops l) (hi : i ∈ Region.ready .any ops l) : ClosedL ops (l.setIfInBounds i true) := by
  intro j o ho hj e he hb
  refine getD_set_mono ?_
  rcases Decidable.em (i = j) with rfl | hne
  · obtain ⟨_, o', ho', hall⟩ := mem_ready.1 hi
    rw [ho] at ho'; injection ho' with ho'; subst ho'
    exact hall e he hb
  · refine h j o ho ?_ e he hb
    simpa [Array.getElem?_setIfInBounds_ne hne] using hj
theorem ClosedL.dep {ops : Array Oper} {l : Array Bool} (h : ClosedL ops l) {i : Nat} : ∀ (n j : Nat) (o : Oper), ops[j]? = some o → (∀ e ∈ o.after, Region.binds .any e = true → l.getD e.on false = true) → Vx.depT ops n j i = true → l.getD i false = true
  | 0, j, o, _, _, hd => by cases hd
  | n + 1, j, o, ho, hall, hd => by
    simp only [Vx.depT, ho, Array.any_eq_true', Bool.and_eq_true, Bool.or_eq_true, nbeq] at hd
    obtain ⟨e, he, e1, e2⟩ := hd
    have hl := hall e he e1
    rcases e2 with rfl | e2
    · exact hl
    · cases hoe : ops[e.on]? with
      | none =>
        cases n with
        | zero => cases e2
        | succ n => simp [Vx.depT, hoe] at e2
      | some o' => exact h.dep n e.on o' hoe (fun e' he' hb' => h e.on o' hoe hl e' he' hb') e2
/-- An operation that yields one value wherever the condition holds may be taken first, if those of F wait for it. -/
theorem AnyR.firstQ {i : Nat} {oi : Oper} {v : Value} {Z0 : World → Prop} (hi : ops[i]? = some oi) (hs : Region.noSelect ops = true) (hQ : ∀ c a w, Q (.panic c) (a.put oi.dst v) w → Q (.panic c) a w) (hF : (∀ w, Z0 w) ∨ ((∀ w, Z w → Z0 w) ∧ ∀ j ∈ F, Vx.depT ops 7 j i = true)) :
    ∀ (n : Nat) (l : Array Bool) (a : Act) (w : World), ClosedL ops l → (∀ j oj, ops[j]? = some oj → j ≠ i → l.getD j true = false → (∀ e ∈ oj.after, Region.binds .any e = true → e.on ≠ i) → oi.apart ops oj = true) →
      i ∈ Region.ready .any ops l → YieldsIf P ops Z0 oi v a → ((∀ w, Z0 w) ∨ Z w) → AnyR P ops Q Z F n (l.setIfInBounds i true) (a.put oi.dst v) w → AnyR P ops Q Z F (n + 1) l a w := by
  have hsel := Region.noSelect_spec hs
  have own : ∀ {n : Nat} {l : Array Bool} {a : Act} {w : World}, YieldsIf P ops Z0 oi v a → ((∀ w, Z0 w) ∨ Z w) → AnyR P ops Q Z F n (l.setIfInBounds i true) (a.put oi.dst v) w →
      wpOp P ops Q i (fun a' w' => (i ∉ F → Z w → Z w') ∧ AnyR P ops Q Z F n (l.setIfInBounds i true) a' w') a w := by
    intro n l a w hy hZ H
    have hZ0 : Z0 w := by
      rcases hZ with h | h
      · exact h w
      · rcases hF with h' | h'
        · exact h' w
        · exact h'.1 w h
    exact hy.wpOp hi hZ0 ⟨fun _ h => h, H⟩
  intro n
  induction n with
  | zero =>
    intro l a w _ _ hr hy hZ H
    refine ⟨fun h => (by rw [h] at hr; cases hr), fun j hj => ?_⟩
    rcases Decidable.em (j = i) with rfl | hne
    · exact own hy hZ H
    · have h0 := ready_mono hj hne
      rw [H.1] at h0; cases h0
  | succ n ih =>
    intro l a w hcl hfree hr hy hZ H
    refine ⟨fun h => (by rw [h] at hr; cases hr), fun j hj => ?_⟩
    rcases Decidable.em (j = i) with rfl | hne
    · exact own hy hZ H
    · have hrun := H.2 j (ready_mono hj hne)
      obtain ⟨hun, oj, hoj, hall⟩ := mem_ready.1 hj
      have hi0 := (mem_ready.1 hr).1
      -- j does not wait for i
      have hnot : ∀ e ∈ oj.after, Region.binds .any e = true → e.on ≠ i := by
        intro e he hb heq
        have ht := hall e he hb
        rw [heq] at ht
        rcases Nat.lt_or_ge i l.size with h' | h'
        · simp [h'] at hi0 ht; rw [hi0] at ht; cases ht
        · simp [Array.getElem?_eq_none h'] at ht
      have hstep : ∀ w', (j ∉ F → Z w → Z w') → (∀ w, Z0 w) ∨ Z w' := by
        intro w' hw'
        rcases hF with h' | ⟨_, h'⟩
        · exact .inl h'
        · rcases hZ with h | h
          · exact .inl h
          · refine .inr (hw' (fun hjF => ?_) h)
            have hd := h' j hjF
            have ht := hcl.dep 7 j oj hoj hall hd
            rcases Nat.lt_or_ge i l.size with h' | h'
            · simp [h'] at hi0 ht; rw [hi0] at ht; cases ht
            · simp [Array.getElem?_eq_none h'] at ht
      have hput := wpOp_putIf hoj (hfree j oj hoj hne hun hnot) (fun cs b => hsel i oi cs b hi) (fun cs b => hsel j oj cs b hoj) hQ hy hrun
      refine wpOp_mono (fun a' w' h3 => ⟨h3.2.1, ih (l.setIfInBounds j true) a' w' (hcl.set hj) ?_ (ready_mono hr (Ne.symm hne)) h3.1 (hstep w' h3.2.1) ?_⟩) hput
      · intro k ok hk hki hun' hno
        refine hfree k ok hk hki ?_ hno
        rcases Decidable.em (j = k) with rfl | hjk
        · exact hun
        · rwa [getD_set_ne true hjk] at hun'
      · rw [Array.setIfInBounds_comm _ _ hne]
        exact h3.2.2
end
end Go.Vc
namespace Go.Vx
open Go.RowKit Go.Vc

section
variable {P : Program} {ty : List (Nat × TY)} {G : Glob} {n0 : Nat} {b : Bs G n0} {N : Nat} {plans : List (Nat × Pl)}

def T0Ok (e : Env) (w : World) (T0 : Tl) (a : Act) : Prop := ∀ t sv, lk T0 t = some sv → RepSV e w sv (a.tmps.getD t undef)
theorem T0Ok.tm {e : Env} {w : World} {T0 : Tl} {a : Act} (h : T0Ok e w T0 a) : TmOk e w T0 a.eval := by
  intro x sv hx
  cases x with
  | tmp t => exact h t sv hx
  | const v => simp only [ev, Option.some.injEq] at hx; subst hx; exact cD_rep _ _ _
  | global g => simp only [ev, Option.some.injEq] at hx; subst hx; simp only [RepSV, RepD]; rfl
  | func g => simp only [ev, Option.some.injEq] at hx; subst hx; simp only [RepSV, RepD]; exact ⟨#[], #[], rfl, rfl, rfl⟩
theorem putK_lt {dst : Option Tmp} {sv : SV} {st : St} {K : St → Prop} (h : putK N dst sv st K) : ∀ d, dst = some d → d < N := by
  intro d hd
  subst hd
  unfold putK at h
  simp only at h
  split at h
  · rename_i hd; rwa [Nat.blt_eq] at hd
  · exact h.elim
theorem T0Ok.upd {e : Env} {w : World} {T0 : Tl} {a : Act} (h : T0Ok e w T0 a) (ha : a.tmps.size = N) {dst : Option Tmp} (hd : ∀ d, dst = some d → d < N) {x : SV} {v : Value} (hx : RepSV e w x v) {K : Tl → Prop} (hk : Vx.upd dst x T0 K) : ∃ T0', T0Ok e w T0' (a.put dst v) ∧ K T0' := by
  unfold Vx.upd at hk
  split at hk
  · exact ⟨T0, h, hk⟩
  · rename_i d
    refine ⟨_, fun t sv ht => ?_, hk⟩
    rw [put_get a d t v (by rw [ha]; exact hd d rfl)]
    simp only [lk] at ht
    split at ht
    · rename_i e'
      rw [if_pos (nbeq.1 e')]
      injection ht with ht; subst ht; exact hx
    · rename_i e'
      rw [if_neg (nbeq_ne.1 e')]
      exact h t sv ht
theorem T0Ok.updAny {e : Env} {w : World} {T0 : Tl} {a : Act} (h : T0Ok e w T0 a) {dst : Option Tmp} {v : Value} {K : Tl → Prop} (hk : Vx.upd dst .any T0 K) : ∃ T0', T0Ok e w T0' (a.put dst v) ∧ K T0' := by
  unfold Vx.upd at hk
  split at hk
  · exact ⟨T0, h, hk⟩
  · rename_i d
    refine ⟨_, fun t sv ht => ?_, hk⟩
    simp only [lk] at ht
    split at ht
    · injection ht with ht; subst ht; simp only [RepSV]
    · rename_i e'
      have : (a.put (some d) v).tmps.getD t undef = a.tmps.getD t undef := by
        simp only [Act.put, Array.getD_eq_getD_getElem?, Array.getElem?_setIfInBounds]
        rw [if_neg (nbeq_ne.1 e')]
      rw [this]
      exact h t sv ht
theorem T0Ok.know {e : Env} {w : World} {T0 : Tl} {a : Act} (h : T0Ok e w T0 a) {d : Nat} {c : Bool} (hd : a.tmps.getD d undef = .bool c) : T0Ok e w ((d, .kb c) :: T0) a := by
  intro t sv ht
  simp only [lk] at ht
  split at ht
  · rename_i e'
    obtain rfl := nbeq.1 e'
    injection ht with ht; subst ht
    simpa only [RepSV] using hd
  · exact h t sv ht

theorem guardP_sound {ops : Array Oper} {o : Oper} {e : Env} {T0 : Tl} {st : St} {A K : Tl → St → Prop} {a : Act} {w : World} {e0 : Env} {w0 : World} (h : Ok b N e st a w) (h0 : T0Ok e0 w0 T0 a) (hk : guardP N ops o T0 st A K) :
    (Region.wanted o (yielded ops a.tmps) = true ∧ ∃ T0' st', st'.H = st.H ∧ Ok b N e st' a w ∧ T0Ok e0 w0 T0' a ∧ A T0' st') ∨ (Region.wanted o (yielded ops a.tmps) = false ∧ ∃ T0' st', st'.H = st.H ∧ Ok b N e st' (a.put o.dst undef) w ∧ T0Ok e0 w0 T0' (a.put o.dst undef) ∧ K T0' st') := by
  unfold guardP at hk
  split at hk
  · rename_i hg
    exact .inl ⟨by simp [Region.wanted, hg], T0, st, rfl, h, h0, hk⟩
  · rename_i j want hg
    split at hk <;> try (exact hk.elim)
    rename_i d hd
    split at hk <;> try (exact hk.elim)
    · rename_i c hc
      have hy := yielded_of hd (h.boolAt (.inr hc))
      split at hk
      · rename_i he
        exact .inl ⟨by simp [Region.wanted, hg, hy, eq_of_beq he], T0, st, rfl, h, h0, hk⟩
      · rename_i he
        have hlt := putK_lt hk
        obtain ⟨st', k1, k2, k3⟩ := putK_sound (v := undef) h (by simp only [RepSV]) hk
        obtain ⟨T0', k4, k5⟩ := h0.upd h.sz hlt (v := undef) (by simp only [RepSV]) k2
        exact .inr ⟨by simp only [Region.wanted, hg, hy]; simpa using he, T0', st', k3, k1, k4, k5⟩
    · rename_i c hc
      have hba := h.boolAt (.inl hc)
      have hy := yielded_of hd hba
      by_cases he : c = want
      · subst he
        exact .inl ⟨by simp [Region.wanted, hg, hy], _, ⟨(d, .kb c) :: st.T, st.H, st.n⟩, rfl, h.know hc, h0.know hba, hk.1 rfl⟩
      · have he' : c = !want := by cases c <;> cases want <;> simp_all
        subst he'
        have hk' := hk.2 rfl
        have hlt := putK_lt hk'
        obtain ⟨st', k1, k2, k3⟩ := putK_sound (v := undef) (h.know hc) (by simp only [RepSV]) hk'
        obtain ⟨T0', k4, k5⟩ := (h0.know hba).upd h.sz hlt (v := undef) (by simp only [RepSV]) k2
        exact .inr ⟨by simp only [Region.wanted, hg, hy]; cases want <;> rfl, T0', st', k3, k1, k4, k5⟩

mutual
theorem pubS_kept {e e' : Env} {w w' : World} (h : KeptP e w e' w') : ∀ {x : SV} {v : Value}, pubS x = true → RepSV e w x v → RepSV e' w' x v
  | .d x, v, _, hx => by simp only [RepSV] at hx ⊢; exact hx.to h.same fun k hk _ => h.pub k hk
  | .kb b, v, _, hx => by simpa only [RepSV] using hx
  | .nl, v, _, hx => by simpa only [RepSV] using hx
  | .agg l, v, hp, hx => by
    simp only [RepSV] at hx ⊢
    obtain ⟨l', e, h1⟩ := hx
    exact ⟨l', e, pubSs_kept h (by simpa only [pubS] using hp) h1⟩
  | .tup l, v, hp, hx => by
    simp only [RepSV] at hx ⊢
    obtain ⟨l', e, h1⟩ := hx
    exact ⟨l', e, pubSs_kept h (by simpa only [pubS] using hp) h1⟩
  | .fn f a b, v, hp, hx => by
    simp only [pubS, Bool.and_eq_true] at hp
    simp only [RepSV] at hx ⊢
    obtain ⟨a', b', e, h1, h2⟩ := hx
    exact ⟨a', b', e, pubSs_kept h hp.1 h1, pubSs_kept h hp.2 h2⟩
  | .ifc t x, v, hp, hx => by
    simp only [RepSV] at hx ⊢
    obtain ⟨y, e, h1⟩ := hx
    exact ⟨y, e, pubS_kept h (by simpa only [pubS] using hp) h1⟩
  | .own _ _, _, hp, _ => by simp [pubS] at hp
  | .row _, _, hp, _ => by simp [pubS] at hp
  | .rowp _ _, _, hp, _ => by simp [pubS] at hp
  | .nm _, _, hp, _ => by simp [pubS] at hp
  | .any, _, hp, _ => by simp [pubS] at hp
theorem pubSs_kept {e e' : Env} {w w' : World} (h : KeptP e w e' w') : ∀ {l : List SV} {v : List Value}, pubSs l = true → RepSVs e w l v → RepSVs e' w' l v
  | [], v, _, hx => by simpa only [RepSVs] using hx
  | x :: r, v, hp, hx => by
    simp only [pubSs] at hp
    split at hp <;> try (cases hp; done)
    rename_i hp1
    simp only [RepSVs] at hx ⊢
    obtain ⟨u, s, e, h1, h2⟩ := hx
    exact ⟨u, s, e, pubS_kept h hp1 h1, pubSs_kept h hp h2⟩
end
theorem nrm_eq2 (x : SV) (K : SV → Prop) (h : nrm x K) : ∃ y, K y ∧ ∀ {e : Env} {w : World} {v : Value}, RepSV e w x v → RepSV e w y v := by
  unfold nrm at h
  split at h
  · rw [nrmL_eq] at h; exact ⟨_, h, fun hv => hv⟩
  · rw [nrmL_eq] at h; exact ⟨_, h, fun hv => hv⟩
  · rw [nrmL_eq] at h
    refine ⟨_, h, fun hv => ?_⟩
    simp only [RepSV, RepD] at hv ⊢
    obtain ⟨l', e', h1⟩ := hv
    exact ⟨l', e', by rw [dL_map]; exact RepSVs.ofD.1 h1⟩
  · exact ⟨_, h, fun hv => hv⟩
def pubOr (x : SV) : SV :=
  match pubS x with
  | true => x
  | false => .any
theorem pubTK_eq : ∀ (T : Tl) (K : Tl → Prop), pubTK T K = K (T.map fun p => (p.1, pubOr p.2))
  | [], K => rfl
  | (t, x) :: r, K => by
    simp only [pubTK, List.map_cons]
    cases h : pubS x <;> simp only [pubTK_eq r, pubOr, h]
theorem pubTK_get {e : Env} {w : World} {T0 T : Tl} {a : Act} (h0 : T0 = T.map fun p => (p.1, pubOr p.2)) (h : T0Ok e w T a) : T0Ok e w T0 a := by
  intro t sv ht
  rw [h0, lk_map] at ht
  cases hl : lk T t with
  | none => rw [hl] at ht; cases ht
  | some x =>
    rw [hl] at ht; injection ht with ht; subst ht
    have := h t x hl
    unfold pubOr
    split
    · exact this
    · simp only [RepSV]
/-- What stays, by the way in which a region is gone through. -/
structure KeptM (md : Bool) (e : Env) (w : World) (e' : Env) (w' : World) : Prop where
  all : md = false → Kept e w e' w'
  p : KeptP e w e' w'
theorem Kept.m' {md : Bool} {e e' : Env} {w w' : World} (h : Kept e w e' w') : KeptM md e w e' w' := ⟨fun _ => h, h.p⟩
theorem KeptM.sv {md : Bool} {e e' : Env} {w w' : World} (h : KeptM md e w e' w') {x : SV} {v : Value} (hp : (md && !pubS x) = false) (hx : RepSV e w x v) : RepSV e' w' x v := by
  cases md with
  | false => exact hx.kept (h.all rfl)
  | true => exact pubS_kept h.p (by simpa using hp) hx

theorem pTake_sound (hty : Tys P ty) {T0 : Tl} {HL : Hp} {e e0 : Env} {w w0 : World} {st : St} {a : Act} {o : Oper} {k : Bool → SV → Prop} (h : Ok b N e st a w) (h0 : T0Ok e0 w0 T0 a) (hH : ObsOk e0 w0 HL) {md : Bool} (hk0 : KeptM md e0 w0 e w) (hk : pTake ty md T0 HL st.T st.H o.op k) :
    ∃ c sv v, k c sv ∧ RepSV e w sv v ∧ (c = true → RepSV e0 w0 sv v) ∧ ∀ w', (ldB o.op = true → Agr e0 HL w0 w') → (execOp a.eval o).run P w' = .ok (.value v) w' := by
  have low : pLow ty st.T st.H o.op k → ∃ c sv v, k c sv ∧ RepSV e w sv v ∧ (c = true → RepSV e0 w0 sv v) ∧ ∀ w', (ldB o.op = true → Agr e0 HL w0 w') → (execOp a.eval o).run P w' = .ok (.value v) w' := by
    intro hk
    unfold pLow at hk
    split at hk
    · exact hk.elim
    · rename_i hld
      split at hk
      · rename_i sv hsv
        obtain ⟨v, h1, h2⟩ := pOp_sound hty h.tmok h.hp.ob hsv
        obtain ⟨y, hy, hr⟩ := nrm_eq sv _ hk h1
        exact ⟨false, y, v, hy, hr, fun h => by (cases h), fun w' _ => h2 w' fun hl => by rw [hld] at hl; cases hl⟩
      · split at hk
        · rename_i g hg
          obtain ⟨sv, v, h1, h2, h3⟩ := pStop_sound hty h.tmok h.hp.ob hg hk
          exact ⟨false, sv, v, h3, h1, fun h => by (cases h), fun w' _ => h2 w'⟩
        · exact hk.elim
  unfold pTake at hk
  split at hk
  · exact low hk
  · rename_i sv _ hsv
    split at hk
    · exact low hk
    rename_i hmd
    obtain ⟨v, h1, h2⟩ := pOp_sound hty h0.tm hH hsv
    obtain ⟨y, hy, hr⟩ := nrm_eq2 sv _ hk
    exact ⟨true, y, v, hy, hr (hk0.sv hmd h1), fun _ => hr h1, h2⟩
  · split at hk
    · exact low hk
    split at hk
    · rename_i g hg
      split at hk
      · obtain ⟨sv, v, h1, h2, h3⟩ := pStop_sound hty h0.tm hH hg hk
        exact ⟨true, sv, v, h3, h1.kept (hk0.all rfl), fun _ => h1, fun w' _ => h2 w'⟩
      · obtain ⟨sv, v, h1, h2, h3⟩ := pStop_sound hty h0.tm hH hg hk
        split at h3 <;> try (exact h3.elim)
        rename_i hp
        exact ⟨true, sv, v, h3, pubS_kept hk0.p hp h1, fun _ => h1, fun w' _ => h2 w'⟩
    · exact low hk

theorem stillB_get : ∀ {HL H : Hp} {i : Nat} {o : Ob}, stillB HL H = true → lk HL i = some o → ∃ t cs, lk H i = some (.blk t cs)
  | [], H, i, o, _, h => by simp [lk] at h
  | (j, x) :: r, H, i, o, hs, h => by
    simp only [stillB] at hs
    split at hs <;> try (cases hs; done)
    rename_i t cs hj
    simp only [lk] at h
    split at h
    · rename_i e; obtain rfl := nbeq.1 e; exact ⟨t, cs, hj⟩
    · exact stillB_get hs h
theorem blksK_eq (H0 : Hp) : ∀ (H : Hp) (K : Hp → Prop), blksK H0 H K → ∃ HL, K HL ∧ (∀ i o, lk HL i = some o → lk H0 i = some o ∧ ∃ t cs, o = .blk t cs) ∧ stillB HL H0 = true
  | [], K, h => ⟨[], h, fun i o ho => by simp [lk] at ho, rfl⟩
  | (i, x) :: r, K, h => by
    simp only [blksK] at h
    split at h
    · rename_i t cs hi
      obtain ⟨HL, h1, h2, h3⟩ := blksK_eq H0 r _ h
      refine ⟨_, h1, fun j o ho => ?_, by simp only [stillB, hi, h3]⟩
      simp only [lk] at ho
      split at ho
      · rename_i e; obtain rfl := nbeq.1 e
        injection ho with ho; subst ho
        exact ⟨hi, t, cs, rfl⟩
      · exact h2 j o ho
    · exact blksK_eq H0 r K h

theorem vcStore_sound (hty : Tys P ty) {HL : Hp} {o : Oper} {e : Env} {st : St} {K : SExit → St → Prop} {a : Act} {w : World} (h : Ok b N e st a w) (hk : vcOp P ty b N false o st K) (hs : kpOf HL st.T o.op = false) :
    ∃ i w', lk HL i = none ∧ (execOp a.eval o).run P w = .ok .skip w' ∧ Kept e w e w' ∧ (∀ j k, j ≠ i → has st.H j → foot e j k → w'.heap[k]? = w.heap[k]?) ∧ ∃ st', Ok b N e st' (a.put o.dst undef) w' ∧ K .normal st' := by
  have hT := h.tmok
  obtain ⟨dst, op, type, pos, after, guard⟩ := o
  simp only at hs
  unfold kpOf at hs
  split at hs <;> try (cases hs; done)
  rename_i t ad x
  split at hs <;> try (cases hs; done)
  rename_i i off ha
  split at hs <;> try (cases hs; done)
  rename_i hHL
  unfold vcOp at hk
  have e1 : pOp ty st.T st.H (.store t ad x) = none := by simp only [pOp]
  have e2 : pStop ty st.T st.H (.store t ad x) = none := by simp only [pStop]
  rw [e1, e2] at hk
  simp only [vcEff, ha] at hk
  split at hk <;> try (exact hk.elim)
  rename_i y sv hy hx
  split at hk <;> try (exact hk.elim)
  rename_i l hl
  split at hk <;> try (exact hk.elim)
  rename_i t' cs hsz hcl hi _
  split at hk <;> try (exact hk.elim)
  rename_i cs' hp hb
  rw [nrmL_eq] at hk
  simp only [withoutK_eq] at hk
  have hb' := Nat.le_of_ble_eq_true hb
  have h1 := hT _ _ ha
  simp only [RepSV] at h1
  obtain ⟨g, hm, hv⟩ := h1
  have hr := cellsOf_rep hl (hT _ _ hx)
  have hlen := hr.len
  obtain ⟨g', vs, hm', hh, hcs⟩ := h.hp.ob _ _ hi
  rw [hm] at hm'; injection hm' with hm'; injection hm' with hm'; injection hm' with hm'; injection hm' with hm'
  subst hm'
  have hcl' := hcs.len
  obtain ⟨vr, q1, q2⟩ := putAt_rep hp hb' hr hcs
  have hlt := (Array.getElem?_eq_some_iff.1 hh).1
  have hrun := run_storeCells (P := P) (g := g) (off := off) (t := t') (a.eval x).cells.toList 0 vs w (cellsB_plain hcl hr) hh (by rw [Array.length_toList] at hlen hcl' ⊢; omega)
  rw [store_run hty hy hv (by rw [hlen]; exact nbeq.1 hsz) hrun]
  have q1' : ((a.eval x).cells.toList.zipIdx 0).foldl (fun cs (x : Value × Nat) => cs.setIfInBounds (off + x.2) x.1) vs = vr := by
    rw [← q1]
  rw [q1']
  have ho : Only (fun k => foot e i k) w (setW w g (.cells vr t' (0, 0))) := ⟨rfl, rfl, rfl, by rw [setW_size]; exact Nat.le_refl _, fun k hk hn => setW_ne _ _ (fun e' => hn ⟨_, hm, by rw [← e']; rfl⟩)⟩
  obtain ⟨g1, kw, g3⟩ := h.setOb (i := i) (o := .blk t' cs') (by simp [has, hi]) ho (Nat.le_refl _) (fun kw => ⟨g, vr, hm, setW_at _ _ _ hlt, q2.kept kw⟩)
  obtain ⟨st', g4, g5, _⟩ := putK_sound (v := undef) g1 (by simp only [RepSV]) hk
  refine ⟨i, _, hHL, rfl, kw, fun j k hj hh' hf => ?_, st', g4, g5⟩
  exact setW_ne _ _ (fun e' => h.hp.sep j i k hh' (by simp [has, hi]) hj hf ⟨_, hm, by rw [← e']; rfl⟩)

/-- In a region: every order. -/
theorem vcPlan_sound (hty : Tys P ty) {ops : Array Oper} (hs : Region.noSelect ops = true) {md : Bool} {HL : Hp} (hmd : md = true → HL = []) {es : Env} {ws : World} {K : SExit → St → Prop} (hHL : ObsOk es ws HL) {F : List Nat} :
    ∀ (plan : Pl) (listed : Array Bool) (fuel : Nat) (T0 : Tl) (e : Env) (st : St) (a : Act) (w : World), plan.len ≤ fuel → planB ops plan listed = true → (∀ j ∈ F, ∀ i ∈ plan.takes, Vx.depT ops 7 j i = true) → (∀ j ∈ plan.fins, j ∈ F) → ClosedL ops listed →
      Ok b N e st a w → ((plan.onlyFins = true ∧ ∃ e0 w0, T0Ok e0 w0 T0 a ∧ KeptM md e0 w0 e w) ∨ (T0Ok es ws T0 a ∧ KeptM md es ws e w ∧ Agr es HL ws w ∧ stillB HL st.H = true)) →
      vcPlan P ty b N md ops HL plan T0 st K → AnyR P ops (Kden b N K) (Agr es HL ws) F fuel listed a w := by
  have runOp : ∀ {i : Nat} {o : Oper} {r : Pl} {fuel : Nat} {listed : Array Bool} {T0 : Tl} {e : Env} {st : St} {a : Act} {w : World}, ops[i]? = some o → Ok b N e st a w → T0Ok es ws T0 a → KeptM md es ws e w → Agr es HL ws w → stillB HL st.H = true →
      (∀ (T0 : Tl) (e : Env) (st : St) (a : Act) (w : World), Ok b N e st a w → T0Ok es ws T0 a → KeptM md es ws e w → Agr es HL ws w → stillB HL st.H = true → vcPlan P ty b N md ops HL r T0 st K → AnyR P ops (Kden b N K) (Agr es HL ws) F fuel (listed.setIfInBounds i true) a w) →
      (guardP N ops o T0 st (fun T0 st => vcOp P ty b N (kpM md HL st.T o.op) o st fun x st' => match x with
        | .normal => match stillB HL st'.H with
          | true => upd o.dst .any T0 fun T0' => vcPlan P ty b N md ops HL r T0' st' K
          | false => False
        | x => K x st') fun T0' st' => vcPlan P ty b N md ops HL r T0' st' K) →
      wpOp P ops (Kden b N K) i (fun a' w' => (i ∉ F → Agr es HL ws w → Agr es HL ws w') ∧ AnyR P ops (Kden b N K) (Agr es HL ws) F fuel (listed.setIfInBounds i true) a' w') a w := by
    intro i o r fuel listed T0 e st a w ho h h0 hkp hag hst ih hk
    unfold wpOp
    simp only [ho]
    rcases guardP_sound h h0 hk with ⟨hw, T0', st', e1, k1, k2, k3⟩ | ⟨hw, T0', st', e1, k1, k2, k3⟩
    · rw [if_pos hw]
      cases hkk : kpM md HL st'.T o.op with
      | true =>
        rw [hkk] at k3
        refine .inl ((vcOp_sound hty k1 k3).wp (fun v w' ha => ?_) fun c w' hc => ?_)
        · obtain ⟨e', st'', q0, q1, q2⟩ := ha
          have hmf : md = false := by cases md with
            | false => rfl
            | true => cases hkk
          obtain ⟨q3, q4⟩ := q0.all rfl
          have hkp' := hkp.all hmf
          simp only at q2
          split at q2 <;> try (exact q2.elim)
          rename_i hst'
          have hag' : Agr es HL ws w' := by
            refine ⟨fun k hk hl => ?_, fun j t cs k hj hf => ?_⟩
            · rw [q3.same k (hkp'.pub k hk) (Nat.lt_of_lt_of_le hl hkp'.sz)]
              exact hkp'.same k hk hl
            · obtain ⟨t', cs', hj'⟩ := stillB_get hst hj
              rw [← e1] at hj'
              obtain ⟨u, hu, hfu⟩ := hf
              rw [q4.2 j t' cs' k hj' ⟨u, hkp'.m _ _ hu, hfu⟩]
              exact hag.2 j t cs k hj ⟨u, hu, hfu⟩
          obtain ⟨T0'', k4, k5⟩ := k2.updAny (v := v) q2
          exact ⟨fun _ _ => hag', ih T0'' e' st'' _ w' q1 k4 (hkp'.trans q3).m' hag' hst' k5⟩
        · obtain ⟨e', st'', x, v, q1, q2, q3, q4⟩ := hc
          exact ⟨e', st'', x, v, q1, q2, q3.noT, q4⟩
      | false =>
        rw [hkk] at k3
        cases md with
        | true =>
          obtain rfl := hmd rfl
          refine .inl ((vcOp_sound hty k1 k3).wp (fun v w' ha => ?_) fun c w' hc => ?_)
          · obtain ⟨e', st'', q0, q1, q2⟩ := ha
            simp only at q2
            split at q2 <;> try (exact q2.elim)
            rename_i hst'
            have hk2 := hkp.p.trans q0.p
            have hag' : Agr es [] ws w' := ⟨hk2.same, fun j t cs k hj _ => by simp [lk] at hj⟩
            obtain ⟨T0'', k4, k5⟩ := k2.updAny (v := v) q2
            exact ⟨fun _ _ => hag', ih T0'' e' st'' _ w' q1 k4 ⟨fun h => by (cases h), hk2⟩ hag' hst' k5⟩
          · obtain ⟨e', st'', x, v, q1, q2, q3, q4⟩ := hc
            exact ⟨e', st'', x, v, q1, q2, q3.noT, q4⟩
        | false =>
        have hkp' := hkp.all rfl
        obtain ⟨i0, w', r1, r2, q3, r4, st'', q1, q2⟩ := vcStore_sound hty k1 k3 hkk
        simp only at q2
        split at q2 <;> try (exact q2.elim)
        rename_i hst'
        have hag' : Agr es HL ws w' := by
          refine ⟨fun k hk hl => ?_, fun j t cs k hj hf => ?_⟩
          · rw [q3.same k (hkp'.pub k hk) (Nat.lt_of_lt_of_le hl hkp'.sz)]
            exact hkp'.same k hk hl
          · obtain ⟨t', cs', hj'⟩ := stillB_get hst hj
            rw [← e1] at hj'
            obtain ⟨u, hu, hfu⟩ := hf
            rw [r4 j k (by rintro rfl; rw [hj] at r1; cases r1) (by simp [has, hj']) ⟨u, hkp'.m _ _ hu, hfu⟩]
            exact hag.2 j t cs k hj ⟨u, hu, hfu⟩
        obtain ⟨T0'', k4, k5⟩ := k2.updAny (v := undef) q2
        refine .inl ?_
        unfold Oper.wp
        rw [r2]
        exact ⟨fun _ _ => hag', ih T0'' e st'' _ w' q1 k4 (hkp'.trans q3).m' hag' hst' k5⟩
    · rw [if_neg (by simp [hw])]
      exact ⟨fun _ h => h, ih T0' e st' _ w k1 k2 hkp hag (by rw [e1]; exact hst) k3⟩
  intro plan
  induction plan with
  | done =>
    intro listed fuel T0 e st a w hf hp hF hF2 hcl h hpre hk
    simp only [planB, List.isEmpty_iff] at hp
    exact AnyR.stop hp ⟨e, st, h, hk⟩ fuel
  | take i r ih =>
    intro listed fuel T0 e st a w hf hp hF hF2 hcl h hpre hk
    obtain ⟨fuel, rfl⟩ : ∃ f, fuel = f + 1 := ⟨fuel - 1, by simp only [Pl.len] at hf; omega⟩
    have hf' : r.len ≤ fuel := by simp only [Pl.len] at hf; omega
    rcases hpre with ⟨hpre, _⟩ | ⟨h0, hkp, hag, hst⟩
    · simp [Pl.onlyFins] at hpre
    simp only [vcPlan] at hk
    split at hk <;> try (exact hk.elim)
    rename_i o ho
    have ho' : ops[i]? = some o := by rw [← Array.getElem?_toList, ← nth_eq]; exact ho
    simp only [planB, Bool.and_eq_true] at hp
    obtain ⟨⟨p1, p2⟩, p3⟩ := hp
    have hFi : ∀ j ∈ F, Vx.depT ops 7 j i = true := fun j hj => hF j hj i (by simp [Pl.takes])
    have hFr : ∀ j ∈ F, ∀ q ∈ r.takes, Vx.depT ops 7 j q = true := fun j hj q hq => hF j hj q (by simp [Pl.takes, hq])
    rcases guardP_sound h h0 hk with ⟨hw, T0', st', e1, k1, k2, k3⟩ | ⟨hw, T0', st', e1, k1, k2, k3⟩
    · obtain ⟨c, sv, v, y1, y2, y3, y4⟩ := pTake_sound hty k1 k2 hHL hkp k3
      have hlt := putK_lt y1
      obtain ⟨st'', q1, q2, q3⟩ := putK_sound k1 y2 y1
      refine AnyR.firstQ (Z0 := Agr es HL ws) ho' hs (fun c a w => Kden_pan) (.inr ⟨fun _ h => h, hFi⟩) fuel listed a w hcl (Region.free_spec ho' p1) (by simpa using p2) (v := v) (.inl ⟨hw, fun w' hw' => y4 w' fun _ => hw'⟩) (.inr hag) ?_
      obtain ⟨T0'', k4, k5⟩ : ∃ T0'', T0Ok es ws T0'' (a.put o.dst v) ∧ vcPlan P ty b N md ops HL r T0'' st'' K := by
        cases c with
        | true => exact k2.upd k1.sz hlt (y3 rfl) q2
        | false => exact k2.updAny q2
      exact ih _ fuel T0'' e st'' _ w hf' p3 hFr hF2 (hcl.set (by simpa using p2)) q1 (.inr ⟨k4, hkp, hag, by rw [q3, e1]; exact hst⟩) k5
    · refine AnyR.firstQ (Z0 := fun _ => True) ho' hs (fun c a w => Kden_pan) (.inl fun _ => trivial) fuel listed a w hcl (Region.free_spec ho' p1) (by simpa using p2) (v := undef) (.inr ⟨hw, rfl⟩) (.inl fun _ => trivial) ?_
      exact ih _ fuel T0' e st' _ w hf' p3 hFr hF2 (hcl.set (by simpa using p2)) k1 (.inr ⟨k2, hkp, hag, by rw [e1]; exact hst⟩) k3
  | run i r ih =>
    intro listed fuel T0 e st a w hf hp hF hF2 hcl h hpre hk
    obtain ⟨fuel, rfl⟩ : ∃ f, fuel = f + 1 := ⟨fuel - 1, by simp only [Pl.len] at hf; omega⟩
    have hf' : r.len ≤ fuel := by simp only [Pl.len] at hf; omega
    rcases hpre with ⟨hpre, _⟩ | ⟨h0, hkp, hag, hst⟩
    · simp [Pl.onlyFins] at hpre
    simp only [vcPlan] at hk
    split at hk <;> try (exact hk.elim)
    rename_i o ho
    have ho' : ops[i]? = some o := by rw [← Array.getElem?_toList, ← nth_eq]; exact ho
    simp only [planB, Bool.and_eq_true, beq_iff_eq] at hp
    obtain ⟨p1, p3⟩ := hp
    refine ⟨fun h0 => (by rw [p1] at h0; cases h0), fun j hj => ?_⟩
    rw [p1, List.mem_singleton] at hj
    subst hj
    exact runOp ho' h h0 hkp hag hst (fun T0 e st a w q1 q2 q3 q4 q5 q6 => ih _ fuel T0 e st a w hf' p3 hF hF2 (hcl.set (by rw [p1]; simp)) q1 (.inr ⟨q2, q3, q4, q5⟩) q6) hk
  | two i j ri rj ihi ihj =>
    intro listed fuel T0 e st a w hf hp hF hF2 hcl h hpre hk
    obtain ⟨fuel, rfl⟩ : ∃ f, fuel = f + 1 := ⟨fuel - 1, by simp only [Pl.len] at hf; omega⟩
    have hf1 : ri.len ≤ fuel := by simp only [Pl.len] at hf; have := Nat.le_max_left ri.len rj.len; have e : Nat.max ri.len rj.len = max ri.len rj.len := rfl; omega
    have hf2 : rj.len ≤ fuel := by simp only [Pl.len] at hf; have := Nat.le_max_right ri.len rj.len; have e : Nat.max ri.len rj.len = max ri.len rj.len := rfl; omega
    rcases hpre with ⟨hpre, _⟩ | ⟨h0, hkp, hag, hst⟩
    · simp [Pl.onlyFins] at hpre
    simp only [vcPlan] at hk
    split at hk <;> try (exact hk.elim)
    rename_i o o' ho1 ho2
    have ho1' : ops[i]? = some o := by rw [← Array.getElem?_toList, ← nth_eq]; exact ho1
    have ho2' : ops[j]? = some o' := by rw [← Array.getElem?_toList, ← nth_eq]; exact ho2
    simp only [planB, Bool.and_eq_true, beq_iff_eq] at hp
    obtain ⟨⟨p1, p2⟩, p3⟩ := hp
    simp only [Pl.takes, Pl.fins, List.mem_append] at hF hF2
    refine ⟨fun h0 => (by rw [p1] at h0; cases h0), fun q hq => ?_⟩
    rw [p1] at hq
    simp only [List.mem_cons, List.not_mem_nil, or_false] at hq
    rcases hq with rfl | rfl
    · exact runOp ho1' h h0 hkp hag hst (fun T0 e st a w q1 q2 q3 q4 q5 q6 => ihi _ fuel T0 e st a w hf1 p2 (fun j hj i hi => hF j hj i (.inl hi)) (fun j hj => hF2 j (.inl hj)) (hcl.set (by rw [p1]; simp)) q1 (.inr ⟨q2, q3, q4, q5⟩) q6) hk.1
    · exact runOp ho2' h h0 hkp hag hst (fun T0 e st a w q1 q2 q3 q4 q5 q6 => ihj _ fuel T0 e st a w hf2 p3 (fun j hj i hi => hF j hj i (.inr hi)) (fun j hj => hF2 j (.inr hj)) (hcl.set (by rw [p1]; simp)) q1 (.inr ⟨q2, q3, q4, q5⟩) q6) hk.2
  | three i j k ri rj rk ihi ihj ihk =>
    intro listed fuel T0 e st a w hf hp hF hF2 hcl h hpre hk
    obtain ⟨fuel, rfl⟩ : ∃ f, fuel = f + 1 := ⟨fuel - 1, by simp only [Pl.len] at hf; omega⟩
    have hf1 : ri.len ≤ fuel := by simp only [Pl.len] at hf; omega
    have hf2 : rj.len ≤ fuel := by simp only [Pl.len] at hf; omega
    have hf3 : rk.len ≤ fuel := by simp only [Pl.len] at hf; omega
    rcases hpre with ⟨hpre, _⟩ | ⟨h0, hkp, hag, hst⟩
    · simp [Pl.onlyFins] at hpre
    simp only [vcPlan] at hk
    split at hk <;> try (exact hk.elim)
    rename_i o o' o'' ho1 ho2 ho3
    have ho1' : ops[i]? = some o := by rw [← Array.getElem?_toList, ← nth_eq]; exact ho1
    have ho2' : ops[j]? = some o' := by rw [← Array.getElem?_toList, ← nth_eq]; exact ho2
    have ho3' : ops[k]? = some o'' := by rw [← Array.getElem?_toList, ← nth_eq]; exact ho3
    simp only [planB, Bool.and_eq_true, beq_iff_eq] at hp
    obtain ⟨⟨⟨p1, p2⟩, p3⟩, p4⟩ := hp
    simp only [Pl.takes, Pl.fins, List.mem_append] at hF hF2
    refine ⟨fun h0 => (by rw [p1] at h0; cases h0), fun q hq => ?_⟩
    rw [p1] at hq
    simp only [List.mem_cons, List.not_mem_nil, or_false] at hq
    rcases hq with rfl | rfl | rfl
    · exact runOp ho1' h h0 hkp hag hst (fun T0 e st a w q1 q2 q3 q4 q5 q6 => ihi _ fuel T0 e st a w hf1 p2 (fun j hj i hi => hF j hj i (.inl hi)) (fun j hj => hF2 j (.inl hj)) (hcl.set (by rw [p1]; simp)) q1 (.inr ⟨q2, q3, q4, q5⟩) q6) hk.1
    · exact runOp ho2' h h0 hkp hag hst (fun T0 e st a w q1 q2 q3 q4 q5 q6 => ihj _ fuel T0 e st a w hf2 p3 (fun j hj i hi => hF j hj i (.inr (.inl hi))) (fun j hj => hF2 j (.inr (.inl hj))) (hcl.set (by rw [p1]; simp)) q1 (.inr ⟨q2, q3, q4, q5⟩) q6) hk.2.1
    · exact runOp ho3' h h0 hkp hag hst (fun T0 e st a w q1 q2 q3 q4 q5 q6 => ihk _ fuel T0 e st a w hf3 p4 (fun j hj i hi => hF j hj i (.inr (.inr hi))) (fun j hj => hF2 j (.inr (.inr hj))) (hcl.set (by rw [p1]; simp)) q1 (.inr ⟨q2, q3, q4, q5⟩) q6) hk.2.2
  | pure i r ih =>
    intro listed fuel T0 e st a w hf hp hF hF2 hcl h hpre hk
    obtain ⟨fuel, rfl⟩ : ∃ f, fuel = f + 1 := ⟨fuel - 1, by simp only [Pl.len] at hf; omega⟩
    have hf' : r.len ≤ fuel := by simp only [Pl.len] at hf; omega
    simp only [vcPlan] at hk
    split at hk <;> try (exact hk.elim)
    rename_i o ho
    split at hk <;> try (exact hk.elim)
    rename_i hld
    have ho' : ops[i]? = some o := by rw [← Array.getElem?_toList, ← nth_eq]; exact ho
    simp only [planB, Bool.and_eq_true] at hp
    obtain ⟨⟨p1, p2⟩, p3⟩ := hp
    obtain ⟨e0, w0, h0, hkp, hrest⟩ : ∃ e0 w0, T0Ok e0 w0 T0 a ∧ KeptM md e0 w0 e w ∧ ∀ (T0' : Tl) (a' : Act) (st' : St), T0Ok e0 w0 T0' a' → st'.H = st.H → ((r.onlyFins = true ∧ ∃ e0 w0, T0Ok e0 w0 T0' a' ∧ KeptM md e0 w0 e w) ∨ (T0Ok es ws T0' a' ∧ KeptM md es ws e w ∧ Agr es HL ws w ∧ stillB HL st'.H = true)) := by
      rcases hpre with ⟨h', e0, w0, h1, h2⟩ | ⟨h1, h2, h3, h4⟩
      · exact ⟨e0, w0, h1, h2, fun T0' a' st' h3 _ => .inl ⟨h', e0, w0, h3, h2⟩⟩
      · exact ⟨es, ws, h1, h2, fun T0' a' st' h5 h6 => .inr ⟨h5, h2, h3, by rw [h6]; exact h4⟩⟩
    rcases guardP_sound h h0 hk with ⟨hw, T0', st', e1, k1, k2, k3⟩ | ⟨hw, T0', st', e1, k1, k2, k3⟩
    · obtain ⟨c, sv, v, y1, y2, y3, y4⟩ := pTake_sound hty k1 k2 (fun i o hi => by simp [lk] at hi) hkp k3
      have hlt := putK_lt y1
      obtain ⟨st'', q1, q2, q3⟩ := putK_sound k1 y2 y1
      refine AnyR.firstQ (Z0 := fun _ => True) ho' hs (fun c a w => Kden_pan) (.inl fun _ => trivial) fuel listed a w hcl (Region.free_spec ho' p1) (by simpa using p2) (v := v) (.inl ⟨hw, fun w' _ => y4 w' fun hl => by rw [hld] at hl; cases hl⟩) (.inl fun _ => trivial) ?_
      obtain ⟨T0'', k4, k5⟩ : ∃ T0'', T0Ok e0 w0 T0'' (a.put o.dst v) ∧ vcPlan P ty b N md ops HL r T0'' st'' K := by
        cases c with
        | true => exact k2.upd k1.sz hlt (y3 rfl) q2
        | false => exact k2.updAny q2
      exact ih _ fuel T0'' e st'' _ w hf' p3 hF hF2 (hcl.set (by simpa using p2)) q1 (hrest _ _ _ k4 (q3.trans e1)) k5
    · refine AnyR.firstQ (Z0 := fun _ => True) ho' hs (fun c a w => Kden_pan) (.inl fun _ => trivial) fuel listed a w hcl (Region.free_spec ho' p1) (by simpa using p2) (v := undef) (.inr ⟨hw, rfl⟩) (.inl fun _ => trivial) ?_
      exact ih _ fuel T0' e st' _ w hf' p3 hF hF2 (hcl.set (by simpa using p2)) k1 (hrest _ _ _ k2 e1) k3
  | fin i r ih =>
    intro listed fuel T0 e st a w hf hp hF hF2 hcl h hpre hk
    obtain ⟨fuel, rfl⟩ : ∃ f, fuel = f + 1 := ⟨fuel - 1, by simp only [Pl.len] at hf; omega⟩
    have hf' : r.len ≤ fuel := by simp only [Pl.len] at hf; omega
    simp only [vcPlan] at hk
    split at hk <;> try (exact hk.elim)
    rename_i o ho
    have ho' : ops[i]? = some o := by rw [← Array.getElem?_toList, ← nth_eq]; exact ho
    simp only [planB, Bool.and_eq_true, beq_iff_eq] at hp
    obtain ⟨⟨p1, p2⟩, p3⟩ := hp
    have hiF : i ∈ F := hF2 i (by simp [Pl.fins])
    refine ⟨fun h0 => (by rw [p1] at h0; cases h0), fun j hj => ?_⟩
    rw [p1, List.mem_singleton] at hj
    subst hj
    unfold wpOp
    simp only [ho']
    have nil : ∀ (e : Env) (w : World) (a : Act), T0Ok e w [] a := fun e w a t sv ht => by simp [lk] at ht
    rcases guardK_sound h hk with ⟨hw, st', e1, k1, k2⟩ | ⟨hw, st', k1, k2⟩
    · rw [if_pos hw]
      refine .inl ((vcOp_sound hty k1 k2).wp (fun v w' ha => ?_) fun c w' hc => ?_)
      · obtain ⟨e', st'', _, q1, q2⟩ := ha
        exact ⟨fun hnF _ => absurd hiF hnF, ih _ fuel [] e' st'' _ w' hf' p3 hF (fun q hq => hF2 q (by simp [Pl.fins, hq])) (hcl.set (by rw [p1]; simp)) q1 (.inl ⟨p2, e', w', nil _ _ _, (Kept.refl _ _).m'⟩) q2⟩
      · obtain ⟨e', st'', x, v, q1, q2, q3, q4⟩ := hc
        exact ⟨e', st'', x, v, q1, q2, q3.noT, q4⟩
    · rw [if_neg (by simp [hw])]
      exact ⟨fun hnF _ => absurd hiF hnF, ih _ fuel [] e st' _ w hf' p3 hF (fun q hq => hF2 q (by simp [Pl.fins, hq])) (hcl.set (by rw [p1]; simp)) k1 (.inl ⟨p2, e, w, nil _ _ _, (Kept.refl _ _).m'⟩) k2⟩
end
end Go.Vx
