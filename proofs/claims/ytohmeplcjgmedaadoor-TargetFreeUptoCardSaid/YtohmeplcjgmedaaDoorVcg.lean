/- The conditions are enough: guards, regions, code, calls. -/
import Derived.Test.YtohmeplcjgmedaaDoorVcf
import Derived.Scope
namespace Go.Vc
open Go.RowKit

section
variable {P : Program} {ty : List (Nat × TI)} {N : Nat} {w0 : Base} {plans : List (Nat × (List Nat × Pl))}

theorem vcOp_sound (hty : TyOk P ty) {o : Oper} {st : St} {K : St → Prop} {a : Act} {w : World} (h : Ok N w0 st a w) (hk : vcOp P ty N w0 o st K) {next : Act → World → Prop} {Q : Exit → Act → World → Prop}
    (hn : ∀ st' a' w', Ok N w0 st' a' w' → K st' → next a' w') : o.wp P a w next Q := by
  unfold vcOp at hk
  split at hk
  · obtain ⟨sv, h1, h2⟩ := pStep_sound hty h.tmok hk
    obtain ⟨st', k1, k2⟩ := putK_sound h h2
    exact Oper.wp_value (h1 w h.wd.ent trivial) (hn _ _ _ k1 k2)
  · exact vcEff_sound hty h hk hn

theorem tmps_get {a : Act} {d : Nat} {v : Value} (h : a.tmps.getD d undef = v) (hv : v ≠ undef) : a.tmps[d]? = some v := by
  rw [Array.getD_eq_getD_getElem?] at h
  cases hd : a.tmps[d]? with
  | none => rw [hd] at h; exact absurd h.symm hv
  | some u => rw [hd] at h; simp at h; rw [h]
theorem yielded_of {ops : Array Oper} {a : Act} {j d : Nat} {b : Bool} (hd : (nth ops.toList j).bind (·.dst) = some d) (hb : a.tmps.getD d undef = .bool b) : yielded ops a.tmps j = some b := by
  rw [nth_eq, Array.getElem?_toList] at hd
  unfold yielded
  rw [hd]
  simp only [Option.bind_some]
  rw [tmps_get hb (by simp [undef])]

theorem Ok.know {st : St} {a : Act} {w : World} (h : Ok N w0 st a w) {d : Nat} {b : Bool} (hd : lk st.T d = some (.v (.bool b))) : Ok N w0 ⟨(d, .kb b) :: st.T, st.ρ, st.E, st.R, st.pub, st.s⟩ a w := by
  refine ⟨h.sz, h.df, ?_, ⟨h.wd.below, h.wd.size, h.wd.pub, h.wd.ent, h.wd.entN, h.wd.inj, h.wd.row, h.wd.rinj⟩⟩
  intro t sv ht
  simp only [lk] at ht
  split at ht
  · rename_i e
    obtain rfl := nbeq.1 e
    injection ht with ht; subst ht
    exact h.tm d (.v (.bool b)) hd
  · exact h.tm t sv ht

/-- A guarded operation: it is wanted, or it isn't. -/
theorem guardK_sound {ops : Array Oper} {o : Oper} {st : St} {A K : St → Prop} {a : Act} {w : World} (h : Ok N w0 st a w) (hk : guardK N ops o st A K) :
    (Region.wanted o (yielded ops a.tmps) = true ∧ ∃ st', st'.ρ = st.ρ ∧ st'.E = st.E ∧ Ok N w0 st' a w ∧ A st') ∨ (Region.wanted o (yielded ops a.tmps) = false ∧ ∃ st', st'.ρ = st.ρ ∧ Ok N w0 st' (a.put o.dst undef) w ∧ K st') := by
  unfold guardK at hk
  split at hk
  · rename_i hg
    exact .inl ⟨by simp [Region.wanted, hg], st, rfl, rfl, h, hk⟩
  · rename_i j want hg
    split at hk <;> try (exact hk.elim)
    rename_i d hd
    split at hk <;> try (exact hk.elim)
    · rename_i b hb
      have hy := yielded_of hd (h.tm d _ hb)
      split at hk
      · rename_i he
        exact .inl ⟨by simp [Region.wanted, hg, hy, eq_of_beq he], st, rfl, rfl, h, hk⟩
      · rename_i he
        obtain ⟨st', k0, k1, k2⟩ := putK_sound' h hk
        exact .inr ⟨by simp only [Region.wanted, hg, hy]; simpa using he, st', k0, k1, k2⟩
    · rename_i b hb
      have hy := yielded_of hd (h.tm d _ hb)
      by_cases he : b = want
      · subst he
        exact .inl ⟨by simp [Region.wanted, hg, hy], ⟨(d, .kb b) :: st.T, st.ρ, st.E, st.R, st.pub, st.s⟩, rfl, rfl, h.know hb, hk.1 rfl⟩
      · have he' : b = !want := by cases b <;> cases want <;> simp_all
        subst he'
        obtain ⟨st', k0, k1, k2⟩ := putK_sound' (h.know hb) (hk.2 rfl)
        exact .inr ⟨by simp only [Region.wanted, hg, hy]; cases want <;> rfl, st', k0, k1, k2⟩

theorem vcSeq_sound (hty : TyOk P ty) {ops : Array Oper} {Q : Exit → Act → World → Prop} : ∀ (l : List Oper) (st : St) (K : St → Prop) (a : Act) (w : World), Ok N w0 st a w → vcSeq P ty N w0 ops l st K →
    (∀ st' a' w', Ok N w0 st' a' w' → K st' → Q .normal a' w') → wpList P ops Q l a w
  | [], st, K, a, w, h, hk, hn => hn st a w h hk
  | o :: r, st, K, a, w, h, hk, hn => by
    simp only [vcSeq] at hk
    unfold wpList
    rcases guardK_sound h hk with ⟨hw, st', _, _, k1, k2⟩ | ⟨hw, st', _, k1, k2⟩
    · rw [if_pos hw]
      exact .inl (vcOp_sound hty k1 k2 fun st'' a' w' q1 q2 => vcSeq_sound hty r st'' K a' w' q1 q2 hn)
    · rw [if_neg (by simp [hw])]
      exact vcSeq_sound hty r st' K _ w k1 k2 hn

theorem restE_get {E : El} : ∀ {L : List Nat} {i : Nat} {x : List SV × TypeId}, lk (restE E L) i = some x → lk E i = some x ∧ i ∈ L
  | [], i, x, h => by simp [restE, lk] at h
  | j :: r, i, x, h => by
    simp only [restE] at h
    split at h
    · rename_i y hy
      simp only [lk] at h
      split at h
      · rename_i e
        obtain rfl := nbeq.1 e
        injection h with h; subst h
        exact ⟨hy, by simp⟩
      · obtain ⟨h1, h2⟩ := restE_get h
        exact ⟨h1, by simp [h2]⟩
    · obtain ⟨h1, h2⟩ := restE_get h
      exact ⟨h1, by simp [h2]⟩
theorem sameE_get {E E' : El} : ∀ {L : List Nat}, sameE E E' L → ∀ i ∈ L, lk E i = lk E' i
  | [], _, i, hi => by cases hi
  | j :: r, h, i, hi => by
    rcases List.mem_cons.1 hi with rfl | hi
    · exact h.1
    · exact sameE_get h.2 i hi

theorem preP_get : ∀ {ρ0 ρ : List Nat}, preP ρ0 ρ → ∀ i, i < ρ0.length → ρ.getD i 0 = ρ0.getD i 0
  | [], _, _, i, hi => by simp at hi
  | a :: r, b :: s, h, 0, _ => by simp [h.1]
  | a :: r, b :: s, h, i + 1, hi => by
    have := preP_get h.2 i (by simpa using hi)
    simpa [List.getD_eq_getElem?_getD] using this
  | _ :: _, [], h, _, _ => h.elim
theorem preP_refl : ∀ ρ : List Nat, preP ρ ρ
  | [] => trivial
  | _ :: r => ⟨rfl, preP_refl r⟩

/-- What every world meets in which a region goes on. -/
def InR (w0 : Base) (ρ : List Nat) (EL : El) (pub : Nat → Prop) (s : World) (w : World) : Prop := EntOk ρ EL w ∧ Stab w0 pub s w

/-! #### Every order, with a condition on the world that only some operations must keep -/
section
variable {ops : Array Oper} {Q : Exit → Act → World → Prop} {Z : World → Prop} {F : List Nat}
/-- Whatever comes up next; behind each operation that is not one of F the condition holds. -/
def AnyR (P : Program) (ops : Array Oper) (Q : Exit → Act → World → Prop) (Z : World → Prop) (F : List Nat) : Nat → Array Bool → Act → World → Prop
  | 0, l, a, w => Region.ready .any ops l = [] ∧ Q .normal a w
  | n + 1, l, a, w => (Region.ready .any ops l = [] → Q .normal a w) ∧
    ∀ i ∈ Region.ready .any ops l, wpOp P ops Q i (fun a' w' => (i ∉ F → Z w → Z w') ∧ AnyR P ops Q Z F n (l.setIfInBounds i true) a' w') a w
theorem AnyR.any : ∀ (n : Nat) (l : Array Bool) (a : Act) (w : World), AnyR P ops Q Z F n l a w → wpAny P .any ops Q n l a w
  | 0, _, _, _, h => h
  | n + 1, _, _, _, h => ⟨h.1, fun i hi => wpOp_mono (fun a' w' h' => AnyR.any n _ a' w' h'.2) (h.2 i hi)⟩
theorem AnyR.stop {l : Array Bool} {a : Act} {w : World} (hr : Region.ready .any ops l = []) (h : Q .normal a w) : ∀ n, AnyR P ops Q Z F n l a w
  | 0 => ⟨hr, h⟩
  | _ + 1 => ⟨fun _ => h, by rw [hr]; simp⟩
/-- An operation that yields one value wherever the condition holds may be taken first, if those of F wait for it. -/
theorem AnyR.first {i : Nat} {oi : Oper} {v : Value} {Z0 : World → Prop} (hi : ops[i]? = some oi) (hs : Region.noSelect ops = true) (hQ : ∀ c a w, ¬ Q (.panic c) a w) (hF : (∀ w, Z0 w) ∨ ((∀ w, Z w → Z0 w) ∧ ∀ j ∈ F, depB ops j i = true)) :
    ∀ (n : Nat) (l : Array Bool) (a : Act) (w : World), (∀ j oj, ops[j]? = some oj → j ≠ i → l.getD j true = false → (∀ e ∈ oj.after, Region.binds .any e = true → e.on ≠ i) → oi.apart ops oj = true) →
      i ∈ Region.ready .any ops l → YieldsIf P ops Z0 oi v a → ((∀ w, Z0 w) ∨ Z w) → AnyR P ops Q Z F n (l.setIfInBounds i true) (a.put oi.dst v) w → AnyR P ops Q Z F (n + 1) l a w := by
  have hsel := Region.noSelect_spec hs
  have own : ∀ {n : Nat} {l : Array Bool} {a : Act} {w : World}, YieldsIf P ops Z0 oi v a → ((∀ w, Z0 w) ∨ Z w) → AnyR P ops Q Z F n (l.setIfInBounds i true) (a.put oi.dst v) w →
      wpOp P ops Q i (fun a' w' => (i ∉ F → Z w → Z w') ∧ AnyR P ops Q Z F n (l.setIfInBounds i true) a' w') a w := by
    intro n l a w hy hZ H
    have hZ0 : Z0 w := by
      rcases hZ with h | h
      · exact h w
      · rcases hF with h' | h'
        · exact h' w
        · exact h'.1 w h
    exact hy.wpOp hi hZ0 ⟨fun _ h => h, H⟩
  intro n
  induction n with
  | zero =>
    intro l a w _ hr hy hZ H
    refine ⟨fun h => (by rw [h] at hr; cases hr), fun j hj => ?_⟩
    rcases Decidable.em (j = i) with rfl | hne
    · exact own hy hZ H
    · have h0 := ready_mono hj hne
      rw [H.1] at h0; cases h0
  | succ n ih =>
    intro l a w hfree hr hy hZ H
    refine ⟨fun h => (by rw [h] at hr; cases hr), fun j hj => ?_⟩
    rcases Decidable.em (j = i) with rfl | hne
    · exact own hy hZ H
    · have hrun := H.2 j (ready_mono hj hne)
      obtain ⟨hun, oj, hoj, hall⟩ := mem_ready.1 hj
      have hi0 := (mem_ready.1 hr).1
      -- j does not wait for i
      have hnot : ∀ e ∈ oj.after, Region.binds .any e = true → e.on ≠ i := by
        intro e he hb heq
        have ht := hall e he hb
        rw [heq] at ht
        rcases Nat.lt_or_ge i l.size with h' | h'
        · simp [h'] at hi0 ht; rw [hi0] at ht; cases ht
        · simp [Array.getElem?_eq_none h'] at ht
      have hstep : ∀ w', (j ∉ F → Z w → Z w') → (∀ w, Z0 w) ∨ Z w' := by
        intro w' hw'
        rcases hF with h' | ⟨_, h'⟩
        · exact .inl h'
        · rcases hZ with h | h
          · exact .inl h
          · refine .inr (hw' (fun hjF => ?_) h)
            have hd := h' j hjF
            simp only [depB, hoj, Array.any_eq_true', Bool.and_eq_true, nbeq] at hd
            obtain ⟨e, he, e1, e2⟩ := hd
            exact hnot e he e2 e1
      have hput := wpOp_putIf hoj (hfree j oj hoj hne hun hnot) (fun cs b => hsel i oi cs b hi) (fun cs b => hsel j oj cs b hoj) (fun c a w h => absurd h (hQ c _ _)) hy hrun
      refine wpOp_mono (fun a' w' h3 => ⟨h3.2.1, ih (l.setIfInBounds j true) a' w' ?_ (ready_mono hr (Ne.symm hne)) h3.1 (hstep w' h3.2.1) ?_⟩) hput
      · intro k ok hk hki hun' hno
        refine hfree k ok hk hki ?_ hno
        rcases Decidable.em (j = k) with rfl | hjk
        · exact hun
        · rwa [getD_set_ne true hjk] at hun'
      · rw [Array.setIfInBounds_comm _ _ hne]
        exact h3.2.2
end

/-- In a region: every order. -/
theorem vcPlan_sound (hty : TyOk P ty) {ops : Array Oper} (hs : Region.noSelect ops = true) {L : List Nat} {ρ0 : List Nat} {EL : El} {pub : Nat → Prop} {s : World} {Q : Exit → Act → World → Prop} (hQ : ∀ c a w, ¬ Q (.panic c) a w)
    (hN : ∀ i c t, lk EL i = some (c, t) → i < ρ0.length ∧ okNL ρ0.length c = true ∧ i ∈ L) {F : List Nat} :
    ∀ (plan : Pl) (listed : Array Bool) (fuel : Nat) (st : St) (K : St → Prop) (a : Act) (w : World), plan.len ≤ fuel → planB ops plan listed = true → (∀ j ∈ F, ∀ i ∈ plan.takes, depB ops j i = true) → (∀ j ∈ plan.fins, j ∈ F) →
      Ok N w0 st a w → (plan.onlyFins = true ∨ (preP ρ0 st.ρ ∧ InR w0 ρ0 EL pub s w)) →
      vcPlan P ty N w0 ops L ρ0 EL pub s plan st K → (∀ st' a' w', Ok N w0 st' a' w' → K st' → Q .normal a' w') → AnyR P ops Q (InR w0 ρ0 EL pub s) F fuel listed a w := by
  have hden : ∀ {ρ : List Nat} {w : World}, preP ρ0 ρ → EntOk ρ0 EL w → EntOk ρ EL w := by
    intro ρ w hp hw j c t hj
    obtain ⟨n1, n2, _⟩ := hN j c t hj
    rw [preP_get hp j n1, ← denL_ext (n := ρ0.length) (fun q hq => (preP_get hp q hq).symm) c n2]
    exact hw j c t hj
  have heldIn : ∀ {st : St} {a : Act} {w : World}, Ok N w0 st a w → Held ρ0 EL L pub s st → InR w0 ρ0 EL pub s w := by
    rintro st a w q1 ⟨g1, g2, g3⟩
    refine ⟨fun j c t hj => ?_, q1.wd.below, fun k hk => ?_⟩
    · obtain ⟨n1, n2, n3⟩ := hN j c t hj
      have hj' : lk st.E j = some (c, t) := by rw [← sameE_get g2 j n3]; exact hj
      have := q1.wd.ent j c t hj'
      rw [preP_get g1 j n1, ← denL_ext (n := ρ0.length) (fun q hq => (preP_get g1 q hq).symm) c n2] at this
      exact this
    · obtain ⟨k1, k2⟩ := g3 k hk
      rw [(q1.wd.pub k k1).2, k2]
  have runOp : ∀ {i : Nat} {o : Oper} {r : Pl} {fuel : Nat} {listed : Array Bool} {st : St} {K : St → Prop} {a : Act} {w : World}, ops[i]? = some o → Ok N w0 st a w → preP ρ0 st.ρ → InR w0 ρ0 EL pub s w →
      (∀ (st : St) (a : Act) (w : World), Ok N w0 st a w → preP ρ0 st.ρ → InR w0 ρ0 EL pub s w → vcPlan P ty N w0 ops L ρ0 EL pub s r st K → AnyR P ops Q (InR w0 ρ0 EL pub s) F fuel (listed.setIfInBounds i true) a w) →
      (guardK N ops o st (fun st => vcOp P ty N w0 o st fun st' => Held ρ0 EL L pub s st' ∧ vcPlan P ty N w0 ops L ρ0 EL pub s r st' K) fun st' => vcPlan P ty N w0 ops L ρ0 EL pub s r st' K) →
      wpOp P ops Q i (fun a' w' => (i ∉ F → InR w0 ρ0 EL pub s w → InR w0 ρ0 EL pub s w') ∧ AnyR P ops Q (InR w0 ρ0 EL pub s) F fuel (listed.setIfInBounds i true) a' w') a w := by
    intro i o r fuel listed st K a w ho h hpre hS ih hk
    unfold wpOp
    simp only [ho]
    rcases guardK_sound h hk with ⟨hw, st', e1, _, k1, k2⟩ | ⟨hw, st', e1, k1, k2⟩
    · rw [if_pos hw]
      refine .inl (vcOp_sound hty k1 k2 ?_)
      rintro st'' a' w' q1 ⟨hh, q2⟩
      exact ⟨fun _ _ => heldIn q1 hh, ih st'' a' w' q1 hh.1 (heldIn q1 hh) q2⟩
    · rw [if_neg (by simp [hw])]
      exact ⟨fun _ h => h, ih st' _ w k1 (by rw [e1]; exact hpre) hS k2⟩
  intro plan
  induction plan with
  | done =>
    intro listed fuel st K a w hf hp hF hF2 h hpre hk hn
    simp only [planB, List.isEmpty_iff] at hp
    exact AnyR.stop hp (hn st a w h hk) fuel
  | take i r ih =>
    intro listed fuel st K a w hf hp hF hF2 h hpre hk hn
    obtain ⟨fuel, rfl⟩ : ∃ f, fuel = f + 1 := ⟨fuel - 1, by simp only [Pl.len] at hf; omega⟩
    have hf' : r.len ≤ fuel := by simp only [Pl.len] at hf; omega
    rcases hpre with hpre | ⟨hpre, hS⟩
    · simp [Pl.onlyFins] at hpre
    simp only [vcPlan] at hk
    split at hk <;> try (exact hk.elim)
    rename_i o ho
    have ho' : ops[i]? = some o := by rw [← Array.getElem?_toList, ← nth_eq]; exact ho
    simp only [planB, Bool.and_eq_true] at hp
    obtain ⟨⟨p1, p2⟩, p3⟩ := hp
    have hFi : ∀ j ∈ F, depB ops j i = true := fun j hj => hF j hj i (by simp [Pl.takes])
    have hFr : ∀ j ∈ F, ∀ q ∈ r.takes, depB ops j q = true := fun j hj q hq => hF j hj q (by simp [Pl.takes, hq])
    rcases guardK_sound h hk with ⟨hw, st', e1, _, k1, k2⟩ | ⟨hw, st', e1, k1, k2⟩
    · obtain ⟨sv, y1, y2⟩ := pStep_sound hty k1.tmok k2
      obtain ⟨st'', e2, q1, q2⟩ := putK_sound' k1 y2
      have hpre' : preP ρ0 st'.ρ := by rw [e1]; exact hpre
      refine AnyR.first (Z0 := InR w0 ρ0 EL pub s) ho' hs hQ (.inr ⟨fun _ h => h, hFi⟩) fuel listed a w (Region.free_spec ho' p1) (by simpa using p2) (v := den st'.ρ sv) (.inl ⟨hw, fun w' hw' => y1 w' (hden hpre' hw'.1) hw'.2⟩) (.inr hS) ?_
      exact ih _ fuel st'' K _ w hf' p3 hFr hF2 q1 (.inr ⟨by rw [e2]; exact hpre', hS⟩) q2 hn
    · refine AnyR.first (Z0 := fun _ => True) ho' hs hQ (.inl fun _ => trivial) fuel listed a w (Region.free_spec ho' p1) (by simpa using p2) (v := undef) (.inr ⟨hw, rfl⟩) (.inl fun _ => trivial) ?_
      exact ih _ fuel st' K _ w hf' p3 hFr hF2 k1 (.inr ⟨by rw [e1]; exact hpre, hS⟩) k2 hn
  | run i r ih =>
    intro listed fuel st K a w hf hp hF hF2 h hpre hk hn
    obtain ⟨fuel, rfl⟩ : ∃ f, fuel = f + 1 := ⟨fuel - 1, by simp only [Pl.len] at hf; omega⟩
    have hf' : r.len ≤ fuel := by simp only [Pl.len] at hf; omega
    rcases hpre with hpre | ⟨hpre, hS⟩
    · simp [Pl.onlyFins] at hpre
    simp only [vcPlan] at hk
    split at hk <;> try (exact hk.elim)
    rename_i o ho
    have ho' : ops[i]? = some o := by rw [← Array.getElem?_toList, ← nth_eq]; exact ho
    simp only [planB, Bool.and_eq_true, beq_iff_eq] at hp
    obtain ⟨p1, p3⟩ := hp
    refine ⟨fun h0 => (by rw [p1] at h0; cases h0), fun j hj => ?_⟩
    rw [p1, List.mem_singleton] at hj
    subst hj
    exact runOp ho' h hpre hS (fun st a w q1 q2 q3 q4 => ih _ fuel st K a w hf' p3 hF hF2 q1 (.inr ⟨q2, q3⟩) q4 hn) hk
  | two i j ri rj ihi ihj =>
    intro listed fuel st K a w hf hp hF hF2 h hpre hk hn
    obtain ⟨fuel, rfl⟩ : ∃ f, fuel = f + 1 := ⟨fuel - 1, by simp only [Pl.len] at hf; omega⟩
    have hf1 : ri.len ≤ fuel := by simp only [Pl.len] at hf; have := Nat.le_max_left ri.len rj.len; have e : Nat.max ri.len rj.len = max ri.len rj.len := rfl; omega
    have hf2 : rj.len ≤ fuel := by simp only [Pl.len] at hf; have := Nat.le_max_right ri.len rj.len; have e : Nat.max ri.len rj.len = max ri.len rj.len := rfl; omega
    rcases hpre with hpre | ⟨hpre, hS⟩
    · simp [Pl.onlyFins] at hpre
    simp only [vcPlan] at hk
    split at hk <;> try (exact hk.elim)
    rename_i o o' ho1 ho2
    have ho1' : ops[i]? = some o := by rw [← Array.getElem?_toList, ← nth_eq]; exact ho1
    have ho2' : ops[j]? = some o' := by rw [← Array.getElem?_toList, ← nth_eq]; exact ho2
    simp only [planB, Bool.and_eq_true, beq_iff_eq] at hp
    obtain ⟨⟨p1, p2⟩, p3⟩ := hp
    simp only [Pl.takes, Pl.fins, List.mem_append] at hF hF2
    refine ⟨fun h0 => (by rw [p1] at h0; cases h0), fun q hq => ?_⟩
    rw [p1] at hq
    simp only [List.mem_cons, List.not_mem_nil, or_false] at hq
    rcases hq with rfl | rfl
    · exact runOp ho1' h hpre hS (fun st a w q1 q2 q3 q4 => ihi _ fuel st K a w hf1 p2 (fun j hj i hi => hF j hj i (.inl hi)) (fun j hj => hF2 j (.inl hj)) q1 (.inr ⟨q2, q3⟩) q4 hn) hk.1
    · exact runOp ho2' h hpre hS (fun st a w q1 q2 q3 q4 => ihj _ fuel st K a w hf2 p3 (fun j hj i hi => hF j hj i (.inr hi)) (fun j hj => hF2 j (.inr hj)) q1 (.inr ⟨q2, q3⟩) q4 hn) hk.2
  | three i j k ri rj rk _ _ _ =>
    intro listed fuel st K a w hf hp hF hF2 h hpre hk hn
    simp only [vcPlan] at hk
  | pure i r ih =>
    intro listed fuel st K a w hf hp hF hF2 h hpre hk hn
    obtain ⟨fuel, rfl⟩ : ∃ f, fuel = f + 1 := ⟨fuel - 1, by simp only [Pl.len] at hf; omega⟩
    have hf' : r.len ≤ fuel := by simp only [Pl.len] at hf; omega
    simp only [vcPlan] at hk
    split at hk <;> try (exact hk.elim)
    rename_i o ho
    have ho' : ops[i]? = some o := by rw [← Array.getElem?_toList, ← nth_eq]; exact ho
    simp only [planB, Bool.and_eq_true] at hp
    obtain ⟨⟨p1, p2⟩, p3⟩ := hp
    have hpre2 : ∀ {st' : St}, st'.ρ = st.ρ → r.onlyFins = true ∨ (preP ρ0 st'.ρ ∧ InR w0 ρ0 EL pub s w) := by
      intro st' e
      rcases hpre with h' | ⟨h1, h2⟩
      · exact .inl h'
      · exact .inr ⟨by rw [e]; exact h1, h2⟩
    rcases guardK_sound h hk with ⟨hw, st', e1, _, k1, k2⟩ | ⟨hw, st', e1, k1, k2⟩
    · obtain ⟨sv, y1, y2⟩ := pStep_sound hty k1.tmok k2
      obtain ⟨st'', e2, q1, q2⟩ := putK_sound' k1 y2
      refine AnyR.first (Z0 := fun _ => True) ho' hs hQ (.inl fun _ => trivial) fuel listed a w (Region.free_spec ho' p1) (by simpa using p2) (v := den st'.ρ sv) (.inl ⟨hw, fun w' _ => y1 w' (fun i c t hi => by simp [lk] at hi) trivial⟩) (.inl fun _ => trivial) ?_
      exact ih _ fuel st'' K _ w hf' p3 hF hF2 q1 (hpre2 (e2.trans e1)) q2 hn
    · refine AnyR.first (Z0 := fun _ => True) ho' hs hQ (.inl fun _ => trivial) fuel listed a w (Region.free_spec ho' p1) (by simpa using p2) (v := undef) (.inr ⟨hw, rfl⟩) (.inl fun _ => trivial) ?_
      exact ih _ fuel st' K _ w hf' p3 hF hF2 k1 (hpre2 e1) k2 hn
  | fin i r ih =>
    intro listed fuel st K a w hf hp hF hF2 h hpre hk hn
    obtain ⟨fuel, rfl⟩ : ∃ f, fuel = f + 1 := ⟨fuel - 1, by simp only [Pl.len] at hf; omega⟩
    have hf' : r.len ≤ fuel := by simp only [Pl.len] at hf; omega
    simp only [vcPlan] at hk
    split at hk <;> try (exact hk.elim)
    rename_i o ho
    have ho' : ops[i]? = some o := by rw [← Array.getElem?_toList, ← nth_eq]; exact ho
    simp only [planB, Bool.and_eq_true, beq_iff_eq] at hp
    obtain ⟨⟨p1, p2⟩, p3⟩ := hp
    have hiF : i ∈ F := hF2 i (by simp [Pl.fins])
    refine ⟨fun h0 => (by rw [p1] at h0; cases h0), fun j hj => ?_⟩
    rw [p1, List.mem_singleton] at hj
    subst hj
    unfold wpOp
    simp only [ho']
    rcases guardK_sound h hk with ⟨hw, st', e1, _, k1, k2⟩ | ⟨hw, st', e1, k1, k2⟩
    · rw [if_pos hw]
      refine .inl (vcOp_sound hty k1 k2 ?_)
      intro st'' a' w' q1 q2
      exact ⟨fun hnF _ => absurd hiF hnF, ih _ fuel st'' K a' w' hf' p3 hF (fun q hq => hF2 q (by simp [Pl.fins, hq])) q1 (.inl p2) q2 hn⟩
    · rw [if_neg (by simp [hw])]
      exact ⟨fun hnF _ => absurd hiF hnF, ih _ fuel st' K _ w hf' p3 hF (fun q hq => hF2 q (by simp [Pl.fins, hq])) k1 (.inl p2) k2 hn⟩

/-- What is asked behind a piece of code, as a condition on the machine's state. -/
def Kden (N : Nat) (w0 : Base) (K : Exit → St → Prop) : Exit → Act → World → Prop
  | .normal, a, w => ∃ st, Ok N w0 st a w ∧ K .normal st
  | .exit id, a, w => ∃ st, Ok N w0 st a w ∧ K (.exit id) st
  | .goto l, a, w => ∃ st, Ok N w0 st a w ∧ K (.goto l) st
  | .ret, a, w => ∃ st, Ok N w0 st a w ∧ K .ret st
  | _, _, _ => False

theorem Kden_mono {K K' : Exit → St → Prop} (h : ∀ e st, K e st → K' e st) {e : Exit} {a : Act} {w : World} (hk : Kden N w0 K e a w) : Kden N w0 K' e a w := by
  cases e <;> first | exact hk | (obtain ⟨st, h1, h2⟩ := hk; exact ⟨st, h1, h _ _ h2⟩)

theorem least {p : Nat → Prop} (h : ∃ n, p n) : ∃ n, p n ∧ ∀ m, p m → n ≤ m := by
  obtain ⟨n, hn⟩ := h
  induction n using Nat.strongRecOn with
  | _ n ih =>
    by_cases h : ∃ m, m < n ∧ p m
    · obtain ⟨m, h1, h2⟩ := h
      exact ih m h1 h2
    · exact ⟨n, hn, fun m hm => Nat.le_of_not_lt fun hl => h ⟨m, hl, hm⟩⟩

theorem vcCode_sound (hty : TyOk P ty) (hm : P.follows .mixedOrders = true) : ∀ (c : Code) (st : St) (K : Exit → St → Prop) (a : Act) (w : World), Ok N w0 st a w → vcCode P ty N w0 plans c st K → c.wp P (Kden N w0 K) a w
  | .skip, st, K, a, w, h, hk => wp_skip ⟨st, h, hk⟩
  | .label _, st, K, a, w, h, hk => wp_label ⟨st, h, hk⟩
  | .exit id, st, K, a, w, h, hk => wp_exit ⟨st, h, hk⟩
  | .goto l, st, K, a, w, h, hk => wp_goto ⟨st, h, hk⟩
  | .ret, st, K, a, w, h, hk => wp_ret ⟨st, h, hk⟩
  | .seq x y, st, K, a, w, h, hk => by
    simp only [vcCode] at hk
    split at hk
    · refine wp_seq (wp_mono (vcCode_sound hty hm x st _ a w h hk) fun e a w hq => ?_)
      cases e with
      | normal =>
        obtain ⟨st', h1, h2⟩ := hq
        exact vcCode_sound hty hm y st' K a w h1 h2
      | _ => first | exact hq | (obtain ⟨st', h1, h2⟩ := hq; exact ⟨st', h1, h2⟩)
    · obtain ⟨M, hk1, hk2⟩ := hk
      refine wp_seq (wp_mono (vcCode_sound hty hm x st _ a w h hk1) fun e a w hq => ?_)
      cases e with
      | normal =>
        obtain ⟨st', h1, st'', h2, h3⟩ := hq
        exact vcCode_sound hty hm y st'' K a w (h3 a w h1) (hk2 st'' h2)
      | _ => first | exact hq | (obtain ⟨st', h1, h2⟩ := hq; exact ⟨st', h1, h2⟩)
  | .block id b, st, K, a, w, h, hk => by
    simp only [vcCode] at hk
    refine wp_block (wp_mono (vcCode_sound hty hm b st _ a w h hk) fun e a w hq => ?_)
    cases e with
    | exit id' =>
      obtain ⟨st', h1, h2⟩ := hq
      simp only at h2
      simp only [Exit.inBlock]
      split at h2
      · rename_i e
        rw [if_pos (nbeq.1 e)]
        exact ⟨st', h1, h2⟩
      · rename_i e
        rw [if_neg (nbeq_ne.1 e)]
        exact ⟨st', h1, h2⟩
    | _ => first | exact hq | (obtain ⟨st', h1, h2⟩ := hq; exact ⟨st', h1, h2⟩)
  | .cond c x y, st, K, a, w, h, hk => by
    simp only [vcCode] at hk
    split at hk <;> try (exact hk.elim)
    · rename_i b hb
      have := h.tmok c _ hb
      split at hk
      · exact wp_cond_true this (vcCode_sound hty hm x st K a w h hk)
      · exact wp_cond_false this (vcCode_sound hty hm y st K a w h hk)
    · rename_i b hb
      have := h.tmok c _ hb
      cases b
      · exact wp_cond_false this (vcCode_sound hty hm y st K a w h (hk.2 rfl))
      · exact wp_cond_true this (vcCode_sound hty hm x st K a w h (hk.1 rfl))
  | .region id ops false, st, K, a, w, h, hk => by
    simp only [vcCode] at hk
    exact wp_region_list (vcSeq_sound hty ops.toList st _ a w h hk fun st' a' w' h1 h2 => ⟨st', h1, h2⟩)
  | .region id ops true, st, K, a, w, h, hk => by
    simp only [vcCode] at hk
    split at hk <;> try (exact hk.elim)
    rename_i L plan hL
    obtain ⟨hb, hE, hk⟩ := hk
    simp only [Bool.and_eq_true] at hb
    obtain ⟨⟨⟨b1, b2⟩, bf⟩, b3⟩ := hb
    have hd : Ok N w0 st a { w with drawn := w.drawn + 1 } := ⟨h.sz, h.df, h.tm, h.wd.drew⟩
    refine wp_region_any hm (AnyR.any (Z := InR w0 st.ρ (restE st.E L) st.pub st.s) (F := plan.fins) _ _ _ _ ?_)
    refine vcPlan_sound hty b1 (fun c a w hq => hq) (fun i c t hi => ?_) plan _ _ st (K .normal) a _ (Nat.le_of_ble_eq_true b2) b3 (fun j hj i hi => ?_) (fun j hj => hj) hd (.inr ⟨preP_refl _, fun i c t hi => hd.wd.ent i c t (restE_get hi).1, hd.wd.below, fun k hk => (hd.wd.pub k hk).2⟩) hk fun st' a' w' h1 h2 => ⟨st', h1, h2⟩
    · obtain ⟨r1, r2⟩ := restE_get hi
      exact ⟨(hd.wd.entN i c t r1).1, allE_get hE i c t hi, r2⟩
    · exact List.all_eq_true.1 (List.all_eq_true.1 bf j hj) i hi
  | .loop b, st, K, a, w, h, hk => by
    simp only [vcCode] at hk
    obtain ⟨I, ⟨n0, st0, hI0, hw0⟩, hk⟩ := hk
    let J : Nat → Act → World → Prop := fun n a w => ∃ st, I n st ∧ Ok N w0 st a w
    have key : ∀ n a w, J n a w → (Code.loop b).wp P (Kden N w0 K) a w := by
      intro n a w hJ
      classical
      let μ : Act → World → Nat := fun a w => if hx : ∃ n, J n a w then Classical.choose (least hx) else 0
      refine wp_loop (fun a w => ∃ n, J n a w) μ ⟨n, hJ⟩ ?_
      intro a w hx
      have hμ : μ a w = Classical.choose (least hx) := by simp only [μ, dif_pos hx]
      obtain ⟨st, hI, hok⟩ := (Classical.choose_spec (least hx)).1
      refine wp_mono (vcCode_sound hty hm b st _ a w hok (hk _ st hI)) fun e a' w' hq => ?_
      cases e with
      | normal =>
        obtain ⟨st', h1, m, st'', h2, h3, h4⟩ := hq
        have hJ' : J m a' w' := ⟨st'', h3, h4 a' w' h1⟩
        refine ⟨⟨m, hJ'⟩, ?_⟩
        have : μ a' w' ≤ m := by
          have hx' : ∃ n, J n a' w' := ⟨m, hJ'⟩
          simp only [μ, dif_pos hx']
          exact (Classical.choose_spec (least hx')).2 m hJ'
        omega
      | _ => first | exact hq | (obtain ⟨st', h1, h2⟩ := hq; exact ⟨st', h1, h2⟩)
    exact key n0 a w ⟨st0, hI0, hw0 a w h⟩
  | .rangeFunc _ _ _ _, _, _, _, _, _, hk => (hk : False).elim
  | .scope b, st, K, a, w, h, hk => by
    simp only [vcCode] at hk
    refine wp_scope_straight (wp_mono (vcCode_sound hty hm b st _ a w h hk) fun e a w hq => ?_)
    cases e with
    | goto l =>
      obtain ⟨st', h1, h2⟩ := hq
      exact h2.elim
    | _ => first | exact hq | (obtain ⟨st', h1, h2⟩ := hq; exact ⟨st', h1, h2⟩)
  | .refuse _, _, _, _, _, _, hk => (hk : False).elim
end
end Go.Vc
