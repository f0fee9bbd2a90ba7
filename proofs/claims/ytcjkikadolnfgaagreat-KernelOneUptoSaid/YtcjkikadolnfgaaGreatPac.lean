/- Texts of mine, joined: Vcg Vch Vci Vcj Vck. -/
import Derived.Test.YtcjkikadolnfgaaGreatPab
import Derived.Scope
/- The conditions are enough: guards, regions, code, calls. -/
namespace Go.Vc
open Go.RowKit
section
variable {P : Program} {ty : List (Nat × TI)} {N : Nat} {w0 : Base} {plans : List (Nat × (List Nat × Pl))}
theorem vcOp_sound (hty : TyOk P ty) {o : Oper} {st : St} {K : St → Prop} {a : Act} {w : World} (h : Ok N w0 st a w) (hk : vcOp P ty N w0 o st K) {next : Act → World → Prop} {Q : Exit → Act → World → Prop}
    (hn : ∀ st' a' w', Ok N w0 st' a' w' → K st' → next a' w') : o.wp P a w next Q := by
  unfold vcOp at hk
  split at hk
  · obtain ⟨sv, h1, h2⟩ := pStep_sound hty h.tmok hk
    obtain ⟨st', k1, k2⟩ := putK_sound h h2
    exact Oper.wp_value (h1 w h.wd.ent trivial) (hn _ _ _ k1 k2)
  · exact vcEff_sound hty h hk hn
theorem tmps_get {a : Act} {d : Nat} {v : Value} (h : a.tmps.getD d undef = v) (hv : v ≠ undef) : a.tmps[d]? = some v := by
  rw [Array.getD_eq_getD_getElem?] at h
  cases hd : a.tmps[d]? with
  | none => rw [hd] at h; exact absurd h.symm hv
  | some u => rw [hd] at h; simp at h; rw [h]
theorem yielded_of {ops : Array Oper} {a : Act} {j d : Nat} {b : Bool} (hd : (nth ops.toList j).bind (·.dst) = some d) (hb : a.tmps.getD d undef = .bool b) : yielded ops a.tmps j = some b := by
  rw [nth_eq, Array.getElem?_toList] at hd
  unfold yielded
  rw [hd]
  simp only [Option.bind_some]
  rw [tmps_get hb (by simp [undef])]
theorem Ok.know {st : St} {a : Act} {w : World} (h : Ok N w0 st a w) {d : Nat} {b : Bool} (hd : lk st.T d = some (.v (.bool b))) : Ok N w0 ⟨(d, .kb b) :: st.T, st.ρ, st.E, st.R, st.pub, st.s⟩ a w := by
  refine ⟨h.sz, h.df, ?_, ⟨h.wd.below, h.wd.size, h.wd.pub, h.wd.ent, h.wd.entN, h.wd.inj, h.wd.row, h.wd.rinj⟩⟩
  intro t sv ht
  simp only [lk] at ht
  split at ht
  · rename_i e
    obtain rfl := nbeq.1 e
    injection ht with ht; subst ht
    exact h.tm d (.v (.bool b)) hd
  · exact h.tm t sv ht
theorem guardK_sound {ops : Array Oper} {o : Oper} {st : St} {A K : St → Prop} {a : Act} {w : World} (h : Ok N w0 st a w) (hk : guardK N ops o st A K) :
    (Region.wanted o (yielded ops a.tmps) = true ∧ ∃ st', st'.ρ = st.ρ ∧ st'.E = st.E ∧ Ok N w0 st' a w ∧ A st') ∨ (Region.wanted o (yielded ops a.tmps) = false ∧ ∃ st', st'.ρ = st.ρ ∧ Ok N w0 st' (a.put o.dst undef) w ∧ K st') := by
  unfold guardK at hk
  split at hk
  · rename_i hg
    exact .inl ⟨by simp [Region.wanted, hg], st, rfl, rfl, h, hk⟩
  · rename_i j want hg
    split at hk <;> try (exact hk.elim)
    rename_i d hd
    split at hk <;> try (exact hk.elim)
    · rename_i b hb
      have hy := yielded_of hd (h.tm d _ hb)
      split at hk
      · rename_i he
        exact .inl ⟨by simp [Region.wanted, hg, hy, eq_of_beq he], st, rfl, rfl, h, hk⟩
      · rename_i he
        obtain ⟨st', k0, k1, k2⟩ := putK_sound' h hk
        exact .inr ⟨by simp only [Region.wanted, hg, hy]; simpa using he, st', k0, k1, k2⟩
    · rename_i b hb
      have hy := yielded_of hd (h.tm d _ hb)
      by_cases he : b = want
      · subst he
        exact .inl ⟨by simp [Region.wanted, hg, hy], ⟨(d, .kb b) :: st.T, st.ρ, st.E, st.R, st.pub, st.s⟩, rfl, rfl, h.know hb, hk.1 rfl⟩
      · have he' : b = !want := by cases b <;> cases want <;> simp_all
        subst he'
        obtain ⟨st', k0, k1, k2⟩ := putK_sound' (h.know hb) (hk.2 rfl)
        exact .inr ⟨by simp only [Region.wanted, hg, hy]; cases want <;> rfl, st', k0, k1, k2⟩
theorem vcSeq_sound (hty : TyOk P ty) {ops : Array Oper} {Q : Exit → Act → World → Prop} : ∀ (l : List Oper) (st : St) (K : St → Prop) (a : Act) (w : World), Ok N w0 st a w → vcSeq P ty N w0 ops l st K →
    (∀ st' a' w', Ok N w0 st' a' w' → K st' → Q .normal a' w') → wpList P ops Q l a w
  | [], st, K, a, w, h, hk, hn => hn st a w h hk
  | o :: r, st, K, a, w, h, hk, hn => by
    simp only [vcSeq] at hk
    unfold wpList
    rcases guardK_sound h hk with ⟨hw, st', _, _, k1, k2⟩ | ⟨hw, st', _, k1, k2⟩
    · rw [if_pos hw]
      exact .inl (vcOp_sound hty k1 k2 fun st'' a' w' q1 q2 => vcSeq_sound hty r st'' K a' w' q1 q2 hn)
    · rw [if_neg (by simp [hw])]
      exact vcSeq_sound hty r st' K _ w k1 k2 hn
theorem restE_get {E : El} : ∀ {L : List Nat} {i : Nat} {x : List SV × TypeId}, lk (restE E L) i = some x → lk E i = some x ∧ i ∈ L
  | [], i, x, h => by simp [restE, lk] at h
  | j :: r, i, x, h => by
    simp only [restE] at h
    split at h
    · rename_i y hy
      simp only [lk] at h
      split at h
      · rename_i e
        obtain rfl := nbeq.1 e
        injection h with h; subst h
        exact ⟨hy, by simp⟩
      · obtain ⟨h1, h2⟩ := restE_get h
        exact ⟨h1, by simp [h2]⟩
    · obtain ⟨h1, h2⟩ := restE_get h
      exact ⟨h1, by simp [h2]⟩
theorem sameE_get {E E' : El} : ∀ {L : List Nat}, sameE E E' L → ∀ i ∈ L, lk E i = lk E' i
  | [], _, i, hi => by cases hi
  | j :: r, h, i, hi => by
    rcases List.mem_cons.1 hi with rfl | hi
    · exact h.1
    · exact sameE_get h.2 i hi
theorem preP_get : ∀ {ρ0 ρ : List Nat}, preP ρ0 ρ → ∀ i, i < ρ0.length → ρ.getD i 0 = ρ0.getD i 0
  | [], _, _, i, hi => by simp at hi
  | a :: r, b :: s, h, 0, _ => by simp [h.1]
  | a :: r, b :: s, h, i + 1, hi => by
    have := preP_get h.2 i (by simpa using hi)
    simpa [List.getD_eq_getElem?_getD] using this
  | _ :: _, [], h, _, _ => h.elim
theorem preP_refl : ∀ ρ : List Nat, preP ρ ρ
  | [] => trivial
  | _ :: r => ⟨rfl, preP_refl r⟩
def InR (w0 : Base) (ρ : List Nat) (EL : El) (pub : Nat → Prop) (s : World) (w : World) : Prop := EntOk ρ EL w ∧ Stab w0 pub s w
section
variable {ops : Array Oper} {Q : Exit → Act → World → Prop} {Z : World → Prop} {F : List Nat}
def AnyR (P : Program) (ops : Array Oper) (Q : Exit → Act → World → Prop) (Z : World → Prop) (F : List Nat) : Nat → Array Bool → Act → World → Prop
  | 0, l, a, w => Region.ready .any ops l = [] ∧ Q .normal a w
  | n + 1, l, a, w => (Region.ready .any ops l = [] → Q .normal a w) ∧
    ∀ i ∈ Region.ready .any ops l, wpOp P ops Q i (fun a' w' => (i ∉ F → Z w → Z w') ∧ AnyR P ops Q Z F n (l.setIfInBounds i true) a' w') a w
theorem AnyR.any : ∀ (n : Nat) (l : Array Bool) (a : Act) (w : World), AnyR P ops Q Z F n l a w → wpAny P .any ops Q n l a w
  | 0, _, _, _, h => h
  | n + 1, _, _, _, h => ⟨h.1, fun i hi => wpOp_mono (fun a' w' h' => AnyR.any n _ a' w' h'.2) (h.2 i hi)⟩
theorem AnyR.stop {l : Array Bool} {a : Act} {w : World} (hr : Region.ready .any ops l = []) (h : Q .normal a w) : ∀ n, AnyR P ops Q Z F n l a w
  | 0 => ⟨hr, h⟩
  | _ + 1 => ⟨fun _ => h, by rw [hr]; simp⟩
theorem AnyR.first {i : Nat} {oi : Oper} {v : Value} {Z0 : World → Prop} (hi : ops[i]? = some oi) (hs : Region.noSelect ops = true) (hQ : ∀ c a w, ¬ Q (.panic c) a w) (hF : (∀ w, Z0 w) ∨ ((∀ w, Z w → Z0 w) ∧ ∀ j ∈ F, depB ops j i = true)) :
    ∀ (n : Nat) (l : Array Bool) (a : Act) (w : World), (∀ j oj, ops[j]? = some oj → j ≠ i → l.getD j true = false → (∀ e ∈ oj.after, Region.binds .any e = true → e.on ≠ i) → oi.apart ops oj = true) →
      i ∈ Region.ready .any ops l → YieldsIf P ops Z0 oi v a → ((∀ w, Z0 w) ∨ Z w) → AnyR P ops Q Z F n (l.setIfInBounds i true) (a.put oi.dst v) w → AnyR P ops Q Z F (n + 1) l a w := by
  have hsel := Region.noSelect_spec hs
  have own : ∀ {n : Nat} {l : Array Bool} {a : Act} {w : World}, YieldsIf P ops Z0 oi v a → ((∀ w, Z0 w) ∨ Z w) → AnyR P ops Q Z F n (l.setIfInBounds i true) (a.put oi.dst v) w →
      wpOp P ops Q i (fun a' w' => (i ∉ F → Z w → Z w') ∧ AnyR P ops Q Z F n (l.setIfInBounds i true) a' w') a w := by
    intro n l a w hy hZ H
    have hZ0 : Z0 w := by
      rcases hZ with h | h
      · exact h w
      · rcases hF with h' | h'
        · exact h' w
        · exact h'.1 w h
    exact hy.wpOp hi hZ0 ⟨fun _ h => h, H⟩
  intro n
  induction n with
  | zero =>
    intro l a w _ hr hy hZ H
    refine ⟨fun h => (by rw [h] at hr; cases hr), fun j hj => ?_⟩
    rcases Decidable.em (j = i) with rfl | hne
    · exact own hy hZ H
    · have h0 := ready_mono hj hne
      rw [H.1] at h0; cases h0
  | succ n ih =>
    intro l a w hfree hr hy hZ H
    refine ⟨fun h => (by rw [h] at hr; cases hr), fun j hj => ?_⟩
    rcases Decidable.em (j = i) with rfl | hne
    · exact own hy hZ H
    · have hrun := H.2 j (ready_mono hj hne)
      obtain ⟨hun, oj, hoj, hall⟩ := mem_ready.1 hj
      have hi0 := (mem_ready.1 hr).1
      -- j does not wait for i
      have hnot : ∀ e ∈ oj.after, Region.binds .any e = true → e.on ≠ i := by
        intro e he hb heq
        have ht := hall e he hb
        rw [heq] at ht
        rcases Nat.lt_or_ge i l.size with h' | h'
        · simp [h'] at hi0 ht; rw [hi0] at ht; cases ht
        · simp [Array.getElem?_eq_none h'] at ht
      have hstep : ∀ w', (j ∉ F → Z w → Z w') → (∀ w, Z0 w) ∨ Z w' := by
        intro w' hw'
        rcases hF with h' | ⟨_, h'⟩
        · exact .inl h'
        · rcases hZ with h | h
          · exact .inl h
          · refine .inr (hw' (fun hjF => ?_) h)
            have hd := h' j hjF
            simp only [depB, hoj, Array.any_eq_true', Bool.and_eq_true, nbeq] at hd
            obtain ⟨e, he, e1, e2⟩ := hd
            exact hnot e he e2 e1
      have hput := wpOp_putIf hoj (hfree j oj hoj hne hun hnot) (fun cs b => hsel i oi cs b hi) (fun cs b => hsel j oj cs b hoj) (fun c a w h => absurd h (hQ c _ _)) hy hrun
      refine wpOp_mono (fun a' w' h3 => ⟨h3.2.1, ih (l.setIfInBounds j true) a' w' ?_ (ready_mono hr (Ne.symm hne)) h3.1 (hstep w' h3.2.1) ?_⟩) hput
      · intro k ok hk hki hun' hno
        refine hfree k ok hk hki ?_ hno
        rcases Decidable.em (j = k) with rfl | hjk
        · exact hun
        · rwa [getD_set_ne true hjk] at hun'
      · rw [Array.setIfInBounds_comm _ _ hne]
        exact h3.2.2
end
theorem vcPlan_sound (hty : TyOk P ty) {ops : Array Oper} (hs : Region.noSelect ops = true) {L : List Nat} {ρ0 : List Nat} {EL : El} {pub : Nat → Prop} {s : World} {Q : Exit → Act → World → Prop} (hQ : ∀ c a w, ¬ Q (.panic c) a w)
    (hN : ∀ i c t, lk EL i = some (c, t) → i < ρ0.length ∧ okNL ρ0.length c = true ∧ i ∈ L) {F : List Nat} :
    ∀ (plan : Pl) (listed : Array Bool) (fuel : Nat) (st : St) (K : St → Prop) (a : Act) (w : World), plan.len ≤ fuel → planB ops plan listed = true → (∀ j ∈ F, ∀ i ∈ plan.takes, depB ops j i = true) → (∀ j ∈ plan.fins, j ∈ F) →
      Ok N w0 st a w → (plan.onlyFins = true ∨ (preP ρ0 st.ρ ∧ InR w0 ρ0 EL pub s w)) →
      vcPlan P ty N w0 ops L ρ0 EL pub s plan st K → (∀ st' a' w', Ok N w0 st' a' w' → K st' → Q .normal a' w') → AnyR P ops Q (InR w0 ρ0 EL pub s) F fuel listed a w := by
  have hden : ∀ {ρ : List Nat} {w : World}, preP ρ0 ρ → EntOk ρ0 EL w → EntOk ρ EL w := by
    intro ρ w hp hw j c t hj
    obtain ⟨n1, n2, _⟩ := hN j c t hj
    rw [preP_get hp j n1, ← denL_ext (n := ρ0.length) (fun q hq => (preP_get hp q hq).symm) c n2]
    exact hw j c t hj
  have heldIn : ∀ {st : St} {a : Act} {w : World}, Ok N w0 st a w → Held ρ0 EL L pub s st → InR w0 ρ0 EL pub s w := by
    rintro st a w q1 ⟨g1, g2, g3⟩
    refine ⟨fun j c t hj => ?_, q1.wd.below, fun k hk => ?_⟩
    · obtain ⟨n1, n2, n3⟩ := hN j c t hj
      have hj' : lk st.E j = some (c, t) := by rw [← sameE_get g2 j n3]; exact hj
      have := q1.wd.ent j c t hj'
      rw [preP_get g1 j n1, ← denL_ext (n := ρ0.length) (fun q hq => (preP_get g1 q hq).symm) c n2] at this
      exact this
    · obtain ⟨k1, k2⟩ := g3 k hk
      rw [(q1.wd.pub k k1).2, k2]
  have runOp : ∀ {i : Nat} {o : Oper} {r : Pl} {fuel : Nat} {listed : Array Bool} {st : St} {K : St → Prop} {a : Act} {w : World}, ops[i]? = some o → Ok N w0 st a w → preP ρ0 st.ρ → InR w0 ρ0 EL pub s w →
      (∀ (st : St) (a : Act) (w : World), Ok N w0 st a w → preP ρ0 st.ρ → InR w0 ρ0 EL pub s w → vcPlan P ty N w0 ops L ρ0 EL pub s r st K → AnyR P ops Q (InR w0 ρ0 EL pub s) F fuel (listed.setIfInBounds i true) a w) →
      (guardK N ops o st (fun st => vcOp P ty N w0 o st fun st' => Held ρ0 EL L pub s st' ∧ vcPlan P ty N w0 ops L ρ0 EL pub s r st' K) fun st' => vcPlan P ty N w0 ops L ρ0 EL pub s r st' K) →
      wpOp P ops Q i (fun a' w' => (i ∉ F → InR w0 ρ0 EL pub s w → InR w0 ρ0 EL pub s w') ∧ AnyR P ops Q (InR w0 ρ0 EL pub s) F fuel (listed.setIfInBounds i true) a' w') a w := by
    intro i o r fuel listed st K a w ho h hpre hS ih hk
    unfold wpOp
    simp only [ho]
    rcases guardK_sound h hk with ⟨hw, st', e1, _, k1, k2⟩ | ⟨hw, st', e1, k1, k2⟩
    · rw [if_pos hw]
      refine .inl (vcOp_sound hty k1 k2 ?_)
      rintro st'' a' w' q1 ⟨hh, q2⟩
      exact ⟨fun _ _ => heldIn q1 hh, ih st'' a' w' q1 hh.1 (heldIn q1 hh) q2⟩
    · rw [if_neg (by simp [hw])]
      exact ⟨fun _ h => h, ih st' _ w k1 (by rw [e1]; exact hpre) hS k2⟩
  intro plan
  induction plan with
  | done =>
    intro listed fuel st K a w hf hp hF hF2 h hpre hk hn
    simp only [planB, List.isEmpty_iff] at hp
    exact AnyR.stop hp (hn st a w h hk) fuel
  | take i r ih =>
    intro listed fuel st K a w hf hp hF hF2 h hpre hk hn
    obtain ⟨fuel, rfl⟩ : ∃ f, fuel = f + 1 := ⟨fuel - 1, by simp only [Pl.len] at hf; omega⟩
    have hf' : r.len ≤ fuel := by simp only [Pl.len] at hf; omega
    rcases hpre with hpre | ⟨hpre, hS⟩
    · simp [Pl.onlyFins] at hpre
    simp only [vcPlan] at hk
    split at hk <;> try (exact hk.elim)
    rename_i o ho
    have ho' : ops[i]? = some o := by rw [← Array.getElem?_toList, ← nth_eq]; exact ho
    simp only [planB, Bool.and_eq_true] at hp
    obtain ⟨⟨p1, p2⟩, p3⟩ := hp
    have hFi : ∀ j ∈ F, depB ops j i = true := fun j hj => hF j hj i (by simp [Pl.takes])
    have hFr : ∀ j ∈ F, ∀ q ∈ r.takes, depB ops j q = true := fun j hj q hq => hF j hj q (by simp [Pl.takes, hq])
    rcases guardK_sound h hk with ⟨hw, st', e1, _, k1, k2⟩ | ⟨hw, st', e1, k1, k2⟩
    · obtain ⟨sv, y1, y2⟩ := pStep_sound hty k1.tmok k2
      obtain ⟨st'', e2, q1, q2⟩ := putK_sound' k1 y2
      have hpre' : preP ρ0 st'.ρ := by rw [e1]; exact hpre
      refine AnyR.first (Z0 := InR w0 ρ0 EL pub s) ho' hs hQ (.inr ⟨fun _ h => h, hFi⟩) fuel listed a w (Region.free_spec ho' p1) (by simpa using p2) (v := den st'.ρ sv) (.inl ⟨hw, fun w' hw' => y1 w' (hden hpre' hw'.1) hw'.2⟩) (.inr hS) ?_
      exact ih _ fuel st'' K _ w hf' p3 hFr hF2 q1 (.inr ⟨by rw [e2]; exact hpre', hS⟩) q2 hn
    · refine AnyR.first (Z0 := fun _ => True) ho' hs hQ (.inl fun _ => trivial) fuel listed a w (Region.free_spec ho' p1) (by simpa using p2) (v := undef) (.inr ⟨hw, rfl⟩) (.inl fun _ => trivial) ?_
      exact ih _ fuel st' K _ w hf' p3 hFr hF2 k1 (.inr ⟨by rw [e1]; exact hpre, hS⟩) k2 hn
  | run i r ih =>
    intro listed fuel st K a w hf hp hF hF2 h hpre hk hn
    obtain ⟨fuel, rfl⟩ : ∃ f, fuel = f + 1 := ⟨fuel - 1, by simp only [Pl.len] at hf; omega⟩
    have hf' : r.len ≤ fuel := by simp only [Pl.len] at hf; omega
    rcases hpre with hpre | ⟨hpre, hS⟩
    · simp [Pl.onlyFins] at hpre
    simp only [vcPlan] at hk
    split at hk <;> try (exact hk.elim)
    rename_i o ho
    have ho' : ops[i]? = some o := by rw [← Array.getElem?_toList, ← nth_eq]; exact ho
    simp only [planB, Bool.and_eq_true, beq_iff_eq] at hp
    obtain ⟨p1, p3⟩ := hp
    refine ⟨fun h0 => (by rw [p1] at h0; cases h0), fun j hj => ?_⟩
    rw [p1, List.mem_singleton] at hj
    subst hj
    exact runOp ho' h hpre hS (fun st a w q1 q2 q3 q4 => ih _ fuel st K a w hf' p3 hF hF2 q1 (.inr ⟨q2, q3⟩) q4 hn) hk
  | two i j ri rj ihi ihj =>
    intro listed fuel st K a w hf hp hF hF2 h hpre hk hn
    obtain ⟨fuel, rfl⟩ : ∃ f, fuel = f + 1 := ⟨fuel - 1, by simp only [Pl.len] at hf; omega⟩
    have hf1 : ri.len ≤ fuel := by simp only [Pl.len] at hf; have := Nat.le_max_left ri.len rj.len; have e : Nat.max ri.len rj.len = max ri.len rj.len := rfl; omega
    have hf2 : rj.len ≤ fuel := by simp only [Pl.len] at hf; have := Nat.le_max_right ri.len rj.len; have e : Nat.max ri.len rj.len = max ri.len rj.len := rfl; omega
    rcases hpre with hpre | ⟨hpre, hS⟩
    · simp [Pl.onlyFins] at hpre
    simp only [vcPlan] at hk
    split at hk <;> try (exact hk.elim)
    rename_i o o' ho1 ho2
    have ho1' : ops[i]? = some o := by rw [← Array.getElem?_toList, ← nth_eq]; exact ho1
    have ho2' : ops[j]? = some o' := by rw [← Array.getElem?_toList, ← nth_eq]; exact ho2
    simp only [planB, Bool.and_eq_true, beq_iff_eq] at hp
    obtain ⟨⟨p1, p2⟩, p3⟩ := hp
    simp only [Pl.takes, Pl.fins, List.mem_append] at hF hF2
    refine ⟨fun h0 => (by rw [p1] at h0; cases h0), fun q hq => ?_⟩
    rw [p1] at hq
    simp only [List.mem_cons, List.not_mem_nil, or_false] at hq
    rcases hq with rfl | rfl
    · exact runOp ho1' h hpre hS (fun st a w q1 q2 q3 q4 => ihi _ fuel st K a w hf1 p2 (fun j hj i hi => hF j hj i (.inl hi)) (fun j hj => hF2 j (.inl hj)) q1 (.inr ⟨q2, q3⟩) q4 hn) hk.1
    · exact runOp ho2' h hpre hS (fun st a w q1 q2 q3 q4 => ihj _ fuel st K a w hf2 p3 (fun j hj i hi => hF j hj i (.inr hi)) (fun j hj => hF2 j (.inr hj)) q1 (.inr ⟨q2, q3⟩) q4 hn) hk.2
  | three i j k ri rj rk _ _ _ =>
    intro listed fuel st K a w hf hp hF hF2 h hpre hk hn
    simp only [vcPlan] at hk
  | four i j k l ri rj rk rl _ _ _ _ =>
    intro listed fuel st K a w hf hp hF hF2 h hpre hk hn
    simp only [vcPlan] at hk
  | pure i r ih =>
    intro listed fuel st K a w hf hp hF hF2 h hpre hk hn
    obtain ⟨fuel, rfl⟩ : ∃ f, fuel = f + 1 := ⟨fuel - 1, by simp only [Pl.len] at hf; omega⟩
    have hf' : r.len ≤ fuel := by simp only [Pl.len] at hf; omega
    simp only [vcPlan] at hk
    split at hk <;> try (exact hk.elim)
    rename_i o ho
    have ho' : ops[i]? = some o := by rw [← Array.getElem?_toList, ← nth_eq]; exact ho
    simp only [planB, Bool.and_eq_true] at hp
    obtain ⟨⟨p1, p2⟩, p3⟩ := hp
    have hpre2 : ∀ {st' : St}, st'.ρ = st.ρ → r.onlyFins = true ∨ (preP ρ0 st'.ρ ∧ InR w0 ρ0 EL pub s w) := by
      intro st' e
      rcases hpre with h' | ⟨h1, h2⟩
      · exact .inl h'
      · exact .inr ⟨by rw [e]; exact h1, h2⟩
    rcases guardK_sound h hk with ⟨hw, st', e1, _, k1, k2⟩ | ⟨hw, st', e1, k1, k2⟩
    · obtain ⟨sv, y1, y2⟩ := pStep_sound hty k1.tmok k2
      obtain ⟨st'', e2, q1, q2⟩ := putK_sound' k1 y2
      refine AnyR.first (Z0 := fun _ => True) ho' hs hQ (.inl fun _ => trivial) fuel listed a w (Region.free_spec ho' p1) (by simpa using p2) (v := den st'.ρ sv) (.inl ⟨hw, fun w' _ => y1 w' (fun i c t hi => by simp [lk] at hi) trivial⟩) (.inl fun _ => trivial) ?_
      exact ih _ fuel st'' K _ w hf' p3 hF hF2 q1 (hpre2 (e2.trans e1)) q2 hn
    · refine AnyR.first (Z0 := fun _ => True) ho' hs hQ (.inl fun _ => trivial) fuel listed a w (Region.free_spec ho' p1) (by simpa using p2) (v := undef) (.inr ⟨hw, rfl⟩) (.inl fun _ => trivial) ?_
      exact ih _ fuel st' K _ w hf' p3 hF hF2 k1 (hpre2 e1) k2 hn
  | fin i r ih =>
    intro listed fuel st K a w hf hp hF hF2 h hpre hk hn
    obtain ⟨fuel, rfl⟩ : ∃ f, fuel = f + 1 := ⟨fuel - 1, by simp only [Pl.len] at hf; omega⟩
    have hf' : r.len ≤ fuel := by simp only [Pl.len] at hf; omega
    simp only [vcPlan] at hk
    split at hk <;> try (exact hk.elim)
    rename_i o ho
    have ho' : ops[i]? = some o := by rw [← Array.getElem?_toList, ← nth_eq]; exact ho
    simp only [planB, Bool.and_eq_true, beq_iff_eq] at hp
    obtain ⟨⟨p1, p2⟩, p3⟩ := hp
    have hiF : i ∈ F := hF2 i (by simp [Pl.fins])
    refine ⟨fun h0 => (by rw [p1] at h0; cases h0), fun j hj => ?_⟩
    rw [p1, List.mem_singleton] at hj
    subst hj
    unfold wpOp
    simp only [ho']
    rcases guardK_sound h hk with ⟨hw, st', e1, _, k1, k2⟩ | ⟨hw, st', e1, k1, k2⟩
    · rw [if_pos hw]
      refine .inl (vcOp_sound hty k1 k2 ?_)
      intro st'' a' w' q1 q2
      exact ⟨fun hnF _ => absurd hiF hnF, ih _ fuel st'' K a' w' hf' p3 hF (fun q hq => hF2 q (by simp [Pl.fins, hq])) q1 (.inl p2) q2 hn⟩
    · rw [if_neg (by simp [hw])]
      exact ⟨fun hnF _ => absurd hiF hnF, ih _ fuel st' K _ w hf' p3 hF (fun q hq => hF2 q (by simp [Pl.fins, hq])) k1 (.inl p2) k2 hn⟩
def Kden (N : Nat) (w0 : Base) (K : Exit → St → Prop) : Exit → Act → World → Prop
  | .normal, a, w => ∃ st, Ok N w0 st a w ∧ K .normal st
  | .exit id, a, w => ∃ st, Ok N w0 st a w ∧ K (.exit id) st
  | .goto l, a, w => ∃ st, Ok N w0 st a w ∧ K (.goto l) st
  | .ret, a, w => ∃ st, Ok N w0 st a w ∧ K .ret st
  | _, _, _ => False
theorem least {p : Nat → Prop} (h : ∃ n, p n) : ∃ n, p n ∧ ∀ m, p m → n ≤ m := by
  obtain ⟨n, hn⟩ := h
  induction n using Nat.strongRecOn with
  | _ n ih =>
    by_cases h : ∃ m, m < n ∧ p m
    · obtain ⟨m, h1, h2⟩ := h
      exact ih m h1 h2
    · exact ⟨n, hn, fun m hm => Nat.le_of_not_lt fun hl => h ⟨m, hl, hm⟩⟩
theorem vcCode_sound (hty : TyOk P ty) (hm : P.follows .mixedOrders = true) : ∀ (c : Code) (st : St) (K : Exit → St → Prop) (a : Act) (w : World), Ok N w0 st a w → vcCode P ty N w0 plans c st K → c.wp P (Kden N w0 K) a w
  | .skip, st, K, a, w, h, hk => wp_skip ⟨st, h, hk⟩
  | .label _, st, K, a, w, h, hk => wp_label ⟨st, h, hk⟩
  | .exit id, st, K, a, w, h, hk => wp_exit ⟨st, h, hk⟩
  | .goto l, st, K, a, w, h, hk => wp_goto ⟨st, h, hk⟩
  | .ret, st, K, a, w, h, hk => wp_ret ⟨st, h, hk⟩
  | .seq x y, st, K, a, w, h, hk => by
    simp only [vcCode] at hk
    split at hk
    · refine wp_seq (wp_mono (vcCode_sound hty hm x st _ a w h hk) fun e a w hq => ?_)
      cases e with
      | normal =>
        obtain ⟨st', h1, h2⟩ := hq
        exact vcCode_sound hty hm y st' K a w h1 h2
      | _ => first | exact hq | (obtain ⟨st', h1, h2⟩ := hq; exact ⟨st', h1, h2⟩)
    · obtain ⟨M, hk1, hk2⟩ := hk
      refine wp_seq (wp_mono (vcCode_sound hty hm x st _ a w h hk1) fun e a w hq => ?_)
      cases e with
      | normal =>
        obtain ⟨st', h1, st'', h2, h3⟩ := hq
        exact vcCode_sound hty hm y st'' K a w (h3 a w h1) (hk2 st'' h2)
      | _ => first | exact hq | (obtain ⟨st', h1, h2⟩ := hq; exact ⟨st', h1, h2⟩)
  | .block id b, st, K, a, w, h, hk => by
    simp only [vcCode] at hk
    refine wp_block (wp_mono (vcCode_sound hty hm b st _ a w h hk) fun e a w hq => ?_)
    cases e with
    | exit id' =>
      obtain ⟨st', h1, h2⟩ := hq
      simp only at h2
      simp only [Exit.inBlock]
      split at h2
      · rename_i e
        rw [if_pos (nbeq.1 e)]
        exact ⟨st', h1, h2⟩
      · rename_i e
        rw [if_neg (nbeq_ne.1 e)]
        exact ⟨st', h1, h2⟩
    | _ => first | exact hq | (obtain ⟨st', h1, h2⟩ := hq; exact ⟨st', h1, h2⟩)
  | .cond c x y, st, K, a, w, h, hk => by
    simp only [vcCode] at hk
    split at hk <;> try (exact hk.elim)
    · rename_i b hb
      have := h.tmok c _ hb
      split at hk
      · exact wp_cond_true this (vcCode_sound hty hm x st K a w h hk)
      · exact wp_cond_false this (vcCode_sound hty hm y st K a w h hk)
    · rename_i b hb
      have := h.tmok c _ hb
      cases b
      · exact wp_cond_false this (vcCode_sound hty hm y st K a w h (hk.2 rfl))
      · exact wp_cond_true this (vcCode_sound hty hm x st K a w h (hk.1 rfl))
  | .region id ops false, st, K, a, w, h, hk => by
    simp only [vcCode] at hk
    exact wp_region_list (vcSeq_sound hty ops.toList st _ a w h hk fun st' a' w' h1 h2 => ⟨st', h1, h2⟩)
  | .region id ops true, st, K, a, w, h, hk => by
    simp only [vcCode] at hk
    split at hk <;> try (exact hk.elim)
    rename_i L plan hL
    obtain ⟨hb, hE, hk⟩ := hk
    simp only [Bool.and_eq_true] at hb
    obtain ⟨⟨⟨b1, b2⟩, bf⟩, b3⟩ := hb
    have hd : Ok N w0 st a { w with drawn := w.drawn + 1 } := ⟨h.sz, h.df, h.tm, h.wd.drew⟩
    refine wp_region_any hm (AnyR.any (Z := InR w0 st.ρ (restE st.E L) st.pub st.s) (F := plan.fins) _ _ _ _ ?_)
    refine vcPlan_sound hty b1 (fun c a w hq => hq) (fun i c t hi => ?_) plan _ _ st (K .normal) a _ (Nat.le_of_ble_eq_true b2) b3 (fun j hj i hi => ?_) (fun j hj => hj) hd (.inr ⟨preP_refl _, fun i c t hi => hd.wd.ent i c t (restE_get hi).1, hd.wd.below, fun k hk => (hd.wd.pub k hk).2⟩) hk fun st' a' w' h1 h2 => ⟨st', h1, h2⟩
    · obtain ⟨r1, r2⟩ := restE_get hi
      exact ⟨(hd.wd.entN i c t r1).1, allE_get hE i c t hi, r2⟩
    · exact List.all_eq_true.1 (List.all_eq_true.1 bf j hj) i hi
  | .loop b, st, K, a, w, h, hk => by
    simp only [vcCode] at hk
    obtain ⟨I, ⟨n0, st0, hI0, hw0⟩, hk⟩ := hk
    let J : Nat → Act → World → Prop := fun n a w => ∃ st, I n st ∧ Ok N w0 st a w
    have key : ∀ n a w, J n a w → (Code.loop b).wp P (Kden N w0 K) a w := by
      intro n a w hJ
      classical
      let μ : Act → World → Nat := fun a w => if hx : ∃ n, J n a w then Classical.choose (least hx) else 0
      refine wp_loop (fun a w => ∃ n, J n a w) μ ⟨n, hJ⟩ ?_
      intro a w hx
      have hμ : μ a w = Classical.choose (least hx) := by simp only [μ, dif_pos hx]
      obtain ⟨st, hI, hok⟩ := (Classical.choose_spec (least hx)).1
      refine wp_mono (vcCode_sound hty hm b st _ a w hok (hk _ st hI)) fun e a' w' hq => ?_
      cases e with
      | normal =>
        obtain ⟨st', h1, m, st'', h2, h3, h4⟩ := hq
        have hJ' : J m a' w' := ⟨st'', h3, h4 a' w' h1⟩
        refine ⟨⟨m, hJ'⟩, ?_⟩
        have : μ a' w' ≤ m := by
          have hx' : ∃ n, J n a' w' := ⟨m, hJ'⟩
          simp only [μ, dif_pos hx']
          exact (Classical.choose_spec (least hx')).2 m hJ'
        omega
      | _ => first | exact hq | (obtain ⟨st', h1, h2⟩ := hq; exact ⟨st', h1, h2⟩)
    exact key n0 a w ⟨st0, hI0, hw0 a w h⟩
  | .rangeFunc _ _ _ _, _, _, _, _, _, hk => (hk : False).elim
  | .scope b, st, K, a, w, h, hk => by
    simp only [vcCode] at hk
    refine wp_scope_straight (wp_mono (vcCode_sound hty hm b st _ a w h hk) fun e a w hq => ?_)
    cases e with
    | goto l =>
      obtain ⟨st', h1, h2⟩ := hq
      exact h2.elim
    | _ => first | exact hq | (obtain ⟨st', h1, h2⟩ := hq; exact ⟨st', h1, h2⟩)
  | .refuse _, _, _, _, _, _, hk => (hk : False).elim
end
end Go.Vc


/- Calls out of conditions; weaker states; what calls leave. -/
namespace Go.Vc
open Go.RowKit
section
variable {P : Program} {ty : List (Nat × TI)} {N : Nat} {w0 : Base} {plans : List (Nat × (List Nat × Pl))}
def resL (ty : List (Nat × TI)) (T : Tl) (E : El) : List ResultVar → Option (List SV)
  | [] => some []
  | .tmp t :: r => match lk T t, resL ty T E r with
    | some x, some l => some (x :: l)
    | _, _ => none
  | .cell a t :: r => match lk T a with
    | some (.own _ _) => match pOp ty T E (.load t (.tmp a)), resL ty T E r with
      | some x, some l => some (x :: l)
      | _, _ => none
    | _ => none
def retK (ty : List (Nat × TI)) (w0 : Base) (rs : List ResultVar) (R : Ending → World → Prop) : Exit → St → Prop
  | .normal, st => ending st
  | .ret, st => ending st
  | _, _ => False
where
  ending (st : St) : Prop := match resL ty st.T st.E rs with
    | some [x] => ∀ w, Wd w0 st w → R (.returned (den st.ρ x)) w
    | some l => ∀ w, Wd w0 st w → R (.returned (.tuple (denL st.ρ l).toArray)) w
    | none => False
def numb : Nat → List Value → Tl
  | _, [] => []
  | n, v :: r => (n, .v v) :: numb (n + 1) r
def resR (tmps : Array Value) (r : ResultVar) : Sem Value :=
  match r with
  | .tmp t => pure (tmps.getD t undef)
  | .cell a t => do loadVar t (← asAddr (tmps.getD a undef))
theorem resR_tmp (tmps : Array Value) (t : Tmp) : resR tmps (.tmp t) = pure (tmps.getD t undef) := rfl
theorem resR_cell (tmps : Array Value) (a t : Tmp) : resR tmps (.cell a t) = (do loadVar t (← asAddr (tmps.getD a undef))) := rfl
theorem resL_sound (hty : TyOk P ty) {st : St} {a : Act} {w : World} (h : Ok N w0 st a w) : ∀ (rs : List ResultVar) (l : List SV), resL ty st.T st.E rs = some l →
    (rs.mapM (resR a.tmps)).run P w = .ok (denL st.ρ l) w
  | [], l, hl => by simp [resL] at hl; subst hl; simp [go_sem, denL]
  | .tmp t :: r, l, hl => by
    simp only [resL] at hl
    split at hl <;> try (cases hl; done)
    rename_i x l' hx hl'
    injection hl with hl; subst hl
    rw [List.mapM_cons, resR_tmp]
    simp only [Sem.run_bind, Sem.run_pure, Result.andThen_ok, resL_sound hty h r l' hl', denL, h.tm t x hx]
  | .cell ad t :: r, l, hl => by
    simp only [resL] at hl
    split at hl <;> try (cases hl; done)
    rename_i i off hi
    split at hl <;> try (cases hl; done)
    rename_i x l' hx hl'
    injection hl with hl; subst hl
    have hp := pOp_sound hty h.tmok h.wd.ent (o := { dst := none, op := .load t (.tmp ad), type := 0, pos := "", after := #[], guard := none }) hx
    have ha := h.tm ad _ hi
    rw [List.mapM_cons, resR_cell]
    have he : (a.eval (.tmp ad)) = .pointer (some ⟨st.ρ.getD i 0, off, none⟩) := ha
    simp only [execOp, Instr.loadAt, he, Instr.sureAddr, Sem.run_bind, Sem.run_pure, Result.andThen_ok] at hp
    have hp2 : (loadVar t ⟨st.ρ.getD i 0, off, none⟩).run P w = .ok (den st.ρ x) w := by
      generalize (loadVar t ⟨st.ρ.getD i 0, off, none⟩).run P w = q at hp
      cases q with
      | ok v w' => simp [Result.andThen] at hp; obtain ⟨h1, h2⟩ := hp; rw [h1, h2]
      | halt _ _ => simp [Result.andThen] at hp
    simp only [ha, den, asAddr, Sem.run_bind, Sem.run_pure, Result.andThen_ok, hp2, resL_sound hty h r l' hl', denL]
theorem Only.refl (M : Nat → Prop) (w : World) : Only M w w := ⟨rfl, rfl, rfl, Nat.le_refl _, fun _ _ _ => rfl⟩
def numbS : Nat → List SV → Tl
  | _, [] => []
  | n, v :: r => (n, v) :: numbS (n + 1) r
end
end Go.Vc


/- Weaker states; what calls leave; what lies in memory. -/
set_option linter.unusedSimpArgs false
set_option linter.unusedVariables false
namespace Go.Vc
open Go.RowKit
section
variable {P : Program} {ty : List (Nat × TI)} {N : Nat} {w0 : Base}
theorem goes_of {f : FuncId} {fn : Func} (hf : P.funcs[f]? = some fn) (hn : (fn.name == "runtime.NumGoroutine") = false) (hb : fn.body.isNone = false) : Goes P f := by
  intro args w
  unfold callFunc
  rw [Sem.run_bind, run_program]
  simp only [Result.andThen_ok, hf, hn, hb, Bool.false_eq_true, if_false, Sem.run_pure]
def weakT (ρ : List Nat) (T : Tl) (ρ' : List Nat) : Tl → Prop
  | [] => True
  | (t, x) :: r => (match lk T t with
    | some y => den ρ y = den ρ' x
    | none => False) ∧ weakT ρ T ρ' r
def weakE (ρ : List Nat) (E : El) (ρ' : List Nat) : El → Prop
  | [] => True
  | (i, (c, t)) :: r => (match lk E i with
    | some (c', t') => denL ρ c' = denL ρ' c ∧ t' = t ∧ Nat.blt i ρ'.length = true
    | none => False) ∧ weakE ρ E ρ' r
theorem weakT_get {ρ ρ' : List Nat} {T : Tl} : ∀ {T' : Tl}, weakT ρ T ρ' T' → ∀ t x, lk T' t = some x → ∃ y, lk T t = some y ∧ den ρ y = den ρ' x
  | [], _, t, x, h => by simp [lk] at h
  | (k, z) :: r, hw, t, x, h => by
    simp only [lk] at h
    split at h
    · rename_i e
      obtain rfl := nbeq.1 e
      injection h with h; subst h
      have := hw.1
      split at this
      · rename_i y hy; exact ⟨y, hy, this⟩
      · exact this.elim
    · exact weakT_get hw.2 t x h
theorem weakE_get {ρ ρ' : List Nat} {E : El} : ∀ {E' : El}, weakE ρ E ρ' E' → ∀ i c t, lk E' i = some (c, t) → ∃ c', lk E i = some (c', t) ∧ denL ρ c' = denL ρ' c ∧ i < ρ'.length
  | [], _, i, c, t, h => by simp [lk] at h
  | (k, (c0, t0)) :: r, hw, i, c, t, h => by
    simp only [lk] at h
    split at h
    · rename_i e
      obtain rfl := nbeq.1 e
      injection h with h; injection h with h1 h2; subst h1; subst h2
      have := hw.1
      split at this
      · rename_i c' t' hy
        obtain ⟨h1, rfl, h3⟩ := this
        exact ⟨c', hy, h1, by simpa using h3⟩
      · exact this.elim
    · exact weakE_get hw.2 i c t h
theorem weak_of {st st' : St} (hρ : preP st'.ρ st.ρ) (hT : weakT st.ρ st.T st'.ρ st'.T) (hE : weakE st.ρ st.E st'.ρ st'.E) (hR : List.Sublist st'.R st.R) (hp : st'.pub = st.pub) (hs : st'.s = st.s) : Weak N w0 st st' := by
  intro a w h
  refine ⟨h.sz, h.df, fun t sv ht => ?_, ⟨h.wd.below, by rw [hs]; exact h.wd.size, by rw [hp, hs]; exact h.wd.pub, fun i c t hi => ?_, fun i c t hi => ?_, fun i j hi hj hne => ?_, fun r hr => ?_, h.wd.rinj.sublist hR⟩⟩
  · obtain ⟨y, h1, h2⟩ := weakT_get hT t sv ht
    rw [h.tm t y h1, h2]
  · obtain ⟨c', h1, h2, h3⟩ := weakE_get hE i c t hi
    rw [← h2, ← preP_get hρ i h3]
    exact h.wd.ent i c' t h1
  · obtain ⟨c', h1, h2, h3⟩ := weakE_get hE i c t hi
    obtain ⟨k1, k2, k3⟩ := h.wd.entN i c' t h1
    rw [← preP_get hρ i h3, hp]
    exact ⟨h3, k2, k3⟩
  · obtain ⟨⟨c, t⟩, hc⟩ := Option.isSome_iff_exists.1 hi
    obtain ⟨⟨d, u⟩, hd⟩ := Option.isSome_iff_exists.1 hj
    obtain ⟨c', h1, h2, h3⟩ := weakE_get hE i c t hc
    obtain ⟨d', h4, h5, h6⟩ := weakE_get hE j d u hd
    rw [← preP_get hρ i h3, ← preP_get hρ j h6]
    exact h.wd.inj i j (by simp [h1]) (by simp [h4]) hne
  · obtain ⟨k1, k2⟩ := h.wd.row r (hR.subset hr)
    refine ⟨k1, fun g hg => ?_⟩
    obtain ⟨q1, q2, q3⟩ := k2 g hg
    refine ⟨q1, by rw [hp]; exact q2, fun i hi => ?_⟩
    obtain ⟨⟨c, t⟩, hc⟩ := Option.isSome_iff_exists.1 hi
    obtain ⟨c', h1, h2, h3⟩ := weakE_get hE i c t hc
    rw [← preP_get hρ i h3]
    exact q3 i (by simp [h1])
def extP (pub : Nat → Prop) (w w' : World) : Nat → Prop := fun k => pub k ∨ (w.heap.size ≤ k ∧ k < w'.heap.size)
theorem Only.trans {M : Nat → Prop} {w w1 w2 : World} (h : Only M w w1) (k : Only M w1 w2) : Only M w w2 :=
  ⟨k.os.trans h.os, k.tape.trans h.tape, k.output.trans h.output, Nat.le_trans h.size k.size, fun b hb hm => (k.block b (Nat.lt_of_lt_of_le hb h.size) hm).trans (h.block b hb hm)⟩
theorem Only.below {w w' : World} (h : Only (fun _ => False) w w') : Below w.heap.size w w' := ⟨h.os, h.tape, h.output, h.size, fun k hk => h.block k hk id⟩
theorem Only.of_below {M : Nat → Prop} {w w' : World} (h : Below w.heap.size w w') : Only M w w' := ⟨h.os, h.tape, h.output, h.size, fun k hk _ => h.block k hk⟩
theorem Only.mono {M M' : Nat → Prop} {w w' : World} (h : Only M w w') (hm : ∀ k, k < w.heap.size → M k → M' k) : Only M' w w' := ⟨h.os, h.tape, h.output, h.size, fun k hk hn => h.block k hk fun hk' => hn (hm k hk hk')⟩
theorem Wd.bel {w1 : World} {st : St} {w : World} (h : Wd ⟨w1, fun _ => False⟩ st w) : Below w1.heap.size w1 w := h.below.below
theorem Wd.call {st : St} {w w' : World} (h : Wd w0 st w) (hb : Below w.heap.size w w') : Wd w0 ⟨st.T, st.ρ, st.E, st.R, extP st.pub w w', w'⟩ w' := by
  have hlt : ∀ i c t, lk st.E i = some (c, t) → st.ρ.getD i 0 < w.heap.size := fun i c t hi => (Array.getElem?_eq_some_iff.1 (h.ent i c t hi)).1
  refine ⟨⟨hb.os.trans h.below.os, hb.tape.trans h.below.tape, hb.output.trans h.below.output, Nat.le_trans h.below.size hb.size, fun k hk hm => ?_⟩, Nat.le_refl _, fun b hp => ⟨?_, rfl⟩, fun i c t hi => ?_, fun i c t hi => ?_, h.inj, fun r hr => ?_, h.rinj⟩
  · rw [hb.block k (by have := h.below.size; omega)]
    exact h.below.block k hk hm
  · rcases hp with hp | hp
    · show b < w'.heap.size
      have := (h.pub b hp).1; have := h.size; have := hb.size; omega
    · exact hp.2
  · rw [hb.block _ (hlt i c t hi)]; exact h.ent i c t hi
  · obtain ⟨k1, k2, k3⟩ := h.entN i c t hi
    refine ⟨k1, k2, fun hp => ?_⟩
    rcases hp with hp | hp
    · exact k3 hp
    · have h' : w.heap.size ≤ st.ρ.getD i 0 := hp.1
      have := hlt i c t hi; omega
  · obtain ⟨k1, k2⟩ := h.row r hr
    refine ⟨k1.keep fun g hg => hb.block g (k1.lt hg), fun g hg => ?_⟩
    obtain ⟨q1, q2, q3⟩ := k2 g hg
    refine ⟨q1, fun hp => ?_, q3⟩
    rcases hp with hp | hp
    · exact q2 hp
    · have := k1.lt hg; omega
theorem Wd.call0 {st : St} {w w' : World} (h : Wd w0 st w) (hb : Below w.heap.size w w') : Wd w0 ⟨st.T, st.ρ, st.E, st.R, st.pub, w'⟩ w' := by
  have h1 := h.call hb
  exact ⟨h1.below, h1.size, fun b hp => h1.pub b (.inl hp), h1.ent, fun i c t hi => ⟨(h1.entN i c t hi).1, (h1.entN i c t hi).2.1, fun hp => (h1.entN i c t hi).2.2 (.inl hp)⟩, h1.inj, fun r hr => ⟨(h1.row r hr).1, fun g hg => ⟨((h1.row r hr).2 g hg).1, fun hp => ((h1.row r hr).2 g hg).2.1 (.inl hp), ((h1.row r hr).2 g hg).2.2⟩⟩, h1.rinj⟩
theorem Wd.now {st : St} {w : World} (h : Wd w0 st w) : Wd w0 ⟨st.T, st.ρ, st.E, st.R, st.pub, w⟩ w := h.call0 (Below.refl _ _)
def Cells (S : Nat → Prop) (w : World) (A : Option Addr) (l : List Value) : Prop := l = [] ∨ ∃ ad, A = some ad ∧ S ad.block ∧ ∀ j v, l[j]? = some v → w.cell? (ad.add j) = some v
def Same (S : Nat → Prop) (w w' : World) : Prop := ∀ b, S b → b < w.heap.size → w'.heap[b]? = w.heap[b]?
theorem Same.rfl' (S : Nat → Prop) (w : World) : Same S w w := fun _ _ _ => rfl
theorem add_block (a : Addr) (n : Nat) : (a.add n).block = a.block := by unfold Addr.add; split <;> rfl
theorem Same.cell {S : Nat → Prop} {w w' : World} (h : Same S w w') {a : Addr} {v : Value} (ha : S a.block) (hc : w.cell? a = some v) : w'.cell? a = some v := by
  have := h a.block ha (World.block_lt_of_cell? w a hc)
  rw [← hc]; exact World.cell?_of_block this
theorem Cells.to {S S' : Nat → Prop} {w w' : World} {A : Option Addr} {l : List Value} (h : Cells S w A l) (hs : Same S w w') (hS : ∀ k, S k → k < w.heap.size → S' k) : Cells S' w' A l := by
  rcases h with h | ⟨ad, rfl, h1, h2⟩
  · exact .inl h
  · by_cases hl : l = []
    · exact .inl hl
    · refine .inr ⟨ad, rfl, ?_, fun j v hj => hs.cell (by rw [add_block]; exact h1) (h2 j v hj)⟩
      obtain ⟨x, r, rfl⟩ := List.exists_cons_of_ne_nil hl
      have := World.block_lt_of_cell? w _ (h2 0 x rfl)
      rw [add_block] at this
      exact hS _ h1 this
theorem same_of_below {w w' : World} (h : Below w.heap.size w w') (S : Nat → Prop) : Same S w w' := fun b _ hl => h.block b hl
theorem Wd.same {st : St} {w : World} (h : Wd w0 st w) : Same st.pub st.s w := fun b hb _ => (h.pub b hb).2
theorem Wd.same0 {st : St} {w : World} (h : Wd w0 st w) (S : Nat → Prop) (hS : ∀ b, S b → ¬ w0.M b) : Same S w0.w w := fun b hb hl => h.below.block b hl (hS b hb)
abbrev ints (l : List Int) : List Value := l.map (Value.int .i64)
end
end Go.Vc
namespace Go.Vc
end Go.Vc


/- Types (api.Type) as plain data, and how they lie in memory. -/
namespace Go.Vc
open Go.RowKit
theorem wrap_small {a : Int} (h0 : -9223372036854775808 ≤ a) (h1 : a ≤ 9223372036854775807) : IntKind.i64.wrap a = a := IntWalk.i64_in a ⟨h0, h1⟩
theorem add_add (a : Addr) (m n : Nat) : (a.add m).add n = a.add (m + n) := by
  unfold Addr.add
  by_cases h1 : m = 0 <;> by_cases h2 : n = 0 <;> simp [h1, h2, Nat.add_assoc]
inductive Tp where
  | mk (k n : Int) (kids : List Tp)
def Tp.k : Tp → Int
  | .mk k _ _ => k
def Tp.n : Tp → Int
  | .mk _ n _ => n
def Tp.kids : Tp → List Tp
  | .mk _ _ l => l
theorem Tp.ind {Q : Tp → Prop} (h : ∀ k n ks, (∀ t ∈ ks, Q t) → Q (.mk k n ks)) : ∀ t, Q t
  | .mk k n ks => h k n ks (go ks)
where
  go : ∀ ks : List Tp, ∀ t ∈ ks, Q t
    | [], t, ht => by cases ht
    | x :: r, t, ht => by
      rcases List.mem_cons.1 ht with e | e
      · rw [e]; exact Tp.ind h x
      · exact go r t e
def LIM : Nat := 3518437208780
mutual
def RepT (S : Nat → Prop) (w : World) : Tp → Value → Prop
  | .mk k n ks, v => ∃ A c, v = .agg #[.int .i64 k, .int .i64 n, .slice A ks.length c] ∧ ks.length ≤ c ∧ ks.length ≤ LIM ∧ RepKs S w ks A 0
def RepKs (S : Nat → Prop) (w : World) : List Tp → Option Addr → Nat → Prop
  | [], _, _ => True
  | t :: r, A, j => (∃ ad v0 v1 v2, A = some ad ∧ S ad.block ∧ w.cell? (ad.add (j * 3)) = some v0 ∧ w.cell? (ad.add (j * 3 + 1)) = some v1 ∧ w.cell? (ad.add (j * 3 + 2)) = some v2 ∧ RepT S w t (.agg #[v0, v1, v2])) ∧ RepKs S w r A (j + 1)
end
theorem RepT.opn {S : Nat → Prop} {w : World} {t : Tp} {v : Value} (h : RepT S w t v) : ∃ A c, v = .agg #[.int .i64 t.k, .int .i64 t.n, .slice A t.kids.length c] ∧ t.kids.length ≤ c ∧ t.kids.length ≤ LIM ∧ RepKs S w t.kids A 0 := by
  cases t; simpa only [RepT, Tp.k, Tp.n, Tp.kids] using h
mutual
theorem RepT.to {S S' : Nat → Prop} {w w' : World} (hs : Same S w w') (hS : ∀ k, S k → k < w.heap.size → S' k) : ∀ {t : Tp} {v : Value}, RepT S w t v → RepT S' w' t v
  | .mk k n ks, v, h => by
    simp only [RepT] at h ⊢
    obtain ⟨A, c, e, h1, h2, h3⟩ := h
    exact ⟨A, c, e, h1, h2, RepKs.to hs hS h3⟩
theorem RepKs.to {S S' : Nat → Prop} {w w' : World} (hs : Same S w w') (hS : ∀ k, S k → k < w.heap.size → S' k) : ∀ {ks : List Tp} {A : Option Addr} {j : Nat}, RepKs S w ks A j → RepKs S' w' ks A j
  | [], _, _, _ => by simp only [RepKs]
  | t :: r, A, j, h => by
    simp only [RepKs] at h ⊢
    obtain ⟨⟨ad, v0, v1, v2, e, h1, h2, h3, h4, h5⟩, h6⟩ := h
    refine ⟨⟨ad, v0, v1, v2, e, ?_, hs.cell (by rw [add_block]; exact h1) h2, hs.cell (by rw [add_block]; exact h1) h3, hs.cell (by rw [add_block]; exact h1) h4, RepT.to hs hS h5⟩, RepKs.to hs hS h6⟩
    have := World.block_lt_of_cell? w _ h2
    rw [add_block] at this
    exact hS _ h1 this
end
theorem RepKs.get {S : Nat → Prop} {w : World} : ∀ {ks : List Tp} {A : Option Addr} {j i : Nat} {t : Tp}, RepKs S w ks A j → ks[i]? = some t →
    ∃ ad v0 v1 v2, A = some ad ∧ S ad.block ∧ w.cell? (ad.add ((j + i) * 3)) = some v0 ∧ w.cell? (ad.add ((j + i) * 3 + 1)) = some v1 ∧ w.cell? (ad.add ((j + i) * 3 + 2)) = some v2 ∧ RepT S w t (.agg #[v0, v1, v2])
  | [], _, _, _, _, _, h => by simp at h
  | t :: r, A, j, 0, t', h, ht => by
    simp only [RepKs] at h
    simp at ht; subst ht
    exact h.1
  | t :: r, A, j, i + 1, t', h, ht => by
    simp only [RepKs] at h
    have := RepKs.get h.2 (i := i) (by simpa using ht)
    rwa [show j + (i + 1) = j + 1 + i from by omega]
def RepL (S : Nat → Prop) (w : World) (l : List Tp) (v : Value) : Prop := ∃ A c, v = .slice A l.length c ∧ l.length ≤ c ∧ l.length ≤ LIM ∧ RepKs S w l A 0
theorem RepL.to {S S' : Nat → Prop} {w w' : World} (hs : Same S w w') (hS : ∀ k, S k → k < w.heap.size → S' k) {l : List Tp} {v : Value} (h : RepL S w l v) : RepL S' w' l v := by
  obtain ⟨A, c, e, h1, h2, h3⟩ := h
  exact ⟨A, c, e, h1, h2, h3.to hs hS⟩
def RepI (S : Nat → Prop) (w : World) (l : List Int) (v : Value) : Prop := ∃ A c, v = .slice A l.length c ∧ l.length ≤ c ∧ l.length ≤ 17592186044416 ∧ Cells S w A (ints l)
theorem RepI.to {S S' : Nat → Prop} {w w' : World} (hs : Same S w w') (hS : ∀ k, S k → k < w.heap.size → S' k) {l : List Int} {v : Value} (h : RepI S w l v) : RepI S' w' l v := by
  obtain ⟨A, c, e, h1, h2, h3⟩ := h
  exact ⟨A, c, e, h1, h2, h3.to hs hS⟩
end Go.Vc
namespace Go.Vc
open Go.RowKit
section
variable {P : Program} {ty : List (Nat × TI)} {N : Nat} {b : Base} {plans : List (Nat × (List Nat × Pl))}
theorem Wd.on {st : St} {w w' : World} (h : Wd b st w) (hb : Below w.heap.size w w') : Wd b st w' := by
  have h1 := h.call0 hb
  refine ⟨h1.below, Nat.le_trans h.size hb.size, fun k hk => ⟨(h.pub k hk).1, ?_⟩, h1.ent, h1.entN, h1.inj, h1.row, h1.rinj⟩
  rw [hb.block k (by have := (h.pub k hk).1; have := h.size; omega)]
  exact (h.pub k hk).2
def Res (w : World) (Φ : Value → World → Prop) (e : Ending) (w' : World) : Prop := ∃ v, e = .returned v ∧ Φ v w' ∧ Below w.heap.size w w'
def ext (S : Nat → Prop) (w : World) (k : Nat) : Prop := S k ∨ w.heap.size ≤ k
end
end Go.Vc
namespace Go.Vc
theorem inc {i : Nat} (h : i < 9223372036854775807) : IntKind.i64.wrap ((i : Int) + 1) = ((i + 1 : Nat) : Int) := by
  rw [wrap_small (by omega) (by omega)]; rfl
end Go.Vc
namespace Go.Vc
end Go.Vc
namespace Go.Vc
theorem Wd.own {b : Base} {st : St} {w : World} (h : Wd b st w) {i : Nat} {cs : List SV} {t : TypeId} (hi : lk st.E i = some (cs, t)) : Cells (fun _ => True) w (some ⟨st.ρ.getD i 0, 0, none⟩) (denL st.ρ cs) := by
  refine .inr ⟨_, rfl, trivial, fun j v hj => ?_⟩
  rw [add_own, cell_own (h.ent i cs t hi), List.getElem?_toArray, Nat.zero_add]
  exact hj
end Go.Vc


/- Rows: slices of the call's own that grow, are written, are cut. -/
namespace Go.Vc
open Go.RowKit
section
variable {P : Program} {ty : List (Nat × TI)} {N : Nat} {b : Base}
theorem RowOk.nil (w : World) (e : TypeId) (sz : Nat) : RowOk w ⟨.slice none 0 0, e, sz, []⟩ := ⟨0, by simp, .inl ⟨rfl, rfl⟩⟩
theorem RowOk.form {w : World} {r : Row} (h : RowOk w r) : ∃ A n c, r.v = .slice A n c ∧ n ≤ c ∧ r.xs.length = n * r.sz := by
  obtain ⟨n, hl, ⟨hv, hn⟩ | ⟨g', o, cap, cur, hv, hh, h1, _⟩⟩ := h
  · exact ⟨none, 0, 0, hv, Nat.le_refl _, by rw [hl, hn]⟩
  · exact ⟨_, n, cap, hv, h1, hl⟩
theorem RowOk.cells {w : World} {r : Row} (h : RowOk w r) {A : Option Addr} {n c : Nat} (hv : r.v = .slice A n c) (S : Nat → Prop) (hS : ∀ g, rowB r.v = some g → S g) : Cells S w A r.xs := by
  obtain ⟨n', hl, ⟨hv', hn⟩ | ⟨g', o, cap, cur, hv', hh, h1, h2, h3, h4⟩⟩ := h
  · left
    rw [hn] at hl
    exact List.eq_nil_of_length_eq_zero (by simpa using hl)
  · right
    rw [hv] at hv'
    injection hv' with e1 e2 e3
    subst e1
    refine ⟨_, rfl, hS g' (by rw [hv]; rfl), fun j v hj => ?_⟩
    rw [add_own, cell_own hh]
    rw [← h4] at hj
    have : j < n' * r.sz := by
      rcases Nat.lt_or_ge j (n' * r.sz) with h | h
      · exact h
      · rw [List.getElem?_eq_none (by simp; omega)] at hj; cases hj
    rw [List.getElem?_take_of_lt this, List.getElem?_drop, Array.getElem?_toList] at hj
    exact hj
def Grew (w w' : World) (row : Option Nat) : Prop := w.grownBy w' row
theorem Wd.grow {T : Tl} {ρ : List Nat} {E : El} {R : List Row} {pub : Nat → Prop} {s w w' : World} (h : Wd b ⟨T, ρ, E, R, pub, s⟩ w) {j : Nat} {r r' : Row} (hj : R[j]? = some r) (hg : w.grownBy w' (rowB r.v)) (hr : RowOk w' r')
    (hb : rowB r'.v = none ∨ rowB r'.v = rowB r.v ∨ ∃ g, rowB r'.v = some g ∧ w.heap.size ≤ g) : Wd b ⟨T, ρ, E, R.set j r', pub, s⟩ w' := by
  have hmem : r ∈ R := List.mem_of_getElem? hj
  obtain ⟨kr1, kr2⟩ := h.row r hmem
  have hlt : ∀ i c t, lk E i = some (c, t) → ρ.getD i 0 < w.heap.size := fun i c t hi => (Array.getElem?_eq_some_iff.1 (h.ent i c t hi)).1
  obtain ⟨lj, hj1⟩ := List.getElem?_eq_some_iff.1 hj
  have hp := List.pairwise_iff_getElem.1 h.rinj
  have other : ∀ i q g, R[i]? = some q → i ≠ j → rowB q.v = some g → rowB r.v ≠ some g := by
    intro i q g hi hne hq hr
    obtain ⟨li, hi1⟩ := List.getElem?_eq_some_iff.1 hi
    rcases Nat.lt_or_gt_of_ne hne with hlt' | hlt'
    · exact hp i j li lj hlt' g (by rw [hi1]; exact hq) (by rw [hj1]; exact hr)
    · exact hp j i lj li hlt' g (by rw [hj1]; exact hr) (by rw [hi1]; exact hq)
  have hmine : ∀ g, rowB r'.v = some g → b.mine g ∧ ¬ pub g ∧ (∀ i, (lk E i).isSome = true → ρ.getD i 0 ≠ g) ∧ (∀ q, q ∈ R → rowB q.v = some g → rowB r.v = some g) := by
    intro g hg'
    rcases hb with hb | hb | ⟨g2, hb, hge⟩
    · rw [hb] at hg'; cases hg'
    · rw [hb] at hg'
      obtain ⟨q1, q2, q3⟩ := kr2 g hg'
      exact ⟨q1, q2, q3, fun _ _ _ => hg'⟩
    · rw [hb] at hg'; injection hg' with hg'; subst hg'
      refine ⟨.inr (Nat.le_trans h.below.size hge), fun hp => ?_, fun i hi => ?_, fun q hq hqg => ?_⟩
      · have := (h.pub _ hp).1; have := h.size; simp only at *; omega
      · obtain ⟨⟨c, t⟩, hc⟩ := Option.isSome_iff_exists.1 hi
        have := hlt i c t hc; omega
      · have := (h.row q hq).1.lt hqg; omega
  have setAt : ∀ i q, (R.set j r')[i]? = some q → (i = j ∧ q = r') ∨ (i ≠ j ∧ R[i]? = some q) := by
    intro i q hi
    by_cases e : i = j
    · subst e
      rw [List.getElem?_set_self lj] at hi
      injection hi with hi
      exact .inl ⟨rfl, hi.symm⟩
    · rw [List.getElem?_set_ne (fun h => e h.symm)] at hi
      exact .inr ⟨e, hi⟩
  refine ⟨⟨hg.os.trans h.below.os, hg.tape.trans h.below.tape, hg.output.trans h.below.output, Nat.le_trans h.below.size hg.size, fun k hk hm => ?_⟩, Nat.le_trans h.size hg.size, fun k hk => ?_, fun i c t hi => ?_, h.entN, h.inj, fun q hq => ?_, ?_⟩
  · rw [hg.block k (Nat.lt_of_lt_of_le hk h.below.size) (fun e => ?_)]
    · exact h.below.block k hk hm
    · rcases (kr2 k e.symm).1 with h' | h'
      · exact hm h'
      · omega
  · obtain ⟨k1, k2⟩ := h.pub k hk
    refine ⟨k1, ?_⟩
    rw [hg.block k (Nat.lt_of_lt_of_le k1 h.size) (fun e => (kr2 k e.symm).2.1 hk)]
    exact k2
  · rw [hg.block _ (hlt i c t hi) (fun e => (kr2 _ e.symm).2.2 i (by show (lk E i).isSome = true; rw [hi]; rfl) rfl)]
    exact h.ent i c t hi
  · obtain ⟨i, hi⟩ := List.mem_iff_getElem?.1 hq
    rcases setAt i q hi with ⟨_, rfl⟩ | ⟨hne, hi'⟩
    · refine ⟨hr, fun g hg' => ?_⟩
      obtain ⟨q1, q2, q3, _⟩ := hmine g hg'
      exact ⟨q1, q2, q3⟩
    · obtain ⟨k1, k2⟩ := h.row q (List.mem_of_getElem? hi')
      exact ⟨k1.keep fun g hg' => hg.block g (k1.lt hg') (fun e => other i q g hi' hne hg' e.symm), k2⟩
  · refine List.pairwise_iff_getElem.2 fun i1 i2 l1 l2 hl g h1 h2 => ?_
    have e1 := setAt i1 _ (List.getElem?_eq_getElem l1)
    have e2 := setAt i2 _ (List.getElem?_eq_getElem l2)
    rcases e1 with ⟨rfl, e1⟩ | ⟨n1, e1⟩
    · rcases e2 with ⟨rfl, _⟩ | ⟨n2, e2⟩
      · omega
      · rw [e1] at h1
        exact other i2 _ g e2 n2 h2 ((hmine g h1).2.2.2 _ (List.mem_of_getElem? e2) h2)
    · rcases e2 with ⟨rfl, e2⟩ | ⟨n2, e2⟩
      · rw [e2] at h2
        exact other i1 _ g e1 n1 h1 ((hmine g h2).2.2.2 _ (List.mem_of_getElem? e1) h1)
      · obtain ⟨m1, e1'⟩ := List.getElem?_eq_some_iff.1 e1
        obtain ⟨m2, e2'⟩ := List.getElem?_eq_some_iff.1 e2
        exact hp i1 i2 m1 m2 hl g (by rw [e1']; exact h1) (by rw [e2']; exact h2)
theorem Wd.add {T : Tl} {ρ : List Nat} {E : El} {R : List Row} {pub : Nat → Prop} {s w w' : World} (h : Wd b ⟨T, ρ, E, R, pub, s⟩ w) {r : Row} (hg : Below w.heap.size w w') (hr : RowOk w' r)
    (hb : ∀ g, rowB r.v = some g → w.heap.size ≤ g) : Wd b ⟨T, ρ, E, r :: R, pub, s⟩ w' := by
  have h' := h.on hg
  have hlt : ∀ i c t, lk E i = some (c, t) → ρ.getD i 0 < w.heap.size := fun i c t hi => (Array.getElem?_eq_some_iff.1 (h.ent i c t hi)).1
  refine ⟨h'.below, h'.size, h'.pub, h'.ent, h'.entN, h'.inj, fun q hq => ?_, List.Pairwise.cons (fun q hq g h1 h2 => ?_) h'.rinj⟩
  · rcases List.mem_cons.1 hq with rfl | hq
    · refine ⟨hr, fun g hg' => ?_⟩
      have hge := hb g hg'
      refine ⟨.inr (Nat.le_trans h.below.size hge), fun hp => ?_, fun i hi => ?_⟩
      · have := (h.pub _ hp).1; have := h.size; simp only at *; omega
      · obtain ⟨⟨c, t⟩, hc⟩ := Option.isSome_iff_exists.1 hi
        have := hlt i c t hc; simp only at *; omega
    · exact h'.row q hq
  · have := (h.row q hq).1.lt h2
    have := hb g h1
    omega
def dropE (i : Nat) : El → El
  | [] => []
  | (k, x) :: r => match Nat.beq k i with
    | true => dropE i r
    | false => (k, x) :: dropE i r
theorem append_run (hty : TyOk P ty) {t : TypeId} {ti ei : TI} {e : TypeId} (ht : lk ty t = some ti) (hel : ti.elem = some e) (he : lk ty e = some ei) (hz : ei.z.cells.size = ei.size) (h0 : 0 < ei.size)
    {w : World} {A : Option Addr} {n c : Nat} {xs : List Value} (hr : RowOk w ⟨.slice A n c, e, ei.size, xs⟩) {S : Nat → Prop} {B : Option Addr} {m d : Nat} {ys : List Value} (hys : ys.length = m * ei.size) (hc : Cells S w B ys) (hp : ∀ u ∈ ys, u.oneCell' = true)
    (hlim : (n + m) * ei.bytes ≤ 140737488355328) (hb0 : 0 < ei.bytes) (ty' : TypeId) :
    ∃ A' c' w', (Builtin.append_ #[t, t] ty' #[.slice A n c, .slice B m d]).run P w = .ok (.slice A' (n + m) c') w' ∧ RowOk w' ⟨.slice A' (n + m) c', e, ei.size, xs ++ ys⟩ ∧ w.grownBy w' (rowB (.slice A n c)) ∧
      (rowB (.slice A' (n + m) c') = rowB (.slice A n c) ∨ rowB (.slice A' (n + m) c') = some w.heap.size) := by
  obtain ⟨y, dd, hy, hd, h1, h2, h3, h4, h5, h6, h7, h8⟩ := (hty _ _ ht).get
  obtain ⟨y', dd', hy', hd', g1, g2, g3, g4, g5, g6, g7, g8⟩ := (hty _ _ he).get
  rw [hel] at h6
  cases dd <;> simp only [elB] at h6 <;> try (cases h6; done)
  rename_i e2
  have hd : P.underlying t = some (.slice e) := by rw [hd, nbeq.1 h6]
  obtain ⟨n', hown⟩ := hr
  obtain rfl : n' = n := by
    rcases hown.2 with ⟨hv, hn⟩ | ⟨g, o, cap, cur, hv, _⟩
    · injection hv with _ e1 _; rw [hn]; exact e1.symm
    · injection hv with _ e1 _; exact e1.symm
  have _hxl : xs.length = n' * ei.size := hown.1
  have hnm : (n' + m) * ei.bytes ≤ 140737488355328 := hlim
  have hmx : n' + m ≤ maxLen := by
    have : n' + m ≤ (n' + m) * ei.bytes := Nat.le_mul_of_pos_right _ hb0
    simp only [maxLen]; omega
  have hsmall : n' + m ≤ 9223372036854775807 := by simp only [maxLen] at hmx; omega
  have hlen : (xs ++ ys).length = (n' + m) * ei.size := by rw [List.length_append, _hxl, hys, Nat.add_mul]
  have grown : ∀ (old : Nat), old < n' + m → ∀ (row : Option Nat),
      RowOk (w.drew.alloc (.cells (xs.toArray ++ ys.toArray ++ Builtin.zeroCells ei.z.cells (grownCap w (n' + m) old e - (n' + m))) e)) ⟨.slice (some ⟨w.heap.size, 0, none⟩) (n' + m) (grownCap w (n' + m) old e), e, ei.size, xs ++ ys⟩ ∧
      w.grownBy (w.drew.alloc (.cells (xs.toArray ++ ys.toArray ++ Builtin.zeroCells ei.z.cells (grownCap w (n' + m) old e - (n' + m))) e)) row := by
    intro old ho row
    have hge := grownCap_ge w (n' + m) old e
    have hcm : grownCap w (n' + m) old e ≤ maxLen := grownCap_le_maxLen w (n' + m) old e hmx
    refine ⟨⟨n' + m, hlen, .inr ⟨w.heap.size, 0, _, _, rfl, heap_alloc_new w.drew _, hge, hcm, ?_, ?_⟩⟩, ⟨rfl, rfl, rfl, by simp, fun k hk _ => heap_alloc_old w.drew _ hk⟩⟩
    · simp only [Array.size_append, List.size_toArray, size_zeroCells, hz, _hxl, hys, ← Nat.add_mul, Nat.zero_add]
      exact Nat.le_of_eq (by congr 1; omega)
    · simp only [Array.toList_append, List.append_assoc, List.drop_zero]
      rw [← List.append_assoc, ← hlen]
      exact List.take_left
  have key : ∀ (a : Addr), (∀ j u, ys[j]? = some u → w.cell? (a.add j) = some u) → ∃ A' c' w', (Builtin.append_ #[t, t] ty' #[.slice A n' c, .slice (some a) m d]).run P w = .ok (.slice A' (n' + m) c') w' ∧ RowOk w' ⟨.slice A' (n' + m) c', e, ei.size, xs ++ ys⟩ ∧ w.grownBy w' (rowB (.slice A n' c)) ∧
      (rowB (.slice A' (n' + m) c') = rowB (.slice A n' c) ∨ rowB (.slice A' (n' + m) c') = some w.heap.size) := by
    intro a ha
    rcases hown.2 with ⟨hv, hn⟩ | ⟨g, o, cap, cur, hv, hh, hnc, hcm, hcs, htake⟩
    · injection hv with e1 e2 e3; subst e1; subst e2; subst e3
      obtain ⟨v', w', k1, k2, k3, _, k5⟩ := run_append_own_at (P := P) (w := w) 0 t ty' e y' ei.z ei.size ei.bytes hd hy' g3 g1 g2 hz h0 (.slice none 0 0) 0 xs ⟨_hxl, .inl ⟨rfl, rfl⟩⟩ a m d ys hys ha hp hmx hnm (Nat.zero_le _)
      have e' : ∀ u : Value, u.ownBlock = rowB u := fun u => by cases u <;> rfl
      rw [e', e'] at k5
      rw [e'] at k3
      obtain ⟨q1, ⟨hv, hn⟩ | ⟨g, cap, cur, hv, _, q2, q3, q4, q5, q6⟩⟩ := k2
      · exact ⟨none, 0, w', by rw [k1, hv, hn], ⟨0 + m, q1, .inl ⟨by rw [hn], hn⟩⟩, k3, by rw [hv] at k5; exact k5⟩
      · exact ⟨_, cap, w', by rw [k1, hv], ⟨0 + m, q1, .inr ⟨g, 0, cap, cur, rfl, q2, q3, q4, by rw [q5]; simp, q6⟩⟩, k3, by rw [← hv]; exact k5⟩
    · injection hv with e1 e2 e3; subst e1; subst e3
      by_cases hroom : n' + m ≤ c
      · have hfit : o + n' * ei.size + ys.length ≤ cur.size := by
          have : (n' + m) * ei.size ≤ c * ei.size := Nat.mul_le_mul_right _ hroom
          rw [Nat.add_mul] at this
          simp only at hcs
          omega
        have hf := run_firstCells_some (P := P) w ei.size m a m d ys hys ha
        have hst := run_storeCells_at P g (o + n' * ei.size) e ys 0 cur w hh (by simpa using hfit) hp
        simp only [Nat.add_zero] at hst
        have hr : (Builtin.append_ #[t, t] ty' #[.slice (some ⟨g, o, none⟩) n' c, .slice (some a) m d]).run P w = .ok (.slice (some ⟨g, o, none⟩) (n' + m) c) (w.setRow g (cur.toList.take (o + n' * ei.size) ++ ys ++ cur.toList.drop (o + n' * ei.size + ys.length)).toArray) := by
          simp [Builtin.append_, Go.run_underlying hd, sizeOf, typeInfo, hy', Builtin.lenOf, hroom, hf, Addr.add_lit, g1, hst]
        refine ⟨_, c, _, hr, ⟨n' + m, hlen, .inr ⟨g, o, c, _, rfl, setRow_heap w g cur _ e _ hh, hroom, hcm, ?_, ?_⟩⟩, ⟨rfl, rfl, rfl, by simp, fun k _ hk => setRow_other w g k _ (fun e => hk (by simp [rowB, e]))⟩, .inl rfl⟩
        · simp only [List.size_toArray, List.length_append, List.length_take, List.length_drop, Array.length_toList]
          simp only at hcs
          omega
        · have ht : cur.toList.take (o + n' * ei.size) = cur.toList.take o ++ xs := by
            have : (cur.toList.drop o).take (n' * ei.size) = xs := htake
            rw [List.take_add, this]
          have hto : (cur.toList.take o).length = o := by
            simp only [List.length_take, Array.length_toList]; simp only at hcs; omega
          simp only [ht, List.append_assoc]
          rw [List.drop_append_of_le_length (by omega), List.drop_of_length_le (by omega), List.nil_append, ← List.append_assoc, ← hlen]
          exact List.take_left
      · have holds : ∀ j u, xs[j]? = some u → w.cell? ((⟨g, o, none⟩ : Addr).add j) = some u := by
          intro j u hj
          have : Cells (fun _ => True) w (some ⟨g, o, none⟩) xs := (RowOk.cells (r := ⟨.slice (some ⟨g, o, none⟩) n' c, e, ei.size, xs⟩) ⟨n', hown⟩) rfl _ (fun _ _ => trivial)
          rcases this with h | ⟨ad, e1, _, h⟩
          · subst h; simp at hj
          · injection e1 with e1; subst e1; exact h j u hj
        have hr := run_append_grow (P := P) w t ty' e y' ei.z hd hy' g3 ⟨g, o, none⟩ n' c xs (by rw [_hxl, g1]) holds a m d ys (by rw [hys, g1]) ha (by omega) (by omega) (by rw [g2]; exact growslice_fits (by omega) hnm)
        have hgr := grown c (by omega) (rowB (.slice (some ⟨g, o, none⟩) n' c))
        exact ⟨_, _, _, hr, hgr.1, hgr.2, Or.inr rfl⟩
  rcases B with _ | a
  · have hm0 : ys = [] := by
      rcases hc with h | ⟨_, h, _⟩
      · exact h
      · cases h
    subst hm0
    have hm : m = 0 := by
      have h9 : m * ei.size = 0 := hys.symm
      rcases Nat.mul_eq_zero.1 h9 with h | h
      · exact h
      · omega
    subst hm
    -- nothing is appended
    have hrun : (Builtin.append_ #[t, t] ty' #[.slice A n' c, .slice none 0 d]).run P w = .ok (.slice A n' c) w := by
      rcases hown.2 with ⟨hv, hn⟩ | ⟨g, o, cap, cur, hv, hh, hnc, _⟩
      · injection hv with e1 e2 e3; subst e1; subst e2; subst e3
        simp [Builtin.append_, Go.run_underlying hd, sizeOf, typeInfo, hy', Builtin.lenOf, Builtin.firstCells]
      · injection hv with e1 e2 e3; subst e1; subst e3
        simp [Builtin.append_, Go.run_underlying hd, sizeOf, typeInfo, hy', Builtin.lenOf, Builtin.firstCells, hnc, storeCells]
    exact ⟨A, c, w, hrun, ⟨n', by simpa using hown⟩, World.grownBy.refl w _, .inl rfl⟩
  · refine key a fun j u hj => ?_
    rcases hc with h | ⟨ad, e1, _, h⟩
    · subst h; simp at hj
    · injection e1 with e1; subst e1; exact h j u hj
def ovw (xs : List Value) (k : Nat) (l : List Value) : List Value := xs.take k ++ l ++ xs.drop (k + l.length)
theorem ovw_length {xs : List Value} {k : Nat} {l : List Value} (h : k + l.length ≤ xs.length) : (ovw xs k l).length = xs.length := by simp [ovw]; omega
theorem ovw_get {xs : List Value} {k : Nat} {l : List Value} (h : k + l.length ≤ xs.length) (i : Nat) : (ovw xs k l)[i]? = if k ≤ i ∧ i < k + l.length then l[i - k]? else xs[i]? := by
  unfold ovw
  rw [List.append_assoc]
  rcases Nat.lt_or_ge i k with h1 | h1
  · rw [if_neg (by omega), List.getElem?_append_left (by simp; omega), List.getElem?_take_of_lt h1]
  · rw [List.getElem?_append_right (by simp; omega)]
    simp only [List.length_take, Nat.min_eq_left (show k ≤ xs.length by omega)]
    rcases Nat.lt_or_ge i (k + l.length) with h2 | h2
    · rw [if_pos ⟨h1, h2⟩, List.getElem?_append_left (by omega)]
    · rw [if_neg (by omega), List.getElem?_append_right (by omega), List.getElem?_drop]
      congr 1; omega
theorem storeRow_run {w : World} {g o n c : Nat} {e : TypeId} {sz : Nat} {xs : List Value} (hr : RowOk w ⟨.slice (some ⟨g, o, none⟩) n c, e, sz, xs⟩) {k : Nat} {l : List Value} (hk : k + l.length ≤ xs.length) (hp : ∀ u ∈ l, plainV u = true) :
    ∃ w', (storeCells ⟨g, o + k, none⟩ l 0).run P w = .ok () w' ∧ RowOk w' ⟨.slice (some ⟨g, o, none⟩) n c, e, sz, ovw xs k l⟩ ∧ w.grownBy w' (some g) := by
  obtain ⟨n', hl, ⟨hv, hn⟩ | ⟨g', o', cap, cur, hv, hh, h1, h2, h3, h4⟩⟩ := hr
  · cases hv
  · injection hv with e1 e2 e3
    injection e1 with e1; injection e1 with e1 e1'
    subst e1; subst e2; subst e3; subst e1'
    simp only at h3
    have hle : o + n * sz ≤ cur.size := Nat.le_trans (Nat.add_le_add_left (Nat.mul_le_mul_right _ h1) _) h3
    have hl' : xs.length = n * sz := hl
    have h4' : (cur.toList.drop o).take (n * sz) = xs := h4
    have hrun := run_storeCells (P := P) (g := g) (off := o + k) (t := e) l 0 cur w hp hh (by omega)
    refine ⟨_, hrun, ⟨n, by rw [ovw_length hk]; exact hl, .inr ⟨g, o, c, _, rfl, setW_at _ _ _ (Array.getElem?_eq_some_iff.1 hh).1, h1, h2, ?_, ?_⟩⟩, ⟨rfl, rfl, rfl, by rw [setW_size]; exact Nat.le_refl _, fun q _ hne => setW_ne _ _ (fun e => hne (by rw [e]))⟩⟩
    · rw [(foldl_put cur (o + k) l 0 cur).1]; exact h3
    · apply List.ext_getElem?
      intro i
      simp only
      rw [ovw_get hk]
      rcases Nat.lt_or_ge i (n * sz) with hi | hi
      · rw [List.getElem?_take_of_lt hi, List.getElem?_drop, Array.getElem?_toList, (foldl_put cur (o + k) l 0 cur).2 (o + i)]
        by_cases c1 : k ≤ i ∧ i < k + l.length
        · rw [if_pos c1, if_pos ⟨by omega, by omega, by omega⟩]
          congr 1; omega
        · rw [if_neg c1, if_neg (by omega), ← h4', List.getElem?_take_of_lt hi, List.getElem?_drop, Array.getElem?_toList]
      · rw [List.getElem?_eq_none (by simp; omega), if_neg (by omega), List.getElem?_eq_none (by omega)]
theorem RowOk.cell {w : World} {ad : Addr} {n c : Nat} {e : TypeId} {sz : Nat} {xs : List Value} (hr : RowOk w ⟨.slice (some ad) n c, e, sz, xs⟩) {k : Nat} {u : Value} (hk : xs[k]? = some u) : w.cell? (ad.add k) = some u := by
  have := hr.cells (A := some ad) (n := n) (c := c) rfl (fun _ => True) (fun _ _ => trivial)
  rcases this with h | ⟨ad', e1, _, h⟩
  · simp only at h; subst h; simp at hk
  · injection e1 with e1; subst e1; exact h k u hk
theorem Wd.handed {T : Tl} {ρ : List Nat} {E : El} {R : List Row} {pub : Nat → Prop} {s w w' : World} (h : Wd b ⟨T, ρ, E, R, pub, s⟩ w) {i : Nat} {cs cs' : List SV} {t : TypeId} (hi : lk E i = some (cs, t)) {j : Nat} {r r' : Row} (hj : R[j]? = some r)
    (ho : Only (fun k => k = ρ.getD i 0 ∨ rowB r.v = some k) w w') (hc : w'.heap[ρ.getD i 0]? = some (.cells (denL ρ cs').toArray t (0, 0))) (hr : RowOk w' r')
    (hb : ∀ g, rowB r'.v = some g → rowB r.v = some g ∨ w.heap.size ≤ g) : Wd b ⟨T, ρ, (i, (cs', t)) :: E, R.set j r', pub, s⟩ w' := by
  have hmem : r ∈ R := List.mem_of_getElem? hj
  obtain ⟨kr1, kr2⟩ := h.row r hmem
  obtain ⟨ne1, ne2, ne3⟩ := h.entN i cs t hi
  have hlt : ∀ i c t, lk E i = some (c, t) → ρ.getD i 0 < w.heap.size := fun i c t hi => (Array.getElem?_eq_some_iff.1 (h.ent i c t hi)).1
  have hsome : ∀ k, (lk ((i, (cs', t)) :: E) k).isSome = true → (lk E k).isSome = true := by
    intro k hk
    simp only [lk] at hk
    split at hk
    · rename_i e; obtain rfl := nbeq.1 e; rw [hi]; rfl
    · exact hk
  obtain ⟨lj, hj1⟩ := List.getElem?_eq_some_iff.1 hj
  have hp := List.pairwise_iff_getElem.1 h.rinj
  have other : ∀ i q g, R[i]? = some q → i ≠ j → rowB q.v = some g → rowB r.v ≠ some g := by
    intro i q g hi hne hq hr
    obtain ⟨li, hi1⟩ := List.getElem?_eq_some_iff.1 hi
    rcases Nat.lt_or_gt_of_ne hne with hlt' | hlt'
    · exact hp i j li lj hlt' g (by rw [hi1]; exact hq) (by rw [hj1]; exact hr)
    · exact hp j i lj li hlt' g (by rw [hj1]; exact hr) (by rw [hi1]; exact hq)
  have hmine : ∀ g, rowB r'.v = some g → b.mine g ∧ ¬ pub g ∧ (∀ i, (lk E i).isSome = true → ρ.getD i 0 ≠ g) ∧ (∀ q, q ∈ R → rowB q.v = some g → rowB r.v = some g) := by
    intro g hg'
    rcases hb g hg' with hb | hge
    · obtain ⟨q1, q2, q3⟩ := kr2 g hb
      exact ⟨q1, q2, q3, fun _ _ _ => hb⟩
    · refine ⟨.inr (Nat.le_trans h.below.size hge), fun hp => ?_, fun i hi => ?_, fun q hq hqg => ?_⟩
      · have := (h.pub _ hp).1; have := h.size; simp only at *; omega
      · obtain ⟨⟨c, t⟩, hc⟩ := Option.isSome_iff_exists.1 hi
        have := hlt i c t hc; omega
      · have := (h.row q hq).1.lt hqg; omega
  have setAt : ∀ i q, (R.set j r')[i]? = some q → (i = j ∧ q = r') ∨ (i ≠ j ∧ R[i]? = some q) := by
    intro i q hi
    by_cases e : i = j
    · subst e
      rw [List.getElem?_set_self lj] at hi
      injection hi with hi
      exact .inl ⟨rfl, hi.symm⟩
    · rw [List.getElem?_set_ne (fun h => e h.symm)] at hi
      exact .inr ⟨e, hi⟩
  refine ⟨⟨ho.os.trans h.below.os, ho.tape.trans h.below.tape, ho.output.trans h.below.output, Nat.le_trans h.below.size ho.size, fun k hk hm => ?_⟩, Nat.le_trans h.size ho.size, fun k hk => ?_, fun k c t' hk => ?_, fun k c t' hk => ?_, fun k l hk hl hne => h.inj k l (hsome k hk) (hsome l hl) hne, fun q hq => ?_, ?_⟩
  · rw [ho.block k (Nat.lt_of_lt_of_le hk h.below.size)]
    · exact h.below.block k hk hm
    · rintro (e | e)
      · rcases ne2 with h' | h'
        · exact hm (by rw [e]; exact h')
        · simp only at *; omega
      · rcases (kr2 k e).1 with h' | h'
        · exact hm h'
        · omega
  · obtain ⟨k1, k2⟩ := h.pub k hk
    refine ⟨k1, ?_⟩
    rw [ho.block k (Nat.lt_of_lt_of_le k1 h.size)]
    · exact k2
    · rintro (e | e)
      · exact ne3 (by rw [e] at hk; exact hk)
      · exact (kr2 k e).2.1 hk
  · simp only [lk] at hk
    split at hk
    · rename_i e; obtain rfl := nbeq.1 e
      injection hk with hk; injection hk with e1 e2; subst e1; subst e2
      exact hc
    · rename_i e
      show w'.heap[ρ.getD k 0]? = _
      rw [ho.block _ (hlt k c t' hk)]
      · exact h.ent k c t' hk
      · rintro (e' | e')
        · exact h.inj k i (by simp only; rw [hk]; rfl) (by simp only; rw [hi]; rfl) (fun e2 => nbeq_ne.1 e e2.symm) e'
        · exact (kr2 _ e').2.2 k (by simp only; rw [hk]; rfl) rfl
  · simp only [lk] at hk
    split at hk
    · rename_i e; obtain rfl := nbeq.1 e
      exact ⟨ne1, ne2, ne3⟩
    · exact h.entN k c t' hk
  · obtain ⟨k, hk⟩ := List.mem_iff_getElem?.1 hq
    rcases setAt k q hk with ⟨_, rfl⟩ | ⟨hne, hi'⟩
    · refine ⟨hr, fun g hg' => ?_⟩
      obtain ⟨q1, q2, q3, _⟩ := hmine g hg'
      exact ⟨q1, q2, fun l hl => q3 l (hsome l hl)⟩
    · obtain ⟨k1, k2⟩ := h.row q (List.mem_of_getElem? hi')
      refine ⟨k1.keep fun g hg' => ho.block g (k1.lt hg') ?_, fun g hg' => ⟨(k2 g hg').1, (k2 g hg').2.1, fun l hl => (k2 g hg').2.2 l (hsome l hl)⟩⟩
      rintro (e' | e')
      · exact (k2 g hg').2.2 i (by simp only; rw [hi]; rfl) e'.symm
      · exact other k q g hi' hne hg' e'
  · refine List.pairwise_iff_getElem.2 fun i1 i2 l1 l2 hl g h1 h2 => ?_
    have e1 := setAt i1 _ (List.getElem?_eq_getElem l1)
    have e2 := setAt i2 _ (List.getElem?_eq_getElem l2)
    rcases e1 with ⟨rfl, e1⟩ | ⟨n1, e1⟩
    · rcases e2 with ⟨rfl, _⟩ | ⟨n2, e2⟩
      · omega
      · rw [e1] at h1
        exact other i2 _ g e2 n2 h2 ((hmine g h1).2.2.2 _ (List.mem_of_getElem? e2) h2)
    · rcases e2 with ⟨rfl, e2⟩ | ⟨n2, e2⟩
      · rw [e2] at h2
        exact other i1 _ g e1 n1 h1 ((hmine g h2).2.2.2 _ (List.mem_of_getElem? e1) h1)
      · obtain ⟨m1, e1'⟩ := List.getElem?_eq_some_iff.1 e1
        obtain ⟨m2, e2'⟩ := List.getElem?_eq_some_iff.1 e2
        exact hp i1 i2 m1 m2 hl g (by rw [e1']; exact h1) (by rw [e2']; exact h2)
end
end Go.Vc
namespace Go.Vc
open Go.RowKit
theorem Wd.pass {b : Base} {st : St} {w w' : World} (h : Wd b st w) (hb : Below w.heap.size w w') : Same st.pub st.s w' := by
  intro k hk hl
  have := h.pub k hk
  rw [hb.block k (by have := h.size; omega)]
  exact this.2
end Go.Vc
namespace Go.Vc
open Go.RowKit
def RepFlat (S : Nat → Prop) (w : World) : List Tp → List Value → Prop
  | [], xs => xs = []
  | t :: r, xs => ∃ v0 v1 v2 ys, xs = v0 :: v1 :: v2 :: ys ∧ RepT S w t (.agg #[v0, v1, v2]) ∧ RepFlat S w r ys
theorem RepFlat.to {S S' : Nat → Prop} {w w' : World} (hs : Same S w w') (hS : ∀ k, S k → k < w.heap.size → S' k) : ∀ {ts : List Tp} {xs : List Value}, RepFlat S w ts xs → RepFlat S' w' ts xs
  | [], xs, h => h
  | t :: r, xs, h => by
    obtain ⟨v0, v1, v2, ys, h1, h2, h3⟩ := h
    exact ⟨v0, v1, v2, ys, h1, h2.to hs hS, RepFlat.to hs hS h3⟩
theorem RepFlat.len {S : Nat → Prop} {w : World} : ∀ {ts : List Tp} {xs : List Value}, RepFlat S w ts xs → xs.length = ts.length * 3
  | [], xs, h => by simp only [RepFlat] at h; subst h; rfl
  | t :: r, xs, h => by
    obtain ⟨v0, v1, v2, ys, h1, _, h3⟩ := h
    subst h1
    simp [h3.len, Nat.add_mul]
theorem RepFlat.plain {S : Nat → Prop} {w : World} : ∀ {ts : List Tp} {xs : List Value}, RepFlat S w ts xs → ∀ u ∈ xs, u.oneCell' = true ∧ plainV u = true
  | [], xs, h, u, hu => by simp only [RepFlat] at h; subst h; cases hu
  | t :: r, xs, h, u, hu => by
    obtain ⟨v0, v1, v2, ys, h1, h2, h3⟩ := h
    subst h1
    obtain ⟨A, c, e, _⟩ := h2.opn
    injection e with e
    have e' : [v0, v1, v2] = [.int .i64 t.k, .int .i64 t.n, .slice A t.kids.length c] := congrArg Array.toList e
    injection e' with e0 e'; injection e' with e1 e'; injection e' with e2 e'
    simp only [List.mem_cons] at hu
    rcases hu with rfl | rfl | rfl | hu
    · subst e0; exact ⟨rfl, rfl⟩
    · subst e1; exact ⟨rfl, rfl⟩
    · subst e2; exact ⟨rfl, rfl⟩
    · exact h3.plain u hu
theorem RepFlat.app {S : Nat → Prop} {w : World} : ∀ {ts us : List Tp} {xs ys : List Value}, RepFlat S w ts xs → RepFlat S w us ys → RepFlat S w (ts ++ us) (xs ++ ys)
  | [], us, xs, ys, h, h' => by simp only [RepFlat] at h; subst h; exact h'
  | t :: r, us, xs, ys, h, h' => by
    obtain ⟨v0, v1, v2, zs, h1, h2, h3⟩ := h
    subst h1
    exact ⟨v0, v1, v2, zs ++ ys, rfl, h2, h3.app h'⟩
theorem RepFlat.one {S : Nat → Prop} {w : World} {t : Tp} {v0 v1 v2 : Value} (h : RepT S w t (.agg #[v0, v1, v2])) : RepFlat S w [t] [v0, v1, v2] := ⟨v0, v1, v2, [], rfl, h, rfl⟩
theorem RepFlat.split {S : Nat → Prop} {w : World} : ∀ {ts us : List Tp} {xs : List Value}, RepFlat S w (ts ++ us) xs → ∃ ys zs, xs = ys ++ zs ∧ RepFlat S w ts ys ∧ RepFlat S w us zs
  | [], us, xs, h => ⟨[], xs, rfl, rfl, h⟩
  | t :: r, us, xs, h => by
    obtain ⟨v0, v1, v2, ys, h1, h2, h3⟩ := h
    obtain ⟨ys', zs, e, k1, k2⟩ := h3.split
    exact ⟨v0 :: v1 :: v2 :: ys', zs, by rw [h1, e]; rfl, ⟨v0, v1, v2, ys', rfl, h2, k1⟩, k2⟩
theorem RepKs.flat {S : Nat → Prop} {w : World} : ∀ {ks : List Tp} {ad : Addr} {j : Nat}, RepKs S w ks (some ad) j → ∃ xs, RepFlat S w ks xs ∧ ∀ i v, xs[i]? = some v → S ad.block ∧ w.cell? (ad.add (j * 3 + i)) = some v
  | [], ad, j, h => ⟨[], rfl, fun i v hv => by simp at hv⟩
  | t :: r, ad, j, h => by
    simp only [RepKs] at h
    obtain ⟨⟨ad', v0, v1, v2, e, h1, h2, h3, h4, h5⟩, h6⟩ := h
    injection e with e; subst e
    obtain ⟨xs, k1, k2⟩ := RepKs.flat h6
    refine ⟨v0 :: v1 :: v2 :: xs, ⟨v0, v1, v2, xs, rfl, h5, k1⟩, fun i v hv => ?_⟩
    match i, hv with
    | 0, hv => simp at hv; subst hv; exact ⟨h1, h2⟩
    | 1, hv => simp at hv; subst hv; exact ⟨h1, h3⟩
    | 2, hv => simp at hv; subst hv; exact ⟨h1, h4⟩
    | i + 3, hv =>
      obtain ⟨q1, q2⟩ := k2 i v (by simpa using hv)
      exact ⟨q1, by rwa [show j * 3 + (i + 3) = (j + 1) * 3 + i from by omega]⟩
theorem RepKs.cells {S : Nat → Prop} {w : World} {ks : List Tp} {A : Option Addr} (h : RepKs S w ks A 0) : ∃ xs, RepFlat S w ks xs ∧ Cells S w A xs := by
  cases ks with
  | nil => exact ⟨[], rfl, .inl rfl⟩
  | cons t r =>
    have h' := h
    simp only [RepKs] at h'
    obtain ⟨⟨ad, _, _, _, rfl, h1, _⟩, _⟩ := h'
    obtain ⟨xs, k1, k2⟩ := RepKs.flat h
    exact ⟨xs, k1, .inr ⟨ad, rfl, h1, fun j v hv => by have := (k2 j v hv).2; simpa using this⟩⟩
theorem RepKs.ofFlat {S : Nat → Prop} {w : World} {A : Option Addr} : ∀ {ks : List Tp} {xs : List Value} {j : Nat}, RepFlat S w ks xs → (∀ i v, xs[i]? = some v → ∃ ad, A = some ad ∧ S ad.block ∧ w.cell? (ad.add (j * 3 + i)) = some v) → RepKs S w ks A j
  | [], _, _, _, _ => by simp only [RepKs]
  | t :: r, xs, j, h, hc => by
    obtain ⟨v0, v1, v2, ys, rfl, h2, h3⟩ := h
    simp only [RepKs]
    obtain ⟨ad, rfl, hs, h0⟩ := hc 0 v0 rfl
    obtain ⟨ad1, e1, _, h1⟩ := hc 1 v1 rfl
    obtain ⟨ad2, e2, _, h2'⟩ := hc 2 v2 rfl
    injection e1 with e1; subst e1
    injection e2 with e2; subst e2
    refine ⟨⟨ad, v0, v1, v2, rfl, hs, h0, h1, h2', h2⟩, RepKs.ofFlat h3 fun i v hv => ?_⟩
    obtain ⟨ad', e, q1, q2⟩ := hc (i + 3) v (by simpa using hv)
    exact ⟨ad', e, q1, by rwa [show (j + 1) * 3 + i = j * 3 + (i + 3) from by omega]⟩
theorem RepKs.ofCells {S S' : Nat → Prop} {w : World} {A : Option Addr} {ks : List Tp} {xs : List Value} (h : RepFlat S w ks xs) (hc : Cells S' w A xs) (hS : ∀ k, S k → k < w.heap.size → S' k) : RepKs S' w ks A 0 := by
  refine RepKs.ofFlat (h.to (Same.rfl' _ _) hS) fun i v hv => ?_
  rcases hc with hc | ⟨ad, rfl, h1, h2⟩
  · subst hc; simp at hv
  · exact ⟨ad, rfl, h1, by have := h2 i v hv; simpa using this⟩
end Go.Vc
namespace Go.Vc
open Go.RowKit
theorem RowOk.some {w : World} {A : Option Addr} {n c : Nat} {e : TypeId} {sz : Nat} {xs : List Value} (h : RowOk w ⟨.slice A n c, e, sz, xs⟩) (hn : n ≠ 0) : ∃ ad, A = .some ad := by
  obtain ⟨n', hl, ⟨hv, h0⟩ | ⟨g', o, cap, cur, hv, _⟩⟩ := h
  · injection hv with e1 e2 e3; exact absurd e2 hn
  · injection hv with e1 e2 e3; exact ⟨_, e1⟩
end Go.Vc
namespace Go.Vc
open Go.RowKit
theorem RowOk.cap {w : World} {A : Option Addr} {n c : Nat} {e : TypeId} {sz : Nat} {xs : List Value} (h : RowOk w ⟨.slice A n c, e, sz, xs⟩) : n ≤ c := by
  obtain ⟨A', n', c', hv, hn, _⟩ := h.form
  injection hv with e1 e2 e3
  omega
end Go.Vc


