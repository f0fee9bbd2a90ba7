/- The law SchemeGeneral: what it computes. -/
import Derived.Test.YtonhlccjfbfkcaaQt
import Derived.Test.YtonhlccjfbfkcaaQp
set_option linter.unusedSimpArgs false
set_option linter.unusedVariables false
namespace Go.Proofs.Ytonhlccjfbfkcaa
open Go.Vx Go.Vc Go.RowKit

theorem generalise_fn (t : Tp) (keep : List Int) (hz : szT t ≤ BIG) : FnR Try.prog G0 11 [dT t, dI keep] (dS (Vm.genAll t keep)) :=
  res_fnR fun S w vs _ h => by
    rw [show [dT t, dI keep] = dT t :: [dI keep] from rfl] at h
    simp only [RepDs] at h
    obtain ⟨v, _, rfl, h1, u, _, rfl, h2, rfl⟩ := h
    simp only [slD, RepD] at h2
    obtain ⟨A, c, rfl, _, hb, _, hC⟩ := h2
    rw [ebn_eq] at hb
    obtain ⟨xs, hx, hc⟩ := RepC.cells0 hC
    have hxs : xs = ints keep := by
      have : ∀ (l : List Int) (xs : List Value), RepDs S w (encI l) xs → xs = ints l := by
        intro l
        induction l with
        | nil => intro xs h; simpa [encI, RepDs] using h
        | cons a r ih =>
          intro xs h
          simp only [encI, List.map_cons, RepDs] at h
          obtain ⟨v, s, rfl, e, h'⟩ := h
          simp only [RepD] at e
          rw [e, ih s h']; rfl
      exact this keep xs hx
    subst hxs
    have h7 := fnd8 hz 7
    have h8 := fnd8 hz 8
    refine (Vm.generalise_calls S w t v A c keep (D_repT (by simp only [BIG] at hz; simp only [LIM]; omega) h1) (by simp only [LB] at hb; omega) hc (by rw [vfnd]; simp only [BIG] at h7; simp only [LIM]; omega) (by rw [vfnd]; simp only [BIG] at h8; simp only [LIM]; omega)).mono ?_
    rintro e w' ⟨r, he, hr, hbl⟩
    exact ⟨r, he, repS_D hr, hbl⟩
/-- A match's answer. -/
def matchD : Option (List Tp) → D
  | none => .tup [slD 40 0 [], .bool false]
  | some l => .tup [dK l, .bool true]
theorem match_fn (a c : Sc) (hza : szT a.t ≤ BIG) (hzc : szT c.t ≤ BIG) : FnQ Try.prog G0 15 [dS a, dS c] (fun o => ∃ r, Vm.MatchIs a c r ∧ o = .ret (matchD r)) := by
  intro S w vs hds hS _
  obtain ⟨v, u, rfl, hv, hu⟩ := dS2 hza hzc hds
  refine (Vm.match_calls S w a c v u hv hu hza hzc).mono ?_
  rintro e w' ⟨x, he, ⟨r, hr, hx⟩, hb⟩
  have hD : RepD (ext S w) w' (matchD r) x ∨ ∃ l, r = some l ∧ ¬ (l.length * 40 ≤ LB) := by
    cases r with
    | none =>
      simp only [Vm.MatchR] at hx; subst hx
      left
      simp only [matchD, slD, ebn, RepD, RepDs]
      exact ⟨_, rfl, _, _, rfl, ⟨none, 0, rfl, Nat.le_refl _, by simp, by simp, by simp only [RepC]⟩, _, _, rfl, rfl, rfl⟩
    | some l =>
      simp only [Vm.MatchR] at hx
      obtain ⟨A, k, rfl, h1, h2⟩ := hx
      rcases Decidable.em (l.length * 40 ≤ LB) with h3 | h3
      · left
        simp only [matchD, slD, RepD, RepDs]
        refine ⟨_, rfl, _, _, rfl, ⟨A, k, rfl, h1, by rw [ebn_eq]; exact h3, fun hn => ?_, by simpa using repKs_C h2⟩, _, _, rfl, rfl, rfl⟩
        cases l with
        | nil => exact absurd rfl hn
        | cons t r =>
          simp only [RepKs] at h2
          obtain ⟨⟨ad, _, _, _, e, _⟩, _⟩ := h2
          exact ⟨ad, e⟩
      · exact .inr ⟨l, rfl, h3⟩
  rcases hD with hD | ⟨l, rfl, hl⟩
  · refine ⟨.ret (matchD r), fun k => S k ∨ (w.heap.size ≤ k ∧ k < w'.heap.size), ⟨r, hr, rfl⟩, ⟨x, he, hD.to (Same.rfl' _ _) fun k hk hl => ?_⟩, hb, fun k hk => .inl hk, fun k hk => ?_, fun k hk => ?_⟩
    · rcases hk with hk | hk
      · exact .inl hk
      · exact .inr ⟨hk, hl⟩
    · rcases hk with hk | hk
      · exact .inl hk
      · exact .inr hk.1
    · rcases hk with hk | hk
      · exact Nat.lt_of_lt_of_le (hS k hk) hb.size
      · exact hk.2
  · exfalso
    have hg := rightS_g hr.1
    have h8 := fnd8 hza 8
    have := hr.2.2.1
    simp only [BIG] at h8; simp only [LB] at hl; omega
theorem mono_fn (t : Tp) : FnR Try.prog G0 32 [dT t] (dS ⟨0, t⟩) := by
  refine fnQ_of_vc txok mixed [] Try.func32 rfl rfl (by simp) fun b => ?_
  conv => whnf
  refine callF (clone_fn t) gf52 rfl rfl ?_
  conv => whnf
  rfl
theorem repl_szT (t : Tp) (kind : Int) (fr : List Int) (to : List Tp) : szT (repl t kind fr to).1 ≤ 1000 := by
  unfold repl
  split
  · split
    · assumption
    · simp [tp0, szT, szL]
  · simp [tp0, szT, szL]
theorem instOf_sz (s : Sc) (l : List Tp) : szT (instOf s l).1 ≤ 1000 := by
  unfold instOf
  split
  · exact repl_szT _ _ _ _
  · simp [szT, szL]
theorem vgsub {s : Sc} {l : List Tp} (hs : Vm.rightS s = true) (hl : (l.length : Int) = s.g) : sub 8 (tbl (fnd 8 s.t []) l) s.t = Vm.gsub l s.t := by
  rw [← Vm.inst_gsub hs hl, vsub, vfnd]
  congr 1
  funext n
  exact (vtbl _ _ n).symm
/-- An instance that is told: the types put in. -/
theorem instOf_ok {s : Sc} {l : List Tp} (h : (instOf s l).2 = 0) : Vm.rightS s = true ∧ (l.length : Int) = s.g ∧ (instOf s l).1 = Vm.gsub l s.t := by
  unfold instOf at h ⊢
  split at h
  · rename_i hc
    rw [if_pos hc]
    refine ⟨hc.1, hc.2, ?_⟩
    unfold repl at h ⊢
    split at h
    · rename_i h1
      rw [if_pos h1]
      split at h
      · rename_i h2
        rw [if_pos h2]; exact vgsub hc.1 hc.2
      · simp at h
    · simp at h
  · simp at h
theorem general_match {a c : Sc} {l : List Tp} (h : Vm.MatchIs a c (some l)) : ((instOf a l).2 = 0 ∧ (instOf a l).1 = c.t) ∨ ((instOf a l).2 ≠ 0 ∧ ¬ szT c.t ≤ 1000) := by
  obtain ⟨h1, _, h3, h4⟩ := h
  have hg := rightS_g h1
  have e := vgsub h1 h3
  rw [h4] at e
  unfold instOf
  rw [if_pos ⟨h1, h3⟩]
  unfold repl
  rw [if_pos (by omega), e]
  by_cases hz : szT c.t ≤ 1000
  · rw [if_pos hz]; exact .inl ⟨rfl, rfl⟩
  · rw [if_neg hz]; exact .inr ⟨by simp, hz⟩
end Go.Proofs.Ytonhlccjfbfkcaa
