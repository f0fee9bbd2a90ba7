/- Contracts proved above memory, as contracts over plain data. -/
import Derived.Test.YtonhlccjfbfkcaaQa
import Derived.Test.YtonhlccjfbfkcaaQr
set_option linter.unusedSimpArgs false
set_option linter.unusedVariables false
namespace Go.Proofs.Ytonhlccjfbfkcaa
open Go.Vx Go.Vc Go.RowKit

theorem ebn_eq (eb : Nat) : ∀ n, n * ebn eb n = n * eb
  | 0 => by simp
  | n + 1 => rfl
mutual
theorem repT_D {S : Nat → Prop} {w : World} : ∀ {t : Tp} {v : Value}, RepT S w t v → RepD S w (dT t) v
  | .mk k n ks, v, h => by
    simp only [RepT] at h
    obtain ⟨A, c, rfl, h1, h2, h3⟩ := h
    simp only [dT, encT, mk_k, mk_n, mk_kids, slD, RepD, RepDs]
    refine ⟨_, rfl, _, _, rfl, rfl, _, _, rfl, rfl, _, _, rfl, ⟨A, c, rfl, h1, ?_, ?_, by simpa using repKs_C h3⟩, rfl⟩
    · rw [ebn_eq]; simp only [LIM] at h2; simp only [LB]; omega
    · intro hn
      cases ks with
      | nil => exact absurd rfl hn
      | cons t r =>
        simp only [RepKs] at h3
        obtain ⟨⟨ad, _, _, _, e, _⟩, _⟩ := h3
        exact ⟨ad, e⟩
theorem repKs_C {S : Nat → Prop} {w : World} : ∀ {ks : List Tp} {A : Option Addr} {j : Nat}, RepKs S w ks A j → RepC S w (encK ks) A (j * 3)
  | [], _, _, _ => by simp only [encK, RepC]
  | t :: r, A, j, h => by
    simp only [RepKs] at h
    obtain ⟨⟨ad, v0, v1, v2, rfl, h1, c0, c1, c2, hT⟩, hr⟩ := h
    have hD := repT_D hT
    have hR := repKs_C hr
    simp only [RepD] at hD
    obtain ⟨l', e, hD⟩ := hD
    injection e with e; subst e
    simp only [encK, encT0_eq]
    refine RepC.app (RepC.of hD fun i v hv => ⟨ad, rfl, h1, ?_⟩) (by rw [encT_len, show j * 3 + 3 = (j + 1) * 3 from by omega]; exact hR)
    match i, hv with
    | 0, hv => simp at hv; subst hv; exact c0
    | 1, hv => simp at hv; subst hv; exact c1
    | 2, hv => simp at hv; subst hv; exact c2
    | i + 3, hv => simp at hv
end
mutual
theorem D_repT {S : Nat → Prop} {w : World} : ∀ {t : Tp} {v : Value}, szT t ≤ LIM → RepD S w (dT t) v → RepT S w t v
  | .mk k n ks, v, hz, h => by
    have hl := szL_len ks
    simp only [szT] at hz
    simp only [dT, encT, mk_k, mk_n, mk_kids, slD, RepD, RepDs] at h
    obtain ⟨l', rfl, v0, _, e0, rfl, v1, _, e1, rfl, v2, _, e2, ⟨A, c, rfl, h1, _, _, h3⟩, e3⟩ := h
    simp only [RepT]
    refine ⟨A, c, ?_, h1, by omega, C_repKs (by omega) (by simpa using h3)⟩
    subst e3; subst e2; subst e1
    rw [← Array.toArray_toList (xs := l'), e0]
theorem C_repKs {S : Nat → Prop} {w : World} : ∀ {ks : List Tp} {A : Option Addr} {j : Nat}, szL ks ≤ LIM → RepC S w (encK ks) A (j * 3) → RepKs S w ks A j
  | [], _, _, _, _ => by simp only [RepKs]
  | t :: r, A, j, hz, h => by
    simp only [szL] at hz
    simp only [encK, encT0_eq] at h
    have hr : RepC S w (encK r) A ((j + 1) * 3) := by
      have := h
      simp only [encT, List.cons_append, List.nil_append, RepC] at this
      have := this.2.2.2
      rwa [show j * 3 + 1 + 1 + 1 = (j + 1) * 3 from by omega] at this
    simp only [encT, List.cons_append, List.nil_append, RepC] at h
    obtain ⟨⟨ad, v0, rfl, h1, c0, d0⟩, ⟨ad1, v1, e1, _, c1, d1⟩, ⟨ad2, v2, e2, _, c2, d2⟩, _⟩ := h
    injection e1 with e1; subst e1
    injection e2 with e2; subst e2
    simp only [RepKs]
    refine ⟨⟨ad, v0, v1, v2, rfl, h1, c0, c1, c2, D_repT (by omega) ?_⟩, C_repKs (by omega) hr⟩
    simp only [dT, encT, RepD, RepDs]
    exact ⟨_, rfl, _, _, rfl, by simpa only [RepD] using d0, _, _, rfl, by simpa only [RepD] using d1, _, _, rfl, d2, rfl⟩
end
/-- Data of a scheme. -/
abbrev dS (s : Sc) : D := .agg (.int .i64 s.g :: encT s.t)
theorem repS_D {S : Nat → Prop} {w : World} {s : Sc} {v : Value} (h : RepS S w s v) : RepD S w (dS s) v := by
  obtain ⟨A, c, rfl, h1, h2, h3⟩ := h
  have := repT_D (RepT.mk' (t := s.t) h1 h2 h3)
  simp only [dT, encT, RepD, RepDs] at this
  obtain ⟨l', e, v0, _, e0, rfl, v1, _, rfl, rfl, v2, _, rfl, h4, rfl⟩ := this
  injection e with e; subst e
  injection e0 with _ e0; injection e0 with _ e0; injection e0 with e0; subst e0
  simp only [dS, encT, RepD, RepDs]
  exact ⟨_, rfl, _, _, rfl, rfl, _, _, rfl, rfl, _, _, rfl, rfl, _, _, rfl, h4, rfl⟩
theorem D_repS {S : Nat → Prop} {w : World} {s : Sc} {v : Value} (hz : szT s.t ≤ LIM) (h : RepD S w (dS s) v) : RepS S w s v := by
  simp only [dS, encT, RepD, RepDs] at h
  obtain ⟨l', rfl, g, _, eg, rfl, v0, _, rfl, rfl, v1, _, rfl, rfl, v2, _, rfl, h4, rfl⟩ := h
  have hT : RepT S w s.t (.agg #[.int .i64 s.t.k, .int .i64 s.t.n, v2]) := D_repT hz (by
    simp only [dT, encT, RepD, RepDs]
    exact ⟨_, rfl, _, _, rfl, rfl, _, _, rfl, rfl, _, _, rfl, h4, rfl⟩)
  obtain ⟨A, c, e, h1, h2, h3⟩ := hT.opn
  injection e with e
  have e := congrArg Array.toList e
  injection e with _ e; injection e with _ e; injection e with e; subst e
  refine ⟨A, c, ?_, h1, h2, h3⟩
  rw [← Array.toArray_toList (xs := l'), eg]
/-- A contract of a call that leaves all that was there. -/
theorem res_fnR {f : FuncId} {ds : List D} {r : D} (h : ∀ S w vs, (∀ k, S k → k < w.heap.size) → RepDs S w ds vs → Calls Try.prog f vs.toArray w (Res w fun v w' => RepD (ext S w) w' r v)) : FnR Try.prog G0 f ds r := by
  intro S w vs hds hS _
  refine (h S w vs hS hds).mono ?_
  rintro e w' ⟨v, rfl, hv, hb⟩
  refine ⟨.ret r, fun k => S k ∨ (w.heap.size ≤ k ∧ k < w'.heap.size), rfl, ⟨v, rfl, hv.to (Same.rfl' _ _) fun k hk hl => ?_⟩, hb, fun k hk => .inl hk, fun k hk => ?_, fun k hk => ?_⟩
  · rcases hk with hk | hk
    · exact .inl hk
    · exact .inr ⟨hk, hl⟩
  · rcases hk with hk | hk
    · exact .inl hk
    · exact .inr hk.1
  · rcases hk with hk | hk
    · exact Nat.lt_of_lt_of_le (hS k hk) hb.size
    · exact hk.2
theorem bool_fnR {f : FuncId} {ds : List D} {r : Bool} (h : ∀ S w vs, RepDs S w ds vs → Calls Try.prog f vs.toArray w (fun e w' => e = .returned (.bool r) ∧ Below w.heap.size w w')) : FnR Try.prog G0 f ds (.bool r) :=
  res_fnR fun S w vs _ hds => (h S w vs hds).mono fun e w' ⟨he, hb⟩ => ⟨_, he, by simp only [RepD], hb⟩
/-! The same words. -/
mutual
theorem vfnd (kind : Int) : ∀ (t : Tp) (acc : List Int), Vm.fnd kind t acc = fnd kind t acc
  | .mk k n ks, acc => by simp only [Vm.fnd, fnd]; exact vfndL kind ks _
theorem vfndL (kind : Int) : ∀ (ts : List Tp) (acc : List Int), Vm.fndL kind ts acc = fndL kind ts acc
  | [], acc => by simp only [Vm.fndL, fndL]
  | t :: r, acc => by simp only [Vm.fndL, fndL]; rw [vfnd kind t, vfndL kind r]
end
mutual
theorem vsub (kind : Int) (σ : Int → Option Tp) : ∀ t : Tp, Vm.sub kind σ t = sub kind σ t
  | .mk k n ks => by
    simp only [Vm.sub, sub]; rw [vsubL kind σ ks]
    cases (if k = kind then σ n else none) <;> rfl
theorem vsubL (kind : Int) (σ : Int → Option Tp) : ∀ ts : List Tp, Vm.subL kind σ ts = subL kind σ ts
  | [] => by simp only [Vm.subL, subL]
  | t :: r => by simp only [Vm.subL, subL]; rw [vsub kind σ t, vsubL kind σ r]
end
theorem vtbl : ∀ (fs : List Int) (ts : List Tp) (n : Int), Vm.tbl fs ts n = tbl fs ts n
  | [], _, _ => by simp only [Vm.tbl, tbl]
  | f :: fs, [], n => by simp only [Vm.tbl, tbl]
  | f :: fs, t :: ts, n => by simp only [Vm.tbl, tbl]; rw [vtbl fs ts n]
mutual
theorem vright : ∀ t : Tp, Vm.rightT t = right t
  | .mk k n ks => by
    simp only [Vm.rightT, right]; rw [vrights ks]
    have el : ∀ m : Nat, ((ks.length : Int) == (m : Int)) = decide (ks.length = m) := fun m => by
      rw [Bool.eq_iff_iff]; simp; omega
    have e0 := el 0
    have e2 := el 2
    have en : (n == 0) = decide (n = 0) := rfl
    simp only [Int.natCast_zero] at e0
    have e2 : ((ks.length : Int) == 2) = decide (ks.length = 2) := e2
    rw [e0, e2, en]
    by_cases h1 : k = 1 ∨ k = 2 ∨ k = 3
    · rw [if_pos h1, show (k == 1 || (k == 2 || k == 3)) = true from by simpa using h1]
    · rw [if_neg h1, show (k == 1 || (k == 2 || k == 3)) = false from by simpa using h1]
      by_cases h2 : k = 4 ∨ k = 5
      · rw [if_pos h2, show (k == 4 || k == 5) = true from by simpa using h2]
        simp only [Bool.and_assoc]
      · rw [if_neg h2, show (k == 4 || k == 5) = false from by simpa using h2]
        by_cases h3 : k = 6 ∨ k = 7 ∨ k = 8
        · rw [if_pos h3, show (k == 6 || (k == 7 || k == 8)) = true from by simpa using h3]
        · rw [if_neg h3, show (k == 6 || (k == 7 || k == 8)) = false from by simpa using h3]
theorem vrights : ∀ ts : List Tp, Vm.rightL ts = rights ts
  | [] => by simp only [Vm.rightL, rights]
  | t :: r => by simp only [Vm.rightL, rights]; rw [vright t, vrights r]
end
/-! The contracts. -/
def BIG : Nat := 1073741824
theorem fnd8 {t : Tp} (h : szT t ≤ BIG) (kind : Int) : (fnd kind t []).length ≤ BIG := by
  have := Vm.fnd_sz kind t []
  rw [vfnd] at this
  simp only [List.length_nil] at this; omega
theorem dS1 {S : Nat → Prop} {w : World} {s : Sc} {vs : List Value} (hz : szT s.t ≤ BIG) (h : RepDs S w [dS s] vs) : ∃ v, vs = [v] ∧ RepS S w s v := by
  simp only [RepDs] at h
  obtain ⟨v, _, rfl, h1, rfl⟩ := h
  exact ⟨v, rfl, D_repS (by simp only [BIG] at hz; simp only [LIM]; omega) h1⟩
theorem dS2 {S : Nat → Prop} {w : World} {a c : Sc} {vs : List Value} (hza : szT a.t ≤ BIG) (hzc : szT c.t ≤ BIG) (h : RepDs S w [dS a, dS c] vs) : ∃ v u, vs = [v, u] ∧ RepS S w a v ∧ RepS S w c u := by
  rw [show [dS a, dS c] = dS a :: [dS c] from rfl] at h
  simp only [RepDs] at h
  obtain ⟨v, s, rfl, h1, u, _, rfl, h2, rfl⟩ := h
  exact ⟨v, u, rfl, D_repS (by simp only [BIG] at hza; simp only [LIM]; omega) h1, D_repS (by simp only [BIG] at hzc; simp only [LIM]; omega) h2⟩
theorem alive_fn : FnR Try.prog G0 10 [] (.bool true) :=
  bool_fnR fun S w vs h => by simp only [RepDs] at h; subst h; exact Vm.alive_calls w
theorem rightS_fn (s : Sc) (hz : szT s.t ≤ BIG) : FnR Try.prog G0 22 [dS s] (.bool (Vm.rightS s)) :=
  bool_fnR fun S w vs h => by
    obtain ⟨v, rfl, hv⟩ := dS1 hz h
    have := fnd8 hz 8
    exact Vm.rightScheme_calls S w s v hv (by rw [vfnd]; simp only [BIG] at this; omega)
theorem rrightS_fn (s : Sc) (hz : szT s.t ≤ BIG) : FnR Try.prog G0 45 [dS s] (.bool (Vm.rightS s)) :=
  bool_fnR fun S w vs h => by
    obtain ⟨v, rfl, hv⟩ := dS1 hz h
    have := fnd8 hz 8
    exact Vm.rrightScheme_calls S w s v hv (by rw [vfnd]; simp only [BIG] at this; omega)
theorem atLeast_fn (a c : Sc) (hza : szT a.t ≤ BIG) (hzc : szT c.t ≤ BIG) : FnR Try.prog G0 18 [dS a, dS c] (.bool (Vm.atL a c)) :=
  bool_fnR fun S w vs h => by
    obtain ⟨v, u, rfl, hv, hu⟩ := dS2 hza hzc h
    exact Vm.atLeast_calls S w a c v u hv hu hza hzc
/-- What Instantiate answers. -/
def instD (s : Sc) (next : Int) : D := if Vm.instOk s next = true then .tup [dT (Vm.instT s next), .int .i64 (next + s.g), .int .i64 0] else .tup [dT (.mk 0 0 []), .int .i64 0, .int .i64 1]
theorem zeroT_D {S : Nat → Prop} {w : World} : RepD S w (dT (.mk 0 0 [])) (.agg #[.int .i64 0, .int .i64 0, .slice none 0 0]) :=
  repT_D (Vm.leaf_rep S w 0 0)
theorem instantiate_fn (s : Sc) (next : Int) (hz : szT s.t ≤ BIG) : FnR Try.prog G0 24 [dS s, .int .i64 next] (instD s next) :=
  res_fnR fun S w vs _ h => by
    rw [show [dS s, .int .i64 next] = dS s :: [.int .i64 next] from rfl] at h
    simp only [RepDs] at h
    obtain ⟨v, _, rfl, h1, u, _, rfl, h2, rfl⟩ := h
    simp only [RepD] at h2; subst h2
    have hv := D_repS (by simp only [BIG] at hz; simp only [LIM]; omega) h1
    refine (Vm.instantiate_calls S w s v next hv hz).mono ?_
    rintro e w' ⟨r, he, hr, hb⟩
    refine ⟨r, he, ?_, hb⟩
    unfold instD
    rcases hr with ⟨h3, rfl⟩ | ⟨h3, v0, rfl, hT⟩
    · rw [if_neg (by rw [h3]; simp)]
      have := zeroT_D (S := ext S w) (w := w')
      rw [show [dT (.mk 0 0 []), .int .i64 0, .int .i64 1] = dT (.mk 0 0 []) :: [.int .i64 0, .int .i64 1] from rfl]
      simp only [RepD.eq_10, RepDs]
      exact ⟨_, rfl, _, _, rfl, this, _, _, rfl, by simp only [RepD], _, _, rfl, by simp only [RepD], rfl⟩
    · rw [if_pos h3]
      have := repT_D hT
      rw [show [dT (Vm.instT s next), .int .i64 (next + s.g), .int .i64 0] = dT (Vm.instT s next) :: [.int .i64 (next + s.g), .int .i64 0] from rfl]
      simp only [RepD.eq_10, RepDs]
      exact ⟨_, rfl, _, _, rfl, this, _, _, rfl, by simp only [RepD], _, _, rfl, by simp only [RepD], rfl⟩
end Go.Proofs.Ytonhlccjfbfkcaa
