/- Matching: what it is, and what a round of the work list keeps. -/
import Derived.Test.YtonhlccjfbfkcaaTl
import Derived.Test.YtonhlccjfbfkcaaVcn
namespace Go.Proofs.Ytonhlccjfbfkcaa
open Go.Vc Go.RowKit

theorem orL_zero : ∀ l : List Int, orL l = 0 ↔ ∀ x ∈ l, x = 0
  | [] => by simp [orL]
  | x :: r => by
    simp only [orL]
    split
    · rename_i h; simp [h]
    · rename_i h
      have h : x = 0 := by simpa using h
      rw [orL_zero r]; simp [h]
mutual
theorem cmpT_zero : ∀ t u : Tp, cmpT t u = 0 ↔ t = u
  | .mk k n ks, .mk k' n' ks' => by
    rw [cmpT, orL_zero]
    simp only [List.mem_cons, List.not_mem_nil, or_false, forall_eq_or_imp, forall_eq, cmpI_zero, cmpL_zero ks ks', Tp.mk.injEq]
    constructor
    · rintro ⟨h1, h2, _, h4⟩; exact ⟨h1, h2, h4⟩
    · rintro ⟨h1, h2, h4⟩; exact ⟨h1, h2, by rw [h4], h4⟩
theorem cmpL_zero : ∀ l m : List Tp, cmpL l m = 0 ↔ l = m
  | [], [] => by simp [cmpL]
  | [], _ :: _ => by simp [cmpL]
  | _ :: _, [] => by simp [cmpL]
  | a :: r, b :: s => by
    rw [cmpL]
    have h1 := cmpT_zero a b
    have h2 := cmpL_zero r s
    by_cases h : cmpT a b = 0
    · rw [if_neg (by simpa using h), h2, h1.1 h]; simp
    · rw [if_pos h]
      constructor
      · intro h'; exact absurd h' h
      · intro h'; injection h' with e1 e2; exact h1.2 e1
end

/-- Generic variables put in for. -/
def gsub (l : List Tp) : Tp → Tp := sub 8 (fun n => if 0 ≤ n then l[n.toNat]? else none)
theorem gsub_gen {l : List Tp} {n : Int} {ks : List Tp} (h0 : 0 ≤ n) (h1 : n.toNat < l.length) : gsub l (.mk 8 n ks) = l[n.toNat] := by
  unfold gsub
  rw [sub]
  simp only [if_true, if_pos h0, List.getElem?_eq_getElem h1]
theorem gsub_node {l : List Tp} {k n : Int} {ks : List Tp} (h : k ≠ 8) : gsub l (.mk k n ks) = .mk k n (ks.map (gsub l)) := by
  unfold gsub
  rw [sub]
  simp only [if_neg h, subL_map]
mutual
/-- All generic variables are below g. -/
def gok (g : Nat) : Tp → Prop
  | .mk k n ks => (k = 8 → 0 ≤ n ∧ n < (g : Int)) ∧ gokL g ks
def gokL (g : Nat) : List Tp → Prop
  | [] => True
  | t :: r => gok g t ∧ gokL g r
end
theorem gokL_mem {g : Nat} : ∀ {l : List Tp}, gokL g l → ∀ t ∈ l, gok g t
  | t' :: r, h, t, ht => by
    rcases List.mem_cons.1 ht with rfl | ht
    · exact h.1
    · exact gokL_mem h.2 t ht
mutual
theorem fnd_sub (kind : Int) : ∀ (t : Tp) (acc : List Int), ∀ x ∈ acc, x ∈ fnd kind t acc
  | .mk k n ks, acc, x, hx => by
    simp only [fnd]
    refine fndL_sub kind ks _ x ?_
    split
    · simp [hx]
    · exact hx
theorem fndL_sub (kind : Int) : ∀ (ts : List Tp) (acc : List Int), ∀ x ∈ acc, x ∈ fndL kind ts acc
  | [], acc, x, hx => by simpa [fndL] using hx
  | t :: r, acc, x, hx => by
    simp only [fndL]
    exact fndL_sub kind r _ x (fnd_sub kind t acc x hx)
end
mutual
theorem gok_of (g : Nat) : ∀ (t : Tp) (acc : List Int), (∀ x ∈ fnd 8 t acc, 0 ≤ x ∧ x < (g : Int)) → gok g t
  | .mk k n ks, acc, h => by
    simp only [fnd] at h
    refine ⟨fun hk => ?_, gokL_of g ks _ h⟩
    refine h n (fndL_sub 8 ks _ n ?_)
    split
    · simp
    · rename_i hc
      rcases Decidable.em (n ∈ acc) with h' | h'
      · exact h'
      · exact absurd ⟨hk, h'⟩ hc
theorem gokL_of (g : Nat) : ∀ (ts : List Tp) (acc : List Int), (∀ x ∈ fndL 8 ts acc, 0 ≤ x ∧ x < (g : Int)) → gokL g ts
  | [], _, _ => trivial
  | t :: r, acc, h => by
    simp only [fndL] at h
    exact ⟨gok_of g t acc fun x hx => h x (fndL_sub 8 r _ x hx), gokL_of g r _ h⟩
end
theorem isUp_mem : ∀ {l : List Int} {i : Int}, isUp l i = true → ∀ x ∈ l, i ≤ x ∧ x < i + l.length
  | [], _, _, x, hx => by cases hx
  | y :: r, i, h, x, hx => by
    simp only [isUp, Bool.and_eq_true, decide_eq_true_eq] at h
    rcases List.mem_cons.1 hx with rfl | hx
    · simp; omega
    · have := isUp_mem h.2 x hx; simp; omega
theorem rightS_gok {s : Sc} (h : rightS s = true) : ∃ g : Nat, s.g = g ∧ g = (fnd 8 s.t []).length ∧ gok g s.t := by
  simp only [rightS, Bool.and_eq_true, decide_eq_true_eq] at h
  refine ⟨(fnd 8 s.t []).length, h.2.2.symm, rfl, gok_of _ s.t [] fun x hx => ?_⟩
  have := isUp_mem h.2.1 x hx
  omega

/-- What a match comes to. -/
def MatchIs (a b : Sc) : Option (List Tp) → Prop
  | none => ¬ (rightS a = true ∧ rightS b = true) ∨ ∀ l : List Tp, (l.length : Int) = a.g → gsub l a.t ≠ b.t
  | some l => rightS a = true ∧ rightS b = true ∧ (l.length : Int) = a.g ∧ gsub l a.t = b.t

/-- What a round keeps: what is bound, and what is still to be matched. -/
structure MInv (g : Nat) (t u : Tp) (xs : List Tp) (bs : List Bool) (todo : List (Tp × Tp)) : Prop where
  hx : xs.length = g
  hb : bs.length = g
  ok : ∀ pq ∈ todo, gok g pq.1
  iff : ∀ l : List Tp, l.length = g → (((∀ i : Nat, bs[i]? = some true → l[i]? = xs[i]?) ∧ ∀ pq ∈ todo, gsub l pq.1 = pq.2) ↔ gsub l t = u)

theorem MInv.init {g : Nat} {t u : Tp} (h : gok g t) : MInv g t u (List.replicate g zeroT) (List.replicate g false) [(t, u)] := by
  refine ⟨by simp, by simp, by simpa using h, fun l hl => ?_⟩
  simp only [List.mem_singleton, forall_eq]
  constructor
  · exact fun h => h.2
  · refine fun h => ⟨fun i hi => ?_, h⟩
    have := List.getElem?_replicate (a := false) (n := g) (i := i)
    rw [this] at hi
    split at hi <;> simp at hi
theorem MInv.bind {g : Nat} {t u : Tp} {xs : List Tp} {bs : List Bool} {n : Int} {ks : List Tp} {q : Tp} {todo : List (Tp × Tp)} (h : MInv g t u xs bs ((.mk 8 n ks, q) :: todo)) (hq : bs[n.toNat]? = some true → xs[n.toNat]? = some q) :
    MInv g t u (xs.set n.toNat q) (bs.set n.toNat true) todo := by
  obtain ⟨h0, h1⟩ := (h.ok _ (List.mem_cons_self ..)).1 rfl
  have hn : n.toNat < g := by omega
  refine ⟨by simp [h.hx], by simp [h.hb], fun pq hp => h.ok pq (List.mem_cons_of_mem _ hp), fun l hl => ?_⟩
  rw [← h.iff l hl]
  have hg : gsub l (.mk 8 n ks) = l[n.toNat]'(by omega) := gsub_gen h0 (by omega)
  simp only [List.mem_cons, forall_eq_or_imp, hg]
  have hln : l[n.toNat]? = some (l[n.toNat]'(by omega)) := List.getElem?_eq_getElem _
  constructor
  · rintro ⟨h2, h3⟩
    have hq' : l[n.toNat]'(by omega) = q := by
      have := h2 n.toNat (by simp [h.hb, hn])
      rw [hln, List.getElem?_set_self (by rw [h.hx]; exact hn)] at this
      injection this
    refine ⟨fun i hi => ?_, hq', h3⟩
    by_cases e : i = n.toNat
    · subst e; rw [hq hi, hln, hq']
    · have := h2 i (by rw [List.getElem?_set_ne (Ne.symm e)]; exact hi)
      rwa [List.getElem?_set_ne (Ne.symm e)] at this
  · rintro ⟨h2, h3, h4⟩
    refine ⟨fun i hi => ?_, h4⟩
    by_cases e : i = n.toNat
    · subst e; rw [hln, h3, List.getElem?_set_self (by rw [h.hx]; exact hn)]
    · rw [List.getElem?_set_ne (Ne.symm e)] at hi ⊢
      exact h2 i hi
theorem MInv.failB {g : Nat} {t u : Tp} {xs : List Tp} {bs : List Bool} {n : Int} {ks : List Tp} {q x : Tp} {todo : List (Tp × Tp)} (h : MInv g t u xs bs ((.mk 8 n ks, q) :: todo)) (hb : bs[n.toNat]? = some true) (hx : xs[n.toNat]? = some x) (hne : x ≠ q) (l : List Tp) (hl : l.length = g) : gsub l t ≠ u := by
  intro he
  obtain ⟨h0, h1⟩ := (h.ok _ (List.mem_cons_self ..)).1 rfl
  obtain ⟨h2, h3⟩ := (h.iff l hl).2 he
  have h4 := h3 _ (List.mem_cons_self ..)
  simp only at h4
  rw [gsub_gen h0 (by omega)] at h4
  have h5 := h2 _ hb
  rw [hx, List.getElem?_eq_getElem (by omega), h4] at h5
  injection h5 with h5
  exact hne h5.symm
theorem map_eq_zip {l : List Tp} : ∀ {ks ks' : List Tp}, ks.length = ks'.length → (ks.map (gsub l) = ks' ↔ ∀ pq ∈ ks.zip ks', gsub l pq.1 = pq.2)
  | [], [], _ => by simp
  | a :: r, b :: s, h => by
    simp only [List.length_cons, Nat.add_right_cancel_iff] at h
    simp only [List.map_cons, List.cons.injEq, List.zip_cons_cons, List.mem_cons, forall_eq_or_imp, map_eq_zip h]
  | [], _ :: _, h => by simp at h
  | _ :: _, [], h => by simp at h
theorem MInv.node {g : Nat} {t u : Tp} {xs : List Tp} {bs : List Bool} {k n : Int} {ks ks' : List Tp} {todo : List (Tp × Tp)} (h : MInv g t u xs bs ((.mk k n ks, .mk k n ks') :: todo)) (hk : k ≠ 8) (hl : ks.length = ks'.length) :
    MInv g t u xs bs (todo ++ ks.zip ks') := by
  refine ⟨h.hx, h.hb, fun pq hp => ?_, fun l hlg => ?_⟩
  · rcases List.mem_append.1 hp with hp | hp
    · exact h.ok pq (List.mem_cons_of_mem _ hp)
    · have h1 : gokL g ks := (h.ok _ (List.mem_cons_self ..)).2
      exact gokL_mem h1 _ (List.of_mem_zip hp).1
  · rw [← h.iff l hlg]
    simp only [List.mem_append, List.mem_cons, forall_eq_or_imp, gsub_node hk, Tp.mk.injEq, true_and, map_eq_zip hl]
    constructor
    · rintro ⟨h1, h2⟩; exact ⟨h1, fun pq hp => h2 pq (.inr hp), fun pq hp => h2 pq (.inl hp)⟩
    · rintro ⟨h1, h2, h3⟩; exact ⟨h1, fun pq hp => hp.elim (h3 pq) (h2 pq)⟩
theorem MInv.failN {g : Nat} {t u : Tp} {xs : List Tp} {bs : List Bool} {p q : Tp} {todo : List (Tp × Tp)} (h : MInv g t u xs bs ((p, q) :: todo)) (hk : p.k ≠ 8) (hne : p.k ≠ q.k ∨ p.n ≠ q.n ∨ p.kids.length ≠ q.kids.length) (l : List Tp) (hl : l.length = g) : gsub l t ≠ u := by
  intro he
  obtain ⟨h2, h3⟩ := (h.iff l hl).2 he
  have h4 := h3 _ (List.mem_cons_self ..)
  obtain ⟨k, n, ks⟩ := p
  obtain ⟨k', n', ks'⟩ := q
  simp only [Tp.k, Tp.n, Tp.kids] at *
  rw [gsub_node hk] at h4
  injection h4 with e1 e2 e3
  have := congrArg List.length e3
  simp at this
  omega
theorem MInv.done {g : Nat} {t u : Tp} {xs : List Tp} {bs : List Bool} (h : MInv g t u xs bs []) : gsub xs t = u := (h.iff xs h.hx).1 ⟨fun _ _ => rfl, by simp⟩

/-- Pairs as a list of types. -/
def flat2 : List (Tp × Tp) → List Tp
  | [] => []
  | (a, b) :: r => a :: b :: flat2 r
theorem flat2_append : ∀ l m, flat2 (l ++ m) = flat2 l ++ flat2 m
  | [], m => rfl
  | (a, b) :: r, m => by simp [flat2, flat2_append r m]
theorem flat2_length : ∀ l, (flat2 l).length = l.length * 2
  | [] => rfl
  | (a, b) :: r => by simp [flat2, flat2_length r]; omega
/-- How many nodes the patterns have. -/
def szP : List (Tp × Tp) → Nat
  | [] => 0
  | (a, _) :: r => szT a + szP r
theorem szP_append : ∀ l m, szP (l ++ m) = szP l + szP m
  | [], m => by simp [szP]
  | (a, b) :: r, m => by simp only [List.cons_append, szP, szP_append r m]; omega
theorem szP_zip : ∀ {l m : List Tp}, l.length = m.length → szP (l.zip m) = szL l
  | [], [], _ => rfl
  | a :: r, b :: s, h => by
    simp only [List.length_cons, Nat.add_right_cancel_iff] at h
    simp only [List.zip_cons_cons, szP, szL, szP_zip h]
  | [], _ :: _, h => by simp at h
  | _ :: _, [], h => by simp at h
theorem szP_len : ∀ l, l.length ≤ szP l
  | [] => Nat.zero_le _
  | (a, b) :: r => by have := szP_len r; have := szT_pos a; simp only [szP, List.length_cons]; omega
end Go.Proofs.Ytonhlccjfbfkcaa
