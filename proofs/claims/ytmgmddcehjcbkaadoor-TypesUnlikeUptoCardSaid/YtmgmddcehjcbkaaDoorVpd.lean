/- Plain laws of types: what stands in them, and what replacing does to it. -/
import Derived.Test.YtmgmddcehjcbkaaDoorVpc
namespace Go.Vx
open Go.Vc

mutual
theorem fnd_sz (kind : Int) : ∀ (t : Tp) (acc : List Int), (fnd kind t acc).length ≤ acc.length + szT t
  | .mk k n ks, acc => by
    simp only [fnd, szT]
    refine Nat.le_trans (fndL_sz kind ks _) ?_
    split
    · simp; omega
    · omega
theorem fndL_sz (kind : Int) : ∀ (ts : List Tp) (acc : List Int), (fndL kind ts acc).length ≤ acc.length + szL ts
  | [], acc => by simp [fndL, szL]
  | t :: r, acc => by
    simp only [fndL, szL]
    have h1 := fndL_sz kind r (fnd kind t acc)
    have h2 := fnd_sz kind t acc
    omega
end
mutual
/-- Does a node of a kind stand in a type? -/
def hasN (kind x : Int) : Tp → Prop
  | .mk k n ks => (k = kind ∧ n = x) ∨ hasL kind x ks
def hasL (kind x : Int) : List Tp → Prop
  | [] => False
  | t :: r => hasN kind x t ∨ hasL kind x r
end
mutual
theorem mem_fnd (kind x : Int) : ∀ (t : Tp) (acc : List Int), x ∈ fnd kind t acc ↔ x ∈ acc ∨ hasN kind x t
  | .mk k n ks, acc => by
    simp only [fnd, hasN]
    rw [mem_fndL kind x ks]
    by_cases h : k = kind ∧ n ∉ acc
    · rw [if_pos h, List.mem_append, List.mem_singleton]
      constructor
      · rintro ((h1 | rfl) | h1)
        · exact .inl h1
        · exact .inr (.inl ⟨h.1, rfl⟩)
        · exact .inr (.inr h1)
      · rintro (h1 | ⟨_, rfl⟩ | h1)
        · exact .inl (.inl h1)
        · exact .inl (.inr rfl)
        · exact .inr h1
    · rw [if_neg h]
      constructor
      · rintro (h1 | h1)
        · exact .inl h1
        · exact .inr (.inr h1)
      · rintro (h1 | ⟨h2, rfl⟩ | h1)
        · exact .inl h1
        · exact .inl (Decidable.byContradiction fun h3 => h ⟨h2, h3⟩)
        · exact .inr h1
theorem mem_fndL (kind x : Int) : ∀ (ts : List Tp) (acc : List Int), x ∈ fndL kind ts acc ↔ x ∈ acc ∨ hasL kind x ts
  | [], acc => by simp [fndL, hasL]
  | t :: r, acc => by
    simp only [fndL, hasL]
    rw [mem_fndL kind x r, mem_fnd kind x t]
    constructor
    · rintro ((h | h) | h)
      · exact .inl h
      · exact .inr (.inl h)
      · exact .inr (.inr h)
    · rintro (h | h | h)
      · exact .inl (.inl h)
      · exact .inl (.inr h)
      · exact .inr h
end
mutual
/-- What does not stand in a type is not replaced there. -/
theorem sub_id (kind : Int) (σ : Int → Option Tp) : ∀ t : Tp, (∀ n, hasN kind n t → σ n = none) → sub kind σ t = t
  | .mk k n ks, h => by
    simp only [hasN] at h
    rw [sub]
    have : (if k = kind then σ n else none) = none := by
      split
      · exact h n (.inl ⟨by assumption, rfl⟩)
      · rfl
    rw [this]
    simp only
    rw [subL_id kind σ ks fun n hn => h n (.inr hn)]
theorem subL_id (kind : Int) (σ : Int → Option Tp) : ∀ ts : List Tp, (∀ n, hasL kind n ts → σ n = none) → subL kind σ ts = ts
  | [], _ => rfl
  | t :: r, h => by
    simp only [hasL] at h
    rw [subL, sub_id kind σ t fun n hn => h n (.inl hn), subL_id kind σ r fun n hn => h n (.inr hn)]
end
theorem tbl1 (f n : Int) (t : Tp) : tbl [f] [t] n = if n = f then some t else none := by simp [tbl]
theorem tbl2 (f g n : Int) (t u : Tp) : tbl [f, g] [t, u] n = if n = f then some t else if n = g then some u else none := by simp [tbl]
mutual
/-- At once, or one after the other. -/
theorem sub_two (kind f g : Int) (u v : Tp) (hfg : f ≠ g) (hg : ¬ hasN kind g u) : ∀ t : Tp, sub kind (tbl [f, g] [u, v]) t = sub kind (tbl [g] [v]) (sub kind (tbl [f] [u]) t)
  | .mk k n ks => by
    have hu : sub kind (tbl [g] [v]) u = u := sub_id kind _ u fun m hm => by
      rw [tbl1, if_neg]; rintro rfl; exact hg hm
    by_cases hk : k = kind
    · by_cases hf : n = f
      · have e1 : sub kind (tbl [f, g] [u, v]) (.mk k n ks) = u := by rw [sub, if_pos hk, tbl2, if_pos hf]
        have e2 : sub kind (tbl [f] [u]) (.mk k n ks) = u := by rw [sub, if_pos hk, tbl1, if_pos hf]
        rw [e1, e2, hu]
      · have e2 : sub kind (tbl [f] [u]) (.mk k n ks) = .mk k n (subL kind (tbl [f] [u]) ks) := by rw [sub, if_pos hk, tbl1, if_neg hf]
        rw [e2]
        by_cases hg' : n = g
        · rw [sub, if_pos hk, tbl2, if_neg hf, if_pos hg', sub, if_pos hk, tbl1, if_pos hg']
        · rw [sub, if_pos hk, tbl2, if_neg hf, if_neg hg', sub, if_pos hk, tbl1, if_neg hg']
          simp only
          rw [subL_two kind f g u v hfg hg ks]
    · have e2 : sub kind (tbl [f] [u]) (.mk k n ks) = .mk k n (subL kind (tbl [f] [u]) ks) := by rw [sub, if_neg hk]
      rw [e2, sub, if_neg hk, sub, if_neg hk]
      simp only
      rw [subL_two kind f g u v hfg hg ks]
theorem subL_two (kind f g : Int) (u v : Tp) (hfg : f ≠ g) (hg : ¬ hasN kind g u) : ∀ ts : List Tp, subL kind (tbl [f, g] [u, v]) ts = subL kind (tbl [g] [v]) (subL kind (tbl [f] [u]) ts)
  | [] => rfl
  | t :: r => by simp only [subL]; rw [sub_two kind f g u v hfg hg t, subL_two kind f g u v hfg hg r]
end
theorem rightKids {k n : Int} {ks : List Tp} (h : right (.mk k n ks) = true) : rights ks = true := by
  simp only [right] at h
  have nil : ((ks.length : Int) == 0) = true → rights ks = true := by
    intro h
    have := eq_of_beq h
    have : ks = [] := List.eq_nil_of_length_eq_zero (by omega)
    rw [this]; rfl
  split at h
  · simp only [Bool.and_eq_true] at h; exact nil h.2
  · split at h
    · simp only [Bool.and_eq_true] at h; exact h.2.2
    · split at h
      · simp only [Bool.and_eq_true] at h; exact nil h.2
      · cases h
theorem right6 {n : Int} {ks : List Tp} (h : right (.mk 6 n ks) = true) : ks = [] := by
  simp [right] at h
  exact h.2
mutual
/-- By itself. -/
theorem sub_self (kind f : Int) : ∀ t : Tp, (kind = 6 → right t = true) → kind = 6 → sub kind (tbl [f] [.mk 6 f []]) t = t
  | .mk k n ks, hr, h6 => by
    subst h6
    have hr := hr rfl
    by_cases hk : k = 6
    · subst hk
      have hks : ks = [] := right6 hr
      subst hks
      by_cases hf : n = f
      · rw [sub, if_pos rfl, tbl1, if_pos hf, hf]
      · rw [sub, if_pos rfl, tbl1, if_neg hf]; rfl
    · rw [sub, if_neg hk]
      simp only
      rw [subL_self 6 f ks (fun _ => rightKids hr) rfl]
theorem subL_self (kind f : Int) : ∀ ts : List Tp, (kind = 6 → rights ts = true) → kind = 6 → subL kind (tbl [f] [.mk 6 f []]) ts = ts
  | [], _, _ => rfl
  | t :: r, hr, h6 => by
    have h := hr h6
    simp only [rights, Bool.and_eq_true] at h
    rw [subL, sub_self kind f t (fun _ => h.1) h6, subL_self kind f r (fun _ => h.2) h6]
end
mutual
theorem hasN_sub (f : Int) (u : Tp) (x : Int) : ∀ t : Tp, right t = true → (hasN 6 x (sub 6 (tbl [f] [u]) t) ↔ (hasN 6 x t ∧ x ≠ f) ∨ (hasN 6 f t ∧ hasN 6 x u))
  | .mk k n ks, hr => by
    by_cases hk : k = 6
    · subst hk
      obtain rfl := right6 hr
      by_cases hf : n = f
      · subst hf
        rw [sub, if_pos rfl, tbl1, if_pos rfl]
        simp only [hasN, hasL]
        constructor
        · exact fun h => .inr ⟨by simp, h⟩
        · rintro (⟨⟨_, rfl⟩ | h, h'⟩ | ⟨_, h⟩)
          · exact absurd rfl h'
          · exact h.elim
          · exact h
      · rw [sub, if_pos rfl, tbl1, if_neg hf]
        simp only [hasN, hasL, subL]
        constructor
        · rintro (⟨_, rfl⟩ | h)
          · exact .inl ⟨.inl ⟨trivial, rfl⟩, hf⟩
          · exact h.elim
        · rintro (⟨⟨_, rfl⟩ | h, _⟩ | ⟨⟨_, h⟩ | h, _⟩)
          · exact .inl ⟨trivial, rfl⟩
          · exact h.elim
          · exact absurd h hf
          · exact h.elim
    · rw [sub, if_neg hk]
      simp only [hasN, hk, false_and, false_or]
      exact hasL_sub f u x ks (rightKids hr)
theorem hasL_sub (f : Int) (u : Tp) (x : Int) : ∀ ts : List Tp, rights ts = true → (hasL 6 x (subL 6 (tbl [f] [u]) ts) ↔ (hasL 6 x ts ∧ x ≠ f) ∨ (hasL 6 f ts ∧ hasN 6 x u))
  | [], _ => by simp [hasL, subL]
  | t :: r, hr => by
    simp only [rights, Bool.and_eq_true] at hr
    simp only [subL, hasL]
    rw [hasN_sub f u x t hr.1, hasL_sub f u x r hr.2]
    constructor
    · rintro ((⟨h1, h2⟩ | ⟨h1, h2⟩) | ⟨h1, h2⟩ | ⟨h1, h2⟩)
      · exact .inl ⟨.inl h1, h2⟩
      · exact .inr ⟨.inl h1, h2⟩
      · exact .inl ⟨.inr h1, h2⟩
      · exact .inr ⟨.inr h1, h2⟩
    · rintro (⟨h1 | h1, h2⟩ | ⟨h1 | h1, h2⟩)
      · exact .inl (.inl ⟨h1, h2⟩)
      · exact .inr (.inl ⟨h1, h2⟩)
      · exact .inl (.inr ⟨h1, h2⟩)
      · exact .inr (.inr ⟨h1, h2⟩)
end
theorem cmpT_zero {t u : Tp} : (cmpT t u == 0) = decide (cmpT t u = 0) := by
  rw [Bool.eq_iff_iff]; simp
end Go.Vx
