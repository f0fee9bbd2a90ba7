/- The plain law of SchemeGeneral (with Tr, joined). -/
import Derived.Test.YtonhlccjfbfkcaaQa
set_option linter.unusedVariables false
set_option linter.unusedSimpArgs false
/- The plain law of SchemeKept: what occurs in a type that has been generalised. -/
namespace Go.Proofs.Ytonhlccjfbfkcaa.Vm
open Go.Vc Go.RowKit

mutual
/-- A node of a kind and a number. -/
def occ (k x : Int) : Tp → Prop
  | .mk k' n ks => (k' = k ∧ n = x) ∨ occL k x ks
def occL (k x : Int) : List Tp → Prop
  | [] => False
  | t :: r => occ k x t ∨ occL k x r
end
mutual
theorem mem_fnd (k x : Int) : ∀ (t : Tp) (acc : List Int), x ∈ fnd k t acc ↔ x ∈ acc ∨ occ k x t
  | .mk k' n ks, acc => by
    simp only [fnd, occ]
    rw [mem_fndL k x ks]
    split
    · rename_i h
      simp only [List.mem_append, List.mem_singleton]
      constructor
      · rintro ((h1 | rfl) | h1)
        · exact .inl h1
        · exact .inr (.inl ⟨h.1, rfl⟩)
        · exact .inr (.inr h1)
      · rintro (h1 | ⟨_, h1⟩ | h1)
        · exact .inl (.inl h1)
        · exact .inl (.inr h1.symm)
        · exact .inr h1
    · rename_i h
      constructor
      · rintro (h1 | h1)
        · exact .inl h1
        · exact .inr (.inr h1)
      · rintro (h1 | ⟨h1, rfl⟩ | h1)
        · exact .inl h1
        · rcases Decidable.em (n ∈ acc) with h' | h'
          · exact .inl h'
          · exact absurd ⟨h1, h'⟩ h
        · exact .inr h1
theorem mem_fndL (k x : Int) : ∀ (ts : List Tp) (acc : List Int), x ∈ fndL k ts acc ↔ x ∈ acc ∨ occL k x ts
  | [], acc => by simp [fndL, occL]
  | t :: r, acc => by
    simp only [fndL, occL]
    rw [mem_fndL k x r, mem_fnd k x t, or_assoc]
end
mutual
theorem nodup_fnd (k : Int) : ∀ (t : Tp) (acc : List Int), acc.Nodup → (fnd k t acc).Nodup
  | .mk k' n ks, acc, h => by
    simp only [fnd]
    refine nodup_fndL k ks _ ?_
    split
    · rename_i h'
      rw [List.nodup_append]
      refine ⟨h, by simp, fun a ha b hb => ?_⟩
      simp at hb
      subst hb
      rintro rfl
      exact h'.2 ha
    · exact h
theorem nodup_fndL (k : Int) : ∀ (ts : List Tp) (acc : List Int), acc.Nodup → (fndL k ts acc).Nodup
  | [], acc, h => by simpa [fndL] using h
  | t :: r, acc, h => by
    simp only [fndL]
    exact nodup_fndL k r _ (nodup_fnd k t acc h)
end
mutual
/-- Metas and generic variables have no kids. -/
def leafy : Tp → Prop
  | .mk k _ ks => ((k = 7 ∨ k = 8) → ks = []) ∧ leafyL ks
def leafyL : List Tp → Prop
  | [] => True
  | t :: r => leafy t ∧ leafyL r
end
mutual
theorem right_leafy : ∀ t : Tp, rightT t = true → leafy t
  | .mk k n ks, h => by
    unfold rightT at h
    simp only [leafy]
    split at h
    · simp at h
      obtain ⟨_, rfl⟩ := h
      exact ⟨fun _ => rfl, trivial⟩
    · split at h
      · rename_i h2
        simp only [Bool.and_eq_true] at h
        exact ⟨fun h' => by omega, right_leafyL ks h.2⟩
      · split at h
        · simp at h
          obtain ⟨_, rfl⟩ := h
          exact ⟨fun _ => rfl, trivial⟩
        · cases h
theorem right_leafyL : ∀ ts : List Tp, rightL ts = true → leafyL ts
  | [], _ => trivial
  | t :: r, h => by
    simp only [rightL, Bool.and_eq_true] at h
    exact ⟨right_leafy t h.1, right_leafyL r h.2⟩
end
section
variable {kind : Int} {σ : Int → Option Tp}
mutual
theorem leafy_sub (hσ : ∀ n u, σ n = some u → leafy u) : ∀ t : Tp, leafy t → leafy (sub kind σ t)
  | .mk k n ks, h => by
    simp only [leafy] at h
    rw [sub]
    split
    · rename_i u hu
      split at hu
      · exact hσ n u hu
      · cases hu
    · simp only [leafy]
      refine ⟨fun hk => ?_, leafy_subL hσ ks h.2⟩
      rw [h.1 hk, subL]
theorem leafy_subL (hσ : ∀ n u, σ n = some u → leafy u) : ∀ ts : List Tp, leafyL ts → leafyL (subL kind σ ts)
  | [], _ => by simp only [subL, leafyL]
  | t :: r, h => by
    simp only [subL, leafyL]
    exact ⟨leafy_sub hσ t h.1, leafy_subL hσ r h.2⟩
end
mutual
theorem occ_sub (hk : kind = 7 ∨ kind = 8) (k x : Int) : ∀ t : Tp, leafy t → (occ k x (sub kind σ t) ↔ (∃ n u, occ kind n t ∧ σ n = some u ∧ occ k x u) ∨ (occ k x t ∧ ¬ (k = kind ∧ σ x ≠ none)))
  | .mk k' n ks, h => by
    simp only [leafy] at h
    rw [sub]
    split
    · rename_i u hu
      split at hu
      · rename_i hk'
        have hks := h.1 (by omega)
        subst hks
        subst hk'
        simp only [occ, occL, or_false]
        constructor
        · exact fun h' => .inl ⟨n, u, by simp, hu, h'⟩
        · rintro (⟨n', u', ⟨_, rfl⟩, h2, h3⟩ | ⟨⟨rfl, rfl⟩, h2⟩)
          · rw [hu] at h2; injection h2 with h2; subst h2; exact h3
          · exact absurd ⟨rfl, by rw [hu]; simp⟩ h2
      · cases hu
    · rename_i hn
      have hn' : k' = kind → σ n = none := by
        intro e
        rw [if_pos e] at hn
        exact hn
      simp only [occ]
      rw [occ_subL hk k x ks h.2]
      constructor
      · rintro (⟨rfl, rfl⟩ | ⟨n', u, h1, h2, h3⟩ | ⟨h1, h2⟩)
        · exact .inr ⟨.inl ⟨rfl, rfl⟩, fun h' => h'.2 (hn' h'.1)⟩
        · exact .inl ⟨n', u, .inr h1, h2, h3⟩
        · exact .inr ⟨.inr h1, h2⟩
      · rintro (⟨n', u, ⟨e1, rfl⟩ | h1, h2, h3⟩ | ⟨h1 | h1, h2⟩)
        · rw [hn' e1] at h2; cases h2
        · exact .inr (.inl ⟨n', u, h1, h2, h3⟩)
        · exact .inl h1
        · exact .inr (.inr ⟨h1, h2⟩)
theorem occ_subL (hk : kind = 7 ∨ kind = 8) (k x : Int) : ∀ ts : List Tp, leafyL ts → (occL k x (subL kind σ ts) ↔ (∃ n u, occL kind n ts ∧ σ n = some u ∧ occ k x u) ∨ (occL k x ts ∧ ¬ (k = kind ∧ σ x ≠ none)))
  | [], _ => by simp [subL, occL]
  | t :: r, h => by
    simp only [subL, occL]
    rw [occ_sub hk k x t h.1, occ_subL hk k x r h.2]
    constructor
    · rintro ((⟨n, u, h1, h2⟩ | ⟨h1, h2⟩) | (⟨n, u, h1, h2⟩ | ⟨h1, h2⟩))
      · exact .inl ⟨n, u, .inl h1, h2⟩
      · exact .inr ⟨.inl h1, h2⟩
      · exact .inl ⟨n, u, .inr h1, h2⟩
      · exact .inr ⟨.inr h1, h2⟩
    · rintro (⟨n, u, h1 | h1, h2⟩ | ⟨h1 | h1, h2⟩)
      · exact .inl (.inl ⟨n, u, h1, h2⟩)
      · exact .inr (.inl ⟨n, u, h1, h2⟩)
      · exact .inl (.inr ⟨h1, h2⟩)
      · exact .inr (.inr ⟨h1, h2⟩)
end
end

/-- Leaves of a kind, numbered from c on. -/
def lvs (k c : Int) (n : Nat) : List Tp := (List.range n).map fun i : Nat => .mk k (c + (i : Int)) []
theorem genL_lvs (c : Int) (n : Nat) : genL c n = lvs 8 c n := rfl
theorem metaL_lvs (c : Int) (n : Nat) : metaL c n = lvs 7 c n := rfl
theorem idxFrom_get : ∀ (l : List Int) (x i : Int), 0 ≤ i → 0 ≤ idxFrom l x i → ∃ q : Nat, idxFrom l x i = i + q ∧ l[q]? = some x
  | [], x, i, _, h => by simp [idxFrom] at h
  | y :: r, x, i, h0, h => by
    simp only [idxFrom] at h ⊢
    by_cases e : x = y
    · rw [if_pos e]; exact ⟨0, by simp, by simp [e]⟩
    · rw [if_neg e] at h ⊢
      obtain ⟨q, h1, h2⟩ := idxFrom_get r x (i + 1) (by omega) h
      exact ⟨q + 1, by rw [h1]; push_cast; omega, by simpa using h2⟩
theorem tbl_lvs {fs : List Int} {k c x : Int} {u : Tp} (h : tbl fs (lvs k c fs.length) x = some u) : ∃ q : Nat, q < fs.length ∧ fs[q]? = some x ∧ u = .mk k (c + (q : Int)) [] := by
  obtain ⟨h1, h2⟩ := tbl_idx fs (lvs k c fs.length) x 0 (by simp [lvs]) (by omega)
  rcases Int.lt_or_le (idxFrom fs x 0) 0 with hn | hn
  · rw [h1 hn] at h; cases h
  · obtain ⟨q, q1, q2, q3⟩ := h2 hn
    obtain ⟨q', e1, e2⟩ := idxFrom_get fs x 0 (by omega) hn
    obtain rfl : q = q' := by omega
    refine ⟨q, q2, e2, ?_⟩
    rw [q3] at h
    simp [lvs, q2] at h
    exact h.symm
theorem tbl_none {fs : List Int} {k c x : Int} : tbl fs (lvs k c fs.length) x = none ↔ x ∉ fs := by
  obtain ⟨h1, h2⟩ := tbl_idx fs (lvs k c fs.length) x 0 (by simp [lvs]) (by omega)
  have h3 := idxFrom_nonneg fs x 0 (by omega)
  rcases Int.lt_or_le (idxFrom fs x 0) 0 with hn | hn
  · rw [h1 hn]; simp; intro h; have := h3.2 h; omega
  · obtain ⟨q, q1, q2, q3⟩ := h2 hn
    rw [q3]
    simp [lvs, q2, h3.1 hn]
theorem nodup_idx {l : List Int} (h : l.Nodup) {i j : Nat} {x : Int} (hi : l[i]? = some x) (hj : l[j]? = some x) : i = j := by
  obtain ⟨h1, e1⟩ := List.getElem?_eq_some_iff.1 hi
  obtain ⟨h2, e2⟩ := List.getElem?_eq_some_iff.1 hj
  have hp := List.pairwise_iff_getElem.1 h
  rcases Nat.lt_trichotomy i j with hl | hl | hl
  · exact absurd (e1.trans e2.symm) (hp i j h1 h2 hl)
  · exact hl
  · exact absurd (e2.trans e1.symm) (hp j i h2 h1 hl)
theorem tbl_at {fs : List Int} (h : fs.Nodup) {k c : Int} {q : Nat} {x : Int} (hq : fs[q]? = some x) : tbl fs (lvs k c fs.length) x = some (.mk k (c + (q : Int)) []) := by
  rcases e : tbl fs (lvs k c fs.length) x with _ | u
  · exact absurd (List.mem_of_getElem? hq) (tbl_none.1 e)
  · obtain ⟨q', h1, h2, rfl⟩ := tbl_lvs e
    rw [nodup_idx h hq h2]
theorem nodup_len : ∀ {l m : List Int}, l.Nodup → (∀ x ∈ l, x ∈ m) → l.length ≤ m.length
  | [], _, _, _ => Nat.zero_le _
  | a :: r, m, h, hs => by
    rw [List.nodup_cons] at h
    have ha := hs a (List.mem_cons_self ..)
    have := nodup_len (l := r) (m := m.erase a) h.2 fun x hx => by
      refine (List.mem_erase_of_ne ?_).2 (hs x (List.mem_cons_of_mem _ hx))
      rintro rfl
      exact h.1 hx
    rw [List.length_erase_of_mem ha] at this
    have := List.length_pos_of_mem ha
    simp only [List.length_cons]; omega
theorem len_of_range {l : List Int} {n : Nat} (h : l.Nodup) (hm : ∀ x, x ∈ l ↔ 0 ≤ x ∧ x < (n : Int)) : l.length = n := by
  have hr : ((List.range n).map (Int.ofNat)).Nodup := by
    rw [List.nodup_iff_pairwise_ne, List.pairwise_map]
    refine List.Pairwise.imp ?_ (List.nodup_range (n := n))
    intro a b h e
    injection e with e
    exact h e
  have hmr : ∀ x, x ∈ (List.range n).map Int.ofNat ↔ 0 ≤ x ∧ x < (n : Int) := by
    intro x
    simp only [List.mem_map, List.mem_range]
    constructor
    · rintro ⟨a, h1, rfl⟩; exact ⟨Int.natCast_nonneg a, Int.ofNat_lt.2 h1⟩
    · rintro ⟨h1, h2⟩; exact ⟨x.toNat, by omega, by simp; omega⟩
  have h1 := nodup_len h fun x hx => (hmr x).2 ((hm x).1 hx)
  have h2 := nodup_len hr fun x hx => (hm x).2 ((hmr x).1 hx)
  simp at h1 h2
  omega

/-- What occurs in a type that has been generalised. -/
theorem genAll_occ {t : Tp} {keep : List Int} (ht : leafy t) : (∀ x, occ 7 x (genAll t keep).t ↔ occ 7 x t ∧ x ∈ keep) ∧ (∀ y, occ 8 y (genAll t keep).t ↔ 0 ≤ y ∧ y < (genAll t keep).g) ∧ leafy (genAll t keep).t := by
  unfold genAll
  simp only [genL_lvs]
  have hms : ∀ x, x ∈ openMs t keep ↔ occ 7 x t ∧ x ∉ keep := by
    intro x
    unfold openMs
    simp [mem_fnd]
  have hgs : ∀ x, x ∈ fnd 8 t [] ↔ occ 8 x t := by intro x; simp [mem_fnd]
  have hmn : (openMs t keep).Nodup := (nodup_fnd 7 t [] List.nodup_nil).filter _
  have hgn : (fnd 8 t []).Nodup := nodup_fnd 8 t [] List.nodup_nil
  generalize openMs t keep = ms at *
  generalize fnd 8 t [] = gs at *
  have lf : ∀ (fs : List Int) (c : Int) n u, tbl fs (lvs 8 c fs.length) n = some u → leafy u := by
    intro fs c n u h
    obtain ⟨q, _, _, rfl⟩ := tbl_lvs h
    exact ⟨fun _ => rfl, trivial⟩
  have hl1 : leafy (sub 8 (tbl gs (lvs 8 ms.length gs.length)) t) := leafy_sub (lf gs _) t ht
  have o7 : ∀ x, occ 7 x (sub 8 (tbl gs (lvs 8 ms.length gs.length)) t) ↔ occ 7 x t := by
    intro x
    rw [occ_sub (.inr rfl) 7 x t ht]
    constructor
    · rintro (⟨n, u, _, h2, h3⟩ | ⟨h1, _⟩)
      · obtain ⟨q, _, _, rfl⟩ := tbl_lvs h2
        simp [occ, occL] at h3
      · exact h1
    · exact fun h => .inr ⟨h, fun h' => by omega⟩
  have o8 : ∀ y, occ 8 y (sub 8 (tbl gs (lvs 8 ms.length gs.length)) t) ↔ (ms.length : Int) ≤ y ∧ y < (ms.length : Int) + gs.length := by
    intro y
    rw [occ_sub (.inr rfl) 8 y t ht]
    constructor
    · rintro (⟨n, u, _, h2, h3⟩ | ⟨h1, h2⟩)
      · obtain ⟨q, hq, _, rfl⟩ := tbl_lvs h2
        simp [occ, occL] at h3
        omega
      · exact absurd ⟨rfl, fun h => (tbl_none.1 h) ((hgs y).2 h1)⟩ h2
    · rintro ⟨h1, h2⟩
      obtain ⟨q, hq⟩ : ∃ q : Nat, y = ms.length + q := ⟨(y - ms.length).toNat, by omega⟩
      have hql : q < gs.length := by omega
      refine .inl ⟨gs[q], .mk 8 (ms.length + q) [], (hgs _).1 (List.getElem_mem _), tbl_at hgn (by simp [hql]), ?_⟩
      simp [occ, occL, hq]
  refine ⟨fun x => ?_, fun y => ?_, leafy_sub (lf ms _) _ hl1⟩
  · rw [occ_sub (.inl rfl) 7 x _ hl1, o7]
    constructor
    · rintro (⟨n, u, _, h2, h3⟩ | ⟨h1, h2⟩)
      · obtain ⟨q, _, _, rfl⟩ := tbl_lvs h2
        simp [occ, occL] at h3
      · refine ⟨h1, ?_⟩
        rcases Decidable.em (x ∈ keep) with h | h
        · exact h
        · exact absurd ⟨rfl, fun h' => (tbl_none.1 h') ((hms x).2 ⟨h1, h⟩)⟩ h2
    · rintro ⟨h1, h2⟩
      refine .inr ⟨h1, fun h' => h'.2 (tbl_none.2 fun h => ((hms x).1 h).2 h2)⟩
  · rw [occ_sub (.inl rfl) 8 y _ hl1, o8]
    constructor
    · rintro (⟨n, u, _, h2, h3⟩ | ⟨h1, h2⟩)
      · obtain ⟨q, hq, _, rfl⟩ := tbl_lvs h2
        simp [occ, occL] at h3
        omega
      · omega
    · rintro ⟨h1, h2⟩
      rcases Int.lt_or_le y ms.length with h | h
      · obtain ⟨q, hq⟩ : ∃ q : Nat, y = q := ⟨y.toNat, by omega⟩
        have hql : q < ms.length := by omega
        refine .inl ⟨ms[q], .mk 8 (0 + q) [], (o7 _).2 ((hms _).1 (List.getElem_mem _)).1, tbl_at hmn (by simp [hql]), ?_⟩
        simp [occ, occL, hq]
      · exact .inr ⟨⟨h, h2⟩, fun h' => by omega⟩
end Go.Proofs.Ytonhlccjfbfkcaa.Vm

namespace Go.Proofs.Ytonhlccjfbfkcaa.Vm
open Go.Vc Go.RowKit

theorem rightT_mk {k n : Int} {ks ks' : List Tp} (h : rightT (.mk k n ks) = true) (hl : ks'.length = ks.length) (hr : rightL ks = true → rightL ks' = true) : rightT (.mk k n ks') = true := by
  simp only [rightT] at h ⊢
  rw [hl]
  split at h
  · rename_i h1; rw [if_pos h1]; exact h
  · rename_i h1
    rw [if_neg h1]
    split at h
    · rename_i h2; rw [if_pos h2]
      simp only [Bool.and_eq_true] at h ⊢
      exact ⟨h.1, hr h.2⟩
    · rename_i h2; rw [if_neg h2]; exact h
mutual
theorem right_sub {kind : Int} {σ : Int → Option Tp} (hσ : ∀ n u, σ n = some u → rightT u = true) : ∀ t : Tp, rightT t = true → rightT (sub kind σ t) = true
  | .mk k n ks, h => by
    rw [sub]
    split
    · rename_i u hu
      split at hu
      · exact hσ n u hu
      · cases hu
    · exact rightT_mk h (by rw [subL_map, List.length_map]) (right_subL hσ ks)
theorem right_subL {kind : Int} {σ : Int → Option Tp} (hσ : ∀ n u, σ n = some u → rightT u = true) : ∀ ts : List Tp, rightL ts = true → rightL (subL kind σ ts) = true
  | [], _ => by simp only [subL, rightL]
  | t :: r, h => by
    simp only [rightL, Bool.and_eq_true] at h
    simp only [subL, rightL, Bool.and_eq_true]
    exact ⟨right_sub hσ t h.1, right_subL hσ r h.2⟩
end
theorem right_leaf {k n : Int} (hk : k = 6 ∨ k = 7 ∨ k = 8) (hn : 0 ≤ n) : rightT (.mk k n []) = true := by
  simp only [rightT]
  rw [if_neg (by omega), if_neg (by omega), if_pos hk]
  simp [hn]
mutual
theorem sub_none (kind : Int) {σ : Int → Option Tp} (hσ : ∀ n, σ n = none) : ∀ t : Tp, sub kind σ t = t
  | .mk k n ks => by
    rw [sub]
    split
    · rename_i u hu
      split at hu
      · rw [hσ] at hu; cases hu
      · cases hu
    · rw [subL_none kind hσ ks]
theorem subL_none (kind : Int) {σ : Int → Option Tp} (hσ : ∀ n, σ n = none) : ∀ ts : List Tp, subL kind σ ts = ts
  | [] => by simp only [subL]
  | t :: r => by simp only [subL]; rw [sub_none kind hσ t, subL_none kind hσ r]
end
mutual
theorem sz_sub {kind : Int} {σ : Int → Option Tp} (hσ : ∀ n u, σ n = some u → szT u = 1) : ∀ t : Tp, szT (sub kind σ t) ≤ szT t
  | .mk k n ks => by
    rw [sub]
    split
    · rename_i u hu
      split at hu
      · rw [hσ n u hu]; simp only [szT]; omega
      · cases hu
    · simp only [szT]; have := sz_subL (kind := kind) hσ ks; omega
theorem sz_subL {kind : Int} {σ : Int → Option Tp} (hσ : ∀ n u, σ n = some u → szT u = 1) : ∀ ts : List Tp, szL (subL kind σ ts) ≤ szL ts
  | [] => by simp only [subL]; exact Nat.le_refl _
  | t :: r => by simp only [subL, szL]; have := sz_sub (kind := kind) hσ t; have := sz_subL (kind := kind) hσ r; omega
end
section
variable {σ : Int → Option Tp} {ρ : Int → Int} {p : Int → Bool}
mutual
/-- What stands in a type whose metas are made generic: in the same order. -/
theorem fnd_open (h1 : ∀ x, p x = true → σ x = some (.mk 8 (ρ x) [])) (h0 : ∀ x, p x = false → σ x = none) (hi : ∀ x y, p x = true → p y = true → ρ x = ρ y → x = y) :
    ∀ (t : Tp) (acc : List Int), leafy t → (∀ x, ¬ occ 8 x t) → fnd 8 (sub 7 σ t) ((acc.filter p).map ρ) = ((fnd 7 t acc).filter p).map ρ
  | .mk k n ks, acc, hl, ho => by
    have hks : leafyL ks := by simp only [leafy] at hl; exact hl.2
    have hok : ∀ x, ¬ occL 8 x ks := fun x hx => ho x (by simp only [occ]; exact .inr hx)
    have hk8 : k ≠ 8 := fun h => ho n (by simp only [occ]; exact .inl ⟨h, trivial⟩)
    rw [sub]
    by_cases h7 : k = 7
    · have hnil : ks = [] := by simp only [leafy] at hl; exact hl.1 (by omega)
      subst hnil
      simp only [if_pos h7]
      rcases hp : p n with _ | _
      · rw [h0 n hp]
        simp only [subL, fnd, fndL, h7]
        rw [if_neg (by omega)]
        split
        · rw [List.filter_append]; simp [hp]
        · rfl
      · rw [h1 n hp]
        simp only [fnd, fndL]
        have hm : ρ n ∈ (acc.filter p).map ρ ↔ n ∈ acc := by
          rw [List.mem_map]
          constructor
          · rintro ⟨x, hx, e⟩
            rw [List.mem_filter] at hx
            rw [← hi x n hx.2 hp e]; exact hx.1
          · exact fun h => ⟨n, List.mem_filter.2 ⟨h, hp⟩, rfl⟩
        by_cases hn : n ∈ acc
        · rw [if_neg (fun h => h.2 (hm.2 hn)), if_neg (fun h => h.2 hn)]
        · rw [if_pos ⟨trivial, fun h => hn (hm.1 h)⟩, if_pos ⟨h7, hn⟩, List.filter_append]; simp [hp]
    · simp only [if_neg h7, fnd]
      rw [if_neg (fun h => hk8 h.1), if_neg (fun h => h7 h.1)]
      exact fndL_open h1 h0 hi ks acc hks hok
theorem fndL_open (h1 : ∀ x, p x = true → σ x = some (.mk 8 (ρ x) [])) (h0 : ∀ x, p x = false → σ x = none) (hi : ∀ x y, p x = true → p y = true → ρ x = ρ y → x = y) :
    ∀ (ts : List Tp) (acc : List Int), leafyL ts → (∀ x, ¬ occL 8 x ts) → fndL 8 (subL 7 σ ts) ((acc.filter p).map ρ) = ((fndL 7 ts acc).filter p).map ρ
  | [], acc, _, _ => by simp only [subL, fndL]
  | t :: r, acc, hl, ho => by
    simp only [leafyL] at hl
    simp only [occL, not_or] at ho
    simp only [subL, fndL]
    rw [fnd_open h1 h0 hi t acc hl.1 fun x => (ho x).1, fndL_open h1 h0 hi r _ hl.2 fun x => (ho x).2]
end
end
theorem isUp_of : ∀ {l : List Int} {i : Int}, (∀ (j : Nat) x, l[j]? = some x → x = i + (j : Int)) → isUp l i = true
  | [], _, _ => rfl
  | y :: r, i, h => by
    have h0 := h 0 y rfl
    simp only [isUp, Bool.and_eq_true, decide_eq_true_eq]
    refine ⟨by simpa using h0, isUp_of fun j x hx => ?_⟩
    have := h (j + 1) x (by simpa using hx)
    push_cast at this; omega
theorem tbl_nil (l : List Tp) (n : Int) : tbl [] l n = none := by simp only [tbl]
theorem no_gens {t : Tp} (h : fnd 8 t [] = []) (x : Int) : ¬ occ 8 x t := fun hx => by
  have := (mem_fnd 8 x t []).2 (.inr hx)
  rw [h] at this; cases this
/-- P1201, first part: what is made of a right type without generic variables is right. -/
theorem general_right {t : Tp} {keep : List Int} (ht : rightT t = true) (h8 : fnd 8 t [] = []) : rightS (genAll t keep) = true := by
  have hl := right_leafy t ht
  have hnd : (openMs t keep).Nodup := (nodup_fnd 7 t [] List.nodup_nil).filter _
  have e0 : (genAll t keep).t = sub 7 (tbl (openMs t keep) (genL 0 (openMs t keep).length)) t := by
    unfold genAll
    simp only [h8]
    rw [sub_none 8 (fun n => tbl_nil _ n)]
  have eg : (genAll t keep).g = (openMs t keep).length := by unfold genAll; simp [h8]
  have ems : (fnd 7 t []).filter (fun x => decide (x ∈ openMs t keep)) = openMs t keep := by
    conv => rhs; unfold openMs
    refine List.filter_congr fun x hx => ?_
    rw [Bool.eq_iff_iff, decide_eq_true_eq]
    unfold openMs
    rw [List.mem_filter]
    exact ⟨fun h => h.2, fun h => ⟨hx, h⟩⟩
  generalize hms : openMs t keep = ms at *
  have idx : ∀ x, x ∈ ms → ∃ q : Nat, idxFrom ms x 0 = (q : Int) ∧ ms[q]? = some x := by
    intro x hx
    obtain ⟨q, h1, h2⟩ := idxFrom_get ms x 0 (by omega) ((idxFrom_nonneg ms x 0 (by omega)).2 hx)
    exact ⟨q, by omega, h2⟩
  have hf := fnd_open (σ := tbl ms (genL 0 ms.length)) (ρ := fun x => idxFrom ms x 0) (p := fun x => decide (x ∈ ms)) (fun x hx => by
      obtain ⟨q, h1, h2⟩ := idx x (by simpa using hx)
      rw [genL_lvs, tbl_at hnd h2]
      simp only [h1, Int.zero_add]) (fun x hx => by rw [genL_lvs]; exact tbl_none.2 (by simpa using hx)) (fun x y hx hy e => by
      obtain ⟨q, h1, h2⟩ := idx x (by simpa using hx)
      obtain ⟨q', h3, h4⟩ := idx y (by simpa using hy)
      have : q = q' := by simp only [h1, h3] at e; omega
      subst this
      rw [h2] at h4; injection h4) t [] hl (no_gens h8)
  rw [List.filter_nil, List.map_nil, ems] at hf
  simp only [rightS, e0, eg, hf, Bool.and_eq_true, decide_eq_true_eq, List.length_map, and_true]
  refine ⟨right_sub (fun n u hu => ?_) t ht, isUp_of fun j x hx => ?_⟩
  · rw [genL_lvs] at hu
    obtain ⟨q, _, _, rfl⟩ := tbl_lvs hu
    exact right_leaf (.inr (.inr rfl)) (by omega)
  · rw [List.getElem?_map, Option.map_eq_some_iff] at hx
    obtain ⟨y, hy, rfl⟩ := hx
    obtain ⟨q, h1, h2⟩ := idx y (List.mem_of_getElem? hy)
    rw [nodup_idx hnd hy h2, h1]; omega
theorem general_sz (t : Tp) (keep : List Int) : szT (genAll t keep).t ≤ szT t := by
  have lv : ∀ {fs : List Int} {k c n : Int} {u : Tp}, tbl fs (lvs k c fs.length) n = some u → szT u = 1 := by
    intro fs k c n u h
    obtain ⟨q, _, _, rfl⟩ := tbl_lvs h
    simp [szT, szL]
  unfold genAll
  refine Nat.le_trans (sz_sub (fun n u h => ?_) _) (sz_sub (fun n u h => ?_) _)
  · rw [genL_lvs] at h; exact lv h
  · rw [genL_lvs] at h; exact lv h
theorem tbl_up : ∀ {fs : List Int} {l : List Tp} {i n : Int}, isUp fs i = true → fs.length = l.length → tbl fs l n = if i ≤ n then l[(n - i).toNat]? else none
  | [], [], i, n, _, _ => by simp [tbl]
  | f :: fs, u :: l, i, n, h, hl => by
    simp only [isUp, Bool.and_eq_true, decide_eq_true_eq] at h
    obtain ⟨rfl, h2⟩ := h
    simp only [tbl]
    by_cases e : n = f
    · subst e; simp
    · rw [if_neg e, tbl_up h2 (by simpa using hl)]
      by_cases hle : f ≤ n
      · rw [if_pos (by omega), if_pos hle, show (n - f).toNat = (n - (f + 1)).toNat + 1 from by omega]; simp
      · rw [if_neg (by omega), if_neg hle]
/-- Types put in for a right scheme's generic variables. -/
theorem inst_gsub {s : Sc} {l : List Tp} (hs : rightS s = true) (hl : (l.length : Int) = s.g) : sub 8 (tbl (fnd 8 s.t []) l) s.t = gsub l s.t := by
  simp only [rightS, Bool.and_eq_true, decide_eq_true_eq] at hs
  unfold gsub
  congr 1
  funext n
  rw [tbl_up hs.2.1 (by omega)]
  simp
/-- P1201, second part: it is at least as general as each of its instances. -/
theorem general_least {s : Sc} {l : List Tp} (hs : rightS s = true) (hl : (l.length : Int) = s.g) (hr : ∀ t ∈ l, rightT t = true) (h8 : fnd 8 (gsub l s.t) [] = []) : Least s ⟨0, gsub l s.t⟩ := by
  have hs' := hs
  simp only [rightS, Bool.and_eq_true] at hs'
  refine ⟨l, hs, ?_, hl, rfl⟩
  simp only [rightS, h8, Bool.and_eq_true, decide_eq_true_eq, isUp, List.length_nil]
  refine ⟨?_, trivial, rfl⟩
  unfold gsub
  refine right_sub (fun n u hu => ?_) s.t hs'.1
  split at hu
  · exact hr u (List.mem_of_getElem? hu)
  · cases hu
end Go.Proofs.Ytonhlccjfbfkcaa.Vm
