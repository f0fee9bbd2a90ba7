/- Free numbers: the texts Bu to Bz, Cd, Ce, joined. -/
import Derived.Test.YtohmeplcjgmedaaDoorCb
set_option linter.unusedVariables false
set_option linter.unusedSimpArgs false
/- What stands free, and what putting does to it. -/
namespace Go.Proofs.YtohmeplcjgmedaaDoor

theorem lastI_neg (s : List Int) (n : Int) : lastI s n < 0 ↔ n ∉ s := by
  unfold lastI
  constructor
  · intro h hn
    obtain ⟨i, hi, rfl⟩ := List.getElem_of_mem hn
    have hmem : (((i : Nat) : Int), s[i]) ∈ prI s := by
      unfold prI
      rw [List.mem_map]
      refine ⟨s.length - 1 - i, by rw [List.mem_range]; omega, ?_⟩
      have h1 : s.length - 1 - (s.length - 1 - i) = i := by omega
      rw [h1]
      simp [ixI, List.getD, hi]
    have h2 : ((prI s).find? fun p => p.2 == s[i]).isSome = true := by
      rw [List.find?_isSome]
      exact ⟨_, hmem, by simp⟩
    obtain ⟨p, hp⟩ := Option.isSome_iff_exists.1 h2
    rw [hp] at h
    have := List.mem_of_find?_eq_some hp
    unfold prI at this
    rw [List.mem_map] at this
    obtain ⟨j, _, rfl⟩ := this
    simp at h
    omega
  · intro hn
    have h2 : (prI s).find? (fun p => p.2 == n) = none := by
      rw [List.find?_eq_none]
      intro p hp
      unfold prI at hp
      rw [List.mem_map] at hp
      obtain ⟨j, hj, rfl⟩ := hp
      rw [List.mem_range] at hj
      have h3 : s.length - 1 - j < s.length := by omega
      simp only [ixI, List.getD, List.getElem?_eq_getElem h3, Option.getD_some, beq_iff_eq]
      intro e
      exact hn (e ▸ List.getElem_mem h3)
    rw [h2]
    decide
theorem lastI_end (s : List Int) (n : Int) : lastI (s ++ [n]) n = s.length := by
  unfold lastI prI
  have h1 : (s ++ [n]).length = s.length + 1 := by simp
  rw [h1, List.range_succ_eq_map, List.map_cons, List.find?_cons]
  have h2 : ixI (s ++ [n]) (s.length + 1 - 1 - 0) = n := by simp [ixI, List.getD]
  rw [h2]
  simp
theorem lastI_snoc (s : List Int) {n z : Int} (h : z ≠ n) : lastI (s ++ [n]) z = lastI s z := by
  unfold lastI prI
  have h1 : (s ++ [n]).length = s.length + 1 := by simp
  rw [h1, List.range_succ_eq_map, List.map_cons, List.find?_cons]
  have h2 : ixI (s ++ [n]) (s.length + 1 - 1 - 0) = n := by simp [ixI, List.getD]
  rw [h2]
  have h3 : (n == z) = false := by simpa using Ne.symm h
  simp only [h3]
  rw [List.map_map]
  have h4 : (List.range s.length).map ((fun j => (((s.length + 1 - 1 - j : Nat) : Int), ixI (s ++ [n]) (s.length + 1 - 1 - j))) ∘ Nat.succ) = (List.range s.length).map fun j => (((s.length - 1 - j : Nat) : Int), ixI s (s.length - 1 - j)) := by
    refine List.map_congr_left fun j hj => ?_
    rw [List.mem_range] at hj
    have e : s.length + 1 - 1 - Nat.succ j = s.length - 1 - j := by omega
    simp only [Function.comp, e]
    congr 1
    simp only [ixI, List.getD]
    rw [List.getElem?_append_left (by omega)]
  rw [h4]
/-! ### Sets of numbers -/
theorem mem_compactTo (d : Array Int) (x : Int) : ∀ m, x ∈ Go.Lib.compactUpTo d m ↔ ∃ j, j < m ∧ d[j]! = x
  | 0 => by simp [Go.Lib.compactUpTo]
  | m + 1 => by
    rw [Go.Lib.compactUpTo_succ, List.mem_append, mem_compactTo d x m]
    constructor
    · rintro (⟨j, hj, h⟩ | h)
      · exact ⟨j, by omega, h⟩
      · split at h
        · simp at h; exact ⟨m, by omega, h.symm⟩
        · cases h
    · rintro ⟨j, hj, h⟩
      by_cases hjm : j < m
      · exact .inl ⟨j, hjm, h⟩
      · obtain rfl : j = m := by omega
        by_cases hk : Go.Lib.keeps d j = true
        · right; rw [if_pos hk]; simp [h]
        · left
          have hj0 : 0 < j := by
            rcases Nat.eq_zero_or_pos j with h0 | h0
            · subst h0; exact absurd (Go.Lib.keeps_lt_one d 0 (by omega)) hk
            · exact h0
          have he : d[j]! = d[j - 1]! := by
            by_cases he : d[j]! = d[j - 1]!
            · exact he
            · exact absurd (Go.Lib.keeps_pos he) hk
          exact ⟨j - 1, by omega, by rw [← he]; exact h⟩
theorem mem_compact (l : List Int) (x : Int) : x ∈ Go.Lib.compact l ↔ x ∈ l := by
  unfold Go.Lib.compact
  rw [mem_compactTo]
  constructor
  · rintro ⟨j, hj, rfl⟩
    simp only [List.getElem!_toArray]
    rw [getElem!_pos l j hj]
    exact List.getElem_mem hj
  · intro h
    obtain ⟨i, hi, rfl⟩ := List.getElem_of_mem h
    refine ⟨i, hi, ?_⟩
    simp only [List.getElem!_toArray]
    rw [getElem!_pos l i hi]
theorem mem_freeS (t : TG) (x : Int) : x ∈ freeS t ↔ x ∈ frG t [] := by
  unfold freeS srtI
  rw [mem_compact, List.mem_mergeSort]
theorem mem_ownS (l : List TG) (x : Int) : x ∈ ownS l ↔ ∃ u ∈ l, x ∈ frG u [] := by
  unfold ownS
  rw [List.mem_flatMap]
  simp only [mem_freeS]
/-! ### What stands free -/
theorem mem_frGs (l : List TG) (s : List Int) (n : Int) : n ∈ frGs l s ↔ ∃ u ∈ l, n ∈ frG u s := by
  induction l with
  | nil => simp [frGs]
  | cons t r ih => rw [frGs, List.mem_append, ih]; simp
theorem mem_snocB (k p n : Int) (s : List Int) : n ∉ (if bndG k = true then s ++ [p] else s) ↔ n ∉ s ∧ (bndG k = true → n ≠ p) := by
  split <;> simp_all
theorem mem_frG : ∀ (t : TG) (s : List Int) (n : Int), n ∈ frG t s ↔ n ∈ frG t [] ∧ n ∉ s := by
  refine TG.ind fun k p ls l ih s n => ?_
  have key : ∀ s, n ∈ frG (.mk k p ls l) s ↔ n ∉ s ∧ ((k = 6 ∧ n = p) ∨ ((bndG k = true → n ≠ p) ∧ ∃ u ∈ l, n ∈ frG u [])) := by
    intro s
    rw [frG_mk, List.mem_append, mem_frGs]
    have h1 : (∃ u ∈ l, n ∈ frG u (if bndG k = true then s ++ [p] else s)) ↔ n ∉ s ∧ (bndG k = true → n ≠ p) ∧ ∃ u ∈ l, n ∈ frG u [] := by
      constructor
      · rintro ⟨u, hu, h⟩
        have h := (ih u hu _ n).1 h
        have h2 := (mem_snocB k p n s).1 h.2
        exact ⟨h2.1, h2.2, u, hu, h.1⟩
      · rintro ⟨h2, h3, u, hu, h⟩
        exact ⟨u, hu, (ih u hu _ n).2 ⟨h, (mem_snocB k p n s).2 ⟨h2, h3⟩⟩⟩
    rw [h1]
    have hl := lastI_neg s p
    by_cases h6 : k = 6 ∧ lastI s p < 0
    · rw [if_pos h6]
      have h6 : k = 6 ∧ p ∉ s := ⟨h6.1, hl.1 h6.2⟩
      simp only [List.mem_singleton]
      constructor
      · rintro (rfl | ⟨h2, h3, h4⟩)
        · exact ⟨h6.2, .inl ⟨h6.1, rfl⟩⟩
        · exact ⟨h2, .inr ⟨h3, h4⟩⟩
      · rintro ⟨h2, ⟨_, h3⟩ | ⟨h3, h4⟩⟩
        · exact .inl h3
        · exact .inr ⟨h2, h3, h4⟩
    · rw [if_neg h6]
      constructor
      · rintro (h | ⟨h2, h3, h4⟩)
        · cases h
        · exact ⟨h2, .inr ⟨h3, h4⟩⟩
      · rintro ⟨h2, ⟨h3, rfl⟩ | ⟨h3, h4⟩⟩
        · exact absurd ⟨h3, hl.2 h2⟩ h6
        · exact .inr ⟨h2, h3, h4⟩
  rw [key s, key []]
  simp only [List.not_mem_nil, not_false_eq_true, true_and]
  exact And.comm
theorem fv_mk (k p : Int) (ls : List ByteArray) (l : List TG) (n : Int) : n ∈ frG (.mk k p ls l) [] ↔ (k = 6 ∧ n = p) ∨ ((bndG k = true → n ≠ p) ∧ ∃ u ∈ l, n ∈ frG u []) := by
  rw [frG_mk, List.mem_append, mem_frGs]
  have h1 : (∃ u ∈ l, n ∈ frG u (if bndG k = true then [] ++ [p] else [])) ↔ (bndG k = true → n ≠ p) ∧ ∃ u ∈ l, n ∈ frG u [] := by
    constructor
    · rintro ⟨u, hu, h⟩
      have h := (mem_frG u _ n).1 h
      have h2 := (mem_snocB k p n []).1 h.2
      exact ⟨h2.2, u, hu, h.1⟩
    · rintro ⟨h3, u, hu, h⟩
      exact ⟨u, hu, (mem_frG u _ n).2 ⟨h, (mem_snocB k p n []).2 ⟨by simp, h3⟩⟩⟩
  rw [h1]
  have hl : lastI [] p < 0 := (lastI_neg [] p).2 (by simp)
  simp [hl]
/-! ### Types whose numbers have no parts -/
mutual
def okV : TG → Bool
  | .mk k _ ls l => (decide (k ≠ 6) || (l.isEmpty && ls.isEmpty)) && okVs l
def okVs : List TG → Bool
  | [] => true
  | t :: r => okV t && okVs r
end
theorem okVs_iff (l : List TG) : okVs l = true ↔ ∀ u ∈ l, okV u = true := by
  induction l with
  | nil => simp [okVs]
  | cons t r ih => simp [okVs, ih]
theorem okV_mk (k n : Int) (ls : List ByteArray) (l : List TG) : okV (.mk k n ls l) = true ↔ (k = 6 → l = [] ∧ ls = []) ∧ ∀ u ∈ l, okV u = true := by
  rw [okV, Bool.and_eq_true, okVs_iff, Bool.or_eq_true, decide_eq_true_eq, Bool.and_eq_true, List.isEmpty_iff, List.isEmpty_iff]
  by_cases h : k = 6 <;> simp [h]
theorem okV_var (m : Int) : okV (varG m) = true := rfl
theorem okV_put : ∀ (f : Nat) (t : TG) (x : Int) (y : TG) (fr : List Int), okV y = true → okV t = true → okV (putF f t x y fr) = true
  | 0, t, _, _, _, _, h => h
  | f + 1, .mk k n ls l, x, y, fr, hy, h => by
    rw [putF_mk]
    obtain ⟨h1, h2⟩ := (okV_mk k n ls l).1 h
    split
    · exact hy
    · split
      · exact h
      · split
        · refine (okV_mk _ _ _ _).2 ⟨fun h6 => by rw [(h1 h6).1]; exact ⟨rfl, (h1 h6).2⟩, fun u hu => ?_⟩
          rw [List.mem_map] at hu
          obtain ⟨v, hv, rfl⟩ := hu
          rw [List.mem_map] at hv
          obtain ⟨w, hw, rfl⟩ := hv
          exact okV_put f _ x y fr hy (okV_put f w _ _ _ (okV_var _) (h2 w hw))
        · refine (okV_mk _ _ _ _).2 ⟨fun h6 => by rw [(h1 h6).1]; exact ⟨rfl, (h1 h6).2⟩, fun u hu => ?_⟩
          rw [List.mem_map] at hu
          obtain ⟨v, hv, rfl⟩ := hu
          exact okV_put f v x y fr hy (h2 v hv)
theorem fv_var (m z : Int) : z ∈ frG (varG m) [] ↔ z = m := by
  unfold varG
  rw [fv_mk]
  simp
end Go.Proofs.YtohmeplcjgmedaaDoor

/- Putting: what stands free behind it; the same type, where the number does not stand free. -/
namespace Go.Proofs.YtohmeplcjgmedaaDoor

theorem fresh_facts (fr : List Int) (l : List TG) (x n : Int) : freshN fr l x n ∉ fr ∧ (∀ u ∈ l, freshN fr l x n ∉ frG u []) ∧ freshN fr l x n ≠ x ∧ freshN fr l x n ≠ n := by
  have h := mex_not [fr, ownS l, [x, n]].flatten
  have h : freshN fr l x n ∉ [fr, ownS l, [x, n]].flatten := h
  simp only [List.flatten_cons, List.flatten_nil, List.append_nil, List.mem_append, List.mem_cons, List.not_mem_nil, or_false, not_or] at h
  obtain ⟨h1, h2, h3, h4⟩ := h
  exact ⟨h1, fun u hu hf => h2 ((mem_ownS l _).2 ⟨u, hu, hf⟩), h3, h4⟩
theorem fv_put : ∀ (f : Nat) (t : TG) (x : Int) (y : TG) (fr : List Int), szG t ≤ f → okV t = true → (∀ z, z ∈ fr ↔ z ∈ frG y []) → ∀ z, z ∈ frG (putF f t x y fr) [] ↔ (z ∈ frG t [] ∧ z ≠ x) ∨ (x ∈ frG t [] ∧ z ∈ frG y [])
  | 0, t, _, _, _, h, _, _, _ => by have := szG_pos t; omega
  | f + 1, .mk k n ls l, x, y, fr, h, hv, hfr, z => by
    have hl : ∀ u ∈ l, szG u ≤ f := fun u hu => by have := szG_mem hu; simp only [szG] at h; omega
    obtain ⟨h1, h2⟩ := (okV_mk k n ls l).1 hv
    have ih : ∀ u ∈ l, ∀ z, z ∈ frG (putF f u x y fr) [] ↔ (z ∈ frG u [] ∧ z ≠ x) ∨ (x ∈ frG u [] ∧ z ∈ frG y []) := fun u hu => fv_put f u x y fr (hl u hu) (h2 u hu) hfr
    rw [putF_mk]
    by_cases c1 : k = 6 ∧ n = x
    · rw [if_pos c1]
      obtain ⟨rfl, rfl⟩ := c1
      rw [(h1 rfl).1]
      simp only [fv_mk]
      simp
    rw [if_neg c1]
    by_cases c2 : bndG k = true ∧ n = x
    · rw [if_pos c2]
      obtain ⟨hb, rfl⟩ := c2
      simp only [fv_mk]
      have h6 : k ≠ 6 := by rintro rfl; exact absurd hb (by decide)
      simp [h6, hb]
      intro hz _ _ _; exact hz
    rw [if_neg c2]
    by_cases c3 : bndG k = true ∧ n ∈ fr ∧ 0 < l.length
    · rw [if_pos c3]
      obtain ⟨hb, hn, _⟩ := c3
      have h6 : k ≠ 6 := by rintro rfl; exact absurd hb (by decide)
      have hnx : n ≠ x := fun e => c2 ⟨hb, e⟩
      obtain ⟨m1, m2, m3, m4⟩ := fresh_facts fr l x n
      generalize freshN fr l x n = m at m1 m2 m3 m4 ⊢
      have m1 : m ∉ frG y [] := fun h => m1 ((hfr m).2 h)
      have ihn : ∀ u ∈ l, ∀ z, z ∈ frG (putF f u n (varG m) [m]) [] ↔ (z ∈ frG u [] ∧ z ≠ n) ∨ (n ∈ frG u [] ∧ z = m) := fun u hu z => by
        rw [fv_put f u n (varG m) [m] (hl u hu) (h2 u hu) (fun z => by rw [fv_var]; simp) z, fv_var]
      have ih2 : ∀ u ∈ l, ∀ z, z ∈ frG (putF f (putF f u n (varG m) [m]) x y fr) [] ↔ (((z ∈ frG u [] ∧ z ≠ n) ∨ (n ∈ frG u [] ∧ z = m)) ∧ z ≠ x) ∨ (((x ∈ frG u [] ∧ x ≠ n) ∨ (n ∈ frG u [] ∧ x = m)) ∧ z ∈ frG y []) := fun u hu z => by
        rw [fv_put f _ x y fr (Nat.le_trans (sz_put f u n (varG m) [m] (by simp [varG, szG, szGs])) (hl u hu)) (okV_put f u n _ _ (okV_var m) (h2 u hu)) hfr z, ihn u hu, ihn u hu]
      simp only [fv_mk, List.mem_map, List.map_map]
      constructor
      · rintro (⟨h, _⟩ | ⟨hz, u', ⟨u, hu, rfl⟩, h⟩)
        · exact absurd h h6
        · have hz := hz hb
          rcases (ih2 u hu z).1 h with ⟨⟨a, b⟩ | ⟨_, b⟩, c⟩ | ⟨⟨a, b⟩ | ⟨_, b⟩, c⟩
          · exact .inl ⟨.inr ⟨fun _ => b, u, hu, a⟩, c⟩
          · exact absurd b hz
          · exact .inr ⟨.inr ⟨fun _ => b, u, hu, a⟩, c⟩
          · exact absurd b.symm m3
      · rintro (⟨⟨h, _⟩ | ⟨hz, u, hu, a⟩, c⟩ | ⟨⟨h, _⟩ | ⟨hz, u, hu, a⟩, c⟩)
        · exact absurd h h6
        · exact .inr ⟨fun _ e => m2 u hu (e ▸ a), _, ⟨u, hu, rfl⟩, (ih2 u hu z).2 (.inl ⟨.inl ⟨a, hz hb⟩, c⟩)⟩
        · exact absurd h h6
        · exact .inr ⟨fun _ e => m1 (e ▸ c), _, ⟨u, hu, rfl⟩, (ih2 u hu z).2 (.inr ⟨.inl ⟨a, hz hb⟩, c⟩)⟩
    rw [if_neg c3]
    simp only [fv_mk, List.mem_map]
    have hnb : bndG k = true → l ≠ [] → n ∉ frG y [] := fun hb hl0 h => c3 ⟨hb, (hfr n).2 h, List.length_pos_iff.2 hl0⟩
    constructor
    · rintro (⟨hk, rfl⟩ | ⟨hz, u', ⟨u, hu, rfl⟩, h⟩)
      · exact .inl ⟨.inl ⟨hk, rfl⟩, fun e => c1 ⟨hk, e⟩⟩
      · rcases (ih u hu z).1 h with ⟨a, b⟩ | ⟨a, b⟩
        · exact .inl ⟨.inr ⟨hz, u, hu, a⟩, b⟩
        · exact .inr ⟨.inr ⟨fun hb e => c2 ⟨hb, e.symm⟩, u, hu, a⟩, b⟩
    · rintro (⟨⟨hk, rfl⟩ | ⟨hz, u, hu, a⟩, c⟩ | ⟨⟨hk, e⟩ | ⟨hx, u, hu, a⟩, c⟩)
      · exact .inl ⟨hk, rfl⟩
      · exact .inr ⟨hz, _, ⟨u, hu, rfl⟩, (ih u hu z).2 (.inl ⟨a, c⟩)⟩
      · exact absurd ⟨hk, e.symm⟩ c1
      · exact .inr ⟨fun hb e => hnb hb (fun e0 => by rw [e0] at hu; cases hu) (e ▸ c), _, ⟨u, hu, rfl⟩, (ih u hu z).2 (.inr ⟨a, c⟩)⟩
/-! ### The same type -/
theorem samGs_map {g h : TG → TG} {s t : List Int} : ∀ (l : List TG), (∀ u ∈ l, samG (g u) (h u) s t = true) → samGs (l.map g) (l.map h) s t = true
  | [], _ => rfl
  | u :: r, hh => by
    rw [List.map_cons, List.map_cons, samGs, hh u (by simp), samGs_map r fun v hv => hh v (by simp [hv])]; rfl
theorem samGs_trans {l m r : List TG} {c d e : List Int} : ∀ (_ : ∀ u ∈ l, ∀ v w, samG u v c d = true → samG v w d e = true → samG u w c e = true), l.length = m.length → m.length = r.length → samGs l m c d = true → samGs m r d e = true → samGs l r c e = true := by
  induction l generalizing m r with
  | nil => intro _ _ _ _ _; exact samGs_nil _ _ _
  | cons u l ih =>
    intro h h1 h2 h3 h4
    match m, r, h1, h2 with
    | v :: m, w :: r, h1, h2 =>
      rw [samGs, Bool.and_eq_true] at h3 h4 ⊢
      exact ⟨h u (by simp) v w h3.1 h4.1, ih (fun u hu => h u (by simp [hu])) (by simpa using h1) (by simpa using h2) h3.2 h4.2⟩
theorem sam_iff (k n : Int) (ls : List ByteArray) (ks : List TG) (k' n' : Int) (ls' : List ByteArray) (ks' : List TG) (s t : List Int) : samG (.mk k n ls ks) (.mk k' n' ls' ks') s t = true ↔
    k = k' ∧ ks.length = ks'.length ∧ ls = ls' ∧ (k = 6 → lastI s n = lastI t n' ∧ (lastI s n < 0 → n = n') ∧ samGs ks ks' s t = true) ∧ (bndG k = true → samGs ks ks' (s ++ [n]) (t ++ [n']) = true) ∧ (k ≠ 6 → bndG k = false → n = n' ∧ samGs ks ks' s t = true) := by
  rw [samG_mk]
  simp only [Bool.and_eq_true, decide_eq_true_eq]
  by_cases h6 : k = 6
  · subst h6
    have hb : bndG 6 = false := rfl
    by_cases hn : lastI s n < 0 <;> simp [hb, hn, and_assoc]
  · by_cases hb : bndG k = true <;> simp [h6, hb, and_assoc]
theorem sam_trans : ∀ (a b g : TG) (c d e : List Int), samG a b c d = true → samG b g d e = true → samG a g c e = true := by
  refine TG.ind fun k n ls ks ih b g c d e h1 h2 => ?_
  obtain ⟨k', n', ls', ks'⟩ := b
  obtain ⟨k2, n2, ls2, ks2⟩ := g
  obtain ⟨rfl, a2, rfl, a4, a5, a6⟩ := (sam_iff ..).1 h1
  obtain ⟨rfl, b2, rfl, b4, b5, b6⟩ := (sam_iff ..).1 h2
  have tr : ∀ c d e, samGs ks ks' c d = true → samGs ks' ks2 d e = true → samGs ks ks2 c e = true := fun c d e => samGs_trans (fun u hu v w => ih u hu v w c d e) a2 b2
  refine (sam_iff ..).2 ⟨rfl, a2.trans b2, rfl, fun h6 => ?_, fun hb => tr _ _ _ (a5 hb) (b5 hb), fun h6 hb => ⟨(a6 h6 hb).1.trans (b6 h6 hb).1, tr _ _ _ (a6 h6 hb).2 (b6 h6 hb).2⟩⟩
  obtain ⟨p1, p2, p3⟩ := a4 h6
  obtain ⟨q1, q2, q3⟩ := b4 h6
  exact ⟨p1.trans q1, fun hn => (p2 hn).trans (q2 (p1 ▸ hn)), tr _ _ _ p3 q3⟩
/-- The same type, in two contexts that tell its free numbers alike. -/
theorem sam_ctx : ∀ (t : TG) (c d : List Int), c.length = d.length → (∀ z ∈ frG t [], lastI c z = lastI d z) → samG t t c d = true := by
  refine TG.ind fun k n ls l ih c d hcd h => ?_
  have hz : ∀ z, (bndG k = true → z ≠ n) → (∃ u ∈ l, z ∈ frG u []) → lastI c z = lastI d z := fun z h1 h2 => h z ((fv_mk ..).2 (.inr ⟨h1, h2⟩))
  have key : ∀ c' d' : List Int, c'.length = d'.length → (∀ u ∈ l, ∀ z ∈ frG u [], lastI c' z = lastI d' z) → samGs l l c' d' = true := fun c' d' e hh => by
    have := samGs_map (g := id) (h := id) (s := c') (t := d') l fun u hu => ih u hu c' d' e (hh u hu)
    simpa using this
  refine (sam_iff ..).2 ⟨rfl, rfl, rfl, fun h6 => ⟨h n ((fv_mk ..).2 (.inl ⟨h6, rfl⟩)), fun _ => rfl, ?_⟩, fun hb => ?_, fun h6 hb => ⟨rfl, ?_⟩⟩
  · exact key c d hcd fun u hu z hzu => hz z (fun hb => absurd h6 (by rintro rfl; exact absurd hb (by decide))) ⟨u, hu, hzu⟩
  · refine key _ _ (by simp [hcd]) fun u hu z hzu => ?_
    by_cases e : z = n
    · subst e; rw [lastI_end, lastI_end, hcd]
    · rw [lastI_snoc c e, lastI_snoc d e]; exact hz z (fun _ => e) ⟨u, hu, hzu⟩
  · exact key c d hcd fun u hu z hzu => hz z (fun hb' => by rw [hb'] at hb; cases hb) ⟨u, hu, hzu⟩
end Go.Proofs.YtohmeplcjgmedaaDoor

/- Renaming, and putting for a number that does not stand free: the same type. -/
namespace Go.Proofs.YtohmeplcjgmedaaDoor

theorem samGs_self {g : TG → TG} {s t : List Int} (l : List TG) (h : ∀ u ∈ l, samG (g u) u s t = true) : samGs (l.map g) l s t = true := by
  have := samGs_map (g := g) (h := id) l h
  simpa using this
theorem bnd_ne6 {k : Int} (h : bndG k = true) : k ≠ 6 := by rintro rfl; exact absurd h (by decide)
theorem sam_ren : ∀ (f : Nat) (t : TG) (n m : Int) (c d : List Int), szG t ≤ f → okV t = true → m ∉ frG t [] → m ≠ n → c.length = d.length → (∀ z ∈ frG t [], z ≠ n → lastI c z = lastI d z) → (n ∈ frG t [] → lastI c m = lastI d n ∧ 0 ≤ lastI d n) → samG (putF f t n (varG m) [m]) t c d = true
  | 0, t, _, _, _, _, h, _, _, _, _, _, _ => by have := szG_pos t; omega
  | f + 1, .mk k p ls l, n, m, c, d, h, hv, hm, hmn, hcd, hz, hn => by
    have hl : ∀ u ∈ l, szG u ≤ f := fun u hu => by have := szG_mem hu; simp only [szG] at h; omega
    obtain ⟨h1, h2⟩ := (okV_mk k p ls l).1 hv
    have fvt : ∀ z, (bndG k = true → z ≠ p) → (∃ u ∈ l, z ∈ frG u []) → z ∈ frG (.mk k p ls l) [] := fun z a b => (fv_mk ..).2 (.inr ⟨a, b⟩)
    rw [putF_mk]
    by_cases c1 : k = 6 ∧ p = n
    · rw [if_pos c1]
      obtain ⟨rfl, rfl⟩ := c1
      obtain ⟨rfl, rfl⟩ := h1 rfl
      obtain ⟨q1, q2⟩ := hn ((fv_mk ..).2 (.inl ⟨rfl, rfl⟩))
      unfold varG
      exact (sam_iff ..).2 ⟨rfl, rfl, rfl, fun _ => ⟨q1, fun h => by omega, rfl⟩, fun hb => absurd rfl (bnd_ne6 hb), fun h => absurd rfl h⟩
    rw [if_neg c1]
    by_cases c2 : bndG k = true ∧ p = n
    · rw [if_pos c2]
      obtain ⟨hb, rfl⟩ := c2
      refine sam_ctx _ c d hcd fun z hzt => hz z hzt ?_
      rcases (fv_mk ..).1 hzt with ⟨h6, _⟩ | ⟨h3, _⟩
      · exact absurd h6 (bnd_ne6 hb)
      · exact h3 hb
    rw [if_neg c2]
    by_cases c3 : bndG k = true ∧ p ∈ [m] ∧ 0 < l.length
    · rw [if_pos c3]
      obtain ⟨hb, hpm, _⟩ := c3
      obtain rfl : p = m := by simpa using hpm
      obtain ⟨m1, m2, m3, m4⟩ := fresh_facts [p] l n p
      generalize freshN [p] l n p = q at m1 m2 m3 m4 ⊢
      refine (sam_iff ..).2 ⟨rfl, by simp, rfl, fun h6 => absurd h6 (bnd_ne6 hb), fun _ => ?_, fun _ hb' => by rw [hb] at hb'; cases hb'⟩
      rw [List.map_map]
      refine samGs_self l fun u hu => ?_
      have fu : ∀ z, z ∈ frG (putF f u p (varG q) [q]) [] ↔ (z ∈ frG u [] ∧ z ≠ p) ∨ (p ∈ frG u [] ∧ z = q) := fun z => by
        rw [fv_put f u p (varG q) [q] (hl u hu) (h2 u hu) (fun z => by rw [fv_var]; simp) z, fv_var]
      refine sam_trans _ (putF f u p (varG q) [q]) u (c ++ [q]) (d ++ [q]) (d ++ [p]) ?_ ?_
      · refine sam_ren f _ n p (c ++ [q]) (d ++ [q]) (Nat.le_trans (sz_put f u p (varG q) [q] (by simp [varG, szG, szGs])) (hl u hu)) (okV_put f u p _ _ (okV_var q) (h2 u hu)) ?_ hmn (by simp [hcd]) ?_ ?_
        · intro hp
          rcases (fu p).1 hp with ⟨_, e⟩ | ⟨_, e⟩
          · exact e rfl
          · exact m4 e.symm
        · intro z hzu hzn
          by_cases e : z = q
          · subst e; rw [lastI_end, lastI_end, hcd]
          · rw [lastI_snoc c e, lastI_snoc d e]
            rcases (fu z).1 hzu with ⟨a, b⟩ | ⟨_, e'⟩
            · exact hz z (fvt z (fun _ => b) ⟨u, hu, a⟩) hzn
            · exact absurd e' e
        · intro hnu
          rcases (fu n).1 hnu with ⟨a, b⟩ | ⟨_, e'⟩
          · rw [lastI_snoc c (Ne.symm m4), lastI_snoc d (Ne.symm m3)]
            exact hn (fvt n (fun _ => b) ⟨u, hu, a⟩)
          · exact absurd e'.symm m3
      · refine sam_ren f u p q (d ++ [q]) (d ++ [p]) (hl u hu) (h2 u hu) (m2 u hu) m4 (by simp) ?_ ?_
        · intro z hzu hzp
          have e : z ≠ q := fun e => m2 u hu (e ▸ hzu)
          rw [lastI_snoc d e, lastI_snoc d hzp]
        · intro _
          rw [lastI_end, lastI_end]
          exact ⟨rfl, by omega⟩
    rw [if_neg c3]
    refine (sam_iff ..).2 ⟨rfl, by simp, rfl, fun h6 => ?_, fun hb => ?_, fun h6 hb => ⟨rfl, ?_⟩⟩
    · have hpn : p ≠ n := fun e => c1 ⟨h6, e⟩
      refine ⟨hz p ((fv_mk ..).2 (.inl ⟨h6, rfl⟩)) hpn, fun _ => rfl, ?_⟩
      rw [(h1 h6).1]; rfl
    · refine samGs_self l fun u hu => ?_
      have hl0 : 0 < l.length := List.length_pos_of_mem hu
      have hpm : p ≠ m := fun e => c3 ⟨hb, by simp [e], hl0⟩
      have hpn : p ≠ n := fun e => c2 ⟨hb, e⟩
      refine sam_ren f u n m (c ++ [p]) (d ++ [p]) (hl u hu) (h2 u hu) (fun hmu => hm (fvt m (fun _ => Ne.symm hpm) ⟨u, hu, hmu⟩)) hmn (by simp [hcd]) ?_ ?_
      · intro z hzu hzn
        by_cases e : z = p
        · subst e; rw [lastI_end, lastI_end, hcd]
        · rw [lastI_snoc c e, lastI_snoc d e]
          exact hz z (fvt z (fun _ => e) ⟨u, hu, hzu⟩) hzn
      · intro hnu
        rw [lastI_snoc c (Ne.symm hpm), lastI_snoc d (Ne.symm hpn)]
        exact hn (fvt n (fun _ => Ne.symm hpn) ⟨u, hu, hnu⟩)
    · refine samGs_self l fun u hu => ?_
      have nb : bndG k = true → False := fun h => by rw [h] at hb; cases hb
      exact sam_ren f u n m c d (hl u hu) (h2 u hu) (fun hmu => hm (fvt m (fun h => (nb h).elim) ⟨u, hu, hmu⟩)) hmn hcd (fun z hzu hzn => hz z (fvt z (fun h => (nb h).elim) ⟨u, hu, hzu⟩) hzn) (fun hnu => hn (fvt n (fun h => (nb h).elim) ⟨u, hu, hnu⟩))
theorem sam_put : ∀ (f : Nat) (t : TG) (x : Int) (y : TG) (fr c : List Int), szG t ≤ f → okV t = true → x ∉ frG t [] → samG (putF f t x y fr) t c c = true
  | 0, t, _, _, _, _, h, _, _ => by have := szG_pos t; omega
  | f + 1, .mk k p ls l, x, y, fr, c, h, hv, hx => by
    have hl : ∀ u ∈ l, szG u ≤ f := fun u hu => by have := szG_mem hu; simp only [szG] at h; omega
    obtain ⟨h1, h2⟩ := (okV_mk k p ls l).1 hv
    have fvt : ∀ z, (bndG k = true → z ≠ p) → (∃ u ∈ l, z ∈ frG u []) → z ∈ frG (.mk k p ls l) [] := fun z a b => (fv_mk ..).2 (.inr ⟨a, b⟩)
    rw [putF_mk]
    by_cases c1 : k = 6 ∧ p = x
    · exact absurd ((fv_mk ..).2 (.inl ⟨c1.1, c1.2.symm⟩)) hx
    rw [if_neg c1]
    by_cases c2 : bndG k = true ∧ p = x
    · rw [if_pos c2]
      exact sam_ctx _ c c rfl fun _ _ => rfl
    rw [if_neg c2]
    by_cases c3 : bndG k = true ∧ p ∈ fr ∧ 0 < l.length
    · rw [if_pos c3]
      obtain ⟨hb, _, _⟩ := c3
      have hpx : p ≠ x := fun e => c2 ⟨hb, e⟩
      obtain ⟨m1, m2, m3, m4⟩ := fresh_facts fr l x p
      generalize freshN fr l x p = q at m1 m2 m3 m4 ⊢
      refine (sam_iff ..).2 ⟨rfl, by simp, rfl, fun h6 => absurd h6 (bnd_ne6 hb), fun _ => ?_, fun _ hb' => by rw [hb] at hb'; cases hb'⟩
      rw [List.map_map]
      refine samGs_self l fun u hu => ?_
      have fu : ∀ z, z ∈ frG (putF f u p (varG q) [q]) [] ↔ (z ∈ frG u [] ∧ z ≠ p) ∨ (p ∈ frG u [] ∧ z = q) := fun z => by
        rw [fv_put f u p (varG q) [q] (hl u hu) (h2 u hu) (fun z => by rw [fv_var]; simp) z, fv_var]
      refine sam_trans _ (putF f u p (varG q) [q]) u (c ++ [q]) (c ++ [q]) (c ++ [p]) ?_ ?_
      · refine sam_put f _ x y fr (c ++ [q]) (Nat.le_trans (sz_put f u p (varG q) [q] (by simp [varG, szG, szGs])) (hl u hu)) (okV_put f u p _ _ (okV_var q) (h2 u hu)) ?_
        intro hxu
        rcases (fu x).1 hxu with ⟨a, b⟩ | ⟨_, e'⟩
        · exact hx (fvt x (fun _ => b) ⟨u, hu, a⟩)
        · exact m3 e'.symm
      · refine sam_ren f u p q (c ++ [q]) (c ++ [p]) (hl u hu) (h2 u hu) (m2 u hu) m4 (by simp) ?_ ?_
        · intro z hzu hzp
          have e : z ≠ q := fun e => m2 u hu (e ▸ hzu)
          rw [lastI_snoc c e, lastI_snoc c hzp]
        · intro _
          rw [lastI_end, lastI_end]
          exact ⟨rfl, by omega⟩
    rw [if_neg c3]
    refine (sam_iff ..).2 ⟨rfl, by simp, rfl, fun h6 => ⟨rfl, fun _ => rfl, by rw [(h1 h6).1]; rfl⟩, fun hb => ?_, fun h6 hb => ⟨rfl, ?_⟩⟩
    · refine samGs_self l fun u hu => ?_
      have hpx : p ≠ x := fun e => c2 ⟨hb, e⟩
      exact sam_put f u x y fr (c ++ [p]) (hl u hu) (h2 u hu) (fun hxu => hx (fvt x (fun _ => Ne.symm hpx) ⟨u, hu, hxu⟩))
    · refine samGs_self l fun u hu => ?_
      have nb : bndG k = true → False := fun h => by rw [h] at hb; cases hb
      exact sam_put f u x y fr c (hl u hu) (h2 u hu) (fun hxu => hx (fvt x (fun h => (nb h).elim) ⟨u, hu, hxu⟩))
end Go.Proofs.YtohmeplcjgmedaaDoor

/- The reference's RightType. -/
namespace Go.Proofs.YtohmeplcjgmedaaDoor
open Go.Vx Go.Vc Go.RowKit

theorem orderedR_fn (l : List ByteArray) : FnR Tryd.prog G0 29 [dL l] (.bool (ordS l)) := by
  refine fnQ_sz fun hs => ?_
  have hl := (szOk_sl hs.1).1
  simp only [LB] at hl
  refine fnQ_of_vc txok mixed [(4, .pure 0 (.pure 1 (.pure 2 (.pure 3 (.take 4 (.pure 5 (.pure 6 (.pure 7 (.take 8 (.pure 9 .done))))))))))] Tryd.func29 rfl rfl (by simp) fun b => ?_
  conv => whnf
  refine loopH (fun i : Nat => (i ≤ l.length ∨ i = 0) ∧ ordS l = ordS (l.drop i)) (fun i => l.length - i) (fun i => [(3, .d (.int .i64 ((i + 1 : Nat) : Int)))]) (fun _ => []) 0 0 ⟨by omega, rfl⟩ (weak_of rfl (by repeat ((conv => whnf); first | exact trivial | refine And.intro rfl ?_ | refine And.intro (incD (by omega)) ?_)) (by repeat ((conv => whnf); first | exact trivial | refine And.intro rfl ?_ | refine And.intro (incD (by omega)) ?_))) ?_
  rintro i ⟨hi, hx⟩
  conv => whnf
  refine And.intro (fun hb => ?_) (fun hb => ?_)
  · have hb : i + 1 < l.length := by have := of_decide_eq_true hb; omega
    rw [ordS_drop hb] at hx
    conv => whnf
    refine And.intro (by kernel_rfl) ?_
    conv => whnf
    have e1 : IntKind.i64.wrap (((i + 1 : Nat) : Int) - 1) = (i : Int) := (Go.Vc.wrap_small (by omega) (by omega)).trans (by omega)
    rw [e1]
    refine IdxC.encS i (by omega) rfl ?_
    conv => whnf
    refine IdxC.encS (i + 1) hb rfl ?_
    conv => whnf
    refine And.intro (fun he => ?_) (fun he => ?_)
    · conv => whnf
      refine congrArg D.bool ?_
      rw [hx]
      simp only [Bool.not_eq_true'] at he
      rw [he]; rfl
    · conv => whnf
      simp only [Bool.not_eq_false'] at he
      rw [he, Bool.true_and] at hx
      rw [incD (by omega)]
      exact again (i + 1) (by omega) ⟨by omega, hx⟩ (weak_of rfl (by repeat ((conv => whnf); first | exact trivial | refine And.intro rfl ?_ | refine And.intro (incD (by omega)) ?_)) (by repeat ((conv => whnf); first | exact trivial | refine And.intro rfl ?_ | refine And.intro (incD (by omega)) ?_)))
  · have hb : ¬ i + 1 < l.length := by have := of_decide_eq_false hb; omega
    conv => whnf
    refine congrArg D.bool ?_
    rw [hx]
    have : (l.drop i).length ≤ 1 := by simp; omega
    match h : l.drop i, this with
    | [], _ => rfl
    | [_], _ => rfl

def kidN (k : Int) : Int := if k = 1 ∨ k = 2 ∨ k = 3 ∨ k = 6 then 0 else if k = 4 ∨ k = 5 then 2 else if k = 7 ∨ k = 8 then -1 else if k = 9 ∨ k = 10 ∨ k = 11 then 1 else -2
theorem kidsR_fn (k : Int) : FnR Tryd.prog G0 27 [.int .i64 k] (.int .i64 (kidN k)) := by
  refine fnQ_of_vc txok mixed [] Tryd.func27 rfl rfl (by simp) fun b => ?_
  repeat' ((conv => whnf); refine And.intro (fun h => ?_) (fun h => ?_))
  all_goals (conv => whnf)
  all_goals refine congrArg (D.int .i64) ?_
  all_goals simp_all [kidN]
theorem bindsR_fn (k : Int) : FnR Tryd.prog G0 28 [.int .i64 k] (.bool (bndG k)) := by
  refine fnQ_of_vc txok mixed [] Tryd.func28 rfl rfl (by simp) fun b => ?_
  (repeat' ((conv => whnf); first | refine And.intro (fun _ => ?_) (fun _ => ?_))) <;> (conv => whnf)
  all_goals simp_all [bndG, retD]
def shA (k : Int) (len : Nat) : Bool := !(kidN k == -2 || (decide (kidN k ≥ 0) && ((len : Int) != kidN k)))
def shB (k n : Int) : Bool := !((n != 0 && (k != 6)) && !bndG k)
def shC (k : Int) (ls : List ByteArray) (len : Nat) : Bool := if k == 7 then !(((ls.length : Int) != (len : Int)) || !ordS ls) else !(decide ((ls.length : Int) > 0))
def shR (k n : Int) (ls : List ByteArray) (len : Nat) : Bool := shA k len && shB k n && shC k ls len
mutual
def rightR : TG → Bool
  | .mk k n ls l => shR k n ls l.length && rightRs l
def rightRs : List TG → Bool
  | [] => true
  | t :: r => rightR t && rightRs r
end
theorem rightRs_drop {l : List TG} {i : Nat} (h : i < l.length) : rightRs (l.drop i) = (rightR l[i] && rightRs (l.drop (i + 1))) := by
  rw [List.drop_eq_getElem_cons h, rightRs]
theorem rightR_fn : ∀ t : TG, FnR Tryd.prog G0 15 [dG t] (.bool (rightR t)) := by
  refine TG.ind fun k n ls ks ih => ?_
  refine fnQ_sz fun hs => ?_
  have hl := (szOk_G (t := .mk k n ls ks) hs.1).1
  simp only [g_kids, LB] at hl
  refine fnQ_of_vc txok mixed ((100004, .done) :: (100006, .done) :: [(100011, .done)]) Tryd.func15 rfl rfl (by simp) fun b => ?_
  conv => whnf
  refine callF (kidsR_fn k) gf27 rfl rfl ?_
  simp only [g_k]
  conv => whnf
  refine CutC.mk (fun st => shA k ks.length = true ∧ st = ⟨[(1, .own 0 0)], [(0, .blk 25 [.d (.int .i64 k), .d (.int .i64 n), .d (dL ls), .d (dGs ks)])], 1⟩) ?_ ?_
  · try simp only [g_k, g_n, g_ls, g_kids]
    repeat' ((conv => whnf); first
      | refine And.intro (fun h => ?_) (fun h => ?_)
      | refine callF (kidsR_fn k) gf27 rfl rfl ?_
      | refine callF (bindsR_fn k) gf28 rfl rfl ?_
      | refine callF (orderedR_fn ls) gf29 rfl rfl ?_)
    all_goals (conv => whnf)
    all_goals first
      | exact ⟨_, ⟨by simp_all [shA], rfl⟩, weak_of rfl (by repeat ((conv => whnf); first | exact trivial | refine And.intro rfl ?_ | refine And.intro (incD (by omega)) ?_)) (by repeat ((conv => whnf); first | exact trivial | refine And.intro rfl ?_ | refine And.intro (incD (by omega)) ?_))⟩
      | (refine congrArg D.bool ?_; rw [rightR, shR]; simp_all [shA])
  rintro st' ⟨hA, rfl⟩
  conv => whnf
  refine CutC.mk (fun st => shB k n = true ∧ st = ⟨[(1, .own 0 0)], [(0, .blk 25 [.d (.int .i64 k), .d (.int .i64 n), .d (dL ls), .d (dGs ks)])], 1⟩) ?_ ?_
  · try simp only [g_k, g_n, g_ls, g_kids]
    repeat' ((conv => whnf); first
      | refine And.intro (fun h => ?_) (fun h => ?_)
      | refine callF (kidsR_fn k) gf27 rfl rfl ?_
      | refine callF (bindsR_fn k) gf28 rfl rfl ?_
      | refine callF (orderedR_fn ls) gf29 rfl rfl ?_)
    all_goals (conv => whnf)
    all_goals first
      | exact ⟨_, ⟨by simp_all [shB], rfl⟩, weak_of rfl (by repeat ((conv => whnf); first | exact trivial | refine And.intro rfl ?_ | refine And.intro (incD (by omega)) ?_)) (by repeat ((conv => whnf); first | exact trivial | refine And.intro rfl ?_ | refine And.intro (incD (by omega)) ?_))⟩
      | (refine congrArg D.bool ?_; rw [rightR, shR]; simp_all [shB])
  rintro st' ⟨hB, rfl⟩
  conv => whnf
  refine CutC.mk (fun st => shC k ls ks.length = true ∧ st = ⟨[(1, .own 0 0)], [(0, .blk 25 [.d (.int .i64 k), .d (.int .i64 n), .d (dL ls), .d (dGs ks)])], 1⟩) ?_ ?_
  · try simp only [g_k, g_n, g_ls, g_kids]
    repeat' ((conv => whnf); first
      | refine And.intro (fun h => ?_) (fun h => ?_)
      | refine callF (kidsR_fn k) gf27 rfl rfl ?_
      | refine callF (bindsR_fn k) gf28 rfl rfl ?_
      | refine callF (orderedR_fn ls) gf29 rfl rfl ?_)
    all_goals (conv => whnf)
    all_goals first
      | exact ⟨_, ⟨by simp_all [shC], rfl⟩, weak_of rfl (by repeat ((conv => whnf); first | exact trivial | refine And.intro rfl ?_ | refine And.intro (incD (by omega)) ?_)) (by repeat ((conv => whnf); first | exact trivial | refine And.intro rfl ?_ | refine And.intro (incD (by omega)) ?_))⟩
      | (refine congrArg D.bool ?_; rw [rightR, shR]; simp_all [shC])
  rintro st' ⟨hC, rfl⟩
  have hR : rightR (.mk k n ls ks) = rightRs ks := by rw [rightR, shR, hA, hB, hC]; rfl
  rw [hR]
  conv => whnf
  simp only [g_kids]
  refine loopH (fun i : Nat => i ≤ ks.length ∧ rightRs ks = rightRs (ks.drop i)) (fun i => ks.length - i) (fun i => [(4, .d (.int .i64 i))]) (fun _ => [(0, .blk 25 [.d (.int .i64 k), .d (.int .i64 n), .d (dL ls), .d (dGs ks)])]) 1 0 ⟨by omega, rfl⟩ (weak_of rfl (by repeat ((conv => whnf); first | exact trivial | refine And.intro rfl ?_ | refine And.intro (incD (by omega)) ?_)) (by repeat ((conv => whnf); first | exact trivial | refine And.intro rfl ?_ | refine And.intro (incD (by omega)) ?_))) ?_
  rintro i ⟨hi, hx⟩
  conv => whnf
  refine And.intro (fun hb => ?_) (fun hb => ?_)
  · have hil : i < ks.length := by have := of_decide_eq_true hb; omega
    rw [rightRs_drop hil] at hx
    conv => whnf
    refine IdxC.encGs i hil rfl ?_
    conv => whnf
    refine callF (ih ks[i] (by simp)) gf15 rfl rfl ?_
    conv => whnf
    refine And.intro (fun h => ?_) (fun h => ?_)
    · conv => whnf
      refine congrArg D.bool ?_
      rw [hx]; simp_all
    · conv => whnf
      rw [incD (by omega)]
      exact again (i + 1) (by omega) ⟨by omega, by rw [hx]; simp_all⟩ (weak_of rfl (by repeat ((conv => whnf); first | exact trivial | refine And.intro rfl ?_ | refine And.intro (incD (by omega)) ?_)) (by repeat ((conv => whnf); first | exact trivial | refine And.intro rfl ?_ | refine And.intro (incD (by omega)) ?_)))
  · have hi : i = ks.length := by have := of_decide_eq_false hb; omega
    subst hi
    conv => whnf
    refine congrArg D.bool ?_
    rw [hx, List.drop_length]; rfl
end Go.Proofs.YtohmeplcjgmedaaDoor

/- The reference's RightType, Put1, Ints. -/
namespace Go.Proofs.YtohmeplcjgmedaaDoor
open Go.Vx Go.Vc Go.RowKit

def deepR : Nat → TG → Bool
  | 0, _ => true
  | n + 1, t => t.kids.any (deepR n)
theorem deepR_fn : ∀ (n : Nat) (t : TG), n ≤ 100000 → FnR Tryd.prog G0 14 [dG t, .int .i64 n] (.bool (deepR n t)) := by
  intro n
  induction n with
  | zero =>
    intro t _
    refine fnQ_of_vc txok mixed [] Tryd.func14 rfl rfl (by simp) fun b => ?_
    conv => whnf
    refine And.intro (fun h => ?_) (fun h => by simp at h)
    conv => whnf
    try exact rfl
  | succ q ihn =>
    intro t hq
    obtain ⟨k, n, ls, ks⟩ := t
    refine fnQ_sz fun hs => ?_
    have hl := (szOk_G (t := .mk k n ls ks) hs.1).1
    simp only [g_kids, LB] at hl
    refine fnQ_of_vc txok mixed [] Tryd.func14 rfl rfl (by simp) fun b => ?_
    conv => whnf
    refine And.intro (fun h => by simp at h; omega) (fun h => ?_)
    have hR : deepR (q + 1) (.mk k n ls ks) = ks.any (deepR q) := rfl
    rw [hR]
    conv => whnf
    simp only [g_kids]
    refine loopH (fun i : Nat => i ≤ ks.length ∧ ks.any (deepR q) = (ks.drop i).any (deepR q)) (fun i => ks.length - i) (fun i => [(5, .d (.int .i64 i))]) (fun _ => [(0, .blk 25 [.d (.int .i64 k), .d (.int .i64 n), .d (dL ls), .d (dGs ks)])]) 1 0 ⟨by omega, rfl⟩ (weak_of rfl (by repeat ((conv => whnf); first | exact trivial | refine And.intro rfl ?_ | refine And.intro (incD (by omega)) ?_)) (by repeat ((conv => whnf); first | exact trivial | refine And.intro rfl ?_ | refine And.intro (incD (by omega)) ?_))) ?_
    rintro i ⟨hi, hx⟩
    conv => whnf
    refine And.intro (fun hb => ?_) (fun hb => ?_)
    · have hil : i < ks.length := by have := of_decide_eq_true hb; omega
      rw [List.drop_eq_getElem_cons hil, List.any_cons] at hx
      conv => whnf
      refine IdxC.encGs i hil rfl ?_
      conv => whnf
      rw [show IntKind.i64.wrap (((q + 1 : Nat) : Int) - 1) = (q : Int) from (Go.Vc.wrap_small (by omega) (by omega)).trans (by omega)]
      refine callF (ihn ks[i] (by omega)) gf14 rfl rfl ?_
      conv => whnf
      refine And.intro (fun h => ?_) (fun h => ?_)
      · conv => whnf
        refine congrArg D.bool ?_
        rw [hx, h]; rfl
      · conv => whnf
        rw [incD (by omega)]
        exact again (i + 1) (by omega) ⟨by omega, by rw [hx, h]; rfl⟩ (weak_of rfl (by repeat ((conv => whnf); first | exact trivial | refine And.intro rfl ?_ | refine And.intro (incD (by omega)) ?_)) (by repeat ((conv => whnf); first | exact trivial | refine And.intro rfl ?_ | refine And.intro (incD (by omega)) ?_)))
    · have hi : i = ks.length := by have := of_decide_eq_false hb; omega
      subst hi
      conv => whnf
      refine congrArg D.bool ?_
      rw [hx, List.drop_length]; rfl
def rtR (t : TG) : Int := if deepR 100000 t = true then 4 else if rightR t = true then 0 else 1
theorem rtR_fn (t : TG) : FnR Tryd.prog G0 6 [dG t] (.int .i64 (rtR t)) := by
  refine fnQ_of_vc txok mixed [] Tryd.func6 rfl rfl (by simp) fun b => ?_
  conv => whnf
  refine callF (deepR_fn 100000 t (by omega)) gf14 rfl rfl ?_
  conv => whnf
  refine And.intro (fun h => ?_) (fun h => ?_)
  · conv => whnf
    rw [rtR, if_pos h]
  · conv => whnf
    refine callF (rightR_fn t) gf15 rfl rfl ?_
    conv => whnf
    refine And.intro (fun h2 => ?_) (fun h2 => ?_)
    · conv => whnf
      rw [rtR, if_neg (by simp [h]), if_neg (by simpa using h2)]
    · conv => whnf
      rw [rtR, if_neg (by simp [h]), if_pos (by simpa using h2)]
/-! ### Sets of numbers -/
def insF : List Int → Int → List Int
  | [], x => [x]
  | y :: r, x => if y > x then x :: y :: r else y :: insF r x
def put1 (l : List Int) (x : Int) : List Int := if x ∈ l then l else insF l x
theorem ints_fn (a c : List Int) : FnR Tryd.prog G0 11 [dI a, dI c] (.bool (decide (a = c))) := by
  refine fnQ_sz fun hs => ?_
  have hl := (szOk_sl hs.1).1
  simp only [LB] at hl
  refine fnQ_of_vc txok mixed [(6, .pure 0 (.pure 1 (.pure 2 (.take 3 (.pure 4 (.pure 5 (.pure 6 (.take 7 (.pure 8 .done)))))))))] Tryd.func11 rfl rfl (by simp) fun b => ?_
  conv => whnf
  refine And.intro (fun h => ?_) (fun h => ?_)
  · have h : a.length ≠ c.length := by intro e; rw [e] at h; simp at h
    conv => whnf
    refine congrArg D.bool ?_
    rw [eq_comm, decide_eq_false_iff_not]
    intro e; exact h (by rw [e])
  have h : a.length = c.length := by
    have : ((a.length : Int) == (c.length : Int)) = true := by simpa using h
    have := eq_of_beq this; omega
  conv => whnf
  refine loopH (fun i : Nat => i ≤ a.length ∧ a.take i = c.take i) (fun i => a.length - i) (fun i => [(5, .d (.int .i64 i))]) (fun _ => []) 0 0 ⟨by omega, rfl⟩ (weak_of rfl (by repeat ((conv => whnf); first | exact trivial | refine And.intro rfl ?_ | refine And.intro (incD (by omega)) ?_)) (by repeat ((conv => whnf); first | exact trivial | refine And.intro rfl ?_ | refine And.intro (incD (by omega)) ?_))) ?_
  rintro i ⟨hi, hx⟩
  conv => whnf
  refine And.intro (fun hb => ?_) (fun hb => ?_)
  · have hil : i < a.length := by have := of_decide_eq_true hb; omega
    have hil2 : i < c.length := by omega
    conv => whnf
    refine And.intro (by kernel_rfl) ?_
    conv => whnf
    refine IdxC.encI i hil rfl ?_
    conv => whnf
    refine IdxC.encI i hil2 rfl ?_
    conv => whnf
    refine And.intro (fun he => ?_) (fun he => ?_)
    · have he : a[i] ≠ c[i] := by simpa using he
      conv => whnf
      refine congrArg D.bool ?_
      rw [eq_comm, decide_eq_false_iff_not]
      intro e; subst e; exact he rfl
    · have he : a[i] = c[i] := by simpa using he
      conv => whnf
      rw [incD (by omega)]
      exact again (i + 1) (by omega) ⟨by omega, by rw [List.take_succ_eq_append_getElem hil, List.take_succ_eq_append_getElem hil2, hx, he]⟩ (weak_of rfl (by repeat ((conv => whnf); first | exact trivial | refine And.intro rfl ?_ | refine And.intro (incD (by omega)) ?_)) (by repeat ((conv => whnf); first | exact trivial | refine And.intro rfl ?_ | refine And.intro (incD (by omega)) ?_)))
  · have hi : i = a.length := by have := of_decide_eq_false hb; omega
    subst hi
    conv => whnf
    refine congrArg D.bool ?_
    rw [eq_comm, decide_eq_true_eq]
    rw [List.take_length, h, List.take_length] at hx
    exact hx
end Go.Proofs.YtohmeplcjgmedaaDoor

/- Put1. -/
namespace Go.Proofs.YtohmeplcjgmedaaDoor
open Go.Vx Go.Vc Go.RowKit

def restF (d : Bool) (l : List Int) (x : Int) : List Int := match d with
  | true => l
  | false => insF l x
def p1H (o : List Int) : Hp := [(0, .row 3 8 1 o.length (Vx.encI o))]
theorem put1_fn (l : List Int) (x : Int) (hl : l.length < 1099511627776) : FnR Tryd.prog G0 10 [dI l, .int .i64 x] (dI (put1 l x)) := by
  refine fnQ_of_vc txok mixed [] Tryd.func10 rfl rfl (by simp) fun b => ?_
  conv => whnf
  refine loopH (fun y : Nat × Bool × List Int => y.1 ≤ l.length ∧ x ∉ l.take y.1 ∧ insF l x = y.2.2 ++ restF y.2.1 (l.drop y.1) x ∧ y.2.2.length ≤ y.1 + y.2.1.toNat) (fun y => l.length - y.1) (fun y => [(7, .d (.int .i64 y.1)), (6, .d (.bool y.2.1)), (5, .row 0)]) (fun y => p1H y.2.2) 1 (0, false, []) ⟨by simp, by simp, by simp [restF], by simp⟩ (((weak_kbT 6 false rfl).trans (weak_nlT 5 3 8 1 rfl)).trans (weak_of rfl (by repeat ((conv => whnf); first | exact trivial | refine And.intro rfl ?_ | refine And.intro (incD (by omega)) ?_)) (by repeat ((conv => whnf); first | exact trivial | refine And.intro rfl ?_ | refine And.intro (incD (by omega)) ?_)))) ?_
  rintro ⟨i, d, o⟩ ⟨hi, hx, ho, hlen⟩
  simp only at hi hx ho hlen
  have hd1 : d.toNat ≤ 1 := by cases d <;> decide
  conv => whnf
  refine And.intro (fun hb => ?_) (fun hb => ?_)
  · have hil : i < l.length := by have := of_decide_eq_true hb; omega
    have htk : l.take (i + 1) = l.take i ++ [l[i]] := List.take_succ_eq_append_getElem hil
    rw [List.drop_eq_getElem_cons hil] at ho
    conv => whnf
    refine IdxC.encI i hil rfl ?_
    conv => whnf
    refine And.intro (fun he => ?_) (fun he => ?_)
    · have he : l[i] = x := eq_of_beq he
      conv => whnf
      rw [put1, if_pos (he ▸ List.getElem_mem hil)]
    · have he : l[i] ≠ x := by simpa using he
      have hx' : x ∉ l.take (i + 1) := by
        rw [htk, List.mem_append, List.mem_singleton, not_or]
        exact ⟨hx, fun e => he e.symm⟩
      conv => whnf
      refine And.intro (fun h => ?_) (fun h => ?_)
      · have h : d = false := by simpa using h
        subst h
        conv => whnf
        refine IdxC.encI i hil rfl ?_
        conv => whnf
        refine And.intro (fun h2 => ?_) (fun h2 => ?_)
        · have h2 := of_decide_eq_true h2
          rw [restF, insF, if_pos h2] at ho
          conv => whnf
          refine appR (i := 0) (sz := 1) (n := (o).length) (m := 1) (xs := Vx.encI (o)) (ys := [.int .i64 (x)]) txok (fun k => Nat.ble 1 k) (o ++ [x]).length (Vx.encI (o ++ [x])) (by exact rfl) (by exact rfl) (by exact rfl) (by kernel_rfl) (by exact rfl) (scalDs_mem (by exact rfl)) (by simp) (by simp [Vx.encI]) (by simp only [LB, List.length_append, List.length_cons, List.length_nil]; omega) ?_
          conv => whnf
          refine IdxC.encI i hil rfl ?_
          conv => whnf
          refine appR (i := 0) (sz := 1) (n := (o ++ [x]).length) (m := 1) (xs := Vx.encI (o ++ [x])) (ys := [.int .i64 (l[i])]) txok (fun k => Nat.ble 1 k) (o ++ [x] ++ [l[i]]).length (Vx.encI (o ++ [x] ++ [l[i]])) (by exact rfl) (by exact rfl) (by exact rfl) (by kernel_rfl) (by exact rfl) (scalDs_mem (by exact rfl)) (by simp) (by simp [Vx.encI]) (by simp only [LB, List.length_append, List.length_cons, List.length_nil]; omega) ?_
          conv => whnf
          rw [incD (by omega)]
          exact again (i + 1, true, o ++ [x] ++ [l[i]]) (by simp; omega) ⟨by simp; omega, hx', by rw [ho]; simp [restF], by simp at hlen ⊢; omega⟩ ((weak_kbT 6 true rfl).trans (weak_of rfl (by repeat ((conv => whnf); first | exact trivial | refine And.intro rfl ?_ | refine And.intro (incD (by omega)) ?_)) (by repeat ((conv => whnf); first | exact trivial | refine And.intro rfl ?_ | refine And.intro (incD (by omega)) ?_))))
        · have h2 := of_decide_eq_false h2
          rw [restF, insF, if_neg h2] at ho
          conv => whnf
          refine IdxC.encI i hil rfl ?_
          conv => whnf
          refine appR (i := 0) (sz := 1) (n := (o).length) (m := 1) (xs := Vx.encI (o)) (ys := [.int .i64 (l[i])]) txok (fun k => Nat.ble 1 k) (o ++ [l[i]]).length (Vx.encI (o ++ [l[i]])) (by exact rfl) (by exact rfl) (by exact rfl) (by kernel_rfl) (by exact rfl) (scalDs_mem (by exact rfl)) (by simp) (by simp [Vx.encI]) (by simp only [LB, List.length_append, List.length_cons, List.length_nil]; omega) ?_
          conv => whnf
          rw [incD (by omega)]
          exact again (i + 1, false, o ++ [l[i]]) (by simp; omega) ⟨by simp; omega, hx', by rw [ho]; simp [restF], by simp at hlen ⊢; omega⟩ (weak_of rfl (by repeat ((conv => whnf); first | exact trivial | refine And.intro rfl ?_ | refine And.intro (incD (by omega)) ?_)) (by repeat ((conv => whnf); first | exact trivial | refine And.intro rfl ?_ | refine And.intro (incD (by omega)) ?_)))
      · have h : d = true := by simpa using h
        subst h
        rw [restF] at ho
        conv => whnf
        refine IdxC.encI i hil rfl ?_
        conv => whnf
        refine appR (i := 0) (sz := 1) (n := (o).length) (m := 1) (xs := Vx.encI (o)) (ys := [.int .i64 (l[i])]) txok (fun k => Nat.ble 1 k) (o ++ [l[i]]).length (Vx.encI (o ++ [l[i]])) (by exact rfl) (by exact rfl) (by exact rfl) (by kernel_rfl) (by exact rfl) (scalDs_mem (by exact rfl)) (by simp) (by simp [Vx.encI]) (by simp only [LB, List.length_append, List.length_cons, List.length_nil]; omega) ?_
        conv => whnf
        rw [incD (by omega)]
        exact again (i + 1, true, o ++ [l[i]]) (by simp; omega) ⟨by simp; omega, hx', by rw [ho]; simp [restF], by simp at hlen ⊢; omega⟩ (weak_of rfl (by repeat ((conv => whnf); first | exact trivial | refine And.intro rfl ?_ | refine And.intro (incD (by omega)) ?_)) (by repeat ((conv => whnf); first | exact trivial | refine And.intro rfl ?_ | refine And.intro (incD (by omega)) ?_)))
  · have hi : i = l.length := by have := of_decide_eq_false hb; omega
    subst hi
    rw [List.drop_length] at ho
    rw [List.take_length] at hx
    have hp : put1 l x = o ++ restF d [] x := by rw [put1, if_neg hx, ho]
    rw [hp]
    conv => whnf
    refine And.intro (fun h => ?_) (fun h => ?_)
    · have h : d = false := by simpa using h
      subst h
      conv => whnf
      refine appR (i := 0) (sz := 1) (n := o.length) (m := 1) (xs := Vx.encI o) (ys := [.int .i64 x]) txok (fun k => Nat.ble 1 k) (o ++ [x]).length (Vx.encI (o ++ [x])) (by exact rfl) (by exact rfl) (by exact rfl) (by kernel_rfl) (by exact rfl) (scalDs_mem (by exact rfl)) (by simp) (by simp [Vx.encI]) (by simp only [LB, List.length_append, List.length_cons, List.length_nil]; omega) ?_
      conv => whnf
      try exact rfl
    · have h : d = true := by simpa using h
      subst h
      conv => whnf
      rw [restF, List.append_nil]
end Go.Proofs.YtohmeplcjgmedaaDoor

/- Sets of numbers as sorted lists; right types; sizes. -/
namespace Go.Proofs.YtohmeplcjgmedaaDoor

abbrev Asc (l : List Int) : Prop := l.Pairwise (· < ·)
theorem asc_ext : ∀ (a b : List Int), Asc a → Asc b → (∀ z, z ∈ a ↔ z ∈ b) → a = b
  | [], [], _, _, _ => rfl
  | [], y :: r, _, _, h => by have := (h y).2 (by simp); cases this
  | x :: r, [], _, _, h => by have := (h x).1 (by simp); cases this
  | x :: r, y :: s, ha, hb, h => by
    obtain ⟨a1, a2⟩ := List.pairwise_cons.1 ha
    obtain ⟨b1, b2⟩ := List.pairwise_cons.1 hb
    have e : x = y := by
      have h1 := (h x).1 (by simp)
      have h2 := (h y).2 (by simp)
      rcases List.mem_cons.1 h1 with e | h1
      · exact e
      · rcases List.mem_cons.1 h2 with e | h2
        · exact e.symm
        · have := a1 y h2; have := b1 x h1; omega
    subst e
    congr 1
    refine asc_ext r s a2 b2 fun z => ⟨fun hz => ?_, fun hz => ?_⟩
    · rcases List.mem_cons.1 ((h z).1 (by simp [hz])) with e | h1
      · have := a1 z hz; omega
      · exact h1
    · rcases List.mem_cons.1 ((h z).2 (by simp [hz])) with e | h1
      · have := b1 z hz; omega
      · exact h1
theorem compactTo_asc (d : Array Int) (hd : ∀ i j, i < j → j < d.size → d[i]! ≤ d[j]!) : ∀ m, m ≤ d.size → Asc (Go.Lib.compactUpTo d m)
  | 0, _ => by simp [Go.Lib.compactUpTo, Asc]
  | m + 1, hm => by
    rw [Go.Lib.compactUpTo_succ]
    have ih := compactTo_asc d hd m (by omega)
    by_cases hk : Go.Lib.keeps d m = true
    · rw [if_pos hk]
      refine List.pairwise_append.2 ⟨ih, by simp, fun a ha c hc => ?_⟩
      rw [List.mem_singleton] at hc
      subst hc
      obtain ⟨j, hj, rfl⟩ := (mem_compactTo d a m).1 ha
      have h1 : d[j]! ≤ d[m - 1]! := by
        by_cases e : j = m - 1
        · rw [e]; exact Int.le_refl _
        · exact hd j (m - 1) (by omega) (by omega)
      have h2 : d[m - 1]! ≤ d[m]! := hd (m - 1) m (by omega) (by omega)
      have h3 : d[m]! ≠ d[m - 1]! := fun e => by rw [Go.Lib.keeps_neg (by omega) e] at hk; cases hk
      omega
    · rw [if_neg hk, List.append_nil]; exact ih
theorem freeS_asc (t : TG) : Asc (freeS t) := by
  unfold freeS Go.Lib.compact
  have hs : (srtI (frG t [])).Pairwise (fun a c => decide (a ≤ c) = true) := by
    unfold srtI
    exact List.pairwise_mergeSort (fun a b c h1 h2 => by simp at *; omega) (fun a b => by simp; omega) _
  generalize srtI (frG t []) = l at hs
  refine compactTo_asc _ (fun i j hij hj => ?_) _ (by simp)
  have hj : j < l.length := by simpa using hj
  have := List.pairwise_iff_getElem.1 hs i j (by omega) hj hij
  simp only [List.getElem!_toArray]
  rw [getElem!_pos l i (by omega), getElem!_pos l j hj]
  simpa using this
theorem mem_insF (l : List Int) (x z : Int) : z ∈ insF l x ↔ z = x ∨ z ∈ l := by
  induction l with
  | nil => simp [insF]
  | cons y r ih =>
    rw [insF]
    split
    · simp
    · rw [List.mem_cons, ih, List.mem_cons]
      constructor
      · rintro (h | h | h) <;> simp [h]
      · rintro (h | h | h) <;> simp [h]
theorem insF_asc {l : List Int} {x : Int} (h : Asc l) (hx : x ∉ l) : Asc (insF l x) := by
  induction l with
  | nil => simp [insF, Asc]
  | cons y r ih =>
    obtain ⟨h1, h2⟩ := List.pairwise_cons.1 h
    rw [insF]
    split
    · rename_i hy
      refine List.pairwise_cons.2 ⟨fun z hz => ?_, h⟩
      rcases List.mem_cons.1 hz with rfl | hz
      · exact hy
      · have := h1 z hz; omega
    · rename_i hy
      have hxy : x ≠ y := fun e => hx (by simp [e])
      refine List.pairwise_cons.2 ⟨fun z hz => ?_, ih h2 (fun hr => hx (by simp [hr]))⟩
      rcases (mem_insF r x z).1 hz with rfl | hz
      · omega
      · exact h1 z hz
theorem insF_len (l : List Int) (x : Int) : (insF l x).length = l.length + 1 := by
  induction l with
  | nil => rfl
  | cons y r ih => rw [insF]; split <;> simp [ih]
theorem mem_put1 (l : List Int) (x z : Int) : z ∈ put1 l x ↔ z = x ∨ z ∈ l := by
  unfold put1
  split
  · rename_i h
    constructor
    · exact .inr
    · rintro (rfl | h') <;> assumption
  · exact mem_insF l x z
theorem put1_asc {l : List Int} {x : Int} (h : Asc l) : Asc (put1 l x) := by
  unfold put1
  split
  · exact h
  · rename_i hx; exact insF_asc h hx
theorem put1_len (l : List Int) (x : Int) : (put1 l x).length ≤ l.length + 1 := by
  unfold put1
  split
  · omega
  · rw [insF_len]; omega
/-- All but one put into a set. -/
def wantL (n : Int) : List Int → List Int → List Int
  | acc, [] => acc
  | acc, f :: r => wantL n (if f = n then acc else put1 acc f) r
def putL : List Int → List Int → List Int
  | acc, [] => acc
  | acc, f :: r => putL (put1 acc f) r
theorem wantL_facts (n : Int) : ∀ (l acc : List Int), Asc acc → Asc (wantL n acc l) ∧ (∀ z, z ∈ wantL n acc l ↔ z ∈ acc ∨ (z ∈ l ∧ z ≠ n)) ∧ (wantL n acc l).length ≤ acc.length + l.length
  | [], acc, h => ⟨h, fun z => by simp [wantL], by simp [wantL]⟩
  | f :: r, acc, h => by
    rw [wantL]
    by_cases e : f = n
    · rw [if_pos e]
      obtain ⟨h1, h2, h3⟩ := wantL_facts n r acc h
      refine ⟨h1, fun z => ?_, by simp; omega⟩
      rw [h2 z, List.mem_cons]
      constructor
      · rintro (a | ⟨a, b⟩)
        · exact .inl a
        · exact .inr ⟨.inr a, b⟩
      · rintro (a | ⟨rfl | a, b⟩)
        · exact .inl a
        · exact absurd e b
        · exact .inr ⟨a, b⟩
    · rw [if_neg e]
      obtain ⟨h1, h2, h3⟩ := wantL_facts n r (put1 acc f) (put1_asc h)
      have h4 := put1_len acc f
      refine ⟨h1, fun z => ?_, by simp; omega⟩
      rw [h2 z, mem_put1, List.mem_cons]
      constructor
      · rintro ((rfl | a) | ⟨a, b⟩)
        · exact .inr ⟨.inl rfl, e⟩
        · exact .inl a
        · exact .inr ⟨.inr a, b⟩
      · rintro (a | ⟨rfl | a, b⟩)
        · exact .inl (.inr a)
        · exact .inl (.inl rfl)
        · exact .inr ⟨a, b⟩
theorem putL_facts : ∀ (l acc : List Int), Asc acc → Asc (putL acc l) ∧ (∀ z, z ∈ putL acc l ↔ z ∈ acc ∨ z ∈ l) ∧ (putL acc l).length ≤ acc.length + l.length
  | [], acc, h => ⟨h, fun z => by simp [putL], by simp [putL]⟩
  | f :: r, acc, h => by
    rw [putL]
    obtain ⟨h1, h2, h3⟩ := putL_facts r (put1 acc f) (put1_asc h)
    have h4 := put1_len acc f
    refine ⟨h1, fun z => ?_, by simp; omega⟩
    rw [h2 z, mem_put1, List.mem_cons]
    constructor
    · rintro ((rfl | a) | a)
      · exact .inr (.inl rfl)
      · exact .inl a
      · exact .inr (.inr a)
    · rintro (a | rfl | a)
      · exact .inl (.inr a)
      · exact .inl (.inl rfl)
      · exact .inr a
/-! ### Right types; sizes -/
theorem okV_right : ∀ t : TG, rightR t = true → okV t = true := by
  refine TG.ind fun k n ls l ih h => ?_
  rw [rightR, Bool.and_eq_true] at h
  obtain ⟨h1, h2⟩ := h
  have hrs : ∀ m : List TG, rightRs m = true → ∀ u ∈ m, rightR u = true := by
    intro m
    induction m with
    | nil => intro _ u hu; cases hu
    | cons v r ihm =>
      intro h u hu
      rw [rightRs, Bool.and_eq_true] at h
      rcases List.mem_cons.1 hu with rfl | hu
      · exact h.1
      · exact ihm h.2 u hu
  refine (okV_mk k n ls l).2 ⟨fun h6 => ?_, fun u hu => ih u hu (hrs l h2 u hu)⟩
  subst h6
  have hk : kidN 6 = 0 := by decide
  have hk7 : ((6 : Int) == 7) = false := by decide
  simp only [shR, shA, shC, hk, hk7, Bool.and_eq_true] at h1
  obtain ⟨⟨ha, _⟩, hc⟩ := h1
  have e1 : l.length = 0 := by
    simp at ha
    simp [ha]
  have e2 : ls.length = 0 := by
    simp at hc
    simp [hc]
  exact ⟨List.eq_nil_of_length_eq_zero e1, List.eq_nil_of_length_eq_zero e2⟩
theorem sz_putm : ∀ (f : Nat) (t : TG) (x : Int) (y : TG) (fr : List Int), szG (putF f t x y fr) ≤ szG t * szG y
  | 0, t, _, y, _ => Nat.le_mul_of_pos_right _ (szG_pos y)
  | f + 1, .mk k n ls l, x, y, fr => by
    have hy := szG_pos y
    have hg : ∀ (g : TG → TG) (m : List TG), (∀ u ∈ m, szG (g u) ≤ szG u * szG y) → szGs (m.map g) ≤ szGs m * szG y := by
      intro g m
      induction m with
      | nil => intro _; simp [szGs]
      | cons u r ihm =>
        intro h
        have h1 := h u (by simp)
        have h2 := ihm fun v hv => h v (by simp [hv])
        rw [List.map_cons, szGs, szGs, Nat.add_mul]; omega
    rw [putF_mk]
    split
    · rw [szG]; exact Nat.le_mul_of_pos_left _ (by omega)
    · split
      · exact Nat.le_mul_of_pos_right _ hy
      · split
        · rw [List.map_map]
          have h1 := hg ((fun u => putF f u x y fr) ∘ fun u => putF f u n (varG (freshN fr l x n)) [freshN fr l x n]) l fun u _ =>
            Nat.le_trans (sz_putm f _ x y fr) (Nat.mul_le_mul_right _ (sz_put f u n _ _ (by simp [varG, szG, szGs])))
          simp only [szG, Nat.add_mul]; omega
        · have h1 := hg (fun u => putF f u x y fr) l fun u _ => sz_putm f u x y fr
          simp only [szG, Nat.add_mul]; omega
end Go.Proofs.YtohmeplcjgmedaaDoor

/- The law TargetFree. -/
namespace Go.Proofs.YtohmeplcjgmedaaDoor
open Go.Vx Go.Vc Go.RowKit

theorem got_eq {t y : TG} (n : Int) (hv : okV t = true) : (n ∉ freeS t → freeS (putF (szG t) t n y (freeS y)) = freeS t) ∧ (n ∈ freeS t → freeS (putF (szG t) t n y (freeS y)) = putL (wantL n [] (freeS t)) (freeS y)) := by
  have hp := fv_put (szG t) t n y (freeS y) (Nat.le_refl _) hv (fun z => mem_freeS y z)
  constructor
  · intro hn
    rw [mem_freeS] at hn
    refine asc_ext _ _ (freeS_asc _) (freeS_asc _) fun z => ?_
    rw [mem_freeS, mem_freeS, hp z]
    constructor
    · rintro (⟨a, _⟩ | ⟨a, _⟩)
      · exact a
      · exact absurd a hn
    · intro a
      exact .inl ⟨a, fun e => hn (e ▸ a)⟩
  · intro hn
    rw [mem_freeS] at hn
    obtain ⟨w1, w2, _⟩ := wantL_facts n (freeS t) [] (by simp [Asc])
    obtain ⟨p1, p2, _⟩ := putL_facts (freeS y) _ w1
    refine asc_ext _ _ (freeS_asc _) p1 fun z => ?_
    rw [mem_freeS, hp z, p2 z, w2 z, mem_freeS, mem_freeS]
    constructor
    · rintro (a | ⟨_, a⟩)
      · exact .inl (.inr a)
      · exact .inr a
    · rintro ((a | a) | a)
      · cases a
      · exact .inl a
      · exact .inr ⟨hn, a⟩
theorem free_law_fn (t : TG) (n : Int) (y : TG) (hz : szG t + szG y ≤ 1048576) : FnR Tryd.prog G0 3 [dG t, .int .i64 n, dG y] (.bool true) := by
  have pt := szG_pos t
  have py := szG_pos y
  have hsp : szG (putF (szG t) t n y (freeS y)) < 1099511627776 := by
    have h1 := sz_putm (szG t) t n y (freeS y)
    have h2 : szG t * szG y ≤ 1048575 * 1048576 := Nat.mul_le_mul (by omega) (by omega)
    omega
  have ht := freeS_len t
  have hy := freeS_len y
  obtain ⟨w1, w2, w3⟩ := wantL_facts n (freeS t) [] (by simp [Asc])
  have hput := putTop_fn t (by omega) n y (by omega)
  obtain ⟨k, m, ls, ks⟩ := t
  refine fnQ_of_vc txok mixed [(14, .pure 0 (.pure 1 (.run 2 (.pure 3 (.take 4 (.pure 5 (.take 6 (.take 8 (.run 7 (.fin 9 (.pure 10 (.pure 11 (.fin 12 (.pure 13 (.pure 14 .done)))))))))))))))] Tryd.func3 rfl rfl (by simp) fun b => ?_
  conv => whnf
  refine callF (rtR_fn (.mk k m ls ks)) gf6 rfl rfl ?_
  conv => whnf
  refine And.intro (fun h => ?_) (fun h => ?_)
  · conv => whnf
    refine callF alive_fn gf7 rfl rfl ?_
    conv => whnf
    try exact rfl
  have hr : rightR (.mk k m ls ks) = true := by
    have h : rtR (.mk k m ls ks) = 0 := by simpa using h
    unfold rtR at h
    split at h
    · cases h
    · split at h
      · assumption
      · cases h
  have hv := okV_right _ hr
  obtain ⟨g1, g2⟩ := got_eq (y := y) n hv
  have hsam : n ∉ freeS (.mk k m ls ks) → samG (putF (szG (.mk k m ls ks)) (.mk k m ls ks) n y (freeS y)) (.mk k m ls ks) [] [] = true := fun h => sam_put _ _ n y (freeS y) [] (Nat.le_refl _) hv (fun hn => h ((mem_freeS _ n).2 hn))
  generalize hF : freeS (.mk k m ls ks) = F at *
  generalize hP : putF (szG (.mk k m ls ks)) (.mk k m ls ks) n y (freeS y) = P at *
  have hft := freeT_fn (.mk k m ls ks) (by omega)
  rw [hF] at hft
  conv => whnf
  refine callF hft gf8 rfl rfl ?_
  conv => whnf
  refine callF hput gf9 rfl rfl ?_
  conv => whnf
  refine callF (freeT_fn P hsp) gf8 rfl rfl ?_
  conv => whnf
  refine loopH (fun z : Nat × List Int => z.1 ≤ F.length ∧ wantL n [] F = wantL n z.2 (F.drop z.1) ∧ z.2.length ≤ z.1) (fun z => F.length - z.1) (fun z => [(11, .d (.int .i64 z.1)), (9, .d (.bool (decide (n ∈ F.take z.1)))), (10, .d (dI z.2))]) (fun _ => [(0, .blk 25 [.d (.int .i64 k), .d (.int .i64 m), .d (dL ls), .d (dGs ks)]), (1, .blk 25 [.d (.int .i64 y.k), .d (.int .i64 y.n), .d (dL y.ls), .d (dGs y.kids)])]) 2 (0, []) ⟨by simp, rfl, by simp⟩ (((weak_kbT 9 false rfl).trans (weak_T 10 (.d (dI [])) rfl rfl nl_dI)).trans ?_) ?_
  · simp only [List.take_zero, List.not_mem_nil, decide_false]
    exact weak_of rfl (by repeat ((conv => whnf); first | exact trivial | refine And.intro rfl ?_ | refine And.intro (incD (by omega)) ?_)) (by repeat ((conv => whnf); first | exact trivial | refine And.intro rfl ?_ | refine And.intro (incD (by omega)) ?_))
  rintro ⟨i, acc⟩ ⟨hi, hx, hal⟩
  simp only at hi hx hal
  conv => whnf
  refine And.intro (fun hb => ?_) (fun hb => ?_)
  · have hil : i < F.length := by have := of_decide_eq_true hb; omega
    rw [List.drop_eq_getElem_cons hil, wantL] at hx
    have htk : F.take (i + 1) = F.take i ++ [F[i]] := List.take_succ_eq_append_getElem hil
    conv => whnf
    refine IdxC.encI i hil rfl ?_
    conv => whnf
    refine And.intro (fun he => ?_) (fun he => ?_)
    · have he : F[i] = n := eq_of_beq he
      rw [if_pos he] at hx
      have hm : decide (n ∈ F.take (i + 1)) = true := by rw [htk, he]; simp
      conv => whnf
      rw [incD (by omega)]
      refine again (i + 1, acc) (by simp; omega) ⟨by simp; omega, hx, by simp; omega⟩ ?_
      rw [hm]
      exact (weak_kbT 9 true rfl).trans (weak_of rfl (by repeat ((conv => whnf); first | exact trivial | refine And.intro rfl ?_ | refine And.intro (incD (by omega)) ?_)) (by repeat ((conv => whnf); first | exact trivial | refine And.intro rfl ?_ | refine And.intro (incD (by omega)) ?_)))
    · have he : F[i] ≠ n := by simpa using he
      rw [if_neg he] at hx
      have hm : decide (n ∈ F.take (i + 1)) = decide (n ∈ F.take i) := by
        rw [decide_eq_decide, htk, List.mem_append, List.mem_singleton]
        exact ⟨fun h => h.elim id fun h => absurd h.symm he, .inl⟩
      have hpl := put1_len acc F[i]
      conv => whnf
      refine IdxC.encI i hil rfl ?_
      conv => whnf
      refine callF (put1_fn acc F[i] (by omega)) gf10 rfl rfl ?_
      conv => whnf
      rw [incD (by omega)]
      refine again (i + 1, put1 acc F[i]) (by simp; omega) ⟨by simp; omega, hx, by simp; omega⟩ ?_
      rw [hm]
      exact weak_of rfl (by repeat ((conv => whnf); first | exact trivial | refine And.intro rfl ?_ | refine And.intro (incD (by omega)) ?_)) (by repeat ((conv => whnf); first | exact trivial | refine And.intro rfl ?_ | refine And.intro (incD (by omega)) ?_))
  · have hi : i = F.length := by have := of_decide_eq_false hb; omega
    subst hi
    rw [List.drop_length, wantL] at hx
    rw [List.take_length]
    rw [hx] at g2 w1 w3
    conv => whnf
    refine And.intro (fun hn => ?_) (fun hn => ?_)
    · have hn : n ∉ F := by simpa using hn
      have hg := g1 hn
      have hs := hsam hn
      conv => whnf
      refine And.intro (by kernel_rfl) ?_
      conv => whnf
      refine callF (ints_fn (freeS P) F) gf11 rfl rfl ?_
      rw [hg, decide_eq_true rfl]
      conv => whnf
      refine And.intro (fun _ => ?_) (fun h => by cases h)
      conv => whnf
      refine callF hput gf9 rfl rfl ?_
      conv => whnf
      refine callF (sameT_fn P (.mk k m ls ks) hsp) gf12 rfl rfl ?_
      rw [hs]
      conv => whnf
      refine And.intro (fun _ => ?_) (fun h => by cases h)
      conv => whnf
      refine callF alive_fn gf7 rfl rfl ?_
      conv => whnf
      try exact rfl
    · have hn : n ∈ F := by simpa using hn
      have hg := g2 hn
      conv => whnf
      refine callF (freeT_fn y (by omega)) gf8 rfl rfl ?_
      conv => whnf
      refine loopH (fun z : Nat × List Int => z.1 ≤ (freeS y).length ∧ putL acc (freeS y) = putL z.2 ((freeS y).drop z.1) ∧ z.2.length ≤ acc.length + z.1) (fun z => (freeS y).length - z.1) (fun z => [(13, .d (.int .i64 z.1)), (10, .d (dI z.2))]) (fun _ => [(0, .blk 25 [.d (.int .i64 k), .d (.int .i64 m), .d (dL ls), .d (dGs ks)]), (1, .blk 25 [.d (.int .i64 y.k), .d (.int .i64 y.n), .d (dL y.ls), .d (dGs y.kids)])]) 2 (0, acc) ⟨by simp, rfl, by simp⟩ (weak_of rfl (by repeat ((conv => whnf); first | exact trivial | refine And.intro rfl ?_ | refine And.intro (incD (by omega)) ?_)) (by repeat ((conv => whnf); first | exact trivial | refine And.intro rfl ?_ | refine And.intro (incD (by omega)) ?_))) ?_
      rintro ⟨j, acc'⟩ ⟨hj, hx', hal'⟩
      simp only at hj hx' hal'
      conv => whnf
      refine And.intro (fun hb => ?_) (fun hb => ?_)
      · have hjl : j < (freeS y).length := by have := of_decide_eq_true hb; omega
        rw [List.drop_eq_getElem_cons hjl, putL] at hx'
        have hpl := put1_len acc' (freeS y)[j]
        conv => whnf
        refine IdxC.encI j hjl rfl ?_
        conv => whnf
        refine callF (put1_fn acc' (freeS y)[j] (by omega)) gf10 rfl rfl ?_
        conv => whnf
        rw [incD (by omega)]
        exact again (j + 1, put1 acc' (freeS y)[j]) (by simp; omega) ⟨by simp; omega, hx', by simp; omega⟩ (weak_of rfl (by repeat ((conv => whnf); first | exact trivial | refine And.intro rfl ?_ | refine And.intro (incD (by omega)) ?_)) (by repeat ((conv => whnf); first | exact trivial | refine And.intro rfl ?_ | refine And.intro (incD (by omega)) ?_)))
      · have hj : j = (freeS y).length := by have := of_decide_eq_false hb; omega
        subst hj
        rw [List.drop_length, putL] at hx'
        conv => whnf
        refine callF (ints_fn (freeS P) acc') gf11 rfl rfl ?_
        rw [hg, hx', decide_eq_true rfl]
        conv => whnf
        refine And.intro (fun _ => ?_) (fun h => by cases h)
        conv => whnf
        refine callF alive_fn gf7 rfl rfl ?_
        conv => whnf
        try exact rfl
end Go.Proofs.YtohmeplcjgmedaaDoor

