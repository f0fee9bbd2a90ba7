/- Two puttings of closed types, in any order; the law TargetTwice. -/
import Derived.Test.YtohmeplcjgmedaaDoorCc
set_option linter.unusedSimpArgs false
set_option linter.unusedVariables false
namespace Go.Proofs.YtohmeplcjgmedaaDoor
open Go.Vx Go.Vc Go.RowKit

/-! ### What stands free -/
theorem lastI_neg (s : List Int) (n : Int) : lastI s n < 0 ↔ n ∉ s := by
  unfold lastI
  constructor
  · intro h hn
    obtain ⟨i, hi, rfl⟩ := List.getElem_of_mem hn
    have hmem : (((i : Nat) : Int), s[i]) ∈ prI s := by
      unfold prI
      rw [List.mem_map]
      refine ⟨s.length - 1 - i, by rw [List.mem_range]; omega, ?_⟩
      have h1 : s.length - 1 - (s.length - 1 - i) = i := by omega
      rw [h1]
      simp [ixI, List.getD, hi]
    have h2 : ((prI s).find? fun p => p.2 == s[i]).isSome = true := by
      rw [List.find?_isSome]
      exact ⟨_, hmem, by simp⟩
    obtain ⟨p, hp⟩ := Option.isSome_iff_exists.1 h2
    rw [hp] at h
    have := List.mem_of_find?_eq_some hp
    unfold prI at this
    rw [List.mem_map] at this
    obtain ⟨j, _, rfl⟩ := this
    simp at h
    omega
  · intro hn
    have h2 : (prI s).find? (fun p => p.2 == n) = none := by
      rw [List.find?_eq_none]
      intro p hp
      unfold prI at hp
      rw [List.mem_map] at hp
      obtain ⟨j, hj, rfl⟩ := hp
      rw [List.mem_range] at hj
      have h3 : s.length - 1 - j < s.length := by omega
      simp only [ixI, List.getD, List.getElem?_eq_getElem h3, Option.getD_some, beq_iff_eq]
      intro e
      exact hn (e ▸ List.getElem_mem h3)
    rw [h2]
    decide
theorem compact_nil {l : List Int} (h : Go.Lib.compact l = []) : l = [] := by
  match l with
  | [] => rfl
  | x :: r =>
    exfalso
    unfold Go.Lib.compact Go.Lib.compactUpTo at h
    rw [List.map_eq_nil_iff, List.filter_eq_nil_iff] at h
    have := h 0 (by simp)
    rw [Go.Lib.keeps_lt_one _ 0 (by omega)] at this
    exact this rfl
theorem free_nil {t : TG} (h : freeS t = []) : frG t [] = [] := by
  unfold freeS at h
  have h := compact_nil h
  unfold srtI at h
  have := congrArg List.length h
  simpa using this
/-! ### Putting a closed type -/
mutual
def subG (x : Int) (a : TG) : TG → TG
  | .mk k n ls l => if k = 6 ∧ n = x then a else if bndG k = true ∧ n = x then .mk k n ls l else .mk k n ls (subGs x a l)
def subGs (x : Int) (a : TG) : List TG → List TG
  | [] => []
  | t :: r => subG x a t :: subGs x a r
end
theorem subGs_map (x : Int) (a : TG) : ∀ l, subGs x a l = l.map (subG x a)
  | [] => rfl
  | t :: r => by simp only [subGs, subGs_map x a r, List.map_cons]
theorem putF_sub (x : Int) (a : TG) : ∀ (f : Nat) (t : TG), szG t ≤ f → putF f t x a [] = subG x a t
  | 0, t, h => by have := szG_pos t; omega
  | f + 1, .mk k n ls l, h => by
    rw [putF_mk, subG]
    have hl : szGs l ≤ f := by simp only [szG] at h; omega
    by_cases h1 : k = 6 ∧ n = x
    · rw [if_pos h1, if_pos h1]
    · rw [if_neg h1, if_neg h1]
      by_cases h2 : bndG k = true ∧ n = x
      · rw [if_pos h2, if_pos h2]
      · rw [if_neg h2, if_neg h2, if_neg (fun h => by simpa using h.2.1), subGs_map]
        congr 1
        exact List.map_congr_left fun u hu => putF_sub x a f u (by have := szG_mem hu; omega)
theorem sub_closed (y : Int) (b : TG) : ∀ (t : TG) (s : List Int), y ∉ s → y ∉ frG t s → subG y b t = t := by
  refine TG.ind fun k n ls l ih s hs hf => ?_
  rw [frG_mk] at hf
  rw [subG]
  by_cases h1 : k = 6 ∧ n = y
  · exfalso
    obtain ⟨h1, rfl⟩ := h1
    rw [if_pos ⟨h1, (lastI_neg s n).2 hs⟩] at hf
    simp at hf
  · rw [if_neg h1]
    by_cases h2 : bndG k = true ∧ n = y
    · rw [if_pos h2]
    · rw [if_neg h2, subGs_map]
      congr 1
      have hs' : y ∉ (if bndG k = true then s ++ [n] else s) := by
        split
        · rename_i hb
          simp only [List.mem_append, List.mem_singleton, not_or]
          exact ⟨hs, fun e => h2 ⟨hb, e.symm⟩⟩
        · exact hs
      have hf' : y ∉ frGs l (if bndG k = true then s ++ [n] else s) := fun h => hf (List.mem_append_right _ h)
      generalize (if bndG k = true then s ++ [n] else s) = s' at hs' hf'
      clear hf h1 h2
      have : ∀ m : List TG, (∀ t ∈ m, t ∈ l) → y ∉ frGs m s' → m.map (subG y b) = m := by
        intro m
        induction m with
        | nil => intro _ _; rfl
        | cons u r ihm =>
          intro hm hfm
          rw [frGs] at hfm
          rw [List.map_cons, ih u (hm u (by simp)) s' hs' (fun h => hfm (List.mem_append_left _ h)), ihm (fun t ht => hm t (by simp [ht])) (fun h => hfm (List.mem_append_right _ h))]
      exact this l (fun _ h => h) hf'
theorem sub_frnil {a : TG} (h : frG a [] = []) (y : Int) (b : TG) : subG y b a = a := sub_closed y b a [] (by simp) (by rw [h]; simp)
theorem bnd_not6 {k : Int} (h : bndG k = true) : k ≠ 6 := by
  rintro rfl
  exact absurd h (by decide)
theorem sub_comm {x y : Int} {a b : TG} (hxy : x ≠ y) (ha : frG a [] = []) (hb : frG b [] = []) : ∀ t : TG, subG y b (subG x a t) = subG x a (subG y b t) := by
  refine TG.ind fun k n ls l ih => ?_
  have hl : subGs y b (subGs x a l) = subGs x a (subGs y b l) := by
    simp only [subGs_map, List.map_map]
    exact List.map_congr_left fun u hu => ih u hu
  by_cases h6 : k = 6
  · subst h6
    have hb6 : ¬ bndG 6 = true := by decide
    by_cases hx : n = x
    · subst hx
      rw [show subG n a (.mk 6 n ls l) = a from by rw [subG, if_pos ⟨rfl, rfl⟩], sub_frnil ha]
      rw [show subG y b (.mk 6 n ls l) = .mk 6 n ls (subGs y b l) from by rw [subG, if_neg (fun h => hxy h.2), if_neg (fun h => hb6 h.1)]]
      rw [subG, if_pos ⟨rfl, rfl⟩]
    · by_cases hy : n = y
      · subst hy
        rw [show subG n b (.mk 6 n ls l) = b from by rw [subG, if_pos ⟨rfl, rfl⟩], sub_frnil hb]
        rw [show subG x a (.mk 6 n ls l) = .mk 6 n ls (subGs x a l) from by rw [subG, if_neg (fun h => hx h.2), if_neg (fun h => hb6 h.1)]]
        rw [subG, if_pos ⟨rfl, rfl⟩]
      · rw [show subG x a (.mk 6 n ls l) = .mk 6 n ls (subGs x a l) from by rw [subG, if_neg (fun h => hx h.2), if_neg (fun h => hb6 h.1)]]
        rw [show subG y b (.mk 6 n ls l) = .mk 6 n ls (subGs y b l) from by rw [subG, if_neg (fun h => hy h.2), if_neg (fun h => hb6 h.1)]]
        rw [subG, if_neg (fun h => hy h.2), if_neg (fun h => hb6 h.1), subG, if_neg (fun h => hx h.2), if_neg (fun h => hb6 h.1), hl]
  · by_cases hbk : bndG k = true
    · by_cases hx : n = x
      · subst hx
        rw [show subG n a (.mk k n ls l) = .mk k n ls l from by rw [subG, if_neg (fun h => h6 h.1), if_pos ⟨hbk, rfl⟩]]
        rw [show subG y b (.mk k n ls l) = .mk k n ls (subGs y b l) from by rw [subG, if_neg (fun h => h6 h.1), if_neg (fun h => hxy h.2)]]
        rw [subG, if_neg (fun h => h6 h.1), if_pos ⟨hbk, rfl⟩]
      · by_cases hy : n = y
        · subst hy
          rw [show subG n b (.mk k n ls l) = .mk k n ls l from by rw [subG, if_neg (fun h => h6 h.1), if_pos ⟨hbk, rfl⟩]]
          rw [show subG x a (.mk k n ls l) = .mk k n ls (subGs x a l) from by rw [subG, if_neg (fun h => h6 h.1), if_neg (fun h => hx h.2)]]
          rw [subG, if_neg (fun h => h6 h.1), if_pos ⟨hbk, rfl⟩]
        · rw [show subG x a (.mk k n ls l) = .mk k n ls (subGs x a l) from by rw [subG, if_neg (fun h => h6 h.1), if_neg (fun h => hx h.2)]]
          rw [show subG y b (.mk k n ls l) = .mk k n ls (subGs y b l) from by rw [subG, if_neg (fun h => h6 h.1), if_neg (fun h => hy h.2)]]
          rw [subG, if_neg (fun h => h6 h.1), if_neg (fun h => hy h.2), subG, if_neg (fun h => h6 h.1), if_neg (fun h => hx h.2), hl]
    · rw [show subG x a (.mk k n ls l) = .mk k n ls (subGs x a l) from by rw [subG, if_neg (fun h => h6 h.1), if_neg (fun h => hbk h.1)]]
      rw [show subG y b (.mk k n ls l) = .mk k n ls (subGs y b l) from by rw [subG, if_neg (fun h => h6 h.1), if_neg (fun h => hbk h.1)]]
      rw [subG, if_neg (fun h => h6 h.1), if_neg (fun h => hbk h.1), subG, if_neg (fun h => h6 h.1), if_neg (fun h => hbk h.1), hl]
/-! ### Sizes -/
theorem sub_size (x : Int) (a : TG) : ∀ t : TG, szG (subG x a t) ≤ szG t * szG a := by
  have ha := szG_pos a
  refine TG.ind fun k n ls l ih => ?_
  have hl : ∀ m : List TG, (∀ t ∈ m, t ∈ l) → szGs (m.map (subG x a)) ≤ szGs m * szG a := by
    intro m
    induction m with
    | nil => intro _; simp [szGs]
    | cons u r ihm =>
      intro hm
      have h1 := ih u (hm u (by simp))
      have h2 := ihm fun t ht => hm t (by simp [ht])
      rw [List.map_cons, szGs, szGs, Nat.add_mul]; omega
  have h3 := hl l fun _ h => h
  have hself : szGs l + 1 ≤ (szGs l + 1) * szG a := Nat.le_mul_of_pos_right _ ha
  rw [subG]
  split
  · rw [szG]; exact Nat.le_mul_of_pos_left _ (by omega)
  · split
    · simpa only [szG] using hself
    · simp only [szG, subGs_map, Nat.add_mul]; omega
theorem sub2_size {x y : Int} {a b : TG} (ha : frG a [] = []) : ∀ t : TG, szG (subG y b (subG x a t)) ≤ szG t * (szG a + szG b) := by
  have hpa := szG_pos a
  have hpb := szG_pos b
  refine TG.ind fun k n ls l ih => ?_
  have hl : ∀ m : List TG, (∀ t ∈ m, t ∈ l) → szGs (subGs y b (subGs x a m)) ≤ szGs m * (szG a + szG b) := by
    intro m
    induction m with
    | nil => intro _; simp [szGs, subGs]
    | cons u r ihm =>
      intro hm
      have h1 := ih u (hm u (by simp))
      have h2 := ihm fun t ht => hm t (by simp [ht])
      rw [subGs, subGs, szGs, szGs, Nat.add_mul]; omega
  have h3 := hl l fun _ h => h
  have hone : szG a + szG b ≤ (szGs l + 1) * (szG a + szG b) := Nat.le_mul_of_pos_left _ (by omega)
  rw [subG]
  split
  · rw [sub_frnil ha]
    simp only [szG]; omega
  · split
    · have h4 := sub_size y b (.mk k n ls l)
      have h5 : szG (TG.mk k n ls l) * szG b ≤ szG (TG.mk k n ls l) * (szG a + szG b) := Nat.mul_le_mul_left _ (by omega)
      omega
    · rw [subG]
      split
      · simp only [szG]; omega
      · split
        · have h4 := sub_size x a (.mk k n ls l)
          rw [subG] at h4
          rename_i h6 h7 _ _
          rw [if_neg h6, if_neg h7] at h4
          have h5 : szG (TG.mk k n ls l) * szG a ≤ szG (TG.mk k n ls l) * (szG a + szG b) := Nat.mul_le_mul_left _ (by omega)
          omega
        · simp only [szG, Nat.add_mul]
          omega
/-! ### The same type -/
theorem sam_refl : ∀ (t : TG) (s : List Int), samG t t s s = true := by
  refine TG.ind fun k n ls l ih s => ?_
  have hl : ∀ (m : List TG) (s : List Int), (∀ t ∈ m, t ∈ l) → samGs m m s s = true := by
    intro m
    induction m with
    | nil => intro s _; rfl
    | cons u r ihm =>
      intro s hm
      rw [samGs, ih u (hm u (by simp)) s, ihm s fun t ht => hm t (by simp [ht])]; rfl
  rw [samG_mk, hl l s fun _ h => h, hl l (s ++ [n]) fun _ h => h]
  simp
/-! ### The law -/
theorem freeS_len0 {a : TG} (h : ¬ (((freeS a).length : Nat) : Int) > 0) : freeS a = [] := List.eq_nil_of_length_eq_zero (by omega)
theorem twice_law_fn (t : TG) (x y : Int) (a b : TG) (hz : szG t + szG a + szG b ≤ 1048576) : FnR Tryd.prog G0 4 [dG t, .int .i64 x, .int .i64 y, dG a, dG b] (.bool true) := by
  have pt := szG_pos t
  have pa := szG_pos a
  have pb := szG_pos b
  refine fnQ_of_vc txok mixed [(1, .take 0 (.take 2 (.run 1 (.fin 3 (.pure 4 (.pure 5 .done)))))), (4, .take 0 (.pure 1 (.take 2 (.pure 4 (.take 5 (.take 7 (.pure 8 (.take 9 (.pure 11 (.take 12 (.run 3 (.run 6 (.run 10 (.fin 13 (.fin 14 (.pure 15 (.fin 16 (.pure 17 (.pure 18 .done)))))))))))))))))))] Tryd.func4 rfl rfl (by simp) fun b' => ?_
  conv => whnf
  refine And.intro (by kernel_rfl) ?_
  conv => whnf
  refine callF (freeT_fn a (by omega)) gf8 rfl rfl ?_
  conv => whnf
  refine callF (freeT_fn b (by omega)) gf8 rfl rfl ?_
  conv => whnf
  refine And.intro (fun h => ?_) (fun h => ?_)
  rotate_left
  · conv => whnf
    refine callF alive_fn gf7 rfl rfl ?_
    conv => whnf
    try exact rfl
  conv => whnf
  refine And.intro (fun h1 => ?_) (fun h1 => ?_)
  rotate_left
  · conv => whnf
    refine callF alive_fn gf7 rfl rfl ?_
    conv => whnf
    try exact rfl
  conv => whnf
  refine And.intro (fun h2 => ?_) (fun h2 => ?_)
  · conv => whnf
    refine callF alive_fn gf7 rfl rfl ?_
    conv => whnf
    try exact rfl
  have hxy : x ≠ y := by simpa using h
  have hfa : freeS a = [] := freeS_len0 (of_decide_eq_false h1)
  have hfb : freeS b = [] := freeS_len0 (of_decide_eq_false h2)
  have ha := free_nil hfa
  have hb := free_nil hfb
  have key : ∀ (u : TG) (z : Int) (c : TG), freeS c = [] → szG c ≤ 1048576 → szG u < 1099511627776 → FnR Tryd.prog G0 9 [dG u, .int .i64 z, dG c] (dG (subG z c u)) := fun u z c hc hcz huz => by
    have := putTop_fn u huz z c (by omega)
    rwa [hc, putF_sub z c _ u (Nat.le_refl _)] at this
  have s1 : szG (subG x a t) < 1099511627776 := by
    have h1 := sub_size x a t
    have h2 : szG t * szG a ≤ 1048575 * 1048576 := Nat.mul_le_mul (by omega) (by omega)
    omega
  have s2 : szG (subG y b t) < 1099511627776 := by
    have h1 := sub_size y b t
    have h2 : szG t * szG b ≤ 1048575 * 1048576 := Nat.mul_le_mul (by omega) (by omega)
    omega
  have s3 : szG (subG y b (subG x a t)) < 1099511627776 := by
    have h1 := sub2_size (y := y) (b := b) (x := x) ha t
    have h2 : szG t * (szG a + szG b) ≤ 1048575 * 1048576 := Nat.mul_le_mul (by omega) (by omega)
    omega
  conv => whnf
  refine And.intro (by kernel_rfl) ?_
  conv => whnf
  refine callF (key t x a hfa (by omega) (by omega)) gf9 rfl rfl ?_
  conv => whnf
  refine callF (key (subG x a t) y b hfb (by omega) s1) gf9 rfl rfl ?_
  conv => whnf
  refine callF (key t y b hfb (by omega) (by omega)) gf9 rfl rfl ?_
  conv => whnf
  refine callF (key (subG y b t) x a hfa (by omega) s2) gf9 rfl rfl ?_
  conv => whnf
  refine callF (sameT_fn (subG y b (subG x a t)) (subG x a (subG y b t)) s3) gf12 rfl rfl ?_
  rw [← sub_comm hxy ha hb t, sam_refl]
  conv => whnf
  refine And.intro (fun _ => ?_) (fun h => by cases h)
  conv => whnf
  refine callF alive_fn gf7 rfl rfl ?_
  conv => whnf
  try exact rfl
end Go.Proofs.YtohmeplcjgmedaaDoor
