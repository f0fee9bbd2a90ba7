/- The law's above; the plain law of SchemeBack: a scheme with new metas, generalised again. -/
import Derived.Test.YtonhlccjfbfkcaaSb
namespace Go.Proofs.Ytonhlccjfbfkcaa
open Go.Vc Go.RowKit

/-- A number above all of a list's, from n on. -/
def aboveL : List Int → Int → Int
  | [], n => n
  | x :: r, n => if x > 2147483648 then 4294967296 else if x ≥ n then aboveL r (x + 1) else aboveL r n
theorem aboveL_spec : ∀ (l : List Int) (n : Int), 0 ≤ n → n ≤ 2147483649 → (aboveL l n = 4294967296 ∨ ((∀ x ∈ l, x < aboveL l n) ∧ n ≤ aboveL l n ∧ aboveL l n ≤ 2147483649))
  | [], n, h0, h1 => .inr ⟨by simp, by simp [aboveL], by simpa [aboveL] using h1⟩
  | x :: r, n, h0, h1 => by
    simp only [aboveL]
    by_cases hx : x > 2147483648
    · rw [if_pos hx]; exact .inl rfl
    · rw [if_neg hx]
      by_cases hn : x ≥ n
      · rw [if_pos hn]
        rcases aboveL_spec r (x + 1) (by omega) (by omega) with h | ⟨h2, h3, h4⟩
        · exact .inl h
        · exact .inr ⟨fun y hy => by rcases List.mem_cons.1 hy with rfl | hy; omega; exact h2 y hy, by omega, h4⟩
      · rw [if_neg hn]
        rcases aboveL_spec r n h0 h1 with h | ⟨h2, h3, h4⟩
        · exact .inl h
        · exact .inr ⟨fun y hy => by rcases List.mem_cons.1 hy with rfl | hy; omega; exact h2 y hy, h3, h4⟩
theorem aboveL_nonneg (l : List Int) : 0 ≤ aboveL l 0 := by
  rcases aboveL_spec l 0 (by omega) (by omega) with h | ⟨_, h, _⟩ <;> omega

theorem above_calls (S : Nat → Prop) (w : World) (t : Tp) (v : Value) (ht : RepT S w t v) (hsz : szT t ≤ 1073741824) :
    Calls Try.prog 23 #[v] w (fun e w' => e = .returned (.int .i64 (aboveL (fnd 7 t []) 0)) ∧ Below w.heap.size w w') := by
  have ht' := ht
  have hf := fnd_sz 7 t []
  simp only [List.length_nil, Nat.zero_add] at hf
  obtain ⟨B, d, rfl, b1, b2, b3⟩ := ht.opn
  refine calls0 tyok mixed [] Try.func23 rfl rfl (by simp) ?_
  conv => whnf
  intro g0
  conv => whnf
  refine ⟨gf12, fun w3 hw3 => resN (metas_calls S w3 t _ (ht'.to (hw3.samev S) (fun _ h _ => h)) (by omega)) hw3 fun v w4 p4 hv st4 => ?_⟩
  obtain ⟨L, lc, rfl, h1, h2⟩ := hv
  have hL := h1.nw h2 st4
  generalize fnd 7 t [] = l at *
  conv => whnf
  refine ⟨fun m st => ∃ (i : Nat) (n : Int), i ≤ l.length ∧ m = l.length - i ∧ 0 ≤ n ∧ n ≤ 2147483649 ∧ aboveL l 0 = aboveL (l.drop i) n ∧ st = ⟨[(5, .v (.int .i64 i)), (4, .v (.slice L l.length lc)), (3, .v (.int .i64 n))], [g0], [], [], p4, w4⟩,
    ⟨l.length, _, ⟨0, 0, Nat.zero_le _, by simp, by omega, by omega, by simp, rfl⟩, weak_of (preP_refl _) ⟨rfl, rfl, rfl, trivial⟩ trivial (List.Sublist.refl _) rfl rfl⟩, ?_⟩
  rintro m st ⟨i, n, hi, hm, hn0, hn1, hx, rfl⟩
  conv => whnf
  refine ⟨fun hb => ?_, fun hb => ?_⟩
  · have hb := of_decide_eq_true hb
    have hil : i < l.length := by omega
    obtain ⟨ad, rfl, _, hld⟩ := hL.ld1 (P := Try.prog) tk3 rfl (i := i) (v := .int .i64 l[i]) (by simp [hil])
    have hd : l.drop i = l[i] :: l.drop (i + 1) := by rw [List.drop_eq_getElem_cons hil]
    rw [hd, aboveL] at hx
    conv => whnf
    refine ⟨ad, rfl, by omega, hb, ?_⟩
    conv => whnf
    intro w7 hw7
    refine ⟨_, hld w7 hw7.same, ?_⟩
    conv => whnf
    refine ⟨fun h => ?_, fun h => ?_⟩
    · have h := of_decide_eq_true h
      rw [if_pos h] at hx
      conv => whnf
      intro w2 hw2
      exact ⟨retI hx.symm, hw2.bel⟩
    · have h := of_decide_eq_false h
      rw [if_neg h] at hx
      conv => whnf
      refine ⟨ad, rfl, by omega, hb, ?_⟩
      conv => whnf
      intro w7 hw7
      refine ⟨_, hld w7 hw7.same, ?_⟩
      conv => whnf
      refine ⟨fun h' => ?_, fun h' => ?_⟩
      · have h' := of_decide_eq_true h'
        rw [if_pos h'] at hx
        conv => whnf
        refine ⟨ad, rfl, by omega, hb, ?_⟩
        conv => whnf
        intro w7 hw7
        refine ⟨_, hld w7 hw7.same, ?_⟩
        conv => whnf
        exact ⟨l.length - (i + 1), _, by omega, ⟨i + 1, l[i] + 1, hil, rfl, by omega, by omega, hx, rfl⟩, weak_of (preP_refl _) ⟨incV (by omega), rfl, by show Value.int .i64 (IntKind.i64.wrap (l[i] + 1)) = .int .i64 (l[i] + 1); rw [Go.Vc.wrap_small (by omega) (by omega)], trivial⟩ trivial (List.Sublist.refl _) rfl rfl⟩
      · have h' := of_decide_eq_false h'
        rw [if_neg h'] at hx
        conv => whnf
        exact ⟨l.length - (i + 1), _, by omega, ⟨i + 1, n, hil, rfl, hn0, hn1, hx, rfl⟩, weak_of (preP_refl _) ⟨incV (by omega), rfl, rfl, trivial⟩ trivial (List.Sublist.refl _) rfl rfl⟩
  · have hb := of_decide_eq_false hb
    have hil : i = l.length := by omega
    rw [List.drop_eq_nil_of_le (by omega), aboveL] at hx
    conv => whnf
    intro w2 hw2
    exact ⟨retI hx.symm, hw2.bel⟩

section
variable {σ : Int → Option Tp} {next : Int} {keep : List Int}
mutual
/-- New metas for generic variables come in the variables' order. -/
theorem fnd_back (hσ : ∀ n, 0 ≤ n → σ n = some (.mk 7 (next + n) []) ∨ σ n = none) (hk : ∀ x ∈ keep, x < next) : ∀ (t : Tp) (acc acc8 : List Int), leafy t → (∀ x, occ 7 x t → x ∈ keep) → (∀ x, occ 8 x t → 0 ≤ x ∧ σ x ≠ none) →
    (acc.filter fun x => !decide (x ∈ keep)) = acc8.map (next + ·) → ((fnd 7 (sub 8 σ t) acc).filter fun x => !decide (x ∈ keep)) = (fnd 8 t acc8).map (next + ·)
  | .mk k n ks, acc, acc8, hlf, h7, h8, ha => by
    by_cases e8 : k = 8
    · subst e8
      have hks : ks = [] := hlf.1 (.inr rfl)
      subst hks
      obtain ⟨q0, q1⟩ := h8 n (.inl ⟨rfl, rfl⟩)
      have hs : σ n = some (.mk 7 (next + n) []) := (hσ n q0).resolve_right q1
      have hsub : sub 8 σ (.mk 8 n []) = .mk 7 (next + n) [] := by rw [sub]; simp only [if_true, hs]
      rw [hsub]
      simp only [fnd, fndL, true_and]
      have hnk : next + n ∉ keep := fun h => by have := hk _ h; omega
      have hm : next + n ∈ acc ↔ n ∈ acc8 := by
        have : next + n ∈ acc ↔ next + n ∈ acc.filter fun x => !decide (x ∈ keep) := by simp [hnk]
        rw [this, ha, List.mem_map]
        constructor
        · rintro ⟨y, hy, he⟩
          have : y = n := by omega
          rwa [← this]
        · exact fun h => ⟨n, h, rfl⟩
      by_cases hn : n ∈ acc8
      · rw [if_neg (fun h => h (hm.2 hn)), if_neg (fun h => h hn)]; exact ha
      · rw [if_pos (fun h => hn (hm.1 h)), if_pos hn, List.filter_append, ha]; simp [hnk]
    · have hsub : sub 8 σ (.mk k n ks) = .mk k n (subL 8 σ ks) := by rw [sub]; simp only [if_neg e8]
      rw [hsub]
      simp only [fnd]
      rw [if_neg (fun h : k = 8 ∧ _ => e8 h.1)]
      refine fndL_back hσ hk ks _ acc8 hlf.2 (fun x hx => h7 x (.inr hx)) (fun x hx => h8 x (.inr hx)) ?_
      split
      · rename_i h
        rw [List.filter_append, ha]
        have := h7 n (.inl ⟨h.1, rfl⟩)
        simp [this]
      · exact ha
theorem fndL_back (hσ : ∀ n, 0 ≤ n → σ n = some (.mk 7 (next + n) []) ∨ σ n = none) (hk : ∀ x ∈ keep, x < next) : ∀ (ts : List Tp) (acc acc8 : List Int), leafyL ts → (∀ x, occL 7 x ts → x ∈ keep) → (∀ x, occL 8 x ts → 0 ≤ x ∧ σ x ≠ none) →
    (acc.filter fun x => !decide (x ∈ keep)) = acc8.map (next + ·) → ((fndL 7 (subL 8 σ ts) acc).filter fun x => !decide (x ∈ keep)) = (fndL 8 ts acc8).map (next + ·)
  | [], acc, acc8, _, _, _, ha => by simpa only [subL, fndL] using ha
  | t :: r, acc, acc8, hlf, h7, h8, ha => by
    simp only [subL, fndL]
    exact fndL_back hσ hk r _ _ hlf.2 (fun x hx => h7 x (.inr hx)) (fun x hx => h8 x (.inr hx)) (fnd_back hσ hk t acc acc8 hlf.1 (fun x hx => h7 x (.inl hx)) (fun x hx => h8 x (.inl hx)) ha)
end
end
theorem sub_back {σ τ : Int → Option Tp} {next : Int} : ∀ t : Tp, leafy t → (∀ x, occ 7 x t → τ x = none) → (∀ x, occ 8 x t → σ x = some (.mk 7 (next + x) []) ∧ τ (next + x) = some (.mk 8 x [])) → sub 7 τ (sub 8 σ t) = t := by
  refine Tp.ind fun k n ks ih => ?_
  intro hlf h7 h8
  by_cases e8 : k = 8
  · subst e8
    have hks : ks = [] := hlf.1 (.inr rfl)
    subst hks
    obtain ⟨q1, q2⟩ := h8 n (.inl ⟨rfl, rfl⟩)
    rw [sub]
    simp only [if_true, q1]
    rw [sub]
    simp only [if_true, q2]
  · have hsub : sub 8 σ (.mk k n ks) = .mk k n (subL 8 σ ks) := by rw [sub]; simp only [if_neg e8]
    rw [hsub, sub]
    have hno : (if k = 7 then τ n else none) = none := by
      split
      · rename_i e; exact h7 n (.inl ⟨e, rfl⟩)
      · rfl
    rw [hno]
    simp only
    rw [subL_map, subL_map, List.map_map]
    congr 1
    have : ∀ u ∈ ks, (sub 7 τ ∘ sub 8 σ) u = id u := fun u hu => ih u hu (leafyL_mem hlf.2 u hu) (fun x hx => h7 x (.inr (occL_of hu hx))) (fun x hx => h8 x (.inr (occL_of hu hx)))
    rw [List.map_congr_left this]
    simp
where
  occL_of {k x : Int} : ∀ {l : List Tp} {u : Tp}, u ∈ l → occ k x u → occL k x l
    | t :: r, u, hu, h => by
      rcases List.mem_cons.1 hu with rfl | hu
      · exact .inl h
      · exact .inr (occL_of hu h)

theorem back_ms {s : Sc} (h : rightS s = true) {next : Int} (hn : ∀ x ∈ fnd 7 s.t [], x < next) : openMs (instT s next) (fnd 7 s.t []) = (fnd 8 s.t []).map (next + ·) := by
  obtain ⟨g, hg, hgl, hok⟩ := rightS_gok h
  have hlf := right_leafy s.t (rightS_right h)
  have hat : ∀ n : Nat, n < g → (fnd 8 s.t [])[n]? = some (n : Int) := by
    intro n hn
    have := isUp_get (rightS_up h) (i := n) (by omega)
    rwa [Int.zero_add] at this
  have hnd := nodup_fnd 8 s.t [] List.nodup_nil
  have h8 : ∀ x, occ 8 x s.t → 0 ≤ x ∧ x < (g : Int) := fun x hx => occ_gok s.t hok hx
  have hsig : ∀ x, 0 ≤ x → x < (g : Int) → tbl (fnd 8 s.t []) (metaL next (fnd 8 s.t []).length) x = some (.mk 7 (next + x) []) := by
    intro x x0 x1
    obtain ⟨q, rfl⟩ : ∃ q : Nat, x = q := ⟨x.toNat, by omega⟩
    rw [metaL_lvs]
    exact tbl_at hnd (hat q (by omega))
  have hsig2 : ∀ n, 0 ≤ n → tbl (fnd 8 s.t []) (metaL next (fnd 8 s.t []).length) n = some (.mk 7 (next + n) []) ∨ tbl (fnd 8 s.t []) (metaL next (fnd 8 s.t []).length) n = none := by
    intro n n0
    rcases e : tbl (fnd 8 s.t []) (metaL next (fnd 8 s.t []).length) n with _ | u
    · exact .inr rfl
    · left
      rw [metaL_lvs] at e
      obtain ⟨q, q1, q2, rfl⟩ := tbl_lvs e
      rw [hat q (by omega)] at q2
      injection q2 with q2
      rw [q2]
  unfold openMs instT
  exact fnd_back hsig2 hn s.t [] [] hlf (fun x hx => (mem_fnd 7 x s.t []).2 (.inr hx)) (fun x hx => ⟨(h8 x hx).1, by rw [hsig x (h8 x hx).1 (h8 x hx).2]; simp⟩) (by simp)
/-- A scheme with new metas, generalised again, is the scheme; no generic variable stays. -/
theorem back_law {s : Sc} (h : rightS s = true) {next : Int} (hn : ∀ x ∈ fnd 7 s.t [], x < next) : fnd 8 (instT s next) [] = [] ∧ genAll (instT s next) (fnd 7 s.t []) = s := by
  obtain ⟨g, hg, hgl, hok⟩ := rightS_gok h
  have hlf := right_leafy s.t (rightS_right h)
  have hat : ∀ n : Nat, n < g → (fnd 8 s.t [])[n]? = some (n : Int) := by
    intro n hn
    have := isUp_get (rightS_up h) (i := n) (by omega)
    rwa [Int.zero_add] at this
  have hnd := nodup_fnd 8 s.t [] List.nodup_nil
  have h8 : ∀ x, occ 8 x s.t → 0 ≤ x ∧ x < (g : Int) := fun x hx => occ_gok s.t hok hx
  have hsig : ∀ x, 0 ≤ x → x < (g : Int) → tbl (fnd 8 s.t []) (metaL next (fnd 8 s.t []).length) x = some (.mk 7 (next + x) []) := by
    intro x x0 x1
    obtain ⟨q, rfl⟩ : ∃ q : Nat, x = q := ⟨x.toNat, by omega⟩
    rw [metaL_lvs]
    exact tbl_at hnd (hat q (by omega))
  have hsig2 : ∀ n, 0 ≤ n → tbl (fnd 8 s.t []) (metaL next (fnd 8 s.t []).length) n = some (.mk 7 (next + n) []) ∨ tbl (fnd 8 s.t []) (metaL next (fnd 8 s.t []).length) n = none := by
    intro n n0
    rcases e : tbl (fnd 8 s.t []) (metaL next (fnd 8 s.t []).length) n with _ | u
    · exact .inr rfl
    · left
      rw [metaL_lvs] at e
      obtain ⟨q, q1, q2, rfl⟩ := tbl_lvs e
      rw [hat q (by omega)] at q2
      injection q2 with q2
      rw [q2]
  have hms : openMs (instT s next) (fnd 7 s.t []) = (fnd 8 s.t []).map (next + ·) := by
    unfold openMs instT
    exact fnd_back hsig2 hn s.t [] [] hlf (fun x hx => (mem_fnd 7 x s.t []).2 (.inr hx)) (fun x hx => ⟨(h8 x hx).1, by rw [hsig x (h8 x hx).1 (h8 x hx).2]; simp⟩) (by simp)
  have h0 : fnd 8 (instT s next) [] = [] := by
    rw [List.eq_nil_iff_forall_not_mem]
    intro y hy
    have := ((mem_fnd 8 y _ []).1 hy).resolve_left (by simp)
    unfold instT at this
    rw [occ_sub (.inr rfl) 8 y s.t hlf] at this
    rcases this with ⟨n, u, _, h2, h3⟩ | ⟨h1, h2⟩
    · rw [metaL_lvs] at h2
      obtain ⟨q, _, _, rfl⟩ := tbl_lvs h2
      simp [occ, occL] at h3
    · exact h2 ⟨rfl, by rw [hsig y (h8 y h1).1 (h8 y h1).2]; simp⟩
  refine ⟨h0, ?_⟩
  unfold genAll
  rw [hms, h0, List.length_map, ← hgl]
  have hs1 : sub 8 (tbl [] (genL (g : Int) ([] : List Int).length)) (instT s next) = instT s next := by
    refine sub_same (fun n u hu => by cases hu) (.inr rfl) _ ?_
    unfold instT
    refine leafy_sub (fun n u hu => ?_) s.t hlf
    rw [metaL_lvs] at hu
    obtain ⟨q, _, _, rfl⟩ := tbl_lvs hu
    exact ⟨fun _ => rfl, trivial⟩
  rw [hs1]
  have hnm : ((fnd 8 s.t []).map (next + ·)).Nodup := by
    rw [List.nodup_iff_pairwise_ne, List.pairwise_map]
    refine List.Pairwise.imp ?_ (List.nodup_iff_pairwise_ne.1 hnd)
    intro a b hab he
    exact hab (by omega)
  have hlm : ((fnd 8 s.t []).map (next + ·)).length = g := by rw [List.length_map]; omega
  have hback : sub 7 (tbl ((fnd 8 s.t []).map (next + ·)) (genL 0 g)) (instT s next) = s.t := by
    unfold instT
    refine sub_back (next := next) s.t hlf (fun x hx => ?_) (fun x hx => ⟨hsig x (h8 x hx).1 (h8 x hx).2, ?_⟩)
    · have hx' := hn x ((mem_fnd 7 x s.t []).2 (.inr hx))
      have := (tbl_none (fs := (fnd 8 s.t []).map (next + ·)) (k := 8) (c := 0) (x := x)).2 (by
        intro hm
        obtain ⟨y, hy, he⟩ := List.mem_map.1 hm
        have := (h8 y (((mem_fnd 8 y s.t []).1 hy).resolve_left (by simp))).1
        omega)
      rw [hlm] at this
      exact this
    · obtain ⟨q, rfl⟩ : ∃ q : Nat, x = q := ⟨x.toNat, by have := (h8 x hx).1; omega⟩
      have := tbl_at hnm (k := 8) (c := 0) (q := q) (x := next + (q : Int)) (by rw [List.getElem?_map, hat q (by have := (h8 _ hx).2; omega)]; rfl)
      rw [hlm, Int.zero_add] at this
      exact this
  rw [hback]
  obtain ⟨x, t⟩ := s
  simp only at hg
  rw [hg]
  simp
end Go.Proofs.Ytonhlccjfbfkcaa
