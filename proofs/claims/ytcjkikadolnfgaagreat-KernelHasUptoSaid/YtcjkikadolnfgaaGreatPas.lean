/- Texts of mine, joined: Za Zb Zc Zd Ze Yc Zf Zg Zh Zi Zj Zk. -/
import Derived.Test.YtcjkikadolnfgaaGreatPar
import Derived.Test.YtcjkikadolnfgaaGreatPaj
import Derived.Test.YtcjkikadolnfgaaGreatPaq
/- Types without names; what putting is there; sameness is equality there. -/
set_option linter.unusedSimpArgs false
set_option linter.unusedVariables false
namespace Go.Proofs.YtcjkikadolnfgaaGreat
inductive DV where
  | num (n : Int)
  | fre (n : Int)
  | lvl (d : Nat)
inductive DB where
  | mk (k : Int) (v : DV) (ls : List ByteArray) (ks : List DB)
abbrev Rho := Int → Nat → DB
def upd (ρ : Rho) (n : Int) (x : Nat → DB) : Rho := fun z => if z = n then x else ρ z
def leafL (l : Nat) : DB := .mk 6 (.lvl l) [] []
def leafF (z : Int) : DB := .mk 6 (.fre z) [] []
mutual
def ev : Nat → Rho → TG → DB
  | d, ρ, .mk k n ls l => if k = 6 then ρ n d else if bndG k = true then .mk k (.num 0) ls (evs (d + 1) (upd ρ n fun _ => leafL d) l) else .mk k (.num n) ls (evs d ρ l)
def evs : Nat → Rho → List TG → List DB
  | _, _, [] => []
  | d, ρ, t :: r => ev d ρ t :: evs d ρ r
end
theorem evs_map (d : Nat) (ρ : Rho) : ∀ l, evs d ρ l = l.map (ev d ρ)
  | [] => by simp [evs]
  | t :: r => by simp [evs, evs_map d ρ r]
theorem upd_eq (ρ : Rho) (n : Int) (x : Nat → DB) : upd ρ n x n = x := by simp [upd]
theorem upd_ne (ρ : Rho) {n z : Int} (x : Nat → DB) (h : z ≠ n) : upd ρ n x z = ρ z := by simp [upd, h]
theorem ev_congr : ∀ (t : TG) (d : Nat) (ρ σ : Rho), (∀ z ∈ frG t [], ρ z = σ z) → ev d ρ t = ev d σ t := by
  refine TG.ind fun k n ls l ih d ρ σ h => ?_
  rw [ev, ev]
  by_cases h6 : k = 6
  · rw [if_pos h6, if_pos h6, h n ((fv_mk ..).2 (.inl ⟨h6, rfl⟩))]
  rw [if_neg h6, if_neg h6]
  by_cases hb : bndG k = true
  · rw [if_pos hb, if_pos hb, evs_map, evs_map]
    congr 1
    refine List.map_congr_left fun u hu => ih u hu _ _ _ fun z hz => ?_
    by_cases e : z = n
    · subst e; rw [upd_eq, upd_eq]
    · rw [upd_ne _ _ e, upd_ne _ _ e, h z ((fv_mk ..).2 (.inr ⟨fun _ => e, u, hu, hz⟩))]
  · rw [if_neg hb, if_neg hb, evs_map, evs_map]
    congr 1
    exact List.map_congr_left fun u hu => ih u hu _ _ _ fun z hz => h z ((fv_mk ..).2 (.inr ⟨fun e => absurd e hb, u, hu, hz⟩))
theorem ev_var (d : Nat) (ρ : Rho) (m : Int) : ev d ρ (varG m) = ρ m d := by rw [varG, ev, if_pos rfl]
theorem lastI_one (s : List Int) (n : Int) : lastI s n < 0 → lastI s n = -1 := by
  unfold lastI
  split
  · rename_i p h
    have hm := List.mem_of_find?_eq_some h
    unfold prI at hm
    simp only [List.mem_map, List.mem_range] at hm
    obtain ⟨j, hj, rfl⟩ := hm
    intro h; simp only at h; omega
  · intro _; rfl
theorem samGs_ev {n m : Nat} {ρ σ : Rho} {c d : List Int} : ∀ (l l' : List TG), (∀ u ∈ l, ∀ v ∈ l', (samG u v c d = true ↔ ev n ρ u = ev m σ v)) → (samGs l l' c d = true ∧ l.length = l'.length ↔ evs n ρ l = evs m σ l')
  | [], [], _ => by simp [samGs, evs]
  | [], v :: r', _ => by simp [evs]
  | u :: r, [], _ => by simp [evs]
  | u :: r, v :: r', h => by
    have h1 := h u (by simp) v (by simp)
    have h2 := samGs_ev r r' fun w hw x hx => h w (by simp [hw]) x (by simp [hx])
    rw [samGs, evs, evs, Bool.and_eq_true, List.cons.injEq, ← h1, ← h2]
    simp only [List.length_cons, Nat.add_right_cancel_iff]
    constructor
    · rintro ⟨⟨x, y⟩, z⟩; exact ⟨x, y, z⟩
    · rintro ⟨x, y, z⟩; exact ⟨⟨x, y⟩, z⟩
theorem ev_put : ∀ (f : Nat) (t : TG) (x : Int) (y : TG) (fr : List Int), szG t ≤ f → okV t = true → (∀ z, z ∈ fr ↔ z ∈ frG y []) → ∀ (d : Nat) (ρ : Rho), ev d ρ (putF f t x y fr) = ev d (upd ρ x fun d' => ev d' ρ y) t
  | 0, .mk k n ls l, x, y, fr, hf, hv, hfr, d, ρ => by simp [szG] at hf
  | f + 1, .mk k n ls l, x, y, fr, hf, hv, hfr, d, ρ => by
    rw [szG] at hf
    obtain ⟨hv6, hvl⟩ := (okV_mk ..).1 hv
    have hsz : ∀ u ∈ l, szG u ≤ f := fun u hu => by have := szG_mem hu; omega
    rw [putF_mk]
    by_cases h1 : k = 6 ∧ n = x
    · rw [if_pos h1, ev, if_pos h1.1, h1.2, upd_eq]
    rw [if_neg h1]
    by_cases h2 : bndG k = true ∧ n = x
    · rw [if_pos h2, ev, ev, if_neg (bnd_ne6 h2.1), if_neg (bnd_ne6 h2.1), if_pos h2.1, if_pos h2.1]
      have : upd (upd ρ x fun d' => ev d' ρ y) n (fun _ => leafL d) = upd ρ n (fun _ => leafL d) := by
        funext z
        by_cases e : z = n
        · subst e; rw [upd_eq, upd_eq]
        · rw [upd_ne _ _ e, upd_ne _ _ e, upd_ne _ _ (by rw [← h2.2]; exact e)]
      rw [this]
    rw [if_neg h2]
    by_cases h3 : bndG k = true ∧ n ∈ fr ∧ 0 < l.length
    · rw [if_pos h3]
      obtain ⟨f1, f2, f3, f4⟩ := fresh_facts fr l x n
      generalize freshN fr l x n = m at *
      rw [ev, ev, if_neg (bnd_ne6 h3.1), if_neg (bnd_ne6 h3.1), if_pos h3.1, if_pos h3.1, evs_map, evs_map]
      congr 1
      rw [List.map_map, List.map_map]
      refine List.map_congr_left fun u hu => ?_
      have hm1 : ∀ z, z ∈ [m] ↔ z ∈ frG (varG m) [] := fun z => by rw [fv_var]; simp
      have s1 := sz_put f u n (varG m) [m] (by rfl)
      simp only [Function.comp]
      rw [ev_put f _ x y fr (by have := hsz u hu; omega) (okV_put f u n (varG m) [m] (okV_var m) (hvl u hu)) hfr, ev_put f u n (varG m) [m] (hsz u hu) (hvl u hu) hm1]
      refine ev_congr _ _ _ _ fun z hz => ?_
      have hzm : z ≠ m := fun e => f2 u hu (e ▸ hz)
      by_cases e : z = n
      · subst e
        rw [upd_eq, upd_eq]
        funext d'
        rw [ev_var, upd_ne _ _ f3, upd_eq]
      · rw [upd_ne _ _ e, upd_ne _ _ e]
        by_cases ex : z = x
        · subst ex
          rw [upd_eq, upd_eq]
          funext d'
          refine ev_congr _ _ _ _ fun w hw => ?_
          rw [upd_ne]
          rintro rfl
          exact f1 ((hfr w).2 hw)
        · rw [upd_ne _ _ ex, upd_ne _ _ ex, upd_ne _ _ hzm]
    rw [if_neg h3]
    by_cases h6 : k = 6
    · have hn : n ≠ x := fun e => h1 ⟨h6, e⟩
      rw [ev, ev, if_pos h6, if_pos h6, upd_ne _ _ hn]
    rw [ev, ev, if_neg h6, if_neg h6]
    by_cases hb : bndG k = true
    · have hn : n ≠ x := fun e => h2 ⟨hb, e⟩
      rw [if_pos hb, if_pos hb, evs_map, evs_map, List.map_map]
      congr 1
      refine List.map_congr_left fun u hu => ?_
      have hfn : n ∉ fr := fun e => h3 ⟨hb, e, List.length_pos_of_mem hu⟩
      simp only [Function.comp]
      rw [ev_put f u x y fr (hsz u hu) (hvl u hu) hfr]
      refine ev_congr _ _ _ _ fun z hz => ?_
      by_cases e : z = x
      · subst e
        rw [upd_eq, upd_ne _ _ (fun e => hn e.symm), upd_eq]
        funext d'
        refine ev_congr _ _ _ _ fun w hw => ?_
        rw [upd_ne]
        rintro rfl
        exact hfn ((hfr w).2 hw)
      · rw [upd_ne _ _ e]
        by_cases e2 : z = n
        · subst e2; rw [upd_eq, upd_eq]
        · rw [upd_ne _ _ e2, upd_ne _ _ e2, upd_ne _ _ e]
    · rw [if_neg hb, if_neg hb, evs_map, evs_map, List.map_map]
      congr 1
      exact List.map_congr_left fun u hu => ev_put f u x y fr (hsz u hu) (hvl u hu) hfr d ρ
def env (s : List Int) : Rho := fun z _ => if lastI s z ≥ 0 then leafL (lastI s z).toNat else leafF z
theorem env_snoc (s : List Int) (n : Int) : env (s ++ [n]) = upd (env s) n fun _ => leafL s.length := by
  funext z
  unfold env
  by_cases e : z = n
  · subst e
    rw [upd_eq]
    funext d
    rw [lastI_end, if_pos (by omega)]; simp
  · rw [upd_ne _ _ e]
    funext d
    rw [lastI_snoc _ e]
theorem sam_ev : ∀ (a b : TG) (s t : List Int), s.length = t.length → okV a = true → okV b = true → (samG a b s t = true ↔ ev s.length (env s) a = ev t.length (env t) b) := by
  refine TG.ind fun k n ls l ih b s t hst ha hb => ?_
  obtain ⟨k', n', ls', l'⟩ := b
  obtain ⟨ha6, hal⟩ := (okV_mk ..).1 ha
  obtain ⟨hb6, hbl⟩ := (okV_mk ..).1 hb
  have key : ∀ (c d : List Int), c.length = d.length → (samGs l l' c d = true ∧ l.length = l'.length ↔ evs c.length (env c) l = evs d.length (env d) l') := fun c d hcd => samGs_ev l l' fun u hu v hv => ih u hu v c d hcd (hal u hu) (hbl v hv)
  rw [sam_iff, ev, ev]
  by_cases h6 : k = 6
  · subst h6
    obtain ⟨rfl, rfl⟩ := ha6 rfl
    rw [if_pos rfl]
    by_cases h6' : k' = 6
    · subst h6'
      obtain ⟨rfl, rfl⟩ := hb6 rfl
      rw [if_pos rfl]
      have : bndG 6 = false := by decide
      simp only [this, true_and, samGs, and_true]
      unfold env
      have q1 := lastI_one s n
      have q2 := lastI_one t n'
      constructor
      · rintro ⟨h, -, -⟩
        obtain ⟨h1, h2⟩ := h trivial
        rw [h1]
        split
        · rfl
        · rw [h2 (by rw [h1]; omega)]
      · intro h
        refine ⟨fun _ => ?_, by simp, by simp⟩
        split at h <;> split at h
        · simp only [leafL, DB.mk.injEq, DV.lvl.injEq, true_and, and_true] at h
          exact ⟨by omega, fun h' => by omega⟩
        · simp [leafL, leafF] at h
        · simp [leafL, leafF] at h
        · simp only [leafF, DB.mk.injEq, DV.fre.injEq, true_and, and_true] at h
          exact ⟨by omega, fun _ => h⟩
    · rw [if_neg h6']
      refine iff_of_false (fun h => h6' h.1.symm) fun h => ?_
      unfold env at h
      split at h <;> split at h <;> simp [leafL, leafF] at h <;> exact h6' h.1.symm
  rw [if_neg h6]
  by_cases h6' : k' = 6
  · subst h6'
    rw [if_pos rfl]
    refine iff_of_false (fun h => h6 h.1) fun h => ?_
    unfold env at h
    split at h <;> split at h <;> simp [leafL, leafF] at h <;> exact h6 h.1
  rw [if_neg h6']
  by_cases hbk : bndG k = true
  · rw [if_pos hbk]
    by_cases hbk' : bndG k' = true
    · rw [if_pos hbk']
      have h1 := key (s ++ [n]) (t ++ [n']) (by simp [hst])
      rw [env_snoc, env_snoc, List.length_append, List.length_append, List.length_singleton, List.length_singleton] at h1
      rw [DB.mk.injEq, ← h1]
      constructor
      · rintro ⟨a1, a2, a3, a4, a5, a6⟩; exact ⟨a1, rfl, a3, a5 hbk, a2⟩
      · rintro ⟨a1, _, a3, a5, a2⟩; exact ⟨a1, a2, a3, fun e => absurd e h6, fun _ => a5, fun _ e => by rw [hbk] at e; cases e⟩
    · rw [if_neg hbk']
      refine iff_of_false (fun h => hbk' (h.1 ▸ hbk)) fun h => ?_
      rw [DB.mk.injEq] at h
      exact hbk' (h.1 ▸ hbk)
  · rw [if_neg hbk]
    by_cases hbk' : bndG k' = true
    · rw [if_pos hbk']
      refine iff_of_false (fun h => hbk (h.1 ▸ hbk')) fun h => ?_
      rw [DB.mk.injEq] at h
      exact hbk (h.1 ▸ hbk')
    · rw [if_neg hbk']
      have h1 := key s t hst
      rw [DB.mk.injEq, ← h1, DV.num.injEq]
      constructor
      · rintro ⟨a1, a2, a3, a4, a5, a6⟩
        obtain ⟨b1, b2⟩ := a6 h6 (by simpa using hbk)
        exact ⟨a1, b1, a3, b2, a2⟩
      · rintro ⟨a1, b1, a3, b2, a2⟩; exact ⟨a1, a2, a3, fun e => absurd e h6, fun e => absurd e hbk, fun _ _ => ⟨b1, b2⟩⟩
end Go.Proofs.YtcjkikadolnfgaaGreat


/- How often a number stands free; sizes behind putting; both hang on the nameless type alone. -/
set_option linter.unusedSimpArgs false
set_option linter.unusedVariables false
namespace Go.Proofs.YtcjkikadolnfgaaGreat
mutual
def cntG (x : Int) : TG → Nat
  | .mk k n _ l => if k = 6 ∧ n = x then 1 else if bndG k = true ∧ n = x then 0 else cntGs x l
def cntGs (x : Int) : List TG → Nat
  | [] => 0
  | t :: r => cntG x t + cntGs x r
end
theorem cnt_le : ∀ (t : TG) (x : Int), cntG x t ≤ szG t := by
  refine TG.ind fun k n ls l ih x => ?_
  rw [cntG, szG]
  have : ∀ m : List TG, (∀ u ∈ m, u ∈ l) → cntGs x m ≤ szGs m := by
    intro m
    induction m with
    | nil => intro _; exact Nat.le_refl _
    | cons u r ihr =>
      intro hm
      have h1 := ihr fun w hw => hm w (by simp [hw])
      have h2 := ih u (hm u (by simp)) x
      rw [cntGs, szGs]; omega
  have := this l fun _ h => h
  split
  · omega
  · split <;> omega
mutual
def szD : DB → Nat
  | .mk _ _ _ l => szDs l + 1
def szDs : List DB → Nat
  | [] => 0
  | t :: r => szD t + szDs r
end
theorem szD_ev : ∀ (t : TG) (x : Int) (c : Nat) (d : Nat) (ρ : Rho), okV t = true → (∀ d, szD (ρ x d) = c) → (∀ z d, z ≠ x → szD (ρ z d) = 1) → szD (ev d ρ t) + cntG x t = szG t + cntG x t * c := by
  refine TG.ind fun k n ls l ih x c d ρ hv hx hz => ?_
  obtain ⟨hv6, hvl⟩ := (okV_mk ..).1 hv
  rw [ev, cntG, szG]
  by_cases h6 : k = 6
  · obtain ⟨rfl, rfl⟩ := hv6 h6
    rw [if_pos h6]
    by_cases e : n = x
    · rw [if_pos ⟨h6, e⟩, e, hx]; simp [szGs]; omega
    · rw [if_neg (fun h => e h.2), hz n d e]
      have hb : bndG k = false := by rw [h6]; decide
      rw [if_neg (by rw [hb]; simp)]
      simp [szGs, cntGs]
  rw [if_neg h6]
  by_cases hb : bndG k = true
  · rw [if_pos hb, szD, evs_map, if_neg (fun h => h6 h.1)]
    by_cases e : n = x
    · rw [if_pos ⟨hb, e⟩]
      have : ∀ m : List TG, (∀ u ∈ m, u ∈ l) → szDs (m.map (ev (d + 1) (upd ρ n fun _ => leafL d))) = szGs m := by
        intro m
        induction m with
        | nil => intro _; rfl
        | cons u r ihr =>
          intro hm
          have h1 := ih u (hm u (by simp)) x 1 (d + 1) (upd ρ n fun _ => leafL d) (hvl u (hm u (by simp))) (fun d' => by rw [← e, upd_eq]; rfl) (fun z d' hzx => by rw [upd_ne _ _ (by rw [e]; exact hzx)]; exact hz z d' hzx)
          rw [List.map_cons, szDs, szGs, ihr fun w hw => hm w (by simp [hw])]
          omega
      rw [this l fun _ h => h]; omega
    · rw [if_neg (fun h => e h.2)]
      have : ∀ m : List TG, (∀ u ∈ m, u ∈ l) → szDs (m.map (ev (d + 1) (upd ρ n fun _ => leafL d))) + cntGs x m = szGs m + cntGs x m * c := by
        intro m
        induction m with
        | nil => intro _; simp [szDs, szGs, cntGs]
        | cons u r ihr =>
          intro hm
          have h1 := ih u (hm u (by simp)) x c (d + 1) (upd ρ n fun _ => leafL d) (hvl u (hm u (by simp))) (fun d' => by rw [upd_ne _ _ (fun h => e h.symm)]; exact hx d') (fun z d' hzx => by
            by_cases e2 : z = n
            · subst e2; rw [upd_eq]; rfl
            · rw [upd_ne _ _ e2]; exact hz z d' hzx)
          have h2 := ihr fun w hw => hm w (by simp [hw])
          rw [List.map_cons, szDs, szGs, cntGs, Nat.add_mul]
          omega
      have := this l fun _ h => h
      omega
  · rw [if_neg hb, szD, evs_map, if_neg (fun h => h6 h.1), if_neg (fun h => hb h.1)]
    have : ∀ m : List TG, (∀ u ∈ m, u ∈ l) → szDs (m.map (ev d ρ)) + cntGs x m = szGs m + cntGs x m * c := by
      intro m
      induction m with
      | nil => intro _; simp [szDs, szGs, cntGs]
      | cons u r ihr =>
        intro hm
        have h1 := ih u (hm u (by simp)) x c d ρ (hvl u (hm u (by simp))) hx hz
        have h2 := ihr fun w hw => hm w (by simp [hw])
        rw [List.map_cons, szDs, szGs, cntGs, Nat.add_mul]
        omega
    have := this l fun _ h => h
    omega
def fre0 : Rho := fun z _ => leafF z
theorem szD_fre (t : TG) (d : Nat) (hv : okV t = true) : szD (ev d fre0 t) = szG t := by
  have := szD_ev t 0 1 d fre0 hv (fun _ => rfl) (fun _ _ _ => rfl)
  omega
theorem sz_putF (f : Nat) (t : TG) (x : Int) (y : TG) (fr : List Int) (hf : szG t ≤ f) (hv : okV t = true) (hy : okV y = true) (hfr : ∀ z, z ∈ fr ↔ z ∈ frG y []) : szG (putF f t x y fr) + cntG x t = szG t + cntG x t * szG y := by
  rw [← szD_fre (putF f t x y fr) 0 (okV_put f t x y fr hy hv), ev_put f t x y fr hf hv hfr]
  exact szD_ev t x (szG y) 0 _ hv (fun d => by rw [upd_eq]; exact szD_fre y d hy) (fun z d h => by rw [upd_ne _ _ h]; rfl)
end Go.Proofs.YtcjkikadolnfgaaGreat


/- The reference's Put: the least spare number. -/
set_option linter.unusedSimpArgs false
set_option linter.unusedVariables false
namespace Go.Proofs.YtcjkikadolnfgaaGreat
open Go.Vx Go.Vc Go.RowKit
theorem lastI_mem (s : List Int) (n : Int) : (decide (lastI s n ≥ 0)) = decide (n ∈ s) := by
  have := lastI_neg s n
  by_cases h : n ∈ s
  · rw [decide_eq_true h, decide_eq_true_eq]; by_cases h2 : lastI s n < 0
    · exact absurd h (this.1 h2)
    · omega
  · rw [decide_eq_false h, decide_eq_false_iff_not]; have := this.2 h; omega
theorem spare_fn (a c : List Int) (x : Int) (hz : a.length + c.length < 1099511627000) : FnR Tryz.prog G0 105 [dI a, dI c, .int .i64 x] (.int .i64 (mex (x :: (a ++ c)) : Nat)) := by
  generalize hL : x :: (a ++ c) = L
  have hlen : L.length = a.length + c.length + 1 := by rw [← hL]; simp
  have hin : ∀ z, z ∈ L ↔ z = x ∨ z ∈ a ∨ z ∈ c := fun z => by rw [← hL]; simp
  refine fnQ_of_vc txok mixed [] Tryz.func105 rfl rfl (by simp) fun b => ?_
  conv => whnf
  refine loopH (fun i : Nat => (∀ j, j < i → ((j : Nat) : Int) ∈ L) ∧ mex L = mexF (L.length + 1 - i) i L) (fun i => L.length + 1 - i) (fun i => [(7, .d (.int .i64 i))]) (fun _ => []) 0 0 ⟨fun j hj => by omega, rfl⟩ (weak_of rfl (by repeat ((conv => whnf); first | exact trivial | refine And.intro rfl ?_ | refine And.intro (incD (by omega)) ?_)) (by repeat ((conv => whnf); first | exact trivial | refine And.intro rfl ?_ | refine And.intro (incD (by omega)) ?_))) ?_
  rintro i ⟨hall, hx⟩
  have hle := all_le hall
  have hA := level_fn a (i : Int) (by omega)
  have hC := level_fn c (i : Int) (by omega)
  have ea := lastI_mem a (i : Int)
  have ec := lastI_mem c (i : Int)
  have hf : L.length + 1 - i = (L.length - i) + 1 := by omega
  rw [hf, mexF] at hx
  have go : (i : Int) ∈ L → (∀ j, j < i + 1 → ((j : Nat) : Int) ∈ L) := by
    intro h j hj
    rcases Nat.lt_or_ge j i with h' | h'
    · exact hall j h'
    · obtain rfl : j = i := by omega
      exact h
  conv => whnf
  refine And.intro (fun h => ?_) (fun h => ?_)
  · have h : ¬ (i : Int) = x := ne_of_beq_false h
    conv => whnf
    refine callF hA gf52 rfl rfl ?_
    conv => whnf
    rw [ea]
    refine And.intro (fun h2 => ?_) (fun h2 => ?_)
    · have h2 := of_decide_eq_false h2
      conv => whnf
      refine callF hC gf52 rfl rfl ?_
      conv => whnf
      rw [ec]
      refine And.intro (fun h3 => ?_) (fun h3 => ?_)
      · have h3 := of_decide_eq_true h3
        have hm : (i : Int) ∈ L := (hin _).2 (.inr (.inr h3))
        have := all_le (go hm)
        rw [if_pos hm] at hx
        conv => whnf
        rw [incD (by omega)]
        exact again (i + 1) (by omega) ⟨go hm, by rw [hx]; congr 1; omega⟩ (weak_of rfl (by repeat ((conv => whnf); first | exact trivial | refine And.intro rfl ?_ | refine And.intro (incD (by omega)) ?_)) (by repeat ((conv => whnf); first | exact trivial | refine And.intro rfl ?_ | refine And.intro (incD (by omega)) ?_)))
      · have h3 := of_decide_eq_false h3
        have hno : ¬ (i : Int) ∈ L := fun hm => ((hin _).1 hm).elim h fun e => e.elim h2 h3
        rw [if_neg hno] at hx
        conv => whnf
        rw [hx]
    · have h2 := of_decide_eq_true h2
      have hm : (i : Int) ∈ L := (hin _).2 (.inr (.inl h2))
      have := all_le (go hm)
      rw [if_pos hm] at hx
      repeat' ((conv => whnf); first | (refine And.intro (fun hf => ?_) (fun hf => ?_) <;> first | exact Bool.noConfusion hf | skip))
      conv => whnf
      rw [incD (by omega)]
      exact again (i + 1) (by omega) ⟨go hm, by rw [hx]; congr 1; omega⟩ (weak_of rfl (by repeat ((conv => whnf); first | exact trivial | refine And.intro rfl ?_ | refine And.intro (incD (by omega)) ?_)) (by repeat ((conv => whnf); first | exact trivial | refine And.intro rfl ?_ | refine And.intro (incD (by omega)) ?_)))
  · have h : (i : Int) = x := eq_of_beq h
    have hm : (i : Int) ∈ L := (hin _).2 (.inl h)
    have := all_le (go hm)
    rw [if_pos hm] at hx
    repeat' ((conv => whnf); first | (refine And.intro (fun hf => ?_) (fun hf => ?_) <;> first | exact Bool.noConfusion hf | skip))
    conv => whnf
    rw [incD (by omega)]
    exact again (i + 1) (by omega) ⟨go hm, by rw [hx]; congr 1; omega⟩ (weak_of rfl (by repeat ((conv => whnf); first | exact trivial | refine And.intro rfl ?_ | refine And.intro (incD (by omega)) ?_)) (by repeat ((conv => whnf); first | exact trivial | refine And.intro rfl ?_ | refine And.intro (incD (by omega)) ?_)))
end Go.Proofs.YtcjkikadolnfgaaGreat


/- The reference's Put. -/
set_option linter.unusedSimpArgs false
set_option linter.unusedVariables false
namespace Go.Proofs.YtcjkikadolnfgaaGreat
open Go.Vx Go.Vc Go.RowKit
def Zdpq0 : List (Nat × Go.Vc.Pl) := [(7, .pure 0 (.take 1 (.run 2 (.pure 3 (.take 4 (.pure 6 (.take 7 (.run 5 (.fin 8 (.pure 9 (.pure 10 (.pure 11 .done)))))))))))), (21, .pure 0 (.take 1 (.take 2 (.pure 3 (.take 4 (.run 5 (.run 6 (.fin 7 (.pure 8 (.fin 9 .done))))))))))]
def spN (l : List TG) (y : TG) (x : Int) : Int := (mex (x :: (putL [] (frGs l []) ++ freeS y)) : Nat)
def rputF : Nat → TG → Int → TG → TG
  | 0, t, _, _ => t
  | f + 1, t, x, y =>
    if t.k = 6 ∧ t.n = x then y
    else if bndG t.k = true ∧ t.n = x then t
    else if bndG t.k = true ∧ t.n ∈ freeS y then
      .mk t.k (spN t.kids y x) t.ls (t.kids.map fun u => rputF f (rputF f u t.n (varG (spN t.kids y x))) x y)
    else .mk t.k t.n t.ls (t.kids.map fun u => rputF f u x y)
theorem rputF_mk (f : Nat) (k n : Int) (ls : List ByteArray) (l : List TG) (x : Int) (y : TG) : rputF (f + 1) (.mk k n ls l) x y =
    if k = 6 ∧ n = x then y
    else if bndG k = true ∧ n = x then .mk k n ls l
    else if bndG k = true ∧ n ∈ freeS y then
      .mk k (spN l y x) ls (l.map fun u => rputF f (rputF f u n (varG (spN l y x))) x y)
    else .mk k n ls (l.map fun u => rputF f u x y) := rfl
theorem spN_facts (l : List TG) (y : TG) (x : Int) : spN l y x ≠ x ∧ (∀ u ∈ l, spN l y x ∉ frG u []) ∧ spN l y x ∉ freeS y := by
  have h := mex_not (x :: (putL [] (frGs l []) ++ freeS y))
  have h : spN l y x ∉ x :: (putL [] (frGs l []) ++ freeS y) := h
  simp only [List.mem_cons, List.mem_append, not_or] at h
  refine ⟨h.1, fun u hu hm => h.2.1 ?_, h.2.2⟩
  obtain ⟨_, h2, _⟩ := putL_facts (frGs l []) [] List.Pairwise.nil
  exact (h2 _).2 (.inr ((mem_frGs ..).2 ⟨u, hu, hm⟩))
theorem sz_rput : ∀ (f : Nat) (t : TG) (x : Int) (y : TG), szG y = 1 → szG (rputF f t x y) ≤ szG t
  | 0, _, _, _, _ => Nat.le_refl _
  | f + 1, .mk k n ls l, x, y, hy => by
    rw [rputF_mk]
    have := szG_pos (.mk k n ls l)
    split
    · omega
    split
    · exact Nat.le_refl _
    split
    · rw [szG, szG]
      have := szGs_map_le (g := fun u => rputF f (rputF f u n (varG (spN l y x))) x y) (l := l) fun u _ => Nat.le_trans (sz_rput f _ x y hy) (sz_rput f u n _ rfl)
      omega
    · rw [szG, szG]
      have := szGs_map_le (g := fun u => rputF f u x y) (l := l) fun u _ => sz_rput f u x y hy
      omega
theorem okV_rput : ∀ (f : Nat) (t : TG) (x : Int) (y : TG), okV y = true → okV t = true → okV (rputF f t x y) = true
  | 0, _, _, _, _, h => h
  | f + 1, .mk k n ls l, x, y, hy, hv => by
    obtain ⟨hv6, hvl⟩ := (okV_mk ..).1 hv
    rw [rputF_mk]
    split
    · exact hy
    split
    · exact hv
    split
    · rename_i h
      refine (okV_mk ..).2 ⟨fun h6 => absurd h6 (bnd_ne6 h.1), fun u hu => ?_⟩
      obtain ⟨w, hw, rfl⟩ := List.mem_map.1 hu
      exact okV_rput f _ x y hy (okV_rput f w n _ (okV_var _) (hvl w hw))
    · refine (okV_mk ..).2 ⟨fun h6 => by obtain ⟨rfl, rfl⟩ := hv6 h6; exact ⟨rfl, rfl⟩, fun u hu => ?_⟩
      obtain ⟨w, hw, rfl⟩ := List.mem_map.1 hu
      exact okV_rput f w x y hy (hvl w hw)
theorem ev_rput : ∀ (f : Nat) (t : TG) (x : Int) (y : TG), szG t ≤ f → okV t = true → ∀ (d : Nat) (ρ : Rho), ev d ρ (rputF f t x y) = ev d (upd ρ x fun d' => ev d' ρ y) t
  | 0, .mk k n ls l, x, y, hf, hv, d, ρ => by simp [szG] at hf
  | f + 1, .mk k n ls l, x, y, hf, hv, d, ρ => by
    rw [szG] at hf
    obtain ⟨hv6, hvl⟩ := (okV_mk ..).1 hv
    have hsz : ∀ u ∈ l, szG u ≤ f := fun u hu => by have := szG_mem hu; omega
    have hfr : ∀ z, z ∈ freeS y ↔ z ∈ frG y [] := fun z => mem_freeS y z
    rw [rputF_mk]
    by_cases h1 : k = 6 ∧ n = x
    · rw [if_pos h1, ev, if_pos h1.1, h1.2, upd_eq]
    rw [if_neg h1]
    by_cases h2 : bndG k = true ∧ n = x
    · rw [if_pos h2, ev, ev, if_neg (bnd_ne6 h2.1), if_neg (bnd_ne6 h2.1), if_pos h2.1, if_pos h2.1]
      have : upd (upd ρ x fun d' => ev d' ρ y) n (fun _ => leafL d) = upd ρ n (fun _ => leafL d) := by
        funext z
        by_cases e : z = n
        · subst e; rw [upd_eq, upd_eq]
        · rw [upd_ne _ _ e, upd_ne _ _ e, upd_ne _ _ (by rw [← h2.2]; exact e)]
      rw [this]
    rw [if_neg h2]
    by_cases h3 : bndG k = true ∧ n ∈ freeS y
    · rw [if_pos h3]
      obtain ⟨f3, f2, f1⟩ := spN_facts l y x
      generalize spN l y x = m at *
      rw [ev, ev, if_neg (bnd_ne6 h3.1), if_neg (bnd_ne6 h3.1), if_pos h3.1, if_pos h3.1, evs_map, evs_map]
      congr 1
      rw [List.map_map]
      refine List.map_congr_left fun u hu => ?_
      have s1 := sz_rput f u n (varG m) rfl
      simp only [Function.comp]
      rw [ev_rput f _ x y (by have := hsz u hu; omega) (okV_rput f u n (varG m) (okV_var m) (hvl u hu)), ev_rput f u n (varG m) (hsz u hu) (hvl u hu)]
      refine ev_congr _ _ _ _ fun z hz => ?_
      have hzm : z ≠ m := fun e => f2 u hu (e ▸ hz)
      by_cases e : z = n
      · subst e
        rw [upd_eq, upd_eq]
        funext d'
        rw [ev_var, upd_ne _ _ f3, upd_eq]
      · rw [upd_ne _ _ e, upd_ne _ _ e]
        by_cases ex : z = x
        · subst ex
          rw [upd_eq, upd_eq]
          funext d'
          refine ev_congr _ _ _ _ fun w hw => ?_
          rw [upd_ne]
          rintro rfl
          exact f1 ((hfr w).2 hw)
        · rw [upd_ne _ _ ex, upd_ne _ _ ex, upd_ne _ _ hzm]
    rw [if_neg h3]
    by_cases h6 : k = 6
    · have hn : n ≠ x := fun e => h1 ⟨h6, e⟩
      rw [ev, ev, if_pos h6, if_pos h6, upd_ne _ _ hn]
    rw [ev, ev, if_neg h6, if_neg h6]
    by_cases hb : bndG k = true
    · have hn : n ≠ x := fun e => h2 ⟨hb, e⟩
      rw [if_pos hb, if_pos hb, evs_map, evs_map, List.map_map]
      congr 1
      refine List.map_congr_left fun u hu => ?_
      have hfn : n ∉ freeS y := fun e => h3 ⟨hb, e⟩
      simp only [Function.comp]
      rw [ev_rput f u x y (hsz u hu) (hvl u hu)]
      refine ev_congr _ _ _ _ fun z hz => ?_
      by_cases e : z = x
      · subst e
        rw [upd_eq, upd_ne _ _ (fun e => hn e.symm), upd_eq]
        funext d'
        refine ev_congr _ _ _ _ fun w hw => ?_
        rw [upd_ne]
        rintro rfl
        exact hfn ((hfr w).2 hw)
      · rw [upd_ne _ _ e]
        by_cases e2 : z = n
        · subst e2; rw [upd_eq, upd_eq]
        · rw [upd_ne _ _ e2, upd_ne _ _ e2, upd_ne _ _ e]
    · rw [if_neg hb, if_neg hb, evs_map, evs_map, List.map_map]
      congr 1
      exact List.map_congr_left fun u hu => ev_rput f u x y (hsz u hu) (hvl u hu) d ρ
def RPutOk (f : Nat) : Prop := ∀ t : TG, szG t ≤ f → ∀ (x : Int) (y : TG), szG t + szG y < 1099511600000 → FnR Tryz.prog G0 66 [dG t, .int .i64 x, dG y] (dG (rputF f t x y))
set_option maxRecDepth 20000 in
theorem rput_fn : ∀ f, RPutOk f := by
  intro f
  induction f with
  | zero =>
    intro t ht
    have := szG_pos t
    omega
  | succ f ih =>
    intro t ht x y hz
    obtain ⟨k, n, ls, l⟩ := t
    have hsz : szG (.mk k n ls l) = szGs l + 1 := by simp only [szG]
    rw [hsz] at ht hz
    have hyp := szG_pos y
    refine fnQ_sz fun hs => ?_
    have hl := (szOk_G (t := .mk k n ls l) hs.1).1
    simp only [g_kids, LB] at hl
    have hfy := freeS_len y
    have hF := rfreeTypes_fn y (by omega)
    refine fnQ_of_wk (N := 97) txok mixed Tryz.func66 rfl rfl (by simp) fun b => ?_
    refine wk_seq ⟨[(1, .d (.int .i64 x)), (3, .own 0 0), (5, .own 1 0), (6, .own 2 0)], [(0, .blk 28 [.d (.int .i64 k), .d (.int .i64 n), .d (dL ls), .d (dGs l)]), (1, .blk 28 [.d (.int .i64 y.k), .d (.int .i64 y.n), .d (dL y.ls), .d (dGs y.kids)]), (2, .blk 28 [.d (.int .i64 0), .d (.int .i64 0), .nl, .nl])], 3⟩ (wk_vc txok mixed [] ?_) ?_
    · conv => whnf
      exact weak_of rfl (by repeat ((conv => whnf); first | exact trivial | refine And.intro rfl ?_ | refine And.intro (incD (by omega)) ?_)) (by repeat ((conv => whnf); first | exact trivial | refine And.intro rfl ?_ | refine And.intro (incD (by omega)) ?_))
    by_cases h1 : k = 6 ∧ n = x
    · rw [rputF_mk, if_pos h1]
      obtain ⟨rfl, rfl⟩ := h1
      refine wk_seqR (wk_vc txok mixed [] ?_)
      conv => whnf
      refine And.intro (fun h => ?_) (fun h => Bool.noConfusion h)
      conv => whnf
      refine And.intro (fun h => ?_) (fun h => absurd h (by simp))
      conv => whnf
      try exact rfl
    refine wk_seq ⟨[(1, .d (.int .i64 x)), (3, .own 0 0), (5, .own 1 0), (6, .own 2 0)], [(0, .blk 28 [.d (.int .i64 k), .d (.int .i64 n), .d (dL ls), .d (dGs l)]), (1, .blk 28 [.d (.int .i64 y.k), .d (.int .i64 y.n), .d (dL y.ls), .d (dGs y.kids)]), (2, .blk 28 [.d (.int .i64 0), .d (.int .i64 0), .nl, .nl])], 3⟩ (wk_vc txok mixed [] ?_) ?_
    · conv => whnf
      refine And.intro (fun h => ?_) (fun h => ?_)
      · have h : k = 6 := eq_of_beq h
        conv => whnf
        refine And.intro (fun h2 => absurd ⟨h, eq_of_beq h2⟩ h1) (fun h2 => ?_)
        conv => whnf
        exact weak_of rfl (by repeat ((conv => whnf); first | exact trivial | refine And.intro rfl ?_ | refine And.intro (incD (by omega)) ?_)) (by repeat ((conv => whnf); first | exact trivial | refine And.intro rfl ?_ | refine And.intro (incD (by omega)) ?_))
      · conv => whnf
        exact weak_of rfl (by repeat ((conv => whnf); first | exact trivial | refine And.intro rfl ?_ | refine And.intro (incD (by omega)) ?_)) (by repeat ((conv => whnf); first | exact trivial | refine And.intro rfl ?_ | refine And.intro (incD (by omega)) ?_))
    by_cases h2 : bndG k = true ∧ n = x
    · rw [rputF_mk, if_neg h1, if_pos h2]
      have hB := bindsR_fn k
      rw [h2.1] at hB
      refine wk_seqR (wk_vc txok mixed [] ?_)
      conv => whnf
      refine callF hB gf54 rfl rfl ?_
      conv => whnf
      refine And.intro (fun h => ?_) (fun h => Bool.noConfusion h)
      conv => whnf
      refine And.intro (fun h => ?_) (fun h => absurd h2.2 (by simpa using h))
      conv => whnf
      try exact rfl
    refine wk_seq ⟨[(1, .d (.int .i64 x)), (3, .own 0 0), (5, .own 1 0), (6, .own 2 0)], [(0, .blk 28 [.d (.int .i64 k), .d (.int .i64 n), .d (dL ls), .d (dGs l)]), (1, .blk 28 [.d (.int .i64 y.k), .d (.int .i64 y.n), .d (dL y.ls), .d (dGs y.kids)]), (2, .blk 28 [.d (.int .i64 0), .d (.int .i64 0), .nl, .nl])], 3⟩ (wk_vc txok mixed [] ?_) ?_
    · conv => whnf
      refine callF (bindsR_fn k) gf54 rfl rfl ?_
      conv => whnf
      refine And.intro (fun h => ?_) (fun h => ?_)
      · conv => whnf
        refine And.intro (fun h3 => absurd ⟨h, eq_of_beq h3⟩ h2) (fun h3 => ?_)
        conv => whnf
        exact weak_of rfl (by repeat ((conv => whnf); first | exact trivial | refine And.intro rfl ?_ | refine And.intro (incD (by omega)) ?_)) (by repeat ((conv => whnf); first | exact trivial | refine And.intro rfl ?_ | refine And.intro (incD (by omega)) ?_))
      · conv => whnf
        exact weak_of rfl (by repeat ((conv => whnf); first | exact trivial | refine And.intro rfl ?_ | refine And.intro (incD (by omega)) ?_)) (by repeat ((conv => whnf); first | exact trivial | refine And.intro rfl ?_ | refine And.intro (incD (by omega)) ?_))
    refine wk_seq ⟨[(1, .d (.int .i64 x)), (3, .own 0 0), (5, .own 1 0), (6, .own 2 0), (7, .own 3 0)], [(0, .blk 28 [.d (.int .i64 k), .d (.int .i64 n), .d (dL ls), .d (dGs l)]), (1, .blk 28 [.d (.int .i64 y.k), .d (.int .i64 y.n), .d (dL y.ls), .d (dGs y.kids)]), (2, .blk 28 [.d (.int .i64 0), .d (.int .i64 0), .nl, .nl]), (3, .blk 28 [.d (.int .i64 k), .d (.int .i64 n), .d (dL ls), .d (dGs l)])], 4⟩ (wk_vc txok mixed [] ?_) ?_
    · conv => whnf
      exact weak_of rfl (by repeat ((conv => whnf); first | exact trivial | refine And.intro rfl ?_ | refine And.intro (incD (by omega)) ?_)) (by repeat ((conv => whnf); first | exact trivial | refine And.intro rfl ?_ | refine And.intro (incD (by omega)) ?_))
    refine wk_seq ⟨[(1, .d (.int .i64 x)), (3, .own 0 0), (5, .own 1 0), (6, .own 2 0), (7, .own 3 0)], [(0, .blk 28 [.d (.int .i64 k), .d (.int .i64 n), .d (dL ls), .d (dGs l)]), (1, .blk 28 [.d (.int .i64 y.k), .d (.int .i64 y.n), .d (dL y.ls), .d (dGs y.kids)]), (2, .blk 28 [.d (.int .i64 0), .d (.int .i64 0), .nl, .nl]), (3, .blk 28 [.d (.int .i64 k), .d (.int .i64 n), .d (dL ls), .nl])], 4⟩ (wk_vc txok mixed [] ?_) ?_
    · conv => whnf
      exact weak_of rfl (by repeat ((conv => whnf); first | exact trivial | refine And.intro rfl ?_ | refine And.intro (incD (by omega)) ?_)) (by repeat ((conv => whnf); first | exact trivial | refine And.intro rfl ?_ | refine And.intro (incD (by omega)) ?_))
    generalize hturn : (bndG k && decide (n ∈ freeS y)) = turn
    refine wk_seq ⟨[(8, .d (.bool turn)), (1, .d (.int .i64 x)), (3, .own 0 0), (5, .own 1 0), (6, .own 2 0), (7, .own 3 0)], [(0, .blk 28 [.d (.int .i64 k), .d (.int .i64 n), .d (dL ls), .d (dGs l)]), (1, .blk 28 [.d (.int .i64 y.k), .d (.int .i64 y.n), .d (dL y.ls), .d (dGs y.kids)]), (2, .blk 28 [.d (.int .i64 0), .d (.int .i64 0), .nl, .nl]), (3, .blk 28 [.d (.int .i64 k), .d (.int .i64 n), .d (dL ls), .nl])], 4⟩ (wk_vc txok mixed Zdpq0 ?_) ?_
    · conv => whnf
      refine And.intro (by kernel_rfl) ?_
      conv => whnf
      refine callF (bindsR_fn k) gf54 rfl rfl ?_
      conv => whnf
      refine And.intro (fun h => ?_) (fun h => ?_)
      · rw [h, Bool.true_and] at hturn
        have hA := level_fn (freeS y) n (by omega)
        have ea := lastI_mem (freeS y) n
        repeat' ((conv => whnf); first
          | refine callF hF gf36 rfl rfl ?_
          | refine callF hA gf52 rfl rfl ?_
          | refine And.intro ?_ ?_)
        all_goals (conv => whnf)
        all_goals rw [ea, hturn]
        all_goals exact weak_of rfl (by repeat ((conv => whnf); first | exact trivial | refine And.intro rfl ?_ | refine And.intro (incD (by omega)) ?_)) (by repeat ((conv => whnf); first | exact trivial | refine And.intro rfl ?_ | refine And.intro (incD (by omega)) ?_))
      · have h : bndG k = false := h
        rw [h, Bool.false_and] at hturn
        subst hturn
        repeat' ((conv => whnf); first | refine And.intro ?_ ?_)
        all_goals (conv => whnf)
        all_goals refine (weak_kbT 8 false (by exact rfl)).trans (weak_of rfl (by repeat ((conv => whnf); first | exact trivial | refine And.intro rfl ?_ | refine And.intro (incD (by omega)) ?_)) (by repeat ((conv => whnf); first | exact trivial | refine And.intro rfl ?_ | refine And.intro (incD (by omega)) ?_)))
    cases turn
    · have hturn : ¬ (bndG k = true ∧ n ∈ freeS y) := by simpa using hturn
      rw [rputF_mk, if_neg h1, if_neg h2, if_neg hturn]
      refine wk_seq ⟨[(8, .d (.bool false)), (1, .d (.int .i64 x)), (3, .own 0 0), (5, .own 1 0), (6, .own 2 0), (7, .own 3 0)], [(0, .blk 28 [.d (.int .i64 k), .d (.int .i64 n), .d (dL ls), .d (dGs l)]), (1, .blk 28 [.d (.int .i64 y.k), .d (.int .i64 y.n), .d (dL y.ls), .d (dGs y.kids)]), (2, .blk 28 [.d (.int .i64 0), .d (.int .i64 0), .nl, .nl]), (3, .blk 28 [.d (.int .i64 k), .d (.int .i64 n), .d (dL ls), .nl])], 4⟩ (wk_vc txok mixed [] ?_) ?_
      · conv => whnf
        refine And.intro (fun h => Bool.noConfusion h) (fun h => ?_)
        conv => whnf
        exact weak_of rfl (by repeat ((conv => whnf); first | exact trivial | refine And.intro rfl ?_ | refine And.intro (incD (by omega)) ?_)) (by repeat ((conv => whnf); first | exact trivial | refine And.intro rfl ?_ | refine And.intro (incD (by omega)) ?_))
      have hput : ∀ u ∈ l, FnR Tryz.prog G0 66 [dG u, .int .i64 x, dG y] (dG ((fun u => rputF f u x y) u)) := fun u hu => ih u (by have := szG_mem hu; omega) x y (by have := szG_mem hu; omega)
      generalize hg : (fun u => rputF f u x y) = g at *
      refine wk_seq ⟨[(1, .d (.int .i64 x)), (3, .own 0 0), (5, .own 1 0), (6, .own 2 0), (7, .own 3 0)], [(0, .blk 28 [.d (.int .i64 k), .d (.int .i64 n), .d (dL ls), .d (dGs l)]), (1, .blk 28 [.d (.int .i64 y.k), .d (.int .i64 y.n), .d (dL y.ls), .d (dGs y.kids)]), (2, .blk 28 [.d (.int .i64 0), .d (.int .i64 0), .nl, .nl]), (3, .blk 28 [.d (.int .i64 k), .d (.int .i64 n), .d (dL ls), .row 4]), (4, .row 28 64 4 ((l.take l.length).map g).length (encGs ((l.take l.length).map g)))], 5⟩ (wk_vc txok mixed Zdpq0 ?_) ?_
      · conv => whnf
        refine loopH (fun i : Nat => i ≤ l.length) (fun i => l.length - i) (fun i => [(11, .d (.int .i64 i))]) (fun i => [(0, .blk 28 [.d (.int .i64 k), .d (.int .i64 n), .d (dL ls), .d (dGs l)]), (1, .blk 28 [.d (.int .i64 y.k), .d (.int .i64 y.n), .d (dL y.ls), .d (dGs y.kids)]), (2, .blk 28 [.d (.int .i64 0), .d (.int .i64 0), .nl, .nl]), (3, .blk 28 [.d (.int .i64 k), .d (.int .i64 n), .d (dL ls), .row 4]), (4, .row 28 64 4 ((l.take i).map g).length (encGs ((l.take i).map g)))]) 5 0 (by omega) ((weak_nlC 3 3 28 64 4 rfl rfl).trans (weak_of rfl (by repeat ((conv => whnf); first | exact trivial | refine And.intro rfl ?_ | refine And.intro (incD (by omega)) ?_)) (by repeat ((conv => whnf); first | exact trivial | refine And.intro rfl ?_ | refine And.intro (incD (by omega)) ?_)))) ?_
        intro i hi
        have hml : ((l.take i).map g).length = i := by simp; omega
        conv => whnf
        refine And.intro (fun hb => ?_) (fun hb => ?_)
        · have hil : i < l.length := by have := of_decide_eq_true hb; omega
          have htk : (l.take (i + 1)).map g = (l.take i).map g ++ [g l[i]] := by rw [List.take_succ_eq_append_getElem hil, List.map_append]; rfl
          have hP := hput l[i] (List.getElem_mem hil)
          generalize hgl : g l[i] = w at *
          obtain ⟨k1, n1, l1, m1⟩ := w
          conv => whnf
          refine IdxC.encGs i hil rfl ?_
          conv => whnf
          refine And.intro (fun h => Bool.noConfusion h) (fun h => ?_)
          conv => whnf
          refine And.intro (by kernel_rfl) ?_
          conv => whnf
          refine callF hP gf66 rfl rfl ?_
          conv => whnf
          refine appR (i := 4) (sz := 4) (n := ((l.take i).map g).length) (m := 1) (xs := encGs ((l.take i).map g)) (ys := encGs [TG.mk k1 n1 l1 m1]) txok (fun k => Nat.ble 6 k) ((l.take (i + 1)).map g).length (encGs ((l.take (i + 1)).map g)) (by exact rfl) (by exact rfl) (by exact rfl) (by kernel_rfl) (by exact rfl) (encGs_scal _) (by rw [htk]; simp) (by rw [htk, encGs_app]) (by simp only [LB, List.length_map, List.length_take]; omega) ?_
          conv => whnf
          rw [incD (by omega)]
          exact again (i + 1) (by omega) (by omega) (weak_of rfl (by repeat ((conv => whnf); first | exact trivial | refine And.intro rfl ?_ | refine And.intro (incD (by omega)) ?_)) (by repeat ((conv => whnf); first | exact trivial | refine And.intro rfl ?_ | refine And.intro (incD (by omega)) ?_)))
        · have hil : i = l.length := by have := of_decide_eq_false hb; omega
          subst hil
          conv => whnf
          exact weak_of rfl (by repeat ((conv => whnf); first | exact trivial | refine And.intro rfl ?_ | refine And.intro (incD (by omega)) ?_)) (by repeat ((conv => whnf); first | exact trivial | refine And.intro rfl ?_ | refine And.intro (incD (by omega)) ?_))
      rw [List.take_length]
      refine wk_vc txok mixed [] ?_
      conv => whnf
      try exact rfl
    · simp only [Bool.and_eq_true, decide_eq_true_eq] at hturn
      rw [rputF_mk, if_neg h1, if_neg h2, if_pos hturn]
      have hfl := frGs_len l []
      have hpl := putL_len (frGs l []) []
      simp only [List.length_nil] at hpl
      have hS : FnR Tryz.prog G0 105 [dI (putL [] (frGs l [])), dI (freeS y), .int .i64 x] (.int .i64 (spN l y x)) := spare_fn (putL [] (frGs l [])) (freeS y) x (by omega)
      obtain ⟨m1, hm1⟩ : ∃ m, m = spN l y x := ⟨_, rfl⟩
      refine wk_seq ⟨[(8, .d (.bool true)), (1, .d (.int .i64 x)), (3, .own 0 0), (5, .own 1 0), (6, .own 2 0), (7, .own 3 0)], [(0, .blk 28 [.d (.int .i64 k), .d (.int .i64 n), .d (dL ls), .d (dGs l)]), (1, .blk 28 [.d (.int .i64 y.k), .d (.int .i64 y.n), .d (dL y.ls), .d (dGs y.kids)]), (2, .blk 28 [.d (.int .i64 0), .d (.int .i64 0), .nl, .nl]), (3, .blk 28 [.d (.int .i64 k), .d (.int .i64 (spN l y x)), .d (dL ls), .nl])], 4⟩ (wk_vc txok mixed Zdpq0 ?_) ?_
      · conv => whnf
        refine And.intro (fun h => ?_) (fun h => Bool.noConfusion h)
        conv => whnf
        refine loopH (fun i : Nat => i ≤ l.length) (fun i => l.length - i) (fun i => [(10, .d (.int .i64 i)), (9, .d (dI (putL [] (frGs (l.take i) []))))]) (fun i => [(0, .blk 28 [.d (.int .i64 k), .d (.int .i64 n), .d (dL ls), .d (dGs l)]), (1, .blk 28 [.d (.int .i64 y.k), .d (.int .i64 y.n), .d (dL y.ls), .d (dGs y.kids)]), (2, .blk 28 [.d (.int .i64 0), .d (.int .i64 0), .nl, .nl]), (3, .blk 28 [.d (.int .i64 k), .d (.int .i64 n), .d (dL ls), .nl])]) 4 0 (by omega) ((weak_T 9 (.d (dI [])) rfl rfl nl_dI).trans (weak_of rfl (by repeat ((conv => whnf); first | exact trivial | refine And.intro rfl ?_ | refine And.intro (incD (by omega)) ?_)) (by repeat ((conv => whnf); first | exact trivial | refine And.intro rfl ?_ | refine And.intro (incD (by omega)) ?_)))) ?_
        intro i hi
        conv => whnf
        refine And.intro (fun hb => ?_) (fun hb => ?_)
        · have hil : i < l.length := by have := of_decide_eq_true hb; omega
          have hmem := szG_mem (List.getElem_mem hil)
          have hlen := frGs_len (l.take i) []
          have hpl2 := putL_len (frGs (l.take i) []) []
          simp only [List.length_nil] at hpl2
          have htk := szGs_take hil
          have htl := szGs_le l (i + 1)
          have hN := free_fn l[i] [] (putL [] (frGs (l.take i) [])) (by simp only [List.length_nil]; omega) (by omega)
          rw [← putL_app, ← frGs_take hil] at hN
          conv => whnf
          refine IdxC.encGs i hil rfl ?_
          conv => whnf
          refine callF hN gf72 rfl rfl ?_
          conv => whnf
          rw [incD (by omega)]
          exact again (i + 1) (by omega) (by omega) (weak_of rfl (by repeat ((conv => whnf); first | exact trivial | refine And.intro rfl ?_ | refine And.intro (incD (by omega)) ?_)) (by repeat ((conv => whnf); first | exact trivial | refine And.intro rfl ?_ | refine And.intro (incD (by omega)) ?_)))
        · have hil : i = l.length := by have := of_decide_eq_false hb; omega
          subst hil
          rw [List.take_length]
          conv => whnf
          refine callF hF gf36 rfl rfl ?_
          conv => whnf
          refine callF hS gf105 rfl rfl ?_
          conv => whnf
          exact weak_of rfl (by repeat ((conv => whnf); first | exact trivial | refine And.intro rfl ?_ | refine And.intro (incD (by omega)) ?_)) (by repeat ((conv => whnf); first | exact trivial | refine And.intro rfl ?_ | refine And.intro (incD (by omega)) ?_))
      have hput : ∀ u ∈ l, FnR Tryz.prog G0 66 [dG (rputF f u n (varG (spN l y x))), .int .i64 x, dG y] (dG ((fun u => rputF f (rputF f u n (varG (spN l y x))) x y) u)) := fun u hu => ih (rputF f u n (varG (spN l y x))) (by have := szG_mem hu; have := sz_rput f u n (varG (spN l y x)) rfl; omega) x y (by have := szG_mem hu; have := sz_rput f u n (varG (spN l y x)) rfl; omega)
      generalize hg : (fun u => rputF f (rputF f u n (varG (spN l y x))) x y) = g at *
      have hput1 : ∀ u ∈ l, FnR Tryz.prog G0 66 [dG u, .int .i64 n, dG (varG (spN l y x))] (dG (rputF f u n (varG (spN l y x)))) := fun u hu => ih u (by have := szG_mem hu; omega) n _ (by have := szG_mem hu; have : szG (varG (spN l y x)) = 1 := rfl; omega)
      refine wk_seq ⟨[(1, .d (.int .i64 x)), (3, .own 0 0), (5, .own 1 0), (6, .own 2 0), (7, .own 3 0)], [(0, .blk 28 [.d (.int .i64 k), .d (.int .i64 n), .d (dL ls), .d (dGs l)]), (1, .blk 28 [.d (.int .i64 y.k), .d (.int .i64 y.n), .d (dL y.ls), .d (dGs y.kids)]), (2, .blk 28 [.d (.int .i64 0), .d (.int .i64 0), .nl, .nl]), (3, .blk 28 [.d (.int .i64 k), .d (.int .i64 (spN l y x)), .d (dL ls), .row 4]), (4, .row 28 64 4 ((l.take l.length).map g).length (encGs ((l.take l.length).map g)))], 5⟩ (wk_vc txok mixed Zdpq0 ?_) ?_
      · conv => whnf
        refine loopH (fun i : Nat => i ≤ l.length) (fun i => l.length - i) (fun i => [(11, .d (.int .i64 i))]) (fun i => [(0, .blk 28 [.d (.int .i64 k), .d (.int .i64 n), .d (dL ls), .d (dGs l)]), (1, .blk 28 [.d (.int .i64 y.k), .d (.int .i64 y.n), .d (dL y.ls), .d (dGs y.kids)]), (2, .blk 28 [.d (.int .i64 0), .d (.int .i64 0), .nl, .nl]), (3, .blk 28 [.d (.int .i64 k), .d (.int .i64 (spN l y x)), .d (dL ls), .row 4]), (4, .row 28 64 4 ((l.take i).map g).length (encGs ((l.take i).map g)))]) 5 0 (by omega) ((weak_nlC 3 3 28 64 4 rfl rfl).trans (weak_of rfl (by repeat ((conv => whnf); first | exact trivial | refine And.intro rfl ?_ | refine And.intro (incD (by omega)) ?_)) (by repeat ((conv => whnf); first | exact trivial | refine And.intro rfl ?_ | refine And.intro (incD (by omega)) ?_)))) ?_
        intro i hi
        have hml : ((l.take i).map g).length = i := by simp; omega
        conv => whnf
        refine And.intro (fun hb => ?_) (fun hb => ?_)
        · have hil : i < l.length := by have := of_decide_eq_true hb; omega
          have htk : (l.take (i + 1)).map g = (l.take i).map g ++ [g l[i]] := by rw [List.take_succ_eq_append_getElem hil, List.map_append]; rfl
          have hP := hput l[i] (List.getElem_mem hil)
          generalize hgl : g l[i] = w at *
          obtain ⟨k1, n1, l1, m1⟩ := w
          conv => whnf
          refine IdxC.encGs i hil rfl ?_
          conv => whnf
          refine And.intro (fun h => ?_) (fun h => Bool.noConfusion h)
          conv => whnf
          refine callF (hput1 l[i] (List.getElem_mem hil)) gf66 rfl rfl ?_
          conv => whnf
          refine And.intro (by kernel_rfl) ?_
          conv => whnf
          refine callF hP gf66 rfl rfl ?_
          conv => whnf
          refine appR (i := 4) (sz := 4) (n := ((l.take i).map g).length) (m := 1) (xs := encGs ((l.take i).map g)) (ys := encGs [TG.mk k1 n1 l1 m1]) txok (fun k => Nat.ble 6 k) ((l.take (i + 1)).map g).length (encGs ((l.take (i + 1)).map g)) (by exact rfl) (by exact rfl) (by exact rfl) (by kernel_rfl) (by exact rfl) (encGs_scal _) (by rw [htk]; simp) (by rw [htk, encGs_app]) (by simp only [LB, List.length_map, List.length_take]; omega) ?_
          conv => whnf
          rw [incD (by omega)]
          exact again (i + 1) (by omega) (by omega) (weak_of rfl (by repeat ((conv => whnf); first | exact trivial | refine And.intro rfl ?_ | refine And.intro (incD (by omega)) ?_)) (by repeat ((conv => whnf); first | exact trivial | refine And.intro rfl ?_ | refine And.intro (incD (by omega)) ?_)))
        · have hil : i = l.length := by have := of_decide_eq_false hb; omega
          subst hil
          conv => whnf
          exact weak_of rfl (by repeat ((conv => whnf); first | exact trivial | refine And.intro rfl ?_ | refine And.intro (incD (by omega)) ?_)) (by repeat ((conv => whnf); first | exact trivial | refine And.intro rfl ?_ | refine And.intro (incD (by omega)) ?_))
      rw [List.take_length]
      refine wk_vc txok mixed [] ?_
      conv => whnf
      try exact rfl
end Go.Proofs.YtcjkikadolnfgaaGreat


/- The reference's SameType. -/
set_option linter.unusedSimpArgs false
set_option linter.unusedVariables false
namespace Go.Proofs.YtcjkikadolnfgaaGreat
open Go.Vx Go.Vc Go.RowKit
def Zepq0 : List (Nat × Go.Vc.Pl) := [(7, .pure 0 (.take 1 (.pure 2 (.take 3 (.pure 4 (.pure 5 (.take 6 (.pure 8 (.pure 9 (.take 10 (.run 7 (.run 11 (.fin 12 (.pure 13 .done))))))))))))))]
theorem rtexts_fn (l m : List ByteArray) : FnR Tryz.prog G0 51 [dL l, dL m] (.bool (decide (l = m))) := by
  refine fnQ_sz fun hs => ?_
  have hl := (szOk_sl hs.1).1
  simp only [LB] at hl
  refine fnQ_of_vc txok mixed [(6, .pure 0 (.pure 1 (.pure 2 (.take 3 (.pure 4 (.pure 5 (.pure 6 (.take 7 (.pure 8 .done)))))))))] Tryz.func51 rfl rfl (by simp) fun b => ?_
  conv => whnf
  refine And.intro (fun h => ?_) (fun h => ?_)
  · conv => whnf
    refine congrArg D.bool ?_
    rw [eq_comm, decide_eq_false_iff_not]
    rintro rfl
    simp at h
  have h : l.length = m.length := by simp at h; omega
  conv => whnf
  refine loopH (fun i : Nat => i ≤ l.length ∧ (l = m ↔ l.drop i = m.drop i)) (fun i => l.length - i) (fun i => [(5, .d (.int .i64 i))]) (fun _ => []) 0 0 ⟨by omega, by simp⟩ (weak_of rfl (by repeat ((conv => whnf); first | exact trivial | refine And.intro rfl ?_ | refine And.intro (incD (by omega)) ?_)) (by repeat ((conv => whnf); first | exact trivial | refine And.intro rfl ?_ | refine And.intro (incD (by omega)) ?_))) ?_
  rintro i ⟨hi, hx⟩
  conv => whnf
  refine And.intro (fun hb => ?_) (fun hb => ?_)
  · have hil : i < l.length := by have := of_decide_eq_true hb; omega
    have him : i < m.length := by omega
    rw [eqS_drop hil him] at hx
    conv => whnf
    refine And.intro (by kernel_rfl) ?_
    conv => whnf
    refine IdxC.encS i hil rfl ?_
    conv => whnf
    refine IdxC.encS i him rfl ?_
    conv => whnf
    rw [beqB']
    refine And.intro (fun he => ?_) (fun he => ?_)
    · conv => whnf
      refine congrArg D.bool ?_
      rw [eq_comm, decide_eq_false_iff_not, hx]
      simp at he
      exact fun h' => he h'.1
    · conv => whnf
      simp at he
      rw [incD (by omega)]
      exact again (i + 1) (by omega) ⟨by omega, by rw [hx]; simp [he]⟩ (weak_of rfl (by repeat ((conv => whnf); first | exact trivial | refine And.intro rfl ?_ | refine And.intro (incD (by omega)) ?_)) (by repeat ((conv => whnf); first | exact trivial | refine And.intro rfl ?_ | refine And.intro (incD (by omega)) ?_)))
  · have hb : ¬ i < l.length := by have := of_decide_eq_false hb; omega
    conv => whnf
    refine congrArg D.bool ?_
    rw [eq_comm, decide_eq_true_eq, hx, List.drop_of_length_le (by omega), List.drop_of_length_le (by omega)]
theorem rsameAll_fn (l m : List TG) (s t : List Int) (hlm : l.length = m.length) (ih : ∀ u ∈ l, ∀ v, FnR Tryz.prog G0 21 [dG u, dG v, dI s, dI t] (.bool (samG u v s t))) : FnR Tryz.prog G0 53 [dGs l, dGs m, dI s, dI t] (.bool (samGs l m s t)) := by
  refine fnQ_sz fun hs => ?_
  have hl := (szOk_sl hs.1).1
  simp only [LB] at hl
  refine fnQ_of_vc txok mixed [(4, .pure 0 (.pure 1 (.pure 2 (.take 3 (.pure 4 (.pure 5 (.pure 6 (.take 7 (.pure 8 (.pure 9 (.fin 10 (.pure 11 .done))))))))))))] Tryz.func53 rfl rfl (by simp) fun b => ?_
  conv => whnf
  refine loopH (fun i : Nat => i ≤ l.length ∧ samGs l m s t = samGs (l.drop i) (m.drop i) s t) (fun i => l.length - i) (fun i => [(9, .d (.int .i64 i))]) (fun _ => []) 0 0 ⟨by omega, by simp⟩ (weak_of rfl (by repeat ((conv => whnf); first | exact trivial | refine And.intro rfl ?_ | refine And.intro (incD (by omega)) ?_)) (by repeat ((conv => whnf); first | exact trivial | refine And.intro rfl ?_ | refine And.intro (incD (by omega)) ?_))) ?_
  rintro i ⟨hi, hx⟩
  conv => whnf
  refine And.intro (fun hb => ?_) (fun hb => ?_)
  · have hil : i < l.length := by have := of_decide_eq_true hb; omega
    have him : i < m.length := by omega
    rw [samGs_drop hil him] at hx
    conv => whnf
    refine And.intro (by kernel_rfl) ?_
    conv => whnf
    refine IdxC.encGs i hil rfl ?_
    conv => whnf
    refine IdxC.encGs i him rfl ?_
    conv => whnf
    refine callF (ih l[i] (List.getElem_mem hil) m[i]) gf21 rfl rfl ?_
    conv => whnf
    refine And.intro (fun he => ?_) (fun he => ?_)
    · have he : samG l[i] m[i] s t = false := by simpa using he
      rw [he, Bool.false_and] at hx
      conv => whnf
      rw [hx]
    · have he : samG l[i] m[i] s t = true := by simpa using he
      rw [he, Bool.true_and] at hx
      conv => whnf
      rw [incD (by omega)]
      exact again (i + 1) (by omega) ⟨by omega, hx⟩ (weak_of rfl (by repeat ((conv => whnf); first | exact trivial | refine And.intro rfl ?_ | refine And.intro (incD (by omega)) ?_)) (by repeat ((conv => whnf); first | exact trivial | refine And.intro rfl ?_ | refine And.intro (incD (by omega)) ?_)))
  · have hb : ¬ i < l.length := by have := of_decide_eq_false hb; omega
    conv => whnf
    rw [hx, List.drop_of_length_le (by omega), samGs_nil]
set_option maxRecDepth 20000 in
theorem rsame_fn : ∀ (a u : TG) (s t : List Int), s.length + szG a < 1099511627776 → t.length + szG a < 1099511627776 → FnR Tryz.prog G0 21 [dG a, dG u, dI s, dI t] (.bool (samG a u s t)) := by
  refine TG.ind fun k n ls ks ih u s t hss htt => ?_
  obtain ⟨k', n', ls', ks'⟩ := u
  have hsz : szG (.mk k n ls ks) = szGs ks + 1 := by simp only [szG]
  rw [hsz] at hss htt
  have hih : ∀ s' t' : List Int, s'.length ≤ s.length + 1 → t'.length ≤ t.length + 1 → ∀ u ∈ ks, ∀ v, FnR Tryz.prog G0 21 [dG u, dG v, dI s', dI t'] (.bool (samG u v s' t')) := fun s' t' h1 h2 u hu v => ih u hu v s' t' (by have := szG_mem hu; omega) (by have := szG_mem hu; omega)
  have hsm := samG_mk k n ls ks k' n' ls' ks' s t
  by_cases hlen : ks.length = ks'.length
  · have hA := rsameAll_fn ks ks' s t hlen (hih s t (by omega) (by omega))
    have hB := rsameAll_fn ks ks' (s ++ [n]) (t ++ [n']) hlen (hih _ _ (by simp) (by simp))
    have hbk := bindsR_fn k
    have hL1 := level_fn s n (by omega)
    have hL2 := level_fn t n' (by omega)
    have hW1 := rwith_fn s n (by omega)
    have hW2 := rwith_fn t n' (by omega)
    generalize samGs ks ks' s t = r1 at *
    generalize samGs ks ks' (s ++ [n]) (t ++ [n']) = r2 at *
    generalize samG (.mk k n ls ks) (.mk k' n' ls' ks') s t = r at *
    refine fnQ_of_vc txok mixed Zepq0 Tryz.func21 rfl rfl (by simp) fun b => ?_
    conv => whnf
    simp only [g_k, g_n, g_ls, g_kids]
    repeat' ((conv => whnf); first
      | refine And.intro (by kernel_rfl) ?_
      | refine And.intro (fun h => ?_) (fun h => ?_)
      | refine callF (rtexts_fn ls ls') gf51 rfl rfl ?_
      | refine callF hL1 gf52 rfl rfl ?_
      | refine callF hL2 gf52 rfl rfl ?_
      | refine callF hbk gf54 rfl rfl ?_
      | refine callF hW1 gf55 rfl rfl ?_
      | refine callF hW2 gf55 rfl rfl ?_
      | refine callF hA gf53 rfl rfl ?_
      | refine callF hB gf53 rfl rfl ?_)
    all_goals try (conv => whnf)
    all_goals refine congrArg D.bool ?_
    all_goals rw [hsm]
    all_goals clear hA hB hbk hL1 hL2 hW1 hW2 hsm hih ih hsz hss htt
    all_goals simp only [hlen, decide_true, Bool.and_true]
    all_goals first
      | (simp_all; done)
      | (simp_all; omega)
      | trace_state
  · refine fnQ_of_vc txok mixed Zepq0 Tryz.func21 rfl rfl (by simp) fun b => ?_
    conv => whnf
    simp only [g_k, g_n, g_ls, g_kids]
    have hne : ((ks.length : Int) != (ks'.length : Int)) = true := by
      rw [bne_iff_ne]; omega
    have hf : samG (.mk k n ls ks) (.mk k' n' ls' ks') s t = false := by
      rw [hsm, decide_eq_false hlen]; simp
    rw [hf]
    repeat' ((conv => whnf); first
      | (refine And.intro (fun h => ?_) (fun h => ?_) <;> first | exact Bool.noConfusion h | (rw [hne] at h; exact Bool.noConfusion h) | skip))
    all_goals try (conv => whnf)
    all_goals try exact rfl
end Go.Proofs.YtcjkikadolnfgaaGreat


/- Plain laws: what the program and the document tell of right types is the same. -/
set_option linter.unusedSimpArgs false
set_option linter.unusedVariables false
namespace Go.Proofs.YtcjkikadolnfgaaGreat
open Go.Vx Go.Vc Go.RowKit
theorem depGs_any (n : Nat) : ∀ l : List TG, (l.any fun t => decide (depG t > n)) = decide (depGs l > n)
  | [] => by simp [depGs]
  | t :: r => by
    rw [List.any_cons, depGs_any n r, depGs, Bool.eq_iff_iff]
    simp only [Bool.or_eq_true, decide_eq_true_eq]
    omega
theorem deepR_dep : ∀ (n : Nat) (t : TG), deepR n t = decide (depG t > n)
  | 0, t => by
    obtain ⟨k, n, ls, l⟩ := t
    simp [deepR, depG]
  | n + 1, t => by
    obtain ⟨k, m, ls, l⟩ := t
    have : deepR (n + 1) (.mk k m ls l) = l.any (deepR n) := rfl
    rw [this, show (deepR n) = fun t => decide (depG t > n) from funext (deepR_dep n), depGs_any, depG, Bool.eq_iff_iff]
    simp only [decide_eq_true_eq]
    omega
theorem shp_shR (k n : Int) (ls : List ByteArray) (l : List TG) : shpG (.mk k n ls l) = shR k n ls l.length := by
  have hS : shpG (.mk k n ls l) = (if k = 1 ∨ k = 2 ∨ k = 3 then n == 0 && (ls.length : Int) == 0 && (l.length : Int) == 0
    else if k = 4 ∨ k = 5 then n == 0 && (ls.length : Int) == 0 && (l.length : Int) == 2
    else if k = 6 then (ls.length : Int) == 0 && (l.length : Int) == 0
    else if k = 7 then n == 0 && ordS ls && (ls.length : Int) == (l.length : Int)
    else if k = 8 then n == 0 && (ls.length : Int) == 0
    else if k = 9 ∨ k = 10 ∨ k = 11 then (ls.length : Int) == 0 && (l.length : Int) == 1
    else false) := rfl
  rw [hS]
  clear hS
  unfold shR shA shB shC
  have hL : decide ((ls.length : Int) > 0) = !((ls.length : Int) == 0) := by
    cases ls.length with
    | zero => rfl
    | succ m => rw [Bool.eq_iff_iff]; simp; omega
  rw [hL]
  by_cases hk : k < 1 ∨ 11 < k
  · have e : kidN k = -2 := by unfold kidN; rw [if_neg (by omega), if_neg (by omega), if_neg (by omega), if_neg (by omega)]
    conv => lhs; rw [if_neg (by omega), if_neg (by omega), if_neg (by omega), if_neg (by omega), if_neg (by omega), if_neg (by omega)]
    rw [e]
    rfl
  have hk' : k = 1 ∨ k = 2 ∨ k = 3 ∨ k = 4 ∨ k = 5 ∨ k = 6 ∨ k = 7 ∨ k = 8 ∨ k = 9 ∨ k = 10 ∨ k = 11 := by omega
  simp only [bne]
  rcases hk' with rfl | rfl | rfl | rfl | rfl | rfl | rfl | rfl | rfl | rfl | rfl
  · conv => lhs; rw [if_pos (by decide)]
    rw [show kidN 1 = 0 from by decide]
    conv => rhs; rw [if_neg (by decide)]
    generalize (n == 0) = A, (((ls.length : Nat) : Int) == 0) = B, (((l.length : Nat) : Int) == 0) = C
    cases A <;> cases B <;> cases C <;> rfl
  · conv => lhs; rw [if_pos (by decide)]
    rw [show kidN 2 = 0 from by decide]
    conv => rhs; rw [if_neg (by decide)]
    generalize (n == 0) = A, (((ls.length : Nat) : Int) == 0) = B, (((l.length : Nat) : Int) == 0) = C
    cases A <;> cases B <;> cases C <;> rfl
  · conv => lhs; rw [if_pos (by decide)]
    rw [show kidN 3 = 0 from by decide]
    conv => rhs; rw [if_neg (by decide)]
    generalize (n == 0) = A, (((ls.length : Nat) : Int) == 0) = B, (((l.length : Nat) : Int) == 0) = C
    cases A <;> cases B <;> cases C <;> rfl
  · conv => lhs; rw [if_neg (by decide), if_pos (by decide)]
    rw [show kidN 4 = 2 from by decide]
    conv => rhs; rw [if_neg (by decide)]
    generalize (n == 0) = A, (((ls.length : Nat) : Int) == 0) = B, (((l.length : Nat) : Int) == 2) = C
    cases A <;> cases B <;> cases C <;> rfl
  · conv => lhs; rw [if_neg (by decide), if_pos (by decide)]
    rw [show kidN 5 = 2 from by decide]
    conv => rhs; rw [if_neg (by decide)]
    generalize (n == 0) = A, (((ls.length : Nat) : Int) == 0) = B, (((l.length : Nat) : Int) == 2) = C
    cases A <;> cases B <;> cases C <;> rfl
  · conv => lhs; rw [if_neg (by decide), if_neg (by decide), if_pos (by decide)]
    rw [show kidN 6 = 0 from by decide]
    conv => rhs; rw [if_neg (by decide)]
    generalize (n == 0) = A, (((ls.length : Nat) : Int) == 0) = B, (((l.length : Nat) : Int) == 0) = C
    cases A <;> cases B <;> cases C <;> rfl
  · conv => lhs; rw [if_neg (by decide), if_neg (by decide), if_neg (by decide), if_pos (by decide)]
    rw [show kidN 7 = -1 from by decide]
    conv => rhs; rw [if_pos (by decide)]
    generalize (n == 0) = A, (((ls.length : Nat) : Int) == ((l.length : Nat) : Int)) = C, ordS ls = D, (((l.length : Nat) : Int) == -1) = E
    cases A <;> cases C <;> cases D <;> cases E <;> rfl
  · conv => lhs; rw [if_neg (by decide), if_neg (by decide), if_neg (by decide), if_neg (by decide), if_pos (by decide)]
    rw [show kidN 8 = -1 from by decide]
    conv => rhs; rw [if_neg (by decide)]
    generalize (n == 0) = A, (((ls.length : Nat) : Int) == 0) = B, (((l.length : Nat) : Int) == -1) = C
    cases A <;> cases B <;> cases C <;> rfl
  · conv => lhs; rw [if_neg (by decide), if_neg (by decide), if_neg (by decide), if_neg (by decide), if_neg (by decide), if_pos (by decide)]
    rw [show kidN 9 = 1 from by decide]
    conv => rhs; rw [if_neg (by decide)]
    generalize (n == 0) = A, (((ls.length : Nat) : Int) == 0) = B, (((l.length : Nat) : Int) == 1) = C
    cases A <;> cases B <;> cases C <;> rfl
  · conv => lhs; rw [if_neg (by decide), if_neg (by decide), if_neg (by decide), if_neg (by decide), if_neg (by decide), if_pos (by decide)]
    rw [show kidN 10 = 1 from by decide]
    conv => rhs; rw [if_neg (by decide)]
    generalize (n == 0) = A, (((ls.length : Nat) : Int) == 0) = B, (((l.length : Nat) : Int) == 1) = C
    cases A <;> cases B <;> cases C <;> rfl
  · conv => lhs; rw [if_neg (by decide), if_neg (by decide), if_neg (by decide), if_neg (by decide), if_neg (by decide), if_pos (by decide)]
    rw [show kidN 11 = 1 from by decide]
    conv => rhs; rw [if_neg (by decide)]
    generalize (n == 0) = A, (((ls.length : Nat) : Int) == 0) = B, (((l.length : Nat) : Int) == 1) = C
    cases A <;> cases B <;> cases C <;> rfl
theorem all_right : ∀ t : TG, rightR t = allG t := by
  refine TG.ind fun k n ls l ih => ?_
  have : ∀ m : List TG, (∀ t ∈ m, rightR t = allG t) → rightRs m = allGs m := by
    intro m
    induction m with
    | nil => intro _; rfl
    | cons t r ihr =>
      intro h
      rw [rightRs, allGs, h t (by simp), ihr fun u hu => h u (by simp [hu])]
  rw [rightR, allG, this l ih, shp_shR]
theorem rtR_right (t : TG) : rtR t = rightG t := by
  unfold rtR rightG
  rw [deepR_dep, all_right]
  simp only [decide_eq_true_eq]
end Go.Proofs.YtcjkikadolnfgaaGreat


/- InScope, of both. -/
set_option linter.unusedSimpArgs false
set_option linter.unusedVariables false
namespace Go.Proofs.YtcjkikadolnfgaaGreat
open Go.Vx Go.Vc Go.RowKit
def idxP (p : Int → Bool) : List Int → Int → Int
  | [], _ => -1
  | x :: r, i => if p x = true then i else idxP p r (i + 1)
theorem idxP_nonneg (p : Int → Bool) : ∀ (l : List Int) (i : Int), 0 ≤ i → (0 ≤ idxP p l i ↔ l.any p = true)
  | [], i, h => by simp [idxP]
  | x :: r, i, h => by
    rw [idxP, List.any_cons]
    cases hp : p x
    · simp only [Bool.false_eq_true, if_false, Bool.false_or]
      exact idxP_nonneg p r (i + 1) (by omega)
    · simp [h]
theorem indexP_fn (f : FuncId) (c : D) (p : Int → Bool) (l : List Int) (hg : Goes Tryz.prog f) (ih : ∀ n, FnR Tryz.prog G0 f [.int .i64 n, c] (.bool (p n))) : FnR Tryz.prog G0 67 [dI l, .fn f [] [c]] (.int .i64 (idxP p l 0)) := by
  refine fnQ_sz fun hs => ?_
  have hl := (szOk_sl hs.1).1
  simp only [LB] at hl
  refine fnQ_of_vc txok mixed [] Tryz.func67 rfl rfl (by simp) fun b => ?_
  conv => whnf
  refine loopH (fun i : Nat => i ≤ l.length ∧ idxP p l 0 = idxP p (l.drop i) i) (fun i => l.length - i) (fun i => [(8, .d (.int .i64 i))]) (fun _ => []) 0 0 ⟨by omega, rfl⟩ (weak_of rfl (by repeat ((conv => whnf); first | exact trivial | refine And.intro rfl ?_ | refine And.intro (incD (by omega)) ?_)) (by repeat ((conv => whnf); first | exact trivial | refine And.intro rfl ?_ | refine And.intro (incD (by omega)) ?_))) ?_
  rintro i ⟨hi, hx⟩
  conv => whnf
  refine And.intro (fun hb => ?_) (fun hb => ?_)
  · have hb := of_decide_eq_true hb
    have hil : i < l.length := by omega
    rw [List.drop_eq_getElem_cons hil, idxP] at hx
    conv => whnf
    refine IdxC.encI i hil rfl ?_
    conv => whnf
    refine callF (ih l[i]) hg rfl rfl ?_
    conv => whnf
    refine And.intro (fun he => ?_) (fun he => ?_)
    · conv => whnf
      rw [hx, if_pos he]
    · conv => whnf
      rw [if_neg (by simp [he])] at hx
      exact again (i + 1) (by omega) ⟨by omega, by rw [hx]; rfl⟩ (weak_of rfl (by repeat ((conv => whnf); first | exact trivial | refine And.intro rfl ?_ | refine And.intro (incD (by omega)) ?_)) (by repeat ((conv => whnf); first | exact trivial | refine And.intro rfl ?_ | refine And.intro (incD (by omega)) ?_)))
  · have hb := of_decide_eq_false hb
    conv => whnf
    rw [hx, List.drop_eq_nil_of_le (by omega)]; rfl
theorem containsP_fn (f : FuncId) (c : D) (p : Int → Bool) (l : List Int) (hg : Goes Tryz.prog f) (ih : ∀ n, FnR Tryz.prog G0 f [.int .i64 n, c] (.bool (p n))) : FnR Tryz.prog G0 32 [dI l, .fn f [] [c]] (.bool (l.any p)) := by
  refine fnQ_of_vc txok mixed [] Tryz.func32 rfl rfl (by simp) fun b => ?_
  conv => whnf
  refine callF (indexP_fn f c p l hg ih) gf67 rfl rfl ?_
  conv => whnf
  refine congrArg D.bool ?_
  rw [Bool.eq_iff_iff, decide_eq_true_iff]
  exact idxP_nonneg p l 0 (by omega)
def insG (t : TG) (vars : List Int) : Bool := (rightG t == 0) && !((freeS t).any fun n => !decide (n ∈ vars))
theorem insc_fn (vars : List Int) (n : Int) : FnR Tryz.prog G0 34 [.int .i64 n, .ptr [dI vars] 0] (.bool (!decide (n ∈ vars))) := by
  refine fnQ_of_vc txok mixed [] Tryz.func34 rfl rfl (by simp) fun b => ?_
  conv => whnf
  refine callF (contains_fn vars n) gf35 rfl rfl ?_
  conv => whnf
  try exact rfl
theorem inScope_fn (t : TG) (vars : List Int) (hz : szG t < 1099511627776) : FnR Tryz.prog G0 14 [dG t, dI vars] (.bool (insG t vars)) := by
  refine fnQ_of_vc txok mixed [] Tryz.func14 rfl rfl (by simp) fun b => ?_
  conv => whnf
  refine callF (rightType_fn t) gf26 rfl rfl ?_
  conv => whnf
  refine And.intro (fun h => ?_) (fun h => ?_)
  · conv => whnf
    refine congrArg D.bool ?_
    unfold insG
    rw [show (rightG t == 0) = false from by simpa using h]; rfl
  · conv => whnf
    refine callF (freeT_fn t hz) gf33 rfl rfl ?_
    conv => whnf
    refine pubC (fun i => Nat.beq i 1) ?_
    conv => whnf
    refine callF (containsP_fn 34 (.ptr [dI vars] 0) (fun n => !decide (n ∈ vars)) (freeS t) gf34 (insc_fn vars)) gf32 rfl rfl ?_
    conv => whnf
    refine congrArg D.bool ?_
    unfold insG
    rw [show (rightG t == 0) = true from by simpa using h, Bool.true_and]
theorem rin_fn (l : List Int) (n : Int) : FnR Tryz.prog G0 37 [dI l, .int .i64 n] (.bool (decide (n ∈ l))) := by
  refine fnQ_sz fun hs => ?_
  have hl := (szOk_sl hs.1).1
  simp only [LB] at hl
  refine fnQ_of_vc txok mixed [] Tryz.func37 rfl rfl (by simp) fun b => ?_
  conv => whnf
  refine loopH (fun i : Nat => i ≤ l.length ∧ n ∉ l.take i) (fun i => l.length - i) (fun i => [(5, .d (.int .i64 i))]) (fun _ => []) 0 0 ⟨by omega, by simp⟩ (weak_of rfl (by repeat ((conv => whnf); first | exact trivial | refine And.intro rfl ?_ | refine And.intro (incD (by omega)) ?_)) (by repeat ((conv => whnf); first | exact trivial | refine And.intro rfl ?_ | refine And.intro (incD (by omega)) ?_))) ?_
  rintro i ⟨hi, hx⟩
  conv => whnf
  refine And.intro (fun hb => ?_) (fun hb => ?_)
  · have hil : i < l.length := by have := of_decide_eq_true hb; omega
    conv => whnf
    refine IdxC.encI i hil rfl ?_
    conv => whnf
    refine And.intro (fun he => ?_) (fun he => ?_)
    · have he : l[i] = n := eq_of_beq he
      conv => whnf
      refine congrArg D.bool ?_
      rw [eq_comm, decide_eq_true_eq, ← he]; exact List.getElem_mem hil
    · have he : l[i] ≠ n := by simpa using he
      conv => whnf
      rw [incD (by omega)]
      exact again (i + 1) (by omega) ⟨by omega, by rw [List.take_succ_eq_append_getElem hil, List.mem_append, List.mem_singleton, not_or]; exact ⟨hx, fun e => he e.symm⟩⟩ (weak_of rfl (by repeat ((conv => whnf); first | exact trivial | refine And.intro rfl ?_ | refine And.intro (incD (by omega)) ?_)) (by repeat ((conv => whnf); first | exact trivial | refine And.intro rfl ?_ | refine And.intro (incD (by omega)) ?_)))
  · have hb : ¬ i < l.length := by have := of_decide_eq_false hb; omega
    rw [List.take_of_length_le (by omega)] at hx
    conv => whnf
    refine congrArg D.bool ?_
    rw [eq_comm, decide_eq_false_iff_not]; exact hx
theorem rinScope_fn (t : TG) (vars : List Int) (hz : szG t < 1099511627776) : FnR Tryz.prog G0 15 [dG t, dI vars] (.bool (insG t vars)) := by
  have hR := rtR_fn t
  rw [rtR_right] at hR
  have hF := freeS_len t
  refine fnQ_of_vc txok mixed [] Tryz.func15 rfl rfl (by simp) fun b => ?_
  conv => whnf
  refine callF hR gf30 rfl rfl ?_
  conv => whnf
  refine And.intro (fun h => ?_) (fun h => ?_)
  · conv => whnf
    refine congrArg D.bool ?_
    unfold insG
    rw [show (rightG t == 0) = false from by simpa using h]; rfl
  · have e : insG t vars = !((freeS t).any fun n => !decide (n ∈ vars)) := by unfold insG; rw [show (rightG t == 0) = true from by simpa using h, Bool.true_and]
    rw [e]
    conv => whnf
    refine callF (rfreeTypes_fn t hz) gf36 rfl rfl ?_
    conv => whnf
    generalize freeS t = l at *
    refine loopH (fun i : Nat => i ≤ l.length ∧ (l.take i).any (fun n => !decide (n ∈ vars)) = false) (fun i => l.length - i) (fun i => [(6, .d (.int .i64 i))]) (fun _ => [(0, .blk 28 [.d (.int .i64 t.k), .d (.int .i64 t.n), .d (dL t.ls), .d (dGs t.kids)])]) 1 0 ⟨by omega, by simp⟩ (weak_of rfl (by repeat ((conv => whnf); first | exact trivial | refine And.intro rfl ?_ | refine And.intro (incD (by omega)) ?_)) (by repeat ((conv => whnf); first | exact trivial | refine And.intro rfl ?_ | refine And.intro (incD (by omega)) ?_))) ?_
    rintro i ⟨hi, hx⟩
    conv => whnf
    refine And.intro (fun hb => ?_) (fun hb => ?_)
    · have hil : i < l.length := by have := of_decide_eq_true hb; omega
      conv => whnf
      refine IdxC.encI i hil rfl ?_
      conv => whnf
      refine callF (rin_fn vars l[i]) gf37 rfl rfl ?_
      conv => whnf
      refine And.intro (fun he => ?_) (fun he => ?_)
      · conv => whnf
        refine congrArg D.bool ?_
        rw [eq_comm, Bool.not_eq_false', List.any_eq_true]
        exact ⟨l[i], List.getElem_mem hil, he⟩
      · conv => whnf
        rw [incD (by omega)]
        exact again (i + 1) (by omega) ⟨by omega, by rw [List.take_succ_eq_append_getElem hil, List.any_append, hx, Bool.false_or]; simpa using he⟩ (weak_of rfl (by repeat ((conv => whnf); first | exact trivial | refine And.intro rfl ?_ | refine And.intro (incD (by omega)) ?_)) (by repeat ((conv => whnf); first | exact trivial | refine And.intro rfl ?_ | refine And.intro (incD (by omega)) ?_)))
    · have hb : ¬ i < l.length := by have := of_decide_eq_false hb; omega
      rw [List.take_of_length_le (by omega)] at hx
      conv => whnf
      refine congrArg D.bool ?_
      rw [hx]; rfl
theorem sameTop_fn (a u : TG) (hz : szG a < 1099511627776) : FnR Tryz.prog G0 19 [dG a, dG u] (.bool (samG a u [] [])) := by
  have h := sameType_fn a u [] [] (by simpa using hz) (by simpa using hz)
  refine fnQ_of_vc txok mixed [] Tryz.func19 rfl rfl (by simp) fun b => ?_
  conv => whnf
  refine callF h gf47 rfl rfl ?_
  conv => whnf
  try exact rfl
theorem rsameTop_fn (a u : TG) (hz : szG a < 1099511627776) : FnR Tryz.prog G0 10 [dG a, dG u] (.bool (samG a u [] [])) := by
  have h := rsame_fn a u [] [] (by simpa using hz) (by simpa using hz)
  refine fnQ_of_vc txok mixed [] Tryz.func10 rfl rfl (by simp) fun b => ?_
  conv => whnf
  refine callF h gf21 rfl rfl ?_
  conv => whnf
  try exact rfl
end Go.Proofs.YtcjkikadolnfgaaGreat


/- The kernel's putSize: how great a type is with another one put in. -/
set_option linter.unusedSimpArgs false
set_option linter.unusedVariables false
namespace Go.Proofs.YtcjkikadolnfgaaGreat
open Go.Vx Go.Vc Go.RowKit
mutual
def wG (x : Int) (c : Nat) : TG → Nat
  | .mk k n ls l => if k = 6 ∧ n = x then c else if bndG k = true ∧ n = x then szG (.mk k n ls l) else wGs x c l + 1
def wGs (x : Int) (c : Nat) : List TG → Nat
  | [] => 0
  | t :: r => wG x c t + wGs x c r
end
theorem wG_mk (x : Int) (c : Nat) (k n : Int) (ls : List ByteArray) (l : List TG) : wG x c (.mk k n ls l) = if k = 6 ∧ n = x then c else if bndG k = true ∧ n = x then szG (.mk k n ls l) else wGs x c l + 1 := by rw [wG]
theorem wGs_app (x : Int) (c : Nat) : ∀ l m : List TG, wGs x c (l ++ m) = wGs x c l + wGs x c m
  | [], m => by simp [wGs]
  | t :: r, m => by rw [List.cons_append, wGs, wGs, wGs_app x c r m]; omega
theorem wGs_take {l : List TG} {i : Nat} (h : i < l.length) (x : Int) (c : Nat) : wGs x c (l.take (i + 1)) = wGs x c (l.take i) + wG x c l[i] := by
  rw [List.take_succ_eq_append_getElem h, wGs_app]; simp [wGs]
theorem wGs_le (l : List TG) (i : Nat) (x : Int) (c : Nat) : wGs x c (l.take i) ≤ wGs x c l := by
  conv => rhs; rw [← List.take_append_drop i l, wGs_app]
  omega
theorem wG_cnt : ∀ (t : TG) (x : Int) (c : Nat), okV t = true → wG x c t + cntG x t = szG t + cntG x t * c := by
  refine TG.ind fun k n ls l ih x c hv => ?_
  obtain ⟨hv6, hvl⟩ := (okV_mk ..).1 hv
  rw [wG_mk, cntG]
  by_cases h1 : k = 6 ∧ n = x
  · obtain ⟨rfl, rfl⟩ := hv6 h1.1
    rw [if_pos h1, if_pos h1]; simp [szG, szGs]; omega
  rw [if_neg h1, if_neg h1]
  by_cases h2 : bndG k = true ∧ n = x
  · rw [if_pos h2, if_pos h2]; omega
  rw [if_neg h2, if_neg h2, szG]
  have : ∀ m : List TG, (∀ u ∈ m, u ∈ l) → wGs x c m + cntGs x m = szGs m + cntGs x m * c := by
    intro m
    induction m with
    | nil => intro _; simp [wGs, szGs, cntGs]
    | cons u r ihr =>
      intro hm
      have h1 := ih u (hm u (by simp)) x c (hvl u (hm u (by simp)))
      have h2 := ihr fun w hw => hm w (by simp [hw])
      rw [wGs, szGs, cntGs, Nat.add_mul]
      omega
  have := this l fun _ h => h
  omega
theorem tri_kb {P : Program} {G : Glob} {f : FuncId} {n q : Nat} {args : List Go.Vx.SV} {H : Hp} {c : Bool} {R : Hp → Prop} (h : Tri P G f n q args H (fun o H' => (o = .ret (.d (.bool c)) ∨ o = .ret (.kb c)) ∧ R H')) : Tri P G f n q args H (fun o H' => o = .ret (.d (.bool c)) ∧ R H') := by
  intro e w vs hlen hargs hH hG
  refine (h e w vs hlen hargs hH hG).mono ?_
  rintro en w' ⟨o, H', e', ⟨h1, h2⟩, h3, h4⟩
  refine ⟨.ret (.d (.bool c)), H', e', ⟨rfl, h2⟩, ?_, h4⟩
  rcases h1 with rfl | rfl
  · exact h3
  · obtain ⟨v, rfl, hv⟩ := h3
    exact ⟨v, rfl, by simpa only [RepSV, RepD] using hv⟩
abbrev wH (x : Int) (c tot : Nat) : Hp := [(0, .blk 3 [.d (.int .i64 x)]), (1, .blk 3 [.d (.int .i64 tot)]), (2, .blk 3 [.d (.int .i64 c)]), (3, .blk 82 [.fn 101 [] [.own 0 0, .own 1 0, .own 2 0, .own 3 0]])]
set_option maxRecDepth 20000 in
theorem walk_tri : ∀ (t : TG) (x : Int) (c tot : Nat), okV t = true → szG t < 1099511627776 → 1 ≤ c → c ≤ 1048577 → tot ≤ 1048576 → Tri Tryz.prog G0 101 4 0 [.d (dG t), .own 0 0, .own 1 0, .own 2 0, .own 3 0] (wH x c tot) (fun o H' => o = .ret (.d (.bool (decide (tot + wG x c t ≤ 1048576)))) ∧ ∃ tot', H' = wH x c tot' ∧ (tot + wG x c t ≤ 1048576 → tot' = tot + wG x c t)) := by
  refine TG.ind fun k n ls l ih x c tot hv hz hc1 hc ht => ?_
  refine tri_sz fun hs => ?_
  have hl := (szOk_G (t := .mk k n ls l) (hs (.d (dG (.mk k n ls l))) (by simp))).1
  simp only [g_kids, LB] at hl
  obtain ⟨hv6, hvl⟩ := (okV_mk ..).1 hv
  refine tri_kb (R := fun H' => ∃ tot', H' = wH x c tot' ∧ (tot + wG x c (.mk k n ls l) ≤ 1048576 → tot' = tot + wG x c (.mk k n ls l))) ?_
  refine tri_of_wk (N := 63) txok mixed [] Tryz.func101 rfl rfl (by simp) fun b => ?_
  refine wk_seq ⟨[(1, .own 0 0), (2, .own 1 0), (3, .own 2 0), (4, .own 3 0), (5, .own 4 0)], wH x c tot ++ [(4, .blk 28 [.d (.int .i64 k), .d (.int .i64 n), .d (dL ls), .d (dGs l)])], 5⟩ (wk_vc txok mixed [] ?_) ?_
  · conv => whnf
    exact weak_of rfl (by repeat ((conv => whnf); first | exact trivial | refine And.intro rfl ?_ | refine And.intro (incD (by omega)) ?_)) (by repeat ((conv => whnf); first | exact trivial | refine And.intro rfl ?_ | refine And.intro (incD (by omega)) ?_))
  have hst : ∃ tot1 : Nat, (tot1 = if k = 6 ∧ n = x then tot + c else tot + 1) := ⟨_, rfl⟩
  obtain ⟨tot1, hst⟩ := hst
  refine wk_seq ⟨[(1, .own 0 0), (2, .own 1 0), (3, .own 2 0), (4, .own 3 0), (5, .own 4 0)], wH x c tot1 ++ [(4, .blk 28 [.d (.int .i64 k), .d (.int .i64 n), .d (dL ls), .d (dGs l)])], 5⟩ (wk_vc txok mixed [] ?_) ?_
  · conv => whnf
    refine And.intro (fun h => ?_) (fun h => ?_)
    · have h : k = 6 := eq_of_beq h
      conv => whnf
      refine And.intro (fun h2 => ?_) (fun h2 => ?_)
      · rw [if_pos ⟨h, eq_of_beq h2⟩] at hst
        conv => whnf
        rw [Go.Vc.wrap_small (a := (tot : Int) + (c : Int)) (by omega) (by omega), show (tot : Int) + (c : Int) = (tot1 : Int) by omega]
        exact weak_of rfl (by repeat ((conv => whnf); first | exact trivial | refine And.intro rfl ?_ | refine And.intro (incD (by omega)) ?_)) (by repeat ((conv => whnf); first | exact trivial | refine And.intro rfl ?_ | refine And.intro (incD (by omega)) ?_))
      · rw [if_neg (fun h3 => by rw [h3.2] at h2; simp at h2)] at hst
        conv => whnf
        rw [Go.Vc.wrap_small (a := (tot : Int) + 1) (by omega) (by omega), show (tot : Int) + 1 = (tot1 : Int) by omega]
        exact weak_of rfl (by repeat ((conv => whnf); first | exact trivial | refine And.intro rfl ?_ | refine And.intro (incD (by omega)) ?_)) (by repeat ((conv => whnf); first | exact trivial | refine And.intro rfl ?_ | refine And.intro (incD (by omega)) ?_))
    · have h : k ≠ 6 := by simpa using h
      rw [if_neg (fun h3 => h h3.1)] at hst
      conv => whnf
      rw [Go.Vc.wrap_small (a := (tot : Int) + 1) (by omega) (by omega), show (tot : Int) + 1 = (tot1 : Int) by omega]
      exact weak_of rfl (by repeat ((conv => whnf); first | exact trivial | refine And.intro rfl ?_ | refine And.intro (incD (by omega)) ?_)) (by repeat ((conv => whnf); first | exact trivial | refine And.intro rfl ?_ | refine And.intro (incD (by omega)) ?_))
  have hW1 : tot1 ≤ tot + wG x c (.mk k n ls l) := by
    rw [hst, wG_mk]
    by_cases h1 : k = 6 ∧ n = x
    · rw [if_pos h1, if_pos h1]; exact Nat.le_refl _
    · rw [if_neg h1, if_neg h1]
      split
      · have := szG_pos (.mk k n ls l); omega
      · omega
  have ht1 : tot1 ≤ 2097153 := by rw [hst]; split <;> omega
  by_cases hbig : 1048576 < tot1
  · refine wk_seqR (wk_vc txok mixed [] ?_)
    conv => whnf
    refine And.intro (fun h => ?_) (fun h => absurd (of_decide_eq_false h) (by omega))
    conv => whnf
    refine ⟨.inr ?_, _, rfl, fun h => by omega⟩
    rw [decide_eq_false (by omega)]
  refine wk_seq ⟨[(1, .own 0 0), (2, .own 1 0), (3, .own 2 0), (4, .own 3 0), (5, .own 4 0)], wH x c tot1 ++ [(4, .blk 28 [.d (.int .i64 k), .d (.int .i64 n), .d (dL ls), .d (dGs l)])], 5⟩ (wk_vc txok mixed [] ?_) ?_
  · conv => whnf
    refine And.intro (fun h => absurd (of_decide_eq_true h) (by omega)) (fun h => ?_)
    conv => whnf
    exact weak_of rfl (by repeat ((conv => whnf); first | exact trivial | refine And.intro rfl ?_ | refine And.intro (incD (by omega)) ?_)) (by repeat ((conv => whnf); first | exact trivial | refine And.intro rfl ?_ | refine And.intro (incD (by omega)) ?_))
  by_cases h2 : bndG k = true ∧ n = x
  · have h6 : ¬ (k = 6 ∧ n = x) := fun h => bnd_ne6 h2.1 h.1
    rw [if_neg h6] at hst
    have hW : wG x c (.mk k n ls l) = szG (.mk k n ls l) := by rw [wG_mk, if_neg h6, if_pos h2]
    rw [hW]
    have hS := size_fn (.mk k n ls l) 1048576 (by omega) (by decide)
    have hp := szG_pos (.mk k n ls l)
    have hsG : sizeG (.mk k n ls l) 1048576 = (if (szG (.mk k n ls l) : Int) ≤ 1048576 then (szG (.mk k n ls l) : Int) else 1048577) := by unfold sizeG; rw [if_neg (by decide)]; rfl
    generalize szG (.mk k n ls l) = z at *
    generalize sizeG (.mk k n ls l) 1048576 = q at *
    have hq : 1 ≤ q ∧ q ≤ 1048577 ∧ ((z : Int) ≤ 1048576 → q = z) ∧ (¬ (z : Int) ≤ 1048576 → q = 1048577) := by
      rw [hsG]; split <;> omega
    have e1 : IntKind.i64.wrap ((tot1 : Int) + IntKind.i64.wrap (q - 1)) = (tot1 : Int) + (q - 1) := by
      rw [Go.Vc.wrap_small (a := q - 1) (by omega) (by omega), Go.Vc.wrap_small (by omega) (by omega)]
    obtain ⟨tot2, ht2⟩ : ∃ m : Nat, (m : Int) = (tot1 : Int) + (q - 1) := ⟨(tot1 + (q - 1)).toNat, by omega⟩
    rw [← ht2] at e1
    have hk : k = 9 ∨ k = 10 ∨ k = 11 := by
      have := h2.1; unfold bndG at this
      simp only [Bool.or_eq_true, beq_iff_eq] at this; omega
    have h9 : (n == x) = true := by rw [h2.2]; simp
    refine wk_seqR ?_
    refine wk_seq ⟨[(43, .d (.bool true)), (1, .own 0 0), (2, .own 1 0), (3, .own 2 0), (4, .own 3 0), (5, .own 4 0)], wH x c tot1 ++ [(4, .blk 28 [.d (.int .i64 k), .d (.int .i64 n), .d (dL ls), .d (dGs l)])], 5⟩ (wk_vc txok mixed [] ?_) ?_
    · rcases hk with rfl | rfl | rfl
      all_goals
        repeat' ((conv => whnf); first
          | (refine And.intro (fun hf => ?_) (fun hf => ?_) <;> first | exact Bool.noConfusion hf | (rw [h9] at hf; exact Bool.noConfusion hf) | skip))
        (conv => whnf)
        first
          | (refine (weak_kbT 43 true (by exact rfl)).trans (weak_of rfl (by repeat ((conv => whnf); first | exact trivial | refine And.intro rfl ?_ | refine And.intro (incD (by omega)) ?_)) (by repeat ((conv => whnf); first | exact trivial | refine And.intro rfl ?_ | refine And.intro (incD (by omega)) ?_))))
          | (rw [h9]; exact weak_of rfl (by repeat ((conv => whnf); first | exact trivial | refine And.intro rfl ?_ | refine And.intro (incD (by omega)) ?_)) (by repeat ((conv => whnf); first | exact trivial | refine And.intro rfl ?_ | refine And.intro (incD (by omega)) ?_)))
    refine wk_true rfl ?_
    refine wk_seq ⟨[(1, .own 0 0), (2, .own 1 0), (3, .own 2 0), (4, .own 3 0), (5, .own 4 0)], wH x c tot2 ++ [(4, .blk 28 [.d (.int .i64 k), .d (.int .i64 n), .d (dL ls), .d (dGs l)])], 5⟩ (wk_vc txok mixed [(7, .take 0 (.take 1 (.run 2 (.pure 3 (.pure 4 (.fin 5 .done))))))] ?_) ?_
    · conv => whnf
      refine And.intro (by kernel_rfl) ?_
      repeat' ((conv => whnf); first
        | refine And.intro ?_ ?_
        | refine callF hS gf100 rfl rfl ?_)
      all_goals (conv => whnf)
      all_goals rw [e1]
      all_goals exact weak_of rfl (by repeat ((conv => whnf); first | exact trivial | refine And.intro rfl ?_ | refine And.intro (incD (by omega)) ?_)) (by repeat ((conv => whnf); first | exact trivial | refine And.intro rfl ?_ | refine And.intro (incD (by omega)) ?_))
    refine wk_vc txok mixed [] ?_
    conv => whnf
    refine ⟨.inl (congrArg (fun z => Go.Vx.Out.ret (.d (.bool z))) ?_), tot2, rfl, fun h => by omega⟩
    rw [decide_eq_decide]; omega
  have hW : tot + wG x c (.mk k n ls l) = tot1 + wGs x c l := by
    rw [hst, wG_mk]
    by_cases h1 : k = 6 ∧ n = x
    · obtain ⟨rfl, rfl⟩ := hv6 h1.1
      rw [if_pos h1, if_pos h1]; simp [wGs]
    · rw [if_neg h1, if_neg h1, if_neg h2]; omega
  rw [hW]
  clear hst hW hW1
  refine wk_seq ⟨[(1, .own 0 0), (2, .own 1 0), (3, .own 2 0), (4, .own 3 0), (5, .own 4 0)], wH x c tot1 ++ [(4, .blk 28 [.d (.int .i64 k), .d (.int .i64 n), .d (dL ls), .d (dGs l)])], 5⟩ (wk_vc txok mixed [] ?_) ?_
  · repeat' ((conv => whnf); first
      | (refine And.intro (fun hf => ?_) (fun hf => ?_)))
    all_goals (conv => whnf)
    all_goals first
      | exact weak_of rfl (by repeat ((conv => whnf); first | exact trivial | refine And.intro rfl ?_ | refine And.intro (incD (by omega)) ?_)) (by repeat ((conv => whnf); first | exact trivial | refine And.intro rfl ?_ | refine And.intro (incD (by omega)) ?_))
      | (exfalso; simp_all [bndG]; done)
  refine wk_vc txok mixed [] ?_
  conv => whnf
  refine loopH (fun i : Nat => i ≤ l.length ∧ tot1 + wGs x c (l.take i) ≤ 1048576) (fun i => l.length - i) (fun i => [(54, .d (.int .i64 i))]) (fun i => wH x c (tot1 + wGs x c (l.take i)) ++ [(4, .blk 28 [.d (.int .i64 k), .d (.int .i64 n), .d (dL ls), .d (dGs l)])]) 5 0 ⟨by omega, by simp [wGs]; omega⟩ ?_ ?_
  · rw [show tot1 + wGs x c (l.take 0) = tot1 from by simp [wGs]]
    exact weak_of rfl (by repeat ((conv => whnf); first | exact trivial | refine And.intro rfl ?_ | refine And.intro (incD (by omega)) ?_)) (by repeat ((conv => whnf); first | exact trivial | refine And.intro rfl ?_ | refine And.intro (incD (by omega)) ?_))
  rintro i ⟨hi, hti⟩
  conv => whnf
  refine And.intro (fun hb => ?_) (fun hb => ?_)
  · have hil : i < l.length := by have := of_decide_eq_true hb; omega
    have hmem := szG_mem (List.getElem_mem hil)
    have hsz : szG (.mk k n ls l) = szGs l + 1 := by simp only [szG]
    have htk := wGs_take hil x c
    have hle := wGs_le l (i + 1) x c
    conv => whnf
    refine IdxC.encGs i hil rfl ?_
    conv => whnf
    refine callT [0, 1, 2, 3] (ih l[i] (List.getElem_mem hil) x c (tot1 + wGs x c (l.take i)) (hvl _ (List.getElem_mem hil)) (by omega) hc1 hc hti) gf101 rfl rfl ⟨rfl, rfl, rfl, rfl, trivial⟩ rfl ?_
    rintro o' H' ⟨rfl, tot', rfl, htt⟩
    conv => whnf
    refine And.intro (fun he => ?_) (fun he => ?_)
    · have he : ¬ (tot1 + wGs x c (l.take i) + wG x c l[i] ≤ 1048576) := by simpa using he
      conv => whnf
      refine ⟨.inr ?_, _, rfl, fun h => by omega⟩
      rw [decide_eq_false (by omega)]
    · have he : tot1 + wGs x c (l.take i) + wG x c l[i] ≤ 1048576 := by simpa using he
      obtain rfl := htt he
      rw [show tot1 + wGs x c (l.take i) + wG x c l[i] = tot1 + wGs x c (l.take (i + 1)) by omega]
      conv => whnf
      rw [incD (by omega)]
      exact again (i + 1) (by omega) ⟨by omega, by omega⟩ (weak_of rfl (by repeat ((conv => whnf); first | exact trivial | refine And.intro rfl ?_ | refine And.intro (incD (by omega)) ?_)) (by repeat ((conv => whnf); first | exact trivial | refine And.intro rfl ?_ | refine And.intro (incD (by omega)) ?_)))
  · have hil : i = l.length := by have := of_decide_eq_false hb; omega
    subst hil
    rw [List.take_length] at hti ⊢
    conv => whnf
    refine ⟨.inr ?_, _, rfl, fun _ => rfl⟩
    rw [decide_eq_true hti]
end Go.Proofs.YtcjkikadolnfgaaGreat


/- The kernel: putSize, put, fit, ask, same, node; what gives up. -/
set_option linter.unusedSimpArgs false
set_option linter.unusedVariables false
namespace Go.Proofs.YtcjkikadolnfgaaGreat
open Go.Vx Go.Vc Go.RowKit
def badW (e : Int) : D := .ifc 83 (.int .i64 e)
def resO : Except Int TG → DOut
  | .ok t => .ret (dG t)
  | .error e => .pan (badW e)
def fitR (t : TG) : Except Int TG := if szG t ≤ 1048576 then .ok t else .error 3
def putR (t : TG) (n : Int) (y : TG) : Except Int TG := if szG t + cntG n t * (szG y - 1) ≤ 1048576 then .ok (putF (szG t) t n y (freeS y)) else .error 3
def askO (c : Bool) : DOut := if c = true then .ret (.tup []) else .pan (badW 30)
theorem fit_fn (t : TG) (hz : szG t < 4611686018427387904) : FnQ Tryz.prog G0 82 [dG t] (fun o => o = resO (fitR t)) := by
  have hS := size_fn t 1048576 hz (by decide)
  have hsG : sizeG t 1048576 = (if (szG t : Int) ≤ 1048576 then (szG t : Int) else 1048577) := by unfold sizeG; rw [if_neg (by decide)]; rfl
  refine fnQ_of_vc txok mixed [] Tryz.func82 rfl rfl (by simp) fun b => ?_
  conv => whnf
  refine callF hS gf100 rfl rfl ?_
  conv => whnf
  unfold fitR
  by_cases h : szG t ≤ 1048576
  · rw [if_pos h]
    refine And.intro (fun h2 => ?_) (fun h2 => ?_)
    · exfalso
      have := of_decide_eq_true h2
      rw [hsG] at this
      split at this <;> omega
    · conv => whnf
      try exact rfl
  · rw [if_neg h]
    refine And.intro (fun h2 => ?_) (fun h2 => ?_)
    · conv => whnf
      try exact rfl
    · exfalso
      have := of_decide_eq_false h2
      rw [hsG] at this
      split at this <;> omega
theorem ask_fn (c : Bool) : FnQ Tryz.prog G0 167 [.bool c] (fun o => o = askO c) := by
  cases c
  · refine fnQ_of_vc txok mixed [] Tryz.func167 rfl rfl (by simp) fun b => ?_
    conv => whnf
    refine And.intro (fun _ => ?_) (fun h => by cases h)
    conv => whnf
    try exact rfl
  · refine fnQ_of_vc txok mixed [] Tryz.func167 rfl rfl (by simp) fun b => ?_
    conv => whnf
    refine And.intro (fun h => by cases h) (fun _ => ?_)
    conv => whnf
    try exact rfl
theorem same_fn (a u : TG) (hz : szG a < 1099511627776) : FnQ Tryz.prog G0 170 [dG a, dG u] (fun o => o = askO (samG a u [] [])) := by
  refine fnQ_of_vc txok mixed [] Tryz.func170 rfl rfl (by simp) fun b => ?_
  conv => whnf
  refine callF (sameTop_fn a u hz) gf19 rfl rfl ?_
  conv => whnf
  refine callQ rfl rfl gf167 (ask_fn (samG a u [] [])) ?_
  rintro o rfl
  unfold askO
  cases samG a u [] []
  · conv => whnf
    try exact rfl
  · conv => whnf
    try exact rfl
theorem node_fn (k : Int) (l : List TG) : FnR Tryz.prog G0 165 [.int .i64 k, dGs l] (dG (.mk k 0 [] l)) := by
  refine fnQ_of_vc txok mixed [] Tryz.func165 rfl rfl (by simp) fun b => ?_
  conv => whnf
  rfl
theorem putSize_fn (t : TG) (n : Int) (y : TG) (hv : okV t = true) (hz : szG t < 1099511627776) (hy : szG y < 4611686018427387904) : FnR Tryz.prog G0 60 [dG t, .int .i64 n, dG y] (.int .i64 (if szG t + cntG n t * (szG y - 1) ≤ 1048576 then ((szG t + cntG n t * (szG y - 1) : Nat) : Int) else 1048577)) := by
  have hS := size_fn y 1048576 hy (by decide)
  have hyp := szG_pos y
  have hsG : sizeG y 1048576 = (if (szG y : Int) ≤ 1048576 then (szG y : Int) else 1048577) := by unfold sizeG; rw [if_neg (by decide)]; rfl
  obtain ⟨c, hc⟩ : ∃ c : Nat, (c : Int) = sizeG y 1048576 := ⟨(sizeG y 1048576).toNat, by rw [hsG]; split <;> omega⟩
  have hc1 : 1 ≤ c ∧ c ≤ 1048577 := by rw [hsG] at hc; split at hc <;> omega
  have hw := wG_cnt t n c hv
  have hcl := cnt_le t n
  have htp := szG_pos t
  have hcond : (0 + wG n c t ≤ 1048576 ↔ szG t + cntG n t * (szG y - 1) ≤ 1048576) ∧ (0 + wG n c t ≤ 1048576 → 0 + wG n c t = szG t + cntG n t * (szG y - 1)) := by
    have hm : cntG n t * (szG y - 1) + cntG n t = cntG n t * szG y := by
      conv => lhs; rw [← Nat.mul_succ]
      congr 1; omega
    by_cases hle : szG y ≤ 1048576
    · have e : c = szG y := by rw [hsG, if_pos (by omega)] at hc; omega
      subst e
      omega
    · have e : c = 1048577 := by rw [hsG, if_neg (by omega)] at hc; omega
      subst e
      rcases Nat.eq_zero_or_pos (cntG n t) with h0 | h0
      · rw [h0] at hw hm ⊢; omega
      · have h1 : 1048577 ≤ cntG n t * 1048577 := Nat.le_mul_of_pos_left _ h0
        have h2 : szG y ≤ cntG n t * szG y := Nat.le_mul_of_pos_left _ h0
        have h3 : cntG n t * 1048576 + cntG n t = cntG n t * 1048577 := by omega
        have h4 : 1048576 ≤ cntG n t * 1048576 := Nat.le_mul_of_pos_left _ h0
        have h5 : 1048576 ≤ cntG n t * (szG y - 1) := Nat.le_trans (by omega) (Nat.le_mul_of_pos_left _ h0)
        omega
  rw [← hc] at hS
  refine fnQ_of_vc txok mixed [] Tryz.func60 rfl rfl (by simp) fun b => ?_
  conv => whnf
  refine callF hS gf100 rfl rfl ?_
  conv => whnf
  refine callT [1, 4, 3, 5] (walk_tri t n c 0 hv hz hc1.1 hc1.2 (by omega)) gf101 rfl rfl ⟨rfl, rfl, rfl, rfl, trivial⟩ rfl ?_
  rintro o' H' ⟨rfl, tot', rfl, htt⟩
  conv => whnf
  refine And.intro (fun he => ?_) (fun he => ?_)
  · have he : ¬ (0 + wG n c t ≤ 1048576) := by simpa using he
    conv => whnf
    rw [if_neg (fun h => he (hcond.1.2 h))]
  · have he : 0 + wG n c t ≤ 1048576 := by simpa using he
    rw [if_pos (hcond.1.1 he), htt he, hcond.2 he]
    conv => whnf
    try exact rfl
theorem kput_fn (t : TG) (n : Int) (y : TG) (hv : okV t = true) (hz : szG t < 1099511627776) (hy : szG y < 1099511627776) : FnQ Tryz.prog G0 29 [dG t, .int .i64 n, dG y] (fun o => o = resO (putR t n y)) := by
  have hS := putSize_fn t n y hv hz (by omega)
  have hP := putTop_fn t hz n y hy
  unfold putR
  by_cases h : szG t + cntG n t * (szG y - 1) ≤ 1048576
  · rw [if_pos h] at hS ⊢
    refine fnQ_of_vc txok mixed [] Tryz.func29 rfl rfl (by simp) fun b => ?_
    conv => whnf
    refine callF hS gf60 rfl rfl ?_
    conv => whnf
    refine And.intro (fun he => absurd (of_decide_eq_true he) (by omega)) (fun he => ?_)
    conv => whnf
    refine callF hP gf61 rfl rfl ?_
    conv => whnf
    try exact rfl
  · rw [if_neg h] at hS ⊢
    refine fnQ_of_vc txok mixed [] Tryz.func29 rfl rfl (by simp) fun b => ?_
    conv => whnf
    refine callF hS gf60 rfl rfl ?_
    conv => whnf
    refine And.intro (fun he => ?_) (fun he => absurd (of_decide_eq_false he) (by decide))
    conv => whnf
    try exact rfl
end Go.Proofs.YtcjkikadolnfgaaGreat


/- Target terms as data; scopes. -/
set_option linter.unusedSimpArgs false
set_option linter.unusedVariables false
namespace Go.Proofs.YtcjkikadolnfgaaGreat
open Go.Vx Go.Vc Go.RowKit
inductive MG where
  | mk (k n i : Int) (nm : ByteArray) (ls : List ByteArray) (ts : List TG) (ks : List MG)
def MG.k : MG → Int | .mk k _ _ _ _ _ _ => k
def MG.n : MG → Int | .mk _ n _ _ _ _ _ => n
def MG.i : MG → Int | .mk _ _ i _ _ _ _ => i
def MG.nm : MG → ByteArray | .mk _ _ _ m _ _ _ => m
def MG.ls : MG → List ByteArray | .mk _ _ _ _ l _ _ => l
def MG.ts : MG → List TG | .mk _ _ _ _ _ t _ => t
def MG.ks : MG → List MG | .mk _ _ _ _ _ _ l => l
mutual
def encM0 : MG → List D
  | .mk k n i nm ls ts ks => [.int .i64 k, .int .i64 n, .int .i64 i, .str nm, slD 16 ls.length (encS ls), slD 64 ts.length (encGs ts), slD 112 ks.length (encMs ks)]
def encMs : List MG → List D
  | [] => []
  | m :: r => encM0 m ++ encMs r
end
def encM (m : MG) : List D := [.int .i64 m.k, .int .i64 m.n, .int .i64 m.i, .str m.nm, slD 16 m.ls.length (encS m.ls), slD 64 m.ts.length (encGs m.ts), slD 112 m.ks.length (encMs m.ks)]
theorem encM0_eq (m : MG) : encM0 m = encM m := by cases m; rfl
theorem encMs_eq : ∀ l : List MG, encMs l = fl encM l
  | [] => rfl
  | t :: r => by simp only [encMs, fl, encMs_eq r, encM0_eq]
theorem encM_len (m : MG) : (encM m).length = 7 := rfl
theorem encMs_at (l : List MG) (i : Nat) (hi : i < l.length) : ((encMs l).drop (i * 7)).take 7 = encM l[i] := by rw [encMs_eq]; exact fl_at encM_len l i hi
theorem IdxC.encMs {l : List MG} {j : Int} {K : Go.Vx.SV → Prop} (i : Nat) (hi : i < l.length) (hj : j = (i : Int)) (hk : K (.d (.ptr (encM l[i]) 0))) : IdxC l.length 7 (Go.Proofs.YtcjkikadolnfgaaGreat.encMs l) j K :=
  ⟨i, hj, hi, _, encMs_at l i hi, hk⟩
abbrev dM (m : MG) : D := .agg (encM m)
abbrev dMs (l : List MG) : D := slD 112 l.length (encMs l)
theorem szOk_M {m : MG} (h : szOk (dM m)) : m.ks.length * 112 ≤ LB ∧ szOks (encMs m.ks) ∧ m.ts.length * 64 ≤ LB ∧ m.ls.length * 16 ≤ LB := by
  simp only [dM, encM, szOk, szOks] at h
  have h1 := szOk_sl h.2.2.2.2.2.2.1
  exact ⟨h1.1, h1.2, (szOk_sl h.2.2.2.2.2.1).1, (szOk_sl h.2.2.2.2.1).1⟩
theorem MG.ind {P : MG → Prop} (h : ∀ k n i nm ls ts ks, (∀ m ∈ ks, P m) → P (.mk k n i nm ls ts ks)) : ∀ m, P m
  | .mk k n i nm ls ts ks => h k n i nm ls ts ks (MG.indL h ks)
where MG.indL {P : MG → Prop} (h : ∀ k n i nm ls ts ks, (∀ m ∈ ks, P m) → P (.mk k n i nm ls ts ks)) : ∀ l : List MG, ∀ m ∈ l, P m
  | [], _, ht => by cases ht
  | x :: r, t, ht => by
    rcases List.mem_cons.1 ht with e | ht
    · rw [e]; exact MG.ind h x
    · exact MG.indL h r t ht
mutual
def szM : MG → Nat
  | .mk _ _ _ _ _ ts ks => szMs ks + szGs ts + 1
def szMs : List MG → Nat
  | [] => 0
  | t :: r => szM t + szMs r
end
theorem szM_mem {l : List MG} {t : MG} (h : t ∈ l) : szM t ≤ szMs l := by
  induction l with
  | nil => cases h
  | cons x r ih =>
    simp only [szMs]
    rcases List.mem_cons.1 h with rfl | h
    · omega
    · have := ih h; omega
theorem szM_eq (m : MG) : szM m = szMs m.ks + szGs m.ts + 1 := by cases m; simp only [szM, MG.ks, MG.ts]
abbrev Bd := ByteArray × TG
def encB1 (x : Bd) : List D := .str x.1 :: encG x.2
def encBds : List Bd → List D := fl encB1
theorem encB1_len (x : Bd) : (encB1 x).length = 5 := rfl
theorem encBds_len (l : List Bd) : (encBds l).length = l.length * 5 := fl_len encB1_len l
theorem encBds_at (l : List Bd) (i : Nat) (hi : i < l.length) : ((encBds l).drop (i * 5)).take 5 = encB1 l[i] := fl_at encB1_len l i hi
theorem encBds_app (l m : List Bd) : encBds (l ++ m) = encBds l ++ encBds m := fl_app l m
theorem encB1_scal (t : Bd) : ∀ d ∈ encB1 t, scalD d = true := by
  intro d hd
  simp only [encB1, List.mem_cons] at hd
  rcases hd with rfl | hd
  · rfl
  · exact encG_scal t.2 d hd
theorem encBds_scal (l : List Bd) : ∀ d ∈ encBds l, scalD d = true := by
  intro d hd
  obtain ⟨t, _, h⟩ := fl_mem hd
  exact encB1_scal t d h
theorem IdxC.encBds {l : List Bd} {j : Int} {K : Go.Vx.SV → Prop} (i : Nat) (hi : i < l.length) (hj : j = (i : Int)) (hk : K (.d (.ptr (encB1 l[i]) 0))) : IdxC l.length 5 (Go.Proofs.YtcjkikadolnfgaaGreat.encBds l) j K :=
  ⟨i, hj, hi, _, encBds_at l i hi, hk⟩
abbrev dBs (l : List Bd) : D := slD 80 l.length (encBds l)
abbrev dSc (vars : List Int) (l : List Bd) : D := .agg [dI vars, dBs l]
end Go.Proofs.YtcjkikadolnfgaaGreat


/- slices.Backward over names with their types. -/
set_option linter.unusedSimpArgs false
set_option linter.unusedVariables false
namespace Go.Proofs.YtcjkikadolnfgaaGreat
open Go.Proofs Go.RowKit Go.Shelf
attribute [local go_sem] Oper.semAt_some
def elN (cl : Nat → Nat → Value) (j : Nat) : Value := .agg #[cl j 0, cl j 1, cl j 2, cl j 3, cl j 4]
def encN (cl : Nat → Nat → Value) (x : Nat) : Array Value := #[.int .i64 (x : Int), .agg #[cl x 0, cl x 1, cl x 2, cl x 3, cl x 4]]
def prN (n : Nat) : List Nat := (List.range n).map fun j => n - 1 - j
theorem prN_take {n k : Nat} (h : k < n) : (prN n).take (k + 1) = (prN n).take k ++ [n - 1 - k] := by
  have hl : k < (prN n).length := by simp [prN, h]
  rw [List.take_succ_eq_append_getElem hl]
  simp [prN]
theorem kpCell {S : Nat → Prop} {A B : World} (h : Go.Vx.KpP S A B) {p : Addr} (hp : S p.block) : B.cell? p = A.cell? p := by
  unfold World.cell?
  rw [h.2 _ hp]
theorem kpTrans {S : Nat → Prop} {A B C : World} (h : Go.Vx.KpP S A B) (h' : Go.Vx.KpP S B C) : Go.Vx.KpP S A C := ⟨Nat.le_trans h.1 h'.1, fun k hk => (h'.2 k hk).trans (h.2 k hk)⟩
set_option maxRecDepth 100000 in
set_option maxHeartbeats 2000000 in
theorem backB_in (F : Fence) (n : Nat) (h70 : F.fn 183) (hro : F.round = none) (hn : 1 ≤ n) (l Bs so b off cap : Nat) (N : Nat) (cl : Nat → Nat → Value) (hreach : N * 80 ≤ 140737488355328) (Sx : Nat → Prop) (hb : Sx b) (hBl : Sx Bs) (J Jx : List Nat → World → Prop) (W : World) (hJ : AbidesFrom W.heap.size J)
    (hY : ∀ pre x W, J pre W → x < N → pre.length < N → YieldAt F (n - 1) Tryz.prog l (encN cl x) W fun e W' =>
      (e = .returned (.bool true) ∧ J (pre ++ [x]) W' ∧ Go.Vx.KpP Sx W W') ∨ (e = .returned (.bool false) ∧ Jx (pre ++ [x]) W'))
    (hBs : W.cell? ⟨Bs, so, none⟩ = some (.slice (some ⟨b, off, none⟩) N cap))
    (hc : ∀ j, j < N → ∀ i, i < 5 → W.cell? ⟨b, off + j * 5 + i, none⟩ = some (cl j i)) (h0 : J [] W) :
    CallsIn F n Tryz.prog 183 #[.func (.yield l) #[] #[], .pointer (some ⟨Bs, so, none⟩)] W fun e W' => (∃ v, e = .returned v) ∧
      ((∃ ys, ys = prN N ∧ J ys W') ∨ (∃ pre, (∃ k, k ≤ N ∧ pre = (prN N).take k) ∧ Jx pre W')) := by
  refine callsIn_of_wp Tryz.func183 rfl h70 ?_ hro
  simp only [Tryz.ntmps183, List.size_toArray, List.length_cons, List.length_nil, Nat.reduceAdd, Nat.reduceSub, Array.replicate_succ, Array.replicate_zero, List.push_toArray, List.append_toArray, List.nil_append, List.cons_append]
  gi_wp2
  gi_loopw [3] (fun i wr => ∃ k : Nat, k ≤ N ∧ i = .int .i64 ((N : Int) - 1 - k) ∧ J ((prN N).take k) wr ∧ Go.Vx.KpP Sx W wr)
    (fun i _ => (intOf i + 1).toNat)
  case atStart => exact ⟨0, Nat.zero_le _, by simp, h0, ⟨Nat.le_refl _, fun _ _ => rfl⟩⟩
  case round =>
    obtain ⟨k, hk, rfl, hJs, hnx⟩ := hrel
    by_cases hlt : k < N
    · have e : (N : Int) - 1 - (k : Int) = ((N - 1 - k : Nat) : Int) := by omega
      have hc0 := (kpCell hnx (p := ⟨b, off + (N - 1 - k) * 5 + 0, none⟩) hb).trans (hc (N - 1 - k) (by omega) 0 (by omega))
      have hc1 := (kpCell hnx (p := ⟨b, off + (N - 1 - k) * 5 + 1, none⟩) hb).trans (hc (N - 1 - k) (by omega) 1 (by omega))
      have hc2 := (kpCell hnx (p := ⟨b, off + (N - 1 - k) * 5 + 2, none⟩) hb).trans (hc (N - 1 - k) (by omega) 2 (by omega))
      have hc3 := (kpCell hnx (p := ⟨b, off + (N - 1 - k) * 5 + 3, none⟩) hb).trans (hc (N - 1 - k) (by omega) 3 (by omega))
      have hc4 := (kpCell hnx (p := ⟨b, off + (N - 1 - k) * 5 + 4, none⟩) hb).trans (hc (N - 1 - k) (by omega) 4 (by omega))
      have hBs1 := (kpCell hnx (p := ⟨Bs, so, none⟩) hBl).trans hBs
      have htk := prN_take hlt
      rw [e]
      generalize hq : N - 1 - k = q at *
      rw [Nat.add_zero] at hc0
      obtain ⟨fn, tmps, assign, body, hy, hR⟩ := hY ((prN N).take k) q wr hJs (by omega) (by simp [prN]; omega)
      unfold encN at hy
      gi_wp2
      refine hR.mono ?_
      rintro e W3 (⟨rfl, hJ3, hk3⟩ | ⟨rfl, hJx3⟩)
      · gi_wp2
        go_roundw
        case rel => exact ⟨k + 1, by omega, by congr 1; omega, by rw [htk]; exact hJ3, kpTrans hnx hk3⟩
        case measure => simp [intOf]
      · gi_wp2
        refine bodyPost_ret (results_none rfl _ _ _) rfl ?_
        exact ⟨⟨_, rfl⟩, .inr ⟨_, ⟨k + 1, by omega, htk.symm⟩, hJx3⟩⟩
    · obtain rfl : k = N := by omega
      gi_wp2
      go_end0
      exact ⟨⟨_, rfl⟩, .inl ⟨_, rfl, by rw [List.take_of_length_le (by simp [prN])] at hJs; exact hJs⟩⟩
end Go.Proofs.YtcjkikadolnfgaaGreat


/- slices.Backward over names with their types: what it is promised. -/
set_option linter.unusedSimpArgs false
set_option linter.unusedVariables false
namespace Go.Proofs.YtcjkikadolnfgaaGreat
open Go.Proofs Go.RowKit Go.Shelf
attribute [local go_sem] Oper.semAt_some
set_option maxRecDepth 100000 in
set_option maxHeartbeats 1000000 in
theorem backB_nil_in (F : Fence) (n : Nat) (h70 : F.fn 183) (hro : F.round = none) (l Bs so c : Nat) (A : Option Addr) (J : List Nat → World → Prop) (W : World) (hBs : W.cell? ⟨Bs, so, none⟩ = some (.slice A 0 c)) (h0 : J [] W) :
    CallsIn F n Tryz.prog 183 #[.func (.yield l) #[] #[], .pointer (some ⟨Bs, so, none⟩)] W fun e W' => (∃ v, e = .returned v) ∧ J [] W' := by
  refine callsIn_of_wp Tryz.func183 rfl h70 ?_ hro
  simp only [Tryz.ntmps183, List.size_toArray, List.length_cons, List.length_nil, Nat.reduceAdd, Nat.reduceSub, Array.replicate_succ, Array.replicate_zero, List.push_toArray, List.append_toArray, List.nil_append, List.cons_append]
  gi_wp2
  gi_loopw [3] (fun i wr => i = .int .i64 (-1) ∧ J [] wr) (fun _ _ => 0)
  case atStart => exact ⟨rfl, h0⟩
  case round =>
    obtain ⟨rfl, hJs⟩ := hrel
    gi_wp2
    go_end0
    exact ⟨⟨_, rfl⟩, hJs⟩
theorem spotNone {w : World} {ad : Addr} {v : Value} (h : w.cell? ad = some v) : ad.spot = none := by
  unfold World.cell? at h
  split at h
  · cases hs : ad.spot with
    | none => rfl
    | some s => simp [hs] at h
  · cases h
theorem repDs5 {S : Nat → Prop} {w : World} {a0 a1 a2 a3 a4 : Go.Vx.D} {vs : List Value} (h : Go.Vx.RepDs S w [a0, a1, a2, a3, a4] vs) : ∃ v0 v1 v2 v3 v4, vs = [v0, v1, v2, v3, v4] := by
  simp only [Go.Vx.RepDs] at h
  obtain ⟨v0, s0, rfl, _, v1, s1, rfl, _, v2, s2, rfl, _, v3, s3, rfl, _, v4, s4, rfl, _, rfl⟩ := h
  exact ⟨v0, v1, v2, v3, v4, rfl⟩
theorem backB_of {S : Nat → Prop} {w : World} {l : List Bd} (hl : l.length * 80 ≤ 140737488355328) {ad : Addr} (hr : Go.Vx.RepC S w [dBs l] (some ad) 0) (hlt : ∀ k, S k → k < w.heap.size) :
    ∃ cl : Nat → Nat → Value, (∀ j (h : j < l.length), Go.Vx.RepDs S w (encB1 l[j]) [cl j 0, cl j 1, cl j 2, cl j 3, cl j 4]) ∧
    SeqStopsK Fence.wide 9 Tryz.prog 183 #[.pointer (some ad)] (fun j : Fin l.length => encN cl j.val) (Go.Vx.KpP S) (fun ys => ys.map (·.val) = prN l.length) (fun pre => ∃ k, k ≤ l.length ∧ pre.map (·.val) = (prN l.length).take k) l.length w := by
  simp only [Go.Vx.RepC] at hr
  obtain ⟨⟨ad', v, e, h1, h2, h3⟩, _⟩ := hr
  injection e with e; subst e
  rw [show ad.add 0 = ad from rfl] at h2
  have hs := spotNone h2
  obtain ⟨Bs, so, sp⟩ := ad
  simp only at hs; subst hs
  simp only [Go.Vx.slD, Go.Vx.RepD] at h3
  obtain ⟨A, c, rfl, g1, g2, g3, g4⟩ := h3
  rcases Nat.eq_zero_or_pos l.length with hz | hz
  · have hl0 : l = [] := List.length_eq_zero_iff.1 hz
    subst hl0
    refine ⟨fun _ _ => undef, And.intro (fun j (h : j < 0) => absurd h (Nat.not_lt_zero j)) ?_⟩
    intro q J Jx W hW hJ _ hY h0
    have h2' : W.cell? ⟨Bs, so, none⟩ = some (.slice A 0 c) := (hW.cell (p := ⟨Bs, so, none⟩) (hlt _ h1)).trans h2
    exact (backB_nil_in Fence.wide 9 trivial rfl q Bs so c A (fun p W => p = [] ∧ J [] W) W h2' ⟨rfl, h0⟩).mono fun e W' ⟨he, hj⟩ => ⟨he, .inl ⟨[], rfl, hj.2⟩⟩
  · obtain ⟨ad2, rfl⟩ := g3 (by omega)
    obtain ⟨vs, k1, k2⟩ := g4.cells
    have hvl : vs.length = l.length * 5 := by rw [k1.len, encBds_len]
    have k3 : ∀ j, j < l.length → ∀ i, i < 5 → S ad2.block ∧ w.cell? (ad2.add (j * 5 + i)) = some (vs.getD (j * 5 + i) undef) := by
      intro j hj i hi
      have := k2 (j * 5 + i) (vs.getD (j * 5 + i) undef) (by rw [List.getD_eq_getElem?_getD, List.getElem?_eq_getElem (by omega)]; rfl)
      simpa using this
    have hs2 := spotNone (k3 0 hz 0 (by omega)).2
    obtain ⟨bk, off, sp⟩ := ad2
    have hs2 : sp = none := hs2
    subst hs2
    refine ⟨fun j i => vs.getD (j * 5 + i) undef, fun j h => ?_, ?_⟩
    · have hd := (k1.drop (j * 5)).take 5
      rw [encBds_at l j h] at hd
      obtain ⟨v0, v1, v2, v3, v4, he⟩ := repDs5 (show Go.Vx.RepDs S w [_, _, _, _, _] _ from hd)
      have gt : ∀ i, i < 5 → vs.getD (j * 5 + i) undef = ([v0, v1, v2, v3, v4] : List Value).getD i undef := by
        intro i hi
        rw [← he, List.getD_eq_getElem?_getD, List.getD_eq_getElem?_getD, List.getElem?_take_of_lt hi, List.getElem?_drop]
      rw [he] at hd
      show Go.Vx.RepDs S w (encB1 l[j]) [vs.getD (j * 5 + 0) undef, vs.getD (j * 5 + 1) undef, vs.getD (j * 5 + 2) undef, vs.getD (j * 5 + 3) undef, vs.getD (j * 5 + 4) undef]
      rw [gt 0 (by omega), gt 1 (by omega), gt 2 (by omega), gt 3 (by omega), gt 4 (by omega)]
      exact hd
    · intro q J Jx W hW hJ hJx hY h0
      have h2' : W.cell? ⟨Bs, so, none⟩ = some (.slice (some ⟨bk, off, none⟩) l.length c) := (hW.cell (p := ⟨Bs, so, none⟩) (hlt _ h1)).trans h2
      refine (backB_in Fence.wide 9 trivial rfl (by omega) q Bs so bk off c l.length (fun j i => vs.getD (j * 5 + i) undef) hl S (k3 0 hz 0 (by omega)).1 h1 (fun p W => ∃ p' : List (Fin l.length), p'.map (·.val) = p ∧ J p' W) (fun p W => ∃ p' : List (Fin l.length), p'.map (·.val) = p ∧ Jx p' W) W ?_ ?_ h2' (fun j hj i hi => ?_) ⟨[], rfl, h0⟩).mono ?_
      · rintro s X Y row ⟨p', e, hp⟩ hg hr
        exact ⟨p', e, hJ p' X Y row hp hg hr⟩
      · rintro pre x W1 ⟨p', rfl, hp⟩ hx hpl
        obtain ⟨fn, tmps, assign, body, hy, hR⟩ := hY p' ⟨x, hx⟩ W1 hp (by simpa using hpl)
        refine ⟨fn, tmps, assign, body, hy, hR.mono ?_⟩
        rintro e W' (⟨h1, h2, h3⟩ | ⟨h1, h2⟩)
        · exact .inl ⟨h1, ⟨p' ++ [⟨x, hx⟩], by simp, h2⟩, h3⟩
        · exact .inr ⟨h1, p' ++ [⟨x, hx⟩], by simp, h2⟩
      · have := (k3 j hj i hi).2
        rw [Go.Vc.add_own] at this
        rw [Nat.add_assoc]
        exact (hW.cell (p := ⟨bk, off + (j * 5 + i), none⟩) (hlt _ (k3 0 hz 0 (by omega)).1)).trans this
      · rintro e W' ⟨hv, ⟨ys, rfl, p', e1, hj⟩ | ⟨pre, ⟨k, hk, rfl⟩, p', e1, hj⟩⟩
        · exact ⟨hv, .inl ⟨p', e1, hj⟩⟩
        · exact ⟨hv, .inr ⟨p', ⟨k, hk, e1⟩, hj⟩⟩
end Go.Proofs.YtcjkikadolnfgaaGreat


