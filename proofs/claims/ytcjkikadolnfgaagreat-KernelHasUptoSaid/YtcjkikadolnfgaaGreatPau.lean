/- Texts of mine, joined: Bp Bq Ca Ak Cb Da Au Av Db Ea Eb Ec Dc. -/
import Derived.Test.YtcjkikadolnfgaaGreatPat
import Derived.Test.YtcjkikadolnfgaaGreatPar
/- alive. -/
set_option linter.unusedSimpArgs false
set_option linter.unusedVariables false
namespace Go.Proofs.YtcjkikadolnfgaaGreat
open Go.Vx Go.Vc Go.RowKit
abbrev nx : ByteArray := ⟨#[120]⟩
abbrev nz : ByteArray := ⟨#[122]⟩
abbrev n0 : ByteArray := ⟨#[]⟩
abbrev xM : MG := .mk 4 0 0 nx [] [] []
abbrev zM : MG := .mk 4 0 0 nz [] [] []
abbrev lamM : MG := .mk 5 0 0 nx [] [varG 1] [xM]
abbrev idM : MG := .mk 20 1 0 n0 [] [] [lamM]
abbrev fnT : TG := .mk 4 0 [] [varG 1, varG 1]
abbrev wantT : TG := .mk 10 1 [] [fnT]
abbrev cX : Chk := fun _ l => fitE (lookR l nx)
abbrev cZ : Chk := fun _ l => fitE (lookR l nz)
abbrev cL : Chk := fun vars l => fitE (lamR nx (varG 1) cX vars l)
abbrev cI : Chk := fun vars l => fitE (allR 1 cL vars l)
theorem rightX : rightM zM = 0 := by rfl
theorem rightI : rightM idM = 0 := by
  have h1 : shpM idM = true := by simp [shpM_mk, badM, endM, shpOf, shpTab, MG.k, MG.n, MG.i, MG.nm, MG.ls, MG.ts, MG.ks]
  have h2 : shpM lamM = true := rfl
  have h3 : shpM xM = true := rfl
  unfold rightM
  have e3 : allM (.mk 4 0 0 nx [] [] []) = true := by rw [allM, allGs, allMs, h3]; rfl
  have e2 : allM (.mk 5 0 0 nx [] [varG 1] [xM]) = true := by rw [allM, allGs, allMs, h2, e3, allG_var, allGs, allMs]; rfl
  have e1 : allM (.mk 20 1 0 n0 [] [] [lamM]) = true := by rw [allM, allGs, allMs, h1, e2, allMs]; rfl
  rw [if_neg (by simp [depM, depMs, depGs, depG, varG]), if_pos e1]
theorem rightV (m : Int) : rightG (varG m) = 0 := by
  unfold rightG
  rw [if_neg (by simp [depG, depGs, varG]), if_pos (allG_var m)]
theorem freeV (m x : Int) : x ∈ freeS (varG m) ↔ x = m := by rw [mem_freeS, fv_var]
theorem ins1 : insG (varG 1) [1] = true := by
  unfold insG
  rw [rightV]
  have : ((freeS (varG 1)).any fun n => !decide (n ∈ [1])) = false := by
    rw [List.any_eq_false]
    intro x hx
    rw [freeV] at hx
    subst hx
    decide
  rw [this]
  rfl
theorem ins0 : insG (varG 1) [] = false := by
  unfold insG
  have : ((freeS (varG 1)).any fun n => !decide (n ∈ ([] : List Int))) = true := by
    rw [List.any_eq_true]
    exact ⟨1, (freeV 1 1).2 rfl, by decide⟩
  rw [this, Bool.not_true, Bool.and_false]
theorem closedZ : closedR zM cZ = .error 30 := by unfold closedR; rw [if_pos rightX]; rfl
theorem closedI : closedR idM cI = .ok wantT := by
  unfold closedR
  rw [if_pos rightI]
  show fitE (allR 1 cL [] []) = _
  unfold allR
  rw [if_neg nofun]
  have e : cL ([] ++ [1]) [] = .ok fnT := by
    show fitE (lamR nx (varG 1) cX [1] []) = _
    unfold lamR
    rw [ins1]
    rfl
  rw [e]
  rfl
theorem samW : samG wantT wantT [] [] = true := by rfl
theorem samV : samG wantT (varG 1) [] [] = false := by rfl
theorem kidI : KidOk idM cI := kid_all 1 0 n0 [] lamM cL (kid_lam 0 0 nx [] (varG 1) xM cX (kid_var 0 0 nx [] [] []) (by decide)) (by decide)
theorem kidZ : KidOk zM cZ := kid_var 0 0 nz [] [] []
theorem v_fn (n : Int) : FnR Tryz.prog G0 23 [.int .i64 n] (dG (varG n)) := by
  refine fnQ_of_vc txok mixed [] Tryz.func23 rfl rfl (by simp) fun b => ?_
  conv => whnf
  try exact rfl
theorem lfn_fn (a c : TG) : FnR Tryz.prog G0 25 [dG a, dG c] (dG (.mk 4 0 [] [a, c])) := by
  obtain ⟨k1, n1, l1, m1⟩ := a
  obtain ⟨k2, n2, l2, m2⟩ := c
  refine fnQ_of_vc txok mixed [] Tryz.func25 rfl rfl (by simp) fun b => ?_
  conv => whnf
  try exact rfl
theorem variable_fn (nm : ByteArray) : FnR Tryz.prog G0 24 [.str nm] (dM (.mk 4 0 0 nm [] [] [])) := by
  refine fnQ_of_vc txok mixed [] Tryz.func24 rfl rfl (by simp) fun b => ?_
  conv => whnf
  try exact rfl
theorem llam_fn (nm : ByteArray) (a : TG) (u : MG) : FnR Tryz.prog G0 22 [.str nm, dG a, dM u] (dM (.mk 5 0 0 nm [] [a] [u])) := by
  obtain ⟨k1, n1, l1, m1⟩ := a
  obtain ⟨k, n, i, nm2, ls, ts, ks⟩ := u
  refine fnQ_of_vc txok mixed [] Tryz.func22 rfl rfl (by simp) fun b => ?_
  conv => whnf
  try exact rfl
end Go.Proofs.YtcjkikadolnfgaaGreat


/- alive: walked. -/
set_option linter.unusedSimpArgs false
set_option linter.unusedVariables false
namespace Go.Proofs.YtcjkikadolnfgaaGreat
open Go.Vx Go.Vc Go.RowKit
set_option maxRecDepth 20000 in
set_option maxHeartbeats 2000000 in
theorem alive_fn : FnR Tryz.prog G0 11 [] (.bool true) := by
  have hg : ∀ u, closedR idM cI = .ok u → szG u ≤ 1048576 := fun u h => by
    rw [closedI] at h; injection h with h; subst h; simp [szG, szGs, varG]
  have he : ∀ e, closedR idM cI = .error e → e ≠ 0 := fun e h => by rw [closedI] at h; cases h
  have hC := closed_fn idM cI (fun _ => kidI) (by decide)
  have hZ := closed_fn zM cZ (fun _ => kidZ) (by decide)
  have hH1 := has_fn idM cI wantT (fun _ => kidI) (by decide) hg he
  have hH2 := has_fn idM cI (varG 1) (fun _ => kidI) (by decide) hg he
  rw [closedI] at hC hH1 hH2
  rw [closedZ] at hZ
  unfold hasR at hH1 hH2
  simp only at hH1 hH2
  rw [samW, if_pos rfl] at hH1
  rw [samV, if_neg (by decide)] at hH2
  have hS := rsameTop_fn wantT wantT (by decide)
  rw [samW] at hS
  have hI1 := inScope_fn (varG 1) [1] (by decide)
  have hI0 := inScope_fn (varG 1) [] (by decide)
  rw [ins1] at hI1
  rw [ins0] at hI0
  have hV := v_fn 1
  refine fnQ_of_vc txok mixed [(5, .pure 0 (.pure 1 (.pure 2 (.take 3 (.take 4 (.run 5 (.pure 6 (.pure 7 (.pure 8 (.pure 9 (.pure 10 (.pure 11 (.take 12 (.take 13 (.run 14 (.pure 15 (.pure 16 (.pure 17 (.take 18 (.run 19 (.run 20 (.pure 21 (.pure 22 (.pure 23 (.two 24 25 (.run 25 (.run 26 (.pure 27 (.pure 28 (.run 29 (.run 30 (.pure 31 (.pure 32 (.pure 33 .done))))))))) (.run 24 (.run 26 (.pure 27 (.pure 28 (.run 29 (.run 30 (.pure 31 (.pure 32 (.pure 33 .done))))))))))))))))))))))))))))))))))] Tryz.func11 rfl rfl (by simp) fun b => ?_
  repeat' ((conv => whnf); first
    | refine And.intro (by kernel_rfl) ?_
    | refine And.intro (fun h => ?_) (fun h => absurd h (by decide))
    | refine And.intro (fun h => absurd h (by decide)) (fun h => ?_)
    | refine And.intro ?_ ?_
    | refine callF hV gf23 rfl rfl ?_
    | refine callF (variable_fn nx) gf24 rfl rfl ?_
    | refine callF (variable_fn nz) gf24 rfl rfl ?_
    | refine callF (llam_fn nx (varG 1) xM) gf22 rfl rfl ?_
    | refine callF (lfn_fn (varG 1) (varG 1)) gf25 rfl rfl ?_
    | (refine pubC (fun i => Nat.beq i 0) ?_; (conv => whnf); refine callF hC gf6 rfl rfl ?_)
    | (refine pubC (fun i => Nat.beq i 3) ?_; (conv => whnf); refine callF hZ gf6 rfl rfl ?_)
    | refine callF hS gf10 rfl rfl ?_
    | refine callF hH1 gf8 rfl rfl ?_
    | refine callF hH2 gf8 rfl rfl ?_
    | refine callF hI0 gf14 rfl rfl ?_
    | (refine pubC (fun i => Nat.beq i 6) ?_; (conv => whnf); refine callF hI1 gf14 rfl rfl ?_))
  all_goals (try (conv => whnf))
  all_goals (try exact rfl)
  all_goals trace_state
end Go.Proofs.YtcjkikadolnfgaaGreat


/- Plain laws: what is the same under scopes stays so with types put in, with a number more, with a number less. -/
set_option linter.unusedSimpArgs false
set_option linter.unusedVariables false
namespace Go.Proofs.YtcjkikadolnfgaaGreat
theorem lastI_lt (s : List Int) (n : Int) : lastI s n < s.length := by
  unfold lastI
  split
  · rename_i p h
    have hm := List.mem_of_find?_eq_some h
    unfold prI at hm
    simp only [List.mem_map, List.mem_range] at hm
    obtain ⟨j, hj, rfl⟩ := hm
    show ((s.length - 1 - j : Nat) : Int) < s.length
    omega
  · show (-1 : Int) < s.length
    omega
theorem lastI_get (s : List Int) (n : Int) : 0 ≤ lastI s n → n = ixI s (lastI s n).toNat := by
  unfold lastI
  split
  · rename_i p h
    have hm := List.mem_of_find?_eq_some h
    have hp := List.find?_some h
    unfold prI at hm
    simp only [List.mem_map, List.mem_range] at hm
    obtain ⟨j, hj, rfl⟩ := hm
    intro _
    simp only [beq_iff_eq] at hp
    simp only [Int.toNat_natCast]
    exact hp.symm
  · intro h; exact absurd h (by decide)
def Lv (s t : List Int) (z z' : Int) : Prop := lastI s z = lastI t z' ∧ (lastI s z < 0 → z = z')
theorem Lv.symm {s t : List Int} {z z' : Int} (h : Lv s t z z') : Lv t s z' z := ⟨h.1.symm, fun e => (h.2 (by rw [h.1]; exact e)).symm⟩
theorem Lv.snoc {s t : List Int} {n n' z z' : Int} (hst : s.length = t.length) (h : Lv (s ++ [n]) (t ++ [n']) z z') : (z = n ∧ z' = n') ∨ (z ≠ n ∧ z' ≠ n' ∧ Lv s t z z') := by
  obtain ⟨h1, h2⟩ := h
  have a1 := lastI_lt s z
  have a2 := lastI_lt t z'
  by_cases e : z = n
  · subst e
    by_cases e' : z' = n'
    · exact .inl ⟨rfl, e'⟩
    · rw [lastI_end, lastI_snoc _ e'] at h1; omega
  · by_cases e' : z' = n'
    · subst e'
      rw [lastI_end, lastI_snoc _ e] at h1; omega
    · rw [lastI_snoc _ e, lastI_snoc _ e'] at h1
      rw [lastI_snoc _ e] at h2
      exact .inr ⟨e, e', h1, h2⟩
theorem Lv.top {s t : List Int} {n n' z' : Int} (hst : s.length = t.length) (h : Lv (s ++ [n]) (t ++ [n']) n z') : z' = n' := by
  rcases h.snoc hst with ⟨_, h⟩ | ⟨h, _⟩
  · exact h
  · exact absurd rfl h
theorem Lv.env {s t : List Int} {z z' : Int} (h : Lv s t z z') (d : Nat) : env s z d = env t z' d := by
  unfold Go.Proofs.YtcjkikadolnfgaaGreat.env
  rw [h.1]
  split
  · rfl
  · rw [h.2 (by rw [h.1]; omega)]
theorem samGs_evs {n m : Nat} {ρ σ : Rho} {c d : List Int} : ∀ (l l' : List TG), (∀ u ∈ l, ∀ v ∈ l', samG u v c d = true → ev n ρ u = ev m σ v) → samGs l l' c d = true → l.length = l'.length → evs n ρ l = evs m σ l'
  | [], [], _ => fun _ _ => rfl
  | [], v :: r', _ => fun _ h => by simp at h
  | u :: r, [], _ => fun _ h => by simp at h
  | u :: r, v :: r', h => fun h1 h2 => by
    rw [samGs, Bool.and_eq_true] at h1
    rw [evs, evs, h u (by simp) v (by simp) h1.1, samGs_evs r r' (fun w hw x hx => h w (by simp [hw]) x (by simp [hx])) h1.2 (by simpa using h2)]
theorem ev_inst : ∀ (a b : TG) (s t : List Int), s.length = t.length → okV a = true → okV b = true → samG a b s t = true → ∀ (d : Nat) (ρ σ : Rho), (∀ z z', Lv s t z z' → ∀ d', d ≤ d' → ρ z d' = σ z' d') → ev d ρ a = ev d σ b := by
  refine TG.ind fun k n ls l ih b s t hst ha hb hs d ρ σ hc => ?_
  obtain ⟨k', n', ls', l'⟩ := b
  obtain ⟨ha6, hal⟩ := (okV_mk ..).1 ha
  obtain ⟨hb6, hbl⟩ := (okV_mk ..).1 hb
  obtain ⟨rfl, hll, rfl, h6, hbn, hno⟩ := (sam_iff ..).1 hs
  rw [ev, ev]
  by_cases hk : k = 6
  · obtain ⟨h1, h2, _⟩ := h6 hk
    rw [if_pos hk, if_pos hk]
    exact hc n n' ⟨h1, h2⟩ d (Nat.le_refl _)
  rw [if_neg hk, if_neg hk]
  by_cases hb' : bndG k = true
  · rw [if_pos hb', if_pos hb']
    congr 1
    refine samGs_evs l l' (fun u hu v hv huv => ih u hu v (s ++ [n]) (t ++ [n']) (by simp [hst]) (hal u hu) (hbl v hv) huv (d + 1) _ _ fun z z' hz d' hd => ?_) (hbn hb') hll
    rcases hz.snoc hst with ⟨rfl, rfl⟩ | ⟨e, e', hz⟩
    · rw [upd_eq, upd_eq]
    · rw [upd_ne _ _ e, upd_ne _ _ e']; exact hc z z' hz d' (by omega)
  · rw [if_neg hb', if_neg hb']
    obtain ⟨rfl, h2⟩ := hno hk (by simpa using hb')
    congr 1
    exact samGs_evs l l' (fun u hu v hv huv => ih u hu v s t hst (hal u hu) (hbl v hv) huv d _ _ hc) h2 hll
theorem sam_sym {a b : TG} {s t : List Int} (hst : s.length = t.length) (ha : okV a = true) (hb : okV b = true) (h : samG a b s t = true) : samG b a t s = true :=
  (sam_ev b a t s hst.symm hb ha).2 ((sam_ev a b s t hst ha hb).1 h).symm
theorem sam_symB {a b : TG} {s t : List Int} (hst : s.length = t.length) (ha : okV a = true) (hb : okV b = true) : samG a b s t = samG b a t s := by
  cases h : samG a b s t
  · cases h' : samG b a t s
    · rfl
    · rw [sam_sym hst.symm hb ha h'] at h; cases h
  · exact (sam_sym hst ha hb h).symm
theorem sam_refl (a : TG) (s : List Int) : samG a a s s = true := sam_ctx a s s rfl fun _ _ => rfl
theorem sam_sz {a b : TG} {s t : List Int} (hst : s.length = t.length) (ha : okV a = true) (hb : okV b = true) (h : samG a b s t = true) : szG a = szG b := by
  have h1 := ev_inst a b s t hst ha hb h 0 (fun _ _ => leafL 0) (fun _ _ => leafL 0) fun _ _ _ _ _ => rfl
  have h2 := szD_ev a 0 1 0 (fun _ _ => leafL 0) ha (fun _ => rfl) fun _ _ _ => rfl
  have h3 := szD_ev b 0 1 0 (fun _ _ => leafL 0) hb (fun _ => rfl) fun _ _ _ => rfl
  rw [h1] at h2; omega
theorem sam_cnt {a b : TG} {s t : List Int} {n n' : Int} (hst : s.length = t.length) (ha : okV a = true) (hb : okV b = true) (h : samG a b (s ++ [n]) (t ++ [n']) = true) : cntG n a = cntG n' b := by
  have hz := sam_sz (by simp [hst]) ha hb h
  have h1 := ev_inst a b _ _ (by simp [hst]) ha hb h 0 (fun z _ => if z = n then .mk 0 (.num 0) [] [leafL 0] else leafL 0) (fun z _ => if z = n' then .mk 0 (.num 0) [] [leafL 0] else leafL 0) fun z z' hl _ _ => by
    rcases hl.snoc hst with ⟨rfl, rfl⟩ | ⟨e, e', _⟩
    · rw [if_pos rfl, if_pos rfl]
    · rw [if_neg e, if_neg e']
  have h2 := szD_ev a n 2 0 (fun z _ => if z = n then .mk 0 (.num 0) [] [leafL 0] else leafL 0) ha (fun _ => by rw [if_pos rfl]; rfl) fun _ _ e => by rw [if_neg e]; rfl
  have h3 := szD_ev b n' 2 0 (fun z _ => if z = n' then .mk 0 (.num 0) [] [leafL 0] else leafL 0) hb (fun _ => by rw [if_pos rfl]; rfl) fun _ _ e => by rw [if_neg e]; rfl
  rw [h1] at h2; omega
theorem samGs_mem {c d : List Int} : ∀ (l l' : List TG), samGs l l' c d = true → l.length = l'.length → ∀ u ∈ l, ∃ v ∈ l', samG u v c d = true
  | [], _, _, _ => fun u hu => by simp at hu
  | _ :: _, [], _, h => by simp at h
  | x :: r, y :: r', h1, h2 => fun u hu => by
    rw [samGs, Bool.and_eq_true] at h1
    rcases List.mem_cons.1 hu with rfl | hu
    · exact ⟨y, by simp, h1.1⟩
    · obtain ⟨v, hv, h⟩ := samGs_mem r r' h1.2 (by simpa using h2) u hu
      exact ⟨v, by simp [hv], h⟩
theorem sam_free : ∀ (a b : TG) (s t : List Int), s.length = t.length → okV a = true → okV b = true → samG a b s t = true → ∀ z ∈ frG a [], ∃ z' ∈ frG b [], Lv s t z z' := by
  refine TG.ind fun k n ls l ih b s t hst ha hb hs z hz => ?_
  obtain ⟨k', n', ls', l'⟩ := b
  obtain ⟨ha6, hal⟩ := (okV_mk ..).1 ha
  obtain ⟨hb6, hbl⟩ := (okV_mk ..).1 hb
  obtain ⟨rfl, hll, rfl, h6, hbn, hno⟩ := (sam_iff ..).1 hs
  rcases (fv_mk ..).1 hz with ⟨hk, rfl⟩ | ⟨hne, u, hu, hzu⟩
  · exact ⟨n', (fv_mk ..).2 (.inl ⟨hk, rfl⟩), (h6 hk).1, (h6 hk).2.1⟩
  have hk : k ≠ 6 := fun e => by rw [(ha6 e).1] at hu; simp at hu
  by_cases hb' : bndG k = true
  · obtain ⟨v, hv, huv⟩ := samGs_mem l l' (hbn hb') hll u hu
    obtain ⟨z', hz', hl⟩ := ih u hu v _ _ (by simp [hst]) (hal u hu) (hbl v hv) huv z hzu
    rcases hl.snoc hst with ⟨e, _⟩ | ⟨_, e', hl⟩
    · exact absurd e (hne hb')
    · exact ⟨z', (fv_mk ..).2 (.inr ⟨fun _ => e', v, hv, hz'⟩), hl⟩
  · obtain ⟨v, hv, huv⟩ := samGs_mem l l' (hno hk (by simpa using hb')).2 hll u hu
    obtain ⟨z', hz', hl⟩ := ih u hu v _ _ hst (hal u hu) (hbl v hv) huv z hzu
    exact ⟨z', (fv_mk ..).2 (.inr ⟨fun e => absurd e hb', v, hv, hz'⟩), hl⟩
theorem sam_dep : ∀ (a b : TG) (s t : List Int), samG a b s t = true → depG a = depG b := by
  refine TG.ind fun k n ls l ih b s t hs => ?_
  obtain ⟨k', n', ls', l'⟩ := b
  obtain ⟨rfl, hll, rfl, h6, hbn, hno⟩ := (sam_iff ..).1 hs
  rw [depG, depG]
  have key : ∀ (c d : List Int) (m m' : List TG), (∀ u ∈ m, u ∈ l) → m.length = m'.length → samGs m m' c d = true → depGs m = depGs m' := by
    intro c d m
    induction m with
    | nil => intro m' _ h _; cases m' with
      | nil => rfl
      | cons => simp at h
    | cons u r ihr =>
      intro m' hm h hs
      cases m' with
      | nil => simp at h
      | cons v r' =>
        rw [samGs, Bool.and_eq_true] at hs
        rw [depGs, depGs, ih u (hm u (by simp)) v c d hs.1, ihr r' (fun w hw => hm w (by simp [hw])) (by simpa using h) hs.2]
  by_cases hk : k = 6
  · rw [key s t l l' (fun _ h => h) hll (h6 hk).2.2]
  · by_cases hb : bndG k = true
    · rw [key _ _ l l' (fun _ h => h) hll (hbn hb)]
    · rw [key _ _ l l' (fun _ h => h) hll (hno hk (by simpa using hb)).2]
structure RelT (s t : List Int) (a b : TG) : Prop where
  sam : samG a b s t = true
  len : s.length = t.length
  la : allG a = true
  lb : allG b = true
  fre : ∀ z ∈ frG a [], z ∈ s
theorem RelT.fre' {s t : List Int} {a b : TG} (h : RelT s t a b) : ∀ z ∈ frG b [], z ∈ t := fun z hz => by
  obtain ⟨z', hz', hl⟩ := sam_free b a t s h.len.symm (allG_okV h.lb) (allG_okV h.la) (sam_sym h.len (allG_okV h.la) (allG_okV h.lb) h.sam) z hz
  have := h.fre z' hz'
  have h1 := lastI_neg t z
  have h2 := lastI_neg s z'
  rw [hl.1] at h1
  by_cases e : z ∈ t
  · exact e
  · exact absurd this (h2.1 (h1.2 e))
theorem RelT.ev {s t : List Int} {a b : TG} (h : RelT s t a b) : Go.Proofs.YtcjkikadolnfgaaGreat.ev s.length (env s) a = Go.Proofs.YtcjkikadolnfgaaGreat.ev t.length (env t) b := (sam_ev a b s t h.len (allG_okV h.la) (allG_okV h.lb)).1 h.sam
theorem RelT.sz {s t : List Int} {a b : TG} (h : RelT s t a b) : szG a = szG b := sam_sz h.len (allG_okV h.la) (allG_okV h.lb) h.sam
theorem RelT.weak {s t : List Int} {a b : TG} {n n' : Int} (h : RelT s t a b) (hn : n ∉ s) (hn' : n' ∉ t) : RelT (s ++ [n]) (t ++ [n']) a b := by
  refine ⟨(sam_ev a b _ _ (by simp [h.len]) (allG_okV h.la) (allG_okV h.lb)).2 ?_, by simp [h.len], h.la, h.lb, fun z hz => List.mem_append.2 (.inl (h.fre z hz))⟩
  rw [ev_congr a _ (env (s ++ [n])) (env s) fun z hz => by rw [env_snoc, upd_ne _ _ (by rintro rfl; exact hn (h.fre z hz))],
    ev_congr b _ (env (t ++ [n'])) (env t) fun z hz => by rw [env_snoc, upd_ne _ _ (by rintro rfl; exact hn' (h.fre' z hz))]]
  have e : (t ++ [n']).length = (s ++ [n]).length := by simp [h.len]
  rw [e]
  exact ev_inst a b s t h.len (allG_okV h.la) (allG_okV h.lb) h.sam _ _ _ fun z z' hl d _ => hl.env d
theorem RelT.free_iff {s t : List Int} {a b : TG} {n n' : Int} (h : RelT (s ++ [n]) (t ++ [n']) a b) : n ∈ frG a [] ↔ n' ∈ frG b [] := by
  have hst : s.length = t.length := by have := h.len; simpa using this
  constructor
  · intro hz
    obtain ⟨z', hz', hl⟩ := sam_free a b _ _ h.len (allG_okV h.la) (allG_okV h.lb) h.sam n hz
    rw [← hl.top hst]; exact hz'
  · intro hz
    obtain ⟨z', hz', hl⟩ := sam_free b a _ _ h.len.symm (allG_okV h.lb) (allG_okV h.la) (sam_sym h.len (allG_okV h.la) (allG_okV h.lb) h.sam) n' hz
    rw [← hl.top hst.symm]; exact hz'
theorem RelT.strong {s t : List Int} {a b : TG} {n n' : Int} (h : RelT (s ++ [n]) (t ++ [n']) a b) (hn : n ∉ frG a []) : RelT s t a b := by
  have hst : s.length = t.length := by have := h.len; simpa using this
  have hn' : n' ∉ frG b [] := fun e => hn (h.free_iff.2 e)
  refine ⟨(sam_ev a b _ _ hst (allG_okV h.la) (allG_okV h.lb)).2 ?_, hst, h.la, h.lb, fun z hz => ?_⟩
  · rw [ev_congr a _ (env s) (upd (env s) n fun _ => leafL 0) fun z hz => by rw [upd_ne _ _ (by rintro rfl; exact hn hz)],
      ev_congr b _ (env t) (upd (env t) n' fun _ => leafL 0) fun z hz => by rw [upd_ne _ _ (by rintro rfl; exact hn' hz)], hst]
    refine ev_inst a b _ _ h.len (allG_okV h.la) (allG_okV h.lb) h.sam _ _ _ fun z z' hl d _ => ?_
    rcases hl.snoc hst with ⟨rfl, rfl⟩ | ⟨e, e', hl⟩
    · rw [upd_eq, upd_eq]
    · rw [upd_ne _ _ e, upd_ne _ _ e']; exact hl.env d
  · rcases List.mem_append.1 (h.fre z hz) with h | h
    · exact h
    · rw [List.mem_singleton.1 h] at hz; exact absurd hz hn
theorem sam_none {a b : TG} (s : List Int) (ha : okV a = true) (hb : okV b = true) : samG a b s s = true ↔ samG a b [] [] = true := by
  constructor
  · intro h
    refine (sam_ev a b [] [] rfl ha hb).2 (ev_inst a b s s rfl ha hb h _ _ _ fun z z' hl d _ => ?_)
    have : z = z' := by
      by_cases e : lastI s z < 0
      · exact hl.2 e
      · have h1 := lastI_get s z (by omega)
        have h2 := lastI_get s z' (by rw [← hl.1]; omega)
        rw [h1, h2, hl.1]
    rw [this]
  · intro h
    refine (sam_ev a b s s rfl ha hb).2 (ev_inst a b [] [] rfl ha hb h _ _ _ fun z z' hl d _ => ?_)
    rw [hl.2 ((lastI_neg [] z).2 (by simp))]
theorem RelT.cmp {s t : List Int} {a b a' b' : TG} (h : RelT s t a b) (h' : RelT s t a' b') : samG a a' [] [] = samG b b' [] [] := by
  have oa := allG_okV h.la
  have ob := allG_okV h.lb
  have oa' := allG_okV h'.la
  have ob' := allG_okV h'.lb
  have e1 : samG a a' [] [] = true ↔ samG b b' [] [] = true := by
    rw [← sam_none s oa oa', ← sam_none t ob ob', sam_ev a a' s s rfl oa oa', sam_ev b b' t t rfl ob ob', h.ev, h'.ev]
  cases h1 : samG a a' [] [] <;> cases h2 : samG b b' [] [] <;> simp_all
theorem RelT.right {s t : List Int} {a b : TG} (h : RelT s t a b) : rightG a = rightG b := by
  unfold rightG
  rw [sam_dep a b s t h.sam, h.la, h.lb]
def PutIs (w u : TG) (n : Int) (y : TG) : Prop := allG w = true ∧ ∀ d ρ, ev d ρ w = ev d (upd ρ n fun d' => ev d' ρ y) u
theorem putF_is {u y : TG} (n : Int) (hu : allG u = true) (hy : allG y = true) : PutIs (putF (szG u) u n y (freeS y)) u n y :=
  ⟨allG_put _ _ _ _ _ hy hu, ev_put _ _ _ _ _ (Nat.le_refl _) (allG_okV hu) (mem_freeS y)⟩
theorem rputF_is {u y : TG} (n : Int) (hu : allG u = true) (hy : allG y = true) : PutIs (rputF (szG u) u n y) u n y :=
  ⟨allG_rput _ _ _ _ hy hu, ev_rput _ _ _ _ (Nat.le_refl _) (allG_okV hu)⟩
theorem put_rel {s t : List Int} {u u' y y' w' : TG} {n n' : Int} (hu : RelT (s ++ [n]) (t ++ [n']) u u') (hy : RelT s t y y') (h' : PutIs w' u' n' y') : RelT s t (putF (szG u) u n y (freeS y)) w' := by
  obtain ⟨ha, hp⟩ := putF_is n hu.la hy.la
  refine ⟨(sam_ev _ _ s t hy.len (allG_okV ha) (allG_okV h'.1)).2 ?_, hy.len, ha, h'.1, fun z hz => ?_⟩
  · rw [hp, h'.2, ← hy.len]
    refine ev_inst u u' _ _ hu.len (allG_okV hu.la) (allG_okV hu.lb) hu.sam _ _ _ fun z z' hl d _ => ?_
    rcases hl.snoc hy.len with ⟨rfl, rfl⟩ | ⟨e, e', hl⟩
    · rw [upd_eq, upd_eq]
      exact ev_inst y y' s t hy.len (allG_okV hy.la) (allG_okV hy.lb) hy.sam _ _ _ fun z z' hl d _ => hl.env d
    · rw [upd_ne _ _ e, upd_ne _ _ e']; exact hl.env d
  · rcases (fv_put _ u n y _ (Nat.le_refl _) (allG_okV hu.la) (mem_freeS y) z).1 hz with ⟨h1, h2⟩ | ⟨_, h2⟩
    · rcases List.mem_append.1 (hu.fre z h1) with h | h
      · exact h
      · exact absurd (List.mem_singleton.1 h) h2
    · exact hy.fre z h2
end Go.Proofs.YtcjkikadolnfgaaGreat


/- More about rules: shapes. -/
set_option linter.unusedSimpArgs false
set_option linter.unusedVariables false
namespace Go.Proofs.YtcjkikadolnfgaaGreat
open Go.Vx Go.Vc Go.RowKit
def injR (a : TG) (n : Int) (c : Chk) : Chk := fun vars l => askE (insG a vars) (bE (c vars l) fun k => askE (a.k == 8 && Nat.blt n.toNat a.kids.length) (askE (samG k (kidG a n.toNat) [] []) (.ok a)))
theorem exC {α : Type} {P : Prop} (r : Except Int α) (he : ∀ e, r = .error e → P) (ho : ∀ t, r = .ok t → P) : P := by
  cases h : r with
  | error e => exact he e h
  | ok t => exact ho t h
theorem byC {P Q : Prop} (hn : ¬ P → Q) (hp : P → Q) : Q := (Classical.em P).elim hp hn
theorem boC {P : Prop} (b : Bool) (hf : b = false → P) (ht : b = true → P) : P := by
  cases h : b
  · exact hf h
  · exact ht h
theorem gz {α : Type} {a : α} {l : List α} {d : α} : (a :: l).getD 0 d = a := List.getD_cons_zero
theorem gs {α : Type} {a : α} {l : List α} {d : α} {n : Nat} : (a :: l).getD (n + 1) d = l.getD n d := List.getD_cons_succ
theorem bs {k : Int} : (k == k) = true := beq_self_eq_true k
theorem lA {α : Type} {a b : List α} : (a ++ b).length = a.length + b.length := List.length_append
theorem lC {α : Type} {a : α} {b : List α} : (a :: b).length = b.length + 1 := List.length_cons
theorem lN {α : Type} : ([] : List α).length = 0 := rfl
theorem all2 {k : Int} {a c : TG} (hk : k = 4 ∨ k = 5) (ha : allG a = true) (hc : allG c = true) : allG (.mk k 0 [] [a, c]) = true := by
  refine (allG_mk ..).2 ⟨?_, ?_⟩
  · rcases hk with rfl | rfl <;> rfl
  · intro x hx
    simp only [List.mem_cons, List.not_mem_nil, or_false] at hx
    rcases hx with rfl | rfl <;> assumption
end Go.Proofs.YtcjkikadolnfgaaGreat


/- The checker as one plain function, with the way of putting in as a part. -/
set_option linter.unusedSimpArgs false
set_option linter.unusedVariables false
namespace Go.Proofs.YtcjkikadolnfgaaGreat
def dead : Chk := fun _ _ => .error 30
def kidC (cs : List Chk) (j : Nat) : Chk := cs.getD j dead
def consE (r : Except Int TG) (q : Except Int (List TG)) : Except Int (List TG) := match r with
  | .error e => .error e
  | .ok u => match q with
    | .error e => .error e
    | .ok us => .ok (u :: us)
def recK : List Chk → List Int → List Bd → Except Int (List TG)
  | [], _, _ => .ok []
  | c :: r, vars, l => consE (c vars l) (recK r vars l)
def recR (ls : List ByteArray) (cs : List Chk) : Chk := fun vars l => match recK cs vars l with
  | .error e => .error e
  | .ok ts => .ok (.mk 7 0 ls ts)
def idxB (ls : List ByteArray) (nm : ByteArray) : Option Nat := ls.findIdx? fun x => decide (x = nm)
def selR (nm : ByteArray) (c : Chk) : Chk := fun vars l => bE (c vars l) fun t => askE (t.k == 7) (match idxB t.ls nm with
  | none => .error 30
  | some j => .ok (kidG t j))
def casK : List ByteArray → List TG → List Chk → List Int → List Bd → Except Int (List TG)
  | nm :: ls, t :: ts, c :: cs, vars, l => consE (c vars (l ++ [(nm, t)])) (casK ls ts cs vars l)
  | _, _, _, _, _ => .ok []
def allSame (us : List TG) : Bool := us.all fun x => samG x (us.headD zG) [] []
def casesR (ls : List ByteArray) (cs : List Chk) : Chk := fun vars l => bE (kidC cs 0 vars l) fun t => askE (t.k == 8 && decide (t.kids.length = ls.length) && decide (0 < ls.length)) (match casK ls t.kids cs.tail vars l with
  | .error e => .error e
  | .ok us => askE (allSame us) (.ok (us.headD zG)))
def ruleR (P : Putt) (k n : Int) (nm : ByteArray) (ls : List ByteArray) (ts : List TG) (cs : List Chk) : Chk :=
  if k = 1 ∨ k = 2 ∨ k = 3 then plainR k
  else if k = 4 then fun _ l => lookR l nm
  else if k = 5 then lamR nm (ts.getD 0 zG) (kidC cs 0)
  else if k = 6 then appRl (kidC cs 0) (kidC cs 1)
  else if k = 7 then fixR nm (ls.getD 0 ⟨#[]⟩) (ts.getD 0 zG) (ts.getD 1 zG) (kidC cs 0)
  else if k = 8 then letR nm (kidC cs 0) (kidC cs 1)
  else if k = 9 then pairR (kidC cs 0) (kidC cs 1)
  else if k = 10 then halfR 0 (kidC cs 0)
  else if k = 11 then halfR 1 (kidC cs 0)
  else if k = 12 then chooseR (kidC cs 0) (kidC cs 1) (kidC cs 2)
  else if k = 13 then binR n (kidC cs 0) (kidC cs 1)
  else if k = 14 then recR ls cs
  else if k = 15 then selR nm (kidC cs 0)
  else if k = 16 then injR (ts.getD 0 zG) n (kidC cs 0)
  else if k = 17 then casesR ls cs
  else if k = 18 then foldR P (ts.getD 0 zG) (kidC cs 0)
  else if k = 19 then unfoldR P (kidC cs 0)
  else if k = 20 then allR n (kidC cs 0)
  else if k = 21 then instR P (ts.getD 0 zG) (kidC cs 0)
  else if k = 22 then packR P (ts.getD 0 zG) (ts.getD 1 zG) (kidC cs 0)
  else if k = 23 then openR P n nm (kidC cs 0) (kidC cs 1)
  else if k = 24 then failR (ts.getD 0 zG)
  else kidC cs 0
mutual
def chk (P : Putt) : MG → Chk
  | .mk k n _ nm ls ts ks => fun vars l => fitE (ruleR P k n nm ls ts (chks P ks) vars l)
def chks (P : Putt) : List MG → List Chk
  | [] => []
  | m :: r => chk P m :: chks P r
end
theorem chk_mk (P : Putt) (k n i : Int) (nm : ByteArray) (ls : List ByteArray) (ts : List TG) (ks : List MG) : chk P (.mk k n i nm ls ts ks) = fun vars l => fitE (ruleR P k n nm ls ts (chks P ks) vars l) := by rw [chk]
theorem chks_map (P : Putt) : ∀ l, chks P l = l.map (chk P)
  | [] => by simp [chks]
  | m :: r => by simp [chks, chks_map P r]
theorem shp_all {k n i : Int} {nm : ByteArray} {ls : List ByteArray} {ts : List TG} {ks : List MG} (h : allM (.mk k n i nm ls ts ks) = true) :
    1 ≤ k ∧ k ≤ 25 ∧ badM (shpOf k) (.mk k n i nm ls ts ks) = false ∧ endM (shpOf k) (.mk k n i nm ls ts ks) = true ∧ (∀ a ∈ ts, allG a = true) ∧ (∀ u ∈ ks, allM u = true) := by
  rw [allM, Bool.and_eq_true, Bool.and_eq_true, shpM_mk] at h
  obtain ⟨⟨h1, h2⟩, h3⟩ := h
  split at h1
  · cases h1
  split at h1
  · cases h1
  refine ⟨by omega, by omega, by simp_all, h1, (allGs_iff ts).1 h2, ?_⟩
  rw [allMs_any] at h3
  intro u hu
  cases e : allM u
  · simp only [Bool.not_eq_true', List.any_eq_false] at h3
    exact absurd (by simp [e]) (h3 u hu)
  · rfl
def lastR (nm : ByteArray) : List ByteArray → Int
  | [] => -1
  | a :: r => if a = nm then r.length else lastR nm r
def lastS (x : List ByteArray) (nm : ByteArray) : Int := lastR nm x.reverse
theorem lastR_lt (nm : ByteArray) : ∀ x : List ByteArray, lastR nm x < x.length
  | [] => by simp [lastR]
  | a :: r => by
    have := lastR_lt nm r
    rw [lastR]; simp only [List.length_cons]; split <;> omega
def RelR (s t : List Int) : Except Int TG → Except Int TG → Prop
  | .ok a, .ok b => RelT s t a b
  | .error e, .error f => e = f
  | _, _ => False
def RelC (s t : List Int) : List Bd → List Bd → Prop
  | [], [] => True
  | b :: r, b' :: r' => RelT s t b.2 b'.2 ∧ RelC s t r r'
  | _, _ => False
theorem RelC.len {s t : List Int} : ∀ {l l' : List Bd}, RelC s t l l' → l.length = l'.length
  | [], [], _ => rfl
  | _ :: _, _ :: _, h => by simp [RelC.len h.2]
theorem RelC.weak {s t : List Int} {n n' : Int} (hn : n ∉ s) (hn' : n' ∉ t) : ∀ {l l' : List Bd}, RelC s t l l' → RelC (s ++ [n]) (t ++ [n']) l l'
  | [], [], _ => trivial
  | _ :: _, _ :: _, h => ⟨h.1.weak hn hn', RelC.weak hn hn' h.2⟩
theorem look_rel {s t : List Int} {nm nm' : ByteArray} : ∀ {l l' : List Bd}, RelC s t l l' → lastR nm (l.map (·.1)) = lastR nm' (l'.map (·.1)) →
    RelR s t (match l.find? (fun b => decide (b.1 = nm)) with | some b => .ok b.2 | none => .error 30) (match l'.find? (fun b => decide (b.1 = nm')) with | some b => .ok b.2 | none => .error 30)
  | [], [], _, _ => rfl
  | b :: r, b' :: r', h, e => by
    have hl := h.2.len
    have a1 := lastR_lt nm (r.map (·.1))
    have a2 := lastR_lt nm' (r'.map (·.1))
    simp only [List.length_map] at a1 a2
    simp only [List.map_cons, lastR, List.length_map] at e
    by_cases h1 : b.1 = nm
    · by_cases h2 : b'.1 = nm'
      · rw [List.find?_cons_of_pos (by simpa using h1), List.find?_cons_of_pos (by simpa using h2)]
        exact h.1
      · rw [if_pos h1, if_neg h2] at e; omega
    · by_cases h2 : b'.1 = nm'
      · rw [if_neg h1, if_pos h2] at e; omega
      · rw [if_neg h1, if_neg h2] at e
        rw [List.find?_cons_of_neg (by simpa using h1), List.find?_cons_of_neg (by simpa using h2)]
        exact look_rel h.2 e
def RelL (s t : List Int) (l l' : List Bd) : Prop := RelC s t l.reverse l'.reverse
theorem RelL.snoc {s t : List Int} {l l' : List Bd} (h : RelL s t l l') {a b : TG} (hab : RelT s t a b) (n n' : ByteArray) : RelL s t (l ++ [(n, a)]) (l' ++ [(n', b)]) := by
  unfold RelL at h ⊢
  rw [List.reverse_append, List.reverse_append]
  exact ⟨hab, h⟩
theorem RelL.look {s t : List Int} {l l' : List Bd} {nm nm' : ByteArray} (h : RelL s t l l') (e : lastS (l.map (·.1)) nm = lastS (l'.map (·.1)) nm') : RelR s t (lookR l nm) (lookR l' nm') := by
  unfold lastS at e
  rw [← List.map_reverse, ← List.map_reverse] at e
  exact look_rel h e
def bndN (k : Int) : Bool := k == 5 || k == 7 || k == 8 || k == 23
def bndV (k : Int) : Bool := k == 20 || k == 23
def bndL (k : Int) : Bool := k == 7 || k == 17
def inV (k n : Int) (j : Nat) (s : List Int) : List Int := if k = 20 ∨ k = 23 ∧ j = 1 then s ++ [n] else s
def inX (k : Int) (nm : ByteArray) (ls : List ByteArray) (j : Nat) (x : List ByteArray) : List ByteArray :=
  if k = 5 then x ++ [nm] else if k = 7 then x ++ (nm :: ls) else if (k = 8 ∨ k = 23) ∧ j = 1 then x ++ [nm] else if k = 17 ∧ 0 < j ∧ j ≤ ls.length then x ++ [ls.getD (j - 1) ⟨#[]⟩] else x
def nodM (k n i : Int) (nm : ByteArray) (ls : List ByteArray) (ts : List TG) (c : Nat) (k' n' i' : Int) (nm' : ByteArray) (ls' : List ByteArray) (ts' : List TG) (c' : Nat) (s : List Int) (x : List ByteArray) (t : List Int) (y : List ByteArray) : Bool :=
  decide (k = k') && decide (i = i') && decide (c = c') && decide (ts.length = ts'.length) && decide (ls.length = ls'.length) && (bndV k || decide (n = n')) && (bndL k || decide (ls = ls')) &&
    (if k = 4 then decide (lastS x nm = lastS y nm') && (decide (0 ≤ lastS x nm) || decide (nm = nm')) else bndN k || decide (nm = nm')) && samGs ts ts' s t
mutual
def samM : MG → MG → List Int → List ByteArray → List Int → List ByteArray → Bool
  | .mk k n i nm ls ts ks, m', s, x, t, y => nodM k n i nm ls ts ks.length m'.k m'.n m'.i m'.nm m'.ls m'.ts m'.ks.length s x t y && samMs (fun j => inV k n j s) (fun j => inX k nm ls j x) (fun j => inV m'.k m'.n j t) (fun j => inX m'.k m'.nm m'.ls j y) 0 ks m'.ks
def samMs (s : Nat → List Int) (x : Nat → List ByteArray) (t : Nat → List Int) (y : Nat → List ByteArray) : Nat → List MG → List MG → Bool
  | _, [], _ => true
  | _, _ :: _, [] => false
  | j, m :: r, m' :: r' => samM m m' (s j) (x j) (t j) (y j) && samMs s x t y (j + 1) r r'
end
theorem samM_mk (k n i : Int) (nm : ByteArray) (ls : List ByteArray) (ts : List TG) (ks : List MG) (k' n' i' : Int) (nm' : ByteArray) (ls' : List ByteArray) (ts' : List TG) (ks' : List MG) (s : List Int) (x : List ByteArray) (t : List Int) (y : List ByteArray) :
    samM (.mk k n i nm ls ts ks) (.mk k' n' i' nm' ls' ts' ks') s x t y = (nodM k n i nm ls ts ks.length k' n' i' nm' ls' ts' ks'.length s x t y && samMs (fun j => inV k n j s) (fun j => inX k nm ls j x) (fun j => inV k' n' j t) (fun j => inX k' nm' ls' j y) 0 ks ks') := by
  rw [samM]; rfl
theorem samMs_at {s : Nat → List Int} {x : Nat → List ByteArray} {t : Nat → List Int} {y : Nat → List ByteArray} : ∀ (l l' : List MG) (j0 : Nat), samMs s x t y j0 l l' = true → ∀ (j : Nat) (h : j < l.length) (h' : j < l'.length), samM l[j] l'[j] (s (j0 + j)) (x (j0 + j)) (t (j0 + j)) (y (j0 + j)) = true
  | [], _, _, _ => fun j h => by simp at h
  | _ :: _, [], _, _ => fun j _ h => by simp at h
  | m :: r, m' :: r', j0, h => fun j hj hj' => by
    rw [samMs, Bool.and_eq_true] at h
    cases j with
    | zero => exact h.1
    | succ j =>
      have := samMs_at r r' (j0 + 1) h.2 j (by simpa using hj) (by simpa using hj')
      rw [Nat.add_right_comm] at this
      exact this
mutual
def agn : MG → List Int → Bool
  | .mk k n _ _ _ _ ks, s => agns k n 0 ks s
def agns (k n : Int) : Nat → List MG → List Int → Bool
  | _, [], _ => false
  | j, m :: r, s => (decide (k = 20 ∨ k = 23 ∧ j = 1) && decide (n ∈ s)) || agn m (inV k n j s) || agns k n (j + 1) r s
end
theorem agn_mk (k n i : Int) (nm : ByteArray) (ls : List ByteArray) (ts : List TG) (ks : List MG) (s : List Int) : agn (.mk k n i nm ls ts ks) s = agns k n 0 ks s := by rw [agn]
theorem agns_at {k n : Int} {s : List Int} : ∀ (l : List MG) (j0 : Nat), agns k n j0 l s = false → ∀ (j : Nat) (h : j < l.length), (k = 20 ∨ k = 23 ∧ j0 + j = 1 → n ∉ s) ∧ agn l[j] (inV k n (j0 + j) s) = false
  | [], _, _ => fun j h => by simp at h
  | m :: r, j0, h => fun j hj => by
    rw [agns, Bool.or_eq_false_iff, Bool.or_eq_false_iff] at h
    cases j with
    | zero =>
      refine ⟨fun hk hn => ?_, h.1.2⟩
      have := h.1.1
      rw [decide_eq_true (by simpa using hk), decide_eq_true hn] at this
      cases this
    | succ j =>
      have := agns_at r (j0 + 1) h.2 j (by simpa using hj)
      rw [Nat.add_right_comm] at this
      exact this
def Agr (m m' : MG) (s t : List Int) : Prop := (m = m' ∧ s = t) ∨ (agn m s = false ∧ agn m' t = false)
theorem Agr.kid {k n i : Int} {nm : ByteArray} {ls : List ByteArray} {ts : List TG} {ks : List MG} {n' i' : Int} {nm' : ByteArray} {ls' : List ByteArray} {ts' : List TG} {ks' : List MG} {s t : List Int} (h : Agr (.mk k n i nm ls ts ks) (.mk k n' i' nm' ls' ts' ks') s t) (j : Nat) (hj : j < ks.length) (hj' : j < ks'.length) :
    Agr ks[j] ks'[j] (inV k n j s) (inV k n' j t) ∧ (k = 20 ∨ k = 23 ∧ j = 1 → (n ∈ s ↔ n' ∈ t)) := by
  rcases h with ⟨h, rfl⟩ | ⟨h, h'⟩
  · injection h with _ h2 _ _ _ _ h7
    subst h2; subst h7
    exact ⟨.inl ⟨rfl, rfl⟩, fun _ => Iff.rfl⟩
  · rw [agn_mk] at h h'
    have h1 := agns_at ks 0 h j hj
    have h2 := agns_at ks' 0 h' j hj'
    rw [Nat.zero_add] at h1 h2
    exact ⟨.inr ⟨h1.2, h2.2⟩, fun hk => ⟨fun e => absurd e (h1.1 hk), fun e => absurd e (h2.1 hk)⟩⟩
theorem RelR.bE {s t s' t' : List Int} {r r' : Except Int TG} {f f' : TG → Except Int TG} (h : RelR s t r r') (hf : ∀ a b, RelT s t a b → RelR s' t' (f a) (f' b)) : RelR s' t' (bE r f) (bE r' f') := by
  cases r <;> cases r' <;> first | exact h.elim | exact h | exact hf _ _ h
theorem RelR.ask {s t : List Int} {c c' : Bool} {r r' : Except Int TG} (h : c = c') (hf : c = true → RelR s t r r') : RelR s t (askE c r) (askE c' r') := by
  subst h
  cases c
  · exact rfl
  · exact hf rfl
theorem RelR.fitR {s t : List Int} {a b : TG} (h : RelT s t a b) : RelR s t (fitR a) (fitR b) := by
  unfold Go.Proofs.YtcjkikadolnfgaaGreat.fitR
  rw [← h.sz]
  split
  · exact h
  · exact rfl
theorem RelR.fit {s t : List Int} {r r' : Except Int TG} (h : RelR s t r r') : RelR s t (fitE r) (fitE r') := by
  cases r <;> cases r' <;> first | exact h.elim | exact h | exact RelR.fitR h
theorem RelT.kids {s t : List Int} {k n : Int} {ls : List ByteArray} {l : List TG} {k' n' : Int} {ls' : List ByteArray} {l' : List TG} (h : RelT s t (.mk k n ls l) (.mk k' n' ls' l')) :
    k = k' ∧ ls = ls' ∧ l.length = l'.length ∧ (bndG k = false → k ≠ 6 → n = n' ∧ ∀ (j : Nat) (hj : j < l.length) (hj' : j < l'.length), RelT s t l[j] l'[j]) ∧
    (bndG k = true → ∀ (j : Nat) (hj : j < l.length) (hj' : j < l'.length), RelT (s ++ [n]) (t ++ [n']) l[j] l'[j]) := by
  obtain ⟨rfl, hll, rfl, h6, hb, hno⟩ := (sam_iff ..).1 h.sam
  have ha := ((allG_mk ..).1 h.la).2
  have hb' := ((allG_mk ..).1 h.lb).2
  have key : ∀ (c d : List Int) (m m' : List TG), samGs m m' c d = true → ∀ (j : Nat) (hj : j < m.length) (hj' : j < m'.length), samG m[j] m'[j] c d = true := by
    intro c d m
    induction m with
    | nil => intro _ _ j hj; simp at hj
    | cons u r ih =>
      intro m' hs j hj hj'
      cases m' with
      | nil => simp at hj'
      | cons v r' =>
        rw [samGs, Bool.and_eq_true] at hs
        cases j with
        | zero => exact hs.1
        | succ j => exact ih r' hs.2 j (by simpa using hj) (by simpa using hj')
  refine ⟨rfl, rfl, hll, fun h1 h2 => ⟨(hno h2 h1).1, fun j hj hj' => ⟨key s t l l' (hno h2 h1).2 j hj hj', h.len, ha _ (List.getElem_mem hj), hb' _ (List.getElem_mem hj'), fun z hz => h.fre z ((fv_mk ..).2 (.inr ⟨fun e => (by rw [e] at h1; cases h1), _, List.getElem_mem hj, hz⟩))⟩⟩, fun h1 j hj hj' => ⟨key _ _ l l' (hb h1) j hj hj', by simp [h.len], ha _ (List.getElem_mem hj), hb' _ (List.getElem_mem hj'), fun z hz => ?_⟩⟩
  by_cases e : z = n
  · subst e; simp
  · exact List.mem_append.2 (.inl (h.fre z ((fv_mk ..).2 (.inr ⟨fun _ => e, _, List.getElem_mem hj, hz⟩))))
theorem RelT.two {s t : List Int} {k n : Int} {ls : List ByteArray} {l : List TG} {b : TG} (hk : k = 4 ∨ k = 5) (h : RelT s t (.mk k n ls l) b) : n = 0 ∧ ls = [] ∧ ∃ a c a' c', l = [a, c] ∧ b = .mk k 0 [] [a', c'] ∧ RelT s t a a' ∧ RelT s t c c' := by
  obtain ⟨k', n', ls', l'⟩ := b
  obtain ⟨rfl, rfl, hll, hno, -⟩ := h.kids
  obtain ⟨rfl, rfl, a, c, rfl⟩ := shp2 hk ((allG_mk ..).1 h.la).1
  obtain ⟨rfl, _, a', c', rfl⟩ := shp2 hk ((allG_mk ..).1 h.lb).1
  obtain ⟨-, hr⟩ := hno (by rcases hk with rfl | rfl <;> rfl) (by omega)
  exact ⟨rfl, rfl, a, c, a', c', rfl, rfl, hr 0 (by simp) (by simp), hr 1 (by simp) (by simp)⟩
theorem RelT.bnd {s t : List Int} {k n : Int} {ls : List ByteArray} {l : List TG} {b : TG} (hk : k = 9 ∨ k = 10 ∨ k = 11) (h : RelT s t (.mk k n ls l) b) : ls = [] ∧ ∃ u n' u', l = [u] ∧ b = .mk k n' [] [u'] ∧ RelT (s ++ [n]) (t ++ [n']) u u' := by
  obtain ⟨k', n', ls', l'⟩ := b
  obtain ⟨rfl, rfl, hll, -, hb⟩ := h.kids
  obtain ⟨rfl, u, rfl⟩ := shp1 hk ((allG_mk ..).1 h.la).1
  obtain ⟨-, u', rfl⟩ := shp1 hk ((allG_mk ..).1 h.lb).1
  exact ⟨rfl, u, n', u', rfl, rfl, hb (by rcases hk with rfl | rfl | rfl <;> rfl) 0 (by simp) (by simp)⟩
theorem relT_mk {s t : List Int} {k : Int} {ls : List ByteArray} {l l' : List TG} (hst : s.length = t.length) (hk : bndG k = false) (h6 : k ≠ 6) (ha : shpG (.mk k 0 ls l) = true) (hl : l.length = l'.length) (h : ∀ (j : Nat) (hj : j < l.length) (hj' : j < l'.length), RelT s t l[j] l'[j]) : RelT s t (.mk k 0 ls l) (.mk k 0 ls l') := by
  have key : ∀ (m m' : List TG), m.length = m'.length → (∀ (j : Nat) (hj : j < m.length) (hj' : j < m'.length), RelT s t m[j] m'[j]) → samGs m m' s t = true := by
    intro m
    induction m with
    | nil => intro m' _ _; cases m' <;> rfl
    | cons u r ih =>
      intro m' hm hh
      cases m' with
      | nil => simp at hm
      | cons v r' =>
        rw [samGs, Bool.and_eq_true]
        exact ⟨(hh 0 (by simp) (by simp)).sam, ih r' (by simpa using hm) fun j hj hj' => hh (j + 1) (by simpa using hj) (by simpa using hj')⟩
  refine ⟨(sam_iff ..).2 ⟨rfl, hl, rfl, fun e => absurd e h6, fun e => (by rw [hk] at e; cases e), fun _ _ => ⟨rfl, key l l' hl h⟩⟩, hst, (allG_mk ..).2 ⟨ha, fun u hu => ?_⟩, (allG_mk ..).2 ⟨shpG_kids hl ha, fun u hu => ?_⟩, fun z hz => ?_⟩
  · obtain ⟨j, hj, rfl⟩ := List.mem_iff_getElem.1 hu
    exact (h j hj (hl ▸ hj)).la
  · obtain ⟨j, hj, rfl⟩ := List.mem_iff_getElem.1 hu
    exact (h j (hl ▸ hj) hj).lb
  · rcases (fv_mk ..).1 hz with ⟨e, _⟩ | ⟨_, u, hu, hzu⟩
    · exact absurd e h6
    · obtain ⟨j, hj, rfl⟩ := List.mem_iff_getElem.1 hu
      exact (h j hj (hl ▸ hj)).fre z hzu
theorem relT_all {s t : List Int} {n n' : Int} {u u' : TG} (hst : s.length = t.length) (h : RelT (s ++ [n]) (t ++ [n']) u u') : RelT s t (.mk 10 n [] [u]) (.mk 10 n' [] [u']) := by
  refine ⟨(sam_iff ..).2 ⟨rfl, rfl, rfl, fun e => (by cases e), fun _ => ?_, fun _ e => (by cases e)⟩, hst, (allG_mk ..).2 ⟨rfl, fun v hv => by rw [List.mem_singleton.1 hv]; exact h.la⟩, (allG_mk ..).2 ⟨rfl, fun v hv => by rw [List.mem_singleton.1 hv]; exact h.lb⟩, fun z hz => ?_⟩
  · rw [samGs, h.sam]; rfl
  · rcases (fv_mk ..).1 hz with ⟨e, _⟩ | ⟨hne, u, hu, hzu⟩
    · cases e
    · rw [List.mem_singleton.1 hu] at hzu
      rcases List.mem_append.1 (h.fre z hzu) with h | h
      · exact h
      · exact absurd (List.mem_singleton.1 h) (hne rfl)
theorem insG_iff (a : TG) (s : List Int) : insG a s = true ↔ rightG a = 0 ∧ ∀ z ∈ frG a [], z ∈ s := by
  unfold insG
  rw [Bool.and_eq_true, beq_iff_eq, Bool.not_eq_true', List.any_eq_false]
  refine and_congr Iff.rfl ⟨fun h z hz => ?_, fun h z hz => ?_⟩
  · have := h z ((mem_freeS a z).2 hz)
    simpa using this
  · simpa using h z ((mem_freeS a z).1 hz)
theorem RelR.here {s t s' t' : List Int} {a b : TG} {r r' : Except Int TG} (hs : samG a b s t = true) (hst : s.length = t.length) (ha : allG a = true) (hb : allG b = true) (h : RelT s t a b → RelR s' t' r r') : RelR s' t' (askE (insG a s) r) (askE (insG b t) r') := by
  have oa := allG_okV ha
  have ob := allG_okV hb
  have hr : rightG a = rightG b := by unfold rightG; rw [sam_dep a b s t hs, ha, hb]
  have key : ∀ {a b : TG} {s t : List Int}, okV a = true → okV b = true → s.length = t.length → samG a b s t = true → (∀ z ∈ frG a [], z ∈ s) → ∀ z ∈ frG b [], z ∈ t := by
    intro a b s t oa ob hst hs h z hz
    obtain ⟨z', hz', hl⟩ := sam_free b a t s hst.symm ob oa (sam_sym hst oa ob hs) z hz
    have h1 := lastI_neg t z
    have h2 := lastI_neg s z'
    rw [hl.1] at h1
    by_cases e : z ∈ t
    · exact e
    · exact absurd (h z' hz') (h2.1 (h1.2 e))
  have e : insG a s = insG b t := by
    have : insG a s = true ↔ insG b t = true := by
      rw [insG_iff, insG_iff, hr]
      exact and_congr Iff.rfl ⟨key oa ob hst hs, key ob oa hst.symm (sam_sym hst oa ob hs)⟩
    cases h1 : insG a s <;> cases h2 : insG b t <;> simp_all
  exact RelR.ask e fun h1 => h ⟨hs, hst, ha, hb, ((insG_iff a s).1 h1).2⟩
end Go.Proofs.YtcjkikadolnfgaaGreat


/- The reference: none, with, under, fn, fits, scoped. -/
set_option linter.unusedSimpArgs false
set_option linter.unusedVariables false
namespace Go.Proofs.YtcjkikadolnfgaaGreat
open Go.Vx Go.Vc Go.RowKit
theorem none_fn (e : Int) : FnR Tryz.prog G0 49 [.int .i64 e] (.tup [dG zG, .int .i64 e]) := by
  refine fnQ_of_vc txok mixed [] Tryz.func49 rfl rfl (by simp) fun b => ?_
  repeat' ((conv => whnf); first
    | refine And.intro (by kernel_rfl) ?_
    | refine And.intro ?_ ?_)
  all_goals (try exact rfl)
theorem rwithN_fn (vars : List Int) (l : List Bd) (nm : ByteArray) (t : TG) (hl : l.length < 549755813888) : FnR Tryz.prog G0 140 [dSc vars l, .str nm, dG t] (dSc vars (l ++ [(nm, t)])) := by
  refine fnQ_of_vc txok mixed [] Tryz.func140 rfl rfl (by simp) fun b => ?_
  conv => whnf
  refine weakC _ (weak_nlT 8 122 80 5 rfl) ?_
  refine appR (i := 3) (sz := 5) (n := 0) (m := l.length) (xs := []) (ys := encBds l) txok (fun k => Nat.ble 4 k) l.length (encBds l) (by exact rfl) (by exact rfl) (by exact rfl) (by kernel_rfl) (encBds_len l) (encBds_scal l) (by simp) (by simp) (by simp only [LB]; omega) ?_
  conv => whnf
  refine appR (i := 3) (sz := 5) (n := l.length) (m := 1) (xs := encBds l) (ys := encBds [(nm, t)]) txok (fun k => Nat.ble 4 k) (l ++ [(nm, t)]).length (encBds (l ++ [(nm, t)])) (by exact rfl) (by exact rfl) (by exact rfl) (by kernel_rfl) (by exact rfl) (encBds_scal _) (by simp) (by rw [encBds_app]) (by simp only [LB, List.length_append, List.length_cons, List.length_nil]; omega) ?_
  conv => whnf
  try exact rfl
theorem under_fn (vars : List Int) (l : List Bd) (n : Int) (hl : vars.length < 1099511627776) : FnR Tryz.prog G0 145 [dSc vars l, .int .i64 n] (dSc (vars ++ [n]) l) := by
  refine fnQ_of_vc txok mixed [] Tryz.func145 rfl rfl (by simp) fun b => ?_
  conv => whnf
  refine weakC _ (weak_nlT 6 3 8 1 rfl) ?_
  refine appR (i := 2) (sz := 1) (n := 0) (m := vars.length) (xs := []) (ys := Vx.encI vars) txok (fun k => Nat.ble 3 k) vars.length (Vx.encI vars) (by exact rfl) (by exact rfl) (by exact rfl) (by kernel_rfl) (by simp [Vx.encI]) (Vx.encI_scal vars) (by simp) (by simp) (by simp only [LB]; omega) ?_
  conv => whnf
  refine appR (i := 2) (sz := 1) (n := vars.length) (m := 1) (xs := Vx.encI vars) (ys := Vx.encI [n]) txok (fun k => Nat.ble 3 k) (vars ++ [n]).length (Vx.encI (vars ++ [n])) (by exact rfl) (by exact rfl) (by exact rfl) (by kernel_rfl) (by exact rfl) (Vx.encI_scal _) (by simp) (by simp [Vx.encI]) (by simp only [LB, List.length_append, List.length_cons, List.length_nil]; omega) ?_
  conv => whnf
  try exact rfl
theorem rfn_fn (a b : TG) : FnR Tryz.prog G0 141 [dG a, dG b] (dG (.mk 4 0 [] [a, b])) := by
  obtain ⟨k1, n1, ls1, l1⟩ := a
  obtain ⟨k2, n2, ls2, l2⟩ := b
  refine fnQ_of_vc txok mixed [] Tryz.func141 rfl rfl (by simp) fun b => ?_
  conv => whnf
  try exact rfl
theorem rfits_fn (t : TG) (hz : szG t < 4611686018427387904) : FnR Tryz.prog G0 96 [dG t] (outE (fitR t)) := by
  have hS := rsize_fn t 1048576 hz (by omega) (by omega)
  rw [sizeG_pos (by omega)] at hS
  unfold cutN at hS
  refine fnQ_of_vc txok mixed [] Tryz.func96 rfl rfl (by simp) fun b => ?_
  unfold fitR
  by_cases h : szG t ≤ 1048576
  · rw [if_pos (by omega)] at hS
    rw [if_pos h]
    conv => whnf
    refine callF hS gf64 rfl rfl ?_
    conv => whnf
    refine And.intro (fun h1 => ?_) (fun h1 => ?_)
    · exfalso
      have := of_decide_eq_true h1
      omega
    · conv => whnf
      try exact rfl
  · rw [if_neg (by omega)] at hS
    rw [if_neg h]
    conv => whnf
    refine callF hS gf64 rfl rfl ?_
    conv => whnf
    refine And.intro (fun h1 => ?_) (fun h1 => ?_)
    · conv => whnf
      try exact rfl
    · exfalso
      have := of_decide_eq_false h1
      omega
def insAll (vars : List Int) (ts : List TG) : Bool := ts.all fun t => insG t vars
theorem scoped_fn (vars : List Int) (l : List Bd) (m : MG) (hz : ∀ t ∈ m.ts, szG t < 1099511627776) : FnR Tryz.prog G0 89 [dSc vars l, dM m] (.bool (insAll vars m.ts)) := by
  refine fnQ_sz fun hs => ?_
  have hl := (szOk_M hs.2.1).2.2.1
  simp only [LB] at hl
  refine fnQ_of_vc txok mixed [(4, .pure 0 (.take 1 (.pure 2 (.pure 3 (.take 4 (.pure 5 (.take 6 (.fin 7 (.pure 8 .done)))))))))] Tryz.func89 rfl rfl (by simp) fun b => ?_
  conv => whnf
  refine loopH (fun j : Nat => j ≤ m.ts.length ∧ ∀ (q : Nat) (h : q < m.ts.length), q < j → insG m.ts[q] vars = true) (fun j => m.ts.length - j) (fun j => [(5, .d (.int .i64 j))]) (fun _ => [(0, .blk 75 [.d (dI vars), .d (dBs l)]), (1, .blk 26 (mcS m))]) 2 0 ⟨by omega, fun _ _ h => by omega⟩ (weak_of rfl (by repeat ((conv => whnf); first | exact trivial | refine And.intro rfl ?_ | refine And.intro (incD (by omega)) ?_)) (by repeat ((conv => whnf); first | exact trivial | refine And.intro rfl ?_ | refine And.intro (incD (by omega)) ?_))) ?_
  rintro j ⟨hj, hall⟩
  conv => whnf
  refine And.intro (fun hb' => ?_) (fun hb' => ?_)
  · have hjl : j < m.ts.length := by have := of_decide_eq_true hb'; omega
    have hI := rinScope_fn m.ts[j] vars (hz _ (List.getElem_mem hjl))
    cases hi : insG m.ts[j] vars with
    | false =>
      rw [hi] at hI
      have hno : insAll vars m.ts = false := by
        unfold insAll
        rw [List.all_eq_false]
        exact ⟨_, List.getElem_mem hjl, by rw [hi]; decide⟩
      rw [hno]
      repeat' ((conv => whnf); first
        | refine IdxC.encGs (l := m.ts) j hjl rfl ?_
        | refine And.intro (by kernel_rfl) ?_
        | (refine And.intro (fun h => ?_) (fun h => absurd h (by decide)))
        | refine And.intro ?_ ?_
        | refine callF hI gf15 rfl rfl ?_)
      all_goals (try (conv => whnf))
      all_goals exact rfl
    | true =>
      rw [hi] at hI
      repeat' ((conv => whnf); first
        | refine IdxC.encGs (l := m.ts) j hjl rfl ?_
        | refine And.intro (by kernel_rfl) ?_
        | (refine And.intro (fun h => absurd h (by decide)) (fun h => ?_))
        | refine And.intro ?_ ?_
        | refine callF hI gf15 rfl rfl ?_)
      all_goals (try (conv => whnf))
      all_goals
        rw [incD (by omega)]
        refine again (j + 1) (by omega) ⟨by omega, fun q h hq => ?_⟩ (weak_of rfl (by repeat ((conv => whnf); first | exact trivial | refine And.intro rfl ?_ | refine And.intro (incD (by omega)) ?_)) (by repeat ((conv => whnf); first | exact trivial | refine And.intro rfl ?_ | refine And.intro (incD (by omega)) ?_)))
        by_cases e : q = j
        · subst e; exact hi
        · exact hall q h (by omega)
  · have hjl : j = m.ts.length := by have := of_decide_eq_false hb'; omega
    have hyes : insAll vars m.ts = true := by
      unfold insAll
      rw [List.all_eq_true]
      intro x hx
      obtain ⟨q, hq, rfl⟩ := List.mem_iff_getElem.1 hx
      exact hall q hq (by omega)
    rw [hyes]
    conv => whnf
    try exact rfl
end Go.Proofs.YtcjkikadolnfgaaGreat


/- slices.Index and slices.Clone of names; the rule of parts of records. -/
set_option linter.unusedSimpArgs false
set_option linter.unusedVariables false
namespace Go.Proofs.YtcjkikadolnfgaaGreat
open Go.Vx Go.Vc Go.RowKit
def restOf (f : Func) : Code := match f.body with
  | some (.seq _ (.seq _ y)) => y
  | _ => .skip
def idxZ (o : Option Nat) : Int := match o with
  | some j => (j : Int)
  | none => -1
def idxSf : List ByteArray → ByteArray → Int → Int
  | [], _, _ => -1
  | y :: r, x, i => if x = y then i else idxSf r x (i + 1)
theorem indexS_fn (l : List ByteArray) (x : ByteArray) : FnR Tryz.prog G0 172 [dL l, .str x] (.int .i64 (idxSf l x 0)) := by
  refine fnQ_sz fun hs => ?_
  have hl := (szOk_sl hs.1).1
  simp only [LB] at hl
  refine fnQ_of_vc txok mixed [] Tryz.func172 rfl rfl (by simp) fun b => ?_
  conv => whnf
  refine loopH (fun i : Nat => i ≤ l.length ∧ idxSf l x 0 = idxSf (l.drop i) x i) (fun i => l.length - i) (fun i => [(8, .d (.int .i64 i))]) (fun _ => []) 0 0 ⟨by omega, rfl⟩ (weak_of rfl (by repeat ((conv => whnf); first | exact trivial | refine And.intro rfl ?_ | refine And.intro (incD (by omega)) ?_)) (by repeat ((conv => whnf); first | exact trivial | refine And.intro rfl ?_ | refine And.intro (incD (by omega)) ?_))) ?_
  rintro i ⟨hi, hx⟩
  conv => whnf
  refine And.intro (fun h => ?_) (fun h => ?_)
  · have hil : i < l.length := by have := of_decide_eq_true h; omega
    rw [List.drop_eq_getElem_cons hil, idxSf] at hx
    conv => whnf
    refine IdxC.encS i hil rfl ?_
    conv => whnf
    refine And.intro (fun he => ?_) (fun he => ?_)
    · conv => whnf
      rw [beqB', decide_eq_true_eq] at he
      rw [hx, if_pos he]
    · conv => whnf
      rw [beqB', decide_eq_false_iff_not] at he
      rw [if_neg he] at hx
      exact again (i + 1) (by omega) ⟨by omega, by rw [hx]; rfl⟩ (weak_of rfl (by repeat ((conv => whnf); first | exact trivial | refine And.intro rfl ?_ | refine And.intro (incD (by omega)) ?_)) (by repeat ((conv => whnf); first | exact trivial | refine And.intro rfl ?_ | refine And.intro (incD (by omega)) ?_)))
  · have hb := of_decide_eq_false h
    conv => whnf
    rw [hx, List.drop_eq_nil_of_le (by omega)]; rfl
theorem idxSf_idxB : ∀ (l : List ByteArray) (x : ByteArray) (i : Nat), idxSf l x i = idxZ ((idxB l x).map (· + i))
  | [], _, _ => rfl
  | y :: r, x, i => by
    rw [idxSf]
    unfold idxB
    rw [List.findIdx?_cons]
    by_cases h : x = y
    · rw [if_pos h, h, if_pos (by simp)]; simp [idxZ]
    · rw [if_neg h, if_neg (by simpa using fun e => h e.symm)]
      have := idxSf_idxB r x (i + 1)
      rw [show ((i + 1 : Nat) : Int) = (i : Int) + 1 from rfl] at this
      rw [this]
      unfold idxB
      cases List.findIdx? (fun z => decide (z = x)) r with
      | none => rfl
      | some j => simp only [Option.map_some, idxZ]; omega
theorem idxSf_eq (l : List ByteArray) (x : ByteArray) : idxSf l x 0 = idxZ (idxB l x) := by
  have := idxSf_idxB l x 0
  rw [show ((0 : Nat) : Int) = 0 from rfl] at this
  rw [this]; cases idxB l x <;> rfl
theorem cloneS_fn (l : List ByteArray) : FnR Tryz.prog G0 171 [dL l] (dL l) := by
  refine fnQ_sz fun hs => ?_
  have hl := (szOk_sl hs.1).1
  refine fnQ_of_vc txok mixed [] Tryz.func171 rfl rfl (by simp) fun b => ?_
  conv => whnf
  intro c hc
  conv => whnf
  refine And.intro (fun h => ?_) (fun h => ?_)
  · conv => whnf
    rw [List.eq_nil_of_length_eq_zero (hc h)]; rfl
  · conv => whnf
    refine appR (i := 0) (sz := 1) (n := 0) (m := l.length) (xs := []) (ys := encS l) txok (fun _ => false) l.length (encS l) rfl rfl rfl (by kernel_rfl) (by rw [encS_len, Nat.mul_one]) (encS_scal l) (by simp) (by simp) hl ?_
    conv => whnf
    try exact rfl
set_option maxRecDepth 20000 in
theorem selW_fn (vars : List Int) (l : List Bd) (n i : Int) (nm : ByteArray) (ls : List ByteArray) (u : MG) (cu : Chk) (hcu : KidOk u cu) (hv : vars.length + szM (.mk 15 n i nm ls [] [u]) ≤ 549755813888) (hl : l.length + 2 * szM (.mk 15 n i nm ls [] [u]) ≤ 549755813888) (hb : Bnd l) : FnQ Tryz.prog G0 127 [dSc vars l, dM (.mk 15 n i nm ls [] [u])] (fun o => o = resO (selR nm cu vars l)) ∧ ∀ t, selR nm cu vars l = .ok t → allG t = true ∧ szG t ≤ 2147483648 := by
  simp only [szM, szMs, szGs] at hv hl
  unfold selR
  obtain ⟨hK0, hG0⟩ := hcu vars l (by omega) (by omega) hb
  cases hr : cu vars l with
  | error e =>
    rw [hr] at hK0
    refine ⟨?_, nofun⟩
    refine fnQ_of_vc txok mixed [(1, .take 0 (.pure 1 (.take 2 (.pure 3 (.take 4 (.two 5 6 (.run 6 (.fin 7 .done)) (.fin 5 (.fin 7 .done))))))))] Tryz.func127 rfl rfl (by simp) fun bb => ?_
    repeat' ((conv => whnf); first
      | refine And.intro (by kernel_rfl) ?_
      | refine And.intro ?_ ?_
      | refine IdxC.encMs (l := [u]) 0 (by simp) rfl ?_
      | (refine callQ rfl rfl gf46 hK0 ?_; rintro o rfl))
    all_goals (try (conv => whnf))
    all_goals exact rfl
  | ok w =>
  rw [hr] at hK0
  obtain ⟨haw, hzw⟩ := hG0 w hr
  obtain ⟨kw, nw, lsw, lw⟩ := w
  have hI := indexS_fn lsw nm
  rw [idxSf_eq] at hI
  by_cases hk : kw = 7
  rotate_left
  · have hkb : (kw == 7) = false := by simpa using hk
    have hA := ask_fn (kw == 7)
    rw [show askO (kw == 7) = .pan (badW 30) from by rw [hkb]; rfl] at hA
    refine ⟨?_, fun t ht => by exfalso; revert ht; simp only [bE, askE, g_k, hkb]; exact nofun⟩
    refine fnQ_of_vc txok mixed [(1, .take 0 (.pure 1 (.take 2 (.pure 3 (.take 4 (.two 5 6 (.run 6 (.fin 7 .done)) (.fin 5 (.fin 7 .done))))))))] Tryz.func127 rfl rfl (by simp) fun bb => ?_
    repeat' ((conv => whnf); first
      | refine And.intro (by kernel_rfl) ?_
      | refine And.intro ?_ ?_
      | refine IdxC.encMs (l := [u]) 0 (by simp) rfl ?_
      | (refine callQ rfl rfl gf46 hK0 ?_; rintro o rfl)
      | (refine callQ rfl rfl gf167 hA ?_; rintro o rfl))
    all_goals (try (conv => whnf))
    all_goals (simp only [bE, askE, g_k, hkb]; try exact rfl; done)
  subst hk
  have hshp := ((allG_mk ..).1 haw).1
  rw [shpG_mk, if_neg (by decide), if_neg (by decide), if_neg (by decide), if_pos (by decide)] at hshp
  simp only [Bool.and_eq_true, beq_iff_eq] at hshp
  cases hj : idxB lsw nm with
  | none =>
    rw [hj] at hI
    have hA := ask_fn (decide ((-1 : Int) ≥ 0))
    refine ⟨?_, fun t ht => by exfalso; revert ht; simp only [bE, askE, g_k, TG.ls, hj, beq_self_eq_true]; exact nofun⟩
    refine fnQ_of_vc txok mixed [(1, .take 0 (.pure 1 (.take 2 (.pure 3 (.take 4 (.two 5 6 (.run 6 (.fin 7 .done)) (.fin 5 (.fin 7 .done))))))))] Tryz.func127 rfl rfl (by simp) fun bb => ?_
    repeat' ((conv => whnf); first
      | refine And.intro (by kernel_rfl) ?_
      | refine And.intro ?_ ?_
      | refine IdxC.encMs (l := [u]) 0 (by simp) rfl ?_
      | (refine callQ rfl rfl gf46 hK0 ?_; rintro o rfl)
      | (refine callQ rfl rfl gf167 (ask_fn true) ?_; rintro o rfl)
      | refine callF hI gf172 rfl rfl ?_
      | (refine callQ rfl rfl gf167 hA ?_; rintro o rfl))
    all_goals (try (conv => whnf))
    all_goals (simp only [bE, askE, g_k, TG.ls, hj, beq_self_eq_true]; try exact rfl; done)
  | some j =>
    rw [hj] at hI
    have hjl : j < lw.length := by
      unfold idxB at hj
      have := (List.findIdx?_eq_some_iff_getElem.1 hj).1
      omega
    have hkd : kidG (.mk 7 nw lsw lw) j = lw[j] := by simp only [kidG, g_kids]; rw [List.getD_eq_getElem?_getD, List.getElem?_eq_getElem hjl]; rfl
    have hA := ask_fn (decide ((j : Int) ≥ 0))
    rw [show askO (decide ((j : Int) ≥ 0)) = .ret (.tup []) from by rw [decide_eq_true (by omega)]; rfl] at hA
    refine ⟨?_, fun t ht => by
      simp only [bE, askE, g_k, TG.ls, hj, beq_self_eq_true, hkd] at ht; injection ht with ht; subst ht
      refine ⟨((allG_mk ..).1 haw).2 _ (List.getElem_mem hjl), ?_⟩
      have := szG_mem (List.getElem_mem hjl)
      simp only [szG] at hzw; omega⟩
    refine fnQ_of_vc txok mixed [(1, .take 0 (.pure 1 (.take 2 (.pure 3 (.take 4 (.two 5 6 (.run 6 (.fin 7 .done)) (.fin 5 (.fin 7 .done))))))))] Tryz.func127 rfl rfl (by simp) fun bb => ?_
    repeat' ((conv => whnf); first
      | refine And.intro (by kernel_rfl) ?_
      | refine And.intro ?_ ?_
      | refine IdxC.encMs (l := [u]) 0 (by simp) rfl ?_
      | (refine callQ rfl rfl gf46 hK0 ?_; rintro o rfl)
      | (refine callQ rfl rfl gf167 (ask_fn true) ?_; rintro o rfl)
      | refine callF hI gf172 rfl rfl ?_
      | (refine callQ rfl rfl gf167 hA ?_; rintro o rfl)
      | refine IdxC.encGs (l := lw) j hjl rfl ?_)
    all_goals (try (conv => whnf))
    all_goals (simp only [bE, askE, g_k, TG.ls, hj, beq_self_eq_true, hkd]; try exact rfl; done)
theorem kid_sel (n i : Int) (nm : ByteArray) (ls : List ByteArray) (u : MG) (cu : Chk) (hcu : KidOk u cu) : KidOk (.mk 15 n i nm ls [] [u]) (fun vars l => fitE (selR nm cu vars l)) :=
  kid_of _ (selR nm cu) 15 127 rfl rfl gf127 fun vars l hv hl hb => selW_fn vars l n i nm ls u cu hcu hv hl hb
end Go.Proofs.YtcjkikadolnfgaaGreat


/- The rule of records. -/
set_option linter.unusedSimpArgs false
set_option linter.unusedVariables false
namespace Go.Proofs.YtcjkikadolnfgaaGreat
open Go.Vx Go.Vc Go.RowKit
theorem kid_of2 (m : MG) (c : Chk) (j : Nat) (f : FuncId) (hk : m.k = (j : Int)) (hj : rulesD[j]? = some (.fn f [] [])) (hg : Goes Tryz.prog f)
    (h : ∀ vars l, vars.length + szM m ≤ 549755813888 → l.length + 2 * szM m ≤ 549755813888 → Bnd l → FnQ Tryz.prog G0 f [dSc vars l, dM m] (fun o => o = resO (c vars l)) ∧ ∀ t, c vars l = .ok t → allG t = true ∧ szG t < 4611686018427387904) : KidOk m (fun vars l => fitE (c vars l)) := by
  intro vars l hv hl hb
  obtain ⟨h1, h2⟩ := h vars l hv hl hb
  exact ⟨of_fn vars l m (c vars l) j f hk hj hg h1 (fun t ht => (h2 t ht).2), good_fit fun t ht => (h2 t ht).1⟩
def mapE (acc : List TG) : Except Int (List TG) → Except Int (List TG)
  | .ok us => .ok (acc ++ us)
  | .error e => .error e
theorem mapE_nil (r : Except Int (List TG)) : mapE [] r = r := by cases r <;> rfl
theorem mapE_cons (acc : List TG) (t : TG) (r : Except Int (List TG)) : mapE acc (consE (.ok t) r) = mapE (acc ++ [t]) r := by
  cases r
  · rfl
  · simp [consE, mapE]
theorem recK_good (vars : List Int) (l : List Bd) : ∀ (ks : List MG) (cs : List Chk), cs.length = ks.length → (∀ (j : Nat) (h : j < ks.length) (h' : j < cs.length), KidOk ks[j] cs[j]) → vars.length + szMs ks ≤ 549755813888 → l.length + 2 * szMs ks ≤ 549755813888 → Bnd l → ∀ ts, recK cs vars l = .ok ts → ts.length = ks.length ∧ (∀ t ∈ ts, allG t = true) ∧ szGs ts ≤ 1048576 * ks.length
  | [], [], _, _, _, _, _ => fun ts h => by injection h with h; subst h; exact ⟨rfl, nofun, by simp [szGs]⟩
  | [], _ :: _, h, _, _, _, _ => by simp at h
  | _ :: _, [], h, _, _, _, _ => by simp at h
  | m :: ks, c :: cs, hl, hc, hv, hz, hb => fun ts h => by
    simp only [szMs] at hv hz
    have h1 := (hc 0 (by simp) (by simp) vars l (by simp; omega) (by simp; omega) hb).2
    rw [recK] at h
    simp only [List.getElem_cons_zero] at h1
    cases hr : c vars l with
    | error e => rw [hr] at h; cases h
    | ok t =>
      rw [hr] at h
      obtain ⟨ha, hs⟩ := h1 t hr
      cases hq : recK cs vars l with
      | error e => rw [hq] at h; cases h
      | ok us =>
        rw [hq] at h
        injection h with h; subst h
        obtain ⟨q1, q2, q3⟩ := recK_good vars l ks cs (by simpa using hl) (fun j h h' => hc (j + 1) (by simpa using h) (by simpa using h')) (by omega) (by omega) hb us hq
        refine ⟨by simp [q1], fun u hu => ?_, by simp only [szGs, List.length_cons]; omega⟩
        rcases List.mem_cons.1 hu with rfl | hu
        · exact ha
        · exact q2 u hu
theorem szMs_len : ∀ l : List MG, l.length ≤ szMs l
  | [] => by simp [szMs]
  | m :: r => by
    have := szMs_len r
    have : 1 ≤ szM m := by cases m; simp only [szM]; omega
    simp only [szMs, List.length_cons]; omega
set_option maxRecDepth 20000 in
theorem recW_fn (vars : List Int) (l : List Bd) (n i : Int) (nm : ByteArray) (ls : List ByteArray) (ks : List MG) (cs : List Chk) (hcl : cs.length = ks.length) (hc : ∀ (j : Nat) (h : j < ks.length) (h' : j < cs.length), KidOk ks[j] cs[j]) (hls : ls.length = ks.length) (hord : ordS ls = true)
    (hv : vars.length + szM (.mk 14 n i nm ls [] ks) ≤ 549755813888) (hl : l.length + 2 * szM (.mk 14 n i nm ls [] ks) ≤ 549755813888) (hz : szM (.mk 14 n i nm ls [] ks) ≤ 1073741824) (hb : Bnd l) : FnQ Tryz.prog G0 126 [dSc vars l, dM (.mk 14 n i nm ls [] ks)] (fun o => o = resO (recR ls cs vars l)) ∧ ∀ t, recR ls cs vars l = .ok t → allG t = true ∧ szG t < 4611686018427387904 := by
  simp only [szM, szGs] at hv hl hz
  have hks := szMs_len ks
  refine ⟨?_, fun t ht => ?_⟩
  · refine fnQ_of_vc txok mixed [(5, .pure 0 (.take 1 (.take 2 (.take 3 (.run 4 (.run 5 (.fin 6 (.pure 7 (.fin 8 .done)))))))))] Tryz.func126 rfl rfl (by simp) fun b => ?_
    conv => whnf
    refine callF (cloneS_fn ls) gf171 rfl rfl ?_
    conv => whnf
    refine loopH (fun z : Nat × List TG => z.1 ≤ ks.length ∧ recK cs vars l = mapE z.2 (recK (cs.drop z.1) vars l) ∧ z.2.length = z.1) (fun z => ks.length - z.1) (fun z => [(15, .d (.int .i64 z.1))])
      (fun z => [(0, .blk 71 [.d (dI vars), .d (dBs l)]), (1, .blk 26 (mcS (.mk 14 n i nm ls [] ks))), (2, .blk 28 zS), (3, .blk 28 [.d (.int .i64 7), .d (.int .i64 0), .d (dL ls), .row 4]), (4, .row 28 64 4 z.2.length (encGs z.2))]) 5 (0, []) ⟨by simp, by rw [mapE_nil]; rfl, rfl⟩ ((weak_nlC 3 3 28 64 4 rfl rfl).trans (weak_of rfl (by repeat ((conv => whnf); first | exact trivial | refine And.intro rfl ?_ | refine And.intro (incD (by omega)) ?_)) (by repeat ((conv => whnf); first | exact trivial | refine And.intro rfl ?_ | refine And.intro (incD (by omega)) ?_)))) ?_
    rintro ⟨i, acc⟩ ⟨hi, hx, hal⟩
    simp only at hi hx hal
    conv => whnf
    refine And.intro (fun hb' => ?_) (fun hb' => ?_)
    · have hil : i < ks.length := by have := of_decide_eq_true hb'; simp only [MG.ks] at this; omega
      have hic : i < cs.length := by omega
      rw [List.drop_eq_getElem_cons hic, recK] at hx
      have hsz := szM_mem (List.getElem_mem hil)
      obtain ⟨hK0, hG0⟩ := hc i hil hic vars l (by omega) (by omega) hb
      cases hr : cs[i] vars l with
      | error e =>
        rw [hr] at hK0 hx
        conv => whnf
        repeat' ((conv => whnf); first
          | refine IdxC.encMs (l := ks) i hil rfl ?_
          | refine And.intro (by kernel_rfl) ?_
          | refine And.intro ?_ ?_
          | (refine callQ rfl rfl gf46 hK0 ?_; rintro o rfl))
        all_goals (try (conv => whnf))
        all_goals (show _ = resO (recR ls cs vars l); unfold recR; rw [hx]; rfl)
      | ok t =>
        rw [hr] at hK0 hx
        rw [mapE_cons] at hx
        obtain ⟨k1, n1, l1, m1⟩ := t
        conv => whnf
        refine IdxC.encMs (l := ks) i hil rfl ?_
        repeat' ((conv => whnf); first
          | refine And.intro (by kernel_rfl) ?_
          | refine And.intro ?_ ?_
          | (refine callQ rfl rfl gf46 hK0 ?_; rintro o rfl)
          | refine appR (i := 4) (sz := 4) (n := acc.length) (m := 1) (xs := encGs acc) (ys := encGs [TG.mk k1 n1 l1 m1]) txok (fun k => Nat.ble 5 k) (acc ++ [TG.mk k1 n1 l1 m1]).length (encGs (acc ++ [TG.mk k1 n1 l1 m1])) (by exact rfl) (by exact rfl) (by exact rfl) (by kernel_rfl) (by exact rfl) (encGs_scal _) (by simp) (by rw [encGs_app]) (by simp only [LB, List.length_append, List.length_cons, List.length_nil]; omega) ?_)
        all_goals (try (conv => whnf))
        all_goals
          rw [incD (by omega)]
          exact again (i + 1, acc ++ [TG.mk k1 n1 l1 m1]) (by simp; omega) ⟨by simp; omega, hx, by simp; omega⟩ (weak_of rfl (by repeat ((conv => whnf); first | exact trivial | refine And.intro rfl ?_ | refine And.intro (incD (by omega)) ?_)) (by repeat ((conv => whnf); first | exact trivial | refine And.intro rfl ?_ | refine And.intro (incD (by omega)) ?_)))
    · have hi : i = ks.length := by have := of_decide_eq_false hb'; simp only [MG.ks] at this; omega
      subst hi
      rw [List.drop_eq_nil_of_le (by omega)] at hx
      have hr : recR ls cs vars l = .ok (.mk 7 0 ls acc) := by unfold recR; rw [hx]; simp [recK, mapE]
      rw [hr]
      conv => whnf
      try exact rfl
  · unfold recR at ht
    cases hq : recK cs vars l with
    | error e => rw [hq] at ht; cases ht
    | ok ts =>
      rw [hq] at ht
      injection ht with ht; subst ht
      obtain ⟨q1, q2, q3⟩ := recK_good vars l ks cs hcl hc (by omega) (by omega) hb ts hq
      refine ⟨(allG_mk ..).2 ⟨?_, q2⟩, by simp only [szG]; omega⟩
      rw [shpG_mk, if_neg (by decide), if_neg (by decide), if_neg (by decide), if_pos (by decide), hord, q1, hls]
      simp
theorem kid_rec (n i : Int) (nm : ByteArray) (ls : List ByteArray) (ks : List MG) (cs : List Chk) (hcl : cs.length = ks.length) (hc : ∀ (j : Nat) (h : j < ks.length) (h' : j < cs.length), KidOk ks[j] cs[j]) (hls : ls.length = ks.length) (hord : ordS ls = true) (hz : szM (.mk 14 n i nm ls [] ks) ≤ 1073741824) : KidOk (.mk 14 n i nm ls [] ks) (fun vars l => fitE (recR ls cs vars l)) :=
  kid_of2 _ (recR ls cs) 14 126 rfl rfl gf126 fun vars l hv hl hb => recW_fn vars l n i nm ls ks cs hcl hc hls hord hv hl hz hb
end Go.Proofs.YtcjkikadolnfgaaGreat


/- The reference: is, of, all; what its functions promise. -/
set_option linter.unusedSimpArgs false
set_option linter.unusedVariables false
namespace Go.Proofs.YtcjkikadolnfgaaGreat
open Go.Vx Go.Vc Go.RowKit
def RKid (u : MG) (c : Chk) : Prop := ∀ vars l, vars.length + szM u ≤ 549755813888 → l.length + 2 * szM u ≤ 549755813888 → Bnd l → FnR Tryz.prog G0 50 [dSc vars l, dM u] (outE (c vars l)) ∧ (∀ t, c vars l = .ok t → allG t = true ∧ szG t ≤ 1048576) ∧ ∀ e, c vars l = .error e → e ≠ 0
def OutX (r : Except Int TG) (o : DOut) : Prop := match r with
  | .ok t => o = .ret (.tup [dG t, .int .i64 0])
  | .error e => ∃ x : TG, o = .ret (.tup [dG x, .int .i64 e])
theorem OutX.err {e : Int} (x : TG) {o : DOut} (h : o = .ret (.tup [dG x, .int .i64 e])) : OutX (.error e) o := ⟨x, h⟩
theorem ofK_fn (vars : List Int) (l : List Bd) (u : MG) (k : Int) (r : Except Int TG) (hr : FnR Tryz.prog G0 50 [dSc vars l, dM u] (outE r)) (he : ∀ e, r = .error e → e ≠ 0) : FnQ Tryz.prog G0 144 [dSc vars l, dM u, .int .i64 k] (fun o => o = .ret (outE (bE r fun t => askE (t.k == k) (.ok t)))) := by
  cases r with
  | error e =>
    have he := he e rfl
    refine fnQ_of_vc txok mixed [] Tryz.func144 rfl rfl (by simp) fun b => ?_
    repeat' ((conv => whnf); first
      | refine And.intro (by kernel_rfl) ?_
      | (refine And.intro (fun h => ?_) (fun h => ?_); rotate_left; focus (exfalso; revert h; simp [he]; done))
      | (refine And.intro (fun h => ?_) (fun h => ?_); focus (exfalso; revert h; simp [he]; done))
      | refine And.intro ?_ ?_
      | refine callF hr gf50 rfl rfl ?_)
    all_goals (try (conv => whnf))
    all_goals exact rfl
  | ok t =>
    obtain ⟨kt, nt, lst, lt⟩ := t
    by_cases hk : kt = k
    · have hkb : (kt == k) = true := by simpa using hk
      rw [show bE (.ok (TG.mk kt nt lst lt)) (fun t => askE (t.k == k) (.ok t)) = .ok (TG.mk kt nt lst lt) from by simp only [bE, g_k, hkb]; rfl]
      refine fnQ_of_vc txok mixed [] Tryz.func144 rfl rfl (by simp) fun b => ?_
      repeat' ((conv => whnf); first
        | refine And.intro (by kernel_rfl) ?_
        | (refine And.intro (fun h => ?_) (fun h => ?_); rotate_left; focus (exfalso; revert h; simp [g_k, hk]; done))
        | (refine And.intro (fun h => ?_) (fun h => ?_); focus (exfalso; revert h; simp [g_k, hk]; done))
        | refine And.intro ?_ ?_
        | refine callF hr gf50 rfl rfl ?_)
      all_goals (try (conv => whnf))
      all_goals exact rfl
    · have hkb : (kt == k) = false := by simpa using hk
      rw [show bE (.ok (TG.mk kt nt lst lt)) (fun t => askE (t.k == k) (.ok t)) = .error 30 from by simp only [bE, g_k, hkb]; rfl]
      refine fnQ_of_vc txok mixed [] Tryz.func144 rfl rfl (by simp) fun b => ?_
      repeat' ((conv => whnf); first
        | refine And.intro (by kernel_rfl) ?_
        | (refine And.intro (fun h => ?_) (fun h => ?_); rotate_left; focus (exfalso; revert h; simp [g_k, hk]; done))
        | (refine And.intro (fun h => ?_) (fun h => ?_); focus (exfalso; revert h; simp [g_k, hk]; done))
        | refine And.intro ?_ ?_
        | refine callF hr gf50 rfl rfl ?_
        | refine callF (none_fn 30) gf49 rfl rfl ?_)
      all_goals (try (conv => whnf))
      all_goals exact rfl
def errIs (w : TG) : Except Int TG → Int
  | .ok t => if samG w t [] [] = true then 0 else 30
  | .error e => e
theorem is_fn (vars : List Int) (l : List Bd) (u : MG) (w : TG) (r : Except Int TG) (hr : FnR Tryz.prog G0 50 [dSc vars l, dM u] (outE r)) (he : ∀ e, r = .error e → e ≠ 0) (hw : szG w < 1099511627776) : FnR Tryz.prog G0 142 [dSc vars l, dM u, dG w] (.int .i64 (errIs w r)) := by
  obtain ⟨kw, nw, lsw, lw⟩ := w
  cases r with
  | error e =>
    have he := he e rfl
    refine fnQ_of_vc txok mixed [] Tryz.func142 rfl rfl (by simp) fun b => ?_
    repeat' ((conv => whnf); first
      | refine And.intro (by kernel_rfl) ?_
      | (refine And.intro (fun h => ?_) (fun h => ?_); rotate_left; focus (exfalso; revert h; simp [he]; done))
      | (refine And.intro (fun h => ?_) (fun h => ?_); focus (exfalso; revert h; simp [he]; done))
      | refine And.intro ?_ ?_
      | refine callF hr gf50 rfl rfl ?_)
    all_goals (try (conv => whnf))
    all_goals exact rfl
  | ok t =>
    obtain ⟨kt, nt, lst, lt⟩ := t
    have hS := rsameTop_fn (.mk kw nw lsw lw) (.mk kt nt lst lt) hw
    cases hs : samG (.mk kw nw lsw lw) (.mk kt nt lst lt) [] [] with
    | false =>
      rw [hs] at hS
      rw [show errIs (.mk kw nw lsw lw) (.ok (.mk kt nt lst lt)) = 30 from by simp [errIs, hs]]
      refine fnQ_of_vc txok mixed [] Tryz.func142 rfl rfl (by simp) fun b => ?_
      repeat' ((conv => whnf); first
        | refine And.intro (by kernel_rfl) ?_
        | (refine And.intro (fun h => ?_) (fun h => ?_); rotate_left; focus (exfalso; revert h; decide; done))
        | (refine And.intro (fun h => ?_) (fun h => ?_); focus (exfalso; revert h; decide; done))
        | refine And.intro ?_ ?_
        | refine callF hr gf50 rfl rfl ?_
        | refine callF hS gf10 rfl rfl ?_)
      all_goals (try (conv => whnf))
      all_goals exact rfl
    | true =>
      rw [hs] at hS
      rw [show errIs (.mk kw nw lsw lw) (.ok (.mk kt nt lst lt)) = 0 from by simp [errIs, hs]]
      refine fnQ_of_vc txok mixed [] Tryz.func142 rfl rfl (by simp) fun b => ?_
      repeat' ((conv => whnf); first
        | refine And.intro (by kernel_rfl) ?_
        | (refine And.intro (fun h => ?_) (fun h => ?_); rotate_left; focus (exfalso; revert h; decide; done))
        | (refine And.intro (fun h => ?_) (fun h => ?_); focus (exfalso; revert h; decide; done))
        | refine And.intro ?_ ?_
        | refine callF hr gf50 rfl rfl ?_
        | refine callF hS gf10 rfl rfl ?_)
      all_goals (try (conv => whnf))
      all_goals exact rfl
end Go.Proofs.YtcjkikadolnfgaaGreat


/- The reference: what a kind of terms has; is a node right? (printed by a program of my own) -/
set_option linter.unusedSimpArgs false
set_option linter.unusedVariables false
namespace Go.Proofs.YtcjkikadolnfgaaGreat
open Go.Vx Go.Vc Go.RowKit
def shL : List (Int × Int × Int × Bool × Bool × Bool) := [(0, 0, 0, false, false, false), (0, 0, 0, false, false, true), (0, 0, 0, false, false, true), (0, 0, 0, false, false, false), (0, 0, 0, true, false, false), (1, 1, 0, true, false, false), (2, 0, 0, false, false, false), (1, 2, 1, true, false, false), (2, 0, 0, true, false, false), (2, 0, 0, false, false, false), (1, 0, 0, false, false, false), (1, 0, 0, false, false, false), (3, 0, 0, false, false, false), (2, 0, 0, false, true, false), (-1, 0, -1, false, false, false), (1, 0, 0, true, false, false), (1, 1, 0, false, true, false), (-1, 0, -1, false, false, false), (1, 1, 0, false, false, false), (1, 0, 0, false, false, false), (1, 0, 0, false, true, false), (1, 1, 0, false, false, false), (1, 2, 0, false, false, false), (2, 0, 0, true, true, false), (0, 1, 0, false, false, false), (1, 0, 0, false, false, false)]
def shpR (k : Nat) : D := match shL.getD k (0, 0, 0, false, false, false) with
  | (a, b, c, x, y, z) => .tup [.int .i64 a, .int .i64 b, .int .i64 c, .bool x, .bool y, .bool z, .bool true]
set_option maxRecDepth 20000 in
theorem shape_in (k : Int) (hk : k = 1 ∨ k = 2 ∨ k = 3 ∨ k = 4 ∨ k = 5 ∨ k = 6 ∨ k = 7 ∨ k = 8 ∨ k = 9 ∨ k = 10 ∨ k = 11 ∨ k = 12 ∨ k = 13 ∨ k = 14 ∨ k = 15 ∨ k = 16 ∨ k = 17 ∨ k = 18 ∨ k = 19 ∨ k = 20 ∨ k = 21 ∨ k = 22 ∨ k = 23 ∨ k = 24 ∨ k = 25) : FnR Tryz.prog G0 175 [.int .i64 k] (shpR k.toNat) := by
  rcases hk with rfl | rfl | rfl | rfl | rfl | rfl | rfl | rfl | rfl | rfl | rfl | rfl | rfl | rfl | rfl | rfl | rfl | rfl | rfl | rfl | rfl | rfl | rfl | rfl | rfl
  all_goals
    refine fnQ_of_vc txok mixed [] Tryz.func175 rfl rfl (by simp) fun b => ?_
    repeat' ((conv => whnf); first
      | (refine And.intro (fun h => ?_) (fun h => ?_); rotate_left; focus (exfalso; revert h; decide; done))
      | (refine And.intro (fun h => ?_) (fun h => ?_); focus (exfalso; revert h; decide; done)))
    all_goals (try (conv => whnf))
    all_goals exact rfl
set_option maxRecDepth 20000 in
theorem shape_no (k : Int) (h1 : k < 1 ∨ k > 25) : FnR Tryz.prog G0 175 [.int .i64 k] (.tup [.int .i64 0, .int .i64 0, .int .i64 0, .bool false, .bool false, .bool false, .bool false]) := by
  refine fnQ_of_vc txok mixed [] Tryz.func175 rfl rfl (by simp) fun b => ?_
  repeat' ((conv => whnf); first
    | (refine And.intro (fun h => ?_) (fun h => ?_); focus (exfalso; have h := eq_of_beq h; omega)))
  all_goals (try (conv => whnf))
  all_goals exact rfl
end Go.Proofs.YtcjkikadolnfgaaGreat


/- The reference: is a node right? -/
set_option linter.unusedSimpArgs false
set_option linter.unusedVariables false
namespace Go.Proofs.YtcjkikadolnfgaaGreat
open Go.Vx Go.Vc Go.RowKit
set_option maxRecDepth 20000 in
set_option maxHeartbeats 8000000 in
theorem fits_fn : ∀ m : MG, FnR Tryz.prog G0 139 [dM m] (.bool (shpM m)) := by
  rintro ⟨k, n, i, nm, ls, ts, ks⟩
  refine fnQ_sz fun hs0 => ?_
  have hls := (szOk_M hs0.1).2.2.2
  simp only [MG.ls, LB] at hls
  have hw : IntKind.i64.wrap ((ls.length : Int) + 1) = (ls.length : Int) + 1 := Go.Vc.wrap_small (by omega) (by omega)
  clear hs0 hls
  by_cases hk : k < 1 ∨ k > 25
  · clear hw
    refine fnQ_of_vc txok mixed [] Tryz.func139 rfl rfl (by simp) fun b => ?_
    repeat' ((conv => whnf); first
      | (refine And.intro (fun h => ?_) (fun h => ?_); rotate_left; focus (exfalso; revert h; simp [MG.k]; done))
      | (refine And.intro (fun h => ?_) (fun h => ?_); focus (exfalso; revert h; simp [MG.k]; done))
      | refine And.intro (fun h => ?_) (fun h => ?_)
      | refine callF (shape_no k hk) gf175 rfl rfl ?_
      | refine callF (orderedR_fn ls) gf104 rfl rfl ?_)
    all_goals (try (conv => whnf))
    all_goals refine congrArg D.bool ?_
    all_goals (rw [shpM_mk, if_pos hk])
  have hk : k = 1 ∨ k = 2 ∨ k = 3 ∨ k = 4 ∨ k = 5 ∨ k = 6 ∨ k = 7 ∨ k = 8 ∨ k = 9 ∨ k = 10 ∨ k = 11 ∨ k = 12 ∨ k = 13 ∨ k = 14 ∨ k = 15 ∨ k = 16 ∨ k = 17 ∨ k = 18 ∨ k = 19 ∨ k = 20 ∨ k = 21 ∨ k = 22 ∨ k = 23 ∨ k = 24 ∨ k = 25 := by omega
  have hS := shape_in k hk
  rcases hk with rfl | rfl | rfl | rfl | rfl | rfl | rfl | rfl | rfl | rfl | rfl | rfl | rfl | rfl | rfl | rfl | rfl | rfl | rfl | rfl | rfl | rfl | rfl | rfl | rfl
  all_goals
    refine fnQ_of_vc txok mixed [] Tryz.func139 rfl rfl (by simp) fun b => ?_
    repeat' ((conv => whnf); first
      | (refine And.intro (fun h => ?_) (fun h => ?_); rotate_left; focus (exfalso; revert h; simp [MG.k]; done))
      | (refine And.intro (fun h => ?_) (fun h => ?_); focus (exfalso; revert h; simp [MG.k]; done))
      | refine And.intro (fun h => ?_) (fun h => ?_)
      | refine callF hS gf175 rfl rfl ?_
      | refine callF (orderedR_fn ls) gf104 rfl rfl ?_)
    all_goals (try (conv => whnf))
    all_goals refine congrArg D.bool ?_
    all_goals (simp_all [shpM_mk, badM, endM, shpOf, shpTab, MG.k, MG.n, MG.i, MG.nm, MG.ls, MG.ts, MG.ks]; try first | omega | exact decide_eq_decide.2 Iff.rfl)
end Go.Proofs.YtcjkikadolnfgaaGreat


/- The reference: RightTerm. -/
set_option linter.unusedSimpArgs false
set_option linter.unusedVariables false
namespace Go.Proofs.YtcjkikadolnfgaaGreat
open Go.Vx Go.Vc Go.RowKit
theorem rrightTerm_fn : ∀ m : MG, FnR Tryz.prog G0 88 [dM m] (.bool (allM m)) := by
  refine MG.ind fun k n i nm ls ts ks ih => ?_
  refine fnQ_sz fun hs => ?_
  have hl := szOk_M hs.1
  simp only [MG.ks, MG.ts, LB] at hl
  have hF := fits_fn (.mk k n i nm ls ts ks)
  refine fnQ_of_vc txok mixed [] Tryz.func88 rfl rfl (by simp) fun b => ?_
  rw [allM]
  cases hsh : shpM (.mk k n i nm ls ts ks) with
  | false =>
    rw [hsh] at hF
    repeat' ((conv => whnf); first
      | (refine And.intro (fun h => ?_) (fun h => ?_); rotate_left; focus (exfalso; revert h; decide; done))
      | refine callF hF gf139 rfl rfl ?_)
    all_goals (try (conv => whnf))
    all_goals exact rfl
  | true =>
    rw [hsh] at hF
    simp only [Bool.true_and]
    repeat' ((conv => whnf); first
      | (refine And.intro (fun h => ?_) (fun h => ?_); focus (exfalso; revert h; decide; done))
      | refine callF hF gf139 rfl rfl ?_
      | refine loopH (fun j : Nat => j ≤ ts.length ∧ allGs ts = allGs (ts.drop j)) (fun j => ts.length - j) (fun j => [(3, .d (.int .i64 j))]) (fun _ => [(0, .blk 26 (mcS (.mk k n i nm ls ts ks)))]) 1 0 ⟨by omega, rfl⟩ (weak_of rfl (by repeat ((conv => whnf); first | exact trivial | refine And.intro rfl ?_ | refine And.intro (incD (by omega)) ?_)) (by repeat ((conv => whnf); first | exact trivial | refine And.intro rfl ?_ | refine And.intro (incD (by omega)) ?_))) ?_)
    all_goals
      rintro j ⟨hj, hx⟩
      (conv => whnf)
      refine And.intro (fun hb => ?_) (fun hb => ?_)
      · have hjl : j < ts.length := by have := of_decide_eq_true hb; simp only [MG.ts] at this; omega
        rw [List.drop_eq_getElem_cons hjl, allGs] at hx
        have hR := rightR_fn ts[j]
        rw [all_right] at hR
        cases ha : allG ts[j] with
        | false =>
          rw [ha] at hR hx
          rw [hx]
          repeat' ((conv => whnf); first
            | refine IdxC.encGs (l := ts) j hjl rfl ?_
            | (refine And.intro (fun h => ?_) (fun h => ?_); rotate_left; focus (exfalso; revert h; decide; done))
            | refine callF hR gf63 rfl rfl ?_)
          all_goals (try (conv => whnf))
          all_goals exact rfl
        | true =>
          rw [ha] at hR hx
          repeat' ((conv => whnf); first
            | refine IdxC.encGs (l := ts) j hjl rfl ?_
            | (refine And.intro (fun h => ?_) (fun h => ?_); focus (exfalso; revert h; decide; done))
            | refine callF hR gf63 rfl rfl ?_)
          all_goals (try (conv => whnf))
          all_goals
            rw [incD (by omega)]
            exact again (j + 1) (by omega) ⟨by omega, by rw [hx, Bool.true_and]⟩ (weak_of rfl (by repeat ((conv => whnf); first | exact trivial | refine And.intro rfl ?_ | refine And.intro (incD (by omega)) ?_)) (by repeat ((conv => whnf); first | exact trivial | refine And.intro rfl ?_ | refine And.intro (incD (by omega)) ?_)))
      · have hj0 : j = ts.length := by have := of_decide_eq_false hb; simp only [MG.ts] at this; omega
        subst hj0
        rw [List.drop_length] at hx
        rw [hx, show allGs [] = true from rfl, Bool.true_and]
        (conv => whnf)
        refine loopH (fun j : Nat => j ≤ ks.length ∧ allMs ks = allMs (ks.drop j)) (fun j => ks.length - j) (fun j => [(4, .d (.int .i64 j))]) (fun _ => [(0, .blk 26 (mcS (.mk k n i nm ls ts ks)))]) 1 0 ⟨by omega, rfl⟩ (weak_of rfl (by repeat ((conv => whnf); first | exact trivial | refine And.intro rfl ?_ | refine And.intro (incD (by omega)) ?_)) (by repeat ((conv => whnf); first | exact trivial | refine And.intro rfl ?_ | refine And.intro (incD (by omega)) ?_))) ?_
        rintro j ⟨hj, hx⟩
        (conv => whnf)
        refine And.intro (fun hb => ?_) (fun hb => ?_)
        · have hjl : j < ks.length := by have := of_decide_eq_true hb; simp only [MG.ks] at this; omega
          rw [List.drop_eq_getElem_cons hjl, allMs] at hx
          have hR := ih ks[j] (List.getElem_mem hjl)
          cases ha : allM ks[j] with
          | false =>
            rw [ha] at hR hx
            rw [hx]
            repeat' ((conv => whnf); first
              | refine IdxC.encMs (l := ks) j hjl rfl ?_
              | (refine And.intro (fun h => ?_) (fun h => ?_); rotate_left; focus (exfalso; revert h; decide; done))
              | refine callF hR gf88 rfl rfl ?_)
            all_goals (try (conv => whnf))
            all_goals exact rfl
          | true =>
            rw [ha] at hR hx
            repeat' ((conv => whnf); first
              | refine IdxC.encMs (l := ks) j hjl rfl ?_
              | (refine And.intro (fun h => ?_) (fun h => ?_); focus (exfalso; revert h; decide; done))
              | refine callF hR gf88 rfl rfl ?_)
            all_goals (try (conv => whnf))
            all_goals
              rw [incD (by omega)]
              exact again (j + 1) (by omega) ⟨by omega, by rw [hx, Bool.true_and]⟩ (weak_of rfl (by repeat ((conv => whnf); first | exact trivial | refine And.intro rfl ?_ | refine And.intro (incD (by omega)) ?_)) (by repeat ((conv => whnf); first | exact trivial | refine And.intro rfl ?_ | refine And.intro (incD (by omega)) ?_)))
        · have hj0 : j = ks.length := by have := of_decide_eq_false hb; simp only [MG.ks] at this; omega
          subst hj0
          rw [List.drop_length] at hx
          rw [hx]
          (conv => whnf)
          exact rfl
def deepM : Nat → MG → Bool
  | 0, _ => true
  | n + 1, m => m.ts.any (deepR n) || m.ks.any (deepM n)
theorem deepM_fn : ∀ (q : Nat) (m : MG), q ≤ 100000 → FnR Tryz.prog G0 87 [dM m, .int .i64 q] (.bool (deepM q m)) := by
  intro q
  induction q with
  | zero =>
    intro m _
    refine fnQ_of_vc txok mixed [] Tryz.func87 rfl rfl (by simp) fun b => ?_
    conv => whnf
    refine And.intro (fun h => ?_) (fun h => by simp at h)
    conv => whnf
    try exact rfl
  | succ q ihn =>
    intro m hq
    obtain ⟨k, n, i, nm, ls, ts, ks⟩ := m
    refine fnQ_sz fun hs => ?_
    have hl := szOk_M hs.1
    simp only [MG.ks, MG.ts, LB] at hl
    have hwq : IntKind.i64.wrap (((q + 1 : Nat) : Int) - 1) = (q : Int) := by
      rw [show ((q + 1 : Nat) : Int) - 1 = (q : Int) from by omega]; exact Go.Vc.wrap_small (by omega) (by omega)
    refine fnQ_of_vc txok mixed [] Tryz.func87 rfl rfl (by simp) fun b => ?_
    conv => whnf
    refine And.intro (fun h => by simp at h; omega) (fun h => ?_)
    rw [show deepM (q + 1) (.mk k n i nm ls ts ks) = (ts.any (deepR q) || ks.any (deepM q)) from rfl]
    conv => whnf
    refine loopH (fun j : Nat => j ≤ ts.length ∧ ts.any (deepR q) = (ts.drop j).any (deepR q)) (fun j => ts.length - j) (fun j => [(5, .d (.int .i64 j))]) (fun _ => [(0, .blk 26 (mcS (.mk k n i nm ls ts ks)))]) 1 0 ⟨by omega, rfl⟩ (weak_of rfl (by repeat ((conv => whnf); first | exact trivial | refine And.intro rfl ?_ | refine And.intro (incD (by omega)) ?_)) (by repeat ((conv => whnf); first | exact trivial | refine And.intro rfl ?_ | refine And.intro (incD (by omega)) ?_))) ?_
    rintro j ⟨hj, hx⟩
    (conv => whnf)
    refine And.intro (fun hb => ?_) (fun hb => ?_)
    · have hjl : j < ts.length := by have := of_decide_eq_true hb; simp only [MG.ts] at this; omega
      rw [List.drop_eq_getElem_cons hjl, List.any_cons] at hx
      have hR := deepR_fn q ts[j] (by omega)
      conv => whnf
      refine IdxC.encGs (l := ts) j hjl rfl ?_
      conv => whnf
      rw [hwq]
      refine callF hR gf62 rfl rfl ?_
      conv => whnf
      refine And.intro (fun h => ?_) (fun h => ?_)
      · conv => whnf
        rw [hx, h]; rfl
      · conv => whnf
        rw [incD (by omega)]
        exact again (j + 1) (by omega) ⟨by omega, by rw [hx, h, Bool.false_or]⟩ (weak_of rfl (by repeat ((conv => whnf); first | exact trivial | refine And.intro rfl ?_ | refine And.intro (incD (by omega)) ?_)) (by repeat ((conv => whnf); first | exact trivial | refine And.intro rfl ?_ | refine And.intro (incD (by omega)) ?_)))
    · have hj0 : j = ts.length := by have := of_decide_eq_false hb; simp only [MG.ts] at this; omega
      subst hj0
      rw [List.drop_length] at hx
      rw [hx, show List.any [] (deepR q) = false from rfl, Bool.false_or]
      (conv => whnf)
      refine loopH (fun j : Nat => j ≤ ks.length ∧ ks.any (deepM q) = (ks.drop j).any (deepM q)) (fun j => ks.length - j) (fun j => [(6, .d (.int .i64 j))]) (fun _ => [(0, .blk 26 (mcS (.mk k n i nm ls ts ks)))]) 1 0 ⟨by omega, rfl⟩ (weak_of rfl (by repeat ((conv => whnf); first | exact trivial | refine And.intro rfl ?_ | refine And.intro (incD (by omega)) ?_)) (by repeat ((conv => whnf); first | exact trivial | refine And.intro rfl ?_ | refine And.intro (incD (by omega)) ?_))) ?_
      rintro j ⟨hj, hx⟩
      (conv => whnf)
      refine And.intro (fun hb => ?_) (fun hb => ?_)
      · have hjl : j < ks.length := by have := of_decide_eq_true hb; simp only [MG.ks] at this; omega
        rw [List.drop_eq_getElem_cons hjl, List.any_cons] at hx
        have hR := ihn ks[j] (by omega)
        conv => whnf
        refine IdxC.encMs (l := ks) j hjl rfl ?_
        conv => whnf
        rw [hwq]
        refine callF hR gf87 rfl rfl ?_
        conv => whnf
        refine And.intro (fun h => ?_) (fun h => ?_)
        · conv => whnf
          rw [hx, h]; rfl
        · conv => whnf
          rw [incD (by omega)]
          exact again (j + 1) (by omega) ⟨by omega, by rw [hx, h, Bool.false_or]⟩ (weak_of rfl (by repeat ((conv => whnf); first | exact trivial | refine And.intro rfl ?_ | refine And.intro (incD (by omega)) ?_)) (by repeat ((conv => whnf); first | exact trivial | refine And.intro rfl ?_ | refine And.intro (incD (by omega)) ?_)))
      · have hj0 : j = ks.length := by have := of_decide_eq_false hb; simp only [MG.ks] at this; omega
        subst hj0
        rw [List.drop_length] at hx
        rw [hx]
        (conv => whnf)
        exact rfl
theorem depMs_any (n : Nat) : ∀ l : List MG, (l.any fun t => decide (depM t > n)) = decide (depMs l > n)
  | [] => by simp [depMs]
  | t :: r => by
    rw [List.any_cons, depMs_any n r, depMs]
    by_cases h1 : depM t > n <;> by_cases h2 : depMs r > n <;> simp [h1, h2] <;> omega
theorem deepM_dep : ∀ (n : Nat) (m : MG), deepM n m = decide (depM m > n) := by
  intro n
  induction n with
  | zero => rintro ⟨k, n, i, nm, ls, ts, ks⟩; rw [deepM, depM]; simp
  | succ n ih =>
    rintro ⟨k, n', i, nm, ls, ts, ks⟩
    rw [deepM, depM]
    have e1 : (ts.any (deepR n)) = decide (depGs ts > n) := by
      rw [← depGs_any]; congr 1; funext t; exact deepR_dep n t
    have e2 : (ks.any (deepM n)) = decide (depMs ks > n) := by
      rw [← depMs_any]; congr 1; funext t; exact ih t
    show (ts.any (deepR n) || ks.any (deepM n)) = _
    rw [e1, e2]
    by_cases h1 : depGs ts > n <;> by_cases h2 : depMs ks > n <;> simp [h1, h2] <;> omega
theorem rRightTerm_fn (m : MG) : FnR Tryz.prog G0 48 [dM m] (.int .i64 (rightM m)) := by
  have h1 := deepM_fn 100000 m (by omega)
  have h2 := rrightTerm_fn m
  rw [deepM_dep] at h1
  unfold rightM
  refine fnQ_of_vc txok mixed [] Tryz.func48 rfl rfl (by simp) fun b => ?_
  by_cases hd : depM m > 100000
  · rw [decide_eq_true hd] at h1
    rw [if_pos hd]
    repeat' ((conv => whnf); first
      | (refine And.intro (fun h => ?_) (fun h => ?_); rotate_left; focus (exfalso; revert h; decide; done))
      | refine callF h1 gf87 rfl rfl ?_)
    all_goals (try (conv => whnf))
    all_goals exact rfl
  · rw [decide_eq_false hd] at h1
    rw [if_neg hd]
    cases ha : allM m with
    | false =>
      rw [ha] at h2
      repeat' ((conv => whnf); first
        | (refine And.intro (fun h => ?_) (fun h => ?_); rotate_left; focus (exfalso; revert h; decide; done))
        | (refine And.intro (fun h => ?_) (fun h => ?_); focus (exfalso; revert h; decide; done))
        | refine callF h1 gf87 rfl rfl ?_
        | refine callF h2 gf88 rfl rfl ?_)
      all_goals (try (conv => whnf))
      all_goals exact rfl
    | true =>
      rw [ha] at h2
      repeat' ((conv => whnf); first
        | (refine And.intro (fun h => ?_) (fun h => ?_); rotate_left; focus (exfalso; revert h; decide; done))
        | (refine And.intro (fun h => ?_) (fun h => ?_); focus (exfalso; revert h; decide; done))
        | refine callF h1 gf87 rfl rfl ?_
        | refine callF h2 gf88 rfl rfl ?_)
      all_goals (try (conv => whnf))
      all_goals exact rfl
end Go.Proofs.YtcjkikadolnfgaaGreat


/- The reference: all. -/
set_option linter.unusedSimpArgs false
set_option linter.unusedVariables false
namespace Go.Proofs.YtcjkikadolnfgaaGreat
open Go.Vx Go.Vc Go.RowKit
def outL : Except Int (List TG) → D
  | .ok ts => .tup [dGs ts, .int .i64 0]
  | .error e => .tup [dGs [], .int .i64 e]
theorem rall_fn (vars : List Int) (l : List Bd) (ks : List MG) (cs : List Chk) (hcl : cs.length = ks.length) (hc : ∀ (j : Nat) (h : j < ks.length) (h' : j < cs.length), RKid ks[j] cs[j]) (hv : vars.length + szMs ks ≤ 549755813888) (hl : l.length + 2 * szMs ks ≤ 549755813888) (hz : szMs ks ≤ 1073741824) (hb : Bnd l) : FnR Tryz.prog G0 143 [dSc vars l, dMs ks] (outL (recK cs vars l)) := by
  have hks := szMs_len ks
  refine fnQ_of_vc txok mixed [(5, .take 0 (.pure 1 (.pure 2 (.pure 3 (.take 4 (.two 5 9 (.pure 6 (.pure 7 (.pure 8 (.run 9 (.fin 10 (.pure 11 .done)))))) (.fin 5 (.pure 6 (.pure 7 (.pure 8 (.fin 10 (.pure 11 .done))))))))))))] Tryz.func143 rfl rfl (by simp) fun b => ?_
  conv => whnf
  refine loopH (fun z : Nat × List TG => z.1 ≤ ks.length ∧ recK cs vars l = mapE z.2 (recK (cs.drop z.1) vars l) ∧ z.2.length = z.1) (fun z => ks.length - z.1) (fun z => [(7, .d (.int .i64 z.1)), (6, .row 1)])
    (fun z => [(0, .blk 75 [.d (dI vars), .d (dBs l)]), (1, .row 28 64 4 z.2.length (encGs z.2))]) 2 (0, []) ⟨by simp, by rw [mapE_nil]; rfl, rfl⟩ ((weak_nlT 6 28 64 4 rfl).trans (weak_of rfl (by repeat ((conv => whnf); first | exact trivial | refine And.intro rfl ?_ | refine And.intro (incD (by omega)) ?_)) (by repeat ((conv => whnf); first | exact trivial | refine And.intro rfl ?_ | refine And.intro (incD (by omega)) ?_)))) ?_
  rintro ⟨i, acc⟩ ⟨hi, hx, hal⟩
  simp only at hi hx hal
  conv => whnf
  refine And.intro (fun hb' => ?_) (fun hb' => ?_)
  · have hil : i < ks.length := by have := of_decide_eq_true hb'; omega
    have hic : i < cs.length := by omega
    rw [List.drop_eq_getElem_cons hic, recK] at hx
    have hsz := szM_mem (List.getElem_mem hil)
    obtain ⟨hK0, hG0, hE0⟩ := hc i hil hic vars l (by omega) (by omega) hb
    cases hr : cs[i] vars l with
    | error e =>
      have he := hE0 e hr
      rw [hr] at hK0 hx
      have hx : recK cs vars l = .error e := hx
      rw [hx]
      repeat' ((conv => whnf); first
        | refine IdxC.encMs (l := ks) i hil rfl ?_
        | refine And.intro (by kernel_rfl) ?_
        | (refine And.intro (fun h => ?_) (fun h => ?_); rotate_left; focus (exfalso; revert h; simp [he]; done))
        | (refine And.intro (fun h => ?_) (fun h => ?_); focus (exfalso; revert h; simp [he]; done))
        | refine And.intro ?_ ?_
        | refine callF hK0 gf50 rfl rfl ?_)
      all_goals (try (conv => whnf))
      all_goals exact rfl
    | ok t =>
      rw [hr] at hK0 hx
      rw [mapE_cons] at hx
      obtain ⟨k1, n1, l1, m1⟩ := t
      repeat' ((conv => whnf); first
        | refine IdxC.encMs (l := ks) i hil rfl ?_
        | refine And.intro (by kernel_rfl) ?_
        | (refine And.intro (fun h => ?_) (fun h => ?_); rotate_left; focus (exfalso; revert h; decide; done))
        | (refine And.intro (fun h => ?_) (fun h => ?_); focus (exfalso; revert h; decide; done))
        | refine And.intro ?_ ?_
        | refine callF hK0 gf50 rfl rfl ?_
        | refine appR (i := 1) (sz := 4) (n := acc.length) (m := 1) (xs := encGs acc) (ys := encGs [TG.mk k1 n1 l1 m1]) txok (fun k => Nat.ble 2 k) (acc ++ [TG.mk k1 n1 l1 m1]).length (encGs (acc ++ [TG.mk k1 n1 l1 m1])) (by exact rfl) (by exact rfl) (by exact rfl) (by kernel_rfl) (by exact rfl) (encGs_scal _) (by simp) (by rw [encGs_app]) (by simp only [LB, List.length_append, List.length_cons, List.length_nil]; omega) ?_)
      all_goals (try (conv => whnf))
      all_goals
        rw [incD (by omega)]
        exact again (i + 1, acc ++ [TG.mk k1 n1 l1 m1]) (by simp; omega) ⟨by simp; omega, hx, by simp; omega⟩ (weak_of rfl (by repeat ((conv => whnf); first | exact trivial | refine And.intro rfl ?_ | refine And.intro (incD (by omega)) ?_)) (by repeat ((conv => whnf); first | exact trivial | refine And.intro rfl ?_ | refine And.intro (incD (by omega)) ?_)))
  · have hi : i = ks.length := by have := of_decide_eq_false hb'; omega
    subst hi
    rw [List.drop_eq_nil_of_le (by omega)] at hx
    have hr : recK cs vars l = .ok acc := by rw [hx]; simp [recK, mapE]
    rw [hr]
    conv => whnf
    try exact rfl
theorem recK_err (vars : List Int) (l : List Bd) : ∀ (ks : List MG) (cs : List Chk), cs.length = ks.length → (∀ (j : Nat) (h : j < ks.length) (h' : j < cs.length), RKid ks[j] cs[j]) → vars.length + szMs ks ≤ 549755813888 → l.length + 2 * szMs ks ≤ 549755813888 → Bnd l → (∀ e, recK cs vars l = .error e → e ≠ 0) ∧ ∀ ts, recK cs vars l = .ok ts → ts.length = ks.length ∧ (∀ t ∈ ts, allG t = true ∧ szG t ≤ 1048576) ∧ szGs ts ≤ 1048576 * ks.length
  | [], [], _, _, _, _, _ => ⟨nofun, fun ts h => by injection h with h; subst h; exact ⟨rfl, nofun, by simp [szGs]⟩⟩
  | [], _ :: _, h, _, _, _, _ => by simp at h
  | _ :: _, [], h, _, _, _, _ => by simp at h
  | m :: ks, c :: cs, hl, hc, hv, hz, hb => by
    simp only [szMs] at hv hz
    obtain ⟨-, h1, h2⟩ := hc 0 (by simp) (by simp) vars l (by simp; omega) (by simp; omega) hb
    simp only [List.getElem_cons_zero] at h1 h2
    obtain ⟨q1, q2⟩ := recK_err vars l ks cs (by simpa using hl) (fun j h h' => hc (j + 1) (by simpa using h) (by simpa using h')) (by omega) (by omega) hb
    rw [recK]
    cases hr : c vars l with
    | error e => exact ⟨fun e' h => by injection h with h; subst h; exact h2 e hr, nofun⟩
    | ok t =>
      obtain ⟨ha, hs⟩ := h1 t hr
      cases hq : recK cs vars l with
      | error e => exact ⟨fun e' h => by injection h with h; subst h; exact q1 e hq, nofun⟩
      | ok us =>
        refine ⟨nofun, fun ts h => ?_⟩
        injection h with h; subst h
        obtain ⟨q3, q4, q5⟩ := q2 us hq
        refine ⟨by simp [q3], fun u hu => ?_, by simp only [szGs, List.length_cons]; omega⟩
        rcases List.mem_cons.1 hu with rfl | hu
        · exact ⟨ha, hs⟩
        · exact q4 u hu
end Go.Proofs.YtcjkikadolnfgaaGreat


