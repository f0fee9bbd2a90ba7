/- Texts of mine, joined: Cc Dd De Df Dg Dh Di Dj Dk Dl Dm Dn Do. -/
import Derived.Test.YtcjkikadolnfgaaGreatPau
/- Terms that are one up to the names that they bind have one type, whichever way types are put in. -/
set_option linter.unusedSimpArgs false
set_option linter.unusedVariables false
namespace Go.Proofs.YtcjkikadolnfgaaGreat
def WayOk (P : Putt) : Prop := ∀ (u : TG) (n : Int) (y : TG), allG u = true → allG y = true → ∃ w, PutIs w u n y ∧ P u n y = if szG u + cntG n u * (szG y - 1) ≤ 1048576 then .ok w else .error 3
theorem rputR_ok : WayOk rputR := fun u n y hu hy => ⟨_, rputF_is n hu hy, rfl⟩
theorem RelR.put {P' : Putt} (hP : WayOk P') {s t : List Int} {u u' y y' : TG} {n n' : Int} (hu : RelT (s ++ [n]) (t ++ [n']) u u') (hy : RelT s t y y') : RelR s t (putR u n y) (P' u' n' y') := by
  obtain ⟨w, hw, e⟩ := hP u' n' y' hu.lb hy.lb
  have hst : s.length = t.length := hy.len
  rw [e]
  unfold putR
  rw [hu.sz, hy.sz, sam_cnt hst (allG_okV hu.la) (allG_okV hu.lb) hu.sam]
  split
  · have := put_rel hu hy hw
    rw [hu.sz] at this
    exact this
  · exact rfl
theorem len2 {α : Type} {l : List α} (h : l.length = 2) : ∃ a b, l = [a, b] := by
  match l, h with
  | [a, b], _ => exact ⟨a, b, rfl⟩
theorem len3 {α : Type} {l : List α} (h : l.length = 3) : ∃ a b c, l = [a, b, c] := by
  match l, h with
  | [a, b, c], _ => exact ⟨a, b, c, rfl⟩
theorem shp_len {k n i : Int} {nm : ByteArray} {ls : List ByteArray} {ts : List TG} {ks : List MG} (h : badM (shpOf k) (.mk k n i nm ls ts ks) = false) : (ts.length : Int) = (shpOf k).ts ∧ ((shpOf k).ks ≥ 0 → (ks.length : Int) = (shpOf k).ks) := by
  unfold badM at h
  simp only [Bool.or_eq_false_iff, Bool.and_eq_false_imp, bne_eq_false_iff_eq, decide_eq_true_eq] at h
  exact ⟨h.1.2, h.2⟩
theorem relT_var {s t : List Int} {n n' : Int} (hst : s.length = t.length) : RelT (s ++ [n]) (t ++ [n']) (varG n) (varG n') := by
  refine ⟨(sam_iff ..).2 ⟨rfl, rfl, rfl, fun _ => ⟨by rw [lastI_end, lastI_end, hst], fun h => by rw [lastI_end] at h; omega, rfl⟩, fun h => (by cases h), fun h => absurd rfl h⟩, by simp [hst], allG_var _, allG_var _, fun z hz => ?_⟩
  rw [(fv_var n z).1 hz]; simp
theorem relT_int {s t : List Int} {k : Int} (hst : s.length = t.length) (hk : k = 1 ∨ k = 2 ∨ k = 3) : RelT s t (.mk k 0 [] []) (.mk k 0 [] []) :=
  relT_mk hst (by rcases hk with rfl | rfl | rfl <;> rfl) (by omega) (by rcases hk with rfl | rfl | rfl <;> rfl) rfl fun j hj => by simp at hj
theorem relT_two {s t : List Int} {k : Int} {a b a' b' : TG} (hk : k = 4 ∨ k = 5) (ha : RelT s t a a') (hb : RelT s t b b') : RelT s t (.mk k 0 [] [a, b]) (.mk k 0 [] [a', b']) :=
  relT_mk ha.len (by rcases hk with rfl | rfl <;> rfl) (by omega) (by rcases hk with rfl | rfl <;> rfl) rfl fun j hj hj' => by
    match j, hj with
    | 0, _ => exact ha
    | 1, _ => exact hb
theorem RelT.k {s t : List Int} {a b : TG} (h : RelT s t a b) : a.k = b.k := by
  obtain ⟨k, n, ls, l⟩ := a
  obtain ⟨k', n', ls', l'⟩ := b
  exact h.kids.1
theorem RelT.ask2 {s t s' t' : List Int} {a b : TG} {r r' : Except Int TG} {k : Int} (hk : k = 4 ∨ k = 5) (h : RelT s t a b) (hr : RelT s t (kidG a 0) (kidG b 0) → RelT s t (kidG a 1) (kidG b 1) → RelR s' t' r r') : RelR s' t' (askE (a.k == k) r) (askE (b.k == k) r') := by
  refine RelR.ask (by rw [h.k]) fun e => ?_
  obtain ⟨ka, n, ls, l⟩ := a
  have e : ka = k := by simpa [g_k] using e
  subst e
  obtain ⟨rfl, rfl, a1, a2, b1, b2, rfl, rfl, h1, h2⟩ := h.two hk
  exact hr h1 h2
theorem RelT.ask1 {s t s' t' : List Int} {a b : TG} {r r' : Except Int TG} {k : Int} (hk : k = 9 ∨ k = 10 ∨ k = 11) (h : RelT s t a b) (hr : RelT (s ++ [a.n]) (t ++ [b.n]) (kidG a 0) (kidG b 0) → RelR s' t' r r') : RelR s' t' (askE (a.k == k) r) (askE (b.k == k) r') := by
  refine RelR.ask (by rw [h.k]) fun e => ?_
  obtain ⟨ka, n, ls, l⟩ := a
  have e : ka = k := by simpa [g_k] using e
  subst e
  obtain ⟨rfl, u, n', u', rfl, rfl, h1⟩ := h.bnd hk
  exact hr h1
def RelK (s t : List Int) : Except Int (List TG) → Except Int (List TG) → Prop
  | .ok l, .ok l' => l.length = l'.length ∧ ∀ (j : Nat) (hj : j < l.length) (hj' : j < l'.length), RelT s t l[j] l'[j]
  | .error e, .error f => e = f
  | _, _ => False
theorem RelK.cons {s t : List Int} {r r' : Except Int TG} {q q' : Except Int (List TG)} (h : RelR s t r r') (h' : RelK s t q q') : RelK s t (consE r q) (consE r' q') := by
  cases r <;> cases r' <;> first | exact h.elim | exact h | skip
  cases q <;> cases q' <;> first | exact h'.elim | exact h' | skip
  refine ⟨by simp [h'.1], fun j hj hj' => ?_⟩
  cases j with
  | zero => exact h
  | succ j => exact h'.2 j (by simpa using hj) (by simpa using hj')
theorem recK_rel {s t : List Int} {l l' : List Bd} : ∀ (cs cs' : List Chk), cs.length = cs'.length → (∀ (j : Nat) (hj : j < cs.length) (hj' : j < cs'.length), RelR s t (cs[j] s l) (cs'[j] t l')) → RelK s t (recK cs s l) (recK cs' t l')
  | [], [], _, _ => ⟨rfl, fun j hj => by simp at hj⟩
  | [], _ :: _, h, _ => by simp at h
  | _ :: _, [], h, _ => by simp at h
  | c :: r, c' :: r', h, hh => RelK.cons (hh 0 (by simp) (by simp)) (recK_rel r r' (by simpa using h) fun j hj hj' => hh (j + 1) (by simpa using hj) (by simpa using hj'))
theorem casK_rel {s t : List Int} {l l' : List Bd} : ∀ (ls ls' : List ByteArray) (ts ts' : List TG) (cs cs' : List Chk), ls.length = ls'.length → ts.length = ts'.length → cs.length = cs'.length → (∀ (j : Nat) (hj : j < ts.length) (hj' : j < ts'.length), RelT s t ts[j] ts'[j]) →
    (∀ (j : Nat) (hj : j < cs.length) (hj' : j < cs'.length) (hl : j < ls.length) (hl' : j < ls'.length) (a b : TG), RelT s t a b → RelR s t (cs[j] s (l ++ [(ls[j], a)])) (cs'[j] t (l' ++ [(ls'[j], b)]))) → RelK s t (casK ls ts cs s l) (casK ls' ts' cs' t l')
  | nm :: ls, nm' :: ls', a :: ts, a' :: ts', c :: cs, c' :: cs', h1, h2, h3, h4, h5 =>
    RelK.cons (h5 0 (by simp) (by simp) (by simp) (by simp) _ _ (h4 0 (by simp) (by simp))) (casK_rel ls ls' ts ts' cs cs' (by simpa using h1) (by simpa using h2) (by simpa using h3) (fun j hj hj' => h4 (j + 1) (by simpa using hj) (by simpa using hj')) fun j hj hj' hl hl' => h5 (j + 1) (by simpa using hj) (by simpa using hj') (by simpa using hl) (by simpa using hl'))
  | [], [], ts, ts', cs, cs', _, _, _, _, _ => by cases ts <;> cases cs <;> cases ts' <;> cases cs' <;> exact ⟨rfl, fun j hj => by simp at hj⟩
  | _ :: _, _ :: _, [], [], cs, cs', _, _, _, _, _ => by cases cs <;> cases cs' <;> exact ⟨rfl, fun j hj => by simp at hj⟩
  | _ :: _, _ :: _, _ :: _, _ :: _, [], [], _, _, _, _, _ => ⟨rfl, fun j hj => by simp at hj⟩
  | [], _ :: _, _, _, _, _, h, _, _, _, _ => by simp at h
  | _ :: _, [], _, _, _, _, h, _, _, _, _ => by simp at h
  | _ :: _, _ :: _, [], _ :: _, _, _, _, h, _, _, _ => by simp at h
  | _ :: _, _ :: _, _ :: _, [], _, _, _, h, _, _, _ => by simp at h
  | _ :: _, _ :: _, _ :: _, _ :: _, [], _ :: _, _, _, h, _, _ => by simp at h
  | _ :: _, _ :: _, _ :: _, _ :: _, _ :: _, [], _, _, h, _, _ => by simp at h
theorem allSame_rel {s t : List Int} {l l' : List TG} (h : l.length = l'.length) (hh : ∀ (j : Nat) (hj : j < l.length) (hj' : j < l'.length), RelT s t l[j] l'[j]) : allSame l = allSame l' := by
  unfold allSame
  match l, l', h with
  | [], [], _ => rfl
  | a :: r, b :: r', h =>
    have h0 : RelT s t a b := hh 0 (by simp) (by simp)
    have key : ∀ (m m' : List TG), m.length = m'.length → (∀ (j : Nat) (hj : j < m.length) (hj' : j < m'.length), RelT s t m[j] m'[j]) → (m.all fun x => samG x a [] []) = m'.all fun x => samG x b [] [] := by
      intro m
      induction m with
      | nil => intro m' hm _; cases m' with
        | nil => rfl
        | cons => simp at hm
      | cons u r ih =>
        intro m' hm hh
        cases m' with
        | nil => simp at hm
        | cons v r' =>
          have e0 : samG u a [] [] = samG v b [] [] := RelT.cmp (s := s) (t := t) (hh 0 (by simp) (by simp)) h0
          rw [List.all_cons, List.all_cons, e0, ih r' (by simpa using hm) fun j hj hj' => hh (j + 1) (by simpa using hj) (by simpa using hj')]
    exact key _ _ h hh
theorem sam0 {a a' : TG} {r r' : List TG} {s t : List Int} (h : samGs (a :: r) (a' :: r') s t = true) : samG a a' s t = true ∧ samGs r r' s t = true := by
  rw [samGs, Bool.and_eq_true] at h; exact h
set_option maxRecDepth 20000 in
theorem sim {P' : Putt} (hP : WayOk P') : ∀ (m m' : MG) (s t : List Int) (x y : List ByteArray) (l l' : List Bd), samM m m' s x t y = true → Agr m m' s t → allM m = true → allM m' = true → l.map (·.1) = x → l'.map (·.1) = y → RelL s t l l' → s.length = t.length → RelR s t (chk putR m s l) (chk P' m' t l') := by
  refine MG.ind fun k n i nm ls ts ks ih m' s t x y l l' hm hA ha ha' hx hy hl hst => ?_
  obtain ⟨k', n', i', nm', ls', ts', ks'⟩ := m'
  rw [samM_mk, Bool.and_eq_true] at hm
  obtain ⟨hn, hs⟩ := hm
  unfold nodM at hn
  simp only [Bool.and_eq_true, decide_eq_true_eq] at hn
  obtain ⟨⟨⟨⟨⟨⟨⟨⟨rfl, rfl⟩, hc⟩, hts⟩, hls⟩, hnn⟩, hll⟩, hnm⟩, hty⟩ := hn
  obtain ⟨h1, h25, hbad, hend, hta, hka⟩ := shp_all ha
  obtain ⟨-, -, hbad', hend', hta', hka'⟩ := shp_all ha'
  obtain ⟨hT, hK⟩ := shp_len hbad
  rw [chk_mk, chk_mk, chks_map, chks_map]
  refine RelR.fit ?_
  have K : ∀ (j : Nat) (hj : j < ks.length) (hj' : j < ks'.length) (s' t' : List Int) (L L' : List Bd), inV k n j s = s' → inV k n' j t = t' → L.map (·.1) = inX k nm ls j x → L'.map (·.1) = inX k nm' ls' j y → RelL s' t' L L' → RelR s' t' (chk putR ks[j] s' L) (chk P' ks'[j] t' L') := by
    rintro j hj hj' _ _ L L' rfl rfl hL hL' hLL
    refine ih ks[j] (List.getElem_mem hj) ks'[j] _ _ _ _ L L' ?_ (hA.kid j hj hj').1 (hka _ (List.getElem_mem hj)) (hka' _ (List.getElem_mem hj')) hL hL' hLL (by unfold inV; split <;> simp [hst])
    have := samMs_at ks ks' 0 hs j hj hj'
    rw [Nat.zero_add] at this
    exact this
  have B : ∀ j, j < ks.length → (k = 20 ∨ k = 23 ∧ j = 1) → (n ∈ s ↔ n' ∈ t) := fun j hj => (hA.kid j hj (hc ▸ hj)).2
  have hk : k = 1 ∨ k = 2 ∨ k = 3 ∨ k = 4 ∨ k = 5 ∨ k = 6 ∨ k = 7 ∨ k = 8 ∨ k = 9 ∨ k = 10 ∨ k = 11 ∨ k = 12 ∨ k = 13 ∨ k = 14 ∨ k = 15 ∨ k = 16 ∨ k = 17 ∨ k = 18 ∨ k = 19 ∨ k = 20 ∨ k = 21 ∨ k = 22 ∨ k = 23 ∨ k = 24 ∨ k = 25 := by omega
  have one : ∀ {α : Type} {q : List α}, (q.length : Int) = 1 → ∃ a, q = [a] := fun h => List.length_eq_one_iff.1 (by omega)
  have two : ∀ {α : Type} {q : List α}, (q.length : Int) = 2 → ∃ a b, q = [a, b] := fun h => len2 (by omega)
  rcases hk with rfl | rfl | rfl | rfl | rfl | rfl | rfl | rfl | rfl | rfl | rfl | rfl | rfl | rfl | rfl | rfl | rfl | rfl | rfl | rfl | rfl | rfl | rfl | rfl | rfl
  · exact relT_int hst (.inl rfl)
  · exact relT_int hst (.inr (.inl rfl))
  · exact relT_int hst (.inr (.inr rfl))
  · show RelR s t (lookR l nm) (lookR l' nm')
    rw [if_pos rfl, Bool.and_eq_true, decide_eq_true_eq] at hnm
    exact hl.look (by rw [hx, hy]; exact hnm.1)
  · obtain ⟨a, rfl⟩ := one hT
    obtain ⟨a', rfl⟩ := one (hts ▸ hT : (ts'.length : Int) = 1)
    obtain ⟨u, rfl⟩ := one (hK (by decide))
    obtain ⟨u', rfl⟩ := one (hc ▸ hK (by decide) : (ks'.length : Int) = 1)
    show RelR s t (lamR nm a (chk putR u) s l) (lamR nm' a' (chk P' u') t l')
    refine RelR.here (sam0 hty).1 hst (hta a (by simp)) (hta' a' (by simp)) fun hab => ?_
    refine RelR.bE (K 0 (by simp) (by simp) s t _ _ rfl rfl (by simp [inX, hx]) (by simp [inX, hy]) (hl.snoc hab nm nm')) fun v v' hv => ?_
    exact relT_two (.inl rfl) hab hv
  · obtain ⟨u, v, rfl⟩ := two (hK (by decide))
    obtain ⟨u', v', rfl⟩ := two (hc ▸ hK (by decide) : (ks'.length : Int) = 2)
    show RelR s t (appRl (chk putR u) (chk putR v) s l) (appRl (chk P' u') (chk P' v') t l')
    refine RelR.bE (K 0 (by simp) (by simp) s t _ _ rfl rfl (by simp [inX, hx]) (by simp [inX, hy]) hl) fun f f' hf => ?_
    refine RelR.bE (K 1 (by simp) (by simp) s t _ _ rfl rfl (by simp [inX, hx]) (by simp [inX, hy]) hl) fun w w' hw => ?_
    refine hf.ask2 (.inl rfl) fun h0 h1 => ?_
    exact RelR.ask (h0.cmp hw) fun _ => h1
  · obtain ⟨a, b, rfl⟩ := two hT
    obtain ⟨a', b', rfl⟩ := two (hts ▸ hT : (ts'.length : Int) = 2)
    obtain ⟨u, rfl⟩ := one (hK (by decide))
    obtain ⟨u', rfl⟩ := one (hc ▸ hK (by decide) : (ks'.length : Int) = 1)
    have hlb : (ls.length : Int) = 1 := by
      unfold endM at hend
      rw [if_neg (by decide), if_neg (by decide)] at hend
      split at hend
      · cases hend
      · rename_i h; simpa [shpOf, shpTab, MG.ls] using h
    obtain ⟨lb, rfl⟩ := one hlb
    obtain ⟨lb', rfl⟩ := one (hls ▸ hlb : (ls'.length : Int) = 1)
    show RelR s t (fixR nm lb a b (chk putR u) s l) (fixR nm' lb' a' b' (chk P' u') t l')
    refine RelR.here (sam0 hty).1 hst (hta a (by simp)) (hta' a' (by simp)) fun haa => ?_
    refine RelR.here (sam0 (sam0 hty).2).1 hst (hta b (by simp)) (hta' b' (by simp)) fun hbb => ?_
    refine RelR.bE (RelR.fitR (relT_two (.inl rfl) haa hbb)) fun f f' hf => ?_
    refine RelR.bE (K 0 (by simp) (by simp) s t _ _ rfl rfl (by simp [inX, hx]) (by simp [inX, hy]) ((hl.snoc hf nm nm').snoc haa lb lb')) fun v v' hv => ?_
    exact RelR.ask (hv.cmp hbb) fun _ => hf
  · obtain ⟨u, v, rfl⟩ := two (hK (by decide))
    obtain ⟨u', v', rfl⟩ := two (hc ▸ hK (by decide) : (ks'.length : Int) = 2)
    show RelR s t (letR nm (chk putR u) (chk putR v) s l) (letR nm' (chk P' u') (chk P' v') t l')
    refine RelR.bE (K 0 (by simp) (by simp) s t _ _ rfl rfl (by simp [inX, hx]) (by simp [inX, hy]) hl) fun f f' hf => ?_
    exact K 1 (by simp) (by simp) s t _ _ rfl rfl (by simp [inX, hx]) (by simp [inX, hy]) (hl.snoc hf nm nm')
  · obtain ⟨u, v, rfl⟩ := two (hK (by decide))
    obtain ⟨u', v', rfl⟩ := two (hc ▸ hK (by decide) : (ks'.length : Int) = 2)
    show RelR s t (pairR (chk putR u) (chk putR v) s l) (pairR (chk P' u') (chk P' v') t l')
    refine RelR.bE (K 0 (by simp) (by simp) s t _ _ rfl rfl (by simp [inX, hx]) (by simp [inX, hy]) hl) fun f f' hf => ?_
    refine RelR.bE (K 1 (by simp) (by simp) s t _ _ rfl rfl (by simp [inX, hx]) (by simp [inX, hy]) hl) fun w w' hw => ?_
    exact relT_two (.inr rfl) hf hw
  · obtain ⟨u, rfl⟩ := one (hK (by decide))
    obtain ⟨u', rfl⟩ := one (hc ▸ hK (by decide) : (ks'.length : Int) = 1)
    show RelR s t (halfR 0 (chk putR u) s l) (halfR 0 (chk P' u') t l')
    refine RelR.bE (K 0 (by simp) (by simp) s t _ _ rfl rfl (by simp [inX, hx]) (by simp [inX, hy]) hl) fun f f' hf => ?_
    exact hf.ask2 (.inr rfl) fun h0 h1 => h0
  · obtain ⟨u, rfl⟩ := one (hK (by decide))
    obtain ⟨u', rfl⟩ := one (hc ▸ hK (by decide) : (ks'.length : Int) = 1)
    show RelR s t (halfR 1 (chk putR u) s l) (halfR 1 (chk P' u') t l')
    refine RelR.bE (K 0 (by simp) (by simp) s t _ _ rfl rfl (by simp [inX, hx]) (by simp [inX, hy]) hl) fun f f' hf => ?_
    exact hf.ask2 (.inr rfl) fun h0 h1 => h1
  · obtain ⟨u, v, w, rfl⟩ := len3 (by have := hK (by decide); exact Int.ofNat.inj this : ks.length = 3)
    obtain ⟨u', v', w', rfl⟩ := len3 (by rw [← hc]; rfl : ks'.length = 3)
    show RelR s t (chooseR (chk putR u) (chk putR v) (chk putR w) s l) (chooseR (chk P' u') (chk P' v') (chk P' w') t l')
    refine RelR.bE (K 0 (by simp) (by simp) s t _ _ rfl rfl (by simp [inX, hx]) (by simp [inX, hy]) hl) fun f f' hf => ?_
    refine RelR.bE (K 1 (by simp) (by simp) s t _ _ rfl rfl (by simp [inX, hx]) (by simp [inX, hy]) hl) fun a a' ha => ?_
    refine RelR.bE (K 2 (by simp) (by simp) s t _ _ rfl rfl (by simp [inX, hx]) (by simp [inX, hy]) hl) fun b b' hb => ?_
    exact RelR.ask (by rw [hf.k]) fun _ => RelR.ask (ha.cmp hb) fun _ => ha
  · obtain ⟨u, v, rfl⟩ := two (hK (by decide))
    obtain ⟨u', v', rfl⟩ := two (hc ▸ hK (by decide) : (ks'.length : Int) = 2)
    have hnn : n = n' := by simpa [bndV] using hnn
    subst hnn
    show RelR s t (binR n (chk putR u) (chk putR v) s l) (binR n (chk P' u') (chk P' v') t l')
    refine RelR.bE (K 0 (by simp) (by simp) s t _ _ rfl rfl (by simp [inX, hx]) (by simp [inX, hy]) hl) fun f f' hf => ?_
    refine RelR.bE (K 1 (by simp) (by simp) s t _ _ rfl rfl (by simp [inX, hx]) (by simp [inX, hy]) hl) fun w w' hw => ?_
    refine RelR.ask (by rw [hf.k, hw.k]) fun _ => ?_
    split
    · exact relT_int hst (.inr (.inl rfl))
    · exact relT_int hst (.inl rfl)
  · have hll : ls = ls' := by simpa [bndL] using hll
    subst hll
    have hsh : ls.length = ks.length ∧ ordS ls = true := by
      unfold endM at hend
      rw [if_pos (by decide), Bool.and_eq_true, beq_iff_eq] at hend
      exact ⟨Int.ofNat.inj hend.1, hend.2⟩
    have h := recK_rel (s := s) (t := t) (l := l) (l' := l') (ks.map (chk putR)) (ks'.map (chk P')) (by simp [hc]) fun j hj hj' => by
      simp only [List.getElem_map]
      exact K j (by simpa using hj) (by simpa using hj') s t _ _ rfl rfl (by simp [inX, hx]) (by simp [inX, hy]) hl
    show RelR s t (recR ls (ks.map (chk putR)) s l) (recR ls (ks'.map (chk P')) t l')
    unfold recR
    have hlen : ∀ us, recK (ks.map (chk putR)) s l = .ok us → us.length = ks.length := by
      have : ∀ (cs : List Chk) us, recK cs s l = .ok us → us.length = cs.length := by
        intro cs
        induction cs with
        | nil => intro us h; injection h with h; subst h; rfl
        | cons c r ih =>
          intro us h
          rw [recK] at h
          unfold consE at h
          split at h
          · cases h
          · split at h
            · cases h
            · rename_i q hq
              injection h with h; subst h
              simp [ih q hq]
      intro us h
      simpa using this _ us h
    generalize recK (ks.map (chk putR)) s l = q at h hlen ⊢
    generalize recK (ks'.map (chk P')) t l' = q' at h ⊢
    cases q <;> cases q' <;> first | exact h.elim | exact h | skip
    rename_i us us'
    refine relT_mk hst rfl (by decide) ?_ h.1 h.2
    rw [shpG_mk, if_neg (by decide), if_neg (by decide), if_neg (by decide), if_pos (by decide), hsh.2, hlen us rfl, hsh.1]
    simp
  · obtain ⟨u, rfl⟩ := one (hK (by decide))
    obtain ⟨u', rfl⟩ := one (hc ▸ hK (by decide) : (ks'.length : Int) = 1)
    have hnm : nm = nm' := by simpa [bndN] using hnm
    subst hnm
    show RelR s t (selR nm (chk putR u) s l) (selR nm (chk P' u') t l')
    refine RelR.bE (K 0 (by simp) (by simp) s t _ _ rfl rfl (by simp [inX, hx]) (by simp [inX, hy]) hl) fun f f' hf => ?_
    refine RelR.ask (by rw [hf.k]) fun e => ?_
    obtain ⟨kf, nf, lsf, lf⟩ := f
    have e : kf = 7 := by simpa [g_k] using e
    subst e
    obtain ⟨k', nf', lsf', lf'⟩ := f'
    obtain ⟨rfl, rfl, hfl, hno, -⟩ := hf.kids
    obtain ⟨-, hr⟩ := hno rfl (by decide)
    show RelR s t (match idxB lsf nm with | none => .error 30 | some j => .ok (kidG (.mk 7 nf lsf lf) j)) (match idxB lsf nm with | none => .error 30 | some j => .ok (kidG (.mk 7 nf' lsf lf') j))
    cases hj : idxB lsf nm with
    | none => exact rfl
    | some j =>
      have hshp := ((allG_mk ..).1 hf.la).1
      rw [shpG_mk, if_neg (by decide), if_neg (by decide), if_neg (by decide), if_pos (by decide)] at hshp
      simp only [Bool.and_eq_true, beq_iff_eq] at hshp
      have hjl : j < lf.length := by
        unfold idxB at hj
        have := (List.findIdx?_eq_some_iff_getElem.1 hj).1
        omega
      have e1 : kidG (.mk 7 nf lsf lf) j = lf[j] := by simp only [kidG, g_kids]; rw [List.getD_eq_getElem?_getD, List.getElem?_eq_getElem hjl]; rfl
      have e2 : kidG (.mk 7 nf' lsf lf') j = lf'[j]'(hfl ▸ hjl) := by simp only [kidG, g_kids]; rw [List.getD_eq_getElem?_getD, List.getElem?_eq_getElem (hfl ▸ hjl)]; rfl
      show RelT s t (kidG (.mk 7 nf lsf lf) j) (kidG (.mk 7 nf' lsf lf') j)
      rw [e1, e2]
      exact hr j hjl (hfl ▸ hjl)
  · obtain ⟨a, rfl⟩ := one hT
    obtain ⟨a', rfl⟩ := one (hts ▸ hT : (ts'.length : Int) = 1)
    obtain ⟨u, rfl⟩ := one (hK (by decide))
    obtain ⟨u', rfl⟩ := one (hc ▸ hK (by decide) : (ks'.length : Int) = 1)
    have hnn : n = n' := by simpa [bndV] using hnn
    subst hnn
    show RelR s t (injR a n (chk putR u) s l) (injR a' n (chk P' u') t l')
    refine RelR.here (sam0 hty).1 hst (hta a (by simp)) (hta' a' (by simp)) fun haa => ?_
    refine RelR.bE (K 0 (by simp) (by simp) s t _ _ rfl rfl (by simp [inX, hx]) (by simp [inX, hy]) hl) fun f f' hf => ?_
    obtain ⟨ka, na, lsa, la⟩ := a
    obtain ⟨k', na', lsa', la'⟩ := a'
    obtain ⟨rfl, rfl, hfl, hno, -⟩ := haa.kids
    refine RelR.ask (by simp only [g_k, g_kids]; rw [hfl]) fun e => ?_
    rw [Bool.and_eq_true] at e
    obtain ⟨e1, e2⟩ := e
    have e1 : ka = 8 := by simpa [g_k] using e1
    subst e1
    have hjl : n.toNat < la.length := by simpa [g_kids] using e2
    obtain ⟨-, hr⟩ := hno rfl (by decide)
    have e1 : kidG (.mk 8 na lsa la) n.toNat = la[n.toNat] := by simp only [kidG, g_kids]; rw [List.getD_eq_getElem?_getD, List.getElem?_eq_getElem hjl]; rfl
    have e2 : kidG (.mk 8 na' lsa la') n.toNat = la'[n.toNat]'(hfl ▸ hjl) := by simp only [kidG, g_kids]; rw [List.getD_eq_getElem?_getD, List.getElem?_eq_getElem (hfl ▸ hjl)]; rfl
    rw [e1, e2]
    exact RelR.ask (hf.cmp (hr _ hjl (hfl ▸ hjl))) fun _ => haa
  · have hlen : ks.length = ls.length + 1 := by
      unfold endM at hend
      rw [if_neg (by decide), if_pos (by decide), beq_iff_eq] at hend
      simp only [MG.ks, MG.ls] at hend; omega
    obtain ⟨u, r, rfl⟩ : ∃ u r, ks = u :: r := by
      cases ks with
      | nil => simp at hlen
      | cons u r => exact ⟨u, r, rfl⟩
    obtain ⟨u', r', rfl⟩ : ∃ u r, ks' = u :: r := by
      cases ks' with
      | nil => simp at hc
      | cons u r => exact ⟨u, r, rfl⟩
    show RelR s t (casesR ls ((u :: r).map (chk putR)) s l) (casesR ls' ((u' :: r').map (chk P')) t l')
    refine RelR.bE (K 0 (by simp) (by simp) s t _ _ rfl rfl (by simp [inX, hx]) (by simp [inX, hy]) hl) fun f f' hf => ?_
    obtain ⟨kf, nf, lsf, lf⟩ := f
    obtain ⟨k', nf', lsf', lf'⟩ := f'
    obtain ⟨rfl, rfl, hfl, hno, -⟩ := hf.kids
    have q1 : decide (lf.length = ls.length) = decide (lf'.length = ls'.length) := decide_eq_decide.2 (by omega)
    have q2 : decide (0 < ls.length) = decide (0 < ls'.length) := decide_eq_decide.2 (by omega)
    refine RelR.ask (show (kf == 8 && decide (lf.length = ls.length) && decide (0 < ls.length)) = (kf == 8 && decide (lf'.length = ls'.length) && decide (0 < ls'.length)) by rw [q1, q2]) fun e => ?_
    simp only [Bool.and_eq_true, decide_eq_true_eq, g_k, g_kids, beq_iff_eq] at e
    obtain ⟨⟨rfl, e1⟩, e2⟩ := e
    obtain ⟨-, hr⟩ := hno rfl (by decide)
    have h := casK_rel (s := s) (t := t) (l := l) (l' := l') ls ls' lf lf' (r.map (chk putR)) (r'.map (chk P')) hls hfl (by simpa using hc) hr fun j hj hj' hl1 hl2 a b hab => by
      simp only [List.getElem_map]
      have hj1 : j < r.length := by simpa using hj
      have hj2 : j < r'.length := by simpa using hj'
      have g1 : ls.getD j ⟨#[]⟩ = ls[j] := by rw [List.getD_eq_getElem?_getD, List.getElem?_eq_getElem hl1]; rfl
      have g2 : ls'.getD j ⟨#[]⟩ = ls'[j] := by rw [List.getD_eq_getElem?_getD, List.getElem?_eq_getElem hl2]; rfl
      exact K (j + 1) (by simpa using hj1) (by simpa using hj2) s t _ _ (by simp [inV]) (by simp [inV])
        (by rw [List.map_append, hx]; unfold inX; rw [if_neg (by decide), if_neg (by decide), if_neg (by simp), if_pos ⟨rfl, by omega, by omega⟩, Nat.add_sub_cancel, g1]; rfl)
        (by rw [List.map_append, hy]; unfold inX; rw [if_neg (by decide), if_neg (by decide), if_neg (by simp), if_pos ⟨rfl, by omega, by omega⟩, Nat.add_sub_cancel, g2]; rfl) (hl.snoc hab _ _)
    show RelR s t (match casK ls lf (r.map (chk putR)) s l with | .error e => .error e | .ok us => askE (allSame us) (.ok (us.headD zG))) (match casK ls' lf' (r'.map (chk P')) t l' with | .error e => .error e | .ok us => askE (allSame us) (.ok (us.headD zG)))
    have hne : ∀ us, casK ls lf (r.map (chk putR)) s l = .ok us → 0 < us.length := by
      intro us hu
      match ls, lf, r, e2, e1, hlen, hu with
      | a :: ls, b :: lf, c :: r, _, _, _, hu =>
        rw [List.map_cons, casK] at hu
        unfold consE at hu
        split at hu
        · cases hu
        · split at hu
          · cases hu
          · injection hu with hu; subst hu; simp
      | _ :: _, _ :: _, [], _, _, h, _ => simp at h
      | _ :: _, [], _, _, h, _, _ => simp at h
      | [], _, _, h, _, _, _ => simp at h
    generalize casK ls lf (r.map (chk putR)) s l = q at h hne ⊢
    generalize casK ls' lf' (r'.map (chk P')) t l' = q' at h ⊢
    cases q <;> cases q' <;> first | exact h.elim | exact h | skip
    rename_i us us'
    have hp := hne us rfl
    refine RelR.ask (allSame_rel h.1 h.2) fun _ => ?_
    match us, us', h, hp with
    | a :: us, b :: us', h, _ => exact h.2 0 (by simp) (by simp)
    | _ :: _, [], h, _ => exact absurd h.1 (by simp)
  · obtain ⟨a, rfl⟩ := one hT
    obtain ⟨a', rfl⟩ := one (hts ▸ hT : (ts'.length : Int) = 1)
    obtain ⟨u, rfl⟩ := one (hK (by decide))
    obtain ⟨u', rfl⟩ := one (hc ▸ hK (by decide) : (ks'.length : Int) = 1)
    show RelR s t (foldR putR a (chk putR u) s l) (foldR P' a' (chk P' u') t l')
    refine RelR.here (sam0 hty).1 hst (hta a (by simp)) (hta' a' (by simp)) fun haa => ?_
    refine RelR.bE (K 0 (by simp) (by simp) s t _ _ rfl rfl (by simp [inX, hx]) (by simp [inX, hy]) hl) fun f f' hf => ?_
    refine haa.ask1 (.inl rfl) fun h0 => ?_
    exact RelR.bE (RelR.put hP h0 haa) fun w w' hw => RelR.ask (hf.cmp hw) fun _ => haa
  · obtain ⟨u, rfl⟩ := one (hK (by decide))
    obtain ⟨u', rfl⟩ := one (hc ▸ hK (by decide) : (ks'.length : Int) = 1)
    show RelR s t (unfoldR putR (chk putR u) s l) (unfoldR P' (chk P' u') t l')
    refine RelR.bE (K 0 (by simp) (by simp) s t _ _ rfl rfl (by simp [inX, hx]) (by simp [inX, hy]) hl) fun f f' hf => ?_
    exact hf.ask1 (.inl rfl) fun h0 => RelR.put hP h0 hf
  · obtain ⟨u, rfl⟩ := one (hK (by decide))
    obtain ⟨u', rfl⟩ := one (hc ▸ hK (by decide) : (ks'.length : Int) = 1)
    show RelR s t (allR n (chk putR u) s l) (allR n' (chk P' u') t l')
    have hb := B 0 (by simp) (.inl rfl)
    unfold allR
    by_cases hm : n ∈ s
    · rw [if_pos hm, if_pos (hb.1 hm)]; exact rfl
    · have hm' : n' ∉ t := fun e => hm (hb.2 e)
      rw [if_neg hm, if_neg hm']
      refine RelR.bE (K 0 (by simp) (by simp) (s ++ [n]) (t ++ [n']) _ _ rfl rfl (by simp [inX, hx]) (by simp [inX, hy]) (RelC.weak hm hm' hl)) fun f f' hf => ?_
      exact relT_all hst hf
  · obtain ⟨a, rfl⟩ := one hT
    obtain ⟨a', rfl⟩ := one (hts ▸ hT : (ts'.length : Int) = 1)
    obtain ⟨u, rfl⟩ := one (hK (by decide))
    obtain ⟨u', rfl⟩ := one (hc ▸ hK (by decide) : (ks'.length : Int) = 1)
    show RelR s t (instR putR a (chk putR u) s l) (instR P' a' (chk P' u') t l')
    refine RelR.here (sam0 hty).1 hst (hta a (by simp)) (hta' a' (by simp)) fun haa => ?_
    refine RelR.bE (K 0 (by simp) (by simp) s t _ _ rfl rfl (by simp [inX, hx]) (by simp [inX, hy]) hl) fun f f' hf => ?_
    exact hf.ask1 (.inr (.inl rfl)) fun h0 => RelR.put hP h0 haa
  · obtain ⟨a, b, rfl⟩ := two hT
    obtain ⟨a', b', rfl⟩ := two (hts ▸ hT : (ts'.length : Int) = 2)
    obtain ⟨u, rfl⟩ := one (hK (by decide))
    obtain ⟨u', rfl⟩ := one (hc ▸ hK (by decide) : (ks'.length : Int) = 1)
    show RelR s t (packR putR a b (chk putR u) s l) (packR P' a' b' (chk P' u') t l')
    refine RelR.here (sam0 hty).1 hst (hta a (by simp)) (hta' a' (by simp)) fun haa => ?_
    refine RelR.here (sam0 (sam0 hty).2).1 hst (hta b (by simp)) (hta' b' (by simp)) fun hbb => ?_
    refine RelR.bE (K 0 (by simp) (by simp) s t _ _ rfl rfl (by simp [inX, hx]) (by simp [inX, hy]) hl) fun f f' hf => ?_
    refine hbb.ask1 (.inr (.inr rfl)) fun h0 => ?_
    exact RelR.bE (RelR.put hP h0 haa) fun w w' hw => RelR.ask (hf.cmp hw) fun _ => hbb
  · obtain ⟨u, v, rfl⟩ := two (hK (by decide))
    obtain ⟨u', v', rfl⟩ := two (hc ▸ hK (by decide) : (ks'.length : Int) = 2)
    show RelR s t (openR putR n nm (chk putR u) (chk putR v) s l) (openR P' n' nm' (chk P' u') (chk P' v') t l')
    have hb := B 1 (by simp) (.inr ⟨rfl, rfl⟩)
    refine RelR.bE (K 0 (by simp) (by simp) s t _ _ rfl rfl (by simp [inX, hx]) (by simp [inX, hy]) hl) fun f f' hf => ?_
    by_cases hm : n ∈ s
    · rw [if_pos hm, if_pos (hb.1 hm)]; exact RelR.ask (by rw [hf.k]) fun _ => rfl
    · have hm' : n' ∉ t := fun e => hm (hb.2 e)
      rw [if_neg hm, if_neg hm']
      refine (hf.weak hm hm').ask1 (.inr (.inr rfl)) fun h0 => ?_
      refine RelR.bE (RelR.put hP h0 (relT_var hst)) fun w w' hw => ?_
      refine RelR.bE (K 1 (by simp) (by simp) (s ++ [n]) (t ++ [n']) _ _ rfl rfl (by simp [inX, hx]) (by simp [inX, hy]) (RelL.snoc (l := l) (l' := l') (RelC.weak hm hm' hl) hw nm nm')) fun z z' hz => ?_
      have hfr : decide (n ∈ freeS z) = decide (n' ∈ freeS z') := by
        rw [decide_eq_decide, mem_freeS, mem_freeS]; exact hz.free_iff
      refine RelR.ask (by rw [hfr]) fun e => hz.strong fun e' => ?_
      rw [decide_eq_true ((mem_freeS z n).2 e')] at e
      cases e
  · obtain ⟨a, rfl⟩ := one hT
    obtain ⟨a', rfl⟩ := one (hts ▸ hT : (ts'.length : Int) = 1)
    show RelR s t (failR a s l) (failR a' t l')
    exact RelR.here (sam0 hty).1 hst (hta a (by simp)) (hta' a' (by simp)) fun haa => haa
  · obtain ⟨u, rfl⟩ := one (hK (by decide))
    obtain ⟨u', rfl⟩ := one (hc ▸ hK (by decide) : (ks'.length : Int) = 1)
    exact K 0 (by simp) (by simp) s t _ _ rfl rfl (by simp [inX, hx]) (by simp [inX, hy]) hl
end Go.Proofs.YtcjkikadolnfgaaGreat


/- The rules without what is asked of the types that a term names. -/
set_option linter.unusedSimpArgs false
set_option linter.unusedVariables false
namespace Go.Proofs.YtcjkikadolnfgaaGreat
def lamS (nm : ByteArray) (a : TG) (c : Chk) : Chk := fun vars l => bE (c vars (l ++ [(nm, a)])) fun t => .ok (.mk 4 0 [] [a, t])
def fixS (nm lb : ByteArray) (a b : TG) (c : Chk) : Chk := fun vars l => bE (fitR (.mk 4 0 [] [a, b])) fun f => bE (c vars ((l ++ [(nm, f)]) ++ [(lb, a)])) fun t => askE (samG t b [] []) (.ok f)
def injS (a : TG) (n : Int) (c : Chk) : Chk := fun vars l => bE (c vars l) fun k => askE (a.k == 8 && Nat.blt n.toNat a.kids.length) (askE (samG k (kidG a n.toNat) [] []) (.ok a))
def foldS (P : Putt) (a : TG) (c : Chk) : Chk := fun vars l => bE (c vars l) fun k => askE (a.k == 9) (bE (P (kidG a 0) a.n a) fun w => askE (samG k w [] []) (.ok a))
def instS (P : Putt) (a : TG) (c : Chk) : Chk := fun vars l => bE (c vars l) fun t => askE (t.k == 10) (P (kidG t 0) t.n a)
def packS (P : Putt) (a b : TG) (c : Chk) : Chk := fun vars l => bE (c vars l) fun k => askE (b.k == 11) (bE (P (kidG b 0) b.n a) fun w => askE (samG k w [] []) (.ok b))
def failS (a : TG) : Chk := fun _ _ => .ok a
def tickS (c : Chk) : Chk := c
theorem rputR_err {t : TG} {n : Int} {y : TG} {e : Int} (h : rputR t n y = .error e) : e ≠ 0 := by
  unfold rputR at h
  split at h
  · cases h
  · injection h with h; subst h; decide
theorem rputR_good {t : TG} {n : Int} {y w : TG} (ht : allG t = true) (hy : allG y = true) (h : rputR t n y = .ok w) : allG w = true ∧ szG w ≤ 1048576 := by
  unfold rputR at h
  split at h
  · rename_i hs
    injection h with h; subst h
    refine ⟨allG_rput _ _ _ _ hy ht, ?_⟩
    have h1 : samG (putF (szG t) t n y (freeS y)) (rputF (szG t) t n y) [] [] = true :=
      (sam_ev _ _ [] [] rfl (okV_put _ _ _ _ _ (allG_okV hy) (allG_okV ht)) (okV_rput _ _ _ _ (allG_okV hy) (allG_okV ht))).2 (by rw [ev_put _ _ _ _ _ (Nat.le_refl _) (allG_okV ht) (mem_freeS y), ev_rput _ _ _ _ (Nat.le_refl _) (allG_okV ht)])
    have h2 := sam_sz rfl (okV_put _ _ _ _ _ (allG_okV hy) (allG_okV ht)) (okV_rput _ _ _ _ (allG_okV hy) (allG_okV ht)) h1
    have h3 := sz_putF (szG t) t n y (freeS y) (Nat.le_refl _) (allG_okV ht) (allG_okV hy) (mem_freeS y)
    have h4 : 1 ≤ szG y := by cases y; simp only [szG]; omega
    have h5 : cntG n t * (szG y - 1) + cntG n t = cntG n t * szG y := by
      rw [← Nat.mul_succ]; congr 1; omega
    omega
  · cases h
end Go.Proofs.YtcjkikadolnfgaaGreat


/- The reference's rules: lam app (printed by gxw.py). -/
set_option linter.unusedSimpArgs false
set_option linter.unusedVariables false
namespace Go.Proofs.YtcjkikadolnfgaaGreat
open Go.Vx Go.Vc Go.RowKit
def Depq0 : List (Nat × Go.Vc.Pl) := [(3, .take 0 (.pure 1 (.take 2 (.pure 3 (.take 4 (.pure 5 (.take 6 (.pure 8 (.take 9 (.pure 10 (.take 11 (.two 7 16 (.two 12 16 (.pure 13 (.pure 14 (.pure 15 (.run 16 (.fin 17 (.pure 18 .done)))))) (.fin 12 (.pure 13 (.pure 14 (.pure 15 (.fin 17 (.pure 18 .done))))))) (.run 7 (.fin 12 (.pure 13 (.pure 14 (.pure 15 (.fin 17 (.pure 18 .done))))))))))))))))))), (6, .pure 0 (.take 1 (.pure 2 (.take 3 (.take 4 (.fin 5 (.fin 6 (.pure 7 .done)))))))), (8, .take 0 (.pure 1 (.take 2 (.pure 3 (.take 4 (.two 5 9 (.pure 6 (.pure 7 (.pure 8 (.run 9 (.fin 10 (.pure 11 .done)))))) (.fin 5 (.pure 6 (.pure 7 (.pure 8 (.fin 10 (.pure 11 .done)))))))))))), (11, .take 0 (.pure 1 (.take 2 (.pure 3 (.take 4 (.two 5 9 (.pure 6 (.pure 7 (.pure 8 (.run 9 (.fin 10 (.pure 11 .done)))))) (.fin 5 (.pure 6 (.pure 7 (.pure 8 (.fin 10 (.pure 11 .done)))))))))))), (14, .pure 0 (.take 1 (.pure 2 (.pure 3 (.pure 4 (.take 5 (.pure 6 (.take 7 (.take 8 (.fin 9 (.pure 10 (.pure 11 .done)))))))))))), (18, .pure 0 (.take 1 (.pure 2 (.take 3 (.pure 4 (.take 5 (.pure 6 (.take 7 (.two 8 9 (.run 9 (.fin 10 .done)) (.fin 8 (.fin 10 .done))))))))))), (22, .take 0 (.pure 1 (.take 2 (.take 3 (.pure 5 (.take 6 (.pure 7 (.take 8 (.pure 9 (.take 10 (.pure 11 (.take 12 (.pure 14 (.take 15 (.pure 16 (.take 17 (.pure 18 (.take 19 (.pure 20 (.take 21 (.run 4 (.run 13 (.fin 22 (.pure 23 .done)))))))))))))))))))))))), (24, .take 0 (.pure 1 (.take 2 (.pure 3 (.take 4 (.two 5 9 (.pure 6 (.pure 7 (.pure 8 (.run 9 (.fin 10 (.pure 11 .done)))))) (.fin 5 (.pure 6 (.pure 7 (.pure 8 (.fin 10 (.pure 11 .done)))))))))))), (27, .take 0 (.pure 1 (.take 2 (.take 3 (.pure 5 (.take 6 (.pure 7 (.take 8 (.run 4 (.fin 9 (.pure 10 (.pure 11 (.fin 12 (.pure 13 .done))))))))))))))]
set_option maxRecDepth 20000 in
set_option maxHeartbeats 2000000 in
theorem x_lam (vars : List Int) (l : List Bd) (n i : Int) (nm : ByteArray) (ls : List ByteArray) (a : TG) (u : MG) (cu : Chk) (hcu : RKid u cu) (haa : allG a = true) (hv : vars.length + szM (.mk 5 n i nm ls [a] [u]) ≤ 549755813888) (hl : l.length + 2 * szM (.mk 5 n i nm ls [a] [u]) ≤ 549755813888) (hz : szM (.mk 5 n i nm ls [a] [u]) ≤ 1073741824) (hb : Bnd l) : FnQ Tryz.prog G0 91 [dSc vars l, dM (.mk 5 n i nm ls [a] [u])] (OutX ((lamS nm a cu) vars l)) := by
  simp only [szM, szMs, szGs] at hv hl hz
  have he4 : True := trivial
  obtain ⟨ka, na, lsa, la⟩ := a
  have hW1 := rwithN_fn (vars) (l) nm (.mk ka na lsa la) (by (try simp only [lA, lC, lN]); omega)
  obtain ⟨hK2, hK2G, hK2E⟩ := hcu (vars) (l ++ [(nm, (.mk ka na lsa la))]) (by (try simp only [lA, lC, lN]); omega) (by (try simp only [lA, lC, lN]); omega) (hb.snoc haa (by omega))
  refine exC (cu (vars) (l ++ [(nm, (.mk ka na lsa la))])) (fun e hr3 => ?_) (fun t hr3 => ?_)
  rw [hr3] at hK2
  have he4 := hK2E e hr3
  rw [show (lamS nm (.mk ka na lsa la) cu) vars l = .error e from by unfold lamS; (try simp only [bE, askE, kidG, g_k, g_n, g_kids, gz, gs, bs, hr3]); first | done | rfl]
  rotate_left
  rw [hr3] at hK2
  obtain ⟨hat, hzt⟩ := hK2G t hr3
  rw [show (lamS nm (.mk ka na lsa la) cu) vars l = .ok (.mk 4 0 [] [(.mk ka na lsa la), t]) from by unfold lamS; (try simp only [bE, askE, kidG, g_k, g_n, g_kids, gz, gs, bs, hr3]); first | done | rfl]
  all_goals
    refine fnQ_of_vc txok mixed Depq0 Tryz.func91 rfl rfl (by simp) fun bb => ?_
    repeat' ((conv => whnf); first
      | refine And.intro (by kernel_rfl) ?_
      | (refine And.intro (fun h => ?_) (fun h => ?_); rotate_left; focus (exfalso; revert h; simp [MG.k, MG.n, g_k, g_n, g_kids, he4]; done))
      | (refine And.intro (fun h => ?_) (fun h => ?_); focus (exfalso; revert h; simp [MG.k, MG.n, g_k, g_n, g_kids, he4]; done))
      | refine And.intro ?_ ?_
      | refine IdxC.encMs (l := [u]) 0 (by simp) rfl ?_
      | refine IdxC.encGs (l := [(.mk ka na lsa la)]) 0 (by simp) rfl ?_
      | refine callF hW1 gf140 rfl rfl ?_
      | refine callF hK2 gf50 rfl rfl ?_
      | refine callF (none_fn e) gf49 rfl rfl ?_
      | refine callF (rfn_fn (.mk ka na lsa la) t) gf141 rfl rfl ?_
      )
    all_goals (try (conv => whnf))
    all_goals first | exact rfl | exact OutX.err zG rfl
set_option maxRecDepth 20000 in
set_option maxHeartbeats 2000000 in
theorem x_app (vars : List Int) (l : List Bd) (n i : Int) (nm : ByteArray) (ls : List ByteArray) (u : MG) (v : MG) (cu : Chk) (hcu : RKid u cu) (cv : Chk) (hcv : RKid v cv) (hv : vars.length + szM (.mk 6 n i nm ls [] [u, v]) ≤ 549755813888) (hl : l.length + 2 * szM (.mk 6 n i nm ls [] [u, v]) ≤ 549755813888) (hz : szM (.mk 6 n i nm ls [] [u, v]) ≤ 1073741824) (hb : Bnd l) : FnQ Tryz.prog G0 91 [dSc vars l, dM (.mk 6 n i nm ls [] [u, v])] (OutX ((appRl cu cv) vars l)) := by
  simp only [szM, szMs, szGs] at hv hl hz
  have hk11 : True := trivial
  have he10 : True := trivial
  have he7 : True := trivial
  obtain ⟨hK5, hK5G, hK5E⟩ := hcu (vars) (l) (by (try simp only [lA, lC, lN]); omega) (by (try simp only [lA, lC, lN]); omega) (hb)
  refine exC (cu (vars) (l)) (fun e hr6 => ?_) (fun f hr6 => ?_)
  rw [hr6] at hK5
  have he7 := hK5E e hr6
  rw [show (appRl cu cv) vars l = .error e from by unfold appRl; (try simp only [bE, askE, kidG, g_k, g_n, g_kids, gz, gs, bs, hr6]); first | done | rfl]
  rotate_left
  rw [hr6] at hK5
  obtain ⟨haf, hzf⟩ := hK5G f hr6
  obtain ⟨hK8, hK8G, hK8E⟩ := hcv (vars) (l) (by (try simp only [lA, lC, lN]); omega) (by (try simp only [lA, lC, lN]); omega) (hb)
  refine exC (cv (vars) (l)) (fun e hr9 => ?_) (fun x hr9 => ?_)
  rw [hr9] at hK8
  have he10 := hK8E e hr9
  rw [show (appRl cu cv) vars l = .error e from by unfold appRl; (try simp only [bE, askE, kidG, g_k, g_n, g_kids, gz, gs, bs, hr6, hr9]); first | done | rfl]
  rotate_left
  rw [hr9] at hK8
  obtain ⟨hax, hzx⟩ := hK8G x hr9
  obtain ⟨kf, nf, lsf, lf⟩ := f
  refine byC (P := kf = 4) (fun hk11 => ?_) (fun hk11 => ?_)
  have hkb : (kf == 4) = false := by simpa using hk11
  rw [show (appRl cu cv) vars l = .error 30 from by unfold appRl; (try simp only [bE, askE, kidG, g_k, g_n, g_kids, gz, gs, bs, hr6, hr9, hkb]); first | done | rfl]
  rotate_left
  subst hk11
  obtain ⟨rfl, rfl, af, bf, rfl⟩ := shp2 (by omega) ((allG_mk ..).1 haf).1
  have hS12 := rsameTop_fn af x (by (try simp only [szG, szGs] at *); omega)
  refine boC (samG af x [] []) (fun hs13 => ?_) (fun hs13 => ?_)
  rw [hs13] at hS12
  rw [show (appRl cu cv) vars l = .error 30 from by unfold appRl; (try simp only [bE, askE, kidG, g_k, g_n, g_kids, gz, gs, bs, hr6, hr9, hs13]); first | done | rfl]
  rotate_left
  rw [hs13] at hS12
  rw [show (appRl cu cv) vars l = .ok bf from by unfold appRl; (try simp only [bE, askE, kidG, g_k, g_n, g_kids, gz, gs, bs, hr6, hr9, hs13]); first | done | rfl]
  all_goals
    refine fnQ_of_vc txok mixed Depq0 Tryz.func91 rfl rfl (by simp) fun bb => ?_
    repeat' ((conv => whnf); first
      | refine And.intro (by kernel_rfl) ?_
      | (refine And.intro (fun h => ?_) (fun h => ?_); rotate_left; focus (exfalso; revert h; simp [MG.k, MG.n, g_k, g_n, g_kids, he7, he10, hk11]; done))
      | (refine And.intro (fun h => ?_) (fun h => ?_); focus (exfalso; revert h; simp [MG.k, MG.n, g_k, g_n, g_kids, he7, he10, hk11]; done))
      | refine And.intro ?_ ?_
      | refine IdxC.encMs (l := [u, v]) 0 (by simp) rfl ?_
      | refine IdxC.encMs (l := [u, v]) 1 (by simp) rfl ?_
      | refine callF hK5 gf50 rfl rfl ?_
      | refine callF (none_fn e) gf49 rfl rfl ?_
      | refine callF hK8 gf50 rfl rfl ?_
      | refine callF (none_fn 30) gf49 rfl rfl ?_
      | refine IdxC.encGs (l := [af, bf]) 0 (by simp) rfl ?_
      | refine IdxC.encGs (l := [af, bf]) 1 (by simp) rfl ?_
      | refine callF hS12 gf10 rfl rfl ?_
      )
    all_goals (try (conv => whnf))
    all_goals first | exact rfl | exact OutX.err zG rfl
end Go.Proofs.YtcjkikadolnfgaaGreat


/- The reference's rules: fix (printed by gxw.py). -/
set_option linter.unusedSimpArgs false
set_option linter.unusedVariables false
namespace Go.Proofs.YtcjkikadolnfgaaGreat
open Go.Vx Go.Vc Go.RowKit
set_option maxRecDepth 20000 in
set_option maxHeartbeats 2000000 in
theorem x_fix (vars : List Int) (l : List Bd) (n i : Int) (nm : ByteArray) (ls : List ByteArray) (lbn : ByteArray) (a : TG) (b : TG) (u : MG) (cu : Chk) (hcu : RKid u cu) (haa : allG a = true) (hab : allG b = true) (hv : vars.length + szM (.mk 7 n i nm [lbn] [a, b] [u]) ≤ 549755813888) (hl : l.length + 2 * szM (.mk 7 n i nm [lbn] [a, b] [u]) ≤ 549755813888) (hz : szM (.mk 7 n i nm [lbn] [a, b] [u]) ≤ 1073741824) (hb : Bnd l) : FnQ Tryz.prog G0 91 [dSc vars l, dM (.mk 7 n i nm [lbn] [a, b] [u])] (OutX ((fixS nm lbn a b cu) vars l)) := by
  simp only [szM, szMs, szGs] at hv hl hz
  obtain ⟨ka, na, lsa, la⟩ := a
  obtain ⟨kb, nb, lsb, lb⟩ := b
  have haf : allG (TG.mk 4 0 [] [(.mk ka na lsa la), (.mk kb nb lsb lb)]) = true := all2 (by omega) haa hab
  have hF := rfits_fn (TG.mk 4 0 [] [(.mk ka na lsa la), (.mk kb nb lsb lb)]) (by simp only [szG, szGs] at hz ⊢; omega)
  unfold fitR at hF
  refine byC (P := szG (TG.mk 4 0 [] [(.mk ka na lsa la), (.mk kb nb lsb lb)]) ≤ 1048576) (fun hf => ?_) (fun hf => ?_)
  rw [if_neg hf] at hF
  rw [show (fixS nm lbn (.mk ka na lsa la) (.mk kb nb lsb lb) cu) vars l = .error 3 from by unfold fixS; (try simp only [bE, askE, kidG, g_k, g_n, g_kids, gz, gs, bs, fitR, if_neg hf]); first | done | rfl]
  rotate_left
  rw [if_pos hf] at hF
  have hW1 := rwithN_fn (vars) (l) nm (TG.mk 4 0 [] [(.mk ka na lsa la), (.mk kb nb lsb lb)]) (by (try simp only [lA, lC, lN]); omega)
  have hW2 := rwithN_fn (vars) (l ++ [(nm, (TG.mk 4 0 [] [(.mk ka na lsa la), (.mk kb nb lsb lb)]))]) lbn (.mk ka na lsa la) (by (try simp only [lA, lC, lN]); omega)
  obtain ⟨hK, hKG, hKE⟩ := hcu vars ((l ++ [(nm, (TG.mk 4 0 [] [(.mk ka na lsa la), (.mk kb nb lsb lb)]))]) ++ [(lbn, (.mk ka na lsa la))]) (by (try simp only [lA, lC, lN]); omega) (by (try simp only [lA, lC, lN]); omega) ((hb.snoc haf (by omega)).snoc haa (by omega))
  have hI := is_fn vars ((l ++ [(nm, (TG.mk 4 0 [] [(.mk ka na lsa la), (.mk kb nb lsb lb)]))]) ++ [(lbn, (.mk ka na lsa la))]) u (.mk kb nb lsb lb) _ hK hKE (by simp only [szG, szGs] at hz ⊢; omega)
  refine exC (cu vars ((l ++ [(nm, (TG.mk 4 0 [] [(.mk ka na lsa la), (.mk kb nb lsb lb)]))]) ++ [(lbn, (.mk ka na lsa la))])) (fun e hr => ?_) (fun t hr => ?_)
  rw [hr] at hI
  have hI : FnR _ _ _ _ (.int .i64 e) := hI
  rw [show (fixS nm lbn (.mk ka na lsa la) (.mk kb nb lsb lb) cu) vars l = .error e from by unfold fixS; (try simp only [bE, askE, kidG, g_k, g_n, g_kids, gz, gs, bs, fitR, if_pos hf, hr]); first | done | rfl]
  rotate_left
  rw [hr] at hI
  obtain ⟨hat, hzt⟩ := hKG t hr
  have hI : FnR _ _ _ _ (.int .i64 (if samG (.mk kb nb lsb lb) t [] [] = true then 0 else 30)) := hI
  refine boC (samG (.mk kb nb lsb lb) t [] []) (fun hs => ?_) (fun hs => ?_)
  rw [hs] at hI
  have hI : FnR _ _ _ _ (.int .i64 30) := hI
  rw [sam_symB rfl (allG_okV hab) (allG_okV hat)] at hs
  rw [show (fixS nm lbn (.mk ka na lsa la) (.mk kb nb lsb lb) cu) vars l = .error 30 from by unfold fixS; (try simp only [bE, askE, kidG, g_k, g_n, g_kids, gz, gs, bs, fitR, if_pos hf, hr, hs]); first | done | rfl]
  rotate_left
  rw [hs] at hI
  have hI : FnR _ _ _ _ (.int .i64 0) := hI
  rw [sam_symB rfl (allG_okV hab) (allG_okV hat)] at hs
  rw [show (fixS nm lbn (.mk ka na lsa la) (.mk kb nb lsb lb) cu) vars l = .ok (TG.mk 4 0 [] [(.mk ka na lsa la), (.mk kb nb lsb lb)]) from by unfold fixS; (try simp only [bE, askE, kidG, g_k, g_n, g_kids, gz, gs, bs, fitR, if_pos hf, hr, hs]); first | done | rfl]
  all_goals
    refine fnQ_of_vc txok mixed [(3, .take 0 (.pure 1 (.take 2 (.pure 3 (.take 4 (.pure 5 (.take 6 (.pure 8 (.take 9 (.pure 10 (.take 11 (.two 7 16 (.two 12 16 (.pure 13 (.pure 14 (.pure 15 (.run 16 (.fin 17 (.pure 18 .done)))))) (.fin 12 (.pure 13 (.pure 14 (.pure 15 (.fin 17 (.pure 18 .done))))))) (.run 7 (.fin 12 (.pure 13 (.pure 14 (.pure 15 (.fin 17 (.pure 18 .done))))))))))))))))))), (6, .pure 0 (.take 1 (.pure 2 (.take 3 (.take 4 (.fin 5 (.fin 6 (.pure 7 .done)))))))), (8, .take 0 (.pure 1 (.take 2 (.pure 3 (.take 4 (.two 5 9 (.pure 6 (.pure 7 (.pure 8 (.run 9 (.fin 10 (.pure 11 .done)))))) (.fin 5 (.pure 6 (.pure 7 (.pure 8 (.fin 10 (.pure 11 .done)))))))))))), (11, .take 0 (.pure 1 (.take 2 (.pure 3 (.take 4 (.two 5 9 (.pure 6 (.pure 7 (.pure 8 (.run 9 (.fin 10 (.pure 11 .done)))))) (.fin 5 (.pure 6 (.pure 7 (.pure 8 (.fin 10 (.pure 11 .done)))))))))))), (14, .pure 0 (.take 1 (.pure 2 (.pure 3 (.pure 4 (.take 5 (.pure 6 (.take 7 (.take 8 (.fin 9 (.pure 10 (.pure 11 .done)))))))))))), (18, .pure 0 (.take 1 (.pure 2 (.take 3 (.pure 4 (.take 5 (.pure 6 (.take 7 (.two 8 9 (.run 9 (.fin 10 .done)) (.fin 8 (.fin 10 .done))))))))))), (22, .take 0 (.pure 1 (.take 2 (.take 3 (.pure 5 (.take 6 (.pure 7 (.take 8 (.pure 9 (.take 10 (.pure 11 (.take 12 (.pure 14 (.take 15 (.pure 16 (.take 17 (.pure 18 (.take 19 (.pure 20 (.take 21 (.run 4 (.run 13 (.fin 22 (.pure 23 .done)))))))))))))))))))))))), (24, .take 0 (.pure 1 (.take 2 (.pure 3 (.take 4 (.two 5 9 (.pure 6 (.pure 7 (.pure 8 (.run 9 (.fin 10 (.pure 11 .done)))))) (.fin 5 (.pure 6 (.pure 7 (.pure 8 (.fin 10 (.pure 11 .done)))))))))))), (27, .take 0 (.pure 1 (.take 2 (.take 3 (.pure 5 (.take 6 (.pure 7 (.take 8 (.run 4 (.fin 9 (.pure 10 (.pure 11 (.fin 12 (.pure 13 .done))))))))))))))] Tryz.func91 rfl rfl (by simp) fun bb => ?_
    repeat' ((conv => whnf); first
      | refine And.intro (by kernel_rfl) ?_
      | (refine And.intro (fun h => ?_) (fun h => ?_); rotate_left; focus (exfalso; revert h; simp [MG.k, MG.n, g_k, g_n, g_kids]; done))
      | (refine And.intro (fun h => ?_) (fun h => ?_); focus (exfalso; revert h; simp [MG.k, MG.n, g_k, g_n, g_kids]; done))
      | refine And.intro ?_ ?_
      | refine IdxC.encMs (l := [u]) 0 (by simp) rfl ?_
      | refine IdxC.encGs (l := [(.mk ka na lsa la), (.mk kb nb lsb lb)]) 0 (by simp) rfl ?_
      | refine IdxC.encGs (l := [(.mk ka na lsa la), (.mk kb nb lsb lb)]) 1 (by simp) rfl ?_
      | refine IdxC.encS (l := [lbn]) 0 (by simp) rfl ?_
      | refine callF (rfn_fn (.mk ka na lsa la) (.mk kb nb lsb lb)) gf141 rfl rfl ?_
      | refine callF hF gf96 rfl rfl ?_
      | refine callF (none_fn 3) gf49 rfl rfl ?_
      | refine callF hW1 gf140 rfl rfl ?_
      | refine callF hW2 gf140 rfl rfl ?_
      | refine callF hI gf142 rfl rfl ?_
      )
    all_goals (try (conv => whnf))
    all_goals first | exact rfl | exact OutX.err zG rfl | exact OutX.err (TG.mk 4 0 [] [(.mk ka na lsa la), (.mk kb nb lsb lb)]) rfl
end Go.Proofs.YtcjkikadolnfgaaGreat


/- The reference's rules: let pair (printed by gxw.py). -/
set_option linter.unusedSimpArgs false
set_option linter.unusedVariables false
namespace Go.Proofs.YtcjkikadolnfgaaGreat
open Go.Vx Go.Vc Go.RowKit
set_option maxRecDepth 20000 in
set_option maxHeartbeats 2000000 in
theorem x_let (vars : List Int) (l : List Bd) (n i : Int) (nm : ByteArray) (ls : List ByteArray) (u : MG) (v : MG) (cu : Chk) (hcu : RKid u cu) (cv : Chk) (hcv : RKid v cv) (hv : vars.length + szM (.mk 8 n i nm ls [] [u, v]) ≤ 549755813888) (hl : l.length + 2 * szM (.mk 8 n i nm ls [] [u, v]) ≤ 549755813888) (hz : szM (.mk 8 n i nm ls [] [u, v]) ≤ 1073741824) (hb : Bnd l) : FnQ Tryz.prog G0 91 [dSc vars l, dM (.mk 8 n i nm ls [] [u, v])] (OutX ((letR nm cu cv) vars l)) := by
  simp only [szM, szMs, szGs] at hv hl hz
  have he7 : True := trivial
  have he3 : True := trivial
  obtain ⟨hK1, hK1G, hK1E⟩ := hcu (vars) (l) (by (try simp only [lA, lC, lN]); omega) (by (try simp only [lA, lC, lN]); omega) (hb)
  refine exC (cu (vars) (l)) (fun e hr2 => ?_) (fun t hr2 => ?_)
  rw [hr2] at hK1
  have he3 := hK1E e hr2
  rw [show (letR nm cu cv) vars l = .error e from by unfold letR; (try simp only [bE, askE, kidG, g_k, g_n, g_kids, gz, gs, bs, hr2]); first | done | rfl]
  rotate_left
  rw [hr2] at hK1
  obtain ⟨hat, hzt⟩ := hK1G t hr2
  obtain ⟨kt, nt, lst, lt⟩ := t
  have hW4 := rwithN_fn (vars) (l) nm (.mk kt nt lst lt) (by (try simp only [lA, lC, lN]); omega)
  obtain ⟨hK5, hK5G, hK5E⟩ := hcv (vars) (l ++ [(nm, (.mk kt nt lst lt))]) (by (try simp only [lA, lC, lN]); omega) (by (try simp only [lA, lC, lN]); omega) (hb.snoc hat (by omega))
  refine exC (cv (vars) (l ++ [(nm, (.mk kt nt lst lt))])) (fun e hr6 => ?_) (fun w hr6 => ?_)
  rw [hr6] at hK5
  have he7 := hK5E e hr6
  rw [show (letR nm cu cv) vars l = .error e from by unfold letR; (try simp only [bE, askE, kidG, g_k, g_n, g_kids, gz, gs, bs, hr2, hr6]); first | done | rfl]
  rotate_left
  rw [hr6] at hK5
  obtain ⟨haw, hzw⟩ := hK5G w hr6
  rw [show (letR nm cu cv) vars l = .ok w from by unfold letR; (try simp only [bE, askE, kidG, g_k, g_n, g_kids, gz, gs, bs, hr2, hr6]); first | done | rfl]
  all_goals
    refine fnQ_of_vc txok mixed [(3, .take 0 (.pure 1 (.take 2 (.pure 3 (.take 4 (.pure 5 (.take 6 (.pure 8 (.take 9 (.pure 10 (.take 11 (.two 7 16 (.two 12 16 (.pure 13 (.pure 14 (.pure 15 (.run 16 (.fin 17 (.pure 18 .done)))))) (.fin 12 (.pure 13 (.pure 14 (.pure 15 (.fin 17 (.pure 18 .done))))))) (.run 7 (.fin 12 (.pure 13 (.pure 14 (.pure 15 (.fin 17 (.pure 18 .done))))))))))))))))))), (6, .pure 0 (.take 1 (.pure 2 (.take 3 (.take 4 (.fin 5 (.fin 6 (.pure 7 .done)))))))), (8, .take 0 (.pure 1 (.take 2 (.pure 3 (.take 4 (.two 5 9 (.pure 6 (.pure 7 (.pure 8 (.run 9 (.fin 10 (.pure 11 .done)))))) (.fin 5 (.pure 6 (.pure 7 (.pure 8 (.fin 10 (.pure 11 .done)))))))))))), (11, .take 0 (.pure 1 (.take 2 (.pure 3 (.take 4 (.two 5 9 (.pure 6 (.pure 7 (.pure 8 (.run 9 (.fin 10 (.pure 11 .done)))))) (.fin 5 (.pure 6 (.pure 7 (.pure 8 (.fin 10 (.pure 11 .done)))))))))))), (14, .pure 0 (.take 1 (.pure 2 (.pure 3 (.pure 4 (.take 5 (.pure 6 (.take 7 (.take 8 (.fin 9 (.pure 10 (.pure 11 .done)))))))))))), (18, .pure 0 (.take 1 (.pure 2 (.take 3 (.pure 4 (.take 5 (.pure 6 (.take 7 (.two 8 9 (.run 9 (.fin 10 .done)) (.fin 8 (.fin 10 .done))))))))))), (22, .take 0 (.pure 1 (.take 2 (.take 3 (.pure 5 (.take 6 (.pure 7 (.take 8 (.pure 9 (.take 10 (.pure 11 (.take 12 (.pure 14 (.take 15 (.pure 16 (.take 17 (.pure 18 (.take 19 (.pure 20 (.take 21 (.run 4 (.run 13 (.fin 22 (.pure 23 .done)))))))))))))))))))))))), (24, .take 0 (.pure 1 (.take 2 (.pure 3 (.take 4 (.two 5 9 (.pure 6 (.pure 7 (.pure 8 (.run 9 (.fin 10 (.pure 11 .done)))))) (.fin 5 (.pure 6 (.pure 7 (.pure 8 (.fin 10 (.pure 11 .done)))))))))))), (27, .take 0 (.pure 1 (.take 2 (.take 3 (.pure 5 (.take 6 (.pure 7 (.take 8 (.run 4 (.fin 9 (.pure 10 (.pure 11 (.fin 12 (.pure 13 .done))))))))))))))] Tryz.func91 rfl rfl (by simp) fun bb => ?_
    repeat' ((conv => whnf); first
      | refine And.intro (by kernel_rfl) ?_
      | (refine And.intro (fun h => ?_) (fun h => ?_); rotate_left; focus (exfalso; revert h; simp [MG.k, MG.n, g_k, g_n, g_kids, he3, he7]; done))
      | (refine And.intro (fun h => ?_) (fun h => ?_); focus (exfalso; revert h; simp [MG.k, MG.n, g_k, g_n, g_kids, he3, he7]; done))
      | refine And.intro ?_ ?_
      | refine IdxC.encMs (l := [u, v]) 0 (by simp) rfl ?_
      | refine IdxC.encMs (l := [u, v]) 1 (by simp) rfl ?_
      | refine callF hK1 gf50 rfl rfl ?_
      | refine callF (none_fn e) gf49 rfl rfl ?_
      | refine callF hW4 gf140 rfl rfl ?_
      | refine callF hK5 gf50 rfl rfl ?_
      )
    all_goals (try (conv => whnf))
    all_goals first | exact rfl | exact OutX.err zG rfl
set_option maxRecDepth 20000 in
set_option maxHeartbeats 2000000 in
theorem x_pair (vars : List Int) (l : List Bd) (n i : Int) (nm : ByteArray) (ls : List ByteArray) (u : MG) (v : MG) (cu : Chk) (hcu : RKid u cu) (cv : Chk) (hcv : RKid v cv) (hv : vars.length + szM (.mk 9 n i nm ls [] [u, v]) ≤ 549755813888) (hl : l.length + 2 * szM (.mk 9 n i nm ls [] [u, v]) ≤ 549755813888) (hz : szM (.mk 9 n i nm ls [] [u, v]) ≤ 1073741824) (hb : Bnd l) : FnQ Tryz.prog G0 92 [dSc vars l, dM (.mk 9 n i nm ls [] [u, v])] (OutX ((pairR cu cv) vars l)) := by
  simp only [szM, szMs, szGs] at hv hl hz
  have he14 : True := trivial
  have he11 : True := trivial
  have hA8 := rall_fn vars l [u, v] [cu, cv] rfl (by intro j h h'; match j, h with | 0, _ => exact hcu | 1, _ => exact hcv) (by simp only [szMs]; omega) (by simp only [szMs]; omega) (by simp only [szMs]; omega) hb
  obtain ⟨-, hK9G, hK9E⟩ := hcu vars l (by omega) (by omega) hb
  refine exC (cu vars l) (fun e hr10 => ?_) (fun a hr10 => ?_)
  have he11 := hK9E e hr10
  rw [show recK [cu, cv] vars l = .error e from by simp only [recK, consE, hr10]] at hA8
  rw [show (pairR cu cv) vars l = .error e from by unfold pairR; (try simp only [bE, askE, kidG, g_k, g_n, g_kids, gz, gs, bs, hr10]); first | done | rfl]
  rotate_left
  obtain ⟨haa, hza⟩ := hK9G a hr10
  obtain ⟨-, hK12G, hK12E⟩ := hcv vars l (by omega) (by omega) hb
  refine exC (cv vars l) (fun e hr13 => ?_) (fun b hr13 => ?_)
  have he14 := hK12E e hr13
  rw [show recK [cu, cv] vars l = .error e from by simp only [recK, consE, hr10, hr13]] at hA8
  rw [show (pairR cu cv) vars l = .error e from by unfold pairR; (try simp only [bE, askE, kidG, g_k, g_n, g_kids, gz, gs, bs, hr10, hr13]); first | done | rfl]
  rotate_left
  obtain ⟨hab, hzb⟩ := hK12G b hr13
  rw [show recK [cu, cv] vars l = .ok [a, b] from by simp only [recK, consE, hr10, hr13]] at hA8
  rw [show (pairR cu cv) vars l = .ok (.mk 5 0 [] [a, b]) from by unfold pairR; (try simp only [bE, askE, kidG, g_k, g_n, g_kids, gz, gs, bs, hr10, hr13]); first | done | rfl]
  all_goals
    refine fnQ_of_vc txok mixed [(11, .pure 0 (.pure 1 (.pure 2 (.take 3 (.pure 4 (.take 5 (.pure 6 (.pure 7 (.take 8 (.fin 9 (.pure 10 .done))))))))))), (13, .pure 0 (.pure 1 (.pure 2 (.take 3 (.pure 4 (.pure 5 (.pure 6 (.pure 7 (.take 8 (.pure 9 (.pure 10 (.take 11 (.fin 12 (.pure 13 (.pure 14 .done)))))))))))))))] Tryz.func92 rfl rfl (by simp) fun bb => ?_
    repeat' ((conv => whnf); first
      | refine And.intro (by kernel_rfl) ?_
      | (refine And.intro (fun h => ?_) (fun h => ?_); rotate_left; focus (exfalso; revert h; simp [MG.k, MG.n, g_k, g_n, g_kids, he11, he14]; done))
      | (refine And.intro (fun h => ?_) (fun h => ?_); focus (exfalso; revert h; simp [MG.k, MG.n, g_k, g_n, g_kids, he11, he14]; done))
      | refine And.intro ?_ ?_
      | refine IdxC.encMs (l := [u, v]) 0 (by simp) rfl ?_
      | refine IdxC.encMs (l := [u, v]) 1 (by simp) rfl ?_
      | refine callF hA8 gf143 rfl rfl ?_
      | refine callF (none_fn e) gf49 rfl rfl ?_
      | refine IdxC.encGs (l := [a, b]) 0 (by simp) rfl ?_
      | refine IdxC.encGs (l := [a, b]) 1 (by simp) rfl ?_
      )
    all_goals (try (conv => whnf))
    all_goals first | exact rfl | exact OutX.err zG rfl
end Go.Proofs.YtcjkikadolnfgaaGreat


/- The reference's rules: half10 half11 (printed by gxw.py). -/
set_option linter.unusedSimpArgs false
set_option linter.unusedVariables false
namespace Go.Proofs.YtcjkikadolnfgaaGreat
open Go.Vx Go.Vc Go.RowKit
def Dhpq0 : List (Nat × Go.Vc.Pl) := [(11, .pure 0 (.pure 1 (.pure 2 (.take 3 (.pure 4 (.take 5 (.pure 6 (.pure 7 (.take 8 (.fin 9 (.pure 10 .done))))))))))), (13, .pure 0 (.pure 1 (.pure 2 (.take 3 (.pure 4 (.pure 5 (.pure 6 (.pure 7 (.take 8 (.pure 9 (.pure 10 (.take 11 (.fin 12 (.pure 13 (.pure 14 .done)))))))))))))))]
set_option maxRecDepth 20000 in
set_option maxHeartbeats 2000000 in
theorem x_half10 (vars : List Int) (l : List Bd) (n i : Int) (nm : ByteArray) (ls : List ByteArray) (u : MG) (cu : Chk) (hcu : RKid u cu) (hv : vars.length + szM (.mk 10 n i nm ls [] [u]) ≤ 549755813888) (hl : l.length + 2 * szM (.mk 10 n i nm ls [] [u]) ≤ 549755813888) (hz : szM (.mk 10 n i nm ls [] [u]) ≤ 1073741824) (hb : Bnd l) : FnQ Tryz.prog G0 92 [dSc vars l, dM (.mk 10 n i nm ls [] [u])] (OutX ((halfR 0 cu) vars l)) := by
  simp only [szM, szMs, szGs] at hv hl hz
  have hk5 : True := trivial
  have he4 : True := trivial
  have hA1 := rall_fn vars l [u] [cu] rfl (by intro j h h'; match j, h with | 0, _ => exact hcu) (by simp only [szMs]; omega) (by simp only [szMs]; omega) (by simp only [szMs]; omega) hb
  obtain ⟨-, hK2G, hK2E⟩ := hcu vars l (by omega) (by omega) hb
  refine exC (cu vars l) (fun e hr3 => ?_) (fun w hr3 => ?_)
  have he4 := hK2E e hr3
  rw [show recK [cu] vars l = .error e from by simp only [recK, consE, hr3]] at hA1
  rw [show (halfR 0 cu) vars l = .error e from by unfold halfR; (try simp only [bE, askE, kidG, g_k, g_n, g_kids, gz, gs, bs, hr3]); first | done | rfl]
  rotate_left
  obtain ⟨haw, hzw⟩ := hK2G w hr3
  rw [show recK [cu] vars l = .ok [w] from by simp only [recK, consE, hr3]] at hA1
  obtain ⟨kw, nw, lsw, lw⟩ := w
  refine byC (P := kw = 5) (fun hk5 => ?_) (fun hk5 => ?_)
  have hkb : (kw == 5) = false := by simpa using hk5
  rw [show (halfR 0 cu) vars l = .error 30 from by unfold halfR; (try simp only [bE, askE, kidG, g_k, g_n, g_kids, gz, gs, bs, hr3, hkb]); first | done | rfl]
  rotate_left
  subst hk5
  obtain ⟨rfl, rfl, aw, bw, rfl⟩ := shp2 (by omega) ((allG_mk ..).1 haw).1
  rw [show (halfR 0 cu) vars l = .ok aw from by unfold halfR; (try simp only [bE, askE, kidG, g_k, g_n, g_kids, gz, gs, bs, hr3]); first | done | rfl]
  all_goals
    refine fnQ_of_vc txok mixed Dhpq0 Tryz.func92 rfl rfl (by simp) fun bb => ?_
    repeat' ((conv => whnf); first
      | refine And.intro (by kernel_rfl) ?_
      | (refine And.intro (fun h => ?_) (fun h => ?_); rotate_left; focus (exfalso; revert h; simp [MG.k, MG.n, g_k, g_n, g_kids, he4, hk5]; done))
      | (refine And.intro (fun h => ?_) (fun h => ?_); focus (exfalso; revert h; simp [MG.k, MG.n, g_k, g_n, g_kids, he4, hk5]; done))
      | refine And.intro ?_ ?_
      | refine IdxC.encMs (l := [u]) 0 (by simp) rfl ?_
      | refine callF hA1 gf143 rfl rfl ?_
      | refine callF (none_fn e) gf49 rfl rfl ?_
      | refine IdxC.encGs (l := [(.mk kw nw lsw lw)]) 0 (by simp) rfl ?_
      | refine callF (none_fn 30) gf49 rfl rfl ?_
      | refine IdxC.encGs (l := [(.mk 5 0 [] [aw, bw])]) 0 (by simp) rfl ?_
      | refine IdxC.encGs (l := [aw, bw]) 0 (by simp) rfl ?_
      | refine IdxC.encGs (l := [aw, bw]) 1 (by simp) rfl ?_
      )
    all_goals (try (conv => whnf))
    all_goals first | exact rfl | exact OutX.err zG rfl
set_option maxRecDepth 20000 in
set_option maxHeartbeats 2000000 in
theorem x_half11 (vars : List Int) (l : List Bd) (n i : Int) (nm : ByteArray) (ls : List ByteArray) (u : MG) (cu : Chk) (hcu : RKid u cu) (hv : vars.length + szM (.mk 11 n i nm ls [] [u]) ≤ 549755813888) (hl : l.length + 2 * szM (.mk 11 n i nm ls [] [u]) ≤ 549755813888) (hz : szM (.mk 11 n i nm ls [] [u]) ≤ 1073741824) (hb : Bnd l) : FnQ Tryz.prog G0 92 [dSc vars l, dM (.mk 11 n i nm ls [] [u])] (OutX ((halfR 1 cu) vars l)) := by
  simp only [szM, szMs, szGs] at hv hl hz
  have hk10 : True := trivial
  have he9 : True := trivial
  have hA6 := rall_fn vars l [u] [cu] rfl (by intro j h h'; match j, h with | 0, _ => exact hcu) (by simp only [szMs]; omega) (by simp only [szMs]; omega) (by simp only [szMs]; omega) hb
  obtain ⟨-, hK7G, hK7E⟩ := hcu vars l (by omega) (by omega) hb
  refine exC (cu vars l) (fun e hr8 => ?_) (fun w hr8 => ?_)
  have he9 := hK7E e hr8
  rw [show recK [cu] vars l = .error e from by simp only [recK, consE, hr8]] at hA6
  rw [show (halfR 1 cu) vars l = .error e from by unfold halfR; (try simp only [bE, askE, kidG, g_k, g_n, g_kids, gz, gs, bs, hr8]); first | done | rfl]
  rotate_left
  obtain ⟨haw, hzw⟩ := hK7G w hr8
  rw [show recK [cu] vars l = .ok [w] from by simp only [recK, consE, hr8]] at hA6
  obtain ⟨kw, nw, lsw, lw⟩ := w
  refine byC (P := kw = 5) (fun hk10 => ?_) (fun hk10 => ?_)
  have hkb : (kw == 5) = false := by simpa using hk10
  rw [show (halfR 1 cu) vars l = .error 30 from by unfold halfR; (try simp only [bE, askE, kidG, g_k, g_n, g_kids, gz, gs, bs, hr8, hkb]); first | done | rfl]
  rotate_left
  subst hk10
  obtain ⟨rfl, rfl, aw, bw, rfl⟩ := shp2 (by omega) ((allG_mk ..).1 haw).1
  rw [show (halfR 1 cu) vars l = .ok bw from by unfold halfR; (try simp only [bE, askE, kidG, g_k, g_n, g_kids, gz, gs, bs, hr8]); first | done | rfl]
  all_goals
    refine fnQ_of_vc txok mixed Dhpq0 Tryz.func92 rfl rfl (by simp) fun bb => ?_
    repeat' ((conv => whnf); first
      | refine And.intro (by kernel_rfl) ?_
      | (refine And.intro (fun h => ?_) (fun h => ?_); rotate_left; focus (exfalso; revert h; simp [MG.k, MG.n, g_k, g_n, g_kids, he9, hk10]; done))
      | (refine And.intro (fun h => ?_) (fun h => ?_); focus (exfalso; revert h; simp [MG.k, MG.n, g_k, g_n, g_kids, he9, hk10]; done))
      | refine And.intro ?_ ?_
      | refine IdxC.encMs (l := [u]) 0 (by simp) rfl ?_
      | refine callF hA6 gf143 rfl rfl ?_
      | refine callF (none_fn e) gf49 rfl rfl ?_
      | refine IdxC.encGs (l := [(.mk kw nw lsw lw)]) 0 (by simp) rfl ?_
      | refine callF (none_fn 30) gf49 rfl rfl ?_
      | refine IdxC.encGs (l := [(.mk 5 0 [] [aw, bw])]) 0 (by simp) rfl ?_
      | refine IdxC.encGs (l := [aw, bw]) 0 (by simp) rfl ?_
      | refine IdxC.encGs (l := [aw, bw]) 1 (by simp) rfl ?_
      )
    all_goals (try (conv => whnf))
    all_goals first | exact rfl | exact OutX.err zG rfl
end Go.Proofs.YtcjkikadolnfgaaGreat


/- The reference's rules: choose (printed by gxw.py). -/
set_option linter.unusedSimpArgs false
set_option linter.unusedVariables false
namespace Go.Proofs.YtcjkikadolnfgaaGreat
open Go.Vx Go.Vc Go.RowKit
set_option maxRecDepth 20000 in
set_option maxHeartbeats 2000000 in
theorem x_choose (vars : List Int) (l : List Bd) (n i : Int) (nm : ByteArray) (ls : List ByteArray) (u : MG) (v : MG) (z : MG) (cu : Chk) (hcu : RKid u cu) (cv : Chk) (hcv : RKid v cv) (cz : Chk) (hcz : RKid z cz) (hv : vars.length + szM (.mk 12 n i nm ls [] [u, v, z]) ≤ 549755813888) (hl : l.length + 2 * szM (.mk 12 n i nm ls [] [u, v, z]) ≤ 549755813888) (hz : szM (.mk 12 n i nm ls [] [u, v, z]) ≤ 1073741824) (hb : Bnd l) : FnQ Tryz.prog G0 92 [dSc vars l, dM (.mk 12 n i nm ls [] [u, v, z])] (OutX ((chooseR cu cv cz) vars l)) := by
  simp only [szM, szMs, szGs] at hv hl hz
  have hk11 : True := trivial
  have he10 : True := trivial
  have he7 : True := trivial
  have he4 : True := trivial
  have hA1 := rall_fn vars l [u, v, z] [cu, cv, cz] rfl (by intro j h h'; match j, h with | 0, _ => exact hcu | 1, _ => exact hcv | 2, _ => exact hcz) (by simp only [szMs]; omega) (by simp only [szMs]; omega) (by simp only [szMs]; omega) hb
  obtain ⟨-, hK2G, hK2E⟩ := hcu vars l (by omega) (by omega) hb
  refine exC (cu vars l) (fun e hr3 => ?_) (fun x hr3 => ?_)
  have he4 := hK2E e hr3
  rw [show recK [cu, cv, cz] vars l = .error e from by simp only [recK, consE, hr3]] at hA1
  rw [show (chooseR cu cv cz) vars l = .error e from by unfold chooseR; (try simp only [bE, askE, kidG, g_k, g_n, g_kids, gz, gs, bs, hr3]); first | done | rfl]
  rotate_left
  obtain ⟨hax, hzx⟩ := hK2G x hr3
  obtain ⟨-, hK5G, hK5E⟩ := hcv vars l (by omega) (by omega) hb
  refine exC (cv vars l) (fun e hr6 => ?_) (fun a hr6 => ?_)
  have he7 := hK5E e hr6
  rw [show recK [cu, cv, cz] vars l = .error e from by simp only [recK, consE, hr3, hr6]] at hA1
  rw [show (chooseR cu cv cz) vars l = .error e from by unfold chooseR; (try simp only [bE, askE, kidG, g_k, g_n, g_kids, gz, gs, bs, hr3, hr6]); first | done | rfl]
  rotate_left
  obtain ⟨haa, hza⟩ := hK5G a hr6
  obtain ⟨-, hK8G, hK8E⟩ := hcz vars l (by omega) (by omega) hb
  refine exC (cz vars l) (fun e hr9 => ?_) (fun b hr9 => ?_)
  have he10 := hK8E e hr9
  rw [show recK [cu, cv, cz] vars l = .error e from by simp only [recK, consE, hr3, hr6, hr9]] at hA1
  rw [show (chooseR cu cv cz) vars l = .error e from by unfold chooseR; (try simp only [bE, askE, kidG, g_k, g_n, g_kids, gz, gs, bs, hr3, hr6, hr9]); first | done | rfl]
  rotate_left
  obtain ⟨hab, hzb⟩ := hK8G b hr9
  rw [show recK [cu, cv, cz] vars l = .ok [x, a, b] from by simp only [recK, consE, hr3, hr6, hr9]] at hA1
  obtain ⟨kx, nx, lsx, lx⟩ := x
  refine byC (P := kx = 2) (fun hk11 => ?_) (fun hk11 => ?_)
  have hkb : (kx == 2) = false := by simpa using hk11
  rw [show (chooseR cu cv cz) vars l = .error 30 from by unfold chooseR; (try simp only [bE, askE, kidG, g_k, g_n, g_kids, gz, gs, bs, hr3, hr6, hr9, hkb]); first | done | rfl]
  rotate_left
  subst hk11
  have hS12 := rsameTop_fn a b (by (try simp only [szG, szGs] at *); omega)
  refine boC (samG a b [] []) (fun hs13 => ?_) (fun hs13 => ?_)
  rw [hs13] at hS12
  rw [show (chooseR cu cv cz) vars l = .error 30 from by unfold chooseR; (try simp only [bE, askE, kidG, g_k, g_n, g_kids, gz, gs, bs, hr3, hr6, hr9, hs13]); first | done | rfl]
  rotate_left
  rw [hs13] at hS12
  rw [show (chooseR cu cv cz) vars l = .ok a from by unfold chooseR; (try simp only [bE, askE, kidG, g_k, g_n, g_kids, gz, gs, bs, hr3, hr6, hr9, hs13]); first | done | rfl]
  all_goals
    refine fnQ_of_vc txok mixed [(11, .pure 0 (.pure 1 (.pure 2 (.take 3 (.pure 4 (.take 5 (.pure 6 (.pure 7 (.take 8 (.fin 9 (.pure 10 .done))))))))))), (13, .pure 0 (.pure 1 (.pure 2 (.take 3 (.pure 4 (.pure 5 (.pure 6 (.pure 7 (.take 8 (.pure 9 (.pure 10 (.take 11 (.fin 12 (.pure 13 (.pure 14 .done)))))))))))))))] Tryz.func92 rfl rfl (by simp) fun bb => ?_
    repeat' ((conv => whnf); first
      | refine And.intro (by kernel_rfl) ?_
      | (refine And.intro (fun h => ?_) (fun h => ?_); rotate_left; focus (exfalso; revert h; simp [MG.k, MG.n, g_k, g_n, g_kids, he4, he7, he10, hk11]; done))
      | (refine And.intro (fun h => ?_) (fun h => ?_); focus (exfalso; revert h; simp [MG.k, MG.n, g_k, g_n, g_kids, he4, he7, he10, hk11]; done))
      | refine And.intro ?_ ?_
      | refine IdxC.encMs (l := [u, v, z]) 0 (by simp) rfl ?_
      | refine IdxC.encMs (l := [u, v, z]) 1 (by simp) rfl ?_
      | refine IdxC.encMs (l := [u, v, z]) 2 (by simp) rfl ?_
      | refine callF hA1 gf143 rfl rfl ?_
      | refine callF (none_fn e) gf49 rfl rfl ?_
      | refine IdxC.encGs (l := [(.mk kx nx lsx lx), a, b]) 0 (by simp) rfl ?_
      | refine IdxC.encGs (l := [(.mk kx nx lsx lx), a, b]) 1 (by simp) rfl ?_
      | refine IdxC.encGs (l := [(.mk kx nx lsx lx), a, b]) 2 (by simp) rfl ?_
      | refine callF (none_fn 30) gf49 rfl rfl ?_
      | refine IdxC.encGs (l := [(.mk 2 nx lsx lx), a, b]) 0 (by simp) rfl ?_
      | refine IdxC.encGs (l := [(.mk 2 nx lsx lx), a, b]) 1 (by simp) rfl ?_
      | refine IdxC.encGs (l := [(.mk 2 nx lsx lx), a, b]) 2 (by simp) rfl ?_
      | refine callF hS12 gf10 rfl rfl ?_
      )
    all_goals (try (conv => whnf))
    all_goals first | exact rfl | exact OutX.err zG rfl
end Go.Proofs.YtcjkikadolnfgaaGreat


/- The reference's rules: bin (printed by gxw.py). -/
set_option linter.unusedSimpArgs false
set_option linter.unusedVariables false
namespace Go.Proofs.YtcjkikadolnfgaaGreat
open Go.Vx Go.Vc Go.RowKit
set_option maxRecDepth 20000 in
set_option maxHeartbeats 2000000 in
theorem x_bin (vars : List Int) (l : List Bd) (n i : Int) (nm : ByteArray) (ls : List ByteArray) (u : MG) (v : MG) (cu : Chk) (hcu : RKid u cu) (cv : Chk) (hcv : RKid v cv) (hv : vars.length + szM (.mk 13 n i nm ls [] [u, v]) ≤ 549755813888) (hl : l.length + 2 * szM (.mk 13 n i nm ls [] [u, v]) ≤ 549755813888) (hz : szM (.mk 13 n i nm ls [] [u, v]) ≤ 1073741824) (hb : Bnd l) (h6 : n ≤ 6) : FnQ Tryz.prog G0 92 [dSc vars l, dM (.mk 13 n i nm ls [] [u, v])] (OutX ((binR n cu cv) vars l)) := by
  simp only [szM, szMs, szGs] at hv hl hz
  have hn6 : True := trivial
  have hn5 : True := trivial
  have hb1 : True := trivial
  have ha1 : True := trivial
  have he7 : True := trivial
  have he4 : True := trivial
  have hA1 := rall_fn vars l [u, v] [cu, cv] rfl (by intro j h h'; match j, h with | 0, _ => exact hcu | 1, _ => exact hcv) (by simp only [szMs]; omega) (by simp only [szMs]; omega) (by simp only [szMs]; omega) hb
  obtain ⟨-, hK2G, hK2E⟩ := hcu vars l (by omega) (by omega) hb
  refine exC (cu vars l) (fun e hr3 => ?_) (fun a hr3 => ?_)
  have he4 := hK2E e hr3
  rw [show recK [cu, cv] vars l = .error e from by simp only [recK, consE, hr3]] at hA1
  rw [show (binR n cu cv) vars l = .error e from by unfold binR; (try simp only [bE, askE, kidG, g_k, g_n, g_kids, gz, gs, bs, Bool.and_self, Bool.false_and, Bool.and_false, hr3]); first | done | rfl]
  rotate_left
  obtain ⟨haa, hza⟩ := hK2G a hr3
  obtain ⟨-, hK5G, hK5E⟩ := hcv vars l (by omega) (by omega) hb
  refine exC (cv vars l) (fun e hr6 => ?_) (fun b hr6 => ?_)
  have he7 := hK5E e hr6
  rw [show recK [cu, cv] vars l = .error e from by simp only [recK, consE, hr3, hr6]] at hA1
  rw [show (binR n cu cv) vars l = .error e from by unfold binR; (try simp only [bE, askE, kidG, g_k, g_n, g_kids, gz, gs, bs, Bool.and_self, Bool.false_and, Bool.and_false, hr3, hr6]); first | done | rfl]
  rotate_left
  obtain ⟨hab, hzb⟩ := hK5G b hr6
  rw [show recK [cu, cv] vars l = .ok [a, b] from by simp only [recK, consE, hr3, hr6]] at hA1
  obtain ⟨ka, na, lsa, la⟩ := a
  obtain ⟨kb, nb, lsb, lb⟩ := b
  refine byC (P := ka = 1) (fun ha1 => ?_) (fun ha1 => ?_)
  have hkb : (ka == 1) = false := by simpa using ha1
  rw [show (binR n cu cv) vars l = .error 30 from by unfold binR; (try simp only [bE, askE, kidG, g_k, g_n, g_kids, gz, gs, bs, Bool.and_self, Bool.false_and, Bool.and_false, hr3, hr6, hkb]); first | done | rfl]
  rotate_left
  refine byC (P := kb = 1) (fun hb1 => ?_) (fun hb1 => ?_)
  have hkb : (kb == 1) = false := by simpa using hb1
  rw [show (binR n cu cv) vars l = .error 30 from by unfold binR; (try simp only [bE, askE, kidG, g_k, g_n, g_kids, gz, gs, bs, Bool.and_self, Bool.false_and, Bool.and_false, hr3, hr6, hkb]); first | done | rfl]
  rotate_left
  subst ha1; subst hb1
  refine byC (P := n ≠ 5) (fun hn5 => ?_) (fun hn5 => ?_)
  obtain rfl : n = 5 := by omega
  rw [show (binR 5 cu cv) vars l = .ok (.mk 2 0 [] []) from by unfold binR; (try simp only [bE, askE, kidG, g_k, g_n, g_kids, gz, gs, bs, Bool.and_self, Bool.false_and, Bool.and_false, hr3, hr6]); first | done | rfl]
  rotate_left
  refine byC (P := n ≠ 6) (fun hn6 => ?_) (fun hn6 => ?_)
  obtain rfl : n = 6 := by omega
  rw [show (binR 6 cu cv) vars l = .ok (.mk 2 0 [] []) from by unfold binR; (try simp only [bE, askE, kidG, g_k, g_n, g_kids, gz, gs, bs, Bool.and_self, Bool.false_and, Bool.and_false, hr3, hr6]); first | done | rfl]
  rotate_left
  have hnn : ¬ n ≥ 5 := by omega
  rw [show (binR n cu cv) vars l = .ok (.mk 1 0 [] []) from by unfold binR; (try simp only [bE, askE, kidG, g_k, g_n, g_kids, gz, gs, bs, Bool.and_self, Bool.false_and, Bool.and_false, hr3, hr6, if_neg hnn]); first | done | rfl]
  all_goals
    refine fnQ_of_vc txok mixed [(11, .pure 0 (.pure 1 (.pure 2 (.take 3 (.pure 4 (.take 5 (.pure 6 (.pure 7 (.take 8 (.fin 9 (.pure 10 .done))))))))))), (13, .pure 0 (.pure 1 (.pure 2 (.take 3 (.pure 4 (.pure 5 (.pure 6 (.pure 7 (.take 8 (.pure 9 (.pure 10 (.take 11 (.fin 12 (.pure 13 (.pure 14 .done)))))))))))))))] Tryz.func92 rfl rfl (by simp) fun bb => ?_
    repeat' ((conv => whnf); first
      | refine And.intro (by kernel_rfl) ?_
      | (refine And.intro (fun h => ?_) (fun h => ?_); rotate_left; focus (exfalso; revert h; simp [MG.k, MG.n, g_k, g_n, g_kids, he4, he7, ha1, hb1, hn5, hn6]; done))
      | (refine And.intro (fun h => ?_) (fun h => ?_); focus (exfalso; revert h; simp [MG.k, MG.n, g_k, g_n, g_kids, he4, he7, ha1, hb1, hn5, hn6]; done))
      | refine And.intro ?_ ?_
      | refine IdxC.encMs (l := [u, v]) 0 (by simp) rfl ?_
      | refine IdxC.encMs (l := [u, v]) 1 (by simp) rfl ?_
      | refine callF hA1 gf143 rfl rfl ?_
      | refine callF (none_fn e) gf49 rfl rfl ?_
      | refine IdxC.encGs (l := [(.mk ka na lsa la), (.mk kb nb lsb lb)]) 0 (by simp) rfl ?_
      | refine IdxC.encGs (l := [(.mk ka na lsa la), (.mk kb nb lsb lb)]) 1 (by simp) rfl ?_
      | refine callF (none_fn 30) gf49 rfl rfl ?_
      | refine IdxC.encGs (l := [(.mk 1 na lsa la), (.mk 1 nb lsb lb)]) 0 (by simp) rfl ?_
      | refine IdxC.encGs (l := [(.mk 1 na lsa la), (.mk 1 nb lsb lb)]) 1 (by simp) rfl ?_
      )
    all_goals (try (conv => whnf))
    all_goals first | exact rfl | exact OutX.err zG rfl
end Go.Proofs.YtcjkikadolnfgaaGreat


/- The reference's rules: inj (printed by gxw.py). -/
set_option linter.unusedSimpArgs false
set_option linter.unusedVariables false
namespace Go.Proofs.YtcjkikadolnfgaaGreat
open Go.Vx Go.Vc Go.RowKit
set_option maxRecDepth 20000 in
set_option maxHeartbeats 2000000 in
theorem x_inj (vars : List Int) (l : List Bd) (n i : Int) (nm : ByteArray) (ls : List ByteArray) (j : Nat) (a : TG) (u : MG) (cu : Chk) (hcu : RKid u cu) (haa : allG a = true) (hv : vars.length + szM (.mk 16 (j : Int) i nm ls [a] [u]) ≤ 549755813888) (hl : l.length + 2 * szM (.mk 16 (j : Int) i nm ls [a] [u]) ≤ 549755813888) (hz : szM (.mk 16 (j : Int) i nm ls [a] [u]) ≤ 1073741824) (hb : Bnd l) : FnQ Tryz.prog G0 93 [dSc vars l, dM (.mk 16 (j : Int) i nm ls [a] [u])] (OutX ((injS a (j : Int) cu) vars l)) := by
  simp only [szM, szMs, szGs] at hv hl hz
  have hj : True := trivial
  have ha8 : True := trivial
  have he3 : True := trivial
  obtain ⟨ka, na, lsa, la⟩ := a
  obtain ⟨hK1, hK1G, hK1E⟩ := hcu (vars) (l) (by (try simp only [lA, lC, lN]); omega) (by (try simp only [lA, lC, lN]); omega) (hb)
  refine exC (cu (vars) (l)) (fun e hr2 => ?_) (fun w hr2 => ?_)
  rw [hr2] at hK1
  have he3 := hK1E e hr2
  rw [show (injS (.mk ka na lsa la) (j : Int) cu) vars l = .error e from by unfold injS; (try simp only [bE, askE, kidG, g_k, g_n, g_kids, gz, gs, bs, Bool.and_self, Bool.false_and, Bool.and_false, hr2]); first | done | rfl]
  rotate_left
  rw [hr2] at hK1
  obtain ⟨haw, hzw⟩ := hK1G w hr2
  obtain ⟨kw, nw, lsw, lw⟩ := w
  refine byC (P := ka = 8) (fun ha8 => ?_) (fun ha8 => ?_)
  have hkb : (ka == 8) = false := by simpa using ha8
  rw [show (injS (.mk ka na lsa la) (j : Int) cu) vars l = .error 30 from by unfold injS; (try simp only [bE, askE, kidG, g_k, g_n, g_kids, gz, gs, bs, Bool.and_self, Bool.false_and, Bool.and_false, hr2, hkb]); first | done | rfl]
  rotate_left
  subst ha8
  refine byC (P := j < la.length) (fun hj => ?_) (fun hj => ?_)
  have hjn : Nat.blt j la.length = false := by rw [← Bool.not_eq_true, Nat.blt_eq]; exact hj
  rw [show (injS (.mk 8 na lsa la) (j : Int) cu) vars l = .error 30 from by unfold injS; (try simp only [bE, askE, kidG, g_k, g_n, g_kids, gz, gs, bs, Bool.and_self, Bool.false_and, Bool.and_false, hr2, hjn, Int.toNat_natCast]); first | done | rfl]
  rotate_left
  have hjn : Nat.blt j la.length = true := by simpa using hj
  have hkd : la.getD j zG = la[j] := by rw [List.getD_eq_getElem?_getD, List.getElem?_eq_getElem hj]; rfl
  have hzl := szG_mem (List.getElem_mem hj)
  have hla := ((allG_mk ..).1 haa).2 _ (List.getElem_mem hj)
  have hS4 := rsameTop_fn la[j] (.mk kw nw lsw lw) (by (try simp only [szG, szGs] at *); omega)
  refine boC (samG la[j] (.mk kw nw lsw lw) [] []) (fun hs5 => ?_) (fun hs5 => ?_)
  rw [hs5] at hS4
  rw [sam_symB rfl (allG_okV hla) (allG_okV haw)] at hs5
  rw [show (injS (.mk 8 na lsa la) (j : Int) cu) vars l = .error 30 from by unfold injS; (try simp only [bE, askE, kidG, g_k, g_n, g_kids, gz, gs, bs, Bool.and_self, Bool.false_and, Bool.and_false, hr2, hjn, Int.toNat_natCast, hkd, hs5]); first | done | rfl]
  rotate_left
  rw [hs5] at hS4
  rw [sam_symB rfl (allG_okV hla) (allG_okV haw)] at hs5
  rw [show (injS (.mk 8 na lsa la) (j : Int) cu) vars l = .ok (.mk 8 na lsa la) from by unfold injS; (try simp only [bE, askE, kidG, g_k, g_n, g_kids, gz, gs, bs, Bool.and_self, Bool.false_and, Bool.and_false, hr2, hjn, Int.toNat_natCast, hkd, hs5]); first | done | rfl]
  all_goals
    refine fnQ_of_vc txok mixed [(6, .take 0 (.pure 1 (.take 2 (.pure 3 (.take 4 (.two 5 9 (.pure 6 (.pure 7 (.pure 8 (.run 9 (.fin 10 (.pure 11 .done)))))) (.fin 5 (.pure 6 (.pure 7 (.pure 8 (.fin 10 (.pure 11 .done)))))))))))), (12, .pure 0 (.take 1 (.pure 2 (.pure 3 (.take 4 (.pure 5 (.take 6 (.pure 7 .done)))))))), (17, .take 0 (.pure 1 (.take 2 (.pure 3 (.take 4 (.two 5 9 (.pure 6 (.pure 7 (.pure 8 (.run 9 (.fin 10 (.pure 11 .done)))))) (.fin 5 (.pure 6 (.pure 7 (.pure 8 (.fin 10 (.pure 11 .done)))))))))))), (20, .pure 0 (.take 1 (.pure 2 (.pure 3 (.pure 4 (.take 5 (.pure 6 (.take 7 (.pure 8 (.pure 9 (.pure 10 (.pure 11 (.pure 12 (.take 13 (.pure 14 (.take 15 (.pure 16 (.take 17 (.take 18 (.fin 19 (.pure 20 (.pure 21 .done)))))))))))))))))))))), (23, .take 0 (.pure 1 (.take 2 (.pure 3 (.take 4 (.two 5 9 (.pure 6 (.pure 7 (.pure 8 (.run 9 (.fin 10 (.pure 11 .done)))))) (.fin 5 (.pure 6 (.pure 7 (.pure 8 (.fin 10 (.pure 11 .done)))))))))))), (32, .take 0 (.pure 1 (.take 2 (.pure 3 (.pure 4 (.take 5 (.pure 6 (.take 7 (.pure 8 (.pure 9 (.take 10 (.pure 12 (.take 13 (.pure 14 (.pure 15 (.pure 16 (.take 17 (.two 11 22 (.two 18 22 (.pure 19 (.pure 20 (.pure 21 (.run 22 (.fin 23 (.pure 24 .done)))))) (.fin 18 (.pure 19 (.pure 20 (.pure 21 (.fin 23 (.pure 24 .done))))))) (.run 11 (.fin 18 (.pure 19 (.pure 20 (.pure 21 (.fin 23 (.pure 24 .done))))))))))))))))))))))))), (39, .pure 0 (.pure 1 (.take 2 (.pure 3 (.pure 4 (.pure 5 (.take 6 (.fin 7 (.pure 8 .done)))))))))] Tryz.func93 rfl rfl (by simp) fun bb => ?_
    repeat' ((conv => whnf); first
      | refine And.intro (by kernel_rfl) ?_
      | (refine And.intro (fun h => ?_) (fun h => ?_); rotate_left; focus (exfalso; revert h; simp [MG.k, MG.n, g_k, g_n, g_kids, he3, ha8, hj]; done))
      | (refine And.intro (fun h => ?_) (fun h => ?_); focus (exfalso; revert h; simp [MG.k, MG.n, g_k, g_n, g_kids, he3, ha8, hj]; done))
      | refine And.intro ?_ ?_
      | refine IdxC.encMs (l := [u]) 0 (by simp) rfl ?_
      | refine IdxC.encGs (l := [(.mk ka na lsa la)]) 0 (by simp) rfl ?_
      | refine callF hK1 gf50 rfl rfl ?_
      | refine callF (none_fn e) gf49 rfl rfl ?_
      | refine callF (none_fn 30) gf49 rfl rfl ?_
      | refine IdxC.encGs (l := [(.mk 8 na lsa la)]) 0 (by simp) rfl ?_
      | refine IdxC.encGs (l := la) j hj rfl ?_
      | refine callF hS4 gf10 rfl rfl ?_
      )
    all_goals (try (conv => whnf))
    all_goals first | exact rfl | exact OutX.err zG rfl
end Go.Proofs.YtcjkikadolnfgaaGreat


/- The reference's rules: fold (printed by gxw.py). -/
set_option linter.unusedSimpArgs false
set_option linter.unusedVariables false
namespace Go.Proofs.YtcjkikadolnfgaaGreat
open Go.Vx Go.Vc Go.RowKit
set_option maxRecDepth 20000 in
set_option maxHeartbeats 2000000 in
theorem x_fold (vars : List Int) (l : List Bd) (n i : Int) (nm : ByteArray) (ls : List ByteArray) (a : TG) (u : MG) (cu : Chk) (hcu : RKid u cu) (haa : allG a = true) (hv : vars.length + szM (.mk 18 n i nm ls [a] [u]) ≤ 549755813888) (hl : l.length + 2 * szM (.mk 18 n i nm ls [a] [u]) ≤ 549755813888) (hz : szM (.mk 18 n i nm ls [a] [u]) ≤ 1073741824) (hb : Bnd l) : FnQ Tryz.prog G0 94 [dSc vars l, dM (.mk 18 n i nm ls [a] [u])] (OutX ((foldS rputR a cu) vars l)) := by
  simp only [szM, szMs, szGs] at hv hl hz
  have he : True := trivial
  have hkt : True := trivial
  have he3 : True := trivial
  obtain ⟨ka, na, lsa, la⟩ := a
  obtain ⟨hK1, hK1G, hK1E⟩ := hcu (vars) (l) (by (try simp only [lA, lC, lN]); omega) (by (try simp only [lA, lC, lN]); omega) (hb)
  refine exC (cu (vars) (l)) (fun e hr2 => ?_) (fun w hr2 => ?_)
  rw [hr2] at hK1
  have he3 := hK1E e hr2
  rw [show (foldS rputR (.mk ka na lsa la) cu) vars l = .error e from by unfold foldS; (try simp only [bE, askE, kidG, g_k, g_n, g_kids, gz, gs, bs, hr2]); first | done | rfl]
  rotate_left
  rw [hr2] at hK1
  obtain ⟨haw, hzw⟩ := hK1G w hr2
  obtain ⟨kw, nw, lsw, lw⟩ := w
  refine byC (P := ka = 9) (fun hkt => ?_) (fun hkt => ?_)
  have hkb : (ka == 9) = false := by simpa using hkt
  rw [show (foldS rputR (.mk ka na lsa la) cu) vars l = .error 30 from by unfold foldS; (try simp only [bE, askE, kidG, g_k, g_n, g_kids, gz, gs, bs, hr2, hkb]); first | done | rfl]
  rotate_left
  subst hkt
  obtain ⟨rfl, ua, rfl⟩ := shp1 (by omega) ((allG_mk ..).1 haa).1
  have haua := ((allG_mk ..).1 haa).2 ua (by simp)
  have hzua : szG ua ≤ szG (TG.mk 9 na [] [ua]) := by simp only [szG, szGs]; omega
  have hP4 := rputt_fn ua na (TG.mk 9 na [] [ua]) (by (try simp only [varG, szG, szGs] at *); omega) (by (try simp only [varG, szG, szGs] at *); omega)
  refine exC (rputR ua na (TG.mk 9 na [] [ua])) (fun e hw5 => ?_) (fun z hw5 => ?_)
  rw [hw5] at hP4
  have he : e ≠ 0 := rputR_err hw5
  rw [show (foldS rputR (.mk 9 na [] [ua]) cu) vars l = .error e from by unfold foldS; (try simp only [bE, askE, kidG, g_k, g_n, g_kids, gz, gs, bs, hr2, hw5]); first | done | rfl]
  rotate_left
  rw [hw5] at hP4
  obtain ⟨haz, hzz⟩ := rputR_good haua haa hw5
  have hS6 := rsameTop_fn z (.mk kw nw lsw lw) (by (try simp only [szG, szGs] at *); omega)
  refine boC (samG z (.mk kw nw lsw lw) [] []) (fun hs7 => ?_) (fun hs7 => ?_)
  rw [hs7] at hS6
  rw [sam_symB rfl (allG_okV haz) (allG_okV haw)] at hs7
  rw [show (foldS rputR (.mk 9 na [] [ua]) cu) vars l = .error 30 from by unfold foldS; (try simp only [bE, askE, kidG, g_k, g_n, g_kids, gz, gs, bs, hr2, hw5, hs7]); first | done | rfl]
  rotate_left
  rw [hs7] at hS6
  rw [sam_symB rfl (allG_okV haz) (allG_okV haw)] at hs7
  rw [show (foldS rputR (.mk 9 na [] [ua]) cu) vars l = .ok (.mk 9 na [] [ua]) from by unfold foldS; (try simp only [bE, askE, kidG, g_k, g_n, g_kids, gz, gs, bs, hr2, hw5, hs7]); first | done | rfl]
  all_goals
    refine fnQ_of_vc txok mixed [(2, .take 0 (.pure 1 (.take 2 (.pure 3 (.take 4 (.two 5 9 (.pure 6 (.pure 7 (.pure 8 (.run 9 (.fin 10 (.pure 11 .done)))))) (.fin 5 (.pure 6 (.pure 7 (.pure 8 (.fin 10 (.pure 11 .done)))))))))))), (5, .pure 0 (.take 1 (.pure 2 (.take 3 (.pure 4 (.take 5 (.take 6 (.fin 7 (.pure 8 (.pure 9 (.fin 10 (.pure 11 .done)))))))))))), (7, .take 0 (.pure 1 (.take 2 (.pure 3 (.take 4 (.two 5 9 (.pure 6 (.pure 7 (.pure 8 (.run 9 (.fin 10 (.pure 11 .done)))))) (.fin 5 (.pure 6 (.pure 7 (.pure 8 (.fin 10 (.pure 11 .done)))))))))))), (12, .pure 0 (.take 1 (.pure 2 (.take 3 (.pure 4 (.take 5 (.take 6 (.two 7 11 (.pure 8 (.pure 9 (.pure 10 (.run 11 (.fin 12 (.pure 13 .done)))))) (.fin 7 (.pure 8 (.pure 9 (.pure 10 (.fin 12 (.pure 13 .done))))))))))))))] Tryz.func94 rfl rfl (by simp) fun bb => ?_
    repeat' ((conv => whnf); first
      | refine And.intro (by kernel_rfl) ?_
      | (refine And.intro (fun h => ?_) (fun h => ?_); rotate_left; focus (exfalso; revert h; simp [MG.k, MG.n, g_k, g_n, g_kids, he3, hkt, he]; done))
      | (refine And.intro (fun h => ?_) (fun h => ?_); focus (exfalso; revert h; simp [MG.k, MG.n, g_k, g_n, g_kids, he3, hkt, he]; done))
      | refine And.intro ?_ ?_
      | refine IdxC.encMs (l := [u]) 0 (by simp) rfl ?_
      | refine IdxC.encGs (l := [(.mk ka na lsa la)]) 0 (by simp) rfl ?_
      | refine callF hK1 gf50 rfl rfl ?_
      | refine callF (none_fn e) gf49 rfl rfl ?_
      | refine callF (none_fn 30) gf49 rfl rfl ?_
      | refine IdxC.encGs (l := [(.mk 9 na [] [ua])]) 0 (by simp) rfl ?_
      | refine IdxC.encGs (l := [ua]) 0 (by simp) rfl ?_
      | refine callF hP4 gf31 rfl rfl ?_
      | refine callF hS6 gf10 rfl rfl ?_
      )
    all_goals (try (conv => whnf))
    all_goals first | exact rfl | exact OutX.err zG rfl | exact OutX.err (.mk 9 na [] [ua]) rfl
end Go.Proofs.YtcjkikadolnfgaaGreat


/- The reference's rules: unfold inst (printed by gxw.py). -/
set_option linter.unusedSimpArgs false
set_option linter.unusedVariables false
namespace Go.Proofs.YtcjkikadolnfgaaGreat
open Go.Vx Go.Vc Go.RowKit
set_option maxRecDepth 20000 in
set_option maxHeartbeats 2000000 in
theorem x_unfold (vars : List Int) (l : List Bd) (n i : Int) (nm : ByteArray) (ls : List ByteArray) (u : MG) (cu : Chk) (hcu : RKid u cu) (hv : vars.length + szM (.mk 19 n i nm ls [] [u]) ≤ 549755813888) (hl : l.length + 2 * szM (.mk 19 n i nm ls [] [u]) ≤ 549755813888) (hz : szM (.mk 19 n i nm ls [] [u]) ≤ 1073741824) (hb : Bnd l) : FnQ Tryz.prog G0 94 [dSc vars l, dM (.mk 19 n i nm ls [] [u])] (OutX ((unfoldR rputR cu) vars l)) := by
  simp only [szM, szMs, szGs] at hv hl hz
  have he : True := trivial
  have he3 : True := trivial
  obtain ⟨hK1, hK1G, hK1E⟩ := hcu vars l (by (try simp only [lA, lC, lN]); omega) (by (try simp only [lA, lC, lN]); omega) hb
  have hK1 := ofK_fn vars l u 9 _ hK1 hK1E
  refine exC (cu vars l) (fun e hr2 => ?_) (fun t hr2 => ?_)
  rw [hr2] at hK1
  have he3 := hK1E e hr2
  rw [show bE (.error e) (fun t => askE (t.k == 9) (.ok t)) = .error e from rfl] at hK1
  rw [show (unfoldR rputR cu) vars l = .error e from by unfold unfoldR; (try simp only [bE, askE, kidG, g_k, g_n, g_kids, gz, gs, bs, hr2]); first | done | rfl]
  rotate_left
  rw [hr2] at hK1
  obtain ⟨hat, hzt⟩ := hK1G t hr2
  obtain ⟨kt, nt, lst, lt⟩ := t
  refine byC (P := kt = 9) (fun hk4 => ?_) (fun hk4 => ?_)
  have hkb : (kt == 9) = false := by simpa using hk4
  rw [show bE (.ok (TG.mk kt nt lst lt)) (fun t => askE (t.k == 9) (.ok t)) = .error 30 from by simp only [bE, g_k, hkb]; rfl] at hK1
  rw [show (unfoldR rputR cu) vars l = .error 30 from by unfold unfoldR; (try simp only [bE, askE, kidG, g_k, g_n, g_kids, gz, gs, bs, hr2, hkb]); first | done | rfl]
  rotate_left
  subst hk4
  rw [show bE (.ok (TG.mk 9 nt lst lt)) (fun t => askE (t.k == 9) (.ok t)) = .ok (TG.mk 9 nt lst lt) from rfl] at hK1
  obtain ⟨rfl, ut, rfl⟩ := shp1 (by omega) ((allG_mk ..).1 hat).1
  have haut := ((allG_mk ..).1 hat).2 ut (by simp)
  have hzut : szG ut ≤ szG (TG.mk 9 nt [] [ut]) := by simp only [szG, szGs]; omega
  have hP5 := rputt_fn ut nt (TG.mk 9 nt [] [ut]) (by (try simp only [varG, szG, szGs] at *); omega) (by (try simp only [varG, szG, szGs] at *); omega)
  refine exC (rputR ut nt (TG.mk 9 nt [] [ut])) (fun e hw6 => ?_) (fun w hw6 => ?_)
  rw [hw6] at hP5
  have he : e ≠ 0 := rputR_err hw6
  rw [show (unfoldR rputR cu) vars l = .error e from by unfold unfoldR; (try simp only [bE, askE, kidG, g_k, g_n, g_kids, gz, gs, bs, hr2, hw6]); first | done | rfl]
  rotate_left
  rw [hw6] at hP5
  obtain ⟨haw, hzw⟩ := rputR_good haut hat hw6
  rw [show (unfoldR rputR cu) vars l = .ok w from by unfold unfoldR; (try simp only [bE, askE, kidG, g_k, g_n, g_kids, gz, gs, bs, hr2, hw6]); first | done | rfl]
  all_goals
    refine fnQ_of_vc txok mixed [(2, .take 0 (.pure 1 (.take 2 (.pure 3 (.take 4 (.two 5 9 (.pure 6 (.pure 7 (.pure 8 (.run 9 (.fin 10 (.pure 11 .done)))))) (.fin 5 (.pure 6 (.pure 7 (.pure 8 (.fin 10 (.pure 11 .done)))))))))))), (5, .pure 0 (.take 1 (.pure 2 (.take 3 (.pure 4 (.take 5 (.take 6 (.fin 7 (.pure 8 (.pure 9 (.fin 10 (.pure 11 .done)))))))))))), (7, .take 0 (.pure 1 (.take 2 (.pure 3 (.take 4 (.two 5 9 (.pure 6 (.pure 7 (.pure 8 (.run 9 (.fin 10 (.pure 11 .done)))))) (.fin 5 (.pure 6 (.pure 7 (.pure 8 (.fin 10 (.pure 11 .done)))))))))))), (12, .pure 0 (.take 1 (.pure 2 (.take 3 (.pure 4 (.take 5 (.take 6 (.two 7 11 (.pure 8 (.pure 9 (.pure 10 (.run 11 (.fin 12 (.pure 13 .done)))))) (.fin 7 (.pure 8 (.pure 9 (.pure 10 (.fin 12 (.pure 13 .done))))))))))))))] Tryz.func94 rfl rfl (by simp) fun bb => ?_
    repeat' ((conv => whnf); first
      | refine And.intro (by kernel_rfl) ?_
      | (refine And.intro (fun h => ?_) (fun h => ?_); rotate_left; focus (exfalso; revert h; simp [MG.k, MG.n, g_k, g_n, g_kids, he3, he]; done))
      | (refine And.intro (fun h => ?_) (fun h => ?_); focus (exfalso; revert h; simp [MG.k, MG.n, g_k, g_n, g_kids, he3, he]; done))
      | refine And.intro ?_ ?_
      | refine IdxC.encMs (l := [u]) 0 (by simp) rfl ?_
      | (refine callQ rfl rfl gf144 hK1 ?_; rintro o rfl)
      | refine callF (none_fn e) gf49 rfl rfl ?_
      | refine callF (none_fn 30) gf49 rfl rfl ?_
      | refine IdxC.encGs (l := [ut]) 0 (by simp) rfl ?_
      | refine callF hP5 gf31 rfl rfl ?_
      )
    all_goals (try (conv => whnf))
    all_goals first | exact rfl | exact OutX.err zG rfl
set_option maxRecDepth 20000 in
set_option maxHeartbeats 2000000 in
theorem x_inst (vars : List Int) (l : List Bd) (n i : Int) (nm : ByteArray) (ls : List ByteArray) (a : TG) (u : MG) (cu : Chk) (hcu : RKid u cu) (haa : allG a = true) (hv : vars.length + szM (.mk 21 n i nm ls [a] [u]) ≤ 549755813888) (hl : l.length + 2 * szM (.mk 21 n i nm ls [a] [u]) ≤ 549755813888) (hz : szM (.mk 21 n i nm ls [a] [u]) ≤ 1073741824) (hb : Bnd l) : FnQ Tryz.prog G0 95 [dSc vars l, dM (.mk 21 n i nm ls [a] [u])] (OutX ((instS rputR a cu) vars l)) := by
  simp only [szM, szMs, szGs] at hv hl hz
  have he : True := trivial
  have he9 : True := trivial
  obtain ⟨ka, na, lsa, la⟩ := a
  obtain ⟨hK7, hK7G, hK7E⟩ := hcu vars l (by (try simp only [lA, lC, lN]); omega) (by (try simp only [lA, lC, lN]); omega) hb
  have hK7 := ofK_fn vars l u 10 _ hK7 hK7E
  refine exC (cu vars l) (fun e hr8 => ?_) (fun t hr8 => ?_)
  rw [hr8] at hK7
  have he9 := hK7E e hr8
  rw [show bE (.error e) (fun t => askE (t.k == 10) (.ok t)) = .error e from rfl] at hK7
  rw [show (instS rputR (.mk ka na lsa la) cu) vars l = .error e from by unfold instS; (try simp only [bE, askE, kidG, g_k, g_n, g_kids, gz, gs, bs, hr8]); first | done | rfl]
  rotate_left
  rw [hr8] at hK7
  obtain ⟨hat, hzt⟩ := hK7G t hr8
  obtain ⟨kt, nt, lst, lt⟩ := t
  refine byC (P := kt = 10) (fun hk10 => ?_) (fun hk10 => ?_)
  have hkb : (kt == 10) = false := by simpa using hk10
  rw [show bE (.ok (TG.mk kt nt lst lt)) (fun t => askE (t.k == 10) (.ok t)) = .error 30 from by simp only [bE, g_k, hkb]; rfl] at hK7
  rw [show (instS rputR (.mk ka na lsa la) cu) vars l = .error 30 from by unfold instS; (try simp only [bE, askE, kidG, g_k, g_n, g_kids, gz, gs, bs, hr8, hkb]); first | done | rfl]
  rotate_left
  subst hk10
  rw [show bE (.ok (TG.mk 10 nt lst lt)) (fun t => askE (t.k == 10) (.ok t)) = .ok (TG.mk 10 nt lst lt) from rfl] at hK7
  obtain ⟨rfl, ut, rfl⟩ := shp1 (by omega) ((allG_mk ..).1 hat).1
  have haut := ((allG_mk ..).1 hat).2 ut (by simp)
  have hzut : szG ut ≤ szG (TG.mk 10 nt [] [ut]) := by simp only [szG, szGs]; omega
  have hP11 := rputt_fn ut nt (TG.mk ka na lsa la) (by (try simp only [varG, szG, szGs] at *); omega) (by (try simp only [varG, szG, szGs] at *); omega)
  refine exC (rputR ut nt (TG.mk ka na lsa la)) (fun e hw12 => ?_) (fun w hw12 => ?_)
  rw [hw12] at hP11
  have he : e ≠ 0 := rputR_err hw12
  rw [show (instS rputR (.mk ka na lsa la) cu) vars l = .error e from by unfold instS; (try simp only [bE, askE, kidG, g_k, g_n, g_kids, gz, gs, bs, hr8, hw12]); first | done | rfl]
  rotate_left
  rw [hw12] at hP11
  obtain ⟨haw, hzw⟩ := rputR_good haut haa hw12
  rw [show (instS rputR (.mk ka na lsa la) cu) vars l = .ok w from by unfold instS; (try simp only [bE, askE, kidG, g_k, g_n, g_kids, gz, gs, bs, hr8, hw12]); first | done | rfl]
  all_goals
    refine fnQ_of_vc txok mixed [(5, .take 0 (.pure 1 (.take 2 (.pure 4 (.take 5 (.pure 6 (.take 7 (.two 3 12 (.two 8 12 (.pure 9 (.pure 10 (.pure 11 (.run 12 (.fin 13 (.pure 14 .done)))))) (.fin 8 (.pure 9 (.pure 10 (.pure 11 (.fin 13 (.pure 14 .done))))))) (.run 3 (.fin 8 (.pure 9 (.pure 10 (.pure 11 (.fin 13 (.pure 14 .done))))))))))))))), (8, .take 0 (.pure 1 (.take 2 (.pure 3 (.take 4 (.two 5 9 (.pure 6 (.pure 7 (.pure 8 (.run 9 (.fin 10 (.pure 11 .done)))))) (.fin 5 (.pure 6 (.pure 7 (.pure 8 (.fin 10 (.pure 11 .done)))))))))))), (11, .pure 0 (.take 1 (.pure 2 (.take 3 (.pure 4 (.take 5 (.pure 6 (.take 7 (.pure 8 (.take 9 (.fin 10 (.pure 11 (.pure 12 (.fin 13 (.pure 14 .done))))))))))))))), (14, .take 0 (.pure 1 (.take 2 (.pure 3 (.take 4 (.two 5 9 (.pure 6 (.pure 7 (.pure 8 (.run 9 (.fin 10 (.pure 11 .done)))))) (.fin 5 (.pure 6 (.pure 7 (.pure 8 (.fin 10 (.pure 11 .done)))))))))))), (19, .pure 0 (.take 1 (.pure 2 (.take 3 (.pure 4 (.take 5 (.pure 6 (.take 7 (.pure 8 (.take 9 (.two 10 14 (.pure 11 (.pure 12 (.pure 13 (.run 14 (.fin 15 (.pure 16 .done)))))) (.fin 10 (.pure 11 (.pure 12 (.pure 13 (.fin 15 (.pure 16 .done))))))))))))))))), (23, .take 0 (.pure 1 (.take 2 (.pure 3 (.take 4 (.two 5 9 (.pure 6 (.pure 7 (.pure 8 (.run 9 (.fin 10 (.pure 11 .done)))))) (.fin 5 (.pure 6 (.pure 7 (.pure 8 (.fin 10 (.pure 11 .done)))))))))))), (28, .pure 0 (.take 1 (.pure 2 (.take 3 (.pure 4 (.take 5 (.pure 6 (.take 7 (.pure 8 (.two 9 13 (.pure 10 (.pure 11 (.pure 12 (.run 13 (.fin 14 (.pure 15 .done)))))) (.fin 9 (.pure 10 (.pure 11 (.pure 12 (.fin 14 (.pure 15 .done)))))))))))))))), (31, .take 0 (.pure 1 (.take 2 (.pure 4 (.take 5 (.take 6 (.pure 8 (.take 9 (.pure 10 (.take 11 (.two 3 16 (.two 7 16 (.two 12 16 (.pure 13 (.pure 14 (.pure 15 (.run 16 (.fin 17 (.pure 18 .done)))))) (.fin 12 (.pure 13 (.pure 14 (.pure 15 (.fin 17 (.pure 18 .done))))))) (.run 7 (.fin 12 (.pure 13 (.pure 14 (.pure 15 (.fin 17 (.pure 18 .done)))))))) (.run 3 (.run 7 (.fin 12 (.pure 13 (.pure 14 (.pure 15 (.fin 17 (.pure 18 .done))))))))))))))))))), (32, .pure 0 (.pure 1 (.pure 2 (.take 3 (.pure 5 (.take 6 (.run 4 (.fin 7 (.pure 8 .done)))))))))] Tryz.func95 rfl rfl (by simp) fun bb => ?_
    repeat' ((conv => whnf); first
      | refine And.intro (by kernel_rfl) ?_
      | (refine And.intro (fun h => ?_) (fun h => ?_); rotate_left; focus (exfalso; revert h; simp [MG.k, MG.n, g_k, g_n, g_kids, he9, he]; done))
      | (refine And.intro (fun h => ?_) (fun h => ?_); focus (exfalso; revert h; simp [MG.k, MG.n, g_k, g_n, g_kids, he9, he]; done))
      | refine And.intro ?_ ?_
      | refine IdxC.encMs (l := [u]) 0 (by simp) rfl ?_
      | refine IdxC.encGs (l := [(.mk ka na lsa la)]) 0 (by simp) rfl ?_
      | (refine callQ rfl rfl gf144 hK7 ?_; rintro o rfl)
      | refine callF (none_fn e) gf49 rfl rfl ?_
      | refine callF (none_fn 30) gf49 rfl rfl ?_
      | refine IdxC.encGs (l := [ut]) 0 (by simp) rfl ?_
      | refine callF hP11 gf31 rfl rfl ?_
      )
    all_goals (try (conv => whnf))
    all_goals first | exact rfl | exact OutX.err zG rfl
end Go.Proofs.YtcjkikadolnfgaaGreat


/- The reference's rules: all (printed by gxw.py). -/
set_option linter.unusedSimpArgs false
set_option linter.unusedVariables false
namespace Go.Proofs.YtcjkikadolnfgaaGreat
open Go.Vx Go.Vc Go.RowKit
set_option maxRecDepth 20000 in
set_option maxHeartbeats 2000000 in
theorem x_all (vars : List Int) (l : List Bd) (n i : Int) (nm : ByteArray) (ls : List ByteArray) (u : MG) (cu : Chk) (hcu : RKid u cu) (hv : vars.length + szM (.mk 20 n i nm ls [] [u]) ≤ 549755813888) (hl : l.length + 2 * szM (.mk 20 n i nm ls [] [u]) ≤ 549755813888) (hz : szM (.mk 20 n i nm ls [] [u]) ≤ 1073741824) (hb : Bnd l) : FnQ Tryz.prog G0 95 [dSc vars l, dM (.mk 20 n i nm ls [] [u])] (OutX ((allR n cu) vars l)) := by
  simp only [szM, szMs, szGs] at hv hl hz
  have he3 : True := trivial
  have hI := rin_fn vars n
  refine byC (P := n ∉ vars) (fun hm => ?_) (fun hm => ?_)
  have hm : n ∈ vars := Classical.byContradiction hm
  rw [decide_eq_true hm] at hI
  rw [show (allR n cu) vars l = .error 30 from by unfold allR; (try simp only [bE, askE, kidG, g_k, g_n, g_kids, gz, gs, bs, if_pos hm]); first | done | rfl]
  rotate_left
  rw [decide_eq_false hm] at hI
  have hU := under_fn vars l n (by omega)
  obtain ⟨hK1, hK1G, hK1E⟩ := hcu (vars ++ [n]) (l) (by (try simp only [lA, lC, lN]); omega) (by (try simp only [lA, lC, lN]); omega) (hb)
  refine exC (cu (vars ++ [n]) (l)) (fun e hr2 => ?_) (fun t hr2 => ?_)
  rw [hr2] at hK1
  have he3 := hK1E e hr2
  rw [show (allR n cu) vars l = .error e from by unfold allR; (try simp only [bE, askE, kidG, g_k, g_n, g_kids, gz, gs, bs, if_neg hm, hr2]); first | done | rfl]
  rotate_left
  rw [hr2] at hK1
  obtain ⟨hat, hzt⟩ := hK1G t hr2
  obtain ⟨kt, nt, lst, lt⟩ := t
  rw [show (allR n cu) vars l = .ok (.mk 10 n [] [.mk kt nt lst lt]) from by unfold allR; (try simp only [bE, askE, kidG, g_k, g_n, g_kids, gz, gs, bs, if_neg hm, hr2]); first | done | rfl]
  all_goals
    refine fnQ_of_vc txok mixed [(5, .take 0 (.pure 1 (.take 2 (.pure 4 (.take 5 (.pure 6 (.take 7 (.two 3 12 (.two 8 12 (.pure 9 (.pure 10 (.pure 11 (.run 12 (.fin 13 (.pure 14 .done)))))) (.fin 8 (.pure 9 (.pure 10 (.pure 11 (.fin 13 (.pure 14 .done))))))) (.run 3 (.fin 8 (.pure 9 (.pure 10 (.pure 11 (.fin 13 (.pure 14 .done))))))))))))))), (8, .take 0 (.pure 1 (.take 2 (.pure 3 (.take 4 (.two 5 9 (.pure 6 (.pure 7 (.pure 8 (.run 9 (.fin 10 (.pure 11 .done)))))) (.fin 5 (.pure 6 (.pure 7 (.pure 8 (.fin 10 (.pure 11 .done)))))))))))), (11, .pure 0 (.take 1 (.pure 2 (.take 3 (.pure 4 (.take 5 (.pure 6 (.take 7 (.pure 8 (.take 9 (.fin 10 (.pure 11 (.pure 12 (.fin 13 (.pure 14 .done))))))))))))))), (14, .take 0 (.pure 1 (.take 2 (.pure 3 (.take 4 (.two 5 9 (.pure 6 (.pure 7 (.pure 8 (.run 9 (.fin 10 (.pure 11 .done)))))) (.fin 5 (.pure 6 (.pure 7 (.pure 8 (.fin 10 (.pure 11 .done)))))))))))), (19, .pure 0 (.take 1 (.pure 2 (.take 3 (.pure 4 (.take 5 (.pure 6 (.take 7 (.pure 8 (.take 9 (.two 10 14 (.pure 11 (.pure 12 (.pure 13 (.run 14 (.fin 15 (.pure 16 .done)))))) (.fin 10 (.pure 11 (.pure 12 (.pure 13 (.fin 15 (.pure 16 .done))))))))))))))))), (23, .take 0 (.pure 1 (.take 2 (.pure 3 (.take 4 (.two 5 9 (.pure 6 (.pure 7 (.pure 8 (.run 9 (.fin 10 (.pure 11 .done)))))) (.fin 5 (.pure 6 (.pure 7 (.pure 8 (.fin 10 (.pure 11 .done)))))))))))), (28, .pure 0 (.take 1 (.pure 2 (.take 3 (.pure 4 (.take 5 (.pure 6 (.take 7 (.pure 8 (.two 9 13 (.pure 10 (.pure 11 (.pure 12 (.run 13 (.fin 14 (.pure 15 .done)))))) (.fin 9 (.pure 10 (.pure 11 (.pure 12 (.fin 14 (.pure 15 .done)))))))))))))))), (31, .take 0 (.pure 1 (.take 2 (.pure 4 (.take 5 (.take 6 (.pure 8 (.take 9 (.pure 10 (.take 11 (.two 3 16 (.two 7 16 (.two 12 16 (.pure 13 (.pure 14 (.pure 15 (.run 16 (.fin 17 (.pure 18 .done)))))) (.fin 12 (.pure 13 (.pure 14 (.pure 15 (.fin 17 (.pure 18 .done))))))) (.run 7 (.fin 12 (.pure 13 (.pure 14 (.pure 15 (.fin 17 (.pure 18 .done)))))))) (.run 3 (.run 7 (.fin 12 (.pure 13 (.pure 14 (.pure 15 (.fin 17 (.pure 18 .done))))))))))))))))))), (32, .pure 0 (.pure 1 (.pure 2 (.take 3 (.pure 5 (.take 6 (.run 4 (.fin 7 (.pure 8 .done)))))))))] Tryz.func95 rfl rfl (by simp) fun bb => ?_
    repeat' ((conv => whnf); first
      | refine And.intro (by kernel_rfl) ?_
      | (refine And.intro (fun h => ?_) (fun h => ?_); rotate_left; focus (exfalso; revert h; simp [MG.k, MG.n, g_k, g_n, g_kids, he3]; done))
      | (refine And.intro (fun h => ?_) (fun h => ?_); focus (exfalso; revert h; simp [MG.k, MG.n, g_k, g_n, g_kids, he3]; done))
      | refine And.intro ?_ ?_
      | refine IdxC.encMs (l := [u]) 0 (by simp) rfl ?_
      | refine callF hI gf37 rfl rfl ?_
      | refine callF (none_fn 30) gf49 rfl rfl ?_
      | refine callF hU gf145 rfl rfl ?_
      | refine callF hK1 gf50 rfl rfl ?_
      | refine callF (none_fn e) gf49 rfl rfl ?_
      )
    all_goals (try (conv => whnf))
    all_goals first | exact rfl | exact OutX.err zG rfl | exact OutX.err (TG.mk 10 n [] [zG]) rfl
end Go.Proofs.YtcjkikadolnfgaaGreat


/- The reference's rules: pack (printed by gxw.py). -/
set_option linter.unusedSimpArgs false
set_option linter.unusedVariables false
namespace Go.Proofs.YtcjkikadolnfgaaGreat
open Go.Vx Go.Vc Go.RowKit
set_option maxRecDepth 20000 in
set_option maxHeartbeats 2000000 in
theorem x_pack (vars : List Int) (l : List Bd) (n i : Int) (nm : ByteArray) (ls : List ByteArray) (a : TG) (b : TG) (u : MG) (cu : Chk) (hcu : RKid u cu) (haa : allG a = true) (hab : allG b = true) (hv : vars.length + szM (.mk 22 n i nm ls [a, b] [u]) ≤ 549755813888) (hl : l.length + 2 * szM (.mk 22 n i nm ls [a, b] [u]) ≤ 549755813888) (hz : szM (.mk 22 n i nm ls [a, b] [u]) ≤ 1073741824) (hb : Bnd l) : FnQ Tryz.prog G0 95 [dSc vars l, dM (.mk 22 n i nm ls [a, b] [u])] (OutX ((packS rputR a b cu) vars l)) := by
  simp only [szM, szMs, szGs] at hv hl hz
  have he : True := trivial
  have hkt : True := trivial
  have he3 : True := trivial
  obtain ⟨kb, nb, lsb, lb⟩ := b
  obtain ⟨ka, na, lsa, la⟩ := a
  obtain ⟨hK1, hK1G, hK1E⟩ := hcu (vars) (l) (by (try simp only [lA, lC, lN]); omega) (by (try simp only [lA, lC, lN]); omega) (hb)
  refine exC (cu (vars) (l)) (fun e hr2 => ?_) (fun w hr2 => ?_)
  rw [hr2] at hK1
  have he3 := hK1E e hr2
  rw [show (packS rputR (.mk ka na lsa la) (.mk kb nb lsb lb) cu) vars l = .error e from by unfold packS; (try simp only [bE, askE, kidG, g_k, g_n, g_kids, gz, gs, bs, hr2]); first | done | rfl]
  rotate_left
  rw [hr2] at hK1
  obtain ⟨haw, hzw⟩ := hK1G w hr2
  obtain ⟨kw, nw, lsw, lw⟩ := w
  refine byC (P := kb = 11) (fun hkt => ?_) (fun hkt => ?_)
  have hkb : (kb == 11) = false := by simpa using hkt
  rw [show (packS rputR (.mk ka na lsa la) (.mk kb nb lsb lb) cu) vars l = .error 30 from by unfold packS; (try simp only [bE, askE, kidG, g_k, g_n, g_kids, gz, gs, bs, hr2, hkb]); first | done | rfl]
  rotate_left
  subst hkt
  obtain ⟨rfl, ub, rfl⟩ := shp1 (by omega) ((allG_mk ..).1 hab).1
  have haub := ((allG_mk ..).1 hab).2 ub (by simp)
  have hzub : szG ub ≤ szG (TG.mk 11 nb [] [ub]) := by simp only [szG, szGs]; omega
  have hP4 := rputt_fn ub nb (TG.mk ka na lsa la) (by (try simp only [varG, szG, szGs] at *); omega) (by (try simp only [varG, szG, szGs] at *); omega)
  refine exC (rputR ub nb (TG.mk ka na lsa la)) (fun e hw5 => ?_) (fun z hw5 => ?_)
  rw [hw5] at hP4
  have he : e ≠ 0 := rputR_err hw5
  rw [show (packS rputR (.mk ka na lsa la) (.mk 11 nb [] [ub]) cu) vars l = .error e from by unfold packS; (try simp only [bE, askE, kidG, g_k, g_n, g_kids, gz, gs, bs, hr2, hw5]); first | done | rfl]
  rotate_left
  rw [hw5] at hP4
  obtain ⟨haz, hzz⟩ := rputR_good haub haa hw5
  have hS6 := rsameTop_fn z (.mk kw nw lsw lw) (by (try simp only [szG, szGs] at *); omega)
  refine boC (samG z (.mk kw nw lsw lw) [] []) (fun hs7 => ?_) (fun hs7 => ?_)
  rw [hs7] at hS6
  rw [sam_symB rfl (allG_okV haz) (allG_okV haw)] at hs7
  rw [show (packS rputR (.mk ka na lsa la) (.mk 11 nb [] [ub]) cu) vars l = .error 30 from by unfold packS; (try simp only [bE, askE, kidG, g_k, g_n, g_kids, gz, gs, bs, hr2, hw5, hs7]); first | done | rfl]
  rotate_left
  rw [hs7] at hS6
  rw [sam_symB rfl (allG_okV haz) (allG_okV haw)] at hs7
  rw [show (packS rputR (.mk ka na lsa la) (.mk 11 nb [] [ub]) cu) vars l = .ok (.mk 11 nb [] [ub]) from by unfold packS; (try simp only [bE, askE, kidG, g_k, g_n, g_kids, gz, gs, bs, hr2, hw5, hs7]); first | done | rfl]
  all_goals
    refine fnQ_of_vc txok mixed [(5, .take 0 (.pure 1 (.take 2 (.pure 4 (.take 5 (.pure 6 (.take 7 (.two 3 12 (.two 8 12 (.pure 9 (.pure 10 (.pure 11 (.run 12 (.fin 13 (.pure 14 .done)))))) (.fin 8 (.pure 9 (.pure 10 (.pure 11 (.fin 13 (.pure 14 .done))))))) (.run 3 (.fin 8 (.pure 9 (.pure 10 (.pure 11 (.fin 13 (.pure 14 .done))))))))))))))), (8, .take 0 (.pure 1 (.take 2 (.pure 3 (.take 4 (.two 5 9 (.pure 6 (.pure 7 (.pure 8 (.run 9 (.fin 10 (.pure 11 .done)))))) (.fin 5 (.pure 6 (.pure 7 (.pure 8 (.fin 10 (.pure 11 .done)))))))))))), (11, .pure 0 (.take 1 (.pure 2 (.take 3 (.pure 4 (.take 5 (.pure 6 (.take 7 (.pure 8 (.take 9 (.fin 10 (.pure 11 (.pure 12 (.fin 13 (.pure 14 .done))))))))))))))), (14, .take 0 (.pure 1 (.take 2 (.pure 3 (.take 4 (.two 5 9 (.pure 6 (.pure 7 (.pure 8 (.run 9 (.fin 10 (.pure 11 .done)))))) (.fin 5 (.pure 6 (.pure 7 (.pure 8 (.fin 10 (.pure 11 .done)))))))))))), (19, .pure 0 (.take 1 (.pure 2 (.take 3 (.pure 4 (.take 5 (.pure 6 (.take 7 (.pure 8 (.take 9 (.two 10 14 (.pure 11 (.pure 12 (.pure 13 (.run 14 (.fin 15 (.pure 16 .done)))))) (.fin 10 (.pure 11 (.pure 12 (.pure 13 (.fin 15 (.pure 16 .done))))))))))))))))), (23, .take 0 (.pure 1 (.take 2 (.pure 3 (.take 4 (.two 5 9 (.pure 6 (.pure 7 (.pure 8 (.run 9 (.fin 10 (.pure 11 .done)))))) (.fin 5 (.pure 6 (.pure 7 (.pure 8 (.fin 10 (.pure 11 .done)))))))))))), (28, .pure 0 (.take 1 (.pure 2 (.take 3 (.pure 4 (.take 5 (.pure 6 (.take 7 (.pure 8 (.two 9 13 (.pure 10 (.pure 11 (.pure 12 (.run 13 (.fin 14 (.pure 15 .done)))))) (.fin 9 (.pure 10 (.pure 11 (.pure 12 (.fin 14 (.pure 15 .done)))))))))))))))), (31, .take 0 (.pure 1 (.take 2 (.pure 4 (.take 5 (.take 6 (.pure 8 (.take 9 (.pure 10 (.take 11 (.two 3 16 (.two 7 16 (.two 12 16 (.pure 13 (.pure 14 (.pure 15 (.run 16 (.fin 17 (.pure 18 .done)))))) (.fin 12 (.pure 13 (.pure 14 (.pure 15 (.fin 17 (.pure 18 .done))))))) (.run 7 (.fin 12 (.pure 13 (.pure 14 (.pure 15 (.fin 17 (.pure 18 .done)))))))) (.run 3 (.run 7 (.fin 12 (.pure 13 (.pure 14 (.pure 15 (.fin 17 (.pure 18 .done))))))))))))))))))), (32, .pure 0 (.pure 1 (.pure 2 (.take 3 (.pure 5 (.take 6 (.run 4 (.fin 7 (.pure 8 .done)))))))))] Tryz.func95 rfl rfl (by simp) fun bb => ?_
    repeat' ((conv => whnf); first
      | refine And.intro (by kernel_rfl) ?_
      | (refine And.intro (fun h => ?_) (fun h => ?_); rotate_left; focus (exfalso; revert h; simp [MG.k, MG.n, g_k, g_n, g_kids, he3, hkt, he]; done))
      | (refine And.intro (fun h => ?_) (fun h => ?_); focus (exfalso; revert h; simp [MG.k, MG.n, g_k, g_n, g_kids, he3, hkt, he]; done))
      | refine And.intro ?_ ?_
      | refine IdxC.encMs (l := [u]) 0 (by simp) rfl ?_
      | refine IdxC.encGs (l := [(.mk ka na lsa la), (.mk kb nb lsb lb)]) 0 (by simp) rfl ?_
      | refine IdxC.encGs (l := [(.mk ka na lsa la), (.mk kb nb lsb lb)]) 1 (by simp) rfl ?_
      | refine callF hK1 gf50 rfl rfl ?_
      | refine callF (none_fn e) gf49 rfl rfl ?_
      | refine callF (none_fn 30) gf49 rfl rfl ?_
      | refine IdxC.encGs (l := [(.mk ka na lsa la), (.mk 11 nb [] [ub])]) 0 (by simp) rfl ?_
      | refine IdxC.encGs (l := [(.mk ka na lsa la), (.mk 11 nb [] [ub])]) 1 (by simp) rfl ?_
      | refine IdxC.encGs (l := [ub]) 0 (by simp) rfl ?_
      | refine callF hP4 gf31 rfl rfl ?_
      | refine callF hS6 gf10 rfl rfl ?_
      )
    all_goals (try (conv => whnf))
    all_goals first | exact rfl | exact OutX.err zG rfl | exact OutX.err (.mk 11 nb [] [ub]) rfl
end Go.Proofs.YtcjkikadolnfgaaGreat


