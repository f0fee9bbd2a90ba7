/- Texts of mine, joined: Dy Aa Ab Ac Ad Ae Af Ag Ah Ai Aj Al Ao Aq Ar As. -/
import Derived.Test.YtcjkikadolnfgaaGreatPaw
import Derived.Test.YtcjkikadolnfgaaGreatPau
/- The reference's checker is the plain one, with its own way of putting in. -/
set_option linter.unusedSimpArgs false
set_option linter.unusedVariables false
namespace Go.Proofs.YtcjkikadolnfgaaGreat
open Go.Vx Go.Vc Go.RowKit
theorem rk {vars : List Int} {l : List Bd} {m : MG} {sub whole : Except Int TG} {b : Bool} {B : Nat} (hT : FnR Tryz.prog G0 50 [dSc vars l, dM m] (outE (if b = true then fitE sub else .error 30))) (hG : GoodX B sub) (e : whole = if b = true then fitE sub else .error 30) :
    FnR Tryz.prog G0 50 [dSc vars l, dM m] (outE whole) ∧ (∀ t, whole = .ok t → allG t = true ∧ szG t ≤ 1048576) ∧ ∀ e, whole = .error e → e ≠ 0 := by
  subst e
  refine ⟨hT, ?_⟩
  cases b
  · exact GoodX.err (by decide)
  · exact hG.fit
theorem insA1 (a : TG) (vars : List Int) (r : Except Int TG) : fitE (askE (insG a vars) r) = if insAll vars [a] = true then fitE r else .error 30 := by
  unfold insAll
  cases h : insG a vars <;> simp [h, askE] <;> rfl
theorem insA2 (a b : TG) (vars : List Int) (r : Except Int TG) : fitE (askE (insG a vars) (askE (insG b vars) r)) = if insAll vars [a, b] = true then fitE r else .error 30 := by
  unfold insAll
  cases h : insG a vars <;> cases h' : insG b vars <;> simp [h, h', askE] <;> rfl
theorem ofLt {B : Nat} (hB : B < 4611686018427387904) {r : Except Int TG} (h : GoodX B r) : ∀ t, r = .ok t → szG t < 4611686018427387904 := fun t ht => Nat.lt_of_le_of_lt (h.1 t ht).2 hB
theorem casK_errs (vars : List Int) (l : List Bd) : ∀ (ls : List ByteArray) (ts : List TG) (ks : List MG) (cs : List Chk), ts.length = ls.length → ks.length = ls.length → cs.length = ks.length → (∀ (j : Nat) (h : j < ks.length) (h' : j < cs.length), RKid ks[j] cs[j]) → (∀ t ∈ ts, allG t = true ∧ szG t ≤ 1073741824) → vars.length + szMs ks ≤ 549755813888 → l.length + 1 + 2 * szMs ks ≤ 549755813888 → Bnd l → ∀ e, casK ls ts cs vars l = .error e → e ≠ 0
  | [], [], [], [], _, _, _, _, _, _, _, _ => nofun
  | nm :: ls, t :: ts, m :: ks, c :: cs, h1, h2, h3, hc, ht, hv, hz, hb => fun e h => by
    simp only [szMs] at hv hz
    have hm : 1 ≤ szM m := by cases m; simp only [szM]; omega
    have hB : Bnd (l ++ [(nm, t)]) := hb.snoc (ht t (by simp)).1 (ht t (by simp)).2
    have g1 := (hc 0 (by simp) (by simp) vars (l ++ [(nm, t)]) (by simp only [List.getElem_cons_zero]; omega) (by simp only [List.getElem_cons_zero, List.length_append, List.length_cons, List.length_nil]; omega) hB).2.2
    simp only [List.getElem_cons_zero] at g1
    rw [casK] at h
    cases hr : c vars (l ++ [(nm, t)]) with
    | error e' => rw [hr] at h; injection h with h; subst h; exact g1 _ hr
    | ok v =>
      rw [hr] at h
      cases hq : casK ls ts cs vars l with
      | error e' =>
        rw [hq] at h; injection h with h; subst h
        exact casK_errs vars l ls ts ks cs (by simpa using h1) (by simpa using h2) (by simpa using h3) (fun j h h' => hc (j + 1) (by simpa using h) (by simpa using h')) (fun t h => ht t (by simp [h])) (by omega) (by omega) hb _ hq
      | ok vs => rw [hq] at h; cases h
  | [], _ :: _, _, _, h, _, _, _, _, _, _, _ => by simp at h
  | [], _, _ :: _, _, _, h, _, _, _, _, _, _ => by simp at h
  | [], _, [], _ :: _, _, _, h, _, _, _, _, _ => by simp at h
  | _ :: _, [], _, _, h, _, _, _, _, _, _, _ => by simp at h
  | _ :: _, _, [], _, _, h, _, _, _, _, _, _ => by simp at h
  | _ :: _, _, _ :: _, [], _, _, h, _, _, _, _, _ => by simp at h
set_option maxRecDepth 20000 in
theorem rchk_ok : ∀ m : MG, allM m = true → szM m ≤ 1073741824 → RKid m (chk rputR m) := by
  refine MG.ind fun k n i nm ls ts ks ih ha hz vars l hv hl hb => ?_
  obtain ⟨h1, h25, hbad, hend, hta, hka⟩ := shp_all ha
  obtain ⟨hT, hK⟩ := shp_len hbad
  have hsz := szM_eq (.mk k n i nm ls ts ks)
  simp only [MG.ks, MG.ts] at hsz
  have kid : ∀ u ∈ ks, RKid u (chk rputR u) := fun u hu => ih u hu (hka u hu) (by have := szM_mem hu; omega)
  have htz : ∀ t ∈ ts, szG t < 1099511627776 := fun t ht => by have := szG_mem ht; omega
  have one : ∀ {α : Type} {q : List α}, (q.length : Int) = 1 → ∃ a, q = [a] := fun h => List.length_eq_one_iff.1 (by omega)
  have two : ∀ {α : Type} {q : List α}, (q.length : Int) = 2 → ∃ a b, q = [a, b] := fun h => len2 (by omega)
  have nil : ∀ {α : Type} {q : List α}, (q.length : Int) = 0 → q = [] := fun h => List.eq_nil_of_length_eq_zero (by omega)
  rw [chk_mk, chks_map]
  have hk : k = 1 ∨ k = 2 ∨ k = 3 ∨ k = 4 ∨ k = 5 ∨ k = 6 ∨ k = 7 ∨ k = 8 ∨ k = 9 ∨ k = 10 ∨ k = 11 ∨ k = 12 ∨ k = 13 ∨ k = 14 ∨ k = 15 ∨ k = 16 ∨ k = 17 ∨ k = 18 ∨ k = 19 ∨ k = 20 ∨ k = 21 ∨ k = 22 ∨ k = 23 ∨ k = 24 ∨ k = 25 := by omega
  rcases hk with rfl | rfl | rfl | rfl | rfl | rfl | rfl | rfl | rfl | rfl | rfl | rfl | rfl | rfl | rfl | rfl | rfl | rfl | rfl | rfl | rfl | rfl | rfl | rfl | rfl
  · obtain rfl := nil hT; obtain rfl := nil (hK (by decide))
    have hG : GoodX 3 (plainR 1 vars l) := GoodX.ok rfl (by simp [szG, szGs])
    exact rk (t_plain 1 (by decide) vars l n i nm ls [] [] _ htz (fun _ => x_plain1 vars l n i nm ls hv hl hz hb) hG.2 (ofLt (by decide) hG)) hG rfl
  · obtain rfl := nil hT; obtain rfl := nil (hK (by decide))
    have hG : GoodX 3 (plainR 2 vars l) := GoodX.ok rfl (by simp [szG, szGs])
    exact rk (t_plain 2 (by decide) vars l n i nm ls [] [] _ htz (fun _ => x_plain2 vars l n i nm ls hv hl hz hb) hG.2 (ofLt (by decide) hG)) hG rfl
  · obtain rfl := nil hT; obtain rfl := nil (hK (by decide))
    have hG : GoodX 3 (plainR 3 vars l) := GoodX.ok rfl (by simp [szG, szGs])
    exact rk (t_plain 3 (by decide) vars l n i nm ls [] [] _ htz (fun _ => x_plain3 vars l n i nm ls hv hl hz hb) hG.2 (ofLt (by decide) hG)) hG rfl
  · obtain rfl := nil hT
    have hG : GoodX 1073741824 (lookR l nm) := GoodX.look hb nm
    exact rk (t_plain 4 (by decide) vars l n i nm ls [] ks _ htz (fun _ => x_var vars l n i nm ls [] ks (by omega)) hG.2 (ofLt (by decide) hG)) hG rfl
  · obtain ⟨a, rfl⟩ := one hT; obtain ⟨u, rfl⟩ := one (hK (by decide))
    simp only [szMs, szGs] at hsz
    have haa := hta a (by simp)
    have hG : GoodX 2199023255552 (lamS nm a (chk rputR u) vars l) := (GoodX.kid (kid u (by simp)) (by omega) (by simp only [List.length_append, List.length_cons, List.length_nil]; omega) (hb.snoc haa (by omega))).bE fun t _ hat hzt => GoodX.ok (all2 (by omega) haa hat) (by simp only [szG, szGs]; omega)
    exact rk (t_function 5 (by decide) vars l n i nm ls [a] [u] _ htz (fun _ => x_lam vars l n i nm ls a u _ (kid u (by simp)) haa hv hl hz hb) hG.2 (ofLt (by decide) hG)) hG (insA1 a vars _)
  · obtain rfl := nil hT; obtain ⟨u, v, rfl⟩ := two (hK (by decide))
    simp only [szMs, szGs] at hsz
    have hG : GoodX 1048576 (appRl (chk rputR u) (chk rputR v) vars l) := (GoodX.kid (kid u (by simp)) (by omega) (by omega) hb).bE fun f _ haf hzf => (GoodX.kid (kid v (by simp)) (by omega) (by omega) hb).bE fun x _ _ _ => GoodX.ask fun e => GoodX.ask fun _ => by
      have := (kidG_two (.inl rfl) e haf).2
      exact GoodX.ok this.1 (by omega)
    exact rk (t_function 6 (by decide) vars l n i nm ls [] [u, v] _ htz (fun _ => x_app vars l n i nm ls u v _ (kid u (by simp)) _ (kid v (by simp)) hv hl hz hb) hG.2 (ofLt (by decide) hG)) hG rfl
  · obtain ⟨a, b, rfl⟩ := two hT; obtain ⟨u, rfl⟩ := one (hK (by decide))
    have hlb : (ls.length : Int) = 1 := by
      unfold endM at hend
      rw [if_neg (by decide), if_neg (by decide)] at hend
      split at hend
      · cases hend
      · rename_i h; simpa [shpOf, shpTab, MG.ls] using h
    obtain ⟨lb, rfl⟩ := one hlb
    simp only [szMs, szGs] at hsz
    have haa := hta a (by simp)
    have hbb := hta b (by simp)
    have hG : GoodX 1048576 (fixS nm lb a b (chk rputR u) vars l) := (GoodX.fitR (all2 (.inl rfl) haa hbb)).bE fun f _ haf hzf => (GoodX.kid (kid u (by simp)) (by omega) (by simp only [List.length_append, List.length_cons, List.length_nil]; omega) ((hb.snoc haf (by omega)).snoc haa (by omega))).bE fun x _ _ _ => GoodX.ask fun _ => GoodX.ok haf hzf
    exact rk (t_function 7 (by decide) vars l n i nm [lb] [a, b] [u] _ htz (fun _ => x_fix vars l n i nm [lb] lb a b u _ (kid u (by simp)) haa hbb hv hl hz hb) hG.2 (ofLt (by decide) hG)) hG (insA2 a b vars _)
  · obtain rfl := nil hT; obtain ⟨u, v, rfl⟩ := two (hK (by decide))
    simp only [szMs, szGs] at hsz
    have hG : GoodX 1048576 (letR nm (chk rputR u) (chk rputR v) vars l) := (GoodX.kid (kid u (by simp)) (by omega) (by omega) hb).bE fun f _ haf hzf => GoodX.kid (kid v (by simp)) (by omega) (by simp only [List.length_append, List.length_cons, List.length_nil]; omega) (hb.snoc haf (by omega))
    exact rk (t_function 8 (by decide) vars l n i nm ls [] [u, v] _ htz (fun _ => x_let vars l n i nm ls u v _ (kid u (by simp)) _ (kid v (by simp)) hv hl hz hb) hG.2 (ofLt (by decide) hG)) hG rfl
  · obtain rfl := nil hT; obtain ⟨u, v, rfl⟩ := two (hK (by decide))
    simp only [szMs, szGs] at hsz
    have hG : GoodX 2199023255552 (pairR (chk rputR u) (chk rputR v) vars l) := (GoodX.kid (kid u (by simp)) (by omega) (by omega) hb).bE fun f _ haf hzf => (GoodX.kid (kid v (by simp)) (by omega) (by omega) hb).bE fun x _ hax hzx => GoodX.ok (all2 (.inr rfl) haf hax) (by simp only [szG, szGs]; omega)
    exact rk (t_simple 9 (by decide) vars l n i nm ls [] [u, v] _ htz (fun _ => x_pair vars l n i nm ls u v _ (kid u (by simp)) _ (kid v (by simp)) hv hl hz hb) hG.2 (ofLt (by decide) hG)) hG rfl
  · obtain rfl := nil hT; obtain ⟨u, rfl⟩ := one (hK (by decide))
    simp only [szMs, szGs] at hsz
    have hG : GoodX 1048576 (halfR 0 (chk rputR u) vars l) := (GoodX.kid (kid u (by simp)) (by omega) (by omega) hb).bE fun f _ haf hzf => GoodX.ask fun e => by
      have := (kidG_two (.inr rfl) e haf).1
      exact GoodX.ok this.1 (by omega)
    exact rk (t_simple 10 (by decide) vars l n i nm ls [] [u] _ htz (fun _ => x_half10 vars l n i nm ls u _ (kid u (by simp)) hv hl hz hb) hG.2 (ofLt (by decide) hG)) hG rfl
  · obtain rfl := nil hT; obtain ⟨u, rfl⟩ := one (hK (by decide))
    simp only [szMs, szGs] at hsz
    have hG : GoodX 1048576 (halfR 1 (chk rputR u) vars l) := (GoodX.kid (kid u (by simp)) (by omega) (by omega) hb).bE fun f _ haf hzf => GoodX.ask fun e => by
      have := (kidG_two (.inr rfl) e haf).2
      exact GoodX.ok this.1 (by omega)
    exact rk (t_simple 11 (by decide) vars l n i nm ls [] [u] _ htz (fun _ => x_half11 vars l n i nm ls u _ (kid u (by simp)) hv hl hz hb) hG.2 (ofLt (by decide) hG)) hG rfl
  · obtain rfl := nil hT; obtain ⟨u, v, w, rfl⟩ := len3 (by have := hK (by decide); exact Int.ofNat.inj this : ks.length = 3)
    simp only [szMs, szGs] at hsz
    have hG : GoodX 1048576 (chooseR (chk rputR u) (chk rputR v) (chk rputR w) vars l) := (GoodX.kid (kid u (by simp)) (by omega) (by omega) hb).bE fun f _ haf hzf => (GoodX.kid (kid v (by simp)) (by omega) (by omega) hb).bE fun x _ hax hzx => (GoodX.kid (kid w (by simp)) (by omega) (by omega) hb).bE fun y _ _ _ => GoodX.ask fun _ => GoodX.ask fun _ => GoodX.ok hax hzx
    exact rk (t_simple 12 (by decide) vars l n i nm ls [] [u, v, w] _ htz (fun _ => x_choose vars l n i nm ls u v w _ (kid u (by simp)) _ (kid v (by simp)) _ (kid w (by simp)) hv hl hz hb) hG.2 (ofLt (by decide) hG)) hG rfl
  · obtain rfl := nil hT; obtain ⟨u, v, rfl⟩ := two (hK (by decide))
    simp only [szMs, szGs] at hsz
    have h6 : n ≤ 6 := by
      unfold endM at hend
      rw [if_neg (by decide), if_neg (by decide)] at hend
      split at hend
      · cases hend
      · have e2 : ¬ ((13 : Int) = 2) := by decide
        simp only [MG.k, if_neg e2, if_true, Bool.and_eq_true, decide_eq_true_eq, MG.n] at hend
        exact of_decide_eq_true hend.2
    have hG : GoodX 3 (binR n (chk rputR u) (chk rputR v) vars l) := (GoodX.kid (kid u (by simp)) (by omega) (by omega) hb).bE fun f _ haf hzf => (GoodX.kid (kid v (by simp)) (by omega) (by omega) hb).bE fun x _ hax hzx => GoodX.ask fun _ => by
      split
      · exact GoodX.ok rfl (by simp [szG, szGs])
      · exact GoodX.ok rfl (by simp [szG, szGs])
    exact rk (t_simple 13 (by decide) vars l n i nm ls [] [u, v] _ htz (fun _ => x_bin vars l n i nm ls u v _ (kid u (by simp)) _ (kid v (by simp)) hv hl hz hb h6) hG.2 (ofLt (by decide) hG)) hG rfl
  · obtain rfl := nil hT
    simp only [szGs] at hsz
    have hsh : ls.length = ks.length ∧ ordS ls = true := by
      unfold endM at hend
      rw [if_pos (by decide), Bool.and_eq_true, beq_iff_eq] at hend
      exact ⟨Int.ofNat.inj hend.1, hend.2⟩
    have hc : ∀ (j : Nat) (h : j < ks.length) (h' : j < (ks.map (chk rputR)).length), RKid ks[j] (ks.map (chk rputR))[j] := fun j h h' => by rw [List.getElem_map]; exact kid _ (List.getElem_mem h)
    obtain ⟨q1, q2⟩ := recK_err vars l ks (ks.map (chk rputR)) (by simp) hc (by omega) (by omega) hb
    have hkl := szMs_len ks
    have hG : GoodX 2251799813685248 (recR ls (ks.map (chk rputR)) vars l) := by
      unfold recR
      cases hq : recK (ks.map (chk rputR)) vars l with
      | error e => exact GoodX.err (q1 e hq)
      | ok us =>
        obtain ⟨q3, q4, q5⟩ := q2 us hq
        refine GoodX.ok ((allG_mk ..).2 ⟨?_, fun t ht => (q4 t ht).1⟩) (by simp only [szG]; omega)
        rw [shpG_mk, if_neg (by decide), if_neg (by decide), if_neg (by decide), if_pos (by decide), hsh.2, q3, hsh.1]
        simp
    exact rk (t_data 14 (by decide) vars l n i nm ls [] ks _ htz (fun _ => x_rec vars l n i nm ls ks _ (by simp) hc hv hl hz hb) hG.2 (ofLt (by decide) hG)) hG rfl
  · obtain rfl := nil hT; obtain ⟨u, rfl⟩ := one (hK (by decide))
    simp only [szMs, szGs] at hsz
    have hG : GoodX 1048576 (selR nm (chk rputR u) vars l) := (GoodX.kid (kid u (by simp)) (by omega) (by omega) hb).bE fun f _ haf hzf => GoodX.ask fun e => by
      cases hj : idxB f.ls nm with
      | none => exact GoodX.err (by decide)
      | some j =>
        obtain ⟨kf, nf, lsf, lf⟩ := f
        have e : kf = 7 := by simpa [g_k] using e
        subst e
        have hshp := ((allG_mk ..).1 haf).1
        rw [shpG_mk, if_neg (by decide), if_neg (by decide), if_neg (by decide), if_pos (by decide)] at hshp
        simp only [Bool.and_eq_true, beq_iff_eq] at hshp
        have hjl : j < lf.length := by
          unfold idxB at hj
          have := (List.findIdx?_eq_some_iff_getElem.1 hj).1
          have h2 : (TG.mk 7 nf lsf lf).ls = lsf := rfl
          rw [h2] at this
          omega
        have := kidG_in haf j hjl
        exact GoodX.ok this.1 (by omega)
    exact rk (t_data 15 (by decide) vars l n i nm ls [] [u] _ htz (fun _ => x_sel vars l n i nm ls u _ (kid u (by simp)) hv hl hz hb) hG.2 (ofLt (by decide) hG)) hG rfl
  · obtain ⟨a, rfl⟩ := one hT; obtain ⟨u, rfl⟩ := one (hK (by decide))
    have hn : 0 ≤ n := by
      unfold endM at hend
      rw [if_neg (by decide), if_neg (by decide)] at hend
      split at hend
      · cases hend
      · have e2 : ¬ ((16 : Int) = 2) := by decide
        have e13 : ¬ ((16 : Int) = 13) := by decide
        simp only [MG.k, if_neg e2, if_neg e13, if_true, decide_eq_true_eq, MG.n] at hend
        exact of_decide_eq_true hend
    obtain ⟨j, rfl⟩ : ∃ j : Nat, n = (j : Int) := ⟨n.toNat, by omega⟩
    simp only [szMs, szGs] at hsz
    have haa := hta a (by simp)
    have hG : GoodX 1073741824 (injS a (j : Int) (chk rputR u) vars l) := (GoodX.kid (kid u (by simp)) (by omega) (by omega) hb).bE fun f _ haf hzf => GoodX.ask fun _ => GoodX.ask fun _ => GoodX.ok haa (by omega)
    exact rk (t_data 16 (by decide) vars l (j : Int) i nm ls [a] [u] _ htz (fun _ => x_inj vars l (j : Int) i nm ls j a u _ (kid u (by simp)) haa hv hl hz hb) hG.2 (ofLt (by decide) hG)) hG (insA1 a vars _)
  · obtain rfl := nil hT
    have hlen : ks.length = ls.length + 1 := by
      unfold endM at hend
      rw [if_neg (by decide), if_pos (by decide), beq_iff_eq] at hend
      simp only [MG.ks, MG.ls] at hend; omega
    obtain ⟨u, r, rfl⟩ : ∃ u r, ks = u :: r := by
      cases ks with
      | nil => simp at hlen
      | cons u r => exact ⟨u, r, rfl⟩
    simp only [szMs, szGs] at hsz
    have hum : 1 ≤ szM u := by cases u; simp only [szM]; omega
    have hc : ∀ (j : Nat) (h : j < r.length) (h' : j < (r.map (chk rputR)).length), RKid r[j] (r.map (chk rputR))[j] := fun j h h' => by rw [List.getElem_map]; exact kid _ (List.mem_cons_of_mem _ (List.getElem_mem h))
    have hlr : r.length = ls.length := by simpa using hlen
    have hG : GoodX 1048576 (casesR ls (chk rputR u :: r.map (chk rputR)) vars l) := by
      unfold casesR
      refine (GoodX.kid (kid u (by simp)) (by omega) (by omega) hb).bE fun f _ haf hzf => GoodX.ask fun e => ?_
      simp only [Bool.and_eq_true, decide_eq_true_eq] at e
      have hlf : ∀ t ∈ f.kids, allG t = true ∧ szG t ≤ 1073741824 := by
        obtain ⟨kf, nf, lsf, lf⟩ := f
        exact fun t ht => ⟨((allG_mk ..).1 haf).2 t ht, by have := szG_mem (l := lf) ht; simp only [szG] at hzf; omega⟩
      have hgood := casK_err vars l ls f.kids r (r.map (chk rputR)) e.1.2 hlr (by simp) hc hlf (by omega) (by omega) hb
      have herr := casK_errs vars l ls f.kids r (r.map (chk rputR)) e.1.2 hlr (by simp) hc hlf (by omega) (by omega) hb
      show GoodX 1048576 (match casK ls f.kids (r.map (chk rputR)) vars l with | .error e => .error e | .ok us => askE (allSame us) (.ok (us.headD zG)))
      cases hq : casK ls f.kids (r.map (chk rputR)) vars l with
      | error e => exact GoodX.err (herr e hq)
      | ok us =>
        obtain ⟨h3, h4⟩ := hgood us hq
        refine GoodX.ask fun _ => ?_
        cases us with
        | nil => simp at h3; omega
        | cons a q => exact GoodX.ok (h4 a (by simp)).1 (h4 a (by simp)).2
    exact rk (t_data 17 (by decide) vars l n i nm ls [] (u :: r) _ htz (fun _ => x_cases vars l n i nm ls u r _ _ (kid u (by simp)) (by simp) hc hlr hv hl hz hb) hG.2 (ofLt (by decide) hG)) hG rfl
  · obtain ⟨a, rfl⟩ := one hT; obtain ⟨u, rfl⟩ := one (hK (by decide))
    simp only [szMs, szGs] at hsz
    have haa := hta a (by simp)
    have hG : GoodX 1073741824 (foldS rputR a (chk rputR u) vars l) := (GoodX.kid (kid u (by simp)) (by omega) (by omega) hb).bE fun f _ haf hzf => GoodX.ask fun e => (GoodX.put (kidG_one (.inl rfl) e haa).1 haa).bE fun w _ _ _ => GoodX.ask fun _ => GoodX.ok haa (by omega)
    exact rk (t_folded 18 (by decide) vars l n i nm ls [a] [u] _ htz (fun _ => x_fold vars l n i nm ls a u _ (kid u (by simp)) haa hv hl hz hb) hG.2 (ofLt (by decide) hG)) hG (insA1 a vars _)
  · obtain rfl := nil hT; obtain ⟨u, rfl⟩ := one (hK (by decide))
    simp only [szMs, szGs] at hsz
    have hG : GoodX 1048576 (unfoldR rputR (chk rputR u) vars l) := (GoodX.kid (kid u (by simp)) (by omega) (by omega) hb).bE fun f _ haf hzf => GoodX.ask fun e => GoodX.put (kidG_one (.inl rfl) e haf).1 haf
    exact rk (t_folded 19 (by decide) vars l n i nm ls [] [u] _ htz (fun _ => x_unfold vars l n i nm ls u _ (kid u (by simp)) hv hl hz hb) hG.2 (ofLt (by decide) hG)) hG rfl
  · obtain rfl := nil hT; obtain ⟨u, rfl⟩ := one (hK (by decide))
    simp only [szMs, szGs] at hsz
    have hG : GoodX 2199023255552 (allR n (chk rputR u) vars l) := by
      unfold allR
      split
      · exact GoodX.err (by decide)
      · exact (GoodX.kid (kid u (by simp)) (by simp only [List.length_append, List.length_cons, List.length_nil]; omega) (by omega) hb).bE fun f _ haf hzf => GoodX.ok ((allG_mk ..).2 ⟨rfl, fun v hv => by rw [List.mem_singleton.1 hv]; exact haf⟩) (by simp only [szG, szGs]; omega)
    exact rk (t_general 20 (by decide) vars l n i nm ls [] [u] _ htz (fun _ => x_all vars l n i nm ls u _ (kid u (by simp)) hv hl hz hb) hG.2 (ofLt (by decide) hG)) hG rfl
  · obtain ⟨a, rfl⟩ := one hT; obtain ⟨u, rfl⟩ := one (hK (by decide))
    simp only [szMs, szGs] at hsz
    have haa := hta a (by simp)
    have hG : GoodX 1048576 (instS rputR a (chk rputR u) vars l) := (GoodX.kid (kid u (by simp)) (by omega) (by omega) hb).bE fun f _ haf hzf => GoodX.ask fun e => GoodX.put (kidG_one (.inr (.inl rfl)) e haf).1 haa
    exact rk (t_general 21 (by decide) vars l n i nm ls [a] [u] _ htz (fun _ => x_inst vars l n i nm ls a u _ (kid u (by simp)) haa hv hl hz hb) hG.2 (ofLt (by decide) hG)) hG (insA1 a vars _)
  · obtain ⟨a, b, rfl⟩ := two hT; obtain ⟨u, rfl⟩ := one (hK (by decide))
    simp only [szMs, szGs] at hsz
    have haa := hta a (by simp)
    have hbb := hta b (by simp)
    have hG : GoodX 1073741824 (packS rputR a b (chk rputR u) vars l) := (GoodX.kid (kid u (by simp)) (by omega) (by omega) hb).bE fun f _ haf hzf => GoodX.ask fun e => (GoodX.put (kidG_one (.inr (.inr rfl)) e hbb).1 haa).bE fun w _ _ _ => GoodX.ask fun _ => GoodX.ok hbb (by omega)
    exact rk (t_general 22 (by decide) vars l n i nm ls [a, b] [u] _ htz (fun _ => x_pack vars l n i nm ls a b u _ (kid u (by simp)) haa hbb hv hl hz hb) hG.2 (ofLt (by decide) hG)) hG (insA2 a b vars _)
  · obtain rfl := nil hT; obtain ⟨u, v, rfl⟩ := two (hK (by decide))
    simp only [szMs, szGs] at hsz
    have hG : GoodX 1048576 (openR rputR n nm (chk rputR u) (chk rputR v) vars l) := (GoodX.kid (kid u (by simp)) (by omega) (by omega) hb).bE fun f _ haf hzf => GoodX.ask fun e => by
      split
      · exact GoodX.err (by decide)
      · exact (GoodX.put (kidG_one (.inr (.inr rfl)) e haf).1 (allG_var n)).bE fun w _ haw hzw => (GoodX.kid (kid v (by simp)) (by simp only [List.length_append, List.length_cons, List.length_nil]; omega) (by simp only [List.length_append, List.length_cons, List.length_nil]; omega) (hb.snoc haw (by omega))).bE fun y _ hay hzy => GoodX.ask fun _ => GoodX.ok hay hzy
    exact rk (t_general 23 (by decide) vars l n i nm ls [] [u, v] _ htz (fun _ => x_opened vars l n i nm ls u v _ (kid u (by simp)) _ (kid v (by simp)) hv hl hz hb) hG.2 (ofLt (by decide) hG)) hG rfl
  · obtain ⟨a, rfl⟩ := one hT; obtain rfl := nil (hK (by decide))
    simp only [szMs, szGs] at hsz
    have haa := hta a (by simp)
    have hG : GoodX 1073741824 (failS a vars l) := GoodX.ok haa (by omega)
    exact rk (t_plain 24 (by decide) vars l n i nm ls [a] [] _ htz (fun _ => x_fail vars l n i nm ls a haa hv hl hz hb) hG.2 (ofLt (by decide) hG)) hG (insA1 a vars _)
  · obtain rfl := nil hT; obtain ⟨u, rfl⟩ := one (hK (by decide))
    simp only [szMs, szGs] at hsz
    have hG : GoodX 1048576 (tickS (chk rputR u) vars l) := GoodX.kid (kid u (by simp)) (by omega) (by omega) hb
    exact rk (t_plain 25 (by decide) vars l n i nm ls [] [u] _ htz (fun _ => x_tick vars l n i nm ls u _ (kid u (by simp)) hv hl hz hb) hG.2 (ofLt (by decide) hG)) hG rfl
end Go.Proofs.YtcjkikadolnfgaaGreat


/- Rules: app (printed by gzw.py). -/
set_option linter.unusedSimpArgs false
set_option linter.unusedVariables false
namespace Go.Proofs.YtcjkikadolnfgaaGreat
open Go.Vx Go.Vc Go.RowKit
set_option maxRecDepth 20000 in
set_option maxHeartbeats 2000000 in
theorem appW_fn (vars : List Int) (l : List Bd) (n i : Int) (nm : ByteArray) (ls : List ByteArray) (u : MG) (v : MG) (cu : Chk) (hcu : KidOk u cu) (cv : Chk) (hcv : KidOk v cv) (hv : vars.length + szM (.mk 6 n i nm ls [] [u, v]) ≤ 549755813888) (hl : l.length + 2 * szM (.mk 6 n i nm ls [] [u, v]) ≤ 549755813888) (hz : szM (.mk 6 n i nm ls [] [u, v]) ≤ 1073741824) (hb : Bnd l) : FnQ Tryz.prog G0 119 [dSc vars l, dM (.mk 6 n i nm ls [] [u, v])] (fun o => o = resO ((appRl cu cv) vars l)) ∧ ∀ t, (appRl cu cv) vars l = .ok t → allG t = true ∧ szG t ≤ 2147483648 := by
  simp only [szM, szMs, szGs] at hv hl hz
  unfold appRl
  try simp only []
  have hK0 := hcu (vars) (l) (by (try simp only [lA, lC, lN]); omega) (by (try simp only [lA, lC, lN]); omega) (hb)
  obtain ⟨hK0, hK0G⟩ := hK0
  refine exC (cu (vars) (l)) (fun e hr0 => ?_) (fun f hr0 => ?_)
  rw [hr0] at hK0
  (try simp only [bE, askE, kidG, g_k, g_n, g_kids, gz, gs, bs, hr0])
  first | refine And.intro ?_ nofun | refine And.intro ?_ (by simp) | skip
  rotate_left
  rw [hr0] at hK0
  obtain ⟨haf, hzf⟩ := hK0G f hr0
  have hK2 := hcv (vars) (l) (by (try simp only [lA, lC, lN]); omega) (by (try simp only [lA, lC, lN]); omega) (hb)
  obtain ⟨hK2, hK2G⟩ := hK2
  refine exC (cv (vars) (l)) (fun e hr2 => ?_) (fun x hr2 => ?_)
  rw [hr2] at hK2
  (try simp only [bE, askE, kidG, g_k, g_n, g_kids, gz, gs, bs, hr0, hr2])
  first | refine And.intro ?_ nofun | refine And.intro ?_ (by simp) | skip
  rotate_left
  rw [hr2] at hK2
  obtain ⟨hax, hzx⟩ := hK2G x hr2
  obtain ⟨kf, nf, lsf, lf⟩ := f
  have hA4 := ask_fn (kf == 4)
  refine byC (P := kf = 4) (fun hk4 => ?_) (fun hk4 => ?_)
  have hkb : (kf == 4) = false := by simpa using hk4
  rw [show askO (kf == 4) = .pan (badW 30) from by rw [hkb]; rfl] at hA4
  (try simp only [bE, askE, kidG, g_k, g_n, g_kids, gz, gs, bs, hr0, hr2, hkb])
  first | refine And.intro ?_ nofun | refine And.intro ?_ (by simp) | skip
  rotate_left
  subst hk4
  obtain ⟨rfl, rfl, af, bf, rfl⟩ := shp2 (by omega) ((allG_mk ..).1 haf).1
  have hS8 := same_fn af x (by simp only [szG, szGs] at hzf; omega)
  refine boC (samG af x [] []) (fun hs8 => ?_) (fun hs8 => ?_)
  rw [hs8] at hS8
  (try simp only [bE, askE, kidG, g_k, g_n, g_kids, gz, gs, bs, hr0, hr2, hs8])
  first | refine And.intro ?_ nofun | refine And.intro ?_ (by simp) | skip
  rotate_left
  rw [hs8] at hS8
  (try simp only [bE, askE, kidG, g_k, g_n, g_kids, gz, gs, bs, hr0, hr2, hs8])
  refine And.intro ?_ (fun t ht => by injection ht with ht; subst ht; exact ⟨((allG_mk ..).1 haf).2 bf (by simp), by simp only [szG, szGs] at hzf; omega⟩)
  rotate_left
  all_goals
    refine fnQ_of_vc txok mixed [(1, .take 0 (.pure 1 (.take 2 (.pure 3 (.take 4 (.take 6 (.pure 7 (.take 8 (.pure 9 (.take 10 (.three 5 12 13 (.three 11 12 13 (.two 12 13 (.run 13 (.fin 14 (.fin 15 .done))) (.run 12 (.fin 14 (.fin 15 .done)))) (.two 11 13 (.run 13 (.fin 14 (.fin 15 .done))) (.fin 11 (.fin 14 (.fin 15 .done)))) (.two 11 12 (.run 12 (.fin 14 (.fin 15 .done))) (.fin 11 (.fin 14 (.fin 15 .done))))) (.two 5 13 (.two 11 13 (.run 13 (.fin 14 (.fin 15 .done))) (.fin 11 (.fin 14 (.fin 15 .done)))) (.run 5 (.fin 11 (.fin 14 (.fin 15 .done))))) (.two 5 12 (.two 11 12 (.run 12 (.fin 14 (.fin 15 .done))) (.fin 11 (.fin 14 (.fin 15 .done)))) (.run 5 (.fin 11 (.fin 14 (.fin 15 .done)))))))))))))))), (3, .pure 0 (.take 1 (.pure 2 (.take 3 (.take 4 (.fin 5 .done))))))] Tryz.func119 rfl rfl (by simp) fun bb => ?_
    repeat' ((conv => whnf); first
      | refine And.intro (by kernel_rfl) ?_
      | refine And.intro ?_ ?_
      | refine IdxC.encMs (l := [u, v]) 0 (by simp) rfl ?_
      | refine IdxC.encMs (l := [u, v]) 1 (by simp) rfl ?_
      | (refine callQ rfl rfl gf46 hK0 ?_; rintro o rfl)
      | (refine callQ rfl rfl gf46 hK2 ?_; rintro o rfl)
      | (refine callQ rfl rfl gf167 hA4 ?_; rintro o rfl)
      | (refine callQ rfl rfl gf167 (ask_fn true) ?_; rintro o rfl)
      | refine IdxC.encGs (l := [af, bf]) 0 (by simp) rfl ?_
      | refine IdxC.encGs (l := [af, bf]) 1 (by simp) rfl ?_
      | (refine callQ rfl rfl gf170 hS8 ?_; rintro o rfl)
      | intro _)
    all_goals (try (conv => whnf))
    all_goals exact rfl
theorem kid_app (n i : Int) (nm : ByteArray) (ls : List ByteArray) (u : MG) (v : MG) (cu : Chk) (hcu : KidOk u cu) (cv : Chk) (hcv : KidOk v cv) (hz : szM (.mk 6 n i nm ls [] [u, v]) ≤ 1073741824) : KidOk (.mk 6 n i nm ls [] [u, v]) (fun vars l => fitE ((appRl cu cv) vars l)) :=
  kid_of _ ((appRl cu cv)) 6 119 rfl rfl gf119 fun vars l hv hl hb => appW_fn vars l n i nm ls u v cu hcu cv hcv hv hl hz hb
end Go.Proofs.YtcjkikadolnfgaaGreat


/- Rules: fix (printed by gzw.py). -/
set_option linter.unusedSimpArgs false
set_option linter.unusedVariables false
namespace Go.Proofs.YtcjkikadolnfgaaGreat
open Go.Vx Go.Vc Go.RowKit
set_option maxRecDepth 20000 in
set_option maxHeartbeats 2000000 in
theorem fixW_fn (vars : List Int) (l : List Bd) (n i : Int) (nm : ByteArray) (ls : List ByteArray) (lb : ByteArray) (a : TG) (b : TG) (u : MG) (cu : Chk) (hcu : KidOk u cu) (hv : vars.length + szM (.mk 7 n i nm [lb] [a, b] [u]) ≤ 549755813888) (hl : l.length + 2 * szM (.mk 7 n i nm [lb] [a, b] [u]) ≤ 549755813888) (hz : szM (.mk 7 n i nm [lb] [a, b] [u]) ≤ 1073741824) (hb : Bnd l) : FnQ Tryz.prog G0 120 [dSc vars l, dM (.mk 7 n i nm [lb] [a, b] [u])] (fun o => o = resO ((fixR nm lb a b cu) vars l)) ∧ ∀ t, (fixR nm lb a b cu) vars l = .ok t → allG t = true ∧ szG t ≤ 2147483648 := by
  simp only [szM, szMs, szGs] at hv hl hz
  unfold fixR
  try simp only []
  have hH2 := here_fn vars l a (by omega)
  unfold hereR at hH2
  refine boC (insG a vars) (fun hi2 => ?_) (fun hi2 => ?_)
  rw [hi2] at hH2
  (try simp only [bE, askE, kidG, g_k, g_n, g_kids, gz, gs, bs, hi2])
  first | refine And.intro ?_ nofun | refine And.intro ?_ (by simp) | skip
  rotate_left
  rw [hi2] at hH2
  have haa := ins_all hi2
  have hH4 := here_fn vars l b (by omega)
  unfold hereR at hH4
  refine boC (insG b vars) (fun hi4 => ?_) (fun hi4 => ?_)
  rw [hi4] at hH4
  (try simp only [bE, askE, kidG, g_k, g_n, g_kids, gz, gs, bs, hi2, hi4])
  first | refine And.intro ?_ nofun | refine And.intro ?_ (by simp) | skip
  rotate_left
  rw [hi4] at hH4
  have hab := ins_all hi4
  obtain ⟨ka, na, lsa, la⟩ := a
  obtain ⟨kb, nb, lsb, lb2⟩ := b
  have haf : allG (TG.mk 4 0 [] [.mk ka na lsa la, .mk kb nb lsb lb2]) = true := (allG_mk ..).2 ⟨rfl, by intro u hu; simp only [List.mem_cons, List.not_mem_nil, or_false] at hu; rcases hu with rfl | rfl <;> assumption⟩
  have hF8 := fit_fn (TG.mk 4 0 [] [.mk ka na lsa la, .mk kb nb lsb lb2]) (by simp only [szG, szGs] at hz ⊢; omega)
  unfold fitR at hF8 ⊢
  refine byC (P := szG (TG.mk 4 0 [] [.mk ka na lsa la, .mk kb nb lsb lb2]) ≤ 1048576) (fun hf8 => ?_) (fun hf8 => ?_)
  rw [if_neg hf8] at hF8 ⊢
  (try simp only [bE, askE, kidG, g_k, g_n, g_kids, gz, gs, bs, hi2, hi4])
  first | refine And.intro ?_ nofun | refine And.intro ?_ (by simp) | skip
  rotate_left
  rw [if_pos hf8] at hF8 ⊢
  have hW10 := with_fn (vars) (l) nm (TG.mk 4 0 [] [.mk ka na lsa la, .mk kb nb lsb lb2]) (by (try simp only [lA, lC, lN]); omega)
  have hW12 := with_fn (vars) (l ++ [(nm, (TG.mk 4 0 [] [.mk ka na lsa la, .mk kb nb lsb lb2]))]) lb (.mk ka na lsa la) (by (try simp only [lA, lC, lN]); omega)
  have hK14 := hcu (vars) ((l ++ [(nm, (TG.mk 4 0 [] [.mk ka na lsa la, .mk kb nb lsb lb2]))]) ++ [(lb, (.mk ka na lsa la))]) (by (try simp only [lA, lC, lN]); omega) (by (try simp only [lA, lC, lN]); omega) ((hb.snoc haf (by omega)).snoc haa (by omega))
  obtain ⟨hK14, hK14G⟩ := hK14
  refine exC (cu (vars) ((l ++ [(nm, (TG.mk 4 0 [] [.mk ka na lsa la, .mk kb nb lsb lb2]))]) ++ [(lb, (.mk ka na lsa la))])) (fun e hr14 => ?_) (fun t hr14 => ?_)
  rw [hr14] at hK14
  (try simp only [bE, askE, kidG, g_k, g_n, g_kids, gz, gs, bs, hi2, hi4, hr14])
  first | refine And.intro ?_ nofun | refine And.intro ?_ (by simp) | skip
  rotate_left
  rw [hr14] at hK14
  obtain ⟨hat, hzt⟩ := hK14G t hr14
  have hS16 := same_fn t (.mk kb nb lsb lb2) (by omega)
  refine boC (samG t (.mk kb nb lsb lb2) [] []) (fun hs16 => ?_) (fun hs16 => ?_)
  rw [hs16] at hS16
  (try simp only [bE, askE, kidG, g_k, g_n, g_kids, gz, gs, bs, hi2, hi4, hr14, hs16])
  first | refine And.intro ?_ nofun | refine And.intro ?_ (by simp) | skip
  rotate_left
  rw [hs16] at hS16
  (try simp only [bE, askE, kidG, g_k, g_n, g_kids, gz, gs, bs, hi2, hi4, hr14, hs16])
  refine And.intro ?_ (fun t ht => by injection ht with ht; subst ht; exact ⟨haf, by omega⟩)
  rotate_left
  all_goals
    refine fnQ_of_vc txok mixed [(1, .take 0 (.pure 1 (.take 2 (.pure 3 (.take 4 (.take 6 (.pure 7 (.take 8 (.pure 9 (.take 10 (.three 5 12 13 (.three 11 12 13 (.two 12 13 (.run 13 (.fin 14 (.fin 15 .done))) (.run 12 (.fin 14 (.fin 15 .done)))) (.two 11 13 (.run 13 (.fin 14 (.fin 15 .done))) (.fin 11 (.fin 14 (.fin 15 .done)))) (.two 11 12 (.run 12 (.fin 14 (.fin 15 .done))) (.fin 11 (.fin 14 (.fin 15 .done))))) (.two 5 13 (.two 11 13 (.run 13 (.fin 14 (.fin 15 .done))) (.fin 11 (.fin 14 (.fin 15 .done)))) (.run 5 (.fin 11 (.fin 14 (.fin 15 .done))))) (.two 5 12 (.two 11 12 (.run 12 (.fin 14 (.fin 15 .done))) (.fin 11 (.fin 14 (.fin 15 .done)))) (.run 5 (.fin 11 (.fin 14 (.fin 15 .done)))))))))))))))), (3, .take 0 (.pure 1 (.take 2 (.take 3 (.pure 5 (.take 6 (.pure 7 (.take 8 (.take 9 (.pure 11 (.take 12 (.pure 13 (.take 14 (.take 16 (.run 4 (.run 10 (.run 15 (.fin 17 .done))))))))))))))))))] Tryz.func120 rfl rfl (by simp) fun bb => ?_
    repeat' ((conv => whnf); first
      | refine And.intro (by kernel_rfl) ?_
      | refine And.intro ?_ ?_
      | refine IdxC.encGs (l := [a, b]) 0 (by simp) rfl ?_
      | refine IdxC.encGs (l := [a, b]) 1 (by simp) rfl ?_
      | refine IdxC.encMs (l := [u]) 0 (by simp) rfl ?_
      | refine IdxC.encS (l := [lb]) 0 (by simp) rfl ?_
      | (refine callQ rfl rfl gf168 hH2 ?_; rintro o rfl)
      | (refine callQ rfl rfl gf168 hH4 ?_; rintro o rfl)
      | refine IdxC.encGs (l := [(.mk ka na lsa la), (.mk kb nb lsb lb2)]) 0 (by simp) rfl ?_
      | refine IdxC.encGs (l := [(.mk ka na lsa la), (.mk kb nb lsb lb2)]) 1 (by simp) rfl ?_
      | (refine pubC (fun i => Nat.beq i 5) ?_; (conv => whnf); refine callF (node_fn 4 [.mk ka na lsa la, .mk kb nb lsb lb2]) gf165 rfl rfl ?_)
      | (refine callQ rfl rfl gf82 hF8 ?_; rintro o rfl)
      | refine callF hW10 gf169 rfl rfl ?_
      | refine callF hW12 gf169 rfl rfl ?_
      | (refine callQ rfl rfl gf46 hK14 ?_; rintro o rfl)
      | (refine callQ rfl rfl gf170 hS16 ?_; rintro o rfl)
      | intro _)
    all_goals (try (conv => whnf))
    all_goals exact rfl
theorem kid_fix (n i : Int) (nm : ByteArray) (ls : List ByteArray) (lb : ByteArray) (a : TG) (b : TG) (u : MG) (cu : Chk) (hcu : KidOk u cu) (hz : szM (.mk 7 n i nm [lb] [a, b] [u]) ≤ 1073741824) : KidOk (.mk 7 n i nm [lb] [a, b] [u]) (fun vars l => fitE ((fixR nm lb a b cu) vars l)) :=
  kid_of _ ((fixR nm lb a b cu)) 7 120 rfl rfl gf120 fun vars l hv hl hb => fixW_fn vars l n i nm ls lb a b u cu hcu hv hl hz hb
end Go.Proofs.YtcjkikadolnfgaaGreat


/- Rules: let (printed by gzw.py). -/
set_option linter.unusedSimpArgs false
set_option linter.unusedVariables false
namespace Go.Proofs.YtcjkikadolnfgaaGreat
open Go.Vx Go.Vc Go.RowKit
set_option maxRecDepth 20000 in
set_option maxHeartbeats 2000000 in
theorem letW_fn (vars : List Int) (l : List Bd) (n i : Int) (nm : ByteArray) (ls : List ByteArray) (u : MG) (v : MG) (cu : Chk) (hcu : KidOk u cu) (cv : Chk) (hcv : KidOk v cv) (hv : vars.length + szM (.mk 8 n i nm ls [] [u, v]) ≤ 549755813888) (hl : l.length + 2 * szM (.mk 8 n i nm ls [] [u, v]) ≤ 549755813888) (hz : szM (.mk 8 n i nm ls [] [u, v]) ≤ 1073741824) (hb : Bnd l) : FnQ Tryz.prog G0 121 [dSc vars l, dM (.mk 8 n i nm ls [] [u, v])] (fun o => o = resO ((letR nm cu cv) vars l)) ∧ ∀ t, (letR nm cu cv) vars l = .ok t → allG t = true ∧ szG t ≤ 2147483648 := by
  simp only [szM, szMs, szGs] at hv hl hz
  unfold letR
  try simp only []
  have hK0 := hcu (vars) (l) (by (try simp only [lA, lC, lN]); omega) (by (try simp only [lA, lC, lN]); omega) (hb)
  obtain ⟨hK0, hK0G⟩ := hK0
  refine exC (cu (vars) (l)) (fun e hr0 => ?_) (fun t hr0 => ?_)
  rw [hr0] at hK0
  (try simp only [bE, askE, kidG, g_k, g_n, g_kids, gz, gs, bs, hr0])
  first | refine And.intro ?_ nofun | refine And.intro ?_ (by simp) | skip
  rotate_left
  rw [hr0] at hK0
  obtain ⟨hat, hzt⟩ := hK0G t hr0
  have hW2 := with_fn (vars) (l) nm t (by (try simp only [lA, lC, lN]); omega)
  have hK4 := hcv (vars) (l ++ [(nm, t)]) (by (try simp only [lA, lC, lN]); omega) (by (try simp only [lA, lC, lN]); omega) (hb.snoc hat (by omega))
  obtain ⟨hK4, hK4G⟩ := hK4
  refine exC (cv (vars) (l ++ [(nm, t)])) (fun e hr4 => ?_) (fun w hr4 => ?_)
  rw [hr4] at hK4
  (try simp only [bE, askE, kidG, g_k, g_n, g_kids, gz, gs, bs, hr0, hr4])
  first | refine And.intro ?_ nofun | refine And.intro ?_ (by simp) | skip
  rotate_left
  rw [hr4] at hK4
  obtain ⟨haw, hzw⟩ := hK4G w hr4
  (try simp only [bE, askE, kidG, g_k, g_n, g_kids, gz, gs, bs, hr0, hr4])
  refine And.intro ?_ (fun t ht => by injection ht with ht; subst ht; exact ⟨haw, by omega⟩)
  rotate_left
  all_goals
    refine fnQ_of_vc txok mixed [(1, .take 0 (.pure 1 (.take 2 (.take 3 (.pure 4 (.take 5 (.pure 6 (.take 7 (.pure 10 (.take 11 (.pure 12 (.take 13 (.run 8 (.run 9 (.fin 14 (.fin 15 .done))))))))))))))))] Tryz.func121 rfl rfl (by simp) fun bb => ?_
    repeat' ((conv => whnf); first
      | refine And.intro (by kernel_rfl) ?_
      | refine And.intro ?_ ?_
      | refine IdxC.encMs (l := [u, v]) 0 (by simp) rfl ?_
      | refine IdxC.encMs (l := [u, v]) 1 (by simp) rfl ?_
      | (refine callQ rfl rfl gf46 hK0 ?_; rintro o rfl)
      | refine callF hW2 gf169 rfl rfl ?_
      | (refine callQ rfl rfl gf46 hK4 ?_; rintro o rfl)
      | intro _)
    all_goals (try (conv => whnf))
    all_goals exact rfl
theorem kid_let (n i : Int) (nm : ByteArray) (ls : List ByteArray) (u : MG) (v : MG) (cu : Chk) (hcu : KidOk u cu) (cv : Chk) (hcv : KidOk v cv) (hz : szM (.mk 8 n i nm ls [] [u, v]) ≤ 1073741824) : KidOk (.mk 8 n i nm ls [] [u, v]) (fun vars l => fitE ((letR nm cu cv) vars l)) :=
  kid_of _ ((letR nm cu cv)) 8 121 rfl rfl gf121 fun vars l hv hl hb => letW_fn vars l n i nm ls u v cu hcu cv hcv hv hl hz hb
end Go.Proofs.YtcjkikadolnfgaaGreat


/- Rules: pair (printed by gzw.py). -/
set_option linter.unusedSimpArgs false
set_option linter.unusedVariables false
namespace Go.Proofs.YtcjkikadolnfgaaGreat
open Go.Vx Go.Vc Go.RowKit
set_option maxRecDepth 20000 in
set_option maxHeartbeats 2000000 in
theorem pairW_fn (vars : List Int) (l : List Bd) (n i : Int) (nm : ByteArray) (ls : List ByteArray) (u : MG) (v : MG) (cu : Chk) (hcu : KidOk u cu) (cv : Chk) (hcv : KidOk v cv) (hv : vars.length + szM (.mk 9 n i nm ls [] [u, v]) ≤ 549755813888) (hl : l.length + 2 * szM (.mk 9 n i nm ls [] [u, v]) ≤ 549755813888) (hz : szM (.mk 9 n i nm ls [] [u, v]) ≤ 1073741824) (hb : Bnd l) : FnQ Tryz.prog G0 122 [dSc vars l, dM (.mk 9 n i nm ls [] [u, v])] (fun o => o = resO ((pairR cu cv) vars l)) ∧ ∀ t, (pairR cu cv) vars l = .ok t → allG t = true ∧ szG t ≤ 2147483648 := by
  simp only [szM, szMs, szGs] at hv hl hz
  unfold pairR
  try simp only []
  have hK0 := hcu (vars) (l) (by (try simp only [lA, lC, lN]); omega) (by (try simp only [lA, lC, lN]); omega) (hb)
  obtain ⟨hK0, hK0G⟩ := hK0
  refine exC (cu (vars) (l)) (fun e hr0 => ?_) (fun a hr0 => ?_)
  rw [hr0] at hK0
  (try simp only [bE, askE, kidG, g_k, g_n, g_kids, gz, gs, bs, hr0])
  first | refine And.intro ?_ nofun | refine And.intro ?_ (by simp) | skip
  rotate_left
  rw [hr0] at hK0
  obtain ⟨haa, hza⟩ := hK0G a hr0
  have hK2 := hcv (vars) (l) (by (try simp only [lA, lC, lN]); omega) (by (try simp only [lA, lC, lN]); omega) (hb)
  obtain ⟨hK2, hK2G⟩ := hK2
  refine exC (cv (vars) (l)) (fun e hr2 => ?_) (fun b hr2 => ?_)
  rw [hr2] at hK2
  (try simp only [bE, askE, kidG, g_k, g_n, g_kids, gz, gs, bs, hr0, hr2])
  first | refine And.intro ?_ nofun | refine And.intro ?_ (by simp) | skip
  rotate_left
  rw [hr2] at hK2
  obtain ⟨hab, hzb⟩ := hK2G b hr2
  obtain ⟨ka, na, lsa, la⟩ := a
  obtain ⟨kb, nb, lsb, lb⟩ := b
  (try simp only [bE, askE, kidG, g_k, g_n, g_kids, gz, gs, bs, hr0, hr2])
  refine And.intro ?_ (fun t ht => by injection ht with ht; subst ht; exact ⟨all2 (by omega) haa hab, by simp only [szG, szGs] at hza hzb ⊢; omega⟩)
  rotate_left
  all_goals
    refine fnQ_of_vc txok mixed [(1, .take 0 (.pure 1 (.take 2 (.pure 3 (.take 4 (.two 5 6 (.run 6 (.fin 7 .done)) (.fin 5 (.fin 7 .done)))))))), (2, .take 0 (.take 1 (.pure 2 (.take 3 (.pure 4 (.take 5 (.run 6 (.fin 7 (.fin 8 (.fin 9 .done))))))))))] Tryz.func122 rfl rfl (by simp) fun bb => ?_
    repeat' ((conv => whnf); first
      | refine And.intro (by kernel_rfl) ?_
      | refine And.intro ?_ ?_
      | refine IdxC.encMs (l := [u, v]) 0 (by simp) rfl ?_
      | refine IdxC.encMs (l := [u, v]) 1 (by simp) rfl ?_
      | (refine callQ rfl rfl gf46 hK0 ?_; rintro o rfl)
      | (refine callQ rfl rfl gf46 hK2 ?_; rintro o rfl)
      | (refine pubC (fun i => Nat.beq i 4) ?_; (conv => whnf); refine callF (node_fn 5 [.mk ka na lsa la, .mk kb nb lsb lb]) gf165 rfl rfl ?_)
      | intro _)
    all_goals (try (conv => whnf))
    all_goals exact rfl
theorem kid_pair (n i : Int) (nm : ByteArray) (ls : List ByteArray) (u : MG) (v : MG) (cu : Chk) (hcu : KidOk u cu) (cv : Chk) (hcv : KidOk v cv) (hz : szM (.mk 9 n i nm ls [] [u, v]) ≤ 1073741824) : KidOk (.mk 9 n i nm ls [] [u, v]) (fun vars l => fitE ((pairR cu cv) vars l)) :=
  kid_of _ ((pairR cu cv)) 9 122 rfl rfl gf122 fun vars l hv hl hb => pairW_fn vars l n i nm ls u v cu hcu cv hcv hv hl hz hb
end Go.Proofs.YtcjkikadolnfgaaGreat


/- Rules: fold (printed by gzw.py). -/
set_option linter.unusedSimpArgs false
set_option linter.unusedVariables false
namespace Go.Proofs.YtcjkikadolnfgaaGreat
open Go.Vx Go.Vc Go.RowKit
set_option maxRecDepth 20000 in
set_option maxHeartbeats 2000000 in
theorem foldW_fn (vars : List Int) (l : List Bd) (n i : Int) (nm : ByteArray) (ls : List ByteArray) (a : TG) (u : MG) (cu : Chk) (hcu : KidOk u cu) (hv : vars.length + szM (.mk 18 n i nm ls [a] [u]) ≤ 549755813888) (hl : l.length + 2 * szM (.mk 18 n i nm ls [a] [u]) ≤ 549755813888) (hz : szM (.mk 18 n i nm ls [a] [u]) ≤ 1073741824) (hb : Bnd l) : FnQ Tryz.prog G0 130 [dSc vars l, dM (.mk 18 n i nm ls [a] [u])] (fun o => o = resO ((foldR putR a cu) vars l)) ∧ ∀ t, (foldR putR a cu) vars l = .ok t → allG t = true ∧ szG t ≤ 2147483648 := by
  simp only [szM, szMs, szGs] at hv hl hz
  unfold foldR
  try simp only []
  have hH0 := here_fn vars l a (by omega)
  unfold hereR at hH0
  refine boC (insG a vars) (fun hi0 => ?_) (fun hi0 => ?_)
  rw [hi0] at hH0
  (try simp only [bE, askE, kidG, g_k, g_n, g_kids, gz, gs, bs, hi0])
  first | refine And.intro ?_ nofun | refine And.intro ?_ (by simp) | skip
  rotate_left
  rw [hi0] at hH0
  have haa := ins_all hi0
  have hK2 := hcu (vars) (l) (by (try simp only [lA, lC, lN]); omega) (by (try simp only [lA, lC, lN]); omega) (hb)
  obtain ⟨hK2, hK2G⟩ := hK2
  refine exC (cu (vars) (l)) (fun e hr2 => ?_) (fun t hr2 => ?_)
  rw [hr2] at hK2
  (try simp only [bE, askE, kidG, g_k, g_n, g_kids, gz, gs, bs, hi0, hr2])
  first | refine And.intro ?_ nofun | refine And.intro ?_ (by simp) | skip
  rotate_left
  rw [hr2] at hK2
  obtain ⟨hat, hzt⟩ := hK2G t hr2
  obtain ⟨ka, na, lsa, la⟩ := a
  have hA4 := ask_fn (ka == 9)
  refine byC (P := ka = 9) (fun hk4 => ?_) (fun hk4 => ?_)
  have hkb : (ka == 9) = false := by simpa using hk4
  rw [show askO (ka == 9) = .pan (badW 30) from by rw [hkb]; rfl] at hA4
  (try simp only [bE, askE, kidG, g_k, g_n, g_kids, gz, gs, bs, hi0, hr2, hkb])
  first | refine And.intro ?_ nofun | refine And.intro ?_ (by simp) | skip
  rotate_left
  subst hk4
  obtain ⟨rfl, ua, rfl⟩ := shp1 (by omega) ((allG_mk ..).1 haa).1
  have haua := ((allG_mk ..).1 haa).2 ua (by simp)
  have hzua : szG ua ≤ szG (TG.mk 9 na [] [ua]) := by simp only [szG, szGs]; omega
  have hP7 := kput_fn ua na (TG.mk 9 na [] [ua]) (allG_okV haua) (by omega) (by omega)
  refine exC (putR ua na (TG.mk 9 na [] [ua])) (fun e hw7 => ?_) (fun w hw7 => ?_)
  rw [hw7] at hP7
  (try simp only [bE, askE, kidG, g_k, g_n, g_kids, gz, gs, bs, hi0, hr2, hw7])
  first | refine And.intro ?_ nofun | refine And.intro ?_ (by simp) | skip
  rotate_left
  rw [hw7] at hP7
  obtain ⟨haw, hzw⟩ := putR_good haua haa hw7
  have hS9 := same_fn t w (by omega)
  refine boC (samG t w [] []) (fun hs9 => ?_) (fun hs9 => ?_)
  rw [hs9] at hS9
  (try simp only [bE, askE, kidG, g_k, g_n, g_kids, gz, gs, bs, hi0, hr2, hw7, hs9])
  first | refine And.intro ?_ nofun | refine And.intro ?_ (by simp) | skip
  rotate_left
  rw [hs9] at hS9
  (try simp only [bE, askE, kidG, g_k, g_n, g_kids, gz, gs, bs, hi0, hr2, hw7, hs9])
  refine And.intro ?_ (fun t ht => by injection ht with ht; subst ht; exact ⟨haa, by omega⟩)
  rotate_left
  all_goals
    refine fnQ_of_vc txok mixed [(1, .take 0 (.pure 1 (.take 2 (.pure 3 (.take 4 (.two 5 6 (.run 6 (.fin 7 .done)) (.fin 5 (.fin 7 .done)))))))), (2, .take 0 (.pure 1 (.take 2 (.pure 3 (.take 4 (.two 5 6 (.run 6 (.fin 7 .done)) (.fin 5 (.fin 7 .done)))))))), (4, .take 0 (.pure 1 (.take 2 (.pure 3 (.take 4 (.pure 5 (.take 6 (.take 7 (.run 8 (.fin 9 .done))))))))))] Tryz.func130 rfl rfl (by simp) fun bb => ?_
    repeat' ((conv => whnf); first
      | refine And.intro (by kernel_rfl) ?_
      | refine And.intro ?_ ?_
      | refine IdxC.encGs (l := [a]) 0 (by simp) rfl ?_
      | refine IdxC.encMs (l := [u]) 0 (by simp) rfl ?_
      | (refine callQ rfl rfl gf168 hH0 ?_; rintro o rfl)
      | (refine callQ rfl rfl gf46 hK2 ?_; rintro o rfl)
      | refine IdxC.encGs (l := [(.mk ka na lsa la)]) 0 (by simp) rfl ?_
      | (refine callQ rfl rfl gf167 hA4 ?_; rintro o rfl)
      | refine IdxC.encGs (l := [(.mk 9 na [] [ua])]) 0 (by simp) rfl ?_
      | (refine callQ rfl rfl gf167 (ask_fn true) ?_; rintro o rfl)
      | refine IdxC.encGs (l := [ua]) 0 (by simp) rfl ?_
      | (refine callQ rfl rfl gf29 hP7 ?_; rintro o rfl)
      | (refine callQ rfl rfl gf170 hS9 ?_; rintro o rfl)
      | intro _)
    all_goals (try (conv => whnf))
    all_goals exact rfl
theorem kid_fold (n i : Int) (nm : ByteArray) (ls : List ByteArray) (a : TG) (u : MG) (cu : Chk) (hcu : KidOk u cu) (hz : szM (.mk 18 n i nm ls [a] [u]) ≤ 1073741824) : KidOk (.mk 18 n i nm ls [a] [u]) (fun vars l => fitE ((foldR putR a cu) vars l)) :=
  kid_of _ ((foldR putR a cu)) 18 130 rfl rfl gf130 fun vars l hv hl hb => foldW_fn vars l n i nm ls a u cu hcu hv hl hz hb
end Go.Proofs.YtcjkikadolnfgaaGreat


/- Rules: unfold (printed by gzw.py). -/
set_option linter.unusedSimpArgs false
set_option linter.unusedVariables false
namespace Go.Proofs.YtcjkikadolnfgaaGreat
open Go.Vx Go.Vc Go.RowKit
set_option maxRecDepth 20000 in
set_option maxHeartbeats 2000000 in
theorem unfoldW_fn (vars : List Int) (l : List Bd) (n i : Int) (nm : ByteArray) (ls : List ByteArray) (u : MG) (cu : Chk) (hcu : KidOk u cu) (hv : vars.length + szM (.mk 19 n i nm ls [] [u]) ≤ 549755813888) (hl : l.length + 2 * szM (.mk 19 n i nm ls [] [u]) ≤ 549755813888) (hz : szM (.mk 19 n i nm ls [] [u]) ≤ 1073741824) (hb : Bnd l) : FnQ Tryz.prog G0 131 [dSc vars l, dM (.mk 19 n i nm ls [] [u])] (fun o => o = resO ((unfoldR putR cu) vars l)) ∧ ∀ t, (unfoldR putR cu) vars l = .ok t → allG t = true ∧ szG t ≤ 2147483648 := by
  simp only [szM, szMs, szGs] at hv hl hz
  unfold unfoldR
  try simp only []
  have hK0 := hcu (vars) (l) (by (try simp only [lA, lC, lN]); omega) (by (try simp only [lA, lC, lN]); omega) (hb)
  obtain ⟨hK0, hK0G⟩ := hK0
  refine exC (cu (vars) (l)) (fun e hr0 => ?_) (fun t hr0 => ?_)
  rw [hr0] at hK0
  (try simp only [bE, askE, kidG, g_k, g_n, g_kids, gz, gs, bs, hr0])
  first | refine And.intro ?_ nofun | refine And.intro ?_ (by simp) | skip
  rotate_left
  rw [hr0] at hK0
  obtain ⟨hat, hzt⟩ := hK0G t hr0
  obtain ⟨kt, nt, lst, lt⟩ := t
  have hA2 := ask_fn (kt == 9)
  refine byC (P := kt = 9) (fun hk2 => ?_) (fun hk2 => ?_)
  have hkb : (kt == 9) = false := by simpa using hk2
  rw [show askO (kt == 9) = .pan (badW 30) from by rw [hkb]; rfl] at hA2
  (try simp only [bE, askE, kidG, g_k, g_n, g_kids, gz, gs, bs, hr0, hkb])
  first | refine And.intro ?_ nofun | refine And.intro ?_ (by simp) | skip
  rotate_left
  subst hk2
  obtain ⟨rfl, ut, rfl⟩ := shp1 (by omega) ((allG_mk ..).1 hat).1
  have haut := ((allG_mk ..).1 hat).2 ut (by simp)
  have hzut : szG ut ≤ szG (TG.mk 9 nt [] [ut]) := by simp only [szG, szGs]; omega
  have hP5 := kput_fn ut nt (TG.mk 9 nt [] [ut]) (allG_okV haut) (by omega) (by omega)
  refine exC (putR ut nt (TG.mk 9 nt [] [ut])) (fun e hw5 => ?_) (fun w hw5 => ?_)
  rw [hw5] at hP5
  (try simp only [bE, askE, kidG, g_k, g_n, g_kids, gz, gs, bs, hr0, hw5])
  first | refine And.intro ?_ nofun | refine And.intro ?_ (by simp) | skip
  rotate_left
  rw [hw5] at hP5
  obtain ⟨haw, hzw⟩ := putR_good haut hat hw5
  (try simp only [bE, askE, kidG, g_k, g_n, g_kids, gz, gs, bs, hr0, hw5])
  refine And.intro ?_ (fun t ht => by injection ht with ht; subst ht; exact ⟨haw, by omega⟩)
  rotate_left
  all_goals
    refine fnQ_of_vc txok mixed [(1, .take 0 (.pure 1 (.take 2 (.pure 3 (.take 4 (.two 5 6 (.run 6 (.fin 7 .done)) (.fin 5 (.fin 7 .done)))))))), (3, .pure 0 (.take 1 (.pure 2 (.take 3 (.pure 4 (.take 5 (.take 6 (.fin 7 (.fin 8 .done)))))))))] Tryz.func131 rfl rfl (by simp) fun bb => ?_
    repeat' ((conv => whnf); first
      | refine And.intro (by kernel_rfl) ?_
      | refine And.intro ?_ ?_
      | refine IdxC.encMs (l := [u]) 0 (by simp) rfl ?_
      | (refine callQ rfl rfl gf46 hK0 ?_; rintro o rfl)
      | (refine callQ rfl rfl gf167 hA2 ?_; rintro o rfl)
      | (refine callQ rfl rfl gf167 (ask_fn true) ?_; rintro o rfl)
      | refine IdxC.encGs (l := [ut]) 0 (by simp) rfl ?_
      | (refine callQ rfl rfl gf29 hP5 ?_; rintro o rfl)
      | intro _)
    all_goals (try (conv => whnf))
    all_goals exact rfl
theorem kid_unfold (n i : Int) (nm : ByteArray) (ls : List ByteArray) (u : MG) (cu : Chk) (hcu : KidOk u cu) (hz : szM (.mk 19 n i nm ls [] [u]) ≤ 1073741824) : KidOk (.mk 19 n i nm ls [] [u]) (fun vars l => fitE ((unfoldR putR cu) vars l)) :=
  kid_of _ ((unfoldR putR cu)) 19 131 rfl rfl gf131 fun vars l hv hl hb => unfoldW_fn vars l n i nm ls u cu hcu hv hl hz hb
end Go.Proofs.YtcjkikadolnfgaaGreat


/- Rules: inst (printed by gzw.py). -/
set_option linter.unusedSimpArgs false
set_option linter.unusedVariables false
namespace Go.Proofs.YtcjkikadolnfgaaGreat
open Go.Vx Go.Vc Go.RowKit
set_option maxRecDepth 20000 in
set_option maxHeartbeats 2000000 in
theorem instW_fn (vars : List Int) (l : List Bd) (n i : Int) (nm : ByteArray) (ls : List ByteArray) (a : TG) (u : MG) (cu : Chk) (hcu : KidOk u cu) (hv : vars.length + szM (.mk 21 n i nm ls [a] [u]) ≤ 549755813888) (hl : l.length + 2 * szM (.mk 21 n i nm ls [a] [u]) ≤ 549755813888) (hz : szM (.mk 21 n i nm ls [a] [u]) ≤ 1073741824) (hb : Bnd l) : FnQ Tryz.prog G0 133 [dSc vars l, dM (.mk 21 n i nm ls [a] [u])] (fun o => o = resO ((instR putR a cu) vars l)) ∧ ∀ t, (instR putR a cu) vars l = .ok t → allG t = true ∧ szG t ≤ 2147483648 := by
  simp only [szM, szMs, szGs] at hv hl hz
  unfold instR
  try simp only []
  have hH0 := here_fn vars l a (by omega)
  unfold hereR at hH0
  refine boC (insG a vars) (fun hi0 => ?_) (fun hi0 => ?_)
  rw [hi0] at hH0
  (try simp only [bE, askE, kidG, g_k, g_n, g_kids, gz, gs, bs, hi0])
  first | refine And.intro ?_ nofun | refine And.intro ?_ (by simp) | skip
  rotate_left
  rw [hi0] at hH0
  have haa := ins_all hi0
  have hK2 := hcu (vars) (l) (by (try simp only [lA, lC, lN]); omega) (by (try simp only [lA, lC, lN]); omega) (hb)
  obtain ⟨hK2, hK2G⟩ := hK2
  refine exC (cu (vars) (l)) (fun e hr2 => ?_) (fun t hr2 => ?_)
  rw [hr2] at hK2
  (try simp only [bE, askE, kidG, g_k, g_n, g_kids, gz, gs, bs, hi0, hr2])
  first | refine And.intro ?_ nofun | refine And.intro ?_ (by simp) | skip
  rotate_left
  rw [hr2] at hK2
  obtain ⟨hat, hzt⟩ := hK2G t hr2
  obtain ⟨kt, nt, lst, lt⟩ := t
  have hA4 := ask_fn (kt == 10)
  refine byC (P := kt = 10) (fun hk4 => ?_) (fun hk4 => ?_)
  have hkb : (kt == 10) = false := by simpa using hk4
  rw [show askO (kt == 10) = .pan (badW 30) from by rw [hkb]; rfl] at hA4
  (try simp only [bE, askE, kidG, g_k, g_n, g_kids, gz, gs, bs, hi0, hr2, hkb])
  first | refine And.intro ?_ nofun | refine And.intro ?_ (by simp) | skip
  rotate_left
  subst hk4
  obtain ⟨rfl, ut, rfl⟩ := shp1 (by omega) ((allG_mk ..).1 hat).1
  have haut := ((allG_mk ..).1 hat).2 ut (by simp)
  have hzut : szG ut ≤ szG (TG.mk 10 nt [] [ut]) := by simp only [szG, szGs]; omega
  have hP7 := kput_fn ut nt a (allG_okV haut) (by omega) (by omega)
  refine exC (putR ut nt a) (fun e hw7 => ?_) (fun w hw7 => ?_)
  rw [hw7] at hP7
  (try simp only [bE, askE, kidG, g_k, g_n, g_kids, gz, gs, bs, hi0, hr2, hw7])
  first | refine And.intro ?_ nofun | refine And.intro ?_ (by simp) | skip
  rotate_left
  rw [hw7] at hP7
  obtain ⟨haw, hzw⟩ := putR_good haut haa hw7
  (try simp only [bE, askE, kidG, g_k, g_n, g_kids, gz, gs, bs, hi0, hr2, hw7])
  refine And.intro ?_ (fun t ht => by injection ht with ht; subst ht; exact ⟨haw, by omega⟩)
  rotate_left
  all_goals
    refine fnQ_of_vc txok mixed [(1, .take 0 (.pure 1 (.take 2 (.pure 3 (.take 4 (.two 5 6 (.run 6 (.fin 7 .done)) (.fin 5 (.fin 7 .done)))))))), (2, .take 0 (.pure 1 (.take 2 (.pure 3 (.take 4 (.two 5 6 (.run 6 (.fin 7 .done)) (.fin 5 (.fin 7 .done)))))))), (4, .pure 0 (.take 1 (.pure 2 (.take 3 (.pure 4 (.take 5 (.take 6 (.fin 7 (.fin 8 .done)))))))))] Tryz.func133 rfl rfl (by simp) fun bb => ?_
    repeat' ((conv => whnf); first
      | refine And.intro (by kernel_rfl) ?_
      | refine And.intro ?_ ?_
      | refine IdxC.encGs (l := [a]) 0 (by simp) rfl ?_
      | refine IdxC.encMs (l := [u]) 0 (by simp) rfl ?_
      | (refine callQ rfl rfl gf168 hH0 ?_; rintro o rfl)
      | (refine callQ rfl rfl gf46 hK2 ?_; rintro o rfl)
      | (refine callQ rfl rfl gf167 hA4 ?_; rintro o rfl)
      | (refine callQ rfl rfl gf167 (ask_fn true) ?_; rintro o rfl)
      | refine IdxC.encGs (l := [ut]) 0 (by simp) rfl ?_
      | (refine callQ rfl rfl gf29 hP7 ?_; rintro o rfl)
      | intro _)
    all_goals (try (conv => whnf))
    all_goals exact rfl
theorem kid_inst (n i : Int) (nm : ByteArray) (ls : List ByteArray) (a : TG) (u : MG) (cu : Chk) (hcu : KidOk u cu) (hz : szM (.mk 21 n i nm ls [a] [u]) ≤ 1073741824) : KidOk (.mk 21 n i nm ls [a] [u]) (fun vars l => fitE ((instR putR a cu) vars l)) :=
  kid_of _ ((instR putR a cu)) 21 133 rfl rfl gf133 fun vars l hv hl hb => instW_fn vars l n i nm ls a u cu hcu hv hl hz hb
end Go.Proofs.YtcjkikadolnfgaaGreat


/- Rules: pack (printed by gzw.py). -/
set_option linter.unusedSimpArgs false
set_option linter.unusedVariables false
namespace Go.Proofs.YtcjkikadolnfgaaGreat
open Go.Vx Go.Vc Go.RowKit
set_option maxRecDepth 20000 in
set_option maxHeartbeats 2000000 in
theorem packW_fn (vars : List Int) (l : List Bd) (n i : Int) (nm : ByteArray) (ls : List ByteArray) (a : TG) (b : TG) (u : MG) (cu : Chk) (hcu : KidOk u cu) (hv : vars.length + szM (.mk 22 n i nm ls [a, b] [u]) ≤ 549755813888) (hl : l.length + 2 * szM (.mk 22 n i nm ls [a, b] [u]) ≤ 549755813888) (hz : szM (.mk 22 n i nm ls [a, b] [u]) ≤ 1073741824) (hb : Bnd l) : FnQ Tryz.prog G0 134 [dSc vars l, dM (.mk 22 n i nm ls [a, b] [u])] (fun o => o = resO ((packR putR a b cu) vars l)) ∧ ∀ t, (packR putR a b cu) vars l = .ok t → allG t = true ∧ szG t ≤ 2147483648 := by
  simp only [szM, szMs, szGs] at hv hl hz
  unfold packR
  try simp only []
  have hH0 := here_fn vars l a (by omega)
  unfold hereR at hH0
  refine boC (insG a vars) (fun hi0 => ?_) (fun hi0 => ?_)
  rw [hi0] at hH0
  (try simp only [bE, askE, kidG, g_k, g_n, g_kids, gz, gs, bs, hi0])
  first | refine And.intro ?_ nofun | refine And.intro ?_ (by simp) | skip
  rotate_left
  rw [hi0] at hH0
  have haa := ins_all hi0
  have hH2 := here_fn vars l b (by omega)
  unfold hereR at hH2
  refine boC (insG b vars) (fun hi2 => ?_) (fun hi2 => ?_)
  rw [hi2] at hH2
  (try simp only [bE, askE, kidG, g_k, g_n, g_kids, gz, gs, bs, hi0, hi2])
  first | refine And.intro ?_ nofun | refine And.intro ?_ (by simp) | skip
  rotate_left
  rw [hi2] at hH2
  have hab := ins_all hi2
  have hK4 := hcu (vars) (l) (by (try simp only [lA, lC, lN]); omega) (by (try simp only [lA, lC, lN]); omega) (hb)
  obtain ⟨hK4, hK4G⟩ := hK4
  refine exC (cu (vars) (l)) (fun e hr4 => ?_) (fun t hr4 => ?_)
  rw [hr4] at hK4
  (try simp only [bE, askE, kidG, g_k, g_n, g_kids, gz, gs, bs, hi0, hi2, hr4])
  first | refine And.intro ?_ nofun | refine And.intro ?_ (by simp) | skip
  rotate_left
  rw [hr4] at hK4
  obtain ⟨hat, hzt⟩ := hK4G t hr4
  obtain ⟨kb, nb, lsb, lb⟩ := b
  have hA6 := ask_fn (kb == 11)
  refine byC (P := kb = 11) (fun hk6 => ?_) (fun hk6 => ?_)
  have hkb : (kb == 11) = false := by simpa using hk6
  rw [show askO (kb == 11) = .pan (badW 30) from by rw [hkb]; rfl] at hA6
  (try simp only [bE, askE, kidG, g_k, g_n, g_kids, gz, gs, bs, hi0, hi2, hr4, hkb])
  first | refine And.intro ?_ nofun | refine And.intro ?_ (by simp) | skip
  rotate_left
  subst hk6
  obtain ⟨rfl, ub, rfl⟩ := shp1 (by omega) ((allG_mk ..).1 hab).1
  have haub := ((allG_mk ..).1 hab).2 ub (by simp)
  have hzub : szG ub ≤ szG (TG.mk 11 nb [] [ub]) := by simp only [szG, szGs]; omega
  have hP9 := kput_fn ub nb a (allG_okV haub) (by omega) (by omega)
  refine exC (putR ub nb a) (fun e hw9 => ?_) (fun w hw9 => ?_)
  rw [hw9] at hP9
  (try simp only [bE, askE, kidG, g_k, g_n, g_kids, gz, gs, bs, hi0, hi2, hr4, hw9])
  first | refine And.intro ?_ nofun | refine And.intro ?_ (by simp) | skip
  rotate_left
  rw [hw9] at hP9
  obtain ⟨haw, hzw⟩ := putR_good haub haa hw9
  have hS11 := same_fn t w (by omega)
  refine boC (samG t w [] []) (fun hs11 => ?_) (fun hs11 => ?_)
  rw [hs11] at hS11
  (try simp only [bE, askE, kidG, g_k, g_n, g_kids, gz, gs, bs, hi0, hi2, hr4, hw9, hs11])
  first | refine And.intro ?_ nofun | refine And.intro ?_ (by simp) | skip
  rotate_left
  rw [hs11] at hS11
  (try simp only [bE, askE, kidG, g_k, g_n, g_kids, gz, gs, bs, hi0, hi2, hr4, hw9, hs11])
  refine And.intro ?_ (fun t ht => by injection ht with ht; subst ht; exact ⟨hab, by omega⟩)
  rotate_left
  all_goals
    refine fnQ_of_vc txok mixed [(1, .take 0 (.pure 1 (.take 2 (.pure 3 (.take 4 (.take 6 (.pure 7 (.take 8 (.pure 9 (.take 10 (.three 5 12 13 (.three 11 12 13 (.two 12 13 (.run 13 (.fin 14 (.fin 15 .done))) (.run 12 (.fin 14 (.fin 15 .done)))) (.two 11 13 (.run 13 (.fin 14 (.fin 15 .done))) (.fin 11 (.fin 14 (.fin 15 .done)))) (.two 11 12 (.run 12 (.fin 14 (.fin 15 .done))) (.fin 11 (.fin 14 (.fin 15 .done))))) (.two 5 13 (.two 11 13 (.run 13 (.fin 14 (.fin 15 .done))) (.fin 11 (.fin 14 (.fin 15 .done)))) (.run 5 (.fin 11 (.fin 14 (.fin 15 .done))))) (.two 5 12 (.two 11 12 (.run 12 (.fin 14 (.fin 15 .done))) (.fin 11 (.fin 14 (.fin 15 .done)))) (.run 5 (.fin 11 (.fin 14 (.fin 15 .done)))))))))))))))), (2, .take 0 (.pure 1 (.take 2 (.pure 3 (.take 4 (.two 5 6 (.run 6 (.fin 7 .done)) (.fin 5 (.fin 7 .done)))))))), (4, .take 0 (.pure 1 (.take 2 (.pure 3 (.take 4 (.pure 5 (.take 6 (.take 7 (.run 8 (.fin 9 .done))))))))))] Tryz.func134 rfl rfl (by simp) fun bb => ?_
    repeat' ((conv => whnf); first
      | refine And.intro (by kernel_rfl) ?_
      | refine And.intro ?_ ?_
      | refine IdxC.encGs (l := [a, b]) 0 (by simp) rfl ?_
      | refine IdxC.encGs (l := [a, b]) 1 (by simp) rfl ?_
      | refine IdxC.encMs (l := [u]) 0 (by simp) rfl ?_
      | (refine callQ rfl rfl gf168 hH0 ?_; rintro o rfl)
      | (refine callQ rfl rfl gf168 hH2 ?_; rintro o rfl)
      | (refine callQ rfl rfl gf46 hK4 ?_; rintro o rfl)
      | refine IdxC.encGs (l := [a, (.mk kb nb lsb lb)]) 0 (by simp) rfl ?_
      | refine IdxC.encGs (l := [a, (.mk kb nb lsb lb)]) 1 (by simp) rfl ?_
      | (refine callQ rfl rfl gf167 hA6 ?_; rintro o rfl)
      | refine IdxC.encGs (l := [a, (.mk 11 nb [] [ub])]) 0 (by simp) rfl ?_
      | refine IdxC.encGs (l := [a, (.mk 11 nb [] [ub])]) 1 (by simp) rfl ?_
      | (refine callQ rfl rfl gf167 (ask_fn true) ?_; rintro o rfl)
      | refine IdxC.encGs (l := [ub]) 0 (by simp) rfl ?_
      | (refine callQ rfl rfl gf29 hP9 ?_; rintro o rfl)
      | (refine callQ rfl rfl gf170 hS11 ?_; rintro o rfl)
      | intro _)
    all_goals (try (conv => whnf))
    all_goals exact rfl
theorem kid_pack (n i : Int) (nm : ByteArray) (ls : List ByteArray) (a : TG) (b : TG) (u : MG) (cu : Chk) (hcu : KidOk u cu) (hz : szM (.mk 22 n i nm ls [a, b] [u]) ≤ 1073741824) : KidOk (.mk 22 n i nm ls [a, b] [u]) (fun vars l => fitE ((packR putR a b cu) vars l)) :=
  kid_of _ ((packR putR a b cu)) 22 134 rfl rfl gf134 fun vars l hv hl hb => packW_fn vars l n i nm ls a b u cu hcu hv hl hz hb
end Go.Proofs.YtcjkikadolnfgaaGreat


/- Rules: fail (printed by gzw.py). -/
set_option linter.unusedSimpArgs false
set_option linter.unusedVariables false
namespace Go.Proofs.YtcjkikadolnfgaaGreat
open Go.Vx Go.Vc Go.RowKit
set_option maxRecDepth 20000 in
set_option maxHeartbeats 2000000 in
theorem failW_fn (vars : List Int) (l : List Bd) (n i : Int) (nm : ByteArray) (ls : List ByteArray) (a : TG) (hv : vars.length + szM (.mk 24 n i nm ls [a] []) ≤ 549755813888) (hl : l.length + 2 * szM (.mk 24 n i nm ls [a] []) ≤ 549755813888) (hz : szM (.mk 24 n i nm ls [a] []) ≤ 1073741824) (hb : Bnd l) : FnQ Tryz.prog G0 136 [dSc vars l, dM (.mk 24 n i nm ls [a] [])] (fun o => o = resO ((failR a) vars l)) ∧ ∀ t, (failR a) vars l = .ok t → allG t = true ∧ szG t ≤ 2147483648 := by
  simp only [szM, szMs, szGs] at hv hl hz
  unfold failR
  try simp only []
  have hH0 := here_fn vars l a (by omega)
  unfold hereR at hH0
  refine boC (insG a vars) (fun hi0 => ?_) (fun hi0 => ?_)
  rw [hi0] at hH0
  (try simp only [bE, askE, kidG, g_k, g_n, g_kids, gz, gs, bs, hi0])
  first | refine And.intro ?_ nofun | refine And.intro ?_ (by simp) | skip
  rotate_left
  rw [hi0] at hH0
  have haa := ins_all hi0
  (try simp only [bE, askE, kidG, g_k, g_n, g_kids, gz, gs, bs, hi0])
  refine And.intro ?_ (fun t ht => by injection ht with ht; subst ht; exact ⟨haa, by omega⟩)
  rotate_left
  all_goals
    refine fnQ_of_vc txok mixed [(1, .take 0 (.pure 1 (.take 2 (.pure 3 (.take 4 (.fin 5 (.fin 6 .done)))))))] Tryz.func136 rfl rfl (by simp) fun bb => ?_
    repeat' ((conv => whnf); first
      | refine And.intro (by kernel_rfl) ?_
      | refine And.intro ?_ ?_
      | refine IdxC.encGs (l := [a]) 0 (by simp) rfl ?_
      | (refine callQ rfl rfl gf168 hH0 ?_; rintro o rfl)
      | intro _)
    all_goals (try (conv => whnf))
    all_goals exact rfl
theorem kid_fail (n i : Int) (nm : ByteArray) (ls : List ByteArray) (a : TG) (hz : szM (.mk 24 n i nm ls [a] []) ≤ 1073741824) : KidOk (.mk 24 n i nm ls [a] []) (fun vars l => fitE ((failR a) vars l)) :=
  kid_of _ ((failR a)) 24 136 rfl rfl gf136 fun vars l hv hl hb => failW_fn vars l n i nm ls a hv hl hz hb
end Go.Proofs.YtcjkikadolnfgaaGreat


/- Rules: tick (printed by gzw.py). -/
set_option linter.unusedSimpArgs false
set_option linter.unusedVariables false
namespace Go.Proofs.YtcjkikadolnfgaaGreat
open Go.Vx Go.Vc Go.RowKit
def tickR (c : Chk) : Chk := c
set_option maxRecDepth 20000 in
set_option maxHeartbeats 2000000 in
theorem tickW_fn (vars : List Int) (l : List Bd) (n i : Int) (nm : ByteArray) (ls : List ByteArray) (u : MG) (cu : Chk) (hcu : KidOk u cu) (hv : vars.length + szM (.mk 25 n i nm ls [] [u]) ≤ 549755813888) (hl : l.length + 2 * szM (.mk 25 n i nm ls [] [u]) ≤ 549755813888) (hz : szM (.mk 25 n i nm ls [] [u]) ≤ 1073741824) (hb : Bnd l) : FnQ Tryz.prog G0 137 [dSc vars l, dM (.mk 25 n i nm ls [] [u])] (fun o => o = resO ((tickR cu) vars l)) ∧ ∀ t, (tickR cu) vars l = .ok t → allG t = true ∧ szG t ≤ 2147483648 := by
  simp only [szM, szMs, szGs] at hv hl hz
  unfold tickR
  try simp only []
  have hK0 := hcu (vars) (l) (by (try simp only [lA, lC, lN]); omega) (by (try simp only [lA, lC, lN]); omega) (hb)
  obtain ⟨hK0, hK0G⟩ := hK0
  refine exC (cu (vars) (l)) (fun e hr0 => ?_) (fun t hr0 => ?_)
  rw [hr0] at hK0
  (try simp only [bE, askE, kidG, g_k, g_n, g_kids, gz, gs, bs, hr0])
  first | refine And.intro ?_ nofun | refine And.intro ?_ (by simp) | skip
  rotate_left
  rw [hr0] at hK0
  obtain ⟨hat, hzt⟩ := hK0G t hr0
  (try simp only [bE, askE, kidG, g_k, g_n, g_kids, gz, gs, bs, hr0])
  refine And.intro ?_ (fun t ht => by injection ht with ht; subst ht; exact ⟨hat, by omega⟩)
  rotate_left
  all_goals
    refine fnQ_of_vc txok mixed [(1, .take 0 (.pure 1 (.take 2 (.pure 3 (.take 4 (.fin 5 (.fin 6 .done)))))))] Tryz.func137 rfl rfl (by simp) fun bb => ?_
    repeat' ((conv => whnf); first
      | refine And.intro (by kernel_rfl) ?_
      | refine And.intro ?_ ?_
      | refine IdxC.encMs (l := [u]) 0 (by simp) rfl ?_
      | (refine callQ rfl rfl gf46 hK0 ?_; rintro o rfl)
      | intro _)
    all_goals (try (conv => whnf))
    all_goals exact rfl
theorem kid_tick (n i : Int) (nm : ByteArray) (ls : List ByteArray) (u : MG) (cu : Chk) (hcu : KidOk u cu) (hz : szM (.mk 25 n i nm ls [] [u]) ≤ 1073741824) : KidOk (.mk 25 n i nm ls [] [u]) (fun vars l => fitE ((tickR cu) vars l)) :=
  kid_of _ ((tickR cu)) 25 137 rfl rfl gf137 fun vars l hv hl hb => tickW_fn vars l n i nm ls u cu hcu hv hl hz hb
end Go.Proofs.YtcjkikadolnfgaaGreat


/- Rules: plain1 plain2 plain3 (printed by gzw.py). -/
set_option linter.unusedSimpArgs false
set_option linter.unusedVariables false
namespace Go.Proofs.YtcjkikadolnfgaaGreat
open Go.Vx Go.Vc Go.RowKit
set_option maxRecDepth 20000 in
set_option maxHeartbeats 2000000 in
theorem plain1W_fn (vars : List Int) (l : List Bd) (n i : Int) (nm : ByteArray) (ls : List ByteArray) (hv : vars.length + szM (.mk 1 n i nm ls [] []) ≤ 549755813888) (hl : l.length + 2 * szM (.mk 1 n i nm ls [] []) ≤ 549755813888) (hz : szM (.mk 1 n i nm ls [] []) ≤ 1073741824) (hb : Bnd l) : FnQ Tryz.prog G0 116 [dSc vars l, dM (.mk 1 n i nm ls [] [])] (fun o => o = resO ((plainR 1) vars l)) ∧ ∀ t, (plainR 1) vars l = .ok t → allG t = true ∧ szG t ≤ 2147483648 := by
  simp only [szM, szMs, szGs] at hv hl hz
  unfold plainR
  try simp only []
  (try simp only [bE, askE, kidG, g_k, g_n, g_kids, gz, gs, bs, reduceIte, Int.reduceEq])
  refine And.intro ?_ (fun t ht => by injection ht with ht; subst ht; exact ⟨rfl, by simp [szG, szGs]⟩)
  rotate_left
  all_goals
    refine fnQ_of_vc txok mixed [] Tryz.func116 rfl rfl (by simp) fun bb => ?_
    repeat' ((conv => whnf); first
      | refine And.intro (by kernel_rfl) ?_
      | (refine And.intro (fun h => ?_) (fun h => ?_); rotate_left; focus (exfalso; simp_all [MG.k, MG.n, g_k]; first | done | omega))
      | (refine And.intro (fun h => ?_) (fun h => ?_); focus (exfalso; simp_all [MG.k, MG.n, g_k]; first | done | omega))
      | refine And.intro ?_ ?_
      | refine callF (node_fn 1 []) gf165 rfl rfl ?_
      | intro _)
    all_goals (try (conv => whnf))
    all_goals exact rfl
theorem kid_plain1 (n i : Int) (nm : ByteArray) (ls : List ByteArray) (hz : szM (.mk 1 n i nm ls [] []) ≤ 1073741824) : KidOk (.mk 1 n i nm ls [] []) (fun vars l => fitE ((plainR 1) vars l)) :=
  kid_of _ ((plainR 1)) 1 116 rfl rfl gf116 fun vars l hv hl hb => plain1W_fn vars l n i nm ls  hv hl hz hb
set_option maxRecDepth 20000 in
set_option maxHeartbeats 2000000 in
theorem plain2W_fn (vars : List Int) (l : List Bd) (n i : Int) (nm : ByteArray) (ls : List ByteArray) (hv : vars.length + szM (.mk 2 n i nm ls [] []) ≤ 549755813888) (hl : l.length + 2 * szM (.mk 2 n i nm ls [] []) ≤ 549755813888) (hz : szM (.mk 2 n i nm ls [] []) ≤ 1073741824) (hb : Bnd l) : FnQ Tryz.prog G0 116 [dSc vars l, dM (.mk 2 n i nm ls [] [])] (fun o => o = resO ((plainR 2) vars l)) ∧ ∀ t, (plainR 2) vars l = .ok t → allG t = true ∧ szG t ≤ 2147483648 := by
  simp only [szM, szMs, szGs] at hv hl hz
  unfold plainR
  try simp only []
  (try simp only [bE, askE, kidG, g_k, g_n, g_kids, gz, gs, bs, reduceIte, Int.reduceEq])
  refine And.intro ?_ (fun t ht => by injection ht with ht; subst ht; exact ⟨rfl, by simp [szG, szGs]⟩)
  rotate_left
  all_goals
    refine fnQ_of_vc txok mixed [] Tryz.func116 rfl rfl (by simp) fun bb => ?_
    repeat' ((conv => whnf); first
      | refine And.intro (by kernel_rfl) ?_
      | (refine And.intro (fun h => ?_) (fun h => ?_); rotate_left; focus (exfalso; simp_all [MG.k, MG.n, g_k]; first | done | omega))
      | (refine And.intro (fun h => ?_) (fun h => ?_); focus (exfalso; simp_all [MG.k, MG.n, g_k]; first | done | omega))
      | refine And.intro ?_ ?_
      | refine callF (node_fn 2 []) gf165 rfl rfl ?_
      | intro _)
    all_goals (try (conv => whnf))
    all_goals exact rfl
theorem kid_plain2 (n i : Int) (nm : ByteArray) (ls : List ByteArray) (hz : szM (.mk 2 n i nm ls [] []) ≤ 1073741824) : KidOk (.mk 2 n i nm ls [] []) (fun vars l => fitE ((plainR 2) vars l)) :=
  kid_of _ ((plainR 2)) 2 116 rfl rfl gf116 fun vars l hv hl hb => plain2W_fn vars l n i nm ls  hv hl hz hb
set_option maxRecDepth 20000 in
set_option maxHeartbeats 2000000 in
theorem plain3W_fn (vars : List Int) (l : List Bd) (n i : Int) (nm : ByteArray) (ls : List ByteArray) (hv : vars.length + szM (.mk 3 n i nm ls [] []) ≤ 549755813888) (hl : l.length + 2 * szM (.mk 3 n i nm ls [] []) ≤ 549755813888) (hz : szM (.mk 3 n i nm ls [] []) ≤ 1073741824) (hb : Bnd l) : FnQ Tryz.prog G0 116 [dSc vars l, dM (.mk 3 n i nm ls [] [])] (fun o => o = resO ((plainR 3) vars l)) ∧ ∀ t, (plainR 3) vars l = .ok t → allG t = true ∧ szG t ≤ 2147483648 := by
  simp only [szM, szMs, szGs] at hv hl hz
  unfold plainR
  try simp only []
  (try simp only [bE, askE, kidG, g_k, g_n, g_kids, gz, gs, bs, reduceIte, Int.reduceEq])
  refine And.intro ?_ (fun t ht => by injection ht with ht; subst ht; exact ⟨rfl, by simp [szG, szGs]⟩)
  rotate_left
  all_goals
    refine fnQ_of_vc txok mixed [] Tryz.func116 rfl rfl (by simp) fun bb => ?_
    repeat' ((conv => whnf); first
      | refine And.intro (by kernel_rfl) ?_
      | (refine And.intro (fun h => ?_) (fun h => ?_); rotate_left; focus (exfalso; simp_all [MG.k, MG.n, g_k]; first | done | omega))
      | (refine And.intro (fun h => ?_) (fun h => ?_); focus (exfalso; simp_all [MG.k, MG.n, g_k]; first | done | omega))
      | refine And.intro ?_ ?_
      | refine callF (node_fn 3 []) gf165 rfl rfl ?_
      | intro _)
    all_goals (try (conv => whnf))
    all_goals exact rfl
theorem kid_plain3 (n i : Int) (nm : ByteArray) (ls : List ByteArray) (hz : szM (.mk 3 n i nm ls [] []) ≤ 1073741824) : KidOk (.mk 3 n i nm ls [] []) (fun vars l => fitE ((plainR 3) vars l)) :=
  kid_of _ ((plainR 3)) 3 116 rfl rfl gf116 fun vars l hv hl hb => plain3W_fn vars l n i nm ls  hv hl hz hb
end Go.Proofs.YtcjkikadolnfgaaGreat


/- Rules: half10 half11 (printed by gzw.py). -/
set_option linter.unusedSimpArgs false
set_option linter.unusedVariables false
namespace Go.Proofs.YtcjkikadolnfgaaGreat
open Go.Vx Go.Vc Go.RowKit
set_option maxRecDepth 20000 in
set_option maxHeartbeats 2000000 in
theorem half10W_fn (vars : List Int) (l : List Bd) (n i : Int) (nm : ByteArray) (ls : List ByteArray) (u : MG) (cu : Chk) (hcu : KidOk u cu) (hv : vars.length + szM (.mk 10 n i nm ls [] [u]) ≤ 549755813888) (hl : l.length + 2 * szM (.mk 10 n i nm ls [] [u]) ≤ 549755813888) (hz : szM (.mk 10 n i nm ls [] [u]) ≤ 1073741824) (hb : Bnd l) : FnQ Tryz.prog G0 123 [dSc vars l, dM (.mk 10 n i nm ls [] [u])] (fun o => o = resO ((halfR 0 cu) vars l)) ∧ ∀ t, (halfR 0 cu) vars l = .ok t → allG t = true ∧ szG t ≤ 2147483648 := by
  simp only [szM, szMs, szGs] at hv hl hz
  unfold halfR
  try simp only []
  have hK0 := hcu (vars) (l) (by (try simp only [lA, lC, lN]); omega) (by (try simp only [lA, lC, lN]); omega) (hb)
  obtain ⟨hK0, hK0G⟩ := hK0
  refine exC (cu (vars) (l)) (fun e hr0 => ?_) (fun w hr0 => ?_)
  rw [hr0] at hK0
  (try simp only [bE, askE, kidG, g_k, g_n, g_kids, gz, gs, bs, hr0])
  first | refine And.intro ?_ nofun | refine And.intro ?_ (by simp) | skip
  rotate_left
  rw [hr0] at hK0
  obtain ⟨haw, hzw⟩ := hK0G w hr0
  obtain ⟨kw, nw, lsw, lw⟩ := w
  have hA2 := ask_fn (kw == 5)
  refine byC (P := kw = 5) (fun hk2 => ?_) (fun hk2 => ?_)
  have hkb : (kw == 5) = false := by simpa using hk2
  rw [show askO (kw == 5) = .pan (badW 30) from by rw [hkb]; rfl] at hA2
  (try simp only [bE, askE, kidG, g_k, g_n, g_kids, gz, gs, bs, hr0, hkb])
  first | refine And.intro ?_ nofun | refine And.intro ?_ (by simp) | skip
  rotate_left
  subst hk2
  obtain ⟨rfl, rfl, aw, bw, rfl⟩ := shp2 (by omega) ((allG_mk ..).1 haw).1
  (try simp only [bE, askE, kidG, g_k, g_n, g_kids, gz, gs, bs, hr0])
  refine And.intro ?_ (fun t ht => by injection ht with ht; subst ht; exact ⟨((allG_mk ..).1 haw).2 aw (by simp), by simp only [szG, szGs] at hzw; omega⟩)
  rotate_left
  all_goals
    refine fnQ_of_vc txok mixed [(1, .take 0 (.pure 1 (.take 2 (.pure 3 (.take 4 (.two 5 6 (.run 6 (.fin 7 .done)) (.fin 5 (.fin 7 .done))))))))] Tryz.func123 rfl rfl (by simp) fun bb => ?_
    repeat' ((conv => whnf); first
      | refine And.intro (by kernel_rfl) ?_
      | refine And.intro ?_ ?_
      | refine IdxC.encMs (l := [u]) 0 (by simp) rfl ?_
      | (refine callQ rfl rfl gf46 hK0 ?_; rintro o rfl)
      | (refine callQ rfl rfl gf167 hA2 ?_; rintro o rfl)
      | (refine callQ rfl rfl gf167 (ask_fn true) ?_; rintro o rfl)
      | refine IdxC.encGs (l := [aw, bw]) 0 (by simp) rfl ?_
      | refine IdxC.encGs (l := [aw, bw]) 1 (by simp) rfl ?_
      | intro _)
    all_goals (try (conv => whnf))
    all_goals exact rfl
theorem kid_half10 (n i : Int) (nm : ByteArray) (ls : List ByteArray) (u : MG) (cu : Chk) (hcu : KidOk u cu) (hz : szM (.mk 10 n i nm ls [] [u]) ≤ 1073741824) : KidOk (.mk 10 n i nm ls [] [u]) (fun vars l => fitE ((halfR 0 cu) vars l)) :=
  kid_of _ ((halfR 0 cu)) 10 123 rfl rfl gf123 fun vars l hv hl hb => half10W_fn vars l n i nm ls u cu hcu hv hl hz hb
set_option maxRecDepth 20000 in
set_option maxHeartbeats 2000000 in
theorem half11W_fn (vars : List Int) (l : List Bd) (n i : Int) (nm : ByteArray) (ls : List ByteArray) (u : MG) (cu : Chk) (hcu : KidOk u cu) (hv : vars.length + szM (.mk 11 n i nm ls [] [u]) ≤ 549755813888) (hl : l.length + 2 * szM (.mk 11 n i nm ls [] [u]) ≤ 549755813888) (hz : szM (.mk 11 n i nm ls [] [u]) ≤ 1073741824) (hb : Bnd l) : FnQ Tryz.prog G0 123 [dSc vars l, dM (.mk 11 n i nm ls [] [u])] (fun o => o = resO ((halfR 1 cu) vars l)) ∧ ∀ t, (halfR 1 cu) vars l = .ok t → allG t = true ∧ szG t ≤ 2147483648 := by
  simp only [szM, szMs, szGs] at hv hl hz
  unfold halfR
  try simp only []
  have hK0 := hcu (vars) (l) (by (try simp only [lA, lC, lN]); omega) (by (try simp only [lA, lC, lN]); omega) (hb)
  obtain ⟨hK0, hK0G⟩ := hK0
  refine exC (cu (vars) (l)) (fun e hr0 => ?_) (fun w hr0 => ?_)
  rw [hr0] at hK0
  (try simp only [bE, askE, kidG, g_k, g_n, g_kids, gz, gs, bs, hr0])
  first | refine And.intro ?_ nofun | refine And.intro ?_ (by simp) | skip
  rotate_left
  rw [hr0] at hK0
  obtain ⟨haw, hzw⟩ := hK0G w hr0
  obtain ⟨kw, nw, lsw, lw⟩ := w
  have hA2 := ask_fn (kw == 5)
  refine byC (P := kw = 5) (fun hk2 => ?_) (fun hk2 => ?_)
  have hkb : (kw == 5) = false := by simpa using hk2
  rw [show askO (kw == 5) = .pan (badW 30) from by rw [hkb]; rfl] at hA2
  (try simp only [bE, askE, kidG, g_k, g_n, g_kids, gz, gs, bs, hr0, hkb])
  first | refine And.intro ?_ nofun | refine And.intro ?_ (by simp) | skip
  rotate_left
  subst hk2
  obtain ⟨rfl, rfl, aw, bw, rfl⟩ := shp2 (by omega) ((allG_mk ..).1 haw).1
  (try simp only [bE, askE, kidG, g_k, g_n, g_kids, gz, gs, bs, hr0])
  refine And.intro ?_ (fun t ht => by injection ht with ht; subst ht; exact ⟨((allG_mk ..).1 haw).2 bw (by simp), by simp only [szG, szGs] at hzw; omega⟩)
  rotate_left
  all_goals
    refine fnQ_of_vc txok mixed [(1, .take 0 (.pure 1 (.take 2 (.pure 3 (.take 4 (.two 5 6 (.run 6 (.fin 7 .done)) (.fin 5 (.fin 7 .done))))))))] Tryz.func123 rfl rfl (by simp) fun bb => ?_
    repeat' ((conv => whnf); first
      | refine And.intro (by kernel_rfl) ?_
      | refine And.intro ?_ ?_
      | refine IdxC.encMs (l := [u]) 0 (by simp) rfl ?_
      | (refine callQ rfl rfl gf46 hK0 ?_; rintro o rfl)
      | (refine callQ rfl rfl gf167 hA2 ?_; rintro o rfl)
      | (refine callQ rfl rfl gf167 (ask_fn true) ?_; rintro o rfl)
      | refine IdxC.encGs (l := [aw, bw]) 0 (by simp) rfl ?_
      | refine IdxC.encGs (l := [aw, bw]) 1 (by simp) rfl ?_
      | intro _)
    all_goals (try (conv => whnf))
    all_goals exact rfl
theorem kid_half11 (n i : Int) (nm : ByteArray) (ls : List ByteArray) (u : MG) (cu : Chk) (hcu : KidOk u cu) (hz : szM (.mk 11 n i nm ls [] [u]) ≤ 1073741824) : KidOk (.mk 11 n i nm ls [] [u]) (fun vars l => fitE ((halfR 1 cu) vars l)) :=
  kid_of _ ((halfR 1 cu)) 11 123 rfl rfl gf123 fun vars l hv hl hb => half11W_fn vars l n i nm ls u cu hcu hv hl hz hb
end Go.Proofs.YtcjkikadolnfgaaGreat


/- Rules: bin (printed by gzw.py). -/
set_option linter.unusedSimpArgs false
set_option linter.unusedVariables false
namespace Go.Proofs.YtcjkikadolnfgaaGreat
open Go.Vx Go.Vc Go.RowKit
set_option maxRecDepth 20000 in
set_option maxHeartbeats 2000000 in
theorem binW_fn (vars : List Int) (l : List Bd) (n i : Int) (nm : ByteArray) (ls : List ByteArray) (u : MG) (v : MG) (cu : Chk) (hcu : KidOk u cu) (cv : Chk) (hcv : KidOk v cv) (hv : vars.length + szM (.mk 13 n i nm ls [] [u, v]) ≤ 549755813888) (hl : l.length + 2 * szM (.mk 13 n i nm ls [] [u, v]) ≤ 549755813888) (hz : szM (.mk 13 n i nm ls [] [u, v]) ≤ 1073741824) (hb : Bnd l) : FnQ Tryz.prog G0 125 [dSc vars l, dM (.mk 13 n i nm ls [] [u, v])] (fun o => o = resO ((binR n cu cv) vars l)) ∧ ∀ t, (binR n cu cv) vars l = .ok t → allG t = true ∧ szG t ≤ 2147483648 := by
  simp only [szM, szMs, szGs] at hv hl hz
  unfold binR
  try simp only []
  have hK0 := hcu (vars) (l) (by (try simp only [lA, lC, lN]); omega) (by (try simp only [lA, lC, lN]); omega) (hb)
  obtain ⟨hK0, hK0G⟩ := hK0
  refine exC (cu (vars) (l)) (fun e hr0 => ?_) (fun a hr0 => ?_)
  rw [hr0] at hK0
  (try simp only [bE, askE, kidG, g_k, g_n, g_kids, gz, gs, bs, hr0])
  first | refine And.intro ?_ nofun | refine And.intro ?_ (by simp) | skip
  rotate_left
  rw [hr0] at hK0
  obtain ⟨haa, hza⟩ := hK0G a hr0
  have hK2 := hcv (vars) (l) (by (try simp only [lA, lC, lN]); omega) (by (try simp only [lA, lC, lN]); omega) (hb)
  obtain ⟨hK2, hK2G⟩ := hK2
  refine exC (cv (vars) (l)) (fun e hr2 => ?_) (fun b hr2 => ?_)
  rw [hr2] at hK2
  (try simp only [bE, askE, kidG, g_k, g_n, g_kids, gz, gs, bs, hr0, hr2])
  first | refine And.intro ?_ nofun | refine And.intro ?_ (by simp) | skip
  rotate_left
  rw [hr2] at hK2
  obtain ⟨hab, hzb⟩ := hK2G b hr2
  obtain ⟨ka, na, lsa, la⟩ := a
  obtain ⟨kb, nb, lsb, lb⟩ := b
  refine byC (P := ka = 1) (fun ha1 => ?_) (fun ha1 => ?_)
  have hkb : (ka == 1) = false := by simpa using ha1
  (try simp only [bE, askE, kidG, g_k, g_n, g_kids, gz, gs, bs, hr0, hr2, hkb, Bool.false_and])
  first | refine And.intro ?_ nofun | refine And.intro ?_ (by simp) | skip
  rotate_left
  subst ha1
  refine byC (P := kb = 1) (fun hb1 => ?_) (fun hb1 => ?_)
  have hkb : (kb == 1) = false := by simpa using hb1
  have hA := ask_fn (kb == 1)
  rw [show askO (kb == 1) = .pan (badW 30) from by rw [hkb]; rfl] at hA
  (try simp only [bE, askE, kidG, g_k, g_n, g_kids, gz, gs, bs, hr0, hr2, hkb, Bool.and_false])
  first | refine And.intro ?_ nofun | refine And.intro ?_ (by simp) | skip
  rotate_left
  subst hb1
  refine byC (P := ¬ n ≥ 5) (fun hn => ?_) (fun hn => ?_)
  have hn : n ≥ 5 := by omega
  (try simp only [bE, askE, kidG, g_k, g_n, g_kids, gz, gs, bs, hr0, hr2, Bool.and_self, if_pos hn])
  refine And.intro ?_ (fun t ht => by injection ht with ht; subst ht; exact ⟨rfl, by simp [szG, szGs]⟩)
  rotate_left
  (try simp only [bE, askE, kidG, g_k, g_n, g_kids, gz, gs, bs, hr0, hr2, Bool.and_self, if_neg hn])
  refine And.intro ?_ (fun t ht => by injection ht with ht; subst ht; exact ⟨rfl, by simp [szG, szGs]⟩)
  rotate_left
  all_goals
    refine fnQ_of_vc txok mixed [(1, .take 0 (.pure 1 (.take 2 (.pure 3 (.take 4 (.take 6 (.pure 7 (.take 8 (.pure 9 (.take 10 (.three 5 12 13 (.three 11 12 13 (.two 12 13 (.run 13 (.fin 14 (.fin 15 .done))) (.run 12 (.fin 14 (.fin 15 .done)))) (.two 11 13 (.run 13 (.fin 14 (.fin 15 .done))) (.fin 11 (.fin 14 (.fin 15 .done)))) (.two 11 12 (.run 12 (.fin 14 (.fin 15 .done))) (.fin 11 (.fin 14 (.fin 15 .done))))) (.two 5 13 (.two 11 13 (.run 13 (.fin 14 (.fin 15 .done))) (.fin 11 (.fin 14 (.fin 15 .done)))) (.run 5 (.fin 11 (.fin 14 (.fin 15 .done))))) (.two 5 12 (.two 11 12 (.run 12 (.fin 14 (.fin 15 .done))) (.fin 11 (.fin 14 (.fin 15 .done)))) (.run 5 (.fin 11 (.fin 14 (.fin 15 .done))))))))))))))))] Tryz.func125 rfl rfl (by simp) fun bb => ?_
    repeat' ((conv => whnf); first
      | refine And.intro (by kernel_rfl) ?_
      | (refine And.intro (fun h => ?_) (fun h => ?_); rotate_left; focus (exfalso; simp_all [MG.k, MG.n, g_k]; first | done | omega))
      | (refine And.intro (fun h => ?_) (fun h => ?_); focus (exfalso; simp_all [MG.k, MG.n, g_k]; first | done | omega))
      | refine And.intro ?_ ?_
      | refine IdxC.encMs (l := [u, v]) 0 (by simp) rfl ?_
      | refine IdxC.encMs (l := [u, v]) 1 (by simp) rfl ?_
      | (refine callQ rfl rfl gf46 hK0 ?_; rintro o rfl)
      | (refine callQ rfl rfl gf46 hK2 ?_; rintro o rfl)
      | (refine callQ rfl rfl gf167 (ask_fn false) ?_; rintro o rfl)
      | (refine callQ rfl rfl gf167 hA ?_; rintro o rfl)
      | (refine callQ rfl rfl gf167 (ask_fn true) ?_; rintro o rfl)
      | refine callF (node_fn 2 []) gf165 rfl rfl ?_
      | refine callF (node_fn 1 []) gf165 rfl rfl ?_
      | intro _)
    all_goals (try (conv => whnf))
    all_goals exact rfl
theorem kid_bin (n i : Int) (nm : ByteArray) (ls : List ByteArray) (u : MG) (v : MG) (cu : Chk) (hcu : KidOk u cu) (cv : Chk) (hcv : KidOk v cv) (hz : szM (.mk 13 n i nm ls [] [u, v]) ≤ 1073741824) : KidOk (.mk 13 n i nm ls [] [u, v]) (fun vars l => fitE ((binR n cu cv) vars l)) :=
  kid_of _ ((binR n cu cv)) 13 125 rfl rfl gf125 fun vars l hv hl hb => binW_fn vars l n i nm ls u v cu hcu cv hcv hv hl hz hb
end Go.Proofs.YtcjkikadolnfgaaGreat


/- Rules: inj (printed by gzw.py). -/
set_option linter.unusedSimpArgs false
set_option linter.unusedVariables false
namespace Go.Proofs.YtcjkikadolnfgaaGreat
open Go.Vx Go.Vc Go.RowKit
set_option maxRecDepth 20000 in
set_option maxHeartbeats 2000000 in
theorem injW_fn (vars : List Int) (l : List Bd) (n i : Int) (nm : ByteArray) (ls : List ByteArray) (j : Nat) (a : TG) (u : MG) (cu : Chk) (hcu : KidOk u cu) (hv : vars.length + szM (.mk 16 (j : Int) i nm ls [a] [u]) ≤ 549755813888) (hl : l.length + 2 * szM (.mk 16 (j : Int) i nm ls [a] [u]) ≤ 549755813888) (hz : szM (.mk 16 (j : Int) i nm ls [a] [u]) ≤ 1073741824) (hb : Bnd l) : FnQ Tryz.prog G0 128 [dSc vars l, dM (.mk 16 (j : Int) i nm ls [a] [u])] (fun o => o = resO ((injR a (j : Int) cu) vars l)) ∧ ∀ t, (injR a (j : Int) cu) vars l = .ok t → allG t = true ∧ szG t ≤ 2147483648 := by
  simp only [szM, szMs, szGs] at hv hl hz
  unfold injR
  try simp only []
  have hH0 := here_fn vars l a (by omega)
  unfold hereR at hH0
  refine boC (insG a vars) (fun hi0 => ?_) (fun hi0 => ?_)
  rw [hi0] at hH0
  (try simp only [bE, askE, kidG, g_k, g_n, g_kids, gz, gs, bs, hi0])
  first | refine And.intro ?_ nofun | refine And.intro ?_ (by simp) | skip
  rotate_left
  rw [hi0] at hH0
  have haa := ins_all hi0
  have hK2 := hcu (vars) (l) (by (try simp only [lA, lC, lN]); omega) (by (try simp only [lA, lC, lN]); omega) (hb)
  obtain ⟨hK2, hK2G⟩ := hK2
  refine exC (cu (vars) (l)) (fun e hr2 => ?_) (fun w hr2 => ?_)
  rw [hr2] at hK2
  (try simp only [bE, askE, kidG, g_k, g_n, g_kids, gz, gs, bs, hi0, hr2])
  first | refine And.intro ?_ nofun | refine And.intro ?_ (by simp) | skip
  rotate_left
  rw [hr2] at hK2
  obtain ⟨haw, hzw⟩ := hK2G w hr2
  obtain ⟨ka, na, lsa, la⟩ := a
  refine byC (P := ka = 8) (fun ha8 => ?_) (fun ha8 => ?_)
  have hkb : (ka == 8) = false := by simpa using ha8
  (try simp only [bE, askE, kidG, g_k, g_n, g_kids, gz, gs, bs, hi0, hr2, hkb, Bool.false_and])
  first | refine And.intro ?_ nofun | refine And.intro ?_ (by simp) | skip
  rotate_left
  subst ha8
  have hA := ask_fn (decide ((j : Int) < (la.length : Int)))
  refine byC (P := j < la.length) (fun hj => ?_) (fun hj => ?_)
  have hjb : decide ((j : Int) < (la.length : Int)) = false := decide_eq_false (by omega)
  rw [show askO (decide ((j : Int) < (la.length : Int))) = .pan (badW 30) from by rw [hjb]; rfl] at hA
  have hjn : Nat.blt j la.length = false := by rw [← Bool.not_eq_true, Nat.blt_eq]; exact hj
  (try simp only [bE, askE, kidG, g_k, g_n, g_kids, gz, gs, bs, hi0, hr2, hjn, Int.toNat_natCast, Bool.and_false])
  first | refine And.intro ?_ nofun | refine And.intro ?_ (by simp) | skip
  rotate_left
  have hjn : Nat.blt j la.length = true := by simpa using hj
  have hjb : decide ((j : Int) < (la.length : Int)) = true := decide_eq_true (by omega)
  rw [show askO (decide ((j : Int) < (la.length : Int))) = .ret (.tup []) from by rw [hjb]; rfl] at hA
  have hkd : kidG (.mk 8 na lsa la) j = la[j] := by simp only [kidG, g_kids]; rw [List.getD_eq_getElem?_getD, List.getElem?_eq_getElem hj]; rfl
  have hS := same_fn w la[j] (by omega)
  refine boC (samG w la[j] [] []) (fun hs => ?_) (fun hs => ?_)
  rw [hs] at hS
  (try simp only [bE, askE, g_k, g_n, g_kids, gz, gs, bs, hi0, hr2, hjn, Bool.and_self, Int.toNat_natCast, hkd, hs])
  first | refine And.intro ?_ nofun | refine And.intro ?_ (by simp) | skip
  rotate_left
  rw [hs] at hS
  (try simp only [bE, askE, g_k, g_n, g_kids, gz, gs, bs, hi0, hr2, hjn, Bool.and_self, Int.toNat_natCast, hkd, hs])
  refine And.intro ?_ (fun t ht => by injection ht with ht; subst ht; exact ⟨haa, by omega⟩)
  rotate_left
  all_goals
    refine fnQ_of_vc txok mixed [(1, .take 0 (.pure 1 (.take 2 (.pure 3 (.take 4 (.two 5 6 (.run 6 (.fin 7 .done)) (.fin 5 (.fin 7 .done)))))))), (2, .take 0 (.pure 1 (.take 2 (.pure 3 (.take 4 (.two 5 6 (.run 6 (.fin 7 .done)) (.fin 5 (.fin 7 .done)))))))), (4, .take 0 (.pure 1 (.take 2 (.pure 3 (.take 4 (.pure 5 (.take 6 (.fin 7 .done))))))))] Tryz.func128 rfl rfl (by simp) fun bb => ?_
    repeat' ((conv => whnf); first
      | refine And.intro (by kernel_rfl) ?_
      | (refine And.intro (fun h => ?_) (fun h => ?_); rotate_left; focus (exfalso; simp_all [MG.k, MG.n, g_k]; first | done | omega))
      | (refine And.intro (fun h => ?_) (fun h => ?_); focus (exfalso; simp_all [MG.k, MG.n, g_k]; first | done | omega))
      | refine And.intro ?_ ?_
      | refine IdxC.encGs (l := [a]) 0 (by simp) rfl ?_
      | refine IdxC.encMs (l := [u]) 0 (by simp) rfl ?_
      | (refine callQ rfl rfl gf168 hH0 ?_; rintro o rfl)
      | (refine callQ rfl rfl gf46 hK2 ?_; rintro o rfl)
      | refine IdxC.encGs (l := [(.mk ka na lsa la)]) 0 (by simp) rfl ?_
      | (refine callQ rfl rfl gf167 (ask_fn false) ?_; rintro o rfl)
      | refine IdxC.encGs (l := [(.mk 8 na lsa la)]) 0 (by simp) rfl ?_
      | (refine callQ rfl rfl gf167 hA ?_; rintro o rfl)
      | refine IdxC.encGs (l := la) j hj rfl ?_
      | (refine callQ rfl rfl gf170 hS ?_; rintro o rfl)
      | intro _)
    all_goals (try (conv => whnf))
    all_goals exact rfl
theorem kid_inj (n i : Int) (nm : ByteArray) (ls : List ByteArray) (j : Nat) (a : TG) (u : MG) (cu : Chk) (hcu : KidOk u cu) (hz : szM (.mk 16 (j : Int) i nm ls [a] [u]) ≤ 1073741824) : KidOk (.mk 16 (j : Int) i nm ls [a] [u]) (fun vars l => fitE ((injR a (j : Int) cu) vars l)) :=
  kid_of _ ((injR a (j : Int) cu)) 16 128 rfl rfl gf128 fun vars l hv hl hb => injW_fn vars l n i nm ls j a u cu hcu hv hl hz hb
end Go.Proofs.YtcjkikadolnfgaaGreat


/- Rules: opened (printed by gzw.py). -/
set_option linter.unusedSimpArgs false
set_option linter.unusedVariables false
namespace Go.Proofs.YtcjkikadolnfgaaGreat
open Go.Vx Go.Vc Go.RowKit
set_option maxRecDepth 20000 in
set_option maxHeartbeats 2000000 in
theorem openedW_fn (vars : List Int) (l : List Bd) (n i : Int) (nm : ByteArray) (ls : List ByteArray) (u : MG) (v : MG) (cu : Chk) (hcu : KidOk u cu) (cv : Chk) (hcv : KidOk v cv) (hv : vars.length + szM (.mk 23 n i nm ls [] [u, v]) ≤ 549755813888) (hl : l.length + 2 * szM (.mk 23 n i nm ls [] [u, v]) ≤ 549755813888) (hz : szM (.mk 23 n i nm ls [] [u, v]) ≤ 1073741824) (hb : Bnd l) : FnQ Tryz.prog G0 135 [dSc vars l, dM (.mk 23 n i nm ls [] [u, v])] (fun o => o = resO ((openR putR n nm cu cv) vars l)) ∧ ∀ t, (openR putR n nm cu cv) vars l = .ok t → allG t = true ∧ szG t ≤ 2147483648 := by
  simp only [szM, szMs, szGs] at hv hl hz
  unfold openR
  try simp only []
  have hK0 := hcu (vars) (l) (by (try simp only [lA, lC, lN]); omega) (by (try simp only [lA, lC, lN]); omega) (hb)
  obtain ⟨hK0, hK0G⟩ := hK0
  refine exC (cu (vars) (l)) (fun e hr0 => ?_) (fun w hr0 => ?_)
  rw [hr0] at hK0
  (try simp only [bE, askE, kidG, g_k, g_n, g_kids, gz, gs, bs, hr0])
  first | refine And.intro ?_ nofun | refine And.intro ?_ (by simp) | skip
  rotate_left
  rw [hr0] at hK0
  obtain ⟨haw, hzw⟩ := hK0G w hr0
  obtain ⟨kw, nw, lsw, lw⟩ := w
  have hA2 := ask_fn (kw == 11)
  refine byC (P := kw = 11) (fun hk2 => ?_) (fun hk2 => ?_)
  have hkb : (kw == 11) = false := by simpa using hk2
  rw [show askO (kw == 11) = .pan (badW 30) from by rw [hkb]; rfl] at hA2
  (try simp only [bE, askE, kidG, g_k, g_n, g_kids, gz, gs, bs, hr0, hkb])
  first | refine And.intro ?_ nofun | refine And.intro ?_ (by simp) | skip
  rotate_left
  subst hk2
  obtain ⟨rfl, uw, rfl⟩ := shp1 (by omega) ((allG_mk ..).1 haw).1
  have hauw := ((allG_mk ..).1 haw).2 uw (by simp)
  have hzuw : szG uw ≤ szG (TG.mk 11 nw [] [uw]) := by simp only [szG, szGs]; omega
  have hO5 := open_fn (vars) (l) n (by omega)
  refine byC (P := n ∉ vars) (fun hm5 => ?_) (fun hm5 => ?_)
  have hm5 : n ∈ vars := Classical.byContradiction hm5
  rw [if_pos hm5] at hO5
  simp only [if_pos hm5]
  (try simp only [bE, askE, kidG, g_k, g_n, g_kids, gz, gs, bs, hr0])
  first | refine And.intro ?_ nofun | refine And.intro ?_ (by simp) | skip
  rotate_left
  rw [if_neg hm5] at hO5
  simp only [if_neg hm5]
  have hP7 := kput_fn uw nw (varG n) (allG_okV hauw) (by omega) (by simp [varG, szG, szGs])
  refine exC (putR uw nw (varG n)) (fun e hw7 => ?_) (fun z hw7 => ?_)
  rw [hw7] at hP7
  (try simp only [bE, askE, kidG, g_k, g_n, g_kids, gz, gs, bs, hr0, hw7])
  first | refine And.intro ?_ nofun | refine And.intro ?_ (by simp) | skip
  rotate_left
  rw [hw7] at hP7
  obtain ⟨haz, hzz⟩ := putR_good hauw (allG_var n) hw7
  have hW9 := with_fn (vars ++ [n]) (l) nm z (by (try simp only [lA, lC, lN]); omega)
  have hK11 := hcv (vars ++ [n]) (l ++ [(nm, z)]) (by (try simp only [lA, lC, lN]); omega) (by (try simp only [lA, lC, lN]); omega) (hb.snoc haz (by omega))
  obtain ⟨hK11, hK11G⟩ := hK11
  refine exC (cv (vars ++ [n]) (l ++ [(nm, z)])) (fun e hr11 => ?_) (fun y hr11 => ?_)
  rw [hr11] at hK11
  (try simp only [bE, askE, kidG, g_k, g_n, g_kids, gz, gs, bs, hr0, hw7, hr11])
  first | refine And.intro ?_ nofun | refine And.intro ?_ (by simp) | skip
  rotate_left
  rw [hr11] at hK11
  obtain ⟨hay, hzy⟩ := hK11G y hr11
  have hFr := freeT_fn y (by omega)
  have hCo := contains_fn (freeS y) n
  have hA := ask_fn (!decide (n ∈ freeS y))
  refine byC (P := n ∉ freeS y) (fun hf => ?_) (fun hf => ?_)
  have hf : n ∈ freeS y := Classical.byContradiction hf
  have hfb : decide (n ∈ freeS y) = true := decide_eq_true hf
  rw [show askO (!decide (n ∈ freeS y)) = .pan (badW 30) from by rw [hfb]; rfl] at hA
  (try simp only [bE, askE, kidG, g_k, g_n, g_kids, gz, gs, bs, hr0, hw7, hr11, hfb, Bool.not_true])
  first | refine And.intro ?_ nofun | refine And.intro ?_ (by simp) | skip
  rotate_left
  have hfb : decide (n ∈ freeS y) = false := decide_eq_false hf
  rw [show askO (!decide (n ∈ freeS y)) = .ret (.tup []) from by rw [hfb]; rfl] at hA
  (try simp only [bE, askE, kidG, g_k, g_n, g_kids, gz, gs, bs, hr0, hw7, hr11, hfb, Bool.not_false])
  refine And.intro ?_ (fun t ht => by injection ht with ht; subst ht; exact ⟨hay, by omega⟩)
  rotate_left
  all_goals
    refine fnQ_of_vc txok mixed [(1, .take 0 (.pure 1 (.take 2 (.pure 3 (.take 4 (.two 5 6 (.run 6 (.fin 7 .done)) (.fin 5 (.fin 7 .done)))))))), (4, .take 0 (.pure 1 (.take 2 (.pure 3 (.take 4 (.pure 5 (.take 6 (.pure 7 (.take 8 (.pure 9 (.take 10 (.pure 11 (.pure 14 (.take 15 (.pure 16 (.take 17 (.two 12 19 (.two 13 19 (.two 18 19 (.run 19 (.fin 20 .done)) (.fin 18 (.fin 20 .done))) (.run 13 (.fin 18 (.fin 20 .done)))) (.run 12 (.run 13 (.fin 18 (.fin 20 .done))))))))))))))))))))), (5, .take 0 (.pure 2 (.take 3 (.run 1 (.fin 4 (.pure 5 (.fin 6 .done)))))))] Tryz.func135 rfl rfl (by simp) fun bb => ?_
    repeat' ((conv => whnf); first
      | refine And.intro (by kernel_rfl) ?_
      | (refine And.intro (fun h => ?_) (fun h => ?_); rotate_left; focus (exfalso; simp_all [MG.k, MG.n, g_k]; first | done | omega))
      | (refine And.intro (fun h => ?_) (fun h => ?_); focus (exfalso; simp_all [MG.k, MG.n, g_k]; first | done | omega))
      | refine And.intro ?_ ?_
      | refine IdxC.encMs (l := [u, v]) 0 (by simp) rfl ?_
      | refine IdxC.encMs (l := [u, v]) 1 (by simp) rfl ?_
      | (refine callQ rfl rfl gf46 hK0 ?_; rintro o rfl)
      | (refine callQ rfl rfl gf167 hA2 ?_; rintro o rfl)
      | (refine callQ rfl rfl gf167 (ask_fn true) ?_; rintro o rfl)
      | refine IdxC.encGs (l := [uw]) 0 (by simp) rfl ?_
      | (refine callQ rfl rfl gf173 hO5 ?_; rintro o rfl)
      | (refine callQ rfl rfl gf29 hP7 ?_; rintro o rfl)
      | refine callF hW9 gf169 rfl rfl ?_
      | (refine callQ rfl rfl gf46 hK11 ?_; rintro o rfl)
      | refine callF hFr gf33 rfl rfl ?_
      | refine callF hCo gf35 rfl rfl ?_
      | (refine callQ rfl rfl gf167 hA ?_; rintro o rfl)
      | intro _)
    all_goals (try (conv => whnf))
    all_goals exact rfl
theorem kid_opened (n i : Int) (nm : ByteArray) (ls : List ByteArray) (u : MG) (v : MG) (cu : Chk) (hcu : KidOk u cu) (cv : Chk) (hcv : KidOk v cv) (hz : szM (.mk 23 n i nm ls [] [u, v]) ≤ 1073741824) : KidOk (.mk 23 n i nm ls [] [u, v]) (fun vars l => fitE ((openR putR n nm cu cv) vars l)) :=
  kid_of _ ((openR putR n nm cu cv)) 23 135 rfl rfl gf135 fun vars l hv hl hb => openedW_fn vars l n i nm ls u v cu hcu cv hcv hv hl hz hb
end Go.Proofs.YtcjkikadolnfgaaGreat


