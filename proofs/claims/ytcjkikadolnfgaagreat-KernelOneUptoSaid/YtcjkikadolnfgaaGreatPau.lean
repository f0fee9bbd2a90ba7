/- Texts of mine, joined: Fd Cc Fe Ff Aa Ab Ac Ad Ae Af Ag Ah Ai Aj. -/
import Derived.Test.YtcjkikadolnfgaaGreatPat
/- SameTerm. -/
set_option linter.unusedSimpArgs false
set_option linter.unusedVariables false
namespace Go.Proofs.YtcjkikadolnfgaaGreat
open Go.Vx Go.Vc Go.RowKit
mutual
def wlM : MG → Nat
  | .mk _ _ _ _ ls ts ks => wlMs ks + szGs ts + ls.length + 1
def wlMs : List MG → Nat
  | [] => 0
  | t :: r => wlM t + wlMs r
end
theorem wlM_mem {l : List MG} {t : MG} (h : t ∈ l) : wlM t ≤ wlMs l := by
  induction l with
  | nil => cases h
  | cons x r ih =>
    simp only [wlMs]
    rcases List.mem_cons.1 h with rfl | h
    · omega
    · have := ih h; omega
theorem szM_wlM : ∀ m : MG, szM m ≤ wlM m := by
  refine MG.ind fun k n i nm ls ts ks ih => ?_
  have : ∀ l : List MG, (∀ m ∈ l, szM m ≤ wlM m) → szMs l ≤ wlMs l := by
    intro l
    induction l with
    | nil => intro _; simp [szMs, wlMs]
    | cons x r ihr =>
      intro h
      have h1 := h x (by simp)
      have h2 := ihr fun m hm => h m (by simp [hm])
      simp only [szMs, wlMs]; omega
  have := this ks ih
  rw [szM, wlM]; omega
theorem inV_len (k n : Int) (j : Nat) (s : List Int) : (inV k n j s).length ≤ s.length + 1 := by
  unfold inV; split
  · simp
  · omega
theorem inX_len (k : Int) (nm : ByteArray) (ls : List ByteArray) (j : Nat) (x : List ByteArray) : (inX k nm ls j x).length ≤ x.length + ls.length + 1 := by
  unfold inX; (repeat' split) <;> (try simp only [List.length_append, List.length_cons, List.length_nil]) <;> omega
theorem samMs_drop {s : Nat → List Int} {x : Nat → List ByteArray} {t : Nat → List Int} {y : Nat → List ByteArray} {l m : List MG} {i : Nat} (hl : i < l.length) (hm : i < m.length) : samMs s x t y i (l.drop i) (m.drop i) = (samM l[i] m[i] (s i) (x i) (t i) (y i) && samMs s x t y (i + 1) (l.drop (i + 1)) (m.drop (i + 1))) := by
  rw [List.drop_eq_getElem_cons hl, List.drop_eq_getElem_cons hm, samMs]
theorem samMs_nil (s : Nat → List Int) (x : Nat → List ByteArray) (t : Nat → List Int) (y : Nat → List ByteArray) (j : Nat) (m : List MG) : samMs s x t y j [] m = true := by cases m <;> rfl
theorem leafR {R : Bool} (h : R = true → False) : D.bool false = D.bool R := by
  cases R with
  | false => rfl
  | true => exact (h rfl).elim
set_option maxHeartbeats 2000000 in
set_option maxRecDepth 20000 in
theorem sameTerm_fn : ∀ (a u : MG) (s : List Int) (x : List ByteArray) (t : List Int) (y : List ByteArray), s.length + wlM a < 1073741824 → t.length + wlM a < 1073741824 → x.length + wlM a * 2 < 1073741824 → y.length + wlM a * 2 < 1073741824 → FnR Tryz.prog G0 38 [dM a, dM u, dX s x, dX t y] (.bool (samM a u s x t y)) := by
  refine MG.ind fun k n i nm ls ts ks ih u s x t y hss htt hxx hyy => ?_
  obtain ⟨k', n', i', nm', ls', ts', ks'⟩ := u
  refine fnQ_sz fun hs => ?_
  have hl := (szOk_M (m := .mk k n i nm ls ts ks) hs.1)
  have hl' := (szOk_M (m := .mk k' n' i' nm' ls' ts' ks') hs.2.1)
  simp only [MG.ks, MG.ts, MG.ls, LB] at hl hl'
  have hsz : wlM (.mk k n i nm ls ts ks) = wlMs ks + szGs ts + ls.length + 1 := by simp only [wlM]
  have hkl : ks.length ≤ wlMs ks := by
    have : ∀ l : List MG, l.length ≤ wlMs l := by
      intro l
      induction l with
      | nil => simp [wlMs]
      | cons x r ihr => have : 1 ≤ wlM x := by (cases x; rw [wlM]; omega)
                        simp only [wlMs, List.length_cons]; omega
    exact this ks
  rw [hsz] at hss htt hxx hyy
  have hkid : ∀ (j : Nat) (h : j < ks.length) (h' : j < ks'.length), ls.length = ls'.length → FnR Tryz.prog G0 38 [dM ks[j], dM ks'[j], dX (inV k n j s) (inX k nm ls j x), dX (inV k' n' j t) (inX k' nm' ls' j y)] (.bool (samM ks[j] ks'[j] (inV k n j s) (inX k nm ls j x) (inV k' n' j t) (inX k' nm' ls' j y))) := fun j h h' hll => by
    have h1 := inV_len k n j s
    have h2 := inV_len k' n' j t
    have h3 := inX_len k nm ls j x
    have h4 := inX_len k' nm' ls' j y
    have h5 := wlM_mem (List.getElem_mem h)
    exact ih ks[j] (by simp) ks'[j] _ _ _ _ (by omega) (by omega) (by omega) (by omega)
  have hin : ∀ j : Nat, j < ks.length → FnR Tryz.prog G0 78 [dM (.mk k n i nm ls ts ks), .int .i64 j, dX s x] (dX (inV k n j s) (inX k nm ls j x)) := fun j h => inner_fn (.mk k n i nm ls ts ks) j s x (by omega) (by omega) (by simp only [MG.ls]; omega)
  have hin' : ∀ j : Nat, j < ks.length → ls.length = ls'.length → FnR Tryz.prog G0 78 [dM (.mk k' n' i' nm' ls' ts' ks'), .int .i64 j, dX t y] (dX (inV k' n' j t) (inX k' nm' ls' j y)) := fun j h hll => inner_fn (.mk k' n' i' nm' ls' ts' ks') j t y (by omega) (by omega) (by simp only [MG.ls]; omega)
  have hV := bndV_fn (.mk k n i nm ls ts ks)
  have hL := bndL_fn (.mk k n i nm ls ts ks)
  have hN := bndN_fn (.mk k n i nm ls ts ks)
  have hE := equalS_fn ls ls'
  have hA := lastN_fn x nm
  have hB := lastN_fn y nm'
  refine fnQ_of_vc txok mixed ((100005, .done) :: (100011, .done) :: [(6, .pure 0 (.take 1 (.pure 2 (.take 3 (.pure 5 (.take 6 (.pure 7 (.take 8 (.run 4 (.fin 9 (.pure 10 (.pure 11 .done)))))))))))), (14, .pure 0 (.take 1 (.pure 2 (.pure 3 (.take 4 (.pure 5 (.take 6 (.pure 7 (.pure 8 (.take 9 (.pure 10 (.take 11 (.pure 12 (.take 13 (.fin 14 (.pure 15 .done)))))))))))))))), (20, .pure 0 (.take 1 (.pure 2 (.pure 3 (.take 4 (.pure 5 (.take 6 (.pure 7 (.pure 8 (.take 9 (.take 10 (.pure 11 (.take 12 (.take 14 (.pure 15 (.take 16 (.run 13 (.run 17 (.fin 18 (.pure 19 .done))))))))))))))))))))]) Tryz.func38 rfl rfl (by simp) fun b => ?_
  have hiff : samM (.mk k n i nm ls ts ks) (.mk k' n' i' nm' ls' ts' ks') s x t y = true ↔ (k = k' ∧ i = i' ∧ ks.length = ks'.length ∧ ts.length = ts'.length ∧ ls.length = ls'.length) ∧ ((bndV k = true ∨ n = n') ∧ (bndL k = true ∨ ls = ls')) ∧ ((k = 4 → lastS x nm = lastS y nm' ∧ (0 ≤ lastS x nm ∨ nm = nm')) ∧ (k ≠ 4 → bndN k = true ∨ nm = nm')) ∧ samGs ts ts' s t = true ∧ samMs (fun j => inV k n j s) (fun j => inX k nm ls j x) (fun j => inV k' n' j t) (fun j => inX k' nm' ls' j y) 0 ks ks' = true := by
    rw [samM_mk, nodM]
    by_cases h4 : k = 4 <;> simp [h4, and_assoc]
  generalize samM (.mk k n i nm ls ts ks) (.mk k' n' i' nm' ls' ts' ks') s x t y = R at *
  repeat' ((conv => whnf); refine And.intro (fun h => ?_) (fun h => ?_))
  all_goals (try (conv => whnf))
  all_goals (first
    | (refine leafR fun hR => ?_; obtain ⟨⟨a1, a2, a3, a4, a5⟩, ⟨a6, a7⟩, ⟨a8, a9⟩, -⟩ := hiff.1 hR; simp_all [MG.k, MG.n, MG.i, MG.ls, MG.nm, MG.ts, MG.ks, beqB']; done)
    | skip)
  have hF : k = k' ∧ i = i' ∧ ks.length = ks'.length ∧ ts.length = ts'.length ∧ ls.length = ls'.length := by
    simp_all [MG.k, MG.n, MG.i, MG.ls, MG.nm, MG.ts, MG.ks, beqB']
    omega
  refine CutC.mk (fun st => st = ⟨[(4, .own 0 0), (5, .own 1 0), (6, .own 2 0), (7, .own 3 0), (8, .kb false)], [(0, .blk 26 [.d (.int .i64 k), .d (.int .i64 n), .d (.int .i64 i), .d (.str nm), .d (dL ls), .d (dGs ts), .d (dMs ks)]), (1, .blk 26 [.d (.int .i64 k'), .d (.int .i64 n'), .d (.int .i64 i'), .d (.str nm'), .d (dL ls'), .d (dGs ts'), .d (dMs ks')]), (2, .blk 61 [.d (dI s), .d (dL x)]), (3, .blk 61 [.d (dI t), .d (dL y)])], 4⟩ ∧ ((bndV k = true ∨ n = n') ∧ (bndL k = true ∨ ls = ls'))) ?_ ?_
  · repeat' ((conv => whnf); first
      | refine callF hV gf73 rfl rfl ?_
      | refine callF hL gf74 rfl rfl ?_
      | refine callF hE gf75 rfl rfl ?_
      | refine And.intro (by kernel_rfl) ?_
      | refine And.intro (fun h => ?_) (fun h => ?_))
    all_goals (try (conv => whnf))
    all_goals (first
      | (refine leafR fun hR => ?_; obtain ⟨⟨a1, a2, a3, a4, a5⟩, ⟨a6, a7⟩, ⟨a8, a9⟩, -⟩ := hiff.1 hR; simp_all [MG.k, MG.n, MG.i, MG.ls, MG.nm, MG.ts, MG.ks, beqB']; done)
      | (refine ⟨_, ⟨rfl, ?_⟩, weak_of rfl (by repeat ((conv => whnf); first | exact trivial | refine And.intro rfl ?_ | refine And.intro (incD (by omega)) ?_)) (by repeat ((conv => whnf); first | exact trivial | refine And.intro rfl ?_ | refine And.intro (incD (by omega)) ?_))⟩; simp_all [MG.k, MG.n, MG.i, MG.ls, MG.nm, MG.ts, MG.ks, beqB']; done)
      | skip)
  · rintro st' ⟨rfl, hG⟩
    conv => whnf
    refine CutC.mk (fun st => st = ⟨[(4, .own 0 0), (5, .own 1 0), (6, .own 2 0), (7, .own 3 0), (8, .kb false)], [(0, .blk 26 [.d (.int .i64 k), .d (.int .i64 n), .d (.int .i64 i), .d (.str nm), .d (dL ls), .d (dGs ts), .d (dMs ks)]), (1, .blk 26 [.d (.int .i64 k'), .d (.int .i64 n'), .d (.int .i64 i'), .d (.str nm'), .d (dL ls'), .d (dGs ts'), .d (dMs ks')]), (2, .blk 61 [.d (dI s), .d (dL x)]), (3, .blk 61 [.d (dI t), .d (dL y)])], 4⟩ ∧ ((k = 4 → lastS x nm = lastS y nm' ∧ (0 ≤ lastS x nm ∨ nm = nm')) ∧ (k ≠ 4 → bndN k = true ∨ nm = nm'))) ?_ ?_
    · repeat' ((conv => whnf); first
        | refine callF hA gf76 rfl rfl ?_
        | refine callF hB gf76 rfl rfl ?_
        | refine callF hN gf77 rfl rfl ?_
        | refine And.intro (by kernel_rfl) ?_
        | refine And.intro (fun h => ?_) (fun h => ?_))
      all_goals (try (conv => whnf))
      all_goals (first
        | (refine leafR fun hR => ?_; obtain ⟨⟨a1, a2, a3, a4, a5⟩, ⟨a6, a7⟩, ⟨a8, a9⟩, -⟩ := hiff.1 hR; simp_all [MG.k, MG.n, MG.i, MG.ls, MG.nm, MG.ts, MG.ks, beqB']; done)
        | (refine ⟨_, ⟨rfl, ?_⟩, weak_of rfl (by repeat ((conv => whnf); first | exact trivial | refine And.intro rfl ?_ | refine And.intro (incD (by omega)) ?_)) (by repeat ((conv => whnf); first | exact trivial | refine And.intro rfl ?_ | refine And.intro (incD (by omega)) ?_))⟩; simp_all [MG.k, MG.n, MG.i, MG.ls, MG.nm, MG.ts, MG.ks, beqB']; done)
        | skip)
      all_goals
        refine leafR fun hR => ?_
        obtain ⟨-, -, ⟨a8, -⟩, -⟩ := hiff.1 hR
        simp_all [MG.k, beqB']
        omega
    · rintro st' ⟨rfl, hK⟩
      have hx : R = (samGs (ts.drop 0) (ts'.drop 0) s t && samMs (fun j => inV k n j s) (fun j => inX k nm ls j x) (fun j => inV k' n' j t) (fun j => inX k' nm' ls' j y) 0 ks ks') := by
        rw [Bool.eq_iff_iff, hiff, List.drop_zero, List.drop_zero, Bool.and_eq_true]
        exact ⟨fun h => h.2.2.2, fun h => ⟨hF, hG, hK, h⟩⟩
      conv => whnf
      refine loopH (fun i : Nat => i ≤ ts.length ∧ R = (samGs (ts.drop i) (ts'.drop i) s t && samMs (fun j => inV k n j s) (fun j => inX k nm ls j x) (fun j => inV k' n' j t) (fun j => inX k' nm' ls' j y) 0 ks ks')) (fun i => ts.length - i) (fun i => [(115, .d (.int .i64 i))]) (fun _ => [(0, .blk 26 [.d (.int .i64 k), .d (.int .i64 n), .d (.int .i64 i), .d (.str nm), .d (dL ls), .d (dGs ts), .d (dMs ks)]), (1, .blk 26 [.d (.int .i64 k'), .d (.int .i64 n'), .d (.int .i64 i'), .d (.str nm'), .d (dL ls'), .d (dGs ts'), .d (dMs ks')]), (2, .blk 61 [.d (dI s), .d (dL x)]), (3, .blk 61 [.d (dI t), .d (dL y)])]) 4 0 ⟨by omega, hx⟩ (weak_of rfl (by repeat ((conv => whnf); first | exact trivial | refine And.intro rfl ?_ | refine And.intro (incD (by omega)) ?_)) (by repeat ((conv => whnf); first | exact trivial | refine And.intro rfl ?_ | refine And.intro (incD (by omega)) ?_))) ?_
      rintro i0 ⟨hi, hx⟩
      conv => whnf
      refine And.intro (fun hb => ?_) (fun hb => ?_)
      · have hil : i0 < ts.length := by have := of_decide_eq_true hb; omega
        have him : i0 < ts'.length := by omega
        have hmem := szG_mem (List.getElem_mem hil)
        rw [samGs_drop hil him] at hx
        conv => whnf
        refine And.intro (by kernel_rfl) ?_
        conv => whnf
        refine IdxC.encGs i0 hil rfl ?_
        conv => whnf
        refine IdxC.encGs i0 him rfl ?_
        conv => whnf
        refine callF (sameType_fn ts[i0] ts'[i0] s t (by omega) (by omega)) gf47 rfl rfl ?_
        conv => whnf
        refine And.intro (fun h5 => ?_) (fun h5 => ?_)
        · conv => whnf
          refine leafR fun hR => ?_
          rw [hR] at hx; simp at h5; rw [h5] at hx; simp at hx
        · conv => whnf
          simp at h5
          rw [h5, Bool.true_and] at hx
          exact again (i0 + 1) (by omega) ⟨by omega, hx⟩ (weak_of rfl (by repeat ((conv => whnf); first | exact trivial | refine And.intro rfl ?_ | refine And.intro (incD (by omega)) ?_)) (by repeat ((conv => whnf); first | exact trivial | refine And.intro rfl ?_ | refine And.intro (incD (by omega)) ?_)))
      · have hil : i0 = ts.length := by have := of_decide_eq_false hb; omega
        subst hil
        rw [List.drop_length, samGs_nil, Bool.true_and] at hx
        conv => whnf
        refine loopH (fun i : Nat => i ≤ ks.length ∧ R = samMs (fun j => inV k n j s) (fun j => inX k nm ls j x) (fun j => inV k' n' j t) (fun j => inX k' nm' ls' j y) i (ks.drop i) (ks'.drop i)) (fun i => ks.length - i) (fun i => [(138, .d (.int .i64 i))]) (fun _ => [(0, .blk 26 [.d (.int .i64 k), .d (.int .i64 n), .d (.int .i64 i), .d (.str nm), .d (dL ls), .d (dGs ts), .d (dMs ks)]), (1, .blk 26 [.d (.int .i64 k'), .d (.int .i64 n'), .d (.int .i64 i'), .d (.str nm'), .d (dL ls'), .d (dGs ts'), .d (dMs ks')]), (2, .blk 61 [.d (dI s), .d (dL x)]), (3, .blk 61 [.d (dI t), .d (dL y)])]) 4 0 ⟨by omega, by rw [List.drop_zero, List.drop_zero]; exact hx⟩ (weak_of rfl (by repeat ((conv => whnf); first | exact trivial | refine And.intro rfl ?_ | refine And.intro (incD (by omega)) ?_)) (by repeat ((conv => whnf); first | exact trivial | refine And.intro rfl ?_ | refine And.intro (incD (by omega)) ?_))) ?_
        rintro i1 ⟨hi1, hx⟩
        conv => whnf
        refine And.intro (fun hb => ?_) (fun hb => ?_)
        · have hil : i1 < ks.length := by have := of_decide_eq_true hb; omega
          have him : i1 < ks'.length := by omega
          rw [samMs_drop hil him] at hx
          have q1 := hin i1 hil
          have q2 := hin' i1 hil (by omega)
          have q3 := hkid i1 hil him (by omega)
          repeat' ((conv => whnf); first
            | refine IdxC.encMs i1 hil rfl ?_
            | refine IdxC.encMs i1 him rfl ?_
            | refine callF q1 gf78 rfl rfl ?_
            | refine callF q2 gf78 rfl rfl ?_
            | refine callF q3 gf38 rfl rfl ?_
            | refine And.intro (by kernel_rfl) ?_
            | refine And.intro (fun h5 => ?_) (fun h5 => ?_)
            | refine And.intro ?_ ?_)
          all_goals (try (conv => whnf))
          all_goals (first
            | (refine leafR fun hR => ?_; rw [hR] at hx; simp_all; done)
            | (simp only [Bool.not_eq_false', Bool.not_eq_eq_eq_not, Bool.not_false] at h5; rw [h5, Bool.true_and] at hx; exact again (i1 + 1) (by omega) ⟨by omega, hx⟩ (weak_of rfl (by repeat ((conv => whnf); first | exact trivial | refine And.intro rfl ?_ | refine And.intro (incD (by omega)) ?_)) (by repeat ((conv => whnf); first | exact trivial | refine And.intro rfl ?_ | refine And.intro (incD (by omega)) ?_))))
            | skip)
        · have hil : i1 = ks.length := by have := of_decide_eq_false hb; omega
          subst hil
          rw [List.drop_length, samMs_nil] at hx
          conv => whnf
          rw [hx]
theorem sameTermTop_fn (a u : MG) (h : wlM a ≤ 1048576) : FnR Tryz.prog G0 16 [dM a, dM u] (.bool (samM a u [] [] [] [])) := by
  have hT := sameTerm_fn a u [] [] [] [] (by simp only [List.length_nil]; omega) (by simp only [List.length_nil]; omega) (by simp only [List.length_nil]; omega) (by simp only [List.length_nil]; omega)
  obtain ⟨k, n, i, nm, ls, ts, ks⟩ := a
  obtain ⟨k', n', i', nm', ls', ts', ks'⟩ := u
  refine fnQ_of_vc txok mixed [] Tryz.func16 rfl rfl (by simp) fun b => ?_
  conv => whnf
  refine callF hT gf38 rfl rfl ?_
  conv => whnf
  try exact rfl
end Go.Proofs.YtcjkikadolnfgaaGreat


/- Terms that are one up to the names that they bind have one type, whichever way types are put in. -/
set_option linter.unusedSimpArgs false
set_option linter.unusedVariables false
namespace Go.Proofs.YtcjkikadolnfgaaGreat
def WayOk (P : Putt) : Prop := ∀ (u : TG) (n : Int) (y : TG), allG u = true → allG y = true → ∃ w, PutIs w u n y ∧ P u n y = if szG u + cntG n u * (szG y - 1) ≤ 1048576 then .ok w else .error 3
theorem putR_ok : WayOk putR := fun u n y hu hy => ⟨_, putF_is n hu hy, rfl⟩
theorem RelR.put {P' : Putt} (hP : WayOk P') {s t : List Int} {u u' y y' : TG} {n n' : Int} (hu : RelT (s ++ [n]) (t ++ [n']) u u') (hy : RelT s t y y') : RelR s t (putR u n y) (P' u' n' y') := by
  obtain ⟨w, hw, e⟩ := hP u' n' y' hu.lb hy.lb
  have hst : s.length = t.length := hy.len
  rw [e]
  unfold putR
  rw [hu.sz, hy.sz, sam_cnt hst (allG_okV hu.la) (allG_okV hu.lb) hu.sam]
  split
  · have := put_rel hu hy hw
    rw [hu.sz] at this
    exact this
  · exact rfl
theorem len2 {α : Type} {l : List α} (h : l.length = 2) : ∃ a b, l = [a, b] := by
  match l, h with
  | [a, b], _ => exact ⟨a, b, rfl⟩
theorem len3 {α : Type} {l : List α} (h : l.length = 3) : ∃ a b c, l = [a, b, c] := by
  match l, h with
  | [a, b, c], _ => exact ⟨a, b, c, rfl⟩
theorem shp_len {k n i : Int} {nm : ByteArray} {ls : List ByteArray} {ts : List TG} {ks : List MG} (h : badM (shpOf k) (.mk k n i nm ls ts ks) = false) : (ts.length : Int) = (shpOf k).ts ∧ ((shpOf k).ks ≥ 0 → (ks.length : Int) = (shpOf k).ks) := by
  unfold badM at h
  simp only [Bool.or_eq_false_iff, Bool.and_eq_false_imp, bne_eq_false_iff_eq, decide_eq_true_eq] at h
  exact ⟨h.1.2, h.2⟩
theorem relT_var {s t : List Int} {n n' : Int} (hst : s.length = t.length) : RelT (s ++ [n]) (t ++ [n']) (varG n) (varG n') := by
  refine ⟨(sam_iff ..).2 ⟨rfl, rfl, rfl, fun _ => ⟨by rw [lastI_end, lastI_end, hst], fun h => by rw [lastI_end] at h; omega, rfl⟩, fun h => (by cases h), fun h => absurd rfl h⟩, by simp [hst], allG_var _, allG_var _, fun z hz => ?_⟩
  rw [(fv_var n z).1 hz]; simp
theorem relT_int {s t : List Int} {k : Int} (hst : s.length = t.length) (hk : k = 1 ∨ k = 2 ∨ k = 3) : RelT s t (.mk k 0 [] []) (.mk k 0 [] []) :=
  relT_mk hst (by rcases hk with rfl | rfl | rfl <;> rfl) (by omega) (by rcases hk with rfl | rfl | rfl <;> rfl) rfl fun j hj => by simp at hj
theorem relT_two {s t : List Int} {k : Int} {a b a' b' : TG} (hk : k = 4 ∨ k = 5) (ha : RelT s t a a') (hb : RelT s t b b') : RelT s t (.mk k 0 [] [a, b]) (.mk k 0 [] [a', b']) :=
  relT_mk ha.len (by rcases hk with rfl | rfl <;> rfl) (by omega) (by rcases hk with rfl | rfl <;> rfl) rfl fun j hj hj' => by
    match j, hj with
    | 0, _ => exact ha
    | 1, _ => exact hb
theorem RelT.k {s t : List Int} {a b : TG} (h : RelT s t a b) : a.k = b.k := by
  obtain ⟨k, n, ls, l⟩ := a
  obtain ⟨k', n', ls', l'⟩ := b
  exact h.kids.1
theorem RelT.ask2 {s t s' t' : List Int} {a b : TG} {r r' : Except Int TG} {k : Int} (hk : k = 4 ∨ k = 5) (h : RelT s t a b) (hr : RelT s t (kidG a 0) (kidG b 0) → RelT s t (kidG a 1) (kidG b 1) → RelR s' t' r r') : RelR s' t' (askE (a.k == k) r) (askE (b.k == k) r') := by
  refine RelR.ask (by rw [h.k]) fun e => ?_
  obtain ⟨ka, n, ls, l⟩ := a
  have e : ka = k := by simpa [g_k] using e
  subst e
  obtain ⟨rfl, rfl, a1, a2, b1, b2, rfl, rfl, h1, h2⟩ := h.two hk
  exact hr h1 h2
theorem RelT.ask1 {s t s' t' : List Int} {a b : TG} {r r' : Except Int TG} {k : Int} (hk : k = 9 ∨ k = 10 ∨ k = 11) (h : RelT s t a b) (hr : RelT (s ++ [a.n]) (t ++ [b.n]) (kidG a 0) (kidG b 0) → RelR s' t' r r') : RelR s' t' (askE (a.k == k) r) (askE (b.k == k) r') := by
  refine RelR.ask (by rw [h.k]) fun e => ?_
  obtain ⟨ka, n, ls, l⟩ := a
  have e : ka = k := by simpa [g_k] using e
  subst e
  obtain ⟨rfl, u, n', u', rfl, rfl, h1⟩ := h.bnd hk
  exact hr h1
def RelK (s t : List Int) : Except Int (List TG) → Except Int (List TG) → Prop
  | .ok l, .ok l' => l.length = l'.length ∧ ∀ (j : Nat) (hj : j < l.length) (hj' : j < l'.length), RelT s t l[j] l'[j]
  | .error e, .error f => e = f
  | _, _ => False
theorem RelK.cons {s t : List Int} {r r' : Except Int TG} {q q' : Except Int (List TG)} (h : RelR s t r r') (h' : RelK s t q q') : RelK s t (consE r q) (consE r' q') := by
  cases r <;> cases r' <;> first | exact h.elim | exact h | skip
  cases q <;> cases q' <;> first | exact h'.elim | exact h' | skip
  refine ⟨by simp [h'.1], fun j hj hj' => ?_⟩
  cases j with
  | zero => exact h
  | succ j => exact h'.2 j (by simpa using hj) (by simpa using hj')
theorem recK_rel {s t : List Int} {l l' : List Bd} : ∀ (cs cs' : List Chk), cs.length = cs'.length → (∀ (j : Nat) (hj : j < cs.length) (hj' : j < cs'.length), RelR s t (cs[j] s l) (cs'[j] t l')) → RelK s t (recK cs s l) (recK cs' t l')
  | [], [], _, _ => ⟨rfl, fun j hj => by simp at hj⟩
  | [], _ :: _, h, _ => by simp at h
  | _ :: _, [], h, _ => by simp at h
  | c :: r, c' :: r', h, hh => RelK.cons (hh 0 (by simp) (by simp)) (recK_rel r r' (by simpa using h) fun j hj hj' => hh (j + 1) (by simpa using hj) (by simpa using hj'))
theorem casK_rel {s t : List Int} {l l' : List Bd} : ∀ (ls ls' : List ByteArray) (ts ts' : List TG) (cs cs' : List Chk), ls.length = ls'.length → ts.length = ts'.length → cs.length = cs'.length → (∀ (j : Nat) (hj : j < ts.length) (hj' : j < ts'.length), RelT s t ts[j] ts'[j]) →
    (∀ (j : Nat) (hj : j < cs.length) (hj' : j < cs'.length) (hl : j < ls.length) (hl' : j < ls'.length) (a b : TG), RelT s t a b → RelR s t (cs[j] s (l ++ [(ls[j], a)])) (cs'[j] t (l' ++ [(ls'[j], b)]))) → RelK s t (casK ls ts cs s l) (casK ls' ts' cs' t l')
  | nm :: ls, nm' :: ls', a :: ts, a' :: ts', c :: cs, c' :: cs', h1, h2, h3, h4, h5 =>
    RelK.cons (h5 0 (by simp) (by simp) (by simp) (by simp) _ _ (h4 0 (by simp) (by simp))) (casK_rel ls ls' ts ts' cs cs' (by simpa using h1) (by simpa using h2) (by simpa using h3) (fun j hj hj' => h4 (j + 1) (by simpa using hj) (by simpa using hj')) fun j hj hj' hl hl' => h5 (j + 1) (by simpa using hj) (by simpa using hj') (by simpa using hl) (by simpa using hl'))
  | [], [], ts, ts', cs, cs', _, _, _, _, _ => by cases ts <;> cases cs <;> cases ts' <;> cases cs' <;> exact ⟨rfl, fun j hj => by simp at hj⟩
  | _ :: _, _ :: _, [], [], cs, cs', _, _, _, _, _ => by cases cs <;> cases cs' <;> exact ⟨rfl, fun j hj => by simp at hj⟩
  | _ :: _, _ :: _, _ :: _, _ :: _, [], [], _, _, _, _, _ => ⟨rfl, fun j hj => by simp at hj⟩
  | [], _ :: _, _, _, _, _, h, _, _, _, _ => by simp at h
  | _ :: _, [], _, _, _, _, h, _, _, _, _ => by simp at h
  | _ :: _, _ :: _, [], _ :: _, _, _, _, h, _, _, _ => by simp at h
  | _ :: _, _ :: _, _ :: _, [], _, _, _, h, _, _, _ => by simp at h
  | _ :: _, _ :: _, _ :: _, _ :: _, [], _ :: _, _, _, h, _, _ => by simp at h
  | _ :: _, _ :: _, _ :: _, _ :: _, _ :: _, [], _, _, h, _, _ => by simp at h
theorem allSame_rel {s t : List Int} {l l' : List TG} (h : l.length = l'.length) (hh : ∀ (j : Nat) (hj : j < l.length) (hj' : j < l'.length), RelT s t l[j] l'[j]) : allSame l = allSame l' := by
  unfold allSame
  match l, l', h with
  | [], [], _ => rfl
  | a :: r, b :: r', h =>
    have h0 : RelT s t a b := hh 0 (by simp) (by simp)
    have key : ∀ (m m' : List TG), m.length = m'.length → (∀ (j : Nat) (hj : j < m.length) (hj' : j < m'.length), RelT s t m[j] m'[j]) → (m.all fun x => samG x a [] []) = m'.all fun x => samG x b [] [] := by
      intro m
      induction m with
      | nil => intro m' hm _; cases m' with
        | nil => rfl
        | cons => simp at hm
      | cons u r ih =>
        intro m' hm hh
        cases m' with
        | nil => simp at hm
        | cons v r' =>
          have e0 : samG u a [] [] = samG v b [] [] := RelT.cmp (s := s) (t := t) (hh 0 (by simp) (by simp)) h0
          rw [List.all_cons, List.all_cons, e0, ih r' (by simpa using hm) fun j hj hj' => hh (j + 1) (by simpa using hj) (by simpa using hj')]
    exact key _ _ h hh
theorem sam0 {a a' : TG} {r r' : List TG} {s t : List Int} (h : samGs (a :: r) (a' :: r') s t = true) : samG a a' s t = true ∧ samGs r r' s t = true := by
  rw [samGs, Bool.and_eq_true] at h; exact h
set_option maxRecDepth 20000 in
theorem sim {P' : Putt} (hP : WayOk P') : ∀ (m m' : MG) (s t : List Int) (x y : List ByteArray) (l l' : List Bd), samM m m' s x t y = true → Agr m m' s t → allM m = true → allM m' = true → l.map (·.1) = x → l'.map (·.1) = y → RelL s t l l' → s.length = t.length → RelR s t (chk putR m s l) (chk P' m' t l') := by
  refine MG.ind fun k n i nm ls ts ks ih m' s t x y l l' hm hA ha ha' hx hy hl hst => ?_
  obtain ⟨k', n', i', nm', ls', ts', ks'⟩ := m'
  rw [samM_mk, Bool.and_eq_true] at hm
  obtain ⟨hn, hs⟩ := hm
  unfold nodM at hn
  simp only [Bool.and_eq_true, decide_eq_true_eq] at hn
  obtain ⟨⟨⟨⟨⟨⟨⟨⟨rfl, rfl⟩, hc⟩, hts⟩, hls⟩, hnn⟩, hll⟩, hnm⟩, hty⟩ := hn
  obtain ⟨h1, h25, hbad, hend, hta, hka⟩ := shp_all ha
  obtain ⟨-, -, hbad', hend', hta', hka'⟩ := shp_all ha'
  obtain ⟨hT, hK⟩ := shp_len hbad
  rw [chk_mk, chk_mk, chks_map, chks_map]
  refine RelR.fit ?_
  have K : ∀ (j : Nat) (hj : j < ks.length) (hj' : j < ks'.length) (s' t' : List Int) (L L' : List Bd), inV k n j s = s' → inV k n' j t = t' → L.map (·.1) = inX k nm ls j x → L'.map (·.1) = inX k nm' ls' j y → RelL s' t' L L' → RelR s' t' (chk putR ks[j] s' L) (chk P' ks'[j] t' L') := by
    rintro j hj hj' _ _ L L' rfl rfl hL hL' hLL
    refine ih ks[j] (List.getElem_mem hj) ks'[j] _ _ _ _ L L' ?_ (hA.kid j hj hj').1 (hka _ (List.getElem_mem hj)) (hka' _ (List.getElem_mem hj')) hL hL' hLL (by unfold inV; split <;> simp [hst])
    have := samMs_at ks ks' 0 hs j hj hj'
    rw [Nat.zero_add] at this
    exact this
  have B : ∀ j, j < ks.length → (k = 20 ∨ k = 23 ∧ j = 1) → (n ∈ s ↔ n' ∈ t) := fun j hj => (hA.kid j hj (hc ▸ hj)).2
  have hk : k = 1 ∨ k = 2 ∨ k = 3 ∨ k = 4 ∨ k = 5 ∨ k = 6 ∨ k = 7 ∨ k = 8 ∨ k = 9 ∨ k = 10 ∨ k = 11 ∨ k = 12 ∨ k = 13 ∨ k = 14 ∨ k = 15 ∨ k = 16 ∨ k = 17 ∨ k = 18 ∨ k = 19 ∨ k = 20 ∨ k = 21 ∨ k = 22 ∨ k = 23 ∨ k = 24 ∨ k = 25 := by omega
  have one : ∀ {α : Type} {q : List α}, (q.length : Int) = 1 → ∃ a, q = [a] := fun h => List.length_eq_one_iff.1 (by omega)
  have two : ∀ {α : Type} {q : List α}, (q.length : Int) = 2 → ∃ a b, q = [a, b] := fun h => len2 (by omega)
  rcases hk with rfl | rfl | rfl | rfl | rfl | rfl | rfl | rfl | rfl | rfl | rfl | rfl | rfl | rfl | rfl | rfl | rfl | rfl | rfl | rfl | rfl | rfl | rfl | rfl | rfl
  · exact relT_int hst (.inl rfl)
  · exact relT_int hst (.inr (.inl rfl))
  · exact relT_int hst (.inr (.inr rfl))
  · show RelR s t (lookR l nm) (lookR l' nm')
    rw [if_pos rfl, Bool.and_eq_true, decide_eq_true_eq] at hnm
    exact hl.look (by rw [hx, hy]; exact hnm.1)
  · obtain ⟨a, rfl⟩ := one hT
    obtain ⟨a', rfl⟩ := one (hts ▸ hT : (ts'.length : Int) = 1)
    obtain ⟨u, rfl⟩ := one (hK (by decide))
    obtain ⟨u', rfl⟩ := one (hc ▸ hK (by decide) : (ks'.length : Int) = 1)
    show RelR s t (lamR nm a (chk putR u) s l) (lamR nm' a' (chk P' u') t l')
    refine RelR.here (sam0 hty).1 hst (hta a (by simp)) (hta' a' (by simp)) fun hab => ?_
    refine RelR.bE (K 0 (by simp) (by simp) s t _ _ rfl rfl (by simp [inX, hx]) (by simp [inX, hy]) (hl.snoc hab nm nm')) fun v v' hv => ?_
    exact relT_two (.inl rfl) hab hv
  · obtain ⟨u, v, rfl⟩ := two (hK (by decide))
    obtain ⟨u', v', rfl⟩ := two (hc ▸ hK (by decide) : (ks'.length : Int) = 2)
    show RelR s t (appRl (chk putR u) (chk putR v) s l) (appRl (chk P' u') (chk P' v') t l')
    refine RelR.bE (K 0 (by simp) (by simp) s t _ _ rfl rfl (by simp [inX, hx]) (by simp [inX, hy]) hl) fun f f' hf => ?_
    refine RelR.bE (K 1 (by simp) (by simp) s t _ _ rfl rfl (by simp [inX, hx]) (by simp [inX, hy]) hl) fun w w' hw => ?_
    refine hf.ask2 (.inl rfl) fun h0 h1 => ?_
    exact RelR.ask (h0.cmp hw) fun _ => h1
  · obtain ⟨a, b, rfl⟩ := two hT
    obtain ⟨a', b', rfl⟩ := two (hts ▸ hT : (ts'.length : Int) = 2)
    obtain ⟨u, rfl⟩ := one (hK (by decide))
    obtain ⟨u', rfl⟩ := one (hc ▸ hK (by decide) : (ks'.length : Int) = 1)
    have hlb : (ls.length : Int) = 1 := by
      unfold endM at hend
      rw [if_neg (by decide), if_neg (by decide)] at hend
      split at hend
      · cases hend
      · rename_i h; simpa [shpOf, shpTab, MG.ls] using h
    obtain ⟨lb, rfl⟩ := one hlb
    obtain ⟨lb', rfl⟩ := one (hls ▸ hlb : (ls'.length : Int) = 1)
    show RelR s t (fixR nm lb a b (chk putR u) s l) (fixR nm' lb' a' b' (chk P' u') t l')
    refine RelR.here (sam0 hty).1 hst (hta a (by simp)) (hta' a' (by simp)) fun haa => ?_
    refine RelR.here (sam0 (sam0 hty).2).1 hst (hta b (by simp)) (hta' b' (by simp)) fun hbb => ?_
    refine RelR.bE (RelR.fitR (relT_two (.inl rfl) haa hbb)) fun f f' hf => ?_
    refine RelR.bE (K 0 (by simp) (by simp) s t _ _ rfl rfl (by simp [inX, hx]) (by simp [inX, hy]) ((hl.snoc hf nm nm').snoc haa lb lb')) fun v v' hv => ?_
    exact RelR.ask (hv.cmp hbb) fun _ => hf
  · obtain ⟨u, v, rfl⟩ := two (hK (by decide))
    obtain ⟨u', v', rfl⟩ := two (hc ▸ hK (by decide) : (ks'.length : Int) = 2)
    show RelR s t (letR nm (chk putR u) (chk putR v) s l) (letR nm' (chk P' u') (chk P' v') t l')
    refine RelR.bE (K 0 (by simp) (by simp) s t _ _ rfl rfl (by simp [inX, hx]) (by simp [inX, hy]) hl) fun f f' hf => ?_
    exact K 1 (by simp) (by simp) s t _ _ rfl rfl (by simp [inX, hx]) (by simp [inX, hy]) (hl.snoc hf nm nm')
  · obtain ⟨u, v, rfl⟩ := two (hK (by decide))
    obtain ⟨u', v', rfl⟩ := two (hc ▸ hK (by decide) : (ks'.length : Int) = 2)
    show RelR s t (pairR (chk putR u) (chk putR v) s l) (pairR (chk P' u') (chk P' v') t l')
    refine RelR.bE (K 0 (by simp) (by simp) s t _ _ rfl rfl (by simp [inX, hx]) (by simp [inX, hy]) hl) fun f f' hf => ?_
    refine RelR.bE (K 1 (by simp) (by simp) s t _ _ rfl rfl (by simp [inX, hx]) (by simp [inX, hy]) hl) fun w w' hw => ?_
    exact relT_two (.inr rfl) hf hw
  · obtain ⟨u, rfl⟩ := one (hK (by decide))
    obtain ⟨u', rfl⟩ := one (hc ▸ hK (by decide) : (ks'.length : Int) = 1)
    show RelR s t (halfR 0 (chk putR u) s l) (halfR 0 (chk P' u') t l')
    refine RelR.bE (K 0 (by simp) (by simp) s t _ _ rfl rfl (by simp [inX, hx]) (by simp [inX, hy]) hl) fun f f' hf => ?_
    exact hf.ask2 (.inr rfl) fun h0 h1 => h0
  · obtain ⟨u, rfl⟩ := one (hK (by decide))
    obtain ⟨u', rfl⟩ := one (hc ▸ hK (by decide) : (ks'.length : Int) = 1)
    show RelR s t (halfR 1 (chk putR u) s l) (halfR 1 (chk P' u') t l')
    refine RelR.bE (K 0 (by simp) (by simp) s t _ _ rfl rfl (by simp [inX, hx]) (by simp [inX, hy]) hl) fun f f' hf => ?_
    exact hf.ask2 (.inr rfl) fun h0 h1 => h1
  · obtain ⟨u, v, w, rfl⟩ := len3 (by have := hK (by decide); exact Int.ofNat.inj this : ks.length = 3)
    obtain ⟨u', v', w', rfl⟩ := len3 (by rw [← hc]; rfl : ks'.length = 3)
    show RelR s t (chooseR (chk putR u) (chk putR v) (chk putR w) s l) (chooseR (chk P' u') (chk P' v') (chk P' w') t l')
    refine RelR.bE (K 0 (by simp) (by simp) s t _ _ rfl rfl (by simp [inX, hx]) (by simp [inX, hy]) hl) fun f f' hf => ?_
    refine RelR.bE (K 1 (by simp) (by simp) s t _ _ rfl rfl (by simp [inX, hx]) (by simp [inX, hy]) hl) fun a a' ha => ?_
    refine RelR.bE (K 2 (by simp) (by simp) s t _ _ rfl rfl (by simp [inX, hx]) (by simp [inX, hy]) hl) fun b b' hb => ?_
    exact RelR.ask (by rw [hf.k]) fun _ => RelR.ask (ha.cmp hb) fun _ => ha
  · obtain ⟨u, v, rfl⟩ := two (hK (by decide))
    obtain ⟨u', v', rfl⟩ := two (hc ▸ hK (by decide) : (ks'.length : Int) = 2)
    have hnn : n = n' := by simpa [bndV] using hnn
    subst hnn
    show RelR s t (binR n (chk putR u) (chk putR v) s l) (binR n (chk P' u') (chk P' v') t l')
    refine RelR.bE (K 0 (by simp) (by simp) s t _ _ rfl rfl (by simp [inX, hx]) (by simp [inX, hy]) hl) fun f f' hf => ?_
    refine RelR.bE (K 1 (by simp) (by simp) s t _ _ rfl rfl (by simp [inX, hx]) (by simp [inX, hy]) hl) fun w w' hw => ?_
    refine RelR.ask (by rw [hf.k, hw.k]) fun _ => ?_
    split
    · exact relT_int hst (.inr (.inl rfl))
    · exact relT_int hst (.inl rfl)
  · have hll : ls = ls' := by simpa [bndL] using hll
    subst hll
    have hsh : ls.length = ks.length ∧ ordS ls = true := by
      unfold endM at hend
      rw [if_pos (by decide), Bool.and_eq_true, beq_iff_eq] at hend
      exact ⟨Int.ofNat.inj hend.1, hend.2⟩
    have h := recK_rel (s := s) (t := t) (l := l) (l' := l') (ks.map (chk putR)) (ks'.map (chk P')) (by simp [hc]) fun j hj hj' => by
      simp only [List.getElem_map]
      exact K j (by simpa using hj) (by simpa using hj') s t _ _ rfl rfl (by simp [inX, hx]) (by simp [inX, hy]) hl
    show RelR s t (recR ls (ks.map (chk putR)) s l) (recR ls (ks'.map (chk P')) t l')
    unfold recR
    have hlen : ∀ us, recK (ks.map (chk putR)) s l = .ok us → us.length = ks.length := by
      have : ∀ (cs : List Chk) us, recK cs s l = .ok us → us.length = cs.length := by
        intro cs
        induction cs with
        | nil => intro us h; injection h with h; subst h; rfl
        | cons c r ih =>
          intro us h
          rw [recK] at h
          unfold consE at h
          split at h
          · cases h
          · split at h
            · cases h
            · rename_i q hq
              injection h with h; subst h
              simp [ih q hq]
      intro us h
      simpa using this _ us h
    generalize recK (ks.map (chk putR)) s l = q at h hlen ⊢
    generalize recK (ks'.map (chk P')) t l' = q' at h ⊢
    cases q <;> cases q' <;> first | exact h.elim | exact h | skip
    rename_i us us'
    refine relT_mk hst rfl (by decide) ?_ h.1 h.2
    rw [shpG_mk, if_neg (by decide), if_neg (by decide), if_neg (by decide), if_pos (by decide), hsh.2, hlen us rfl, hsh.1]
    simp
  · obtain ⟨u, rfl⟩ := one (hK (by decide))
    obtain ⟨u', rfl⟩ := one (hc ▸ hK (by decide) : (ks'.length : Int) = 1)
    have hnm : nm = nm' := by simpa [bndN] using hnm
    subst hnm
    show RelR s t (selR nm (chk putR u) s l) (selR nm (chk P' u') t l')
    refine RelR.bE (K 0 (by simp) (by simp) s t _ _ rfl rfl (by simp [inX, hx]) (by simp [inX, hy]) hl) fun f f' hf => ?_
    refine RelR.ask (by rw [hf.k]) fun e => ?_
    obtain ⟨kf, nf, lsf, lf⟩ := f
    have e : kf = 7 := by simpa [g_k] using e
    subst e
    obtain ⟨k', nf', lsf', lf'⟩ := f'
    obtain ⟨rfl, rfl, hfl, hno, -⟩ := hf.kids
    obtain ⟨-, hr⟩ := hno rfl (by decide)
    show RelR s t (match idxB lsf nm with | none => .error 30 | some j => .ok (kidG (.mk 7 nf lsf lf) j)) (match idxB lsf nm with | none => .error 30 | some j => .ok (kidG (.mk 7 nf' lsf lf') j))
    cases hj : idxB lsf nm with
    | none => exact rfl
    | some j =>
      have hshp := ((allG_mk ..).1 hf.la).1
      rw [shpG_mk, if_neg (by decide), if_neg (by decide), if_neg (by decide), if_pos (by decide)] at hshp
      simp only [Bool.and_eq_true, beq_iff_eq] at hshp
      have hjl : j < lf.length := by
        unfold idxB at hj
        have := (List.findIdx?_eq_some_iff_getElem.1 hj).1
        omega
      have e1 : kidG (.mk 7 nf lsf lf) j = lf[j] := by simp only [kidG, g_kids]; rw [List.getD_eq_getElem?_getD, List.getElem?_eq_getElem hjl]; rfl
      have e2 : kidG (.mk 7 nf' lsf lf') j = lf'[j]'(hfl ▸ hjl) := by simp only [kidG, g_kids]; rw [List.getD_eq_getElem?_getD, List.getElem?_eq_getElem (hfl ▸ hjl)]; rfl
      show RelT s t (kidG (.mk 7 nf lsf lf) j) (kidG (.mk 7 nf' lsf lf') j)
      rw [e1, e2]
      exact hr j hjl (hfl ▸ hjl)
  · obtain ⟨a, rfl⟩ := one hT
    obtain ⟨a', rfl⟩ := one (hts ▸ hT : (ts'.length : Int) = 1)
    obtain ⟨u, rfl⟩ := one (hK (by decide))
    obtain ⟨u', rfl⟩ := one (hc ▸ hK (by decide) : (ks'.length : Int) = 1)
    have hnn : n = n' := by simpa [bndV] using hnn
    subst hnn
    show RelR s t (injR a n (chk putR u) s l) (injR a' n (chk P' u') t l')
    refine RelR.here (sam0 hty).1 hst (hta a (by simp)) (hta' a' (by simp)) fun haa => ?_
    refine RelR.bE (K 0 (by simp) (by simp) s t _ _ rfl rfl (by simp [inX, hx]) (by simp [inX, hy]) hl) fun f f' hf => ?_
    obtain ⟨ka, na, lsa, la⟩ := a
    obtain ⟨k', na', lsa', la'⟩ := a'
    obtain ⟨rfl, rfl, hfl, hno, -⟩ := haa.kids
    refine RelR.ask (by simp only [g_k, g_kids]; rw [hfl]) fun e => ?_
    rw [Bool.and_eq_true] at e
    obtain ⟨e1, e2⟩ := e
    have e1 : ka = 8 := by simpa [g_k] using e1
    subst e1
    have hjl : n.toNat < la.length := by simpa [g_kids] using e2
    obtain ⟨-, hr⟩ := hno rfl (by decide)
    have e1 : kidG (.mk 8 na lsa la) n.toNat = la[n.toNat] := by simp only [kidG, g_kids]; rw [List.getD_eq_getElem?_getD, List.getElem?_eq_getElem hjl]; rfl
    have e2 : kidG (.mk 8 na' lsa la') n.toNat = la'[n.toNat]'(hfl ▸ hjl) := by simp only [kidG, g_kids]; rw [List.getD_eq_getElem?_getD, List.getElem?_eq_getElem (hfl ▸ hjl)]; rfl
    rw [e1, e2]
    exact RelR.ask (hf.cmp (hr _ hjl (hfl ▸ hjl))) fun _ => haa
  · have hlen : ks.length = ls.length + 1 := by
      unfold endM at hend
      rw [if_neg (by decide), if_pos (by decide), beq_iff_eq] at hend
      simp only [MG.ks, MG.ls] at hend; omega
    obtain ⟨u, r, rfl⟩ : ∃ u r, ks = u :: r := by
      cases ks with
      | nil => simp at hlen
      | cons u r => exact ⟨u, r, rfl⟩
    obtain ⟨u', r', rfl⟩ : ∃ u r, ks' = u :: r := by
      cases ks' with
      | nil => simp at hc
      | cons u r => exact ⟨u, r, rfl⟩
    show RelR s t (casesR ls ((u :: r).map (chk putR)) s l) (casesR ls' ((u' :: r').map (chk P')) t l')
    refine RelR.bE (K 0 (by simp) (by simp) s t _ _ rfl rfl (by simp [inX, hx]) (by simp [inX, hy]) hl) fun f f' hf => ?_
    obtain ⟨kf, nf, lsf, lf⟩ := f
    obtain ⟨k', nf', lsf', lf'⟩ := f'
    obtain ⟨rfl, rfl, hfl, hno, -⟩ := hf.kids
    have q1 : decide (lf.length = ls.length) = decide (lf'.length = ls'.length) := decide_eq_decide.2 (by omega)
    have q2 : decide (0 < ls.length) = decide (0 < ls'.length) := decide_eq_decide.2 (by omega)
    refine RelR.ask (show (kf == 8 && decide (lf.length = ls.length) && decide (0 < ls.length)) = (kf == 8 && decide (lf'.length = ls'.length) && decide (0 < ls'.length)) by rw [q1, q2]) fun e => ?_
    simp only [Bool.and_eq_true, decide_eq_true_eq, g_k, g_kids, beq_iff_eq] at e
    obtain ⟨⟨rfl, e1⟩, e2⟩ := e
    obtain ⟨-, hr⟩ := hno rfl (by decide)
    have h := casK_rel (s := s) (t := t) (l := l) (l' := l') ls ls' lf lf' (r.map (chk putR)) (r'.map (chk P')) hls hfl (by simpa using hc) hr fun j hj hj' hl1 hl2 a b hab => by
      simp only [List.getElem_map]
      have hj1 : j < r.length := by simpa using hj
      have hj2 : j < r'.length := by simpa using hj'
      have g1 : ls.getD j ⟨#[]⟩ = ls[j] := by rw [List.getD_eq_getElem?_getD, List.getElem?_eq_getElem hl1]; rfl
      have g2 : ls'.getD j ⟨#[]⟩ = ls'[j] := by rw [List.getD_eq_getElem?_getD, List.getElem?_eq_getElem hl2]; rfl
      exact K (j + 1) (by simpa using hj1) (by simpa using hj2) s t _ _ (by simp [inV]) (by simp [inV])
        (by rw [List.map_append, hx]; unfold inX; rw [if_neg (by decide), if_neg (by decide), if_neg (by simp), if_pos ⟨rfl, by omega, by omega⟩, Nat.add_sub_cancel, g1]; rfl)
        (by rw [List.map_append, hy]; unfold inX; rw [if_neg (by decide), if_neg (by decide), if_neg (by simp), if_pos ⟨rfl, by omega, by omega⟩, Nat.add_sub_cancel, g2]; rfl) (hl.snoc hab _ _)
    show RelR s t (match casK ls lf (r.map (chk putR)) s l with | .error e => .error e | .ok us => askE (allSame us) (.ok (us.headD zG))) (match casK ls' lf' (r'.map (chk P')) t l' with | .error e => .error e | .ok us => askE (allSame us) (.ok (us.headD zG)))
    have hne : ∀ us, casK ls lf (r.map (chk putR)) s l = .ok us → 0 < us.length := by
      intro us hu
      match ls, lf, r, e2, e1, hlen, hu with
      | a :: ls, b :: lf, c :: r, _, _, _, hu =>
        rw [List.map_cons, casK] at hu
        unfold consE at hu
        split at hu
        · cases hu
        · split at hu
          · cases hu
          · injection hu with hu; subst hu; simp
      | _ :: _, _ :: _, [], _, _, h, _ => simp at h
      | _ :: _, [], _, _, h, _, _ => simp at h
      | [], _, _, h, _, _, _ => simp at h
    generalize casK ls lf (r.map (chk putR)) s l = q at h hne ⊢
    generalize casK ls' lf' (r'.map (chk P')) t l' = q' at h ⊢
    cases q <;> cases q' <;> first | exact h.elim | exact h | skip
    rename_i us us'
    have hp := hne us rfl
    refine RelR.ask (allSame_rel h.1 h.2) fun _ => ?_
    match us, us', h, hp with
    | a :: us, b :: us', h, _ => exact h.2 0 (by simp) (by simp)
    | _ :: _, [], h, _ => exact absurd h.1 (by simp)
  · obtain ⟨a, rfl⟩ := one hT
    obtain ⟨a', rfl⟩ := one (hts ▸ hT : (ts'.length : Int) = 1)
    obtain ⟨u, rfl⟩ := one (hK (by decide))
    obtain ⟨u', rfl⟩ := one (hc ▸ hK (by decide) : (ks'.length : Int) = 1)
    show RelR s t (foldR putR a (chk putR u) s l) (foldR P' a' (chk P' u') t l')
    refine RelR.here (sam0 hty).1 hst (hta a (by simp)) (hta' a' (by simp)) fun haa => ?_
    refine RelR.bE (K 0 (by simp) (by simp) s t _ _ rfl rfl (by simp [inX, hx]) (by simp [inX, hy]) hl) fun f f' hf => ?_
    refine haa.ask1 (.inl rfl) fun h0 => ?_
    exact RelR.bE (RelR.put hP h0 haa) fun w w' hw => RelR.ask (hf.cmp hw) fun _ => haa
  · obtain ⟨u, rfl⟩ := one (hK (by decide))
    obtain ⟨u', rfl⟩ := one (hc ▸ hK (by decide) : (ks'.length : Int) = 1)
    show RelR s t (unfoldR putR (chk putR u) s l) (unfoldR P' (chk P' u') t l')
    refine RelR.bE (K 0 (by simp) (by simp) s t _ _ rfl rfl (by simp [inX, hx]) (by simp [inX, hy]) hl) fun f f' hf => ?_
    exact hf.ask1 (.inl rfl) fun h0 => RelR.put hP h0 hf
  · obtain ⟨u, rfl⟩ := one (hK (by decide))
    obtain ⟨u', rfl⟩ := one (hc ▸ hK (by decide) : (ks'.length : Int) = 1)
    show RelR s t (allR n (chk putR u) s l) (allR n' (chk P' u') t l')
    have hb := B 0 (by simp) (.inl rfl)
    unfold allR
    by_cases hm : n ∈ s
    · rw [if_pos hm, if_pos (hb.1 hm)]; exact rfl
    · have hm' : n' ∉ t := fun e => hm (hb.2 e)
      rw [if_neg hm, if_neg hm']
      refine RelR.bE (K 0 (by simp) (by simp) (s ++ [n]) (t ++ [n']) _ _ rfl rfl (by simp [inX, hx]) (by simp [inX, hy]) (RelC.weak hm hm' hl)) fun f f' hf => ?_
      exact relT_all hst hf
  · obtain ⟨a, rfl⟩ := one hT
    obtain ⟨a', rfl⟩ := one (hts ▸ hT : (ts'.length : Int) = 1)
    obtain ⟨u, rfl⟩ := one (hK (by decide))
    obtain ⟨u', rfl⟩ := one (hc ▸ hK (by decide) : (ks'.length : Int) = 1)
    show RelR s t (instR putR a (chk putR u) s l) (instR P' a' (chk P' u') t l')
    refine RelR.here (sam0 hty).1 hst (hta a (by simp)) (hta' a' (by simp)) fun haa => ?_
    refine RelR.bE (K 0 (by simp) (by simp) s t _ _ rfl rfl (by simp [inX, hx]) (by simp [inX, hy]) hl) fun f f' hf => ?_
    exact hf.ask1 (.inr (.inl rfl)) fun h0 => RelR.put hP h0 haa
  · obtain ⟨a, b, rfl⟩ := two hT
    obtain ⟨a', b', rfl⟩ := two (hts ▸ hT : (ts'.length : Int) = 2)
    obtain ⟨u, rfl⟩ := one (hK (by decide))
    obtain ⟨u', rfl⟩ := one (hc ▸ hK (by decide) : (ks'.length : Int) = 1)
    show RelR s t (packR putR a b (chk putR u) s l) (packR P' a' b' (chk P' u') t l')
    refine RelR.here (sam0 hty).1 hst (hta a (by simp)) (hta' a' (by simp)) fun haa => ?_
    refine RelR.here (sam0 (sam0 hty).2).1 hst (hta b (by simp)) (hta' b' (by simp)) fun hbb => ?_
    refine RelR.bE (K 0 (by simp) (by simp) s t _ _ rfl rfl (by simp [inX, hx]) (by simp [inX, hy]) hl) fun f f' hf => ?_
    refine hbb.ask1 (.inr (.inr rfl)) fun h0 => ?_
    exact RelR.bE (RelR.put hP h0 haa) fun w w' hw => RelR.ask (hf.cmp hw) fun _ => hbb
  · obtain ⟨u, v, rfl⟩ := two (hK (by decide))
    obtain ⟨u', v', rfl⟩ := two (hc ▸ hK (by decide) : (ks'.length : Int) = 2)
    show RelR s t (openR putR n nm (chk putR u) (chk putR v) s l) (openR P' n' nm' (chk P' u') (chk P' v') t l')
    have hb := B 1 (by simp) (.inr ⟨rfl, rfl⟩)
    refine RelR.bE (K 0 (by simp) (by simp) s t _ _ rfl rfl (by simp [inX, hx]) (by simp [inX, hy]) hl) fun f f' hf => ?_
    by_cases hm : n ∈ s
    · rw [if_pos hm, if_pos (hb.1 hm)]; exact RelR.ask (by rw [hf.k]) fun _ => rfl
    · have hm' : n' ∉ t := fun e => hm (hb.2 e)
      rw [if_neg hm, if_neg hm']
      refine (hf.weak hm hm').ask1 (.inr (.inr rfl)) fun h0 => ?_
      refine RelR.bE (RelR.put hP h0 (relT_var hst)) fun w w' hw => ?_
      refine RelR.bE (K 1 (by simp) (by simp) (s ++ [n]) (t ++ [n']) _ _ rfl rfl (by simp [inX, hx]) (by simp [inX, hy]) (RelL.snoc (l := l) (l' := l') (RelC.weak hm hm' hl) hw nm nm')) fun z z' hz => ?_
      have hfr : decide (n ∈ freeS z) = decide (n' ∈ freeS z') := by
        rw [decide_eq_decide, mem_freeS, mem_freeS]; exact hz.free_iff
      refine RelR.ask (by rw [hfr]) fun e => hz.strong fun e' => ?_
      rw [decide_eq_true ((mem_freeS z n).2 e')] at e
      cases e
  · obtain ⟨a, rfl⟩ := one hT
    obtain ⟨a', rfl⟩ := one (hts ▸ hT : (ts'.length : Int) = 1)
    show RelR s t (failR a s l) (failR a' t l')
    exact RelR.here (sam0 hty).1 hst (hta a (by simp)) (hta' a' (by simp)) fun haa => haa
  · obtain ⟨u, rfl⟩ := one (hK (by decide))
    obtain ⟨u', rfl⟩ := one (hc ▸ hK (by decide) : (ks'.length : Int) = 1)
    exact K 0 (by simp) (by simp) s t _ _ rfl rfl (by simp [inX, hx]) (by simp [inX, hy]) hl
end Go.Proofs.YtcjkikadolnfgaaGreat


/- Terms that are one: right together, and of one type. -/
set_option linter.unusedSimpArgs false
set_option linter.unusedVariables false
namespace Go.Proofs.YtcjkikadolnfgaaGreat
theorem sam_allG : ∀ (a b : TG) (s t : List Int), samG a b s t = true → allG a = allG b := by
  refine TG.ind fun k n ls l ih b s t hs => ?_
  obtain ⟨k', n', ls', l'⟩ := b
  obtain ⟨rfl, hll, rfl, h6, hbn, hno⟩ := (sam_iff ..).1 hs
  rw [allG, allG]
  have key : ∀ (c d : List Int) (m m' : List TG), (∀ u ∈ m, u ∈ l) → m.length = m'.length → samGs m m' c d = true → allGs m = allGs m' := by
    intro c d m
    induction m with
    | nil => intro m' _ h _; cases m' with
      | nil => rfl
      | cons => simp at h
    | cons u r ihr =>
      intro m' hm h hs
      cases m' with
      | nil => simp at h
      | cons v r' =>
        rw [samGs, Bool.and_eq_true] at hs
        rw [allGs, allGs, ih u (hm u (by simp)) v c d hs.1, ihr r' (fun w hw => hm w (by simp [hw])) (by simpa using h) hs.2]
  have hsh : shpG (.mk k n ls l) = shpG (.mk k n' ls l') := by
    unfold shpG
    simp only [g_k, g_n, g_ls, g_kids, hll]
    by_cases hk : k = 6
    · subst hk; simp
    · by_cases hb : bndG k = true
      · have : k = 9 ∨ k = 10 ∨ k = 11 := by simpa [bndG, or_assoc] using hb
        rcases this with rfl | rfl | rfl <;> simp
      · have e := (hno hk (by simpa using hb)).1
        subst e
        rfl
  rw [hsh]
  by_cases hk : k = 6
  · rw [key s t l l' (fun _ h => h) hll (h6 hk).2.2]
  · by_cases hb : bndG k = true
    · rw [key _ _ l l' (fun _ h => h) hll (hbn hb)]
    · rw [key _ _ l l' (fun _ h => h) hll (hno hk (by simpa using hb)).2]
theorem sams_all : ∀ (l l' : List TG) (s t : List Int), l.length = l'.length → samGs l l' s t = true → allGs l = allGs l' ∧ depGs l = depGs l'
  | [], [], _, _, _, _ => ⟨rfl, rfl⟩
  | [], _ :: _, _, _, h, _ => by simp at h
  | _ :: _, [], _, _, h, _ => by simp at h
  | u :: r, v :: r', s, t, h, hs => by
    rw [samGs, Bool.and_eq_true] at hs
    obtain ⟨h1, h2⟩ := sams_all r r' s t (by simpa using h) hs.2
    exact ⟨by rw [allGs, allGs, sam_allG u v s t hs.1, h1], by rw [depGs, depGs, sam_dep u v s t hs.1, h2]⟩
theorem shp_V {k : Int} (h : bndV k = true) : (shpOf k).n = true ∧ k ≠ 13 ∧ k ≠ 16 := by
  have : k = 20 ∨ k = 23 := by simpa [bndV] using h
  rcases this with rfl | rfl <;> decide
theorem shp_N {k : Int} (h : bndN k = true) : (shpOf k).nm = true := by
  have : k = 5 ∨ k = 7 ∨ k = 8 ∨ k = 23 := by simpa [bndN, or_assoc] using h
  rcases this with rfl | rfl | rfl | rfl <;> decide
theorem shp_L {k : Int} (h : bndL k = true) : (shpOf k).ls ≠ -3 := by
  have : k = 7 ∨ k = 17 := by simpa [bndL] using h
  rcases this with rfl | rfl <;> decide
theorem nod_shp {k n i : Int} {nm : ByteArray} {ls : List ByteArray} {ts : List TG} {ks : List MG} {k' n' i' : Int} {nm' : ByteArray} {ls' : List ByteArray} {ts' : List TG} {ks' : List MG} {s : List Int} {x : List ByteArray} {t : List Int} {y : List ByteArray}
    (h : nodM k n i nm ls ts ks.length k' n' i' nm' ls' ts' ks'.length s x t y = true) : shpM (.mk k n i nm ls ts ks) = shpM (.mk k' n' i' nm' ls' ts' ks') ∧ samGs ts ts' s t = true ∧ ts.length = ts'.length ∧ ks.length = ks'.length := by
  simp only [nodM, Bool.and_eq_true, decide_eq_true_eq, Bool.or_eq_true] at h
  obtain ⟨⟨⟨⟨⟨⟨⟨⟨rfl, rfl⟩, hc⟩, hts⟩, hls⟩, hn⟩, hl⟩, hnm⟩, hs⟩ := h
  refine ⟨?_, hs, hts, hc⟩
  have e1 : (!(shpOf k).n && n != 0) = (!(shpOf k).n && n' != 0) := by
    rcases hn with hn | rfl
    · rw [(shp_V hn).1]; rfl
    · rfl
  have e2 : (!(shpOf k).nm && !(nm.toList == (⟨#[]⟩ : ByteArray).toList)) = (!(shpOf k).nm && !(nm'.toList == (⟨#[]⟩ : ByteArray).toList)) := by
    by_cases h4 : k = 4
    · subst h4; rfl
    · rw [if_neg h4, Bool.or_eq_true, decide_eq_true_eq] at hnm
      rcases hnm with hnm | rfl
      · rw [shp_N hnm]; rfl
      · rfl
  have e3 : badM (shpOf k) (.mk k n i nm ls ts ks) = badM (shpOf k) (.mk k n' i nm' ls' ts' ks') := by
    simp only [badM, MG.n, MG.i, MG.nm, MG.ts, MG.ks, hts, hc, e1, e2]
  have e4 : endM (shpOf k) (.mk k n i nm ls ts ks) = endM (shpOf k) (.mk k n' i nm' ls' ts' ks') := by
    simp only [endM, MG.k, MG.n, MG.i, MG.ls, MG.ks, hls, hc]
    have a1 : (shpOf k).ls = -3 → ls = ls' := fun e => by
      rcases hl with hl | hl
      · exact absurd e (shp_L hl)
      · exact hl
    have a2 : k = 13 ∨ k = 16 → n = n' := fun e => by
      rcases hn with hn | hn
      · have := shp_V hn; omega
      · exact hn
    by_cases b1 : (shpOf k).ls = -3
    · rw [if_pos b1, if_pos b1, a1 b1]
    · rw [if_neg b1, if_neg b1]
      by_cases b2 : k = 13
      · have e := a2 (.inl b2)
        subst e
        rfl
      · by_cases b3 : k = 16
        · have e := a2 (.inr b3)
          subst e
          rfl
        · simp [b2, b3]
  show (if k < 1 ∨ k > 25 then false else if badM (shpOf k) (.mk k n i nm ls ts ks) = true then false else endM (shpOf k) (.mk k n i nm ls ts ks)) = (if k < 1 ∨ k > 25 then false else if badM (shpOf k) (.mk k n' i nm' ls' ts' ks') = true then false else endM (shpOf k) (.mk k n' i nm' ls' ts' ks'))
  rw [e3, e4]
theorem samM_right : ∀ (m m' : MG) (s : List Int) (x : List ByteArray) (t : List Int) (y : List ByteArray), samM m m' s x t y = true → allM m = allM m' ∧ depM m = depM m' := by
  refine MG.ind fun k n i nm ls ts ks ih m' s x t y hs => ?_
  obtain ⟨k', n', i', nm', ls', ts', ks'⟩ := m'
  rw [samM_mk, Bool.and_eq_true] at hs
  obtain ⟨h1, h2, h3, h4⟩ := nod_shp hs.1
  obtain ⟨g1, g2⟩ := sams_all ts ts' s t h3 h2
  have key : ∀ (sa : Nat → List Int) (xa : Nat → List ByteArray) (ta : Nat → List Int) (ya : Nat → List ByteArray) (l l' : List MG) (j : Nat), (∀ u ∈ l, u ∈ ks) → l.length = l'.length → samMs sa xa ta ya j l l' = true → allMs l = allMs l' ∧ depMs l = depMs l' := by
    intro sa xa ta ya l
    induction l with
    | nil => intro l' j _ h _; cases l' with
      | nil => exact ⟨rfl, rfl⟩
      | cons => simp at h
    | cons u r ihr =>
      intro l' j hm h hs
      cases l' with
      | nil => simp at h
      | cons v r' =>
        rw [samMs, Bool.and_eq_true] at hs
        obtain ⟨a1, a2⟩ := ih u (hm u (by simp)) v _ _ _ _ hs.1
        obtain ⟨b1, b2⟩ := ihr r' (j + 1) (fun w hw => hm w (by simp [hw])) (by simpa using h) hs.2
        exact ⟨by rw [allMs, allMs, a1, b1], by rw [depMs, depMs, a2, b2]⟩
  obtain ⟨f1, f2⟩ := key _ _ _ _ ks ks' 0 (fun _ h => h) h4 hs.2
  exact ⟨by rw [allM, allM, h1, g1, f1], by rw [depM, depM, g2, f2]⟩
theorem samM_rightM {m m' : MG} (h : samM m m' [] [] [] [] = true) : rightM m = rightM m' := by
  obtain ⟨h1, h2⟩ := samM_right m m' _ _ _ _ h
  unfold rightM; rw [h1, h2]
theorem putR_way : WayOk putR := putR_ok
theorem right_allM' {m : MG} (h0 : rightM m = 0) : allM m = true := by
  unfold rightM at h0
  split at h0
  · cases h0
  · split at h0
    · assumption
    · cases h0
def SamR : Except Int TG → Except Int TG → Prop
  | .ok a, .ok b => samG a b [] [] = true
  | .error e, .error f => e = f
  | _, _ => False
theorem one_same {m m' : MG} (h : samM m m' [] [] [] [] = true) (ha : agn m [] = false) (hb : agn m' [] = false) : SamR (closedR m (chk putR m)) (closedR m' (chk putR m')) := by
  have hr := samM_rightM h
  unfold closedR
  rw [← hr]
  by_cases h0 : rightM m = 0
  · rw [if_pos h0, if_pos h0]
    have := sim putR_way m m' [] [] [] [] [] [] h (.inr ⟨ha, hb⟩) (right_allM' h0) (right_allM' (hr ▸ h0)) rfl rfl trivial rfl
    revert this
    cases chk putR m [] [] <;> cases chk putR m' [] [] <;> intro this <;> first | exact this.elim | exact this | exact RelT.sam this
  · rw [if_neg h0, if_neg h0]; rfl
end Go.Proofs.YtcjkikadolnfgaaGreat


/- again: does a term bind a number where it is in scope already? -/
set_option linter.unusedSimpArgs false
set_option linter.unusedVariables false
namespace Go.Proofs.YtcjkikadolnfgaaGreat
open Go.Vx Go.Vc Go.RowKit
theorem hasI_fn (l : List Int) (x : Int) : FnR Tryz.prog G0 39 [dI l, .int .i64 x] (.bool (decide (x ∈ l))) := by
  refine fnQ_sz fun hs => ?_
  have hl := (szOk_sl hs.1).1
  simp only [LB] at hl
  refine fnQ_of_vc txok mixed [] Tryz.func39 rfl rfl (by simp) fun b => ?_
  conv => whnf
  refine loopH (fun i : Nat => i ≤ l.length ∧ x ∉ l.take i) (fun i => l.length - i) (fun i => [(5, .d (.int .i64 i))]) (fun _ => []) 0 0 ⟨by omega, by simp⟩ (weak_of rfl (by repeat ((conv => whnf); first | exact trivial | refine And.intro rfl ?_ | refine And.intro (incD (by omega)) ?_)) (by repeat ((conv => whnf); first | exact trivial | refine And.intro rfl ?_ | refine And.intro (incD (by omega)) ?_))) ?_
  rintro i ⟨hi, hx⟩
  conv => whnf
  refine And.intro (fun hb => ?_) (fun hb => ?_)
  · have hil : i < l.length := by have := of_decide_eq_true hb; omega
    conv => whnf
    refine IdxC.encI i hil rfl ?_
    conv => whnf
    refine And.intro (fun h5 => ?_) (fun h5 => ?_)
    · conv => whnf
      have h5 : l[i] = x := by simpa using h5
      rw [decide_eq_true (h5 ▸ List.getElem_mem hil)]
    · conv => whnf
      have h5 : l[i] ≠ x := by simpa using h5
      rw [incD (by omega)]
      refine again (i + 1) (by omega) ⟨by omega, ?_⟩ (weak_of rfl (by repeat ((conv => whnf); first | exact trivial | refine And.intro rfl ?_ | refine And.intro (incD (by omega)) ?_)) (by repeat ((conv => whnf); first | exact trivial | refine And.intro rfl ?_ | refine And.intro (incD (by omega)) ?_)))
      rw [List.take_succ_eq_append_getElem hil, List.mem_append]
      simp [hx, Ne.symm h5]
  · have hil : i = l.length := by have := of_decide_eq_false hb; omega
    subst hil
    rw [List.take_length] at hx
    conv => whnf
    rw [decide_eq_false hx]
theorem agns_drop {k n : Int} {l : List MG} {i : Nat} {s : List Int} (hl : i < l.length) : agns k n i (l.drop i) s = ((decide (k = 20 ∨ k = 23 ∧ i = 1) && decide (n ∈ s)) || agn l[i] (inV k n i s) || agns k n (i + 1) (l.drop (i + 1)) s) := by
  rw [List.drop_eq_getElem_cons hl, agns]
theorem leafT {R : Bool} (h : R = true) : D.bool true = D.bool R := by rw [h]
theorem natEqOne (j : Nat) : (((j : Int) == 1) : Bool) = decide (j = 1) := by
  rw [Bool.eq_iff_iff]; simp; omega
set_option maxHeartbeats 1000000 in
theorem again_fn : ∀ (m : MG) (s : List Int), s.length + wlM m < 1073741824 → FnR Tryz.prog G0 17 [dM m, dI s] (.bool (agn m s)) := by
  refine MG.ind fun k n i nm ls ts ks ih s hss => ?_
  refine fnQ_sz fun hs => ?_
  have hl := (szOk_M (m := .mk k n i nm ls ts ks) hs.1)
  simp only [MG.ks, MG.ts, MG.ls, LB] at hl
  have hsz : wlM (.mk k n i nm ls ts ks) = wlMs ks + szGs ts + ls.length + 1 := by simp only [wlM]
  rw [hsz] at hss
  have hH := hasI_fn s n
  have hkid : ∀ (j : Nat) (h : j < ks.length), FnR Tryz.prog G0 17 [dM ks[j], dI (inV k n j s)] (.bool (agn ks[j] (inV k n j s))) := fun j h => by
    have h1 := inV_len k n j s
    have h5 := wlM_mem (List.getElem_mem h)
    exact ih ks[j] (by simp) _ (by omega)
  refine fnQ_of_vc txok mixed ((100009, .done) :: (200008, .done) :: (8, (.pure 1 (.pure 3 (.two 0 4 (.two 2 4 (.run 4 (.run 5 (.run 6 (.fin 7 .done)))) (.two 2 5 (.run 5 (.run 6 (.fin 7 .done))) (.run 2 (.run 6 (.fin 7 .done))))) (.two 0 5 (.two 2 5 (.run 5 (.run 6 (.fin 7 .done))) (.run 2 (.run 6 (.fin 7 .done)))) (.run 0 (.run 2 (.run 6 (.fin 7 .done))))))))) :: [(8, .pure 1 (.pure 3 (.take 4 (.two 0 5 (.two 2 5 (.fin 5 (.fin 6 (.pure 7 .done))) (.run 2 (.fin 6 (.pure 7 .done)))) (.run 0 (.run 2 (.fin 6 (.pure 7 .done))))))))]) Tryz.func17 rfl rfl (by simp) fun b => ?_
  rw [agn_mk]
  conv => whnf
  refine loopH (fun j : Nat => j ≤ ks.length ∧ agns k n 0 ks s = agns k n j (ks.drop j) s) (fun j => ks.length - j) (fun j => [(5, .d (.int .i64 j))]) (fun _ => [(0, .blk 26 [.d (.int .i64 k), .d (.int .i64 n), .d (.int .i64 i), .d (.str nm), .d (dL ls), .d (dGs ts), .d (dMs ks)])]) 1 0 ⟨by omega, by rw [List.drop_zero]⟩ (weak_of rfl (by repeat ((conv => whnf); first | exact trivial | refine And.intro rfl ?_ | refine And.intro (incD (by omega)) ?_)) (by repeat ((conv => whnf); first | exact trivial | refine And.intro rfl ?_ | refine And.intro (incD (by omega)) ?_))) ?_
  rintro j ⟨hj, hx⟩
  conv => whnf
  refine And.intro (fun hb => ?_) (fun hb => ?_)
  · have hil : j < ks.length := by have := of_decide_eq_true hb; omega
    rw [agns_drop hil] at hx
    have q := hkid j hil
    generalize hR : agns k n 0 ks s = R at *
    by_cases hp : k = 20 ∨ k = 23 ∧ j = 1
    · have hp1 : decide (k = 20 ∨ k = 23 ∧ j = 1) = true := decide_eq_true hp
      have hi : inV k n j s = s ++ [n] := if_pos hp
      rw [hi] at q hx
      conv => whnf
      refine CutC.mk (fun st => st = ⟨[(0, .d (dM (.mk k n i nm ls ts ks))), (1, .d (dI s)), (2, .own 0 0), (5, .d (.int .i64 j)), (6, .d (dI (s ++ [n])))], [(0, .blk 26 [.d (.int .i64 k), .d (.int .i64 n), .d (.int .i64 i), .d (.str nm), .d (dL ls), .d (dGs ts), .d (dMs ks)])], 1⟩ ∧ decide (n ∈ s) = false) ?_ ?_
      · repeat' ((conv => whnf); first
        | refine callF hH gf39 rfl rfl ?_
        | refine appR (i := 1) (el := 3) (eb := 8) (sz := 1) (n := 0) (m := s.length) (xs := []) (ys := Go.Vx.encI s) txok (fun _ => false) s.length (Go.Vx.encI s) (by exact rfl) (by exact rfl) (by exact rfl) (by kernel_rfl) (by rw [Go.Vx.encI_len, Nat.mul_one]) (Go.Vx.encI_scal s) (by omega) rfl (by simp only [LB]; omega) ?_
        | refine appR (i := 1) (el := 3) (eb := 8) (sz := 1) (n := s.length) (m := 1) (xs := Go.Vx.encI s) (ys := [.int .i64 n]) txok (fun _ => false) (s ++ [n]).length (Go.Vx.encI (s ++ [n])) (by exact rfl) (by exact rfl) (by exact rfl) (by kernel_rfl) rfl (fun d hd => by simp at hd; subst hd; rfl) (by simp) (encI_snoc s n) (by simp only [LB, List.length_append, List.length_cons, List.length_nil]; omega) ?_
        | refine appR (i := 2) (el := 3) (eb := 8) (sz := 1) (n := 0) (m := s.length) (xs := []) (ys := Go.Vx.encI s) txok (fun _ => false) s.length (Go.Vx.encI s) (by exact rfl) (by exact rfl) (by exact rfl) (by kernel_rfl) (by rw [Go.Vx.encI_len, Nat.mul_one]) (Go.Vx.encI_scal s) (by omega) rfl (by simp only [LB]; omega) ?_
        | refine appR (i := 2) (el := 3) (eb := 8) (sz := 1) (n := s.length) (m := 1) (xs := Go.Vx.encI s) (ys := [.int .i64 n]) txok (fun _ => false) (s ++ [n]).length (Go.Vx.encI (s ++ [n])) (by exact rfl) (by exact rfl) (by exact rfl) (by kernel_rfl) rfl (fun d hd => by simp at hd; subst hd; rfl) (by simp) (encI_snoc s n) (by simp only [LB, List.length_append, List.length_cons, List.length_nil]; omega) ?_
        | refine And.intro (by kernel_rfl) ?_
        | refine And.intro (fun h => ?_) (fun h => ?_)
        | refine And.intro ?_ ?_)
        all_goals (try (conv => whnf))
        all_goals first
          | (refine leafT ?_; focus (simp_all [natEqOne, natOne]; done))
          | (exfalso; focus (simp_all [natEqOne, natOne]; done))
          | (exfalso; focus (simp_all [natEqOne, natOne]; omega))
          | (refine ⟨_, ⟨rfl, ?_⟩, weak_pub (fun i => Nat.ble 1 i) ?_⟩; assumption; (conv => whnf); exact weak_of rfl (by repeat ((conv => whnf); first | exact trivial | refine And.intro rfl ?_ | refine And.intro (incD (by omega)) ?_)) (by repeat ((conv => whnf); first | exact trivial | refine And.intro rfl ?_ | refine And.intro (incD (by omega)) ?_)))
      · rintro st' ⟨rfl, hc⟩
        rw [hp1, Bool.true_and, hc, Bool.false_or] at hx
        conv => whnf
        refine IdxC.encMs j hil rfl ?_
        conv => whnf
        refine callF q gf17 rfl rfl ?_
        conv => whnf
        refine And.intro (fun h => ?_) (fun h => ?_)
        · conv => whnf
          rw [hx, h]; rfl
        · conv => whnf
          rw [h, Bool.false_or] at hx
          rw [incD (by omega)]
          exact again (j + 1) (by omega) ⟨by omega, hx⟩ (weak_of rfl (by repeat ((conv => whnf); first | exact trivial | refine And.intro rfl ?_ | refine And.intro (incD (by omega)) ?_)) (by repeat ((conv => whnf); first | exact trivial | refine And.intro rfl ?_ | refine And.intro (incD (by omega)) ?_)))
    · have hp1 : decide (k = 20 ∨ k = 23 ∧ j = 1) = false := decide_eq_false hp
      have hi : inV k n j s = s := if_neg hp
      rw [hi] at q hx
      conv => whnf
      refine CutC.mk (fun st => st = ⟨[(0, .d (dM (.mk k n i nm ls ts ks))), (1, .d (dI s)), (2, .own 0 0), (5, .d (.int .i64 j)), (6, .d (dI s))], [(0, .blk 26 [.d (.int .i64 k), .d (.int .i64 n), .d (.int .i64 i), .d (.str nm), .d (dL ls), .d (dGs ts), .d (dMs ks)])], 1⟩) ?_ ?_
      · repeat' ((conv => whnf); first
        | refine callF hH gf39 rfl rfl ?_
        | refine appR (i := 1) (el := 3) (eb := 8) (sz := 1) (n := 0) (m := s.length) (xs := []) (ys := Go.Vx.encI s) txok (fun _ => false) s.length (Go.Vx.encI s) (by exact rfl) (by exact rfl) (by exact rfl) (by kernel_rfl) (by rw [Go.Vx.encI_len, Nat.mul_one]) (Go.Vx.encI_scal s) (by omega) rfl (by simp only [LB]; omega) ?_
        | refine appR (i := 1) (el := 3) (eb := 8) (sz := 1) (n := s.length) (m := 1) (xs := Go.Vx.encI s) (ys := [.int .i64 n]) txok (fun _ => false) (s ++ [n]).length (Go.Vx.encI (s ++ [n])) (by exact rfl) (by exact rfl) (by exact rfl) (by kernel_rfl) rfl (fun d hd => by simp at hd; subst hd; rfl) (by simp) (encI_snoc s n) (by simp only [LB, List.length_append, List.length_cons, List.length_nil]; omega) ?_
        | refine appR (i := 2) (el := 3) (eb := 8) (sz := 1) (n := 0) (m := s.length) (xs := []) (ys := Go.Vx.encI s) txok (fun _ => false) s.length (Go.Vx.encI s) (by exact rfl) (by exact rfl) (by exact rfl) (by kernel_rfl) (by rw [Go.Vx.encI_len, Nat.mul_one]) (Go.Vx.encI_scal s) (by omega) rfl (by simp only [LB]; omega) ?_
        | refine appR (i := 2) (el := 3) (eb := 8) (sz := 1) (n := s.length) (m := 1) (xs := Go.Vx.encI s) (ys := [.int .i64 n]) txok (fun _ => false) (s ++ [n]).length (Go.Vx.encI (s ++ [n])) (by exact rfl) (by exact rfl) (by exact rfl) (by kernel_rfl) rfl (fun d hd => by simp at hd; subst hd; rfl) (by simp) (encI_snoc s n) (by simp only [LB, List.length_append, List.length_cons, List.length_nil]; omega) ?_
        | refine And.intro (by kernel_rfl) ?_
        | refine And.intro (fun h => ?_) (fun h => ?_)
        | refine And.intro ?_ ?_)
        all_goals (try (conv => whnf))
        all_goals first
          | (exfalso; focus (simp_all [natEqOne, natOne]; done))
          | (exfalso; focus (simp_all [natEqOne, natOne]; omega))
          | exact ⟨_, rfl, weak_of rfl (by repeat ((conv => whnf); first | exact trivial | refine And.intro rfl ?_ | refine And.intro (incD (by omega)) ?_)) (by repeat ((conv => whnf); first | exact trivial | refine And.intro rfl ?_ | refine And.intro (incD (by omega)) ?_))⟩
      · rintro st' rfl
        rw [hp1, Bool.false_and, Bool.false_or] at hx
        conv => whnf
        refine IdxC.encMs j hil rfl ?_
        conv => whnf
        refine callF q gf17 rfl rfl ?_
        conv => whnf
        refine And.intro (fun h => ?_) (fun h => ?_)
        · conv => whnf
          rw [hx, h]; rfl
        · conv => whnf
          rw [h, Bool.false_or] at hx
          rw [incD (by omega)]
          exact again (j + 1) (by omega) ⟨by omega, hx⟩ (weak_of rfl (by repeat ((conv => whnf); first | exact trivial | refine And.intro rfl ?_ | refine And.intro (incD (by omega)) ?_)) (by repeat ((conv => whnf); first | exact trivial | refine And.intro rfl ?_ | refine And.intro (incD (by omega)) ?_)))
  · have hil : j = ks.length := by have := of_decide_eq_false hb; omega
    subst hil
    rw [List.drop_length, agns] at hx
    conv => whnf
    rw [hx]
end Go.Proofs.YtcjkikadolnfgaaGreat


/- Rules: app (printed by gzw.py). -/
set_option linter.unusedSimpArgs false
set_option linter.unusedVariables false
namespace Go.Proofs.YtcjkikadolnfgaaGreat
open Go.Vx Go.Vc Go.RowKit
set_option maxRecDepth 20000 in
set_option maxHeartbeats 2000000 in
theorem appW_fn (vars : List Int) (l : List Bd) (n i : Int) (nm : ByteArray) (ls : List ByteArray) (u : MG) (v : MG) (cu : Chk) (hcu : KidOk u cu) (cv : Chk) (hcv : KidOk v cv) (hv : vars.length + szM (.mk 6 n i nm ls [] [u, v]) ≤ 549755813888) (hl : l.length + 2 * szM (.mk 6 n i nm ls [] [u, v]) ≤ 549755813888) (hz : szM (.mk 6 n i nm ls [] [u, v]) ≤ 1073741824) (hb : Bnd l) : FnQ Tryz.prog G0 119 [dSc vars l, dM (.mk 6 n i nm ls [] [u, v])] (fun o => o = resO ((appRl cu cv) vars l)) ∧ ∀ t, (appRl cu cv) vars l = .ok t → allG t = true ∧ szG t ≤ 2147483648 := by
  simp only [szM, szMs, szGs] at hv hl hz
  unfold appRl
  try simp only []
  have hK0 := hcu (vars) (l) (by (try simp only [lA, lC, lN]); omega) (by (try simp only [lA, lC, lN]); omega) (hb)
  obtain ⟨hK0, hK0G⟩ := hK0
  refine exC (cu (vars) (l)) (fun e hr0 => ?_) (fun f hr0 => ?_)
  rw [hr0] at hK0
  (try simp only [bE, askE, kidG, g_k, g_n, g_kids, gz, gs, bs, hr0])
  first | refine And.intro ?_ nofun | refine And.intro ?_ (by simp) | skip
  rotate_left
  rw [hr0] at hK0
  obtain ⟨haf, hzf⟩ := hK0G f hr0
  have hK2 := hcv (vars) (l) (by (try simp only [lA, lC, lN]); omega) (by (try simp only [lA, lC, lN]); omega) (hb)
  obtain ⟨hK2, hK2G⟩ := hK2
  refine exC (cv (vars) (l)) (fun e hr2 => ?_) (fun x hr2 => ?_)
  rw [hr2] at hK2
  (try simp only [bE, askE, kidG, g_k, g_n, g_kids, gz, gs, bs, hr0, hr2])
  first | refine And.intro ?_ nofun | refine And.intro ?_ (by simp) | skip
  rotate_left
  rw [hr2] at hK2
  obtain ⟨hax, hzx⟩ := hK2G x hr2
  obtain ⟨kf, nf, lsf, lf⟩ := f
  have hA4 := ask_fn (kf == 4)
  refine byC (P := kf = 4) (fun hk4 => ?_) (fun hk4 => ?_)
  have hkb : (kf == 4) = false := by simpa using hk4
  rw [show askO (kf == 4) = .pan (badW 30) from by rw [hkb]; rfl] at hA4
  (try simp only [bE, askE, kidG, g_k, g_n, g_kids, gz, gs, bs, hr0, hr2, hkb])
  first | refine And.intro ?_ nofun | refine And.intro ?_ (by simp) | skip
  rotate_left
  subst hk4
  obtain ⟨rfl, rfl, af, bf, rfl⟩ := shp2 (by omega) ((allG_mk ..).1 haf).1
  have hS8 := same_fn af x (by simp only [szG, szGs] at hzf; omega)
  refine boC (samG af x [] []) (fun hs8 => ?_) (fun hs8 => ?_)
  rw [hs8] at hS8
  (try simp only [bE, askE, kidG, g_k, g_n, g_kids, gz, gs, bs, hr0, hr2, hs8])
  first | refine And.intro ?_ nofun | refine And.intro ?_ (by simp) | skip
  rotate_left
  rw [hs8] at hS8
  (try simp only [bE, askE, kidG, g_k, g_n, g_kids, gz, gs, bs, hr0, hr2, hs8])
  refine And.intro ?_ (fun t ht => by injection ht with ht; subst ht; exact ⟨((allG_mk ..).1 haf).2 bf (by simp), by simp only [szG, szGs] at hzf; omega⟩)
  rotate_left
  all_goals
    refine fnQ_of_vc txok mixed [(1, .take 0 (.pure 1 (.take 2 (.pure 3 (.take 4 (.take 6 (.pure 7 (.take 8 (.pure 9 (.take 10 (.three 5 12 13 (.three 11 12 13 (.two 12 13 (.run 13 (.fin 14 (.fin 15 .done))) (.run 12 (.fin 14 (.fin 15 .done)))) (.two 11 13 (.run 13 (.fin 14 (.fin 15 .done))) (.fin 11 (.fin 14 (.fin 15 .done)))) (.two 11 12 (.run 12 (.fin 14 (.fin 15 .done))) (.fin 11 (.fin 14 (.fin 15 .done))))) (.two 5 13 (.two 11 13 (.run 13 (.fin 14 (.fin 15 .done))) (.fin 11 (.fin 14 (.fin 15 .done)))) (.run 5 (.fin 11 (.fin 14 (.fin 15 .done))))) (.two 5 12 (.two 11 12 (.run 12 (.fin 14 (.fin 15 .done))) (.fin 11 (.fin 14 (.fin 15 .done)))) (.run 5 (.fin 11 (.fin 14 (.fin 15 .done)))))))))))))))), (3, .pure 0 (.take 1 (.pure 2 (.take 3 (.take 4 (.fin 5 .done))))))] Tryz.func119 rfl rfl (by simp) fun bb => ?_
    repeat' ((conv => whnf); first
      | refine And.intro (by kernel_rfl) ?_
      | refine And.intro ?_ ?_
      | refine IdxC.encMs (l := [u, v]) 0 (by simp) rfl ?_
      | refine IdxC.encMs (l := [u, v]) 1 (by simp) rfl ?_
      | (refine callQ rfl rfl gf46 hK0 ?_; rintro o rfl)
      | (refine callQ rfl rfl gf46 hK2 ?_; rintro o rfl)
      | (refine callQ rfl rfl gf167 hA4 ?_; rintro o rfl)
      | (refine callQ rfl rfl gf167 (ask_fn true) ?_; rintro o rfl)
      | refine IdxC.encGs (l := [af, bf]) 0 (by simp) rfl ?_
      | refine IdxC.encGs (l := [af, bf]) 1 (by simp) rfl ?_
      | (refine callQ rfl rfl gf170 hS8 ?_; rintro o rfl)
      | intro _)
    all_goals (try (conv => whnf))
    all_goals exact rfl
theorem kid_app (n i : Int) (nm : ByteArray) (ls : List ByteArray) (u : MG) (v : MG) (cu : Chk) (hcu : KidOk u cu) (cv : Chk) (hcv : KidOk v cv) (hz : szM (.mk 6 n i nm ls [] [u, v]) ≤ 1073741824) : KidOk (.mk 6 n i nm ls [] [u, v]) (fun vars l => fitE ((appRl cu cv) vars l)) :=
  kid_of _ ((appRl cu cv)) 6 119 rfl rfl gf119 fun vars l hv hl hb => appW_fn vars l n i nm ls u v cu hcu cv hcv hv hl hz hb
end Go.Proofs.YtcjkikadolnfgaaGreat


/- Rules: fix (printed by gzw.py). -/
set_option linter.unusedSimpArgs false
set_option linter.unusedVariables false
namespace Go.Proofs.YtcjkikadolnfgaaGreat
open Go.Vx Go.Vc Go.RowKit
set_option maxRecDepth 20000 in
set_option maxHeartbeats 2000000 in
theorem fixW_fn (vars : List Int) (l : List Bd) (n i : Int) (nm : ByteArray) (ls : List ByteArray) (lb : ByteArray) (a : TG) (b : TG) (u : MG) (cu : Chk) (hcu : KidOk u cu) (hv : vars.length + szM (.mk 7 n i nm [lb] [a, b] [u]) ≤ 549755813888) (hl : l.length + 2 * szM (.mk 7 n i nm [lb] [a, b] [u]) ≤ 549755813888) (hz : szM (.mk 7 n i nm [lb] [a, b] [u]) ≤ 1073741824) (hb : Bnd l) : FnQ Tryz.prog G0 120 [dSc vars l, dM (.mk 7 n i nm [lb] [a, b] [u])] (fun o => o = resO ((fixR nm lb a b cu) vars l)) ∧ ∀ t, (fixR nm lb a b cu) vars l = .ok t → allG t = true ∧ szG t ≤ 2147483648 := by
  simp only [szM, szMs, szGs] at hv hl hz
  unfold fixR
  try simp only []
  have hH2 := here_fn vars l a (by omega)
  unfold hereR at hH2
  refine boC (insG a vars) (fun hi2 => ?_) (fun hi2 => ?_)
  rw [hi2] at hH2
  (try simp only [bE, askE, kidG, g_k, g_n, g_kids, gz, gs, bs, hi2])
  first | refine And.intro ?_ nofun | refine And.intro ?_ (by simp) | skip
  rotate_left
  rw [hi2] at hH2
  have haa := ins_all hi2
  have hH4 := here_fn vars l b (by omega)
  unfold hereR at hH4
  refine boC (insG b vars) (fun hi4 => ?_) (fun hi4 => ?_)
  rw [hi4] at hH4
  (try simp only [bE, askE, kidG, g_k, g_n, g_kids, gz, gs, bs, hi2, hi4])
  first | refine And.intro ?_ nofun | refine And.intro ?_ (by simp) | skip
  rotate_left
  rw [hi4] at hH4
  have hab := ins_all hi4
  obtain ⟨ka, na, lsa, la⟩ := a
  obtain ⟨kb, nb, lsb, lb2⟩ := b
  have haf : allG (TG.mk 4 0 [] [.mk ka na lsa la, .mk kb nb lsb lb2]) = true := (allG_mk ..).2 ⟨rfl, by intro u hu; simp only [List.mem_cons, List.not_mem_nil, or_false] at hu; rcases hu with rfl | rfl <;> assumption⟩
  have hF8 := fit_fn (TG.mk 4 0 [] [.mk ka na lsa la, .mk kb nb lsb lb2]) (by simp only [szG, szGs] at hz ⊢; omega)
  unfold fitR at hF8 ⊢
  refine byC (P := szG (TG.mk 4 0 [] [.mk ka na lsa la, .mk kb nb lsb lb2]) ≤ 1048576) (fun hf8 => ?_) (fun hf8 => ?_)
  rw [if_neg hf8] at hF8 ⊢
  (try simp only [bE, askE, kidG, g_k, g_n, g_kids, gz, gs, bs, hi2, hi4])
  first | refine And.intro ?_ nofun | refine And.intro ?_ (by simp) | skip
  rotate_left
  rw [if_pos hf8] at hF8 ⊢
  have hW10 := with_fn (vars) (l) nm (TG.mk 4 0 [] [.mk ka na lsa la, .mk kb nb lsb lb2]) (by (try simp only [lA, lC, lN]); omega)
  have hW12 := with_fn (vars) (l ++ [(nm, (TG.mk 4 0 [] [.mk ka na lsa la, .mk kb nb lsb lb2]))]) lb (.mk ka na lsa la) (by (try simp only [lA, lC, lN]); omega)
  have hK14 := hcu (vars) ((l ++ [(nm, (TG.mk 4 0 [] [.mk ka na lsa la, .mk kb nb lsb lb2]))]) ++ [(lb, (.mk ka na lsa la))]) (by (try simp only [lA, lC, lN]); omega) (by (try simp only [lA, lC, lN]); omega) ((hb.snoc haf (by omega)).snoc haa (by omega))
  obtain ⟨hK14, hK14G⟩ := hK14
  refine exC (cu (vars) ((l ++ [(nm, (TG.mk 4 0 [] [.mk ka na lsa la, .mk kb nb lsb lb2]))]) ++ [(lb, (.mk ka na lsa la))])) (fun e hr14 => ?_) (fun t hr14 => ?_)
  rw [hr14] at hK14
  (try simp only [bE, askE, kidG, g_k, g_n, g_kids, gz, gs, bs, hi2, hi4, hr14])
  first | refine And.intro ?_ nofun | refine And.intro ?_ (by simp) | skip
  rotate_left
  rw [hr14] at hK14
  obtain ⟨hat, hzt⟩ := hK14G t hr14
  have hS16 := same_fn t (.mk kb nb lsb lb2) (by omega)
  refine boC (samG t (.mk kb nb lsb lb2) [] []) (fun hs16 => ?_) (fun hs16 => ?_)
  rw [hs16] at hS16
  (try simp only [bE, askE, kidG, g_k, g_n, g_kids, gz, gs, bs, hi2, hi4, hr14, hs16])
  first | refine And.intro ?_ nofun | refine And.intro ?_ (by simp) | skip
  rotate_left
  rw [hs16] at hS16
  (try simp only [bE, askE, kidG, g_k, g_n, g_kids, gz, gs, bs, hi2, hi4, hr14, hs16])
  refine And.intro ?_ (fun t ht => by injection ht with ht; subst ht; exact ⟨haf, by omega⟩)
  rotate_left
  all_goals
    refine fnQ_of_vc txok mixed [(1, .take 0 (.pure 1 (.take 2 (.pure 3 (.take 4 (.take 6 (.pure 7 (.take 8 (.pure 9 (.take 10 (.three 5 12 13 (.three 11 12 13 (.two 12 13 (.run 13 (.fin 14 (.fin 15 .done))) (.run 12 (.fin 14 (.fin 15 .done)))) (.two 11 13 (.run 13 (.fin 14 (.fin 15 .done))) (.fin 11 (.fin 14 (.fin 15 .done)))) (.two 11 12 (.run 12 (.fin 14 (.fin 15 .done))) (.fin 11 (.fin 14 (.fin 15 .done))))) (.two 5 13 (.two 11 13 (.run 13 (.fin 14 (.fin 15 .done))) (.fin 11 (.fin 14 (.fin 15 .done)))) (.run 5 (.fin 11 (.fin 14 (.fin 15 .done))))) (.two 5 12 (.two 11 12 (.run 12 (.fin 14 (.fin 15 .done))) (.fin 11 (.fin 14 (.fin 15 .done)))) (.run 5 (.fin 11 (.fin 14 (.fin 15 .done)))))))))))))))), (3, .take 0 (.pure 1 (.take 2 (.take 3 (.pure 5 (.take 6 (.pure 7 (.take 8 (.take 9 (.pure 11 (.take 12 (.pure 13 (.take 14 (.take 16 (.run 4 (.run 10 (.run 15 (.fin 17 .done))))))))))))))))))] Tryz.func120 rfl rfl (by simp) fun bb => ?_
    repeat' ((conv => whnf); first
      | refine And.intro (by kernel_rfl) ?_
      | refine And.intro ?_ ?_
      | refine IdxC.encGs (l := [a, b]) 0 (by simp) rfl ?_
      | refine IdxC.encGs (l := [a, b]) 1 (by simp) rfl ?_
      | refine IdxC.encMs (l := [u]) 0 (by simp) rfl ?_
      | refine IdxC.encS (l := [lb]) 0 (by simp) rfl ?_
      | (refine callQ rfl rfl gf168 hH2 ?_; rintro o rfl)
      | (refine callQ rfl rfl gf168 hH4 ?_; rintro o rfl)
      | refine IdxC.encGs (l := [(.mk ka na lsa la), (.mk kb nb lsb lb2)]) 0 (by simp) rfl ?_
      | refine IdxC.encGs (l := [(.mk ka na lsa la), (.mk kb nb lsb lb2)]) 1 (by simp) rfl ?_
      | (refine pubC (fun i => Nat.beq i 5) ?_; (conv => whnf); refine callF (node_fn 4 [.mk ka na lsa la, .mk kb nb lsb lb2]) gf165 rfl rfl ?_)
      | (refine callQ rfl rfl gf82 hF8 ?_; rintro o rfl)
      | refine callF hW10 gf169 rfl rfl ?_
      | refine callF hW12 gf169 rfl rfl ?_
      | (refine callQ rfl rfl gf46 hK14 ?_; rintro o rfl)
      | (refine callQ rfl rfl gf170 hS16 ?_; rintro o rfl)
      | intro _)
    all_goals (try (conv => whnf))
    all_goals exact rfl
theorem kid_fix (n i : Int) (nm : ByteArray) (ls : List ByteArray) (lb : ByteArray) (a : TG) (b : TG) (u : MG) (cu : Chk) (hcu : KidOk u cu) (hz : szM (.mk 7 n i nm [lb] [a, b] [u]) ≤ 1073741824) : KidOk (.mk 7 n i nm [lb] [a, b] [u]) (fun vars l => fitE ((fixR nm lb a b cu) vars l)) :=
  kid_of _ ((fixR nm lb a b cu)) 7 120 rfl rfl gf120 fun vars l hv hl hb => fixW_fn vars l n i nm ls lb a b u cu hcu hv hl hz hb
end Go.Proofs.YtcjkikadolnfgaaGreat


/- Rules: let (printed by gzw.py). -/
set_option linter.unusedSimpArgs false
set_option linter.unusedVariables false
namespace Go.Proofs.YtcjkikadolnfgaaGreat
open Go.Vx Go.Vc Go.RowKit
set_option maxRecDepth 20000 in
set_option maxHeartbeats 2000000 in
theorem letW_fn (vars : List Int) (l : List Bd) (n i : Int) (nm : ByteArray) (ls : List ByteArray) (u : MG) (v : MG) (cu : Chk) (hcu : KidOk u cu) (cv : Chk) (hcv : KidOk v cv) (hv : vars.length + szM (.mk 8 n i nm ls [] [u, v]) ≤ 549755813888) (hl : l.length + 2 * szM (.mk 8 n i nm ls [] [u, v]) ≤ 549755813888) (hz : szM (.mk 8 n i nm ls [] [u, v]) ≤ 1073741824) (hb : Bnd l) : FnQ Tryz.prog G0 121 [dSc vars l, dM (.mk 8 n i nm ls [] [u, v])] (fun o => o = resO ((letR nm cu cv) vars l)) ∧ ∀ t, (letR nm cu cv) vars l = .ok t → allG t = true ∧ szG t ≤ 2147483648 := by
  simp only [szM, szMs, szGs] at hv hl hz
  unfold letR
  try simp only []
  have hK0 := hcu (vars) (l) (by (try simp only [lA, lC, lN]); omega) (by (try simp only [lA, lC, lN]); omega) (hb)
  obtain ⟨hK0, hK0G⟩ := hK0
  refine exC (cu (vars) (l)) (fun e hr0 => ?_) (fun t hr0 => ?_)
  rw [hr0] at hK0
  (try simp only [bE, askE, kidG, g_k, g_n, g_kids, gz, gs, bs, hr0])
  first | refine And.intro ?_ nofun | refine And.intro ?_ (by simp) | skip
  rotate_left
  rw [hr0] at hK0
  obtain ⟨hat, hzt⟩ := hK0G t hr0
  have hW2 := with_fn (vars) (l) nm t (by (try simp only [lA, lC, lN]); omega)
  have hK4 := hcv (vars) (l ++ [(nm, t)]) (by (try simp only [lA, lC, lN]); omega) (by (try simp only [lA, lC, lN]); omega) (hb.snoc hat (by omega))
  obtain ⟨hK4, hK4G⟩ := hK4
  refine exC (cv (vars) (l ++ [(nm, t)])) (fun e hr4 => ?_) (fun w hr4 => ?_)
  rw [hr4] at hK4
  (try simp only [bE, askE, kidG, g_k, g_n, g_kids, gz, gs, bs, hr0, hr4])
  first | refine And.intro ?_ nofun | refine And.intro ?_ (by simp) | skip
  rotate_left
  rw [hr4] at hK4
  obtain ⟨haw, hzw⟩ := hK4G w hr4
  (try simp only [bE, askE, kidG, g_k, g_n, g_kids, gz, gs, bs, hr0, hr4])
  refine And.intro ?_ (fun t ht => by injection ht with ht; subst ht; exact ⟨haw, by omega⟩)
  rotate_left
  all_goals
    refine fnQ_of_vc txok mixed [(1, .take 0 (.pure 1 (.take 2 (.take 3 (.pure 4 (.take 5 (.pure 6 (.take 7 (.pure 10 (.take 11 (.pure 12 (.take 13 (.run 8 (.run 9 (.fin 14 (.fin 15 .done))))))))))))))))] Tryz.func121 rfl rfl (by simp) fun bb => ?_
    repeat' ((conv => whnf); first
      | refine And.intro (by kernel_rfl) ?_
      | refine And.intro ?_ ?_
      | refine IdxC.encMs (l := [u, v]) 0 (by simp) rfl ?_
      | refine IdxC.encMs (l := [u, v]) 1 (by simp) rfl ?_
      | (refine callQ rfl rfl gf46 hK0 ?_; rintro o rfl)
      | refine callF hW2 gf169 rfl rfl ?_
      | (refine callQ rfl rfl gf46 hK4 ?_; rintro o rfl)
      | intro _)
    all_goals (try (conv => whnf))
    all_goals exact rfl
theorem kid_let (n i : Int) (nm : ByteArray) (ls : List ByteArray) (u : MG) (v : MG) (cu : Chk) (hcu : KidOk u cu) (cv : Chk) (hcv : KidOk v cv) (hz : szM (.mk 8 n i nm ls [] [u, v]) ≤ 1073741824) : KidOk (.mk 8 n i nm ls [] [u, v]) (fun vars l => fitE ((letR nm cu cv) vars l)) :=
  kid_of _ ((letR nm cu cv)) 8 121 rfl rfl gf121 fun vars l hv hl hb => letW_fn vars l n i nm ls u v cu hcu cv hcv hv hl hz hb
end Go.Proofs.YtcjkikadolnfgaaGreat


/- Rules: pair (printed by gzw.py). -/
set_option linter.unusedSimpArgs false
set_option linter.unusedVariables false
namespace Go.Proofs.YtcjkikadolnfgaaGreat
open Go.Vx Go.Vc Go.RowKit
set_option maxRecDepth 20000 in
set_option maxHeartbeats 2000000 in
theorem pairW_fn (vars : List Int) (l : List Bd) (n i : Int) (nm : ByteArray) (ls : List ByteArray) (u : MG) (v : MG) (cu : Chk) (hcu : KidOk u cu) (cv : Chk) (hcv : KidOk v cv) (hv : vars.length + szM (.mk 9 n i nm ls [] [u, v]) ≤ 549755813888) (hl : l.length + 2 * szM (.mk 9 n i nm ls [] [u, v]) ≤ 549755813888) (hz : szM (.mk 9 n i nm ls [] [u, v]) ≤ 1073741824) (hb : Bnd l) : FnQ Tryz.prog G0 122 [dSc vars l, dM (.mk 9 n i nm ls [] [u, v])] (fun o => o = resO ((pairR cu cv) vars l)) ∧ ∀ t, (pairR cu cv) vars l = .ok t → allG t = true ∧ szG t ≤ 2147483648 := by
  simp only [szM, szMs, szGs] at hv hl hz
  unfold pairR
  try simp only []
  have hK0 := hcu (vars) (l) (by (try simp only [lA, lC, lN]); omega) (by (try simp only [lA, lC, lN]); omega) (hb)
  obtain ⟨hK0, hK0G⟩ := hK0
  refine exC (cu (vars) (l)) (fun e hr0 => ?_) (fun a hr0 => ?_)
  rw [hr0] at hK0
  (try simp only [bE, askE, kidG, g_k, g_n, g_kids, gz, gs, bs, hr0])
  first | refine And.intro ?_ nofun | refine And.intro ?_ (by simp) | skip
  rotate_left
  rw [hr0] at hK0
  obtain ⟨haa, hza⟩ := hK0G a hr0
  have hK2 := hcv (vars) (l) (by (try simp only [lA, lC, lN]); omega) (by (try simp only [lA, lC, lN]); omega) (hb)
  obtain ⟨hK2, hK2G⟩ := hK2
  refine exC (cv (vars) (l)) (fun e hr2 => ?_) (fun b hr2 => ?_)
  rw [hr2] at hK2
  (try simp only [bE, askE, kidG, g_k, g_n, g_kids, gz, gs, bs, hr0, hr2])
  first | refine And.intro ?_ nofun | refine And.intro ?_ (by simp) | skip
  rotate_left
  rw [hr2] at hK2
  obtain ⟨hab, hzb⟩ := hK2G b hr2
  obtain ⟨ka, na, lsa, la⟩ := a
  obtain ⟨kb, nb, lsb, lb⟩ := b
  (try simp only [bE, askE, kidG, g_k, g_n, g_kids, gz, gs, bs, hr0, hr2])
  refine And.intro ?_ (fun t ht => by injection ht with ht; subst ht; exact ⟨all2 (by omega) haa hab, by simp only [szG, szGs] at hza hzb ⊢; omega⟩)
  rotate_left
  all_goals
    refine fnQ_of_vc txok mixed [(1, .take 0 (.pure 1 (.take 2 (.pure 3 (.take 4 (.two 5 6 (.run 6 (.fin 7 .done)) (.fin 5 (.fin 7 .done)))))))), (2, .take 0 (.take 1 (.pure 2 (.take 3 (.pure 4 (.take 5 (.run 6 (.fin 7 (.fin 8 (.fin 9 .done))))))))))] Tryz.func122 rfl rfl (by simp) fun bb => ?_
    repeat' ((conv => whnf); first
      | refine And.intro (by kernel_rfl) ?_
      | refine And.intro ?_ ?_
      | refine IdxC.encMs (l := [u, v]) 0 (by simp) rfl ?_
      | refine IdxC.encMs (l := [u, v]) 1 (by simp) rfl ?_
      | (refine callQ rfl rfl gf46 hK0 ?_; rintro o rfl)
      | (refine callQ rfl rfl gf46 hK2 ?_; rintro o rfl)
      | (refine pubC (fun i => Nat.beq i 4) ?_; (conv => whnf); refine callF (node_fn 5 [.mk ka na lsa la, .mk kb nb lsb lb]) gf165 rfl rfl ?_)
      | intro _)
    all_goals (try (conv => whnf))
    all_goals exact rfl
theorem kid_pair (n i : Int) (nm : ByteArray) (ls : List ByteArray) (u : MG) (v : MG) (cu : Chk) (hcu : KidOk u cu) (cv : Chk) (hcv : KidOk v cv) (hz : szM (.mk 9 n i nm ls [] [u, v]) ≤ 1073741824) : KidOk (.mk 9 n i nm ls [] [u, v]) (fun vars l => fitE ((pairR cu cv) vars l)) :=
  kid_of _ ((pairR cu cv)) 9 122 rfl rfl gf122 fun vars l hv hl hb => pairW_fn vars l n i nm ls u v cu hcu cv hcv hv hl hz hb
end Go.Proofs.YtcjkikadolnfgaaGreat


/- Rules: fold (printed by gzw.py). -/
set_option linter.unusedSimpArgs false
set_option linter.unusedVariables false
namespace Go.Proofs.YtcjkikadolnfgaaGreat
open Go.Vx Go.Vc Go.RowKit
set_option maxRecDepth 20000 in
set_option maxHeartbeats 2000000 in
theorem foldW_fn (vars : List Int) (l : List Bd) (n i : Int) (nm : ByteArray) (ls : List ByteArray) (a : TG) (u : MG) (cu : Chk) (hcu : KidOk u cu) (hv : vars.length + szM (.mk 18 n i nm ls [a] [u]) ≤ 549755813888) (hl : l.length + 2 * szM (.mk 18 n i nm ls [a] [u]) ≤ 549755813888) (hz : szM (.mk 18 n i nm ls [a] [u]) ≤ 1073741824) (hb : Bnd l) : FnQ Tryz.prog G0 130 [dSc vars l, dM (.mk 18 n i nm ls [a] [u])] (fun o => o = resO ((foldR putR a cu) vars l)) ∧ ∀ t, (foldR putR a cu) vars l = .ok t → allG t = true ∧ szG t ≤ 2147483648 := by
  simp only [szM, szMs, szGs] at hv hl hz
  unfold foldR
  try simp only []
  have hH0 := here_fn vars l a (by omega)
  unfold hereR at hH0
  refine boC (insG a vars) (fun hi0 => ?_) (fun hi0 => ?_)
  rw [hi0] at hH0
  (try simp only [bE, askE, kidG, g_k, g_n, g_kids, gz, gs, bs, hi0])
  first | refine And.intro ?_ nofun | refine And.intro ?_ (by simp) | skip
  rotate_left
  rw [hi0] at hH0
  have haa := ins_all hi0
  have hK2 := hcu (vars) (l) (by (try simp only [lA, lC, lN]); omega) (by (try simp only [lA, lC, lN]); omega) (hb)
  obtain ⟨hK2, hK2G⟩ := hK2
  refine exC (cu (vars) (l)) (fun e hr2 => ?_) (fun t hr2 => ?_)
  rw [hr2] at hK2
  (try simp only [bE, askE, kidG, g_k, g_n, g_kids, gz, gs, bs, hi0, hr2])
  first | refine And.intro ?_ nofun | refine And.intro ?_ (by simp) | skip
  rotate_left
  rw [hr2] at hK2
  obtain ⟨hat, hzt⟩ := hK2G t hr2
  obtain ⟨ka, na, lsa, la⟩ := a
  have hA4 := ask_fn (ka == 9)
  refine byC (P := ka = 9) (fun hk4 => ?_) (fun hk4 => ?_)
  have hkb : (ka == 9) = false := by simpa using hk4
  rw [show askO (ka == 9) = .pan (badW 30) from by rw [hkb]; rfl] at hA4
  (try simp only [bE, askE, kidG, g_k, g_n, g_kids, gz, gs, bs, hi0, hr2, hkb])
  first | refine And.intro ?_ nofun | refine And.intro ?_ (by simp) | skip
  rotate_left
  subst hk4
  obtain ⟨rfl, ua, rfl⟩ := shp1 (by omega) ((allG_mk ..).1 haa).1
  have haua := ((allG_mk ..).1 haa).2 ua (by simp)
  have hzua : szG ua ≤ szG (TG.mk 9 na [] [ua]) := by simp only [szG, szGs]; omega
  have hP7 := kput_fn ua na (TG.mk 9 na [] [ua]) (allG_okV haua) (by omega) (by omega)
  refine exC (putR ua na (TG.mk 9 na [] [ua])) (fun e hw7 => ?_) (fun w hw7 => ?_)
  rw [hw7] at hP7
  (try simp only [bE, askE, kidG, g_k, g_n, g_kids, gz, gs, bs, hi0, hr2, hw7])
  first | refine And.intro ?_ nofun | refine And.intro ?_ (by simp) | skip
  rotate_left
  rw [hw7] at hP7
  obtain ⟨haw, hzw⟩ := putR_good haua haa hw7
  have hS9 := same_fn t w (by omega)
  refine boC (samG t w [] []) (fun hs9 => ?_) (fun hs9 => ?_)
  rw [hs9] at hS9
  (try simp only [bE, askE, kidG, g_k, g_n, g_kids, gz, gs, bs, hi0, hr2, hw7, hs9])
  first | refine And.intro ?_ nofun | refine And.intro ?_ (by simp) | skip
  rotate_left
  rw [hs9] at hS9
  (try simp only [bE, askE, kidG, g_k, g_n, g_kids, gz, gs, bs, hi0, hr2, hw7, hs9])
  refine And.intro ?_ (fun t ht => by injection ht with ht; subst ht; exact ⟨haa, by omega⟩)
  rotate_left
  all_goals
    refine fnQ_of_vc txok mixed [(1, .take 0 (.pure 1 (.take 2 (.pure 3 (.take 4 (.two 5 6 (.run 6 (.fin 7 .done)) (.fin 5 (.fin 7 .done)))))))), (2, .take 0 (.pure 1 (.take 2 (.pure 3 (.take 4 (.two 5 6 (.run 6 (.fin 7 .done)) (.fin 5 (.fin 7 .done)))))))), (4, .take 0 (.pure 1 (.take 2 (.pure 3 (.take 4 (.pure 5 (.take 6 (.take 7 (.run 8 (.fin 9 .done))))))))))] Tryz.func130 rfl rfl (by simp) fun bb => ?_
    repeat' ((conv => whnf); first
      | refine And.intro (by kernel_rfl) ?_
      | refine And.intro ?_ ?_
      | refine IdxC.encGs (l := [a]) 0 (by simp) rfl ?_
      | refine IdxC.encMs (l := [u]) 0 (by simp) rfl ?_
      | (refine callQ rfl rfl gf168 hH0 ?_; rintro o rfl)
      | (refine callQ rfl rfl gf46 hK2 ?_; rintro o rfl)
      | refine IdxC.encGs (l := [(.mk ka na lsa la)]) 0 (by simp) rfl ?_
      | (refine callQ rfl rfl gf167 hA4 ?_; rintro o rfl)
      | refine IdxC.encGs (l := [(.mk 9 na [] [ua])]) 0 (by simp) rfl ?_
      | (refine callQ rfl rfl gf167 (ask_fn true) ?_; rintro o rfl)
      | refine IdxC.encGs (l := [ua]) 0 (by simp) rfl ?_
      | (refine callQ rfl rfl gf29 hP7 ?_; rintro o rfl)
      | (refine callQ rfl rfl gf170 hS9 ?_; rintro o rfl)
      | intro _)
    all_goals (try (conv => whnf))
    all_goals exact rfl
theorem kid_fold (n i : Int) (nm : ByteArray) (ls : List ByteArray) (a : TG) (u : MG) (cu : Chk) (hcu : KidOk u cu) (hz : szM (.mk 18 n i nm ls [a] [u]) ≤ 1073741824) : KidOk (.mk 18 n i nm ls [a] [u]) (fun vars l => fitE ((foldR putR a cu) vars l)) :=
  kid_of _ ((foldR putR a cu)) 18 130 rfl rfl gf130 fun vars l hv hl hb => foldW_fn vars l n i nm ls a u cu hcu hv hl hz hb
end Go.Proofs.YtcjkikadolnfgaaGreat


/- Rules: unfold (printed by gzw.py). -/
set_option linter.unusedSimpArgs false
set_option linter.unusedVariables false
namespace Go.Proofs.YtcjkikadolnfgaaGreat
open Go.Vx Go.Vc Go.RowKit
set_option maxRecDepth 20000 in
set_option maxHeartbeats 2000000 in
theorem unfoldW_fn (vars : List Int) (l : List Bd) (n i : Int) (nm : ByteArray) (ls : List ByteArray) (u : MG) (cu : Chk) (hcu : KidOk u cu) (hv : vars.length + szM (.mk 19 n i nm ls [] [u]) ≤ 549755813888) (hl : l.length + 2 * szM (.mk 19 n i nm ls [] [u]) ≤ 549755813888) (hz : szM (.mk 19 n i nm ls [] [u]) ≤ 1073741824) (hb : Bnd l) : FnQ Tryz.prog G0 131 [dSc vars l, dM (.mk 19 n i nm ls [] [u])] (fun o => o = resO ((unfoldR putR cu) vars l)) ∧ ∀ t, (unfoldR putR cu) vars l = .ok t → allG t = true ∧ szG t ≤ 2147483648 := by
  simp only [szM, szMs, szGs] at hv hl hz
  unfold unfoldR
  try simp only []
  have hK0 := hcu (vars) (l) (by (try simp only [lA, lC, lN]); omega) (by (try simp only [lA, lC, lN]); omega) (hb)
  obtain ⟨hK0, hK0G⟩ := hK0
  refine exC (cu (vars) (l)) (fun e hr0 => ?_) (fun t hr0 => ?_)
  rw [hr0] at hK0
  (try simp only [bE, askE, kidG, g_k, g_n, g_kids, gz, gs, bs, hr0])
  first | refine And.intro ?_ nofun | refine And.intro ?_ (by simp) | skip
  rotate_left
  rw [hr0] at hK0
  obtain ⟨hat, hzt⟩ := hK0G t hr0
  obtain ⟨kt, nt, lst, lt⟩ := t
  have hA2 := ask_fn (kt == 9)
  refine byC (P := kt = 9) (fun hk2 => ?_) (fun hk2 => ?_)
  have hkb : (kt == 9) = false := by simpa using hk2
  rw [show askO (kt == 9) = .pan (badW 30) from by rw [hkb]; rfl] at hA2
  (try simp only [bE, askE, kidG, g_k, g_n, g_kids, gz, gs, bs, hr0, hkb])
  first | refine And.intro ?_ nofun | refine And.intro ?_ (by simp) | skip
  rotate_left
  subst hk2
  obtain ⟨rfl, ut, rfl⟩ := shp1 (by omega) ((allG_mk ..).1 hat).1
  have haut := ((allG_mk ..).1 hat).2 ut (by simp)
  have hzut : szG ut ≤ szG (TG.mk 9 nt [] [ut]) := by simp only [szG, szGs]; omega
  have hP5 := kput_fn ut nt (TG.mk 9 nt [] [ut]) (allG_okV haut) (by omega) (by omega)
  refine exC (putR ut nt (TG.mk 9 nt [] [ut])) (fun e hw5 => ?_) (fun w hw5 => ?_)
  rw [hw5] at hP5
  (try simp only [bE, askE, kidG, g_k, g_n, g_kids, gz, gs, bs, hr0, hw5])
  first | refine And.intro ?_ nofun | refine And.intro ?_ (by simp) | skip
  rotate_left
  rw [hw5] at hP5
  obtain ⟨haw, hzw⟩ := putR_good haut hat hw5
  (try simp only [bE, askE, kidG, g_k, g_n, g_kids, gz, gs, bs, hr0, hw5])
  refine And.intro ?_ (fun t ht => by injection ht with ht; subst ht; exact ⟨haw, by omega⟩)
  rotate_left
  all_goals
    refine fnQ_of_vc txok mixed [(1, .take 0 (.pure 1 (.take 2 (.pure 3 (.take 4 (.two 5 6 (.run 6 (.fin 7 .done)) (.fin 5 (.fin 7 .done)))))))), (3, .pure 0 (.take 1 (.pure 2 (.take 3 (.pure 4 (.take 5 (.take 6 (.fin 7 (.fin 8 .done)))))))))] Tryz.func131 rfl rfl (by simp) fun bb => ?_
    repeat' ((conv => whnf); first
      | refine And.intro (by kernel_rfl) ?_
      | refine And.intro ?_ ?_
      | refine IdxC.encMs (l := [u]) 0 (by simp) rfl ?_
      | (refine callQ rfl rfl gf46 hK0 ?_; rintro o rfl)
      | (refine callQ rfl rfl gf167 hA2 ?_; rintro o rfl)
      | (refine callQ rfl rfl gf167 (ask_fn true) ?_; rintro o rfl)
      | refine IdxC.encGs (l := [ut]) 0 (by simp) rfl ?_
      | (refine callQ rfl rfl gf29 hP5 ?_; rintro o rfl)
      | intro _)
    all_goals (try (conv => whnf))
    all_goals exact rfl
theorem kid_unfold (n i : Int) (nm : ByteArray) (ls : List ByteArray) (u : MG) (cu : Chk) (hcu : KidOk u cu) (hz : szM (.mk 19 n i nm ls [] [u]) ≤ 1073741824) : KidOk (.mk 19 n i nm ls [] [u]) (fun vars l => fitE ((unfoldR putR cu) vars l)) :=
  kid_of _ ((unfoldR putR cu)) 19 131 rfl rfl gf131 fun vars l hv hl hb => unfoldW_fn vars l n i nm ls u cu hcu hv hl hz hb
end Go.Proofs.YtcjkikadolnfgaaGreat


/- Rules: inst (printed by gzw.py). -/
set_option linter.unusedSimpArgs false
set_option linter.unusedVariables false
namespace Go.Proofs.YtcjkikadolnfgaaGreat
open Go.Vx Go.Vc Go.RowKit
set_option maxRecDepth 20000 in
set_option maxHeartbeats 2000000 in
theorem instW_fn (vars : List Int) (l : List Bd) (n i : Int) (nm : ByteArray) (ls : List ByteArray) (a : TG) (u : MG) (cu : Chk) (hcu : KidOk u cu) (hv : vars.length + szM (.mk 21 n i nm ls [a] [u]) ≤ 549755813888) (hl : l.length + 2 * szM (.mk 21 n i nm ls [a] [u]) ≤ 549755813888) (hz : szM (.mk 21 n i nm ls [a] [u]) ≤ 1073741824) (hb : Bnd l) : FnQ Tryz.prog G0 133 [dSc vars l, dM (.mk 21 n i nm ls [a] [u])] (fun o => o = resO ((instR putR a cu) vars l)) ∧ ∀ t, (instR putR a cu) vars l = .ok t → allG t = true ∧ szG t ≤ 2147483648 := by
  simp only [szM, szMs, szGs] at hv hl hz
  unfold instR
  try simp only []
  have hH0 := here_fn vars l a (by omega)
  unfold hereR at hH0
  refine boC (insG a vars) (fun hi0 => ?_) (fun hi0 => ?_)
  rw [hi0] at hH0
  (try simp only [bE, askE, kidG, g_k, g_n, g_kids, gz, gs, bs, hi0])
  first | refine And.intro ?_ nofun | refine And.intro ?_ (by simp) | skip
  rotate_left
  rw [hi0] at hH0
  have haa := ins_all hi0
  have hK2 := hcu (vars) (l) (by (try simp only [lA, lC, lN]); omega) (by (try simp only [lA, lC, lN]); omega) (hb)
  obtain ⟨hK2, hK2G⟩ := hK2
  refine exC (cu (vars) (l)) (fun e hr2 => ?_) (fun t hr2 => ?_)
  rw [hr2] at hK2
  (try simp only [bE, askE, kidG, g_k, g_n, g_kids, gz, gs, bs, hi0, hr2])
  first | refine And.intro ?_ nofun | refine And.intro ?_ (by simp) | skip
  rotate_left
  rw [hr2] at hK2
  obtain ⟨hat, hzt⟩ := hK2G t hr2
  obtain ⟨kt, nt, lst, lt⟩ := t
  have hA4 := ask_fn (kt == 10)
  refine byC (P := kt = 10) (fun hk4 => ?_) (fun hk4 => ?_)
  have hkb : (kt == 10) = false := by simpa using hk4
  rw [show askO (kt == 10) = .pan (badW 30) from by rw [hkb]; rfl] at hA4
  (try simp only [bE, askE, kidG, g_k, g_n, g_kids, gz, gs, bs, hi0, hr2, hkb])
  first | refine And.intro ?_ nofun | refine And.intro ?_ (by simp) | skip
  rotate_left
  subst hk4
  obtain ⟨rfl, ut, rfl⟩ := shp1 (by omega) ((allG_mk ..).1 hat).1
  have haut := ((allG_mk ..).1 hat).2 ut (by simp)
  have hzut : szG ut ≤ szG (TG.mk 10 nt [] [ut]) := by simp only [szG, szGs]; omega
  have hP7 := kput_fn ut nt a (allG_okV haut) (by omega) (by omega)
  refine exC (putR ut nt a) (fun e hw7 => ?_) (fun w hw7 => ?_)
  rw [hw7] at hP7
  (try simp only [bE, askE, kidG, g_k, g_n, g_kids, gz, gs, bs, hi0, hr2, hw7])
  first | refine And.intro ?_ nofun | refine And.intro ?_ (by simp) | skip
  rotate_left
  rw [hw7] at hP7
  obtain ⟨haw, hzw⟩ := putR_good haut haa hw7
  (try simp only [bE, askE, kidG, g_k, g_n, g_kids, gz, gs, bs, hi0, hr2, hw7])
  refine And.intro ?_ (fun t ht => by injection ht with ht; subst ht; exact ⟨haw, by omega⟩)
  rotate_left
  all_goals
    refine fnQ_of_vc txok mixed [(1, .take 0 (.pure 1 (.take 2 (.pure 3 (.take 4 (.two 5 6 (.run 6 (.fin 7 .done)) (.fin 5 (.fin 7 .done)))))))), (2, .take 0 (.pure 1 (.take 2 (.pure 3 (.take 4 (.two 5 6 (.run 6 (.fin 7 .done)) (.fin 5 (.fin 7 .done)))))))), (4, .pure 0 (.take 1 (.pure 2 (.take 3 (.pure 4 (.take 5 (.take 6 (.fin 7 (.fin 8 .done)))))))))] Tryz.func133 rfl rfl (by simp) fun bb => ?_
    repeat' ((conv => whnf); first
      | refine And.intro (by kernel_rfl) ?_
      | refine And.intro ?_ ?_
      | refine IdxC.encGs (l := [a]) 0 (by simp) rfl ?_
      | refine IdxC.encMs (l := [u]) 0 (by simp) rfl ?_
      | (refine callQ rfl rfl gf168 hH0 ?_; rintro o rfl)
      | (refine callQ rfl rfl gf46 hK2 ?_; rintro o rfl)
      | (refine callQ rfl rfl gf167 hA4 ?_; rintro o rfl)
      | (refine callQ rfl rfl gf167 (ask_fn true) ?_; rintro o rfl)
      | refine IdxC.encGs (l := [ut]) 0 (by simp) rfl ?_
      | (refine callQ rfl rfl gf29 hP7 ?_; rintro o rfl)
      | intro _)
    all_goals (try (conv => whnf))
    all_goals exact rfl
theorem kid_inst (n i : Int) (nm : ByteArray) (ls : List ByteArray) (a : TG) (u : MG) (cu : Chk) (hcu : KidOk u cu) (hz : szM (.mk 21 n i nm ls [a] [u]) ≤ 1073741824) : KidOk (.mk 21 n i nm ls [a] [u]) (fun vars l => fitE ((instR putR a cu) vars l)) :=
  kid_of _ ((instR putR a cu)) 21 133 rfl rfl gf133 fun vars l hv hl hb => instW_fn vars l n i nm ls a u cu hcu hv hl hz hb
end Go.Proofs.YtcjkikadolnfgaaGreat


/- Rules: pack (printed by gzw.py). -/
set_option linter.unusedSimpArgs false
set_option linter.unusedVariables false
namespace Go.Proofs.YtcjkikadolnfgaaGreat
open Go.Vx Go.Vc Go.RowKit
set_option maxRecDepth 20000 in
set_option maxHeartbeats 2000000 in
theorem packW_fn (vars : List Int) (l : List Bd) (n i : Int) (nm : ByteArray) (ls : List ByteArray) (a : TG) (b : TG) (u : MG) (cu : Chk) (hcu : KidOk u cu) (hv : vars.length + szM (.mk 22 n i nm ls [a, b] [u]) ≤ 549755813888) (hl : l.length + 2 * szM (.mk 22 n i nm ls [a, b] [u]) ≤ 549755813888) (hz : szM (.mk 22 n i nm ls [a, b] [u]) ≤ 1073741824) (hb : Bnd l) : FnQ Tryz.prog G0 134 [dSc vars l, dM (.mk 22 n i nm ls [a, b] [u])] (fun o => o = resO ((packR putR a b cu) vars l)) ∧ ∀ t, (packR putR a b cu) vars l = .ok t → allG t = true ∧ szG t ≤ 2147483648 := by
  simp only [szM, szMs, szGs] at hv hl hz
  unfold packR
  try simp only []
  have hH0 := here_fn vars l a (by omega)
  unfold hereR at hH0
  refine boC (insG a vars) (fun hi0 => ?_) (fun hi0 => ?_)
  rw [hi0] at hH0
  (try simp only [bE, askE, kidG, g_k, g_n, g_kids, gz, gs, bs, hi0])
  first | refine And.intro ?_ nofun | refine And.intro ?_ (by simp) | skip
  rotate_left
  rw [hi0] at hH0
  have haa := ins_all hi0
  have hH2 := here_fn vars l b (by omega)
  unfold hereR at hH2
  refine boC (insG b vars) (fun hi2 => ?_) (fun hi2 => ?_)
  rw [hi2] at hH2
  (try simp only [bE, askE, kidG, g_k, g_n, g_kids, gz, gs, bs, hi0, hi2])
  first | refine And.intro ?_ nofun | refine And.intro ?_ (by simp) | skip
  rotate_left
  rw [hi2] at hH2
  have hab := ins_all hi2
  have hK4 := hcu (vars) (l) (by (try simp only [lA, lC, lN]); omega) (by (try simp only [lA, lC, lN]); omega) (hb)
  obtain ⟨hK4, hK4G⟩ := hK4
  refine exC (cu (vars) (l)) (fun e hr4 => ?_) (fun t hr4 => ?_)
  rw [hr4] at hK4
  (try simp only [bE, askE, kidG, g_k, g_n, g_kids, gz, gs, bs, hi0, hi2, hr4])
  first | refine And.intro ?_ nofun | refine And.intro ?_ (by simp) | skip
  rotate_left
  rw [hr4] at hK4
  obtain ⟨hat, hzt⟩ := hK4G t hr4
  obtain ⟨kb, nb, lsb, lb⟩ := b
  have hA6 := ask_fn (kb == 11)
  refine byC (P := kb = 11) (fun hk6 => ?_) (fun hk6 => ?_)
  have hkb : (kb == 11) = false := by simpa using hk6
  rw [show askO (kb == 11) = .pan (badW 30) from by rw [hkb]; rfl] at hA6
  (try simp only [bE, askE, kidG, g_k, g_n, g_kids, gz, gs, bs, hi0, hi2, hr4, hkb])
  first | refine And.intro ?_ nofun | refine And.intro ?_ (by simp) | skip
  rotate_left
  subst hk6
  obtain ⟨rfl, ub, rfl⟩ := shp1 (by omega) ((allG_mk ..).1 hab).1
  have haub := ((allG_mk ..).1 hab).2 ub (by simp)
  have hzub : szG ub ≤ szG (TG.mk 11 nb [] [ub]) := by simp only [szG, szGs]; omega
  have hP9 := kput_fn ub nb a (allG_okV haub) (by omega) (by omega)
  refine exC (putR ub nb a) (fun e hw9 => ?_) (fun w hw9 => ?_)
  rw [hw9] at hP9
  (try simp only [bE, askE, kidG, g_k, g_n, g_kids, gz, gs, bs, hi0, hi2, hr4, hw9])
  first | refine And.intro ?_ nofun | refine And.intro ?_ (by simp) | skip
  rotate_left
  rw [hw9] at hP9
  obtain ⟨haw, hzw⟩ := putR_good haub haa hw9
  have hS11 := same_fn t w (by omega)
  refine boC (samG t w [] []) (fun hs11 => ?_) (fun hs11 => ?_)
  rw [hs11] at hS11
  (try simp only [bE, askE, kidG, g_k, g_n, g_kids, gz, gs, bs, hi0, hi2, hr4, hw9, hs11])
  first | refine And.intro ?_ nofun | refine And.intro ?_ (by simp) | skip
  rotate_left
  rw [hs11] at hS11
  (try simp only [bE, askE, kidG, g_k, g_n, g_kids, gz, gs, bs, hi0, hi2, hr4, hw9, hs11])
  refine And.intro ?_ (fun t ht => by injection ht with ht; subst ht; exact ⟨hab, by omega⟩)
  rotate_left
  all_goals
    refine fnQ_of_vc txok mixed [(1, .take 0 (.pure 1 (.take 2 (.pure 3 (.take 4 (.take 6 (.pure 7 (.take 8 (.pure 9 (.take 10 (.three 5 12 13 (.three 11 12 13 (.two 12 13 (.run 13 (.fin 14 (.fin 15 .done))) (.run 12 (.fin 14 (.fin 15 .done)))) (.two 11 13 (.run 13 (.fin 14 (.fin 15 .done))) (.fin 11 (.fin 14 (.fin 15 .done)))) (.two 11 12 (.run 12 (.fin 14 (.fin 15 .done))) (.fin 11 (.fin 14 (.fin 15 .done))))) (.two 5 13 (.two 11 13 (.run 13 (.fin 14 (.fin 15 .done))) (.fin 11 (.fin 14 (.fin 15 .done)))) (.run 5 (.fin 11 (.fin 14 (.fin 15 .done))))) (.two 5 12 (.two 11 12 (.run 12 (.fin 14 (.fin 15 .done))) (.fin 11 (.fin 14 (.fin 15 .done)))) (.run 5 (.fin 11 (.fin 14 (.fin 15 .done)))))))))))))))), (2, .take 0 (.pure 1 (.take 2 (.pure 3 (.take 4 (.two 5 6 (.run 6 (.fin 7 .done)) (.fin 5 (.fin 7 .done)))))))), (4, .take 0 (.pure 1 (.take 2 (.pure 3 (.take 4 (.pure 5 (.take 6 (.take 7 (.run 8 (.fin 9 .done))))))))))] Tryz.func134 rfl rfl (by simp) fun bb => ?_
    repeat' ((conv => whnf); first
      | refine And.intro (by kernel_rfl) ?_
      | refine And.intro ?_ ?_
      | refine IdxC.encGs (l := [a, b]) 0 (by simp) rfl ?_
      | refine IdxC.encGs (l := [a, b]) 1 (by simp) rfl ?_
      | refine IdxC.encMs (l := [u]) 0 (by simp) rfl ?_
      | (refine callQ rfl rfl gf168 hH0 ?_; rintro o rfl)
      | (refine callQ rfl rfl gf168 hH2 ?_; rintro o rfl)
      | (refine callQ rfl rfl gf46 hK4 ?_; rintro o rfl)
      | refine IdxC.encGs (l := [a, (.mk kb nb lsb lb)]) 0 (by simp) rfl ?_
      | refine IdxC.encGs (l := [a, (.mk kb nb lsb lb)]) 1 (by simp) rfl ?_
      | (refine callQ rfl rfl gf167 hA6 ?_; rintro o rfl)
      | refine IdxC.encGs (l := [a, (.mk 11 nb [] [ub])]) 0 (by simp) rfl ?_
      | refine IdxC.encGs (l := [a, (.mk 11 nb [] [ub])]) 1 (by simp) rfl ?_
      | (refine callQ rfl rfl gf167 (ask_fn true) ?_; rintro o rfl)
      | refine IdxC.encGs (l := [ub]) 0 (by simp) rfl ?_
      | (refine callQ rfl rfl gf29 hP9 ?_; rintro o rfl)
      | (refine callQ rfl rfl gf170 hS11 ?_; rintro o rfl)
      | intro _)
    all_goals (try (conv => whnf))
    all_goals exact rfl
theorem kid_pack (n i : Int) (nm : ByteArray) (ls : List ByteArray) (a : TG) (b : TG) (u : MG) (cu : Chk) (hcu : KidOk u cu) (hz : szM (.mk 22 n i nm ls [a, b] [u]) ≤ 1073741824) : KidOk (.mk 22 n i nm ls [a, b] [u]) (fun vars l => fitE ((packR putR a b cu) vars l)) :=
  kid_of _ ((packR putR a b cu)) 22 134 rfl rfl gf134 fun vars l hv hl hb => packW_fn vars l n i nm ls a b u cu hcu hv hl hz hb
end Go.Proofs.YtcjkikadolnfgaaGreat


/- Rules: fail (printed by gzw.py). -/
set_option linter.unusedSimpArgs false
set_option linter.unusedVariables false
namespace Go.Proofs.YtcjkikadolnfgaaGreat
open Go.Vx Go.Vc Go.RowKit
set_option maxRecDepth 20000 in
set_option maxHeartbeats 2000000 in
theorem failW_fn (vars : List Int) (l : List Bd) (n i : Int) (nm : ByteArray) (ls : List ByteArray) (a : TG) (hv : vars.length + szM (.mk 24 n i nm ls [a] []) ≤ 549755813888) (hl : l.length + 2 * szM (.mk 24 n i nm ls [a] []) ≤ 549755813888) (hz : szM (.mk 24 n i nm ls [a] []) ≤ 1073741824) (hb : Bnd l) : FnQ Tryz.prog G0 136 [dSc vars l, dM (.mk 24 n i nm ls [a] [])] (fun o => o = resO ((failR a) vars l)) ∧ ∀ t, (failR a) vars l = .ok t → allG t = true ∧ szG t ≤ 2147483648 := by
  simp only [szM, szMs, szGs] at hv hl hz
  unfold failR
  try simp only []
  have hH0 := here_fn vars l a (by omega)
  unfold hereR at hH0
  refine boC (insG a vars) (fun hi0 => ?_) (fun hi0 => ?_)
  rw [hi0] at hH0
  (try simp only [bE, askE, kidG, g_k, g_n, g_kids, gz, gs, bs, hi0])
  first | refine And.intro ?_ nofun | refine And.intro ?_ (by simp) | skip
  rotate_left
  rw [hi0] at hH0
  have haa := ins_all hi0
  (try simp only [bE, askE, kidG, g_k, g_n, g_kids, gz, gs, bs, hi0])
  refine And.intro ?_ (fun t ht => by injection ht with ht; subst ht; exact ⟨haa, by omega⟩)
  rotate_left
  all_goals
    refine fnQ_of_vc txok mixed [(1, .take 0 (.pure 1 (.take 2 (.pure 3 (.take 4 (.fin 5 (.fin 6 .done)))))))] Tryz.func136 rfl rfl (by simp) fun bb => ?_
    repeat' ((conv => whnf); first
      | refine And.intro (by kernel_rfl) ?_
      | refine And.intro ?_ ?_
      | refine IdxC.encGs (l := [a]) 0 (by simp) rfl ?_
      | (refine callQ rfl rfl gf168 hH0 ?_; rintro o rfl)
      | intro _)
    all_goals (try (conv => whnf))
    all_goals exact rfl
theorem kid_fail (n i : Int) (nm : ByteArray) (ls : List ByteArray) (a : TG) (hz : szM (.mk 24 n i nm ls [a] []) ≤ 1073741824) : KidOk (.mk 24 n i nm ls [a] []) (fun vars l => fitE ((failR a) vars l)) :=
  kid_of _ ((failR a)) 24 136 rfl rfl gf136 fun vars l hv hl hb => failW_fn vars l n i nm ls a hv hl hz hb
end Go.Proofs.YtcjkikadolnfgaaGreat


/- Rules: tick (printed by gzw.py). -/
set_option linter.unusedSimpArgs false
set_option linter.unusedVariables false
namespace Go.Proofs.YtcjkikadolnfgaaGreat
open Go.Vx Go.Vc Go.RowKit
def tickR (c : Chk) : Chk := c
set_option maxRecDepth 20000 in
set_option maxHeartbeats 2000000 in
theorem tickW_fn (vars : List Int) (l : List Bd) (n i : Int) (nm : ByteArray) (ls : List ByteArray) (u : MG) (cu : Chk) (hcu : KidOk u cu) (hv : vars.length + szM (.mk 25 n i nm ls [] [u]) ≤ 549755813888) (hl : l.length + 2 * szM (.mk 25 n i nm ls [] [u]) ≤ 549755813888) (hz : szM (.mk 25 n i nm ls [] [u]) ≤ 1073741824) (hb : Bnd l) : FnQ Tryz.prog G0 137 [dSc vars l, dM (.mk 25 n i nm ls [] [u])] (fun o => o = resO ((tickR cu) vars l)) ∧ ∀ t, (tickR cu) vars l = .ok t → allG t = true ∧ szG t ≤ 2147483648 := by
  simp only [szM, szMs, szGs] at hv hl hz
  unfold tickR
  try simp only []
  have hK0 := hcu (vars) (l) (by (try simp only [lA, lC, lN]); omega) (by (try simp only [lA, lC, lN]); omega) (hb)
  obtain ⟨hK0, hK0G⟩ := hK0
  refine exC (cu (vars) (l)) (fun e hr0 => ?_) (fun t hr0 => ?_)
  rw [hr0] at hK0
  (try simp only [bE, askE, kidG, g_k, g_n, g_kids, gz, gs, bs, hr0])
  first | refine And.intro ?_ nofun | refine And.intro ?_ (by simp) | skip
  rotate_left
  rw [hr0] at hK0
  obtain ⟨hat, hzt⟩ := hK0G t hr0
  (try simp only [bE, askE, kidG, g_k, g_n, g_kids, gz, gs, bs, hr0])
  refine And.intro ?_ (fun t ht => by injection ht with ht; subst ht; exact ⟨hat, by omega⟩)
  rotate_left
  all_goals
    refine fnQ_of_vc txok mixed [(1, .take 0 (.pure 1 (.take 2 (.pure 3 (.take 4 (.fin 5 (.fin 6 .done)))))))] Tryz.func137 rfl rfl (by simp) fun bb => ?_
    repeat' ((conv => whnf); first
      | refine And.intro (by kernel_rfl) ?_
      | refine And.intro ?_ ?_
      | refine IdxC.encMs (l := [u]) 0 (by simp) rfl ?_
      | (refine callQ rfl rfl gf46 hK0 ?_; rintro o rfl)
      | intro _)
    all_goals (try (conv => whnf))
    all_goals exact rfl
theorem kid_tick (n i : Int) (nm : ByteArray) (ls : List ByteArray) (u : MG) (cu : Chk) (hcu : KidOk u cu) (hz : szM (.mk 25 n i nm ls [] [u]) ≤ 1073741824) : KidOk (.mk 25 n i nm ls [] [u]) (fun vars l => fitE ((tickR cu) vars l)) :=
  kid_of _ ((tickR cu)) 25 137 rfl rfl gf137 fun vars l hv hl hb => tickW_fn vars l n i nm ls u cu hcu hv hl hz hb
end Go.Proofs.YtcjkikadolnfgaaGreat


