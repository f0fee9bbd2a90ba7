/- Texts of mine, joined: Dp Dq Dr Ds Aw Dt Du Dx. -/
import Derived.Test.YtcjkikadolnfgaaGreatPav
import Derived.Test.YtcjkikadolnfgaaGreatPau
import Derived.Test.YtcjkikadolnfgaaGreatPaj
/- The reference's rules: opened (printed by gxw.py). -/
set_option linter.unusedSimpArgs false
set_option linter.unusedVariables false
namespace Go.Proofs.YtcjkikadolnfgaaGreat
open Go.Vx Go.Vc Go.RowKit
set_option maxRecDepth 20000 in
set_option maxHeartbeats 2000000 in
theorem x_opened (vars : List Int) (l : List Bd) (n i : Int) (nm : ByteArray) (ls : List ByteArray) (u : MG) (v : MG) (cu : Chk) (hcu : RKid u cu) (cv : Chk) (hcv : RKid v cv) (hv : vars.length + szM (.mk 23 n i nm ls [] [u, v]) ≤ 549755813888) (hl : l.length + 2 * szM (.mk 23 n i nm ls [] [u, v]) ≤ 549755813888) (hz : szM (.mk 23 n i nm ls [] [u, v]) ≤ 1073741824) (hb : Bnd l) : FnQ Tryz.prog G0 95 [dSc vars l, dM (.mk 23 n i nm ls [] [u, v])] (OutX ((openR rputR n nm cu cv) vars l)) := by
  simp only [szM, szMs, szGs] at hv hl hz
  have he10 : True := trivial
  have he : True := trivial
  have he3 : True := trivial
  obtain ⟨hK1, hK1G, hK1E⟩ := hcu vars l (by (try simp only [lA, lC, lN]); omega) (by (try simp only [lA, lC, lN]); omega) hb
  have hK1 := ofK_fn vars l u 11 _ hK1 hK1E
  refine exC (cu vars l) (fun e hr2 => ?_) (fun w hr2 => ?_)
  rw [hr2] at hK1
  have he3 := hK1E e hr2
  rw [show bE (.error e) (fun t => askE (t.k == 11) (.ok t)) = .error e from rfl] at hK1
  rw [show (openR rputR n nm cu cv) vars l = .error e from by unfold openR; (try simp only [bE, askE, kidG, g_k, g_n, g_kids, gz, gs, bs, hr2]); first | done | rfl]
  rotate_left
  rw [hr2] at hK1
  obtain ⟨haw, hzw⟩ := hK1G w hr2
  obtain ⟨kw, nw, lsw, lw⟩ := w
  refine byC (P := kw = 11) (fun hk4 => ?_) (fun hk4 => ?_)
  have hkb : (kw == 11) = false := by simpa using hk4
  rw [show bE (.ok (TG.mk kw nw lsw lw)) (fun t => askE (t.k == 11) (.ok t)) = .error 30 from by simp only [bE, g_k, hkb]; rfl] at hK1
  rw [show (openR rputR n nm cu cv) vars l = .error 30 from by unfold openR; (try simp only [bE, askE, kidG, g_k, g_n, g_kids, gz, gs, bs, hr2, hkb]); first | done | rfl]
  rotate_left
  subst hk4
  rw [show bE (.ok (TG.mk 11 nw lsw lw)) (fun t => askE (t.k == 11) (.ok t)) = .ok (TG.mk 11 nw lsw lw) from rfl] at hK1
  obtain ⟨rfl, uw, rfl⟩ := shp1 (by omega) ((allG_mk ..).1 haw).1
  have hauw := ((allG_mk ..).1 haw).2 uw (by simp)
  have hzuw : szG uw ≤ szG (TG.mk 11 nw [] [uw]) := by simp only [szG, szGs]; omega
  have hI := rin_fn vars n
  refine byC (P := n ∉ vars) (fun hm => ?_) (fun hm => ?_)
  have hm : n ∈ vars := Classical.byContradiction hm
  rw [decide_eq_true hm] at hI
  rw [show (openR rputR n nm cu cv) vars l = .error 30 from by unfold openR; (try simp only [bE, askE, kidG, g_k, g_n, g_kids, gz, gs, bs, hr2, if_pos hm]); first | done | rfl]
  rotate_left
  rw [decide_eq_false hm] at hI
  have hP5 := rputt_fn uw nw (varG n) (by (try simp only [varG, szG, szGs] at *); omega) (by (try simp only [varG, szG, szGs] at *); omega)
  refine exC (rputR uw nw (varG n)) (fun e hw6 => ?_) (fun z hw6 => ?_)
  rw [hw6] at hP5
  have he : e ≠ 0 := rputR_err hw6
  rw [show (openR rputR n nm cu cv) vars l = .error e from by unfold openR; (try simp only [bE, askE, kidG, g_k, g_n, g_kids, gz, gs, bs, hr2, if_neg hm, hw6]); first | done | rfl]
  rotate_left
  rw [hw6] at hP5
  obtain ⟨haz, hzz⟩ := rputR_good hauw (allG_var n) hw6
  obtain ⟨kz, nz, lsz, lz⟩ := z
  have hU := under_fn vars l n (by omega)
  have hW7 := rwithN_fn (vars ++ [n]) (l) nm (.mk kz nz lsz lz) (by (try simp only [lA, lC, lN]); omega)
  obtain ⟨hK8, hK8G, hK8E⟩ := hcv (vars ++ [n]) (l ++ [(nm, (.mk kz nz lsz lz))]) (by (try simp only [lA, lC, lN]); omega) (by (try simp only [lA, lC, lN]); omega) (hb.snoc haz (by omega))
  refine exC (cv (vars ++ [n]) (l ++ [(nm, (.mk kz nz lsz lz))])) (fun e hr9 => ?_) (fun y hr9 => ?_)
  rw [hr9] at hK8
  have he10 := hK8E e hr9
  rw [show (openR rputR n nm cu cv) vars l = .error e from by unfold openR; (try simp only [bE, askE, kidG, g_k, g_n, g_kids, gz, gs, bs, hr2, if_neg hm, hw6, hr9]); first | done | rfl]
  rotate_left
  rw [hr9] at hK8
  obtain ⟨hay, hzy⟩ := hK8G y hr9
  have hFr := rfreeTypes_fn y (by omega)
  have hJ := rin_fn (freeS y) n
  obtain ⟨ky, ny, lsy, ly⟩ := y
  refine byC (P := n ∉ freeS (.mk ky ny lsy ly)) (fun hf => ?_) (fun hf => ?_)
  have hf : n ∈ freeS (.mk ky ny lsy ly) := Classical.byContradiction hf
  rw [decide_eq_true hf] at hJ
  have hfb := decide_eq_true hf
  rw [show (openR rputR n nm cu cv) vars l = .error 30 from by unfold openR; (try simp only [bE, askE, kidG, g_k, g_n, g_kids, gz, gs, bs, hr2, if_neg hm, hw6, hr9, hfb, Bool.not_true]); first | done | rfl]
  rotate_left
  rw [decide_eq_false hf] at hJ
  have hfb := decide_eq_false hf
  rw [show (openR rputR n nm cu cv) vars l = .ok (.mk ky ny lsy ly) from by unfold openR; (try simp only [bE, askE, kidG, g_k, g_n, g_kids, gz, gs, bs, hr2, if_neg hm, hw6, hr9, hfb, Bool.not_false]); first | done | rfl]
  all_goals
    refine fnQ_of_vc txok mixed [(5, .take 0 (.pure 1 (.take 2 (.pure 4 (.take 5 (.pure 6 (.take 7 (.two 3 12 (.two 8 12 (.pure 9 (.pure 10 (.pure 11 (.run 12 (.fin 13 (.pure 14 .done)))))) (.fin 8 (.pure 9 (.pure 10 (.pure 11 (.fin 13 (.pure 14 .done))))))) (.run 3 (.fin 8 (.pure 9 (.pure 10 (.pure 11 (.fin 13 (.pure 14 .done))))))))))))))), (8, .take 0 (.pure 1 (.take 2 (.pure 3 (.take 4 (.two 5 9 (.pure 6 (.pure 7 (.pure 8 (.run 9 (.fin 10 (.pure 11 .done)))))) (.fin 5 (.pure 6 (.pure 7 (.pure 8 (.fin 10 (.pure 11 .done)))))))))))), (11, .pure 0 (.take 1 (.pure 2 (.take 3 (.pure 4 (.take 5 (.pure 6 (.take 7 (.pure 8 (.take 9 (.fin 10 (.pure 11 (.pure 12 (.fin 13 (.pure 14 .done))))))))))))))), (14, .take 0 (.pure 1 (.take 2 (.pure 3 (.take 4 (.two 5 9 (.pure 6 (.pure 7 (.pure 8 (.run 9 (.fin 10 (.pure 11 .done)))))) (.fin 5 (.pure 6 (.pure 7 (.pure 8 (.fin 10 (.pure 11 .done)))))))))))), (19, .pure 0 (.take 1 (.pure 2 (.take 3 (.pure 4 (.take 5 (.pure 6 (.take 7 (.pure 8 (.take 9 (.two 10 14 (.pure 11 (.pure 12 (.pure 13 (.run 14 (.fin 15 (.pure 16 .done)))))) (.fin 10 (.pure 11 (.pure 12 (.pure 13 (.fin 15 (.pure 16 .done))))))))))))))))), (23, .take 0 (.pure 1 (.take 2 (.pure 3 (.take 4 (.two 5 9 (.pure 6 (.pure 7 (.pure 8 (.run 9 (.fin 10 (.pure 11 .done)))))) (.fin 5 (.pure 6 (.pure 7 (.pure 8 (.fin 10 (.pure 11 .done)))))))))))), (28, .pure 0 (.take 1 (.pure 2 (.take 3 (.pure 4 (.take 5 (.pure 6 (.take 7 (.pure 8 (.two 9 13 (.pure 10 (.pure 11 (.pure 12 (.run 13 (.fin 14 (.pure 15 .done)))))) (.fin 9 (.pure 10 (.pure 11 (.pure 12 (.fin 14 (.pure 15 .done)))))))))))))))), (31, .take 0 (.pure 1 (.take 2 (.pure 4 (.take 5 (.take 6 (.pure 8 (.take 9 (.pure 10 (.take 11 (.two 3 16 (.two 7 16 (.two 12 16 (.pure 13 (.pure 14 (.pure 15 (.run 16 (.fin 17 (.pure 18 .done)))))) (.fin 12 (.pure 13 (.pure 14 (.pure 15 (.fin 17 (.pure 18 .done))))))) (.run 7 (.fin 12 (.pure 13 (.pure 14 (.pure 15 (.fin 17 (.pure 18 .done)))))))) (.run 3 (.run 7 (.fin 12 (.pure 13 (.pure 14 (.pure 15 (.fin 17 (.pure 18 .done))))))))))))))))))), (32, .pure 0 (.pure 1 (.pure 2 (.take 3 (.pure 5 (.take 6 (.run 4 (.fin 7 (.pure 8 .done)))))))))] Tryz.func95 rfl rfl (by simp) fun bb => ?_
    repeat' ((conv => whnf); first
      | refine And.intro (by kernel_rfl) ?_
      | (refine And.intro (fun h => ?_) (fun h => ?_); rotate_left; focus (exfalso; revert h; simp [MG.k, MG.n, g_k, g_n, g_kids, he3, he, he10]; done))
      | (refine And.intro (fun h => ?_) (fun h => ?_); focus (exfalso; revert h; simp [MG.k, MG.n, g_k, g_n, g_kids, he3, he, he10]; done))
      | refine And.intro ?_ ?_
      | refine IdxC.encMs (l := [u, v]) 0 (by simp) rfl ?_
      | refine IdxC.encMs (l := [u, v]) 1 (by simp) rfl ?_
      | (refine callQ rfl rfl gf144 hK1 ?_; rintro o rfl)
      | refine callF (none_fn e) gf49 rfl rfl ?_
      | refine callF (none_fn 30) gf49 rfl rfl ?_
      | refine IdxC.encGs (l := [uw]) 0 (by simp) rfl ?_
      | refine callF hI gf37 rfl rfl ?_
      | refine callF hP5 gf31 rfl rfl ?_
      | refine callF hU gf145 rfl rfl ?_
      | refine callF hW7 gf140 rfl rfl ?_
      | refine callF hK8 gf50 rfl rfl ?_
      | refine callF hFr gf36 rfl rfl ?_
      | refine callF hJ gf37 rfl rfl ?_
      )
    all_goals (try (conv => whnf))
    all_goals first | exact rfl | exact OutX.err zG rfl | exact OutX.err (.mk ky ny lsy ly) rfl
end Go.Proofs.YtcjkikadolnfgaaGreat


/- The reference's rules: plain1 plain2 plain3 fail tick (printed by gxw.py). -/
set_option linter.unusedSimpArgs false
set_option linter.unusedVariables false
namespace Go.Proofs.YtcjkikadolnfgaaGreat
open Go.Vx Go.Vc Go.RowKit
def Dqpq0 : List (Nat × Go.Vc.Pl) := [(11, .take 0 (.pure 1 (.take 2 (.pure 3 (.take 4 (.fin 5 (.pure 6 (.pure 7 (.fin 8 (.pure 9 .done)))))))))), (15, .pure 0 (.take 1 (.pure 2 (.pure 3 (.pure 4 (.take 5 (.pure 6 (.take 7 (.pure 8 .done)))))))))]
set_option maxRecDepth 20000 in
set_option maxHeartbeats 2000000 in
theorem x_plain1 (vars : List Int) (l : List Bd) (n i : Int) (nm : ByteArray) (ls : List ByteArray) (hv : vars.length + szM (.mk 1 n i nm ls [] []) ≤ 549755813888) (hl : l.length + 2 * szM (.mk 1 n i nm ls [] []) ≤ 549755813888) (hz : szM (.mk 1 n i nm ls [] []) ≤ 1073741824) (hb : Bnd l) : FnQ Tryz.prog G0 90 [dSc vars l, dM (.mk 1 n i nm ls [] [])] (OutX ((plainR 1) vars l)) := by
  simp only [szM, szMs, szGs] at hv hl hz
  rw [show (plainR 1) vars l = .ok (.mk 1 0 [] []) from by unfold plainR; (try simp only [bE, askE, kidG, g_k, g_n, g_kids, gz, gs, bs]); first | done | rfl]
  all_goals
    refine fnQ_of_vc txok mixed Dqpq0 Tryz.func90 rfl rfl (by simp) fun bb => ?_
    repeat' ((conv => whnf); first
      | refine And.intro (by kernel_rfl) ?_
      | (refine And.intro (fun h => ?_) (fun h => ?_); rotate_left; focus (exfalso; revert h; simp [MG.k, MG.n, g_k, g_n, g_kids]; done))
      | (refine And.intro (fun h => ?_) (fun h => ?_); focus (exfalso; revert h; simp [MG.k, MG.n, g_k, g_n, g_kids]; done))
      | refine And.intro ?_ ?_
      )
    all_goals (try (conv => whnf))
    all_goals first | exact rfl
set_option maxRecDepth 20000 in
set_option maxHeartbeats 2000000 in
theorem x_plain2 (vars : List Int) (l : List Bd) (n i : Int) (nm : ByteArray) (ls : List ByteArray) (hv : vars.length + szM (.mk 2 n i nm ls [] []) ≤ 549755813888) (hl : l.length + 2 * szM (.mk 2 n i nm ls [] []) ≤ 549755813888) (hz : szM (.mk 2 n i nm ls [] []) ≤ 1073741824) (hb : Bnd l) : FnQ Tryz.prog G0 90 [dSc vars l, dM (.mk 2 n i nm ls [] [])] (OutX ((plainR 2) vars l)) := by
  simp only [szM, szMs, szGs] at hv hl hz
  rw [show (plainR 2) vars l = .ok (.mk 2 0 [] []) from by unfold plainR; (try simp only [bE, askE, kidG, g_k, g_n, g_kids, gz, gs, bs]); first | done | rfl]
  all_goals
    refine fnQ_of_vc txok mixed Dqpq0 Tryz.func90 rfl rfl (by simp) fun bb => ?_
    repeat' ((conv => whnf); first
      | refine And.intro (by kernel_rfl) ?_
      | (refine And.intro (fun h => ?_) (fun h => ?_); rotate_left; focus (exfalso; revert h; simp [MG.k, MG.n, g_k, g_n, g_kids]; done))
      | (refine And.intro (fun h => ?_) (fun h => ?_); focus (exfalso; revert h; simp [MG.k, MG.n, g_k, g_n, g_kids]; done))
      | refine And.intro ?_ ?_
      )
    all_goals (try (conv => whnf))
    all_goals first | exact rfl
set_option maxRecDepth 20000 in
set_option maxHeartbeats 2000000 in
theorem x_plain3 (vars : List Int) (l : List Bd) (n i : Int) (nm : ByteArray) (ls : List ByteArray) (hv : vars.length + szM (.mk 3 n i nm ls [] []) ≤ 549755813888) (hl : l.length + 2 * szM (.mk 3 n i nm ls [] []) ≤ 549755813888) (hz : szM (.mk 3 n i nm ls [] []) ≤ 1073741824) (hb : Bnd l) : FnQ Tryz.prog G0 90 [dSc vars l, dM (.mk 3 n i nm ls [] [])] (OutX ((plainR 3) vars l)) := by
  simp only [szM, szMs, szGs] at hv hl hz
  rw [show (plainR 3) vars l = .ok (.mk 3 0 [] []) from by unfold plainR; (try simp only [bE, askE, kidG, g_k, g_n, g_kids, gz, gs, bs]); first | done | rfl]
  all_goals
    refine fnQ_of_vc txok mixed Dqpq0 Tryz.func90 rfl rfl (by simp) fun bb => ?_
    repeat' ((conv => whnf); first
      | refine And.intro (by kernel_rfl) ?_
      | (refine And.intro (fun h => ?_) (fun h => ?_); rotate_left; focus (exfalso; revert h; simp [MG.k, MG.n, g_k, g_n, g_kids]; done))
      | (refine And.intro (fun h => ?_) (fun h => ?_); focus (exfalso; revert h; simp [MG.k, MG.n, g_k, g_n, g_kids]; done))
      | refine And.intro ?_ ?_
      )
    all_goals (try (conv => whnf))
    all_goals first | exact rfl
set_option maxRecDepth 20000 in
set_option maxHeartbeats 2000000 in
theorem x_fail (vars : List Int) (l : List Bd) (n i : Int) (nm : ByteArray) (ls : List ByteArray) (a : TG) (haa : allG a = true) (hv : vars.length + szM (.mk 24 n i nm ls [a] []) ≤ 549755813888) (hl : l.length + 2 * szM (.mk 24 n i nm ls [a] []) ≤ 549755813888) (hz : szM (.mk 24 n i nm ls [a] []) ≤ 1073741824) (hb : Bnd l) : FnQ Tryz.prog G0 90 [dSc vars l, dM (.mk 24 n i nm ls [a] [])] (OutX ((failS a) vars l)) := by
  simp only [szM, szMs, szGs] at hv hl hz
  obtain ⟨ka, na, lsa, la⟩ := a
  rw [show (failS (.mk ka na lsa la)) vars l = .ok (.mk ka na lsa la) from by unfold failS; (try simp only [bE, askE, kidG, g_k, g_n, g_kids, gz, gs, bs]); first | done | rfl]
  all_goals
    refine fnQ_of_vc txok mixed Dqpq0 Tryz.func90 rfl rfl (by simp) fun bb => ?_
    repeat' ((conv => whnf); first
      | refine And.intro (by kernel_rfl) ?_
      | (refine And.intro (fun h => ?_) (fun h => ?_); rotate_left; focus (exfalso; revert h; simp [MG.k, MG.n, g_k, g_n, g_kids]; done))
      | (refine And.intro (fun h => ?_) (fun h => ?_); focus (exfalso; revert h; simp [MG.k, MG.n, g_k, g_n, g_kids]; done))
      | refine And.intro ?_ ?_
      | refine IdxC.encGs (l := [(.mk ka na lsa la)]) 0 (by simp) rfl ?_
      )
    all_goals (try (conv => whnf))
    all_goals first | exact rfl
set_option maxRecDepth 20000 in
set_option maxHeartbeats 2000000 in
theorem x_tick (vars : List Int) (l : List Bd) (n i : Int) (nm : ByteArray) (ls : List ByteArray) (u : MG) (cu : Chk) (hcu : RKid u cu) (hv : vars.length + szM (.mk 25 n i nm ls [] [u]) ≤ 549755813888) (hl : l.length + 2 * szM (.mk 25 n i nm ls [] [u]) ≤ 549755813888) (hz : szM (.mk 25 n i nm ls [] [u]) ≤ 1073741824) (hb : Bnd l) : FnQ Tryz.prog G0 90 [dSc vars l, dM (.mk 25 n i nm ls [] [u])] (OutX ((tickS cu) vars l)) := by
  simp only [szM, szMs, szGs] at hv hl hz
  have he3 : True := trivial
  obtain ⟨hK1, hK1G, hK1E⟩ := hcu (vars) (l) (by (try simp only [lA, lC, lN]); omega) (by (try simp only [lA, lC, lN]); omega) (hb)
  refine exC (cu (vars) (l)) (fun e hr2 => ?_) (fun t hr2 => ?_)
  rw [hr2] at hK1
  have he3 := hK1E e hr2
  rw [show (tickS cu) vars l = .error e from by unfold tickS; (try simp only [bE, askE, kidG, g_k, g_n, g_kids, gz, gs, bs, hr2]); first | done | rfl]
  rotate_left
  rw [hr2] at hK1
  obtain ⟨hat, hzt⟩ := hK1G t hr2
  rw [show (tickS cu) vars l = .ok t from by unfold tickS; (try simp only [bE, askE, kidG, g_k, g_n, g_kids, gz, gs, bs, hr2]); first | done | rfl]
  all_goals
    refine fnQ_of_vc txok mixed Dqpq0 Tryz.func90 rfl rfl (by simp) fun bb => ?_
    repeat' ((conv => whnf); first
      | refine And.intro (by kernel_rfl) ?_
      | (refine And.intro (fun h => ?_) (fun h => ?_); rotate_left; focus (exfalso; revert h; simp [MG.k, MG.n, g_k, g_n, g_kids, he3]; done))
      | (refine And.intro (fun h => ?_) (fun h => ?_); focus (exfalso; revert h; simp [MG.k, MG.n, g_k, g_n, g_kids, he3]; done))
      | refine And.intro ?_ ?_
      | refine IdxC.encMs (l := [u]) 0 (by simp) rfl ?_
      | refine callF hK1 gf50 rfl rfl ?_
      | refine callF (none_fn e) gf49 rfl rfl ?_
      )
    all_goals (try (conv => whnf))
    all_goals first | exact rfl | exact OutX.err zG rfl
end Go.Proofs.YtcjkikadolnfgaaGreat


/- The reference's rules: records, their parts, names. -/
set_option linter.unusedSimpArgs false
set_option linter.unusedVariables false
namespace Go.Proofs.YtcjkikadolnfgaaGreat
open Go.Vx Go.Vc Go.RowKit
def Drpq0 : List (Nat × Go.Vc.Pl) := [(6, .take 0 (.pure 1 (.take 2 (.pure 3 (.take 4 (.two 5 9 (.pure 6 (.pure 7 (.pure 8 (.run 9 (.fin 10 (.pure 11 .done)))))) (.fin 5 (.pure 6 (.pure 7 (.pure 8 (.fin 10 (.pure 11 .done)))))))))))), (12, .pure 0 (.take 1 (.pure 2 (.pure 3 (.take 4 (.pure 5 (.take 6 (.pure 7 .done)))))))), (17, .take 0 (.pure 1 (.take 2 (.pure 3 (.take 4 (.two 5 9 (.pure 6 (.pure 7 (.pure 8 (.run 9 (.fin 10 (.pure 11 .done)))))) (.fin 5 (.pure 6 (.pure 7 (.pure 8 (.fin 10 (.pure 11 .done)))))))))))), (20, .pure 0 (.take 1 (.pure 2 (.pure 3 (.pure 4 (.take 5 (.pure 6 (.take 7 (.pure 8 (.pure 9 (.pure 10 (.pure 11 (.pure 12 (.take 13 (.pure 14 (.take 15 (.pure 16 (.take 17 (.take 18 (.fin 19 (.pure 20 (.pure 21 .done)))))))))))))))))))))), (23, .take 0 (.pure 1 (.take 2 (.pure 3 (.take 4 (.two 5 9 (.pure 6 (.pure 7 (.pure 8 (.run 9 (.fin 10 (.pure 11 .done)))))) (.fin 5 (.pure 6 (.pure 7 (.pure 8 (.fin 10 (.pure 11 .done)))))))))))), (32, .take 0 (.pure 1 (.take 2 (.pure 3 (.pure 4 (.take 5 (.pure 6 (.take 7 (.pure 8 (.pure 9 (.take 10 (.pure 12 (.take 13 (.pure 14 (.pure 15 (.pure 16 (.take 17 (.two 11 22 (.two 18 22 (.pure 19 (.pure 20 (.pure 21 (.run 22 (.fin 23 (.pure 24 .done)))))) (.fin 18 (.pure 19 (.pure 20 (.pure 21 (.fin 23 (.pure 24 .done))))))) (.run 11 (.fin 18 (.pure 19 (.pure 20 (.pure 21 (.fin 23 (.pure 24 .done))))))))))))))))))))))))), (39, .pure 0 (.pure 1 (.take 2 (.pure 3 (.pure 4 (.pure 5 (.take 6 (.fin 7 (.pure 8 .done)))))))))]
set_option maxRecDepth 20000 in
theorem x_rec (vars : List Int) (l : List Bd) (n i : Int) (nm : ByteArray) (ls : List ByteArray) (ks : List MG) (cs : List Chk) (hcl : cs.length = ks.length) (hc : ∀ (j : Nat) (h : j < ks.length) (h' : j < cs.length), RKid ks[j] cs[j]) (hv : vars.length + szM (.mk 14 n i nm ls [] ks) ≤ 549755813888) (hl : l.length + 2 * szM (.mk 14 n i nm ls [] ks) ≤ 549755813888) (hz : szM (.mk 14 n i nm ls [] ks) ≤ 1073741824) (hb : Bnd l) : FnQ Tryz.prog G0 93 [dSc vars l, dM (.mk 14 n i nm ls [] ks)] (OutX (recR ls cs vars l)) := by
  simp only [szM, szGs] at hv hl hz
  have hA := rall_fn vars l ks cs hcl hc (by omega) (by omega) (by omega) hb
  cases hr : recK cs vars l with
  | error e =>
    rw [hr] at hA
    rw [show recR ls cs vars l = .error e from by unfold recR; rw [hr]]
    refine fnQ_of_vc txok mixed Drpq0 Tryz.func93 rfl rfl (by simp) fun bb => ?_
    repeat' ((conv => whnf); first
      | refine And.intro (by kernel_rfl) ?_
      | (refine And.intro (fun h => ?_) (fun h => ?_); rotate_left; focus (exfalso; revert h; simp [MG.k]; done))
      | (refine And.intro (fun h => ?_) (fun h => ?_); focus (exfalso; revert h; simp [MG.k]; done))
      | refine And.intro ?_ ?_
      | refine callF hA gf143 rfl rfl ?_)
    all_goals (try (conv => whnf))
    all_goals exact OutX.err (.mk 7 0 ls []) rfl
  | ok ts =>
    rw [hr] at hA
    rw [show recR ls cs vars l = .ok (.mk 7 0 ls ts) from by unfold recR; rw [hr]]
    refine fnQ_of_vc txok mixed Drpq0 Tryz.func93 rfl rfl (by simp) fun bb => ?_
    repeat' ((conv => whnf); first
      | refine And.intro (by kernel_rfl) ?_
      | (refine And.intro (fun h => ?_) (fun h => ?_); rotate_left; focus (exfalso; revert h; simp [MG.k]; done))
      | (refine And.intro (fun h => ?_) (fun h => ?_); focus (exfalso; revert h; simp [MG.k]; done))
      | refine And.intro ?_ ?_
      | refine callF hA gf143 rfl rfl ?_)
    all_goals (try (conv => whnf))
    all_goals exact rfl
def lookN (l : List Bd) (nm : ByteArray) : Nat → Except Int TG
  | 0 => .error 30
  | j + 1 => match l[j]? with
    | some b => if b.1 = nm then .ok b.2 else lookN l nm j
    | none => .error 30
theorem lookN_eq (l : List Bd) (nm : ByteArray) : lookN l nm l.length = lookR l nm := by
  unfold lookR
  have key : ∀ (k : Nat), k ≤ l.length → lookN l nm k = (match (l.take k).reverse.find? (fun b => decide (b.1 = nm)) with | some b => .ok b.2 | none => .error 30) := by
    intro k
    induction k with
    | zero => intro _; rfl
    | succ k ih =>
      intro hk
      have hk' : k < l.length := by omega
      rw [lookN, List.getElem?_eq_getElem hk', List.take_succ_eq_append_getElem hk', List.reverse_append]
      show (if l[k].1 = nm then Except.ok l[k].2 else lookN l nm k) = (match (l[k] :: (l.take k).reverse).find? (fun b => decide (b.1 = nm)) with | some b => .ok b.2 | none => .error 30)
      by_cases h : l[k].1 = nm
      · rw [if_pos h, List.find?_cons_of_pos (by simpa using h)]
      · rw [if_neg h, List.find?_cons_of_neg (by simpa using h)]; exact ih (by omega)
  rw [key l.length (Nat.le_refl _), List.take_length]
  rfl
abbrev nmHr (vars : List Int) (l : List Bd) (m : MG) : Hp := [(0, .blk 75 [.d (dI vars), .d (dBs l)]), (1, .blk 26 (mcS m)), (2, .blk 28 zS)]
set_option maxRecDepth 20000 in
theorem x_var (vars : List Int) (l : List Bd) (n i : Int) (nm : ByteArray) (ls : List ByteArray) (ts : List TG) (ks : List MG) (hl : l.length ≤ 549755813888) : FnQ Tryz.prog G0 90 [dSc vars l, dM (.mk 4 n i nm ls ts ks)] (OutX (lookR l nm)) := by
  rw [← lookN_eq]
  refine fnQ_of_vc txok mixed [(11, .take 0 (.pure 1 (.take 2 (.pure 3 (.take 4 (.fin 5 (.pure 6 (.pure 7 (.fin 8 (.pure 9 .done)))))))))), (15, .pure 0 (.take 1 (.pure 2 (.pure 3 (.pure 4 (.take 5 (.pure 6 (.take 7 (.pure 8 .done)))))))))] Tryz.func90 rfl rfl (by simp) fun bb => ?_
  repeat' ((conv => whnf); first
    | (refine And.intro (fun h => ?_) (fun h => ?_); rotate_left; focus (exfalso; revert h; simp [MG.k]; done))
    | (refine And.intro (fun h => ?_) (fun h => ?_); focus (exfalso; revert h; simp [MG.k]; done)))
  (conv => whnf)
  rw [show IntKind.i64.wrap ((l.length : Int) - 1) = (l.length : Int) - 1 from Go.Vc.wrap_small (by omega) (by omega)]
  refine loopH (fun j : Nat => j ≤ l.length ∧ lookN l nm l.length = lookN l nm j) (fun j => j) (fun j => [(6, .d (.int .i64 ((j : Int) - 1)))]) (fun _ => nmHr vars l (.mk 4 n i nm ls ts ks)) 3 l.length ⟨Nat.le_refl _, rfl⟩ (weak_of rfl (by repeat ((conv => whnf); first | exact trivial | refine And.intro rfl ?_ | refine And.intro (incD (by omega)) ?_)) (by repeat ((conv => whnf); first | exact trivial | refine And.intro rfl ?_ | refine And.intro (incD (by omega)) ?_))) ?_
  rintro j ⟨hj, hx⟩
  (conv => whnf)
  refine And.intro (fun hb' => ?_) (fun hb' => ?_)
  · have hj1 : 1 ≤ j := by have := of_decide_eq_true hb'; omega
    obtain ⟨k, rfl⟩ : ∃ k, j = k + 1 := ⟨j - 1, by omega⟩
    have hkl : k < l.length := by omega
    have e1 : ((k + 1 : Nat) : Int) - 1 = (k : Int) := by omega
    rw [lookN, List.getElem?_eq_getElem hkl] at hx
    have hx : lookN l nm l.length = if l[k].1 = nm then .ok l[k].2 else lookN l nm k := hx
    by_cases h : l[k].1 = nm
    · rw [if_pos h] at hx
      rw [hx]
      repeat' ((conv => whnf); first
        | refine IdxC.encBds (l := l) k hkl e1 ?_
        | refine And.intro (by kernel_rfl) ?_
        | (refine And.intro (fun h' => ?_) (fun h' => ?_); rotate_left; focus (exfalso; revert h'; rw [beqB']; simp [h, MG.nm]; done))
        | refine And.intro ?_ ?_)
      all_goals (try (conv => whnf))
      all_goals exact rfl
    · rw [if_neg h] at hx
      repeat' ((conv => whnf); first
        | refine IdxC.encBds (l := l) k hkl e1 ?_
        | refine And.intro (by kernel_rfl) ?_
        | (refine And.intro (fun h' => ?_) (fun h' => ?_); focus (exfalso; revert h'; rw [beqB']; simp [h, MG.nm]; done))
        | refine And.intro ?_ ?_)
      all_goals (try (conv => whnf))
      all_goals
        rw [show IntKind.i64.wrap (((k + 1 : Nat) : Int) - 1 - 1) = (k : Int) - 1 from by rw [e1]; exact Go.Vc.wrap_small (by omega) (by omega)]
        exact again k (by omega) ⟨by omega, hx⟩ (weak_of rfl (by repeat ((conv => whnf); first | exact trivial | refine And.intro rfl ?_ | refine And.intro (incD (by omega)) ?_)) (by repeat ((conv => whnf); first | exact trivial | refine And.intro rfl ?_ | refine And.intro (incD (by omega)) ?_)))
  · have hj0 : j = 0 := by have := of_decide_eq_false hb'; omega
    subst hj0
    rw [hx]
    repeat' ((conv => whnf); first
      | refine callF (none_fn 30) gf49 rfl rfl ?_)
    all_goals (try (conv => whnf))
    all_goals exact OutX.err zG rfl
end Go.Proofs.YtcjkikadolnfgaaGreat


/- The reference's rule of parts of records. -/
set_option linter.unusedSimpArgs false
set_option linter.unusedVariables false
namespace Go.Proofs.YtcjkikadolnfgaaGreat
open Go.Vx Go.Vc Go.RowKit
def Dspq0 : List (Nat × Go.Vc.Pl) := [(6, .take 0 (.pure 1 (.take 2 (.pure 3 (.take 4 (.two 5 9 (.pure 6 (.pure 7 (.pure 8 (.run 9 (.fin 10 (.pure 11 .done)))))) (.fin 5 (.pure 6 (.pure 7 (.pure 8 (.fin 10 (.pure 11 .done)))))))))))), (12, .pure 0 (.take 1 (.pure 2 (.pure 3 (.take 4 (.pure 5 (.take 6 (.pure 7 .done)))))))), (17, .take 0 (.pure 1 (.take 2 (.pure 3 (.take 4 (.two 5 9 (.pure 6 (.pure 7 (.pure 8 (.run 9 (.fin 10 (.pure 11 .done)))))) (.fin 5 (.pure 6 (.pure 7 (.pure 8 (.fin 10 (.pure 11 .done)))))))))))), (20, .pure 0 (.take 1 (.pure 2 (.pure 3 (.pure 4 (.take 5 (.pure 6 (.take 7 (.pure 8 (.pure 9 (.pure 10 (.pure 11 (.pure 12 (.take 13 (.pure 14 (.take 15 (.pure 16 (.take 17 (.take 18 (.fin 19 (.pure 20 (.pure 21 .done)))))))))))))))))))))), (23, .take 0 (.pure 1 (.take 2 (.pure 3 (.take 4 (.two 5 9 (.pure 6 (.pure 7 (.pure 8 (.run 9 (.fin 10 (.pure 11 .done)))))) (.fin 5 (.pure 6 (.pure 7 (.pure 8 (.fin 10 (.pure 11 .done)))))))))))), (32, .take 0 (.pure 1 (.take 2 (.pure 3 (.pure 4 (.take 5 (.pure 6 (.take 7 (.pure 8 (.pure 9 (.take 10 (.pure 12 (.take 13 (.pure 14 (.pure 15 (.pure 16 (.take 17 (.two 11 22 (.two 18 22 (.pure 19 (.pure 20 (.pure 21 (.run 22 (.fin 23 (.pure 24 .done)))))) (.fin 18 (.pure 19 (.pure 20 (.pure 21 (.fin 23 (.pure 24 .done))))))) (.run 11 (.fin 18 (.pure 19 (.pure 20 (.pure 21 (.fin 23 (.pure 24 .done))))))))))))))))))))))))), (39, .pure 0 (.pure 1 (.take 2 (.pure 3 (.pure 4 (.pure 5 (.take 6 (.fin 7 (.pure 8 .done)))))))))]
theorem szGs_len : ∀ l : List TG, l.length ≤ szGs l
  | [] => by simp [szGs]
  | t :: r => by
    have := szGs_len r
    have : 1 ≤ szG t := by cases t; simp only [szG]; omega
    simp only [szGs, List.length_cons]; omega
set_option maxRecDepth 20000 in
set_option maxHeartbeats 2000000 in
theorem x_sel (vars : List Int) (l : List Bd) (n i : Int) (nm : ByteArray) (ls : List ByteArray) (u : MG) (cu : Chk) (hcu : RKid u cu) (hv : vars.length + szM (.mk 15 n i nm ls [] [u]) ≤ 549755813888) (hl : l.length + 2 * szM (.mk 15 n i nm ls [] [u]) ≤ 549755813888) (hz : szM (.mk 15 n i nm ls [] [u]) ≤ 1073741824) (hb : Bnd l) : FnQ Tryz.prog G0 93 [dSc vars l, dM (.mk 15 n i nm ls [] [u])] (OutX ((selR nm cu) vars l)) := by
  simp only [szM, szMs, szGs] at hv hl hz
  obtain ⟨hK1, hK1G, hK1E⟩ := hcu vars l (by (try simp only [List.length_append, List.length_cons, List.length_nil]); omega) (by (try simp only [List.length_append, List.length_cons, List.length_nil]); omega) hb
  have hK1 := ofK_fn vars l u 7 _ hK1 hK1E
  cases hr2 : cu vars l with
  | error e =>
    rw [hr2] at hK1
    have he3 := hK1E e hr2
    rw [show bE (.error e) (fun t => askE (t.k == 7) (.ok t)) = .error e from rfl] at hK1
    rw [show (selR nm cu) vars l = .error e from by unfold selR; (try simp only [bE, askE, kidG, g_k, g_n, g_ls, g_kids, List.getD_cons_zero, List.getD_cons_succ, beq_self_eq_true, Bool.and_self, Bool.false_and, Bool.and_false, hr2]); first | done | rfl]
    refine fnQ_of_vc txok mixed Dspq0 Tryz.func93 rfl rfl (by simp) fun bb => ?_
    repeat' ((conv => whnf); first
      | refine And.intro (by kernel_rfl) ?_
      | (refine And.intro (fun h => ?_) (fun h => ?_); rotate_left; focus (exfalso; revert h; simp [MG.k, MG.n, g_k, g_n, g_kids, he3]; done))
      | (refine And.intro (fun h => ?_) (fun h => ?_); focus (exfalso; revert h; simp [MG.k, MG.n, g_k, g_n, g_kids, he3]; done))
      | refine And.intro ?_ ?_
      | refine IdxC.encMs (l := [u]) 0 (by simp) rfl ?_
      | (refine callQ rfl rfl gf144 hK1 ?_; rintro o rfl)
      | refine callF (none_fn e) gf49 rfl rfl ?_
      )
    all_goals (try (conv => whnf))
    all_goals first | exact OutX.err zG rfl
  | ok w =>
  rw [hr2] at hK1
  obtain ⟨haw, hzw⟩ := hK1G w hr2
  obtain ⟨kw, nw, lsw, lw⟩ := w
  by_cases hk4 : kw = 7
  rotate_left
  · have hkb : (kw == 7) = false := by simpa using hk4
    rw [show bE (.ok (TG.mk kw nw lsw lw)) (fun t => askE (t.k == 7) (.ok t)) = .error 30 from by simp only [bE, g_k, hkb]; rfl] at hK1
    rw [show (selR nm cu) vars l = .error 30 from by unfold selR; (try simp only [bE, askE, kidG, g_k, g_n, g_ls, g_kids, List.getD_cons_zero, List.getD_cons_succ, beq_self_eq_true, Bool.and_self, Bool.false_and, Bool.and_false, hr2, hkb]); first | done | rfl]
    refine fnQ_of_vc txok mixed Dspq0 Tryz.func93 rfl rfl (by simp) fun bb => ?_
    repeat' ((conv => whnf); first
      | refine And.intro (by kernel_rfl) ?_
      | (refine And.intro (fun h => ?_) (fun h => ?_); rotate_left; focus (exfalso; revert h; simp [MG.k, MG.n, g_k, g_n, g_kids]; done))
      | (refine And.intro (fun h => ?_) (fun h => ?_); focus (exfalso; revert h; simp [MG.k, MG.n, g_k, g_n, g_kids]; done))
      | refine And.intro ?_ ?_
      | refine IdxC.encMs (l := [u]) 0 (by simp) rfl ?_
      | (refine callQ rfl rfl gf144 hK1 ?_; rintro o rfl)
      | refine callF (none_fn 30) gf49 rfl rfl ?_
      )
    all_goals (try (conv => whnf))
    all_goals first | exact OutX.err zG rfl
  subst hk4
  rw [show bE (.ok (TG.mk 7 nw lsw lw)) (fun t => askE (t.k == 7) (.ok t)) = .ok (TG.mk 7 nw lsw lw) from rfl] at hK1
  have hshp := ((allG_mk ..).1 haw).1
  rw [shpG_mk, if_neg (by decide), if_neg (by decide), if_neg (by decide), if_pos (by decide)] at hshp
  simp only [Bool.and_eq_true, beq_iff_eq] at hshp
  have hlw : lsw.length = lw.length := Int.ofNat.inj hshp.2
  have hsel : selR nm cu vars l = (match idxB lsw nm with | none => .error 30 | some j => .ok (kidG (.mk 7 nw lsw lw) j)) := by unfold selR; simp only [bE, askE, g_k, TG.ls, beq_self_eq_true, hr2]; rfl
  refine fnQ_sz fun hs0 => ?_
  have hzl : szGs lw + 1 ≤ 1048576 := by simpa [szG] using hzw
  have hzl2 := szGs_len lw
  refine fnQ_of_vc txok mixed Dspq0 Tryz.func93 rfl rfl (by simp) fun bb => ?_
  repeat' ((conv => whnf); first
    | refine And.intro (by kernel_rfl) ?_
    | (refine And.intro (fun h => ?_) (fun h => ?_); rotate_left; focus (exfalso; revert h; simp [MG.k]; done))
    | (refine And.intro (fun h => ?_) (fun h => ?_); focus (exfalso; revert h; simp [MG.k]; done))
    | refine And.intro ?_ ?_
    | refine IdxC.encMs (l := [u]) 0 (by simp) rfl ?_
    | (refine callQ rfl rfl gf144 hK1 ?_; rintro o rfl)
    | refine loopH (fun j : Nat => j ≤ lsw.length ∧ idxB lsw nm = (idxB (lsw.drop j) nm).map (· + j)) (fun j => lsw.length - j) (fun j => [(10, .d (.int .i64 j))]) (fun _ => nmHr vars l (.mk 15 n i nm ls [] [u]) ++ [(3, .blk 28 (tcS (.mk 7 nw lsw lw)))]) 4 0 ⟨by omega, by simp⟩ (weak_of rfl (by repeat ((conv => whnf); first | exact trivial | refine And.intro rfl ?_ | refine And.intro (incD (by omega)) ?_)) (by repeat ((conv => whnf); first | exact trivial | refine And.intro rfl ?_ | refine And.intro (incD (by omega)) ?_))) ?_)
  all_goals
    rintro j ⟨hj, hx⟩
    (conv => whnf)
    refine And.intro (fun hb' => ?_) (fun hb' => ?_)
    · have hjl : j < lsw.length := by have := of_decide_eq_true hb'; simp only [TG.ls] at this; omega
      rw [List.drop_eq_getElem_cons hjl] at hx
      by_cases h : lsw[j] = nm
      · have hx : idxB lsw nm = some j := by rw [hx]; unfold idxB; rw [List.findIdx?_cons, if_pos (by simpa using h)]; simp
        have hkd : kidG (.mk 7 nw lsw lw) j = lw[j]'(hlw ▸ hjl) := by simp only [kidG, g_kids]; rw [List.getD_eq_getElem?_getD, List.getElem?_eq_getElem (hlw ▸ hjl)]; rfl
        rw [show selR nm cu vars l = .ok (lw[j]'(hlw ▸ hjl)) from by rw [hsel, hx]; exact congrArg _ hkd]
        repeat' ((conv => whnf); first
          | refine IdxC.encS (l := lsw) j hjl rfl ?_
          | refine And.intro (by kernel_rfl) ?_
          | (refine And.intro (fun h' => ?_) (fun h' => ?_); rotate_left; focus (exfalso; revert h'; rw [beqB']; simp [h, MG.nm]; done))
          | refine And.intro ?_ ?_
          | refine IdxC.encGs (l := lw) j (hlw ▸ hjl) rfl ?_)
        all_goals (try (conv => whnf))
        all_goals exact rfl
      · have hx : idxB lsw nm = (idxB (lsw.drop (j + 1)) nm).map (· + (j + 1)) := by
          rw [hx]; unfold idxB; rw [List.findIdx?_cons, if_neg (by simpa using h)]
          cases List.findIdx? (fun x => decide (x = nm)) (lsw.drop (j + 1)) with
          | none => rfl
          | some q => simp; omega
        repeat' ((conv => whnf); first
          | refine IdxC.encS (l := lsw) j hjl rfl ?_
          | refine And.intro (by kernel_rfl) ?_
          | (refine And.intro (fun h' => ?_) (fun h' => ?_); focus (exfalso; revert h'; rw [beqB']; simp [h, MG.nm]; done))
          | refine And.intro ?_ ?_)
        all_goals (try (conv => whnf))
        all_goals
          rw [incD (by omega)]
          exact again (j + 1) (by omega) ⟨by omega, hx⟩ (weak_of rfl (by repeat ((conv => whnf); first | exact trivial | refine And.intro rfl ?_ | refine And.intro (incD (by omega)) ?_)) (by repeat ((conv => whnf); first | exact trivial | refine And.intro rfl ?_ | refine And.intro (incD (by omega)) ?_)))
    · have hj0 : j = lsw.length := by have := of_decide_eq_false hb'; simp only [TG.ls] at this; omega
      subst hj0
      rw [List.drop_eq_nil_of_le (Nat.le_refl _)] at hx
      have hx : idxB lsw nm = none := hx
      rw [show selR nm cu vars l = .error 30 from by rw [hsel, hx]]
      repeat' ((conv => whnf); first
        | refine callF (none_fn 30) gf49 rfl rfl ?_)
      all_goals (try (conv => whnf))
      all_goals exact OutX.err zG rfl
end Go.Proofs.YtcjkikadolnfgaaGreat


/- The rule of branches. -/
set_option linter.unusedSimpArgs false
set_option linter.unusedVariables false
namespace Go.Proofs.YtcjkikadolnfgaaGreat
open Go.Vx Go.Vc Go.RowKit
def Awpq0 : List (Nat × Go.Vc.Pl) := [(1, .take 0 (.pure 1 (.take 2 (.pure 3 (.take 4 (.two 5 6 (.run 6 (.fin 7 .done)) (.fin 5 (.fin 7 .done)))))))), (7, .pure 0 (.take 1 (.pure 2 (.pure 3 (.take 4 (.pure 5 (.pure 6 (.take 7 (.pure 9 (.take 10 (.pure 11 (.pure 12 (.pure 13 (.take 14 (.run 8 (.fin 15 (.fin 16 (.fin 17 (.pure 18 .done))))))))))))))))))), (12, .take 0 (.pure 1 (.pure 2 (.take 3 (.fin 4 .done)))))]
theorem casK_good (vars : List Int) (l : List Bd) : ∀ (ls : List ByteArray) (ts : List TG) (ks : List MG) (cs : List Chk), ts.length = ls.length → ks.length = ls.length → cs.length = ks.length → (∀ (j : Nat) (h : j < ks.length) (h' : j < cs.length), KidOk ks[j] cs[j]) → (∀ t ∈ ts, allG t = true ∧ szG t ≤ 1073741824) → vars.length + szMs ks ≤ 549755813888 → l.length + 1 + 2 * szMs ks ≤ 549755813888 → Bnd l → ∀ us, casK ls ts cs vars l = .ok us → us.length = ls.length ∧ ∀ t ∈ us, allG t = true ∧ szG t ≤ 1048576
  | [], [], [], [], _, _, _, _, _, _, _, _ => fun us h => by injection h with h; subst h; exact ⟨rfl, nofun⟩
  | nm :: ls, t :: ts, m :: ks, c :: cs, h1, h2, h3, hc, ht, hv, hz, hb => fun us h => by
    simp only [szMs] at hv hz
    have hm : 1 ≤ szM m := by cases m; simp only [szM]; omega
    have hks := szMs_len ks
    have hB : Bnd (l ++ [(nm, t)]) := hb.snoc (ht t (by simp)).1 (ht t (by simp)).2
    have g1 := (hc 0 (by simp) (by simp) vars (l ++ [(nm, t)]) (by simp only [List.getElem_cons_zero]; omega) (by simp only [List.getElem_cons_zero, List.length_append, List.length_cons, List.length_nil]; omega) hB).2
    simp only [List.getElem_cons_zero] at g1
    rw [casK] at h
    cases hr : c vars (l ++ [(nm, t)]) with
    | error e => rw [hr] at h; cases h
    | ok v =>
      rw [hr] at h
      cases hq : casK ls ts cs vars l with
      | error e => rw [hq] at h; cases h
      | ok vs =>
        rw [hq] at h
        injection h with h; subst h
        obtain ⟨q1, q2⟩ := casK_good vars l ls ts ks cs (by simpa using h1) (by simpa using h2) (by simpa using h3) (fun j h h' => hc (j + 1) (by simpa using h) (by simpa using h')) (fun t h => ht t (by simp [h])) (by omega) (by omega) hb vs hq
        refine ⟨by simp [q1], fun w hw => ?_⟩
        rcases List.mem_cons.1 hw with rfl | hw
        · exact g1 w hr
        · exact q2 w hw
  | [], _ :: _, _, _, h, _, _, _, _, _, _, _ => by simp at h
  | [], _, _ :: _, _, _, h, _, _, _, _, _, _ => by simp at h
  | [], _, [], _ :: _, _, _, h, _, _, _, _, _ => by simp at h
  | _ :: _, [], _, _, h, _, _, _, _, _, _, _ => by simp at h
  | _ :: _, _, [], _, _, h, _, _, _, _, _, _ => by simp at h
  | _ :: _, _, _ :: _, [], _, _, h, _, _, _, _, _ => by simp at h
def restOf2 (f : Func) : Code := match f.body with
  | some (.seq _ (.seq _ (.seq _ (.seq _ y)))) => y
  | _ => .skip
def restOf3 (f : Func) : Code := match f.body with
  | some (.seq _ (.seq _ (.seq _ (.seq _ (.seq _ y))))) => y
  | _ => .skip
theorem ask_no (c : Bool) (h : c = false) : FnQ Tryz.prog G0 167 [.bool c] (fun o => o = .pan (badW 30)) := by subst h; exact ask_fn false
theorem ask_yes (c : Bool) (h : c = true) : FnQ Tryz.prog G0 167 [.bool c] (fun o => o = .ret (.tup [])) := by subst h; exact ask_fn true
def casesE (kf : Int) (lf : List TG) (ls : List ByteArray) (cs : List Chk) (vars : List Int) (l : List Bd) : Except Int TG := askE (kf == 8 && decide (lf.length = ls.length) && decide (0 < ls.length)) (match casK ls lf cs vars l with
  | .error e => .error e
  | .ok us => askE (allSame us) (.ok (us.headD zG)))
theorem casesE_no {kf : Int} {lf : List TG} {ls : List ByteArray} {cs : List Chk} {vars : List Int} {l : List Bd} (h : ¬ (kf = 8 ∧ lf.length = ls.length ∧ 0 < ls.length)) : casesE kf lf ls cs vars l = .error 30 := by
  have hno : (kf == 8 && decide (lf.length = ls.length) && decide (0 < ls.length)) = false := by
    rw [← Bool.not_eq_true]; intro h'
    simp only [Bool.and_eq_true, beq_iff_eq, decide_eq_true_eq] at h'
    exact h ⟨h'.1.1, h'.1.2, h'.2⟩
  unfold casesE; rw [hno]; rfl
theorem casesE_yes {lf : List TG} {ls : List ByteArray} {cs : List Chk} {vars : List Int} {l : List Bd} (h1 : lf.length = ls.length) (h2 : 0 < ls.length) : casesE 8 lf ls cs vars l = (match casK ls lf cs vars l with
  | .error e => .error e
  | .ok us => askE (allSame us) (.ok (us.headD zG))) := by
  unfold casesE; rw [decide_eq_true h1, decide_eq_true h2]; rfl
abbrev csT : List (Nat × Go.Vx.SV) := [(2, .own 0 0), (3, .own 1 0), (4, .own 2 0)]
abbrev csH (vars : List Int) (l : List Bd) (m : MG) (t : TG) : Hp := nmH0 vars l m zS ++ [(3, .blk 28 (tcS t))]
set_option maxRecDepth 20000 in
set_option maxHeartbeats 2000000 in
theorem casesW_fn (vars : List Int) (l : List Bd) (n i : Int) (nm : ByteArray) (ls : List ByteArray) (u : MG) (r : List MG) (cu : Chk) (cs : List Chk) (hcu : KidOk u cu) (hcl : cs.length = r.length) (hc : ∀ (j : Nat) (h : j < r.length) (h' : j < cs.length), KidOk r[j] cs[j]) (hls : r.length = ls.length)
    (hv : vars.length + szM (.mk 17 n i nm ls [] (u :: r)) ≤ 549755813888) (hl : l.length + 2 * szM (.mk 17 n i nm ls [] (u :: r)) ≤ 549755813888) (hz : szM (.mk 17 n i nm ls [] (u :: r)) ≤ 1073741824) (hb : Bnd l) : FnQ Tryz.prog G0 129 [dSc vars l, dM (.mk 17 n i nm ls [] (u :: r))] (fun o => o = resO (casesR ls (cu :: cs) vars l)) ∧ ∀ t, casesR ls (cu :: cs) vars l = .ok t → allG t = true ∧ szG t ≤ 2147483648 := by
  simp only [szM, szGs, szMs] at hv hl hz
  have hks := szMs_len r
  have hu : 1 ≤ szM u := by cases u; simp only [szM]; omega
  unfold casesR
  rw [show kidC (cu :: cs) 0 = cu from rfl, show (cu :: cs).tail = cs from rfl]
  obtain ⟨hK0, hG0⟩ := hcu vars l (by omega) (by omega) hb
  cases hr : cu vars l with
  | error e =>
    rw [hr] at hK0
    refine ⟨?_, nofun⟩
    refine fnQ_of_vc txok mixed Awpq0 Tryz.func129 rfl rfl (by simp) fun bb => ?_
    repeat' ((conv => whnf); first
      | refine And.intro (by kernel_rfl) ?_
      | refine And.intro ?_ ?_
      | refine IdxC.encMs (l := u :: r) 0 (by simp) rfl ?_
      | (refine callQ rfl rfl gf46 hK0 ?_; rintro o rfl))
    all_goals (try (conv => whnf))
    all_goals exact rfl
  | ok w =>
  rw [hr] at hK0
  obtain ⟨haw, hzw⟩ := hG0 w hr
  obtain ⟨kf, nf, lsf, lf⟩ := w
  have hsz := szG_eq (.mk kf nf lsf lf)
  simp only [g_kids] at hsz
  show (FnQ Tryz.prog G0 129 [dSc vars l, dM (.mk 17 n i nm ls [] (u :: r))] (fun o => o = resO (casesE kf lf ls cs vars l))) ∧ ∀ t, casesE kf lf ls cs vars l = .ok t → allG t = true ∧ szG t ≤ 2147483648
  have front : ∀ (Q : DOut → Prop), (∀ bb : Bs G0 0, Wk Tryz.prog bb 78 (restOf Tryz.f129) ⟨csT ++ [(5, .own 3 0)], csH vars l (.mk 17 n i nm ls [] (u :: r)) (.mk kf nf lsf lf), 4⟩ (retK tx 0 [] Tryz.f129.results.toList (closeQ Q))) → FnQ Tryz.prog G0 129 [dSc vars l, dM (.mk 17 n i nm ls [] (u :: r))] Q := by
    intro Q h
    refine fnQ_of_wk (N := 78) txok mixed Tryz.func129 rfl rfl (by simp) fun bb => ?_
    refine wk_seq ⟨csT, nmH0 vars l (.mk 17 n i nm ls [] (u :: r)) zS, 3⟩ (wk_vc txok mixed [] ?_) ?_
    · conv => whnf
      exact weak_of rfl (by repeat ((conv => whnf); first | exact trivial | refine And.intro rfl ?_ | refine And.intro (incD (by omega)) ?_)) (by repeat ((conv => whnf); first | exact trivial | refine And.intro rfl ?_ | refine And.intro (incD (by omega)) ?_))
    refine wk_seq ⟨csT ++ [(5, .own 3 0)], csH vars l (.mk 17 n i nm ls [] (u :: r)) (.mk kf nf lsf lf), 4⟩ (wk_vc txok mixed Awpq0 ?_) ?_
    rotate_left
    · show Wk _ _ _ (restOf Tryz.f129) _ _
      exact h bb
    repeat' ((conv => whnf); first
      | refine And.intro (by kernel_rfl) ?_
      | refine And.intro ?_ ?_
      | refine IdxC.encMs (l := u :: r) 0 (by simp) rfl ?_
      | (refine callQ rfl rfl gf46 hK0 ?_; rintro o rfl))
    all_goals exact weak_of rfl (by repeat ((conv => whnf); first | exact trivial | refine And.intro rfl ?_ | refine And.intro (incD (by omega)) ?_)) (by repeat ((conv => whnf); first | exact trivial | refine And.intro rfl ?_ | refine And.intro (incD (by omega)) ?_))
  by_cases hok : kf = 8 ∧ lf.length = ls.length ∧ 0 < ls.length
  rotate_left
  · rw [casesE_no hok]
    refine ⟨?_, nofun⟩
    refine front _ fun bb => ?_
    show Wk _ _ _ (restOf Tryz.f129) _ _
    refine wk_seqR (wk_vc txok mixed Awpq0 ?_)
    repeat' ((conv => whnf); first
      | refine And.intro (by kernel_rfl) ?_
      | refine And.intro (fun h => ?_) (fun h => ?_)
      | (refine callQ rfl rfl gf167 (ask_no _ (by first | rfl | assumption | (exact decide_eq_false (fun e => hok ⟨by simp_all [g_k], by (simp only [g_kids, MG.ls, beq_iff_eq] at h; omega), by simp only [MG.ls] at e; omega⟩)))) ?_; rintro o rfl))
    all_goals (try (conv => whnf))
    all_goals exact rfl
  obtain ⟨rfl, hfl, hlp⟩ := hok
  rw [casesE_yes hfl hlp]
  have hlf : ∀ t ∈ lf, allG t = true ∧ szG t ≤ 1073741824 := fun t ht => ⟨((allG_mk ..).1 haw).2 t ht, by have := szG_mem ht; omega⟩
  have hgood := casK_good vars l ls lf r cs hfl hls hcl hc hlf (by omega) (by omega) hb
  have front2 : ∀ (Q : DOut → Prop), (∀ bb : Bs G0 0, Wk Tryz.prog bb 78 (restOf2 Tryz.f129) ⟨(6, .nl) :: (csT ++ [(5, .own 3 0)]), csH vars l (.mk 17 n i nm ls [] (u :: r)) (.mk 8 nf lsf lf), 4⟩ (retK tx 0 [] Tryz.f129.results.toList (closeQ Q))) → FnQ Tryz.prog G0 129 [dSc vars l, dM (.mk 17 n i nm ls [] (u :: r))] Q := by
    intro Q h
    refine front _ fun bb => ?_
    show Wk _ _ _ (restOf Tryz.f129) _ _
    refine wk_seq ⟨csT ++ [(5, .own 3 0)], csH vars l (.mk 17 n i nm ls [] (u :: r)) (.mk 8 nf lsf lf), 4⟩ (wk_vc txok mixed Awpq0 ?_) ?_
    · repeat' ((conv => whnf); first
        | refine And.intro (by kernel_rfl) ?_
        | (refine And.intro (fun h => ?_) (fun h => ?_); rotate_left; focus (exfalso; simp_all [g_k, g_kids, MG.ls]; done))
        | (refine callQ rfl rfl gf167 (ask_yes _ (by exact decide_eq_true (by simp only [MG.ls]; omega))) ?_; rintro o rfl))
      all_goals (try (conv => whnf))
      all_goals exact weak_of rfl (by repeat ((conv => whnf); first | exact trivial | refine And.intro rfl ?_ | refine And.intro (incD (by omega)) ?_)) (by repeat ((conv => whnf); first | exact trivial | refine And.intro rfl ?_ | refine And.intro (incD (by omega)) ?_))
    refine wk_seq ⟨(6, .nl) :: (csT ++ [(5, .own 3 0)]), csH vars l (.mk 17 n i nm ls [] (u :: r)) (.mk 8 nf lsf lf), 4⟩ (wk_vc txok mixed [] ?_) ?_
    · conv => whnf
      exact weak_of rfl (by repeat ((conv => whnf); first | exact trivial | refine And.intro rfl ?_ | refine And.intro (incD (by omega)) ?_)) (by repeat ((conv => whnf); first | exact trivial | refine And.intro rfl ?_ | refine And.intro (incD (by omega)) ?_))
    show Wk _ _ _ (restOf2 Tryz.f129) _ _
    exact h bb
  cases hq : casK ls lf cs vars l with
  | error e0 =>
    refine ⟨?_, nofun⟩
    refine front2 _ fun bb => ?_
    show Wk _ _ _ (restOf2 Tryz.f129) _ _
    refine wk_seqR (wk_vc txok mixed Awpq0 ?_)
    conv => whnf
    refine loopH (fun z : Nat × List TG => z.1 ≤ ls.length ∧ casK ls lf cs vars l = mapE z.2 (casK (ls.drop z.1) (lf.drop z.1) (cs.drop z.1) vars l) ∧ z.2.length = z.1) (fun z => ls.length - z.1) (fun z => [(39, .d (.int .i64 z.1)), (6, .row 4)]) (fun z => csH vars l (.mk 17 n i nm ls [] (u :: r)) (.mk 8 nf lsf lf) ++ [(4, .row 28 64 4 z.2.length (encGs z.2))]) 5 (0, []) ⟨by simp, by rw [mapE_nil]; rfl, rfl⟩ ((weak_nlT 6 28 64 4 rfl).trans (weak_of rfl (by repeat ((conv => whnf); first | exact trivial | refine And.intro rfl ?_ | refine And.intro (incD (by omega)) ?_)) (by repeat ((conv => whnf); first | exact trivial | refine And.intro rfl ?_ | refine And.intro (incD (by omega)) ?_)))) ?_
    rintro ⟨j, acc⟩ ⟨hj, hx, hal⟩
    simp only at hj hx hal
    conv => whnf
    refine And.intro (fun hb' => ?_) (fun hb' => ?_)
    · have hjl : j < ls.length := by have := of_decide_eq_true hb'; simp only [MG.ls] at this; omega
      have hjc : j < cs.length := by omega
      have hjf : j < lf.length := by omega
      have hjr : j < r.length := by omega
      rw [List.drop_eq_getElem_cons hjl, List.drop_eq_getElem_cons hjc, List.drop_eq_getElem_cons hjf, casK] at hx
      have hsm := szM_mem (List.getElem_mem hjr)
      have hW := with_fn vars l ls[j] lf[j] (by omega)
      have hB : Bnd (l ++ [(ls[j], lf[j])]) := hb.snoc (hlf _ (List.getElem_mem hjf)).1 (hlf _ (List.getElem_mem hjf)).2
      obtain ⟨hK1, hG1⟩ := hc j hjr hjc vars (l ++ [(ls[j], lf[j])]) (by omega) (by simp only [List.length_append, List.length_cons, List.length_nil]; omega) hB
      cases hr1 : cs[j] vars (l ++ [(ls[j], lf[j])]) with
      | error e =>
        rw [hr1] at hK1 hx
        repeat' ((conv => whnf); first
          | refine IdxC.encS (l := ls) j hjl rfl ?_
          | refine And.intro (by kernel_rfl) ?_
          | refine And.intro ?_ ?_
          | refine IdxC.encGs (l := lf) j hjf rfl ?_
          | refine callF hW gf169 rfl rfl ?_
          | refine IdxC.encMs (l := u :: r) (j + 1) (by simp; omega) (by show IntKind.i64.wrap ((j : Int) + 1) = ((j + 1 : Nat) : Int); rw [Go.Vc.wrap_small (by omega) (by omega)]; rfl) ?_
          | (refine callQ rfl rfl gf46 hK1 ?_; rintro o rfl))
        all_goals (try (conv => whnf))
        all_goals (show _ = resO (.error e0); rw [hq] at hx; simp only [consE, mapE] at hx; injection hx with hx; rw [hx]; rfl)
      | ok t =>
        rw [hr1] at hK1 hx
        rw [mapE_cons] at hx
        obtain ⟨k1, n1, l1, m1⟩ := t
        repeat' ((conv => whnf); first
          | refine IdxC.encS (l := ls) j hjl rfl ?_
          | refine And.intro (by kernel_rfl) ?_
          | refine And.intro ?_ ?_
          | refine IdxC.encGs (l := lf) j hjf rfl ?_
          | refine callF hW gf169 rfl rfl ?_
          | refine IdxC.encMs (l := u :: r) (j + 1) (by simp; omega) (by show IntKind.i64.wrap ((j : Int) + 1) = ((j + 1 : Nat) : Int); rw [Go.Vc.wrap_small (by omega) (by omega)]; rfl) ?_
          | (refine callQ rfl rfl gf46 hK1 ?_; rintro o rfl)
          | refine appR (i := 4) (sz := 4) (n := acc.length) (m := 1) (xs := encGs acc) (ys := encGs [TG.mk k1 n1 l1 m1]) txok (fun k => Nat.ble 5 k) (acc ++ [TG.mk k1 n1 l1 m1]).length (encGs (acc ++ [TG.mk k1 n1 l1 m1])) (by exact rfl) (by exact rfl) (by exact rfl) (by kernel_rfl) (by exact rfl) (encGs_scal _) (by simp) (by rw [encGs_app]) (by simp only [LB, List.length_append, List.length_cons, List.length_nil]; omega) ?_)
        all_goals (try (conv => whnf))
        all_goals
          rw [incD (by omega)]
          exact again (j + 1, acc ++ [TG.mk k1 n1 l1 m1]) (by simp; omega) ⟨by simp; omega, hx, by simp; omega⟩ (weak_of rfl (by repeat ((conv => whnf); first | exact trivial | refine And.intro rfl ?_ | refine And.intro (incD (by omega)) ?_)) (by repeat ((conv => whnf); first | exact trivial | refine And.intro rfl ?_ | refine And.intro (incD (by omega)) ?_)))
    · have hj : j = ls.length := by have := of_decide_eq_false hb'; simp only [MG.ls] at this; omega
      subst hj
      rw [List.drop_eq_nil_of_le (Nat.le_refl _)] at hx
      have hx : casK ls lf cs vars l = .ok acc := by rw [hx]; simp [casK, mapE]
      rw [hq] at hx; cases hx
  | ok us =>
    obtain ⟨hul, hug⟩ := hgood us hq
    have front3 : ∀ (Q : DOut → Prop), (∀ bb : Bs G0 0, Wk Tryz.prog bb 78 (restOf3 Tryz.f129) ⟨(6, .d (dGs us)) :: (csT ++ [(5, .own 3 0)]), csH vars l (.mk 17 n i nm ls [] (u :: r)) (.mk 8 nf lsf lf), 4⟩ (retK tx 0 [] Tryz.f129.results.toList (closeQ Q))) → FnQ Tryz.prog G0 129 [dSc vars l, dM (.mk 17 n i nm ls [] (u :: r))] Q := by
      intro Q h
      refine front2 _ fun bb => ?_
      show Wk _ _ _ (restOf2 Tryz.f129) _ _
      refine wk_seq ⟨(6, .d (dGs us)) :: (csT ++ [(5, .own 3 0)]), csH vars l (.mk 17 n i nm ls [] (u :: r)) (.mk 8 nf lsf lf), 4⟩ (wk_vc txok mixed Awpq0 ?_) ?_
      rotate_left
      · show Wk _ _ _ (restOf3 Tryz.f129) _ _
        exact h bb
      conv => whnf
      refine loopH (fun z : Nat × List TG => z.1 ≤ ls.length ∧ casK ls lf cs vars l = mapE z.2 (casK (ls.drop z.1) (lf.drop z.1) (cs.drop z.1) vars l) ∧ z.2.length = z.1) (fun z => ls.length - z.1) (fun z => [(39, .d (.int .i64 z.1)), (6, .row 4)]) (fun z => csH vars l (.mk 17 n i nm ls [] (u :: r)) (.mk 8 nf lsf lf) ++ [(4, .row 28 64 4 z.2.length (encGs z.2))]) 5 (0, []) ⟨by simp, by rw [mapE_nil]; rfl, rfl⟩ ((weak_nlT 6 28 64 4 rfl).trans (weak_of rfl (by repeat ((conv => whnf); first | exact trivial | refine And.intro rfl ?_ | refine And.intro (incD (by omega)) ?_)) (by repeat ((conv => whnf); first | exact trivial | refine And.intro rfl ?_ | refine And.intro (incD (by omega)) ?_)))) ?_
      rintro ⟨j, acc⟩ ⟨hj, hx, hal⟩
      simp only at hj hx hal
      conv => whnf
      refine And.intro (fun hb' => ?_) (fun hb' => ?_)
      · have hjl : j < ls.length := by have := of_decide_eq_true hb'; simp only [MG.ls] at this; omega
        have hjc : j < cs.length := by omega
        have hjf : j < lf.length := by omega
        have hjr : j < r.length := by omega
        rw [List.drop_eq_getElem_cons hjl, List.drop_eq_getElem_cons hjc, List.drop_eq_getElem_cons hjf, casK] at hx
        have hsm := szM_mem (List.getElem_mem hjr)
        have hW := with_fn vars l ls[j] lf[j] (by omega)
        have hB : Bnd (l ++ [(ls[j], lf[j])]) := hb.snoc (hlf _ (List.getElem_mem hjf)).1 (hlf _ (List.getElem_mem hjf)).2
        obtain ⟨hK1, hG1⟩ := hc j hjr hjc vars (l ++ [(ls[j], lf[j])]) (by omega) (by simp only [List.length_append, List.length_cons, List.length_nil]; omega) hB
        cases hr1 : cs[j] vars (l ++ [(ls[j], lf[j])]) with
        | error e =>
          rw [hr1] at hK1 hx
          repeat' ((conv => whnf); first
            | refine IdxC.encS (l := ls) j hjl rfl ?_
            | refine And.intro (by kernel_rfl) ?_
            | refine And.intro ?_ ?_
            | refine IdxC.encGs (l := lf) j hjf rfl ?_
            | refine callF hW gf169 rfl rfl ?_
            | refine IdxC.encMs (l := u :: r) (j + 1) (by simp; omega) (by show IntKind.i64.wrap ((j : Int) + 1) = ((j + 1 : Nat) : Int); rw [Go.Vc.wrap_small (by omega) (by omega)]; rfl) ?_
            | (refine callQ rfl rfl gf46 hK1 ?_; rintro o rfl))
          all_goals (try (conv => whnf))
          all_goals (exfalso; rw [hq] at hx; simp only [consE, mapE] at hx; cases hx)
        | ok t =>
          rw [hr1] at hK1 hx
          rw [mapE_cons] at hx
          obtain ⟨k1, n1, l1, m1⟩ := t
          repeat' ((conv => whnf); first
            | refine IdxC.encS (l := ls) j hjl rfl ?_
            | refine And.intro (by kernel_rfl) ?_
            | refine And.intro ?_ ?_
            | refine IdxC.encGs (l := lf) j hjf rfl ?_
            | refine callF hW gf169 rfl rfl ?_
            | refine IdxC.encMs (l := u :: r) (j + 1) (by simp; omega) (by show IntKind.i64.wrap ((j : Int) + 1) = ((j + 1 : Nat) : Int); rw [Go.Vc.wrap_small (by omega) (by omega)]; rfl) ?_
            | (refine callQ rfl rfl gf46 hK1 ?_; rintro o rfl)
            | refine appR (i := 4) (sz := 4) (n := acc.length) (m := 1) (xs := encGs acc) (ys := encGs [TG.mk k1 n1 l1 m1]) txok (fun k => Nat.ble 5 k) (acc ++ [TG.mk k1 n1 l1 m1]).length (encGs (acc ++ [TG.mk k1 n1 l1 m1])) (by exact rfl) (by exact rfl) (by exact rfl) (by kernel_rfl) (by exact rfl) (encGs_scal _) (by simp) (by rw [encGs_app]) (by simp only [LB, List.length_append, List.length_cons, List.length_nil]; omega) ?_)
          all_goals (try (conv => whnf))
          all_goals
            rw [incD (by omega)]
            exact again (j + 1, acc ++ [TG.mk k1 n1 l1 m1]) (by simp; omega) ⟨by simp; omega, hx, by simp; omega⟩ (weak_of rfl (by repeat ((conv => whnf); first | exact trivial | refine And.intro rfl ?_ | refine And.intro (incD (by omega)) ?_)) (by repeat ((conv => whnf); first | exact trivial | refine And.intro rfl ?_ | refine And.intro (incD (by omega)) ?_)))
      · have hj : j = ls.length := by have := of_decide_eq_false hb'; simp only [MG.ls] at this; omega
        subst hj
        rw [List.drop_eq_nil_of_le (Nat.le_refl _)] at hx
        have hx : casK ls lf cs vars l = .ok acc := by rw [hx]; simp [casK, mapE]
        rw [hq] at hx; injection hx with hx; subst hx
        show Go.Vx.Weak bb 78 _ _
        refine weak_pub (fun i => Nat.beq i 4) ?_
        show Go.Vx.Weak bb 78 _ _
        exact weak_of rfl (by repeat ((conv => whnf); first | exact trivial | refine And.intro rfl ?_ | refine And.intro (incD (by omega)) ?_)) (by repeat ((conv => whnf); first | exact trivial | refine And.intro rfl ?_ | refine And.intro (incD (by omega)) ?_))
    obtain ⟨a, rest, rfl⟩ : ∃ a rest, us = a :: rest := by
      cases us with
      | nil => simp at hul; omega
      | cons a r => exact ⟨a, r, rfl⟩
    show (FnQ Tryz.prog G0 129 [dSc vars l, dM (.mk 17 n i nm ls [] (u :: r))] (fun o => o = resO (askE (allSame (a :: rest)) (.ok a)))) ∧ ∀ t, askE (allSame (a :: rest)) (.ok a) = .ok t → allG t = true ∧ szG t ≤ 2147483648
    refine ⟨?_, fun t ht => ?_⟩
    rotate_left
    · cases h : allSame (a :: rest) with
      | false => rw [h] at ht; cases ht
      | true =>
        rw [h] at ht
        injection ht with ht; subst ht
        exact ⟨(hug a (by simp)).1, by have := (hug a (by simp)).2; omega⟩
    refine front3 _ fun bb => ?_
    refine wk_vc txok mixed Awpq0 ?_
    conv => whnf
    refine loopH (fun j : Nat => j ≤ (a :: rest).length ∧ ∀ (q : Nat) (h : q < (a :: rest).length), q < j → samG (a :: rest)[q] a [] [] = true) (fun j => (a :: rest).length - j) (fun j => [(65, .d (.int .i64 j))]) (fun _ => csH vars l (.mk 17 n i nm ls [] (u :: r)) (.mk 8 nf lsf lf)) 4 0 ⟨by simp, fun _ _ h => by omega⟩ (weak_of rfl (by repeat ((conv => whnf); first | exact trivial | refine And.intro rfl ?_ | refine And.intro (incD (by omega)) ?_)) (by repeat ((conv => whnf); first | exact trivial | refine And.intro rfl ?_ | refine And.intro (incD (by omega)) ?_))) ?_
    rintro j ⟨hj, hall⟩
    conv => whnf
    refine And.intro (fun hb' => ?_) (fun hb' => ?_)
    · have hjl : j < (a :: rest).length := by have := of_decide_eq_true hb'; omega
      have hg := hug _ (List.getElem_mem hjl)
      have hS := same_fn (a :: rest)[j] a (by omega)
      cases hs : samG (a :: rest)[j] a [] [] with
      | false =>
        rw [hs] at hS
        have hno : allSame (a :: rest) = false := by
          unfold allSame
          rw [List.all_eq_false]
          exact ⟨_, List.getElem_mem hjl, by rw [show (a :: rest).headD zG = a from rfl, hs]; decide⟩
        rw [hno]
        repeat' ((conv => whnf); first
          | refine IdxC.encGs (l := a :: rest) j hjl rfl ?_
          | refine And.intro (by kernel_rfl) ?_
          | refine And.intro ?_ ?_
          | refine IdxC.encGs (l := a :: rest) 0 (by simp) rfl ?_
          | (refine callQ rfl rfl gf170 hS ?_; rintro o rfl))
        all_goals (try (conv => whnf))
        all_goals exact rfl
      | true =>
        rw [hs] at hS
        repeat' ((conv => whnf); first
          | refine IdxC.encGs (l := a :: rest) j hjl rfl ?_
          | refine And.intro (by kernel_rfl) ?_
          | refine And.intro ?_ ?_
          | refine IdxC.encGs (l := a :: rest) 0 (by simp) rfl ?_
          | (refine callQ rfl rfl gf170 hS ?_; rintro o rfl))
        all_goals (try (conv => whnf))
        all_goals
          rw [incD (by simp only [List.length_cons] at hjl hul; omega)]
          refine again (j + 1) (by omega) ⟨by omega, fun q h hq => ?_⟩ (weak_of rfl (by repeat ((conv => whnf); first | exact trivial | refine And.intro rfl ?_ | refine And.intro (incD (by omega)) ?_)) (by repeat ((conv => whnf); first | exact trivial | refine And.intro rfl ?_ | refine And.intro (incD (by omega)) ?_)))
          by_cases e : q = j
          · subst e; exact hs
          · exact hall q h (by omega)
    · have hjl : j = (a :: rest).length := by have := of_decide_eq_false hb'; omega
      have hyes : allSame (a :: rest) = true := by
        unfold allSame
        rw [List.all_eq_true]
        intro x hx
        obtain ⟨q, hq, rfl⟩ := List.mem_iff_getElem.1 hx
        exact hall q hq (by omega)
      rw [hyes]
      repeat' ((conv => whnf); first
        | refine IdxC.encGs (l := a :: rest) 0 (by simp) rfl ?_
        | refine And.intro (by kernel_rfl) ?_
        | refine And.intro ?_ ?_)
      all_goals (try (conv => whnf))
      all_goals (try exact rfl)
theorem kid_cases (n i : Int) (nm : ByteArray) (ls : List ByteArray) (u : MG) (r : List MG) (cu : Chk) (cs : List Chk) (hcu : KidOk u cu) (hcl : cs.length = r.length) (hc : ∀ (j : Nat) (h : j < r.length) (h' : j < cs.length), KidOk r[j] cs[j]) (hls : r.length = ls.length) (hz : szM (.mk 17 n i nm ls [] (u :: r)) ≤ 1073741824) : KidOk (.mk 17 n i nm ls [] (u :: r)) (fun vars l => fitE (casesR ls (cu :: cs) vars l)) :=
  kid_of _ (casesR ls (cu :: cs)) 17 129 rfl rfl gf129 fun vars l hv hl hb => casesW_fn vars l n i nm ls u r cu cs hcu hcl hc hls hv hl hz hb
end Go.Proofs.YtcjkikadolnfgaaGreat


/- The reference's rule of branches. -/
set_option linter.unusedSimpArgs false
set_option linter.unusedVariables false
namespace Go.Proofs.YtcjkikadolnfgaaGreat
open Go.Vx Go.Vc Go.RowKit
def Dtpq0 : List (Nat × Go.Vc.Pl) := [(6, .take 0 (.pure 1 (.take 2 (.pure 3 (.take 4 (.two 5 9 (.pure 6 (.pure 7 (.pure 8 (.run 9 (.fin 10 (.pure 11 .done)))))) (.fin 5 (.pure 6 (.pure 7 (.pure 8 (.fin 10 (.pure 11 .done)))))))))))), (12, .pure 0 (.take 1 (.pure 2 (.pure 3 (.take 4 (.pure 5 (.take 6 (.pure 7 .done)))))))), (17, .take 0 (.pure 1 (.take 2 (.pure 3 (.take 4 (.two 5 9 (.pure 6 (.pure 7 (.pure 8 (.run 9 (.fin 10 (.pure 11 .done)))))) (.fin 5 (.pure 6 (.pure 7 (.pure 8 (.fin 10 (.pure 11 .done)))))))))))), (20, .pure 0 (.take 1 (.pure 2 (.pure 3 (.pure 4 (.take 5 (.pure 6 (.take 7 (.pure 8 (.pure 9 (.pure 10 (.pure 11 (.pure 12 (.take 13 (.pure 14 (.take 15 (.pure 16 (.take 17 (.take 18 (.fin 19 (.pure 20 (.pure 21 .done)))))))))))))))))))))), (23, .take 0 (.pure 1 (.take 2 (.pure 3 (.take 4 (.two 5 9 (.pure 6 (.pure 7 (.pure 8 (.run 9 (.fin 10 (.pure 11 .done)))))) (.fin 5 (.pure 6 (.pure 7 (.pure 8 (.fin 10 (.pure 11 .done)))))))))))), (32, .take 0 (.pure 1 (.take 2 (.pure 3 (.pure 4 (.take 5 (.pure 6 (.take 7 (.pure 8 (.pure 9 (.take 10 (.pure 12 (.take 13 (.pure 14 (.pure 15 (.pure 16 (.take 17 (.two 11 22 (.two 18 22 (.pure 19 (.pure 20 (.pure 21 (.run 22 (.fin 23 (.pure 24 .done)))))) (.fin 18 (.pure 19 (.pure 20 (.pure 21 (.fin 23 (.pure 24 .done))))))) (.run 11 (.fin 18 (.pure 19 (.pure 20 (.pure 21 (.fin 23 (.pure 24 .done))))))))))))))))))))))))), (39, .pure 0 (.pure 1 (.take 2 (.pure 3 (.pure 4 (.pure 5 (.take 6 (.fin 7 (.pure 8 .done)))))))))]
theorem casK_err (vars : List Int) (l : List Bd) : ∀ (ls : List ByteArray) (ts : List TG) (ks : List MG) (cs : List Chk), ts.length = ls.length → ks.length = ls.length → cs.length = ks.length → (∀ (j : Nat) (h : j < ks.length) (h' : j < cs.length), RKid ks[j] cs[j]) → (∀ t ∈ ts, allG t = true ∧ szG t ≤ 1073741824) → vars.length + szMs ks ≤ 549755813888 → l.length + 1 + 2 * szMs ks ≤ 549755813888 → Bnd l → ∀ us, casK ls ts cs vars l = .ok us → us.length = ls.length ∧ ∀ t ∈ us, allG t = true ∧ szG t ≤ 1048576
  | [], [], [], [], _, _, _, _, _, _, _, _ => fun us h => by injection h with h; subst h; exact ⟨rfl, nofun⟩
  | nm :: ls, t :: ts, m :: ks, c :: cs, h1, h2, h3, hc, ht, hv, hz, hb => fun us h => by
    simp only [szMs] at hv hz
    have hm : 1 ≤ szM m := by cases m; simp only [szM]; omega
    have hB : Bnd (l ++ [(nm, t)]) := hb.snoc (ht t (by simp)).1 (ht t (by simp)).2
    have g1 := (hc 0 (by simp) (by simp) vars (l ++ [(nm, t)]) (by simp only [List.getElem_cons_zero]; omega) (by simp only [List.getElem_cons_zero, List.length_append, List.length_cons, List.length_nil]; omega) hB).2.1
    simp only [List.getElem_cons_zero] at g1
    rw [casK] at h
    cases hr : c vars (l ++ [(nm, t)]) with
    | error e => rw [hr] at h; cases h
    | ok v =>
      rw [hr] at h
      cases hq : casK ls ts cs vars l with
      | error e => rw [hq] at h; cases h
      | ok vs =>
        rw [hq] at h
        injection h with h; subst h
        obtain ⟨q1, q2⟩ := casK_err vars l ls ts ks cs (by simpa using h1) (by simpa using h2) (by simpa using h3) (fun j h h' => hc (j + 1) (by simpa using h) (by simpa using h')) (fun t h => ht t (by simp [h])) (by omega) (by omega) hb vs hq
        refine ⟨by simp [q1], fun w hw => ?_⟩
        rcases List.mem_cons.1 hw with rfl | hw
        · exact g1 w hr
        · exact q2 w hw
  | [], _ :: _, _, _, h, _, _, _, _, _, _, _ => by simp at h
  | [], _, _ :: _, _, _, h, _, _, _, _, _, _ => by simp at h
  | [], _, [], _ :: _, _, _, h, _, _, _, _, _ => by simp at h
  | _ :: _, [], _, _, h, _, _, _, _, _, _, _ => by simp at h
  | _ :: _, _, [], _, _, h, _, _, _, _, _, _ => by simp at h
  | _ :: _, _, _ :: _, [], _, _, h, _, _, _, _, _ => by simp at h
set_option maxRecDepth 20000 in
set_option maxHeartbeats 4000000 in
theorem x_cases (vars : List Int) (l : List Bd) (n i : Int) (nm : ByteArray) (ls : List ByteArray) (u : MG) (r : List MG) (cu : Chk) (cs : List Chk) (hcu : RKid u cu) (hcl : cs.length = r.length) (hc : ∀ (j : Nat) (h : j < r.length) (h' : j < cs.length), RKid r[j] cs[j]) (hls : r.length = ls.length) (hv : vars.length + szM (.mk 17 n i nm ls [] (u :: r)) ≤ 549755813888) (hl : l.length + 2 * szM (.mk 17 n i nm ls [] (u :: r)) ≤ 549755813888) (hz : szM (.mk 17 n i nm ls [] (u :: r)) ≤ 1073741824) (hb : Bnd l) : FnQ Tryz.prog G0 93 [dSc vars l, dM (.mk 17 n i nm ls [] (u :: r))] (OutX (casesR ls (cu :: cs) vars l)) := by
  simp only [szM, szGs, szMs] at hv hl hz
  have hks := szMs_len r
  have hu : 1 ≤ szM u := by cases u; simp only [szM]; omega
  obtain ⟨hK1, hK1G, hK1E⟩ := hcu vars l (by (try simp only [List.length_append, List.length_cons, List.length_nil]); omega) (by (try simp only [List.length_append, List.length_cons, List.length_nil]); omega) hb
  have hK1 := ofK_fn vars l u 8 _ hK1 hK1E
  cases hr2 : cu vars l with
  | error e =>
    rw [hr2] at hK1
    have he3 := hK1E e hr2
    rw [show bE (.error e) (fun t => askE (t.k == 8) (.ok t)) = .error e from rfl] at hK1
    rw [show (casesR ls (cu :: cs)) vars l = .error e from by unfold casesR; (try simp only [bE, askE, kidG, g_k, g_n, g_ls, g_kids, List.getD_cons_zero, List.getD_cons_succ, beq_self_eq_true, Bool.and_self, Bool.false_and, Bool.and_false, show kidC (cu :: cs) 0 = cu from rfl, hr2]); first | done | rfl]
    refine fnQ_of_vc txok mixed Dtpq0 Tryz.func93 rfl rfl (by simp) fun bb => ?_
    repeat' ((conv => whnf); first
      | refine And.intro (by kernel_rfl) ?_
      | (refine And.intro (fun h => ?_) (fun h => ?_); rotate_left; focus (exfalso; revert h; simp [MG.k, MG.n, g_k, g_n, g_kids, he3]; done))
      | (refine And.intro (fun h => ?_) (fun h => ?_); focus (exfalso; revert h; simp [MG.k, MG.n, g_k, g_n, g_kids, he3]; done))
      | refine And.intro ?_ ?_
      | refine IdxC.encMs (l := u :: r) 0 (by simp) rfl ?_
      | (refine callQ rfl rfl gf144 hK1 ?_; rintro o rfl)
      | refine callF (none_fn e) gf49 rfl rfl ?_
      )
    all_goals (try (conv => whnf))
    all_goals first | exact OutX.err zG rfl
  | ok w =>
  rw [hr2] at hK1
  obtain ⟨haw, hzw⟩ := hK1G w hr2
  obtain ⟨kw, nw, lsw, lw⟩ := w
  by_cases hk4 : kw = 8
  rotate_left
  · have hkb : (kw == 8) = false := by simpa using hk4
    rw [show bE (.ok (TG.mk kw nw lsw lw)) (fun t => askE (t.k == 8) (.ok t)) = .error 30 from by simp only [bE, g_k, hkb]; rfl] at hK1
    rw [show (casesR ls (cu :: cs)) vars l = .error 30 from by unfold casesR; (try simp only [bE, askE, kidG, g_k, g_n, g_ls, g_kids, List.getD_cons_zero, List.getD_cons_succ, beq_self_eq_true, Bool.and_self, Bool.false_and, Bool.and_false, show kidC (cu :: cs) 0 = cu from rfl, hr2, hkb]); first | done | rfl]
    refine fnQ_of_vc txok mixed Dtpq0 Tryz.func93 rfl rfl (by simp) fun bb => ?_
    repeat' ((conv => whnf); first
      | refine And.intro (by kernel_rfl) ?_
      | (refine And.intro (fun h => ?_) (fun h => ?_); rotate_left; focus (exfalso; revert h; simp [MG.k, MG.n, g_k, g_n, g_kids]; done))
      | (refine And.intro (fun h => ?_) (fun h => ?_); focus (exfalso; revert h; simp [MG.k, MG.n, g_k, g_n, g_kids]; done))
      | refine And.intro ?_ ?_
      | refine IdxC.encMs (l := u :: r) 0 (by simp) rfl ?_
      | (refine callQ rfl rfl gf144 hK1 ?_; rintro o rfl)
      | refine callF (none_fn 30) gf49 rfl rfl ?_
      )
    all_goals (try (conv => whnf))
    all_goals first | exact OutX.err zG rfl
  subst hk4
  rw [show bE (.ok (TG.mk 8 nw lsw lw)) (fun t => askE (t.k == 8) (.ok t)) = .ok (TG.mk 8 nw lsw lw) from rfl] at hK1
  have hsz := szG_eq (.mk 8 nw lsw lw)
  simp only [g_kids] at hsz
  rw [show casesR ls (cu :: cs) vars l = casesE 8 lw ls cs vars l from by unfold casesR; rw [show kidC (cu :: cs) 0 = cu from rfl, show (cu :: cs).tail = cs from rfl, hr2]; rfl]
  have hlw : ∀ t ∈ lw, allG t = true ∧ szG t ≤ 1073741824 := fun t ht => ⟨((allG_mk ..).1 haw).2 t ht, by have := szG_mem ht; omega⟩
  by_cases hok : lw.length = ls.length ∧ 0 < ls.length
  rotate_left
  · rw [casesE_no (fun h => hok h.2)]
    refine fnQ_of_vc txok mixed Dtpq0 Tryz.func93 rfl rfl (by simp) fun bb => ?_
    have hno : ((lw.length : Int) == (ls.length : Int)) = true → ((lw.length : Int) == 0) = true := fun h => by
      have h : lw.length = ls.length := Int.ofNat.inj (by simpa using h)
      have : ¬ 0 < ls.length := fun e => hok ⟨h, e⟩
      simp only [beq_iff_eq]; omega
    repeat' ((conv => whnf); first
      | refine And.intro (by kernel_rfl) ?_
      | (refine And.intro (fun h => ?_) (fun h => ?_); rotate_left; focus (exfalso; revert h; simp [MG.k]; done))
      | (refine And.intro (fun h => ?_) (fun h => ?_); focus (exfalso; revert h; simp [MG.k]; done))
      | (refine And.intro (fun h => ?_) (fun h => ?_); rotate_left; focus (exfalso; simp only [g_kids, MG.ls] at *; simp_all; done))
      | refine And.intro (fun h => ?_) (fun h => ?_)
      | refine And.intro ?_ ?_
      | refine IdxC.encMs (l := u :: r) 0 (by simp) rfl ?_
      | (refine callQ rfl rfl gf144 hK1 ?_; rintro o rfl)
      | refine callF (none_fn 30) gf49 rfl rfl ?_
      )
    all_goals (try (conv => whnf))
    all_goals exact OutX.err zG rfl
  obtain ⟨hfl, hlp⟩ := hok
  have hgood := casK_err vars l ls lw r cs hfl hls hcl hc hlw (by omega) (by omega) hb
  have hb1 : ((lw.length : Int) != (ls.length : Int)) = false := by simp [hfl]
  have hb2 : ((lw.length : Int) == 0) = false := beq_eq_false_iff_ne.2 (by omega)
  refine fnQ_of_vc txok mixed [(39, .pure 0 (.pure 1 (.pure 3 (.pure 4 (.pure 5 (.two 2 6 (.run 6 (.fin 7 (.pure 8 .done))) (.run 2 (.fin 7 (.pure 8 .done))))))))), (6, .take 0 (.pure 1 (.take 2 (.pure 3 (.take 4 (.two 5 9 (.pure 6 (.pure 7 (.pure 8 (.run 9 (.fin 10 (.pure 11 .done)))))) (.fin 5 (.pure 6 (.pure 7 (.pure 8 (.fin 10 (.pure 11 .done)))))))))))), (12, .pure 0 (.take 1 (.pure 2 (.pure 3 (.take 4 (.pure 5 (.take 6 (.pure 7 .done)))))))), (17, .take 0 (.pure 1 (.take 2 (.pure 3 (.take 4 (.two 5 9 (.pure 6 (.pure 7 (.pure 8 (.run 9 (.fin 10 (.pure 11 .done)))))) (.fin 5 (.pure 6 (.pure 7 (.pure 8 (.fin 10 (.pure 11 .done)))))))))))), (20, .pure 0 (.take 1 (.pure 2 (.pure 3 (.pure 4 (.take 5 (.pure 6 (.take 7 (.pure 8 (.pure 9 (.pure 10 (.pure 11 (.pure 12 (.take 13 (.pure 14 (.take 15 (.pure 16 (.take 17 (.take 18 (.fin 19 (.pure 20 (.pure 21 .done)))))))))))))))))))))), (23, .take 0 (.pure 1 (.take 2 (.pure 3 (.take 4 (.two 5 9 (.pure 6 (.pure 7 (.pure 8 (.run 9 (.fin 10 (.pure 11 .done)))))) (.fin 5 (.pure 6 (.pure 7 (.pure 8 (.fin 10 (.pure 11 .done)))))))))))), (32, .take 0 (.pure 1 (.take 2 (.pure 3 (.pure 4 (.take 5 (.pure 6 (.take 7 (.pure 8 (.pure 9 (.take 10 (.pure 12 (.take 13 (.pure 14 (.pure 15 (.pure 16 (.take 17 (.two 11 22 (.two 18 22 (.pure 19 (.pure 20 (.pure 21 (.run 22 (.fin 23 (.pure 24 .done)))))) (.fin 18 (.pure 19 (.pure 20 (.pure 21 (.fin 23 (.pure 24 .done))))))) (.run 11 (.fin 18 (.pure 19 (.pure 20 (.pure 21 (.fin 23 (.pure 24 .done))))))))))))))))))))))))), (39, .pure 0 (.pure 1 (.take 2 (.pure 3 (.pure 4 (.pure 5 (.take 6 (.fin 7 (.pure 8 .done)))))))))] Tryz.func93 rfl rfl (by simp) fun bb => ?_
  repeat' ((conv => whnf); first
    | refine And.intro (by kernel_rfl) ?_
    | (refine And.intro (fun h => ?_) (fun h => ?_); rotate_left; focus (exfalso; revert h; simp [MG.k, MG.ls, g_kids, hb1, hb2]; done))
    | (refine And.intro (fun h => ?_) (fun h => ?_); focus (exfalso; revert h; simp [MG.k, MG.ls, g_kids, hb1, hb2]; done))
    | refine And.intro ?_ ?_
    | refine IdxC.encMs (l := u :: r) 0 (by simp) rfl ?_
    | (refine callQ rfl rfl gf144 hK1 ?_; rintro o rfl)
    | refine loopH (fun z : Nat × List TG => z.1 ≤ ls.length ∧ casK ls lw cs vars l = mapE z.2 (casK (ls.drop z.1) (lw.drop z.1) (cs.drop z.1) vars l) ∧ z.2.length = z.1) (fun z => ls.length - z.1) (fun z => [(17, .d (.int .i64 z.1)), (16, .row 4)]) (fun z => nmHr vars l (.mk 17 n i nm ls [] (u :: r)) ++ [(3, .blk 28 (tcS (.mk 8 nw lsw lw))), (4, .row 28 64 4 z.2.length (encGs z.2))]) 5 (0, []) ⟨by simp, by rw [mapE_nil]; rfl, rfl⟩ ((weak_nlT 16 28 64 4 rfl).trans (weak_of rfl (by repeat ((conv => whnf); first | exact trivial | refine And.intro rfl ?_ | refine And.intro (incD (by omega)) ?_)) (by repeat ((conv => whnf); first | exact trivial | refine And.intro rfl ?_ | refine And.intro (incD (by omega)) ?_)))) ?_)
  all_goals
    rintro ⟨j, acc⟩ ⟨hj, hx, hal⟩
    simp only at hj hx hal
    (conv => whnf)
    refine And.intro (fun hb' => ?_) (fun hb' => ?_)
    · have hjl : j < ls.length := by have := of_decide_eq_true hb'; simp only [MG.ls] at this; omega
      have hjc : j < cs.length := by omega
      have hjf : j < lw.length := by omega
      have hjr : j < r.length := by omega
      rw [List.drop_eq_getElem_cons hjl, List.drop_eq_getElem_cons hjc, List.drop_eq_getElem_cons hjf, casK] at hx
      have hsm := szM_mem (List.getElem_mem hjr)
      have hW := rwithN_fn vars l ls[j] lw[j] (by omega)
      have hB : Bnd (l ++ [(ls[j], lw[j])]) := hb.snoc (hlw _ (List.getElem_mem hjf)).1 (hlw _ (List.getElem_mem hjf)).2
      obtain ⟨hK1, hG1, hE1⟩ := hc j hjr hjc vars (l ++ [(ls[j], lw[j])]) (by omega) (by simp only [List.length_append, List.length_cons, List.length_nil]; omega) hB
      cases hr1 : cs[j] vars (l ++ [(ls[j], lw[j])]) with
      | error e =>
        have he := hE1 e hr1
        rw [hr1] at hK1 hx
        have hx : casK ls lw cs vars l = .error e := hx
        rw [show casesE 8 lw ls cs vars l = .error e from by rw [casesE_yes hfl hlp, hx]]
        repeat' ((conv => whnf); first
          | refine IdxC.encS (l := ls) j hjl rfl ?_
          | refine And.intro (by kernel_rfl) ?_
          | (refine And.intro (fun h => ?_) (fun h => ?_); rotate_left; focus (exfalso; revert h; simp [he]; done))
          | (refine And.intro (fun h => ?_) (fun h => ?_); focus (exfalso; revert h; simp [he]; done))
          | refine And.intro ?_ ?_
          | refine IdxC.encGs (l := lw) j hjf rfl ?_
          | refine callF hW gf140 rfl rfl ?_
          | refine IdxC.encMs (l := u :: r) (j + 1) (by simp; omega) (by show IntKind.i64.wrap ((j : Int) + 1) = ((j + 1 : Nat) : Int); rw [Go.Vc.wrap_small (by omega) (by omega)]; rfl) ?_
          | refine callF hK1 gf50 rfl rfl ?_
          | refine callF (none_fn e) gf49 rfl rfl ?_)
        all_goals (try (conv => whnf))
        all_goals exact OutX.err zG rfl
      | ok t =>
        rw [hr1] at hK1 hx
        rw [mapE_cons] at hx
        obtain ⟨k1, n1, l1, m1⟩ := t
        repeat' ((conv => whnf); first
          | refine IdxC.encS (l := ls) j hjl rfl ?_
          | refine And.intro (by kernel_rfl) ?_
          | (refine And.intro (fun h => ?_) (fun h => ?_); rotate_left; focus (exfalso; revert h; decide; done))
          | (refine And.intro (fun h => ?_) (fun h => ?_); focus (exfalso; revert h; decide; done))
          | refine And.intro ?_ ?_
          | refine IdxC.encGs (l := lw) j hjf rfl ?_
          | refine callF hW gf140 rfl rfl ?_
          | refine IdxC.encMs (l := u :: r) (j + 1) (by simp; omega) (by show IntKind.i64.wrap ((j : Int) + 1) = ((j + 1 : Nat) : Int); rw [Go.Vc.wrap_small (by omega) (by omega)]; rfl) ?_
          | refine callF hK1 gf50 rfl rfl ?_
          | refine appR (i := 4) (sz := 4) (n := acc.length) (m := 1) (xs := encGs acc) (ys := encGs [TG.mk k1 n1 l1 m1]) txok (fun k => Nat.ble 5 k) (acc ++ [TG.mk k1 n1 l1 m1]).length (encGs (acc ++ [TG.mk k1 n1 l1 m1])) (by exact rfl) (by exact rfl) (by exact rfl) (by kernel_rfl) (by exact rfl) (encGs_scal _) (by simp) (by rw [encGs_app]) (by simp only [LB, List.length_append, List.length_cons, List.length_nil]; omega) ?_)
        all_goals (try (conv => whnf))
        all_goals
          rw [incD (by omega)]
          exact again (j + 1, acc ++ [TG.mk k1 n1 l1 m1]) (by simp; omega) ⟨by simp; omega, hx, by simp; omega⟩ (weak_of rfl (by repeat ((conv => whnf); first | exact trivial | refine And.intro rfl ?_ | refine And.intro (incD (by omega)) ?_)) (by repeat ((conv => whnf); first | exact trivial | refine And.intro rfl ?_ | refine And.intro (incD (by omega)) ?_)))
    · have hj : j = ls.length := by have := of_decide_eq_false hb'; simp only [MG.ls] at this; omega
      subst hj
      rw [List.drop_eq_nil_of_le (Nat.le_refl _)] at hx
      have hx : casK ls lw cs vars l = .ok acc := by rw [hx]; simp [casK, mapE]
      obtain ⟨hul, hug⟩ := hgood acc hx
      obtain ⟨a, rest, rfl⟩ : ∃ a rest, acc = a :: rest := by
        cases acc with
        | nil => simp at hul; omega
        | cons a r => exact ⟨a, r, rfl⟩
      (conv => whnf)
      refine loopH (fun j : Nat => 1 ≤ j ∧ j ≤ (a :: rest).length ∧ ∀ (q : Nat) (h : q < (a :: rest).length), q < j → samG (a :: rest)[q] a [] [] = true) (fun j => (a :: rest).length - j) (fun j => [(20, .d (.int .i64 j))]) (fun _ => nmHr vars l (.mk 17 n i nm ls [] (u :: r)) ++ [(3, .blk 28 (tcS (.mk 8 nw lsw lw))), (4, .row 28 64 4 (a :: rest).length (encGs (a :: rest)))]) 5 1 ⟨Nat.le_refl _, by simp, fun q h hq => by (have e : q = 0 := (by omega)); subst e; exact sam_refl a []⟩ (weak_of rfl (by repeat ((conv => whnf); first | exact trivial | refine And.intro rfl ?_ | refine And.intro (incD (by omega)) ?_)) (by repeat ((conv => whnf); first | exact trivial | refine And.intro rfl ?_ | refine And.intro (incD (by omega)) ?_))) ?_
      rintro j ⟨hj1, hj, hall⟩
      (conv => whnf)
      refine And.intro (fun hb' => ?_) (fun hb' => ?_)
      · have hjl : j < (a :: rest).length := by have := of_decide_eq_true hb'; omega
        have hg := hug _ (List.getElem_mem hjl)
        have ha := hug a (by simp)
        have hS := rsameTop_fn a (a :: rest)[j] (by omega)
        have hsy := sam_symB (s := []) (t := []) rfl (allG_okV ha.1) (allG_okV hg.1)
        cases hs : samG (a :: rest)[j] a [] [] with
        | false =>
          rw [hsy, hs] at hS
          have hno : allSame (a :: rest) = false := by
            unfold allSame
            rw [List.all_eq_false]
            exact ⟨_, List.getElem_mem hjl, by rw [show (a :: rest).headD zG = a from rfl, hs]; decide⟩
          rw [show casesE 8 lw ls cs vars l = .error 30 from by rw [casesE_yes hfl hlp, hx]; show askE (allSame (a :: rest)) (.ok a) = _; rw [hno]; rfl]
          repeat' ((conv => whnf); first
            | refine ⟨0, rfl, Nat.zero_lt_succ _, ?_⟩
            | refine ⟨j, rfl, hjl, ?_⟩
            | refine ⟨encG a, encGs_at (a :: rest) 0 (Nat.zero_lt_succ _), rfl, ?_⟩
            | refine ⟨encG (a :: rest)[j], encGs_at (a :: rest) j hjl, rfl, ?_⟩
            | refine And.intro (by kernel_rfl) ?_
            | (refine And.intro (fun h => ?_) (fun h => ?_); rotate_left; focus (exfalso; revert h; decide; done))
            | (refine And.intro (fun h => ?_) (fun h => ?_); focus (exfalso; revert h; decide; done))
            | refine And.intro ?_ ?_
            | refine callF hS gf10 rfl rfl ?_
            | refine callF (none_fn 30) gf49 rfl rfl ?_)
          all_goals (try (conv => whnf))
          all_goals exact OutX.err zG rfl
        | true =>
          rw [hsy, hs] at hS
          repeat' ((conv => whnf); first
            | refine ⟨0, rfl, Nat.zero_lt_succ _, ?_⟩
            | refine ⟨j, rfl, hjl, ?_⟩
            | refine ⟨encG a, encGs_at (a :: rest) 0 (Nat.zero_lt_succ _), rfl, ?_⟩
            | refine ⟨encG (a :: rest)[j], encGs_at (a :: rest) j hjl, rfl, ?_⟩
            | refine And.intro (by kernel_rfl) ?_
            | (refine And.intro (fun h => ?_) (fun h => ?_); rotate_left; focus (exfalso; revert h; decide; done))
            | (refine And.intro (fun h => ?_) (fun h => ?_); focus (exfalso; revert h; decide; done))
            | refine And.intro ?_ ?_
            | refine callF hS gf10 rfl rfl ?_)
          all_goals (try (conv => whnf))
          all_goals
            rw [incD (by simp only [List.length_cons] at hjl hul; omega)]
            refine again (j + 1) (by omega) ⟨by omega, by omega, fun q h hq => ?_⟩ (weak_of rfl (by repeat ((conv => whnf); first | exact trivial | refine And.intro rfl ?_ | refine And.intro (incD (by omega)) ?_)) (by repeat ((conv => whnf); first | exact trivial | refine And.intro rfl ?_ | refine And.intro (incD (by omega)) ?_)))
            by_cases e : q = j
            · subst e; exact hs
            · exact hall q h (by omega)
      · have hjl : j = (a :: rest).length := by have := of_decide_eq_false hb'; omega
        have hyes : allSame (a :: rest) = true := by
          unfold allSame
          rw [List.all_eq_true]
          intro x hx
          obtain ⟨q, hq, rfl⟩ := List.mem_iff_getElem.1 hx
          exact hall q hq (by omega)
        rw [show casesE 8 lw ls cs vars l = .ok a from by rw [casesE_yes hfl hlp, hx]; show askE (allSame (a :: rest)) (.ok a) = _; rw [hyes]; rfl]
        repeat' ((conv => whnf); first
          | exact rfl
          | refine ⟨0, rfl, Nat.zero_lt_succ _, ?_⟩
          | refine ⟨encG a, encGs_at (a :: rest) 0 (Nat.zero_lt_succ _), rfl, ?_⟩)
        all_goals (try (conv => whnf))
        all_goals (try exact rfl)
end Go.Proofs.YtcjkikadolnfgaaGreat


/- The reference's term, group by group (printed by gxt.py). -/
set_option linter.unusedSimpArgs false
set_option linter.unusedVariables false
namespace Go.Proofs.YtcjkikadolnfgaaGreat
open Go.Vx Go.Vc Go.RowKit
set_option maxRecDepth 20000 in
set_option maxHeartbeats 4000000 in
theorem t_plain (k : Int) (hk : k = 1 ∨ k = 2 ∨ k = 3 ∨ k = 4 ∨ k = 24 ∨ k = 25) (vars : List Int) (l : List Bd) (n i : Int) (nm : ByteArray) (ls : List ByteArray) (ts : List TG) (ks : List MG) (r : Except Int TG) (hz : ∀ t ∈ ts, szG t < 1099511627776) (hg : insAll vars ts = true → FnQ Tryz.prog G0 90 [dSc vars l, dM (.mk k n i nm ls ts ks)] (OutX r)) (he : ∀ e, r = .error e → e ≠ 0) (hr : ∀ t, r = .ok t → szG t < 4611686018427387904) : FnR Tryz.prog G0 50 [dSc vars l, dM (.mk k n i nm ls ts ks)] (outE (if insAll vars ts = true then fitE r else .error 30)) := by
  have hS := scoped_fn vars l (.mk k n i nm ls ts ks) hz
  refine boC (insAll vars ts) (fun hi => ?_) (fun hi => ?_)
  · rw [show insAll vars (MG.ts (.mk k n i nm ls ts ks)) = false from hi] at hS
    rw [hi]
    refine fnQ_of_vc txok mixed [] Tryz.func50 rfl rfl (by simp) fun bb => ?_
    repeat' ((conv => whnf); first
      | (refine And.intro (fun h => ?_) (fun h => ?_); rotate_left; focus (exfalso; revert h; decide; done))
      | refine callF hS gf89 rfl rfl ?_
      | refine callF (none_fn 30) gf49 rfl rfl ?_)
    all_goals (try (conv => whnf))
    all_goals exact rfl
  rw [show insAll vars (MG.ts (.mk k n i nm ls ts ks)) = true from hi] at hS
  have hg := hg hi
  rw [hi]
  rcases hk with rfl | rfl | rfl | rfl | rfl | rfl
  all_goals
    have hne : True := trivial
    refine exC r (fun e hre => ?_) (fun t hrt => ?_)
    · subst hre
      have hne := he e rfl
      refine fnQ_of_vc txok mixed [] Tryz.func50 rfl rfl (by simp) fun bb => ?_
      repeat' ((conv => whnf); first
        | (refine And.intro (fun h => ?_) (fun h => ?_); rotate_left; focus (exfalso; revert h; simp [MG.k, hne]; done))
        | (refine And.intro (fun h => ?_) (fun h => ?_); focus (exfalso; revert h; simp [MG.k, hne]; done))
        | refine callF hS gf89 rfl rfl ?_
        | (refine callQ rfl rfl gf90 hg ?_; rintro o ⟨x, rfl⟩; obtain ⟨kx, nx, lsx, lx⟩ := x)
        | refine callF (none_fn e) gf49 rfl rfl ?_)
      all_goals (try (conv => whnf))
      all_goals exact rfl
    subst hrt
    have hF := rfits_fn t (hr t rfl)
    obtain ⟨kt, nt, lst, lt⟩ := t
    show FnR _ _ _ _ (outE (fitR (.mk kt nt lst lt)))
    cases hq : fitR (.mk kt nt lst lt)
    all_goals
      rw [hq] at hF
      refine fnQ_of_vc txok mixed [] Tryz.func50 rfl rfl (by simp) fun bb => ?_
      repeat' ((conv => whnf); first
        | (refine And.intro (fun h => ?_) (fun h => ?_); rotate_left; focus (exfalso; revert h; simp [MG.k]; done))
        | (refine And.intro (fun h => ?_) (fun h => ?_); focus (exfalso; revert h; simp [MG.k]; done))
        | refine callF hS gf89 rfl rfl ?_
        | (refine callQ rfl rfl gf90 hg ?_; rintro o rfl)
        | refine callF hF gf96 rfl rfl ?_)
      all_goals (try (conv => whnf))
      all_goals exact rfl
set_option maxRecDepth 20000 in
set_option maxHeartbeats 4000000 in
theorem t_function (k : Int) (hk : k = 5 ∨ k = 6 ∨ k = 7 ∨ k = 8) (vars : List Int) (l : List Bd) (n i : Int) (nm : ByteArray) (ls : List ByteArray) (ts : List TG) (ks : List MG) (r : Except Int TG) (hz : ∀ t ∈ ts, szG t < 1099511627776) (hg : insAll vars ts = true → FnQ Tryz.prog G0 91 [dSc vars l, dM (.mk k n i nm ls ts ks)] (OutX r)) (he : ∀ e, r = .error e → e ≠ 0) (hr : ∀ t, r = .ok t → szG t < 4611686018427387904) : FnR Tryz.prog G0 50 [dSc vars l, dM (.mk k n i nm ls ts ks)] (outE (if insAll vars ts = true then fitE r else .error 30)) := by
  have hS := scoped_fn vars l (.mk k n i nm ls ts ks) hz
  refine boC (insAll vars ts) (fun hi => ?_) (fun hi => ?_)
  · rw [show insAll vars (MG.ts (.mk k n i nm ls ts ks)) = false from hi] at hS
    rw [hi]
    refine fnQ_of_vc txok mixed [] Tryz.func50 rfl rfl (by simp) fun bb => ?_
    repeat' ((conv => whnf); first
      | (refine And.intro (fun h => ?_) (fun h => ?_); rotate_left; focus (exfalso; revert h; decide; done))
      | refine callF hS gf89 rfl rfl ?_
      | refine callF (none_fn 30) gf49 rfl rfl ?_)
    all_goals (try (conv => whnf))
    all_goals exact rfl
  rw [show insAll vars (MG.ts (.mk k n i nm ls ts ks)) = true from hi] at hS
  have hg := hg hi
  rw [hi]
  rcases hk with rfl | rfl | rfl | rfl
  all_goals
    have hne : True := trivial
    refine exC r (fun e hre => ?_) (fun t hrt => ?_)
    · subst hre
      have hne := he e rfl
      refine fnQ_of_vc txok mixed [] Tryz.func50 rfl rfl (by simp) fun bb => ?_
      repeat' ((conv => whnf); first
        | (refine And.intro (fun h => ?_) (fun h => ?_); rotate_left; focus (exfalso; revert h; simp [MG.k, hne]; done))
        | (refine And.intro (fun h => ?_) (fun h => ?_); focus (exfalso; revert h; simp [MG.k, hne]; done))
        | refine callF hS gf89 rfl rfl ?_
        | (refine callQ rfl rfl gf91 hg ?_; rintro o ⟨x, rfl⟩; obtain ⟨kx, nx, lsx, lx⟩ := x)
        | refine callF (none_fn e) gf49 rfl rfl ?_)
      all_goals (try (conv => whnf))
      all_goals exact rfl
    subst hrt
    have hF := rfits_fn t (hr t rfl)
    obtain ⟨kt, nt, lst, lt⟩ := t
    show FnR _ _ _ _ (outE (fitR (.mk kt nt lst lt)))
    cases hq : fitR (.mk kt nt lst lt)
    all_goals
      rw [hq] at hF
      refine fnQ_of_vc txok mixed [] Tryz.func50 rfl rfl (by simp) fun bb => ?_
      repeat' ((conv => whnf); first
        | (refine And.intro (fun h => ?_) (fun h => ?_); rotate_left; focus (exfalso; revert h; simp [MG.k]; done))
        | (refine And.intro (fun h => ?_) (fun h => ?_); focus (exfalso; revert h; simp [MG.k]; done))
        | refine callF hS gf89 rfl rfl ?_
        | (refine callQ rfl rfl gf91 hg ?_; rintro o rfl)
        | refine callF hF gf96 rfl rfl ?_)
      all_goals (try (conv => whnf))
      all_goals exact rfl
set_option maxRecDepth 20000 in
set_option maxHeartbeats 4000000 in
theorem t_simple (k : Int) (hk : k = 9 ∨ k = 10 ∨ k = 11 ∨ k = 12 ∨ k = 13) (vars : List Int) (l : List Bd) (n i : Int) (nm : ByteArray) (ls : List ByteArray) (ts : List TG) (ks : List MG) (r : Except Int TG) (hz : ∀ t ∈ ts, szG t < 1099511627776) (hg : insAll vars ts = true → FnQ Tryz.prog G0 92 [dSc vars l, dM (.mk k n i nm ls ts ks)] (OutX r)) (he : ∀ e, r = .error e → e ≠ 0) (hr : ∀ t, r = .ok t → szG t < 4611686018427387904) : FnR Tryz.prog G0 50 [dSc vars l, dM (.mk k n i nm ls ts ks)] (outE (if insAll vars ts = true then fitE r else .error 30)) := by
  have hS := scoped_fn vars l (.mk k n i nm ls ts ks) hz
  refine boC (insAll vars ts) (fun hi => ?_) (fun hi => ?_)
  · rw [show insAll vars (MG.ts (.mk k n i nm ls ts ks)) = false from hi] at hS
    rw [hi]
    refine fnQ_of_vc txok mixed [] Tryz.func50 rfl rfl (by simp) fun bb => ?_
    repeat' ((conv => whnf); first
      | (refine And.intro (fun h => ?_) (fun h => ?_); rotate_left; focus (exfalso; revert h; decide; done))
      | refine callF hS gf89 rfl rfl ?_
      | refine callF (none_fn 30) gf49 rfl rfl ?_)
    all_goals (try (conv => whnf))
    all_goals exact rfl
  rw [show insAll vars (MG.ts (.mk k n i nm ls ts ks)) = true from hi] at hS
  have hg := hg hi
  rw [hi]
  rcases hk with rfl | rfl | rfl | rfl | rfl
  all_goals
    have hne : True := trivial
    refine exC r (fun e hre => ?_) (fun t hrt => ?_)
    · subst hre
      have hne := he e rfl
      refine fnQ_of_vc txok mixed [] Tryz.func50 rfl rfl (by simp) fun bb => ?_
      repeat' ((conv => whnf); first
        | (refine And.intro (fun h => ?_) (fun h => ?_); rotate_left; focus (exfalso; revert h; simp [MG.k, hne]; done))
        | (refine And.intro (fun h => ?_) (fun h => ?_); focus (exfalso; revert h; simp [MG.k, hne]; done))
        | refine callF hS gf89 rfl rfl ?_
        | (refine callQ rfl rfl gf92 hg ?_; rintro o ⟨x, rfl⟩; obtain ⟨kx, nx, lsx, lx⟩ := x)
        | refine callF (none_fn e) gf49 rfl rfl ?_)
      all_goals (try (conv => whnf))
      all_goals exact rfl
    subst hrt
    have hF := rfits_fn t (hr t rfl)
    obtain ⟨kt, nt, lst, lt⟩ := t
    show FnR _ _ _ _ (outE (fitR (.mk kt nt lst lt)))
    cases hq : fitR (.mk kt nt lst lt)
    all_goals
      rw [hq] at hF
      refine fnQ_of_vc txok mixed [] Tryz.func50 rfl rfl (by simp) fun bb => ?_
      repeat' ((conv => whnf); first
        | (refine And.intro (fun h => ?_) (fun h => ?_); rotate_left; focus (exfalso; revert h; simp [MG.k]; done))
        | (refine And.intro (fun h => ?_) (fun h => ?_); focus (exfalso; revert h; simp [MG.k]; done))
        | refine callF hS gf89 rfl rfl ?_
        | (refine callQ rfl rfl gf92 hg ?_; rintro o rfl)
        | refine callF hF gf96 rfl rfl ?_)
      all_goals (try (conv => whnf))
      all_goals exact rfl
set_option maxRecDepth 20000 in
set_option maxHeartbeats 4000000 in
theorem t_data (k : Int) (hk : k = 14 ∨ k = 15 ∨ k = 16 ∨ k = 17) (vars : List Int) (l : List Bd) (n i : Int) (nm : ByteArray) (ls : List ByteArray) (ts : List TG) (ks : List MG) (r : Except Int TG) (hz : ∀ t ∈ ts, szG t < 1099511627776) (hg : insAll vars ts = true → FnQ Tryz.prog G0 93 [dSc vars l, dM (.mk k n i nm ls ts ks)] (OutX r)) (he : ∀ e, r = .error e → e ≠ 0) (hr : ∀ t, r = .ok t → szG t < 4611686018427387904) : FnR Tryz.prog G0 50 [dSc vars l, dM (.mk k n i nm ls ts ks)] (outE (if insAll vars ts = true then fitE r else .error 30)) := by
  have hS := scoped_fn vars l (.mk k n i nm ls ts ks) hz
  refine boC (insAll vars ts) (fun hi => ?_) (fun hi => ?_)
  · rw [show insAll vars (MG.ts (.mk k n i nm ls ts ks)) = false from hi] at hS
    rw [hi]
    refine fnQ_of_vc txok mixed [] Tryz.func50 rfl rfl (by simp) fun bb => ?_
    repeat' ((conv => whnf); first
      | (refine And.intro (fun h => ?_) (fun h => ?_); rotate_left; focus (exfalso; revert h; decide; done))
      | refine callF hS gf89 rfl rfl ?_
      | refine callF (none_fn 30) gf49 rfl rfl ?_)
    all_goals (try (conv => whnf))
    all_goals exact rfl
  rw [show insAll vars (MG.ts (.mk k n i nm ls ts ks)) = true from hi] at hS
  have hg := hg hi
  rw [hi]
  rcases hk with rfl | rfl | rfl | rfl
  all_goals
    have hne : True := trivial
    refine exC r (fun e hre => ?_) (fun t hrt => ?_)
    · subst hre
      have hne := he e rfl
      refine fnQ_of_vc txok mixed [] Tryz.func50 rfl rfl (by simp) fun bb => ?_
      repeat' ((conv => whnf); first
        | (refine And.intro (fun h => ?_) (fun h => ?_); rotate_left; focus (exfalso; revert h; simp [MG.k, hne]; done))
        | (refine And.intro (fun h => ?_) (fun h => ?_); focus (exfalso; revert h; simp [MG.k, hne]; done))
        | refine callF hS gf89 rfl rfl ?_
        | (refine callQ rfl rfl gf93 hg ?_; rintro o ⟨x, rfl⟩; obtain ⟨kx, nx, lsx, lx⟩ := x)
        | refine callF (none_fn e) gf49 rfl rfl ?_)
      all_goals (try (conv => whnf))
      all_goals exact rfl
    subst hrt
    have hF := rfits_fn t (hr t rfl)
    obtain ⟨kt, nt, lst, lt⟩ := t
    show FnR _ _ _ _ (outE (fitR (.mk kt nt lst lt)))
    cases hq : fitR (.mk kt nt lst lt)
    all_goals
      rw [hq] at hF
      refine fnQ_of_vc txok mixed [] Tryz.func50 rfl rfl (by simp) fun bb => ?_
      repeat' ((conv => whnf); first
        | (refine And.intro (fun h => ?_) (fun h => ?_); rotate_left; focus (exfalso; revert h; simp [MG.k]; done))
        | (refine And.intro (fun h => ?_) (fun h => ?_); focus (exfalso; revert h; simp [MG.k]; done))
        | refine callF hS gf89 rfl rfl ?_
        | (refine callQ rfl rfl gf93 hg ?_; rintro o rfl)
        | refine callF hF gf96 rfl rfl ?_)
      all_goals (try (conv => whnf))
      all_goals exact rfl
set_option maxRecDepth 20000 in
set_option maxHeartbeats 4000000 in
theorem t_folded (k : Int) (hk : k = 18 ∨ k = 19) (vars : List Int) (l : List Bd) (n i : Int) (nm : ByteArray) (ls : List ByteArray) (ts : List TG) (ks : List MG) (r : Except Int TG) (hz : ∀ t ∈ ts, szG t < 1099511627776) (hg : insAll vars ts = true → FnQ Tryz.prog G0 94 [dSc vars l, dM (.mk k n i nm ls ts ks)] (OutX r)) (he : ∀ e, r = .error e → e ≠ 0) (hr : ∀ t, r = .ok t → szG t < 4611686018427387904) : FnR Tryz.prog G0 50 [dSc vars l, dM (.mk k n i nm ls ts ks)] (outE (if insAll vars ts = true then fitE r else .error 30)) := by
  have hS := scoped_fn vars l (.mk k n i nm ls ts ks) hz
  refine boC (insAll vars ts) (fun hi => ?_) (fun hi => ?_)
  · rw [show insAll vars (MG.ts (.mk k n i nm ls ts ks)) = false from hi] at hS
    rw [hi]
    refine fnQ_of_vc txok mixed [] Tryz.func50 rfl rfl (by simp) fun bb => ?_
    repeat' ((conv => whnf); first
      | (refine And.intro (fun h => ?_) (fun h => ?_); rotate_left; focus (exfalso; revert h; decide; done))
      | refine callF hS gf89 rfl rfl ?_
      | refine callF (none_fn 30) gf49 rfl rfl ?_)
    all_goals (try (conv => whnf))
    all_goals exact rfl
  rw [show insAll vars (MG.ts (.mk k n i nm ls ts ks)) = true from hi] at hS
  have hg := hg hi
  rw [hi]
  rcases hk with rfl | rfl
  all_goals
    have hne : True := trivial
    refine exC r (fun e hre => ?_) (fun t hrt => ?_)
    · subst hre
      have hne := he e rfl
      refine fnQ_of_vc txok mixed [] Tryz.func50 rfl rfl (by simp) fun bb => ?_
      repeat' ((conv => whnf); first
        | (refine And.intro (fun h => ?_) (fun h => ?_); rotate_left; focus (exfalso; revert h; simp [MG.k, hne]; done))
        | (refine And.intro (fun h => ?_) (fun h => ?_); focus (exfalso; revert h; simp [MG.k, hne]; done))
        | refine callF hS gf89 rfl rfl ?_
        | (refine callQ rfl rfl gf94 hg ?_; rintro o ⟨x, rfl⟩; obtain ⟨kx, nx, lsx, lx⟩ := x)
        | refine callF (none_fn e) gf49 rfl rfl ?_)
      all_goals (try (conv => whnf))
      all_goals exact rfl
    subst hrt
    have hF := rfits_fn t (hr t rfl)
    obtain ⟨kt, nt, lst, lt⟩ := t
    show FnR _ _ _ _ (outE (fitR (.mk kt nt lst lt)))
    cases hq : fitR (.mk kt nt lst lt)
    all_goals
      rw [hq] at hF
      refine fnQ_of_vc txok mixed [] Tryz.func50 rfl rfl (by simp) fun bb => ?_
      repeat' ((conv => whnf); first
        | (refine And.intro (fun h => ?_) (fun h => ?_); rotate_left; focus (exfalso; revert h; simp [MG.k]; done))
        | (refine And.intro (fun h => ?_) (fun h => ?_); focus (exfalso; revert h; simp [MG.k]; done))
        | refine callF hS gf89 rfl rfl ?_
        | (refine callQ rfl rfl gf94 hg ?_; rintro o rfl)
        | refine callF hF gf96 rfl rfl ?_)
      all_goals (try (conv => whnf))
      all_goals exact rfl
set_option maxRecDepth 20000 in
set_option maxHeartbeats 4000000 in
theorem t_general (k : Int) (hk : k = 20 ∨ k = 21 ∨ k = 22 ∨ k = 23) (vars : List Int) (l : List Bd) (n i : Int) (nm : ByteArray) (ls : List ByteArray) (ts : List TG) (ks : List MG) (r : Except Int TG) (hz : ∀ t ∈ ts, szG t < 1099511627776) (hg : insAll vars ts = true → FnQ Tryz.prog G0 95 [dSc vars l, dM (.mk k n i nm ls ts ks)] (OutX r)) (he : ∀ e, r = .error e → e ≠ 0) (hr : ∀ t, r = .ok t → szG t < 4611686018427387904) : FnR Tryz.prog G0 50 [dSc vars l, dM (.mk k n i nm ls ts ks)] (outE (if insAll vars ts = true then fitE r else .error 30)) := by
  have hS := scoped_fn vars l (.mk k n i nm ls ts ks) hz
  refine boC (insAll vars ts) (fun hi => ?_) (fun hi => ?_)
  · rw [show insAll vars (MG.ts (.mk k n i nm ls ts ks)) = false from hi] at hS
    rw [hi]
    refine fnQ_of_vc txok mixed [] Tryz.func50 rfl rfl (by simp) fun bb => ?_
    repeat' ((conv => whnf); first
      | (refine And.intro (fun h => ?_) (fun h => ?_); rotate_left; focus (exfalso; revert h; decide; done))
      | refine callF hS gf89 rfl rfl ?_
      | refine callF (none_fn 30) gf49 rfl rfl ?_)
    all_goals (try (conv => whnf))
    all_goals exact rfl
  rw [show insAll vars (MG.ts (.mk k n i nm ls ts ks)) = true from hi] at hS
  have hg := hg hi
  rw [hi]
  rcases hk with rfl | rfl | rfl | rfl
  all_goals
    have hne : True := trivial
    refine exC r (fun e hre => ?_) (fun t hrt => ?_)
    · subst hre
      have hne := he e rfl
      refine fnQ_of_vc txok mixed [] Tryz.func50 rfl rfl (by simp) fun bb => ?_
      repeat' ((conv => whnf); first
        | (refine And.intro (fun h => ?_) (fun h => ?_); rotate_left; focus (exfalso; revert h; simp [MG.k, hne]; done))
        | (refine And.intro (fun h => ?_) (fun h => ?_); focus (exfalso; revert h; simp [MG.k, hne]; done))
        | refine callF hS gf89 rfl rfl ?_
        | (refine callQ rfl rfl gf95 hg ?_; rintro o ⟨x, rfl⟩; obtain ⟨kx, nx, lsx, lx⟩ := x)
        | refine callF (none_fn e) gf49 rfl rfl ?_)
      all_goals (try (conv => whnf))
      all_goals exact rfl
    subst hrt
    have hF := rfits_fn t (hr t rfl)
    obtain ⟨kt, nt, lst, lt⟩ := t
    show FnR _ _ _ _ (outE (fitR (.mk kt nt lst lt)))
    cases hq : fitR (.mk kt nt lst lt)
    all_goals
      rw [hq] at hF
      refine fnQ_of_vc txok mixed [] Tryz.func50 rfl rfl (by simp) fun bb => ?_
      repeat' ((conv => whnf); first
        | (refine And.intro (fun h => ?_) (fun h => ?_); rotate_left; focus (exfalso; revert h; simp [MG.k]; done))
        | (refine And.intro (fun h => ?_) (fun h => ?_); focus (exfalso; revert h; simp [MG.k]; done))
        | refine callF hS gf89 rfl rfl ?_
        | (refine callQ rfl rfl gf95 hg ?_; rintro o rfl)
        | refine callF hF gf96 rfl rfl ?_)
      all_goals (try (conv => whnf))
      all_goals exact rfl
end Go.Proofs.YtcjkikadolnfgaaGreat


/- The reference's checker is the plain one, too. -/
set_option linter.unusedSimpArgs false
set_option linter.unusedVariables false
namespace Go.Proofs.YtcjkikadolnfgaaGreat
open Go.Vx Go.Vc Go.RowKit
def ErrOk (r : Except Int TG) : Prop := ∀ e, r = .error e → e ≠ 0
def GoodX (B : Nat) (r : Except Int TG) : Prop := (∀ t, r = .ok t → allG t = true ∧ szG t ≤ B) ∧ ErrOk r
theorem GoodX.err {B : Nat} {e : Int} (h : e ≠ 0) : GoodX B (.error e) := ⟨nofun, fun e' h' => by injection h' with h'; subst h'; exact h⟩
theorem GoodX.ok {B : Nat} {t : TG} (h : allG t = true) (hz : szG t ≤ B) : GoodX B (.ok t) := ⟨fun t' h' => (by injection h' with h'; subst h'; exact ⟨h, hz⟩), nofun⟩
theorem GoodX.bE {A B : Nat} {r : Except Int TG} {f : TG → Except Int TG} (h : GoodX A r) (hf : ∀ t, r = .ok t → allG t = true → szG t ≤ A → GoodX B (f t)) : GoodX B (bE r f) := by
  cases r with
  | error e => exact GoodX.err (h.2 e rfl)
  | ok t => exact hf t rfl (h.1 t rfl).1 (h.1 t rfl).2
theorem GoodX.ask {B : Nat} {c : Bool} {r : Except Int TG} (h : c = true → GoodX B r) : GoodX B (askE c r) := by
  cases c
  · exact GoodX.err (by decide)
  · exact h rfl
theorem GoodX.up {A B : Nat} {r : Except Int TG} (h : GoodX A r) (hab : A ≤ B) : GoodX B r := ⟨fun t ht => ⟨(h.1 t ht).1, Nat.le_trans (h.1 t ht).2 hab⟩, h.2⟩
theorem GoodX.fit {B : Nat} {r : Except Int TG} (h : GoodX B r) : GoodX 1048576 (fitE r) := by
  cases r with
  | error e => exact GoodX.err (h.2 e rfl)
  | ok t =>
    show GoodX 1048576 (fitR t)
    unfold fitR
    split
    · exact GoodX.ok (h.1 t rfl).1 (by assumption)
    · exact GoodX.err (by decide)
theorem GoodX.put {t y : TG} {n : Int} (ht : allG t = true) (hy : allG y = true) : GoodX 1048576 (rputR t n y) := by
  cases h : rputR t n y with
  | error e => exact GoodX.err (rputR_err h)
  | ok w => exact GoodX.ok (rputR_good ht hy h).1 (rputR_good ht hy h).2
theorem GoodX.kid {u : MG} {c : Chk} (h : RKid u c) {vars : List Int} {l : List Bd} (hv : vars.length + szM u ≤ 549755813888) (hl : l.length + 2 * szM u ≤ 549755813888) (hb : Bnd l) : GoodX 1048576 (c vars l) := (h vars l hv hl hb).2
theorem GoodX.fitR {t : TG} (h : allG t = true) : GoodX 1048576 (fitR t) := by
  unfold Go.Proofs.YtcjkikadolnfgaaGreat.fitR
  split
  · exact GoodX.ok h (by assumption)
  · exact GoodX.err (by decide)
theorem GoodX.look {l : List Bd} (hb : Bnd l) (nm : ByteArray) : GoodX 1073741824 (lookR l nm) := by
  cases h : lookR l nm with
  | error e =>
    refine GoodX.err ?_
    unfold lookR at h
    split at h
    · cases h
    · injection h with h; subst h; decide
  | ok t =>
    unfold lookR at h
    split at h
    · rename_i b hb'
      injection h with h; subst h
      have := hb b (by have := List.mem_of_find?_eq_some hb'; simpa using this)
      exact GoodX.ok this.1 this.2
    · cases h
theorem kidG_in {k n : Int} {ls : List ByteArray} {l : List TG} (h : allG (.mk k n ls l) = true) (j : Nat) (hj : j < l.length) : allG (kidG (.mk k n ls l) j) = true ∧ szG (kidG (.mk k n ls l) j) < szG (.mk k n ls l) := by
  have e : kidG (.mk k n ls l) j = l[j] := by simp only [kidG, g_kids]; rw [List.getD_eq_getElem?_getD, List.getElem?_eq_getElem hj]; rfl
  rw [e]
  have := szG_mem (List.getElem_mem hj)
  exact ⟨((allG_mk ..).1 h).2 _ (List.getElem_mem hj), by simp only [szG]; omega⟩
theorem kidG_two {t : TG} {k : Int} (hk : k = 4 ∨ k = 5) (e : (t.k == k) = true) (h : allG t = true) : (allG (kidG t 0) = true ∧ szG (kidG t 0) < szG t) ∧ (allG (kidG t 1) = true ∧ szG (kidG t 1) < szG t) := by
  obtain ⟨k', n, ls, l⟩ := t
  have e : k' = k := by simpa [g_k] using e
  subst e
  obtain ⟨rfl, rfl, a, b, rfl⟩ := shp2 hk ((allG_mk ..).1 h).1
  exact ⟨kidG_in h 0 (by simp), kidG_in h 1 (by simp)⟩
theorem kidG_one {t : TG} {k : Int} (hk : k = 9 ∨ k = 10 ∨ k = 11) (e : (t.k == k) = true) (h : allG t = true) : allG (kidG t 0) = true ∧ szG (kidG t 0) < szG t := by
  obtain ⟨k', n, ls, l⟩ := t
  have e : k' = k := by simpa [g_k] using e
  subst e
  obtain ⟨rfl, a, rfl⟩ := shp1 hk ((allG_mk ..).1 h).1
  exact kidG_in h 0 (by simp)
end Go.Proofs.YtcjkikadolnfgaaGreat


