/- Texts of mine, joined: Bm Bn Zw Bo Bp Bq Ca Ak Cb Fa Fb Fc. -/
import Derived.Test.YtcjkikadolnfgaaGreatPas
import Derived.RangeFuncBox
import Derived.RangeFuncLeaves
import Derived.RangeFuncNested
import Derived.Shelf.Abstract
import Derived.WalkKit
import Derived.OwnWalkIn
import Derived.TacticsInMore
import Derived.LoopNIn
import Derived.LoopIn
import Derived.Test.YtcjkikadolnfgaaGreatPaq
/- How deep a term is; RightTerm. -/
set_option linter.unusedSimpArgs false
set_option linter.unusedVariables false
namespace Go.Proofs.YtcjkikadolnfgaaGreat
open Go.Vx Go.Vc Go.RowKit
mutual
def depM : MG → Nat
  | .mk _ _ _ _ _ ts ks => max (depGs ts) (depMs ks) + 1
def depMs : List MG → Nat
  | [] => 0
  | t :: r => max (depM t) (depMs r)
end
theorem depMs_app : ∀ l m : List MG, depMs (l ++ m) = max (depMs l) (depMs m)
  | [], m => by simp [depMs]
  | t :: r, m => by simp only [List.cons_append, depMs, depMs_app r m]; omega
theorem depMs_take {l : List MG} {i : Nat} (h : i < l.length) : depMs (l.take (i + 1)) = max (depMs (l.take i)) (depM l[i]) := by
  rw [List.take_succ_eq_append_getElem h, depMs_app]; simp [depMs]
set_option maxRecDepth 20000 in
theorem depthTerm_fn : ∀ (m : MG) (at' : Nat), 1 ≤ at' → at' ≤ 100001 → FnR Tryz.prog G0 79 [dM m, .int .i64 at'] (.int .i64 (min (at' + depM m - 1) 100001 : Nat)) := by
  refine MG.ind fun k n i nm ls ts ks ih q hq0 hq => ?_
  refine fnQ_sz fun hs => ?_
  have hl := (szOk_M hs.1).1
  have hl2 := (szOk_M hs.1).2.2.1
  simp only [MG.ks, MG.ts, LB] at hl hl2
  have hd : depM (.mk k n i nm ls ts ks) = max (depGs ts) (depMs ks) + 1 := by simp only [depM]
  rw [hd]
  refine fnQ_of_wk (N := 43) txok mixed Tryz.func79 rfl rfl (by simp) fun b => ?_
  refine wk_seq ⟨[(1, .d (.int .i64 (q : Int))), (2, .own 0 0)], [(0, .blk 26 (tmS (.mk k n i nm ls ts ks)))], 1⟩ (wk_vc txok mixed [] ?_) ?_
  · conv => whnf
    exact weak_of rfl (by repeat ((conv => whnf); first | exact trivial | refine And.intro rfl ?_ | refine And.intro (incD (by omega)) ?_)) (by repeat ((conv => whnf); first | exact trivial | refine And.intro rfl ?_ | refine And.intro (incD (by omega)) ?_))
  by_cases h : q > 100000
  · refine wk_seqR (wk_vc txok mixed [] ?_)
    conv => whnf
    refine And.intro (fun h => ?_) (fun h2 => absurd (of_decide_eq_false h2) (by omega))
    conv => whnf
    rw [show min (q + (max (depGs ts) (depMs ks) + 1) - 1) 100001 = q from by omega]
  refine wk_seq ⟨[(1, .d (.int .i64 (q : Int))), (2, .own 0 0)], [(0, .blk 26 (tmS (.mk k n i nm ls ts ks)))], 1⟩ (wk_vc txok mixed [] ?_) ?_
  · conv => whnf
    refine And.intro (fun h2 => absurd (of_decide_eq_true h2) (by omega)) (fun h => ?_)
    conv => whnf
    exact weak_of rfl (by repeat ((conv => whnf); first | exact trivial | refine And.intro rfl ?_ | refine And.intro (incD (by omega)) ?_)) (by repeat ((conv => whnf); first | exact trivial | refine And.intro rfl ?_ | refine And.intro (incD (by omega)) ?_))
  refine wk_seq ⟨[(5, .d (.int .i64 (q : Int))), (1, .d (.int .i64 (q : Int))), (2, .own 0 0)], [(0, .blk 26 (tmS (.mk k n i nm ls ts ks)))], 1⟩ (wk_vc txok mixed [] ?_) ?_
  · conv => whnf
    exact weak_of rfl (by repeat ((conv => whnf); first | exact trivial | refine And.intro rfl ?_ | refine And.intro (incD (by omega)) ?_)) (by repeat ((conv => whnf); first | exact trivial | refine And.intro rfl ?_ | refine And.intro (incD (by omega)) ?_))
  refine wk_seq ⟨[(5, .d (.int .i64 (min (q + depGs ts) 100001 : Nat))), (1, .d (.int .i64 (q : Int))), (2, .own 0 0)], [(0, .blk 26 (tmS (.mk k n i nm ls ts ks)))], 1⟩ (wk_vc txok mixed [] ?_) ?_
  · conv => whnf
    refine loopH (fun j : Nat => j ≤ ts.length) (fun j => ts.length - j) (fun j => [(17, .d (.int .i64 j)), (5, .d (.int .i64 (min (q + depGs (ts.take j)) 100001 : Nat)))]) (fun _ => [(0, .blk 26 (tmS (.mk k n i nm ls ts ks)))]) 1 0 (by omega) ?_ ?_
    · rw [show min (q + depGs (ts.take 0)) 100001 = q from by simp [depGs]; omega]
      exact weak_of rfl (by repeat ((conv => whnf); first | exact trivial | refine And.intro rfl ?_ | refine And.intro (incD (by omega)) ?_)) (by repeat ((conv => whnf); first | exact trivial | refine And.intro rfl ?_ | refine And.intro (incD (by omega)) ?_))
    intro j hj
    conv => whnf
    refine And.intro (fun hb => ?_) (fun hb => ?_)
    · have hil : j < ts.length := by have := of_decide_eq_true hb; simp only [MG.ts, MG.ks] at this; omega
      have ht := depGs_take hil
      conv => whnf
      refine IdxC.encGs j hil rfl ?_
      conv => whnf
      rw [incD (by omega)]
      refine callF (depthType_fn ts[j] (q + 1) (by omega) (by omega)) gf56 rfl rfl ?_
      conv => whnf
      refine maxC rfl rfl rfl ?_
      conv => whnf
      rw [incD (by omega)]
      refine again (j + 1) (by omega) (by omega) ?_
      rw [ht, show (max ((min (q + depGs (ts.take j)) 100001 : Nat) : Int) ((min (q + 1 + depG ts[j] - 1) 100001 : Nat) : Int)) = ((min (q + max (depGs (ts.take j)) (depG ts[j])) 100001 : Nat) : Int) from by omega]
      exact weak_of rfl (by repeat ((conv => whnf); first | exact trivial | refine And.intro rfl ?_ | refine And.intro (incD (by omega)) ?_)) (by repeat ((conv => whnf); first | exact trivial | refine And.intro rfl ?_ | refine And.intro (incD (by omega)) ?_))
    · have hil : j = ts.length := by have := of_decide_eq_false hb; simp only [MG.ts, MG.ks] at this; omega
      subst hil
      rw [List.take_length]
      conv => whnf
      exact weak_of rfl (by repeat ((conv => whnf); first | exact trivial | refine And.intro rfl ?_ | refine And.intro (incD (by omega)) ?_)) (by repeat ((conv => whnf); first | exact trivial | refine And.intro rfl ?_ | refine And.intro (incD (by omega)) ?_))
  refine wk_seq ⟨[(5, .d (.int .i64 (min (q + max (depGs ts) (depMs ks)) 100001 : Nat))), (1, .d (.int .i64 (q : Int))), (2, .own 0 0)], [(0, .blk 26 (tmS (.mk k n i nm ls ts ks)))], 1⟩ (wk_vc txok mixed [] ?_) ?_
  rotate_left
  · refine wk_vc txok mixed [] ?_
    conv => whnf
    rw [show min (q + (max (depGs ts) (depMs ks) + 1) - 1) 100001 = min (q + max (depGs ts) (depMs ks)) 100001 from by omega]
  conv => whnf
  refine loopH (fun j : Nat => j ≤ ks.length) (fun j => ks.length - j) (fun j => [(31, .d (.int .i64 j)), (5, .d (.int .i64 (min (q + max (depGs ts) (depMs (ks.take j))) 100001 : Nat)))]) (fun _ => [(0, .blk 26 (tmS (.mk k n i nm ls ts ks)))]) 1 0 (by omega) ?_ ?_
  · rw [show max (depGs ts) (depMs (ks.take 0)) = depGs ts from by simp [depMs]]
    exact weak_of rfl (by repeat ((conv => whnf); first | exact trivial | refine And.intro rfl ?_ | refine And.intro (incD (by omega)) ?_)) (by repeat ((conv => whnf); first | exact trivial | refine And.intro rfl ?_ | refine And.intro (incD (by omega)) ?_))
  intro j hj
  conv => whnf
  refine And.intro (fun hb => ?_) (fun hb => ?_)
  · have hil : j < ks.length := by have := of_decide_eq_true hb; simp only [MG.ts, MG.ks] at this; omega
    have ht := depMs_take hil
    conv => whnf
    refine IdxC.encMs j hil rfl ?_
    conv => whnf
    rw [incD (by omega)]
    refine callF (ih ks[j] (by simp) (q + 1) (by omega) (by omega)) gf79 rfl rfl ?_
    conv => whnf
    refine maxC rfl rfl rfl ?_
    conv => whnf
    rw [incD (by omega)]
    refine again (j + 1) (by omega) (by omega) ?_
    rw [ht, show (max ((min (q + max (depGs ts) (depMs (ks.take j))) 100001 : Nat) : Int) ((min (q + 1 + depM ks[j] - 1) 100001 : Nat) : Int)) = ((min (q + max (depGs ts) (max (depMs (ks.take j)) (depM ks[j]))) 100001 : Nat) : Int) from by omega]
    exact weak_of rfl (by repeat ((conv => whnf); first | exact trivial | refine And.intro rfl ?_ | refine And.intro (incD (by omega)) ?_)) (by repeat ((conv => whnf); first | exact trivial | refine And.intro rfl ?_ | refine And.intro (incD (by omega)) ?_))
  · have hil : j = ks.length := by have := of_decide_eq_false hb; simp only [MG.ts, MG.ks] at this; omega
    subst hil
    rw [List.take_length]
    conv => whnf
    exact weak_of rfl (by repeat ((conv => whnf); first | exact trivial | refine And.intro rfl ?_ | refine And.intro (incD (by omega)) ?_)) (by repeat ((conv => whnf); first | exact trivial | refine And.intro rfl ?_ | refine And.intro (incD (by omega)) ?_))
def rightM (m : MG) : Int := if depM m > 100000 then 4 else if allM m then 0 else 1
theorem rightTerm_fn (m : MG) : FnR Tryz.prog G0 40 [dM m] (.int .i64 (rightM m)) := by
  refine fnQ_of_vc txok mixed [] Tryz.func40 rfl rfl (by simp) fun b => ?_
  conv => whnf
  refine callF (depthTerm_fn m 1 (by omega) (by omega)) gf79 rfl rfl ?_
  conv => whnf
  refine And.intro (fun h => ?_) (fun h => ?_)
  · have h : depM m > 100000 := by have := of_decide_eq_true h; omega
    conv => whnf
    rw [rightM, if_pos h]
  have h : ¬ depM m > 100000 := by have := of_decide_eq_false h; omega
  conv => whnf
  refine callF (everyTerm_fn m) gf80 rfl rfl ?_
  conv => whnf
  refine And.intro (fun h2 => ?_) (fun h2 => ?_)
  · conv => whnf
    rw [rightM, if_neg h, if_neg (by simpa using h2)]
  · conv => whnf
    rw [rightM, if_neg h, if_pos (by simpa using h2)]
end Go.Proofs.YtcjkikadolnfgaaGreat


/- Check, Closed, Has, in an empty scope. -/
set_option linter.unusedSimpArgs false
set_option linter.unusedVariables false
namespace Go.Proofs.YtcjkikadolnfgaaGreat
open Go.Vx Go.Vc Go.RowKit
theorem cloneI0_fn : FnR Tryz.prog G0 44 [dI []] (dI []) := by
  refine fnQ_of_vc txok mixed [] Tryz.func44 rfl rfl (by simp) fun b => ?_
  conv => whnf
  intro c hc
  conv => whnf
  refine And.intro (fun h => ?_) (fun h => ?_)
  · conv => whnf
    try exact rfl
  · conv => whnf
    refine appR (i := 0) (sz := 1) (n := 0) (m := 0) (xs := []) (ys := []) txok (fun _ => false) 0 [] rfl rfl rfl (by kernel_rfl) rfl nofun rfl rfl (by decide) ?_
    conv => whnf
    try exact rfl
theorem cloneB0_fn : FnR Tryz.prog G0 45 [dBs []] (dBs []) := by
  refine fnQ_of_vc txok mixed [] Tryz.func45 rfl rfl (by simp) fun b => ?_
  conv => whnf
  intro c hc
  conv => whnf
  refine And.intro (fun h => ?_) (fun h => ?_)
  · conv => whnf
    try exact rfl
  · conv => whnf
    refine appR (i := 0) (sz := 5) (n := 0) (m := 0) (xs := []) (ys := []) txok (fun _ => false) 0 [] rfl rfl rfl (by kernel_rfl) rfl nofun rfl rfl (by decide) ?_
    conv => whnf
    try exact rfl
theorem index0_fn (f : FuncId) : FnR Tryz.prog G0 81 [dBs [], .fn f [] []] (.int .i64 (-1)) := by
  refine fnQ_of_vc txok mixed [] Tryz.func81 rfl rfl (by simp) fun b => ?_
  conv => whnf
  refine loopH (fun i : Nat => i = 0) (fun _ => 0) (fun i => [(8, .d (.int .i64 0))]) (fun _ => []) 0 0 rfl (weak_of rfl (by repeat ((conv => whnf); first | exact trivial | refine And.intro rfl ?_ | refine And.intro (incD (by omega)) ?_)) (by repeat ((conv => whnf); first | exact trivial | refine And.intro rfl ?_ | refine And.intro (incD (by omega)) ?_))) ?_
  rintro i rfl
  conv => whnf
  refine And.intro (fun hb => absurd (of_decide_eq_true hb) (by simp)) (fun hb => ?_)
  conv => whnf
  try exact rfl
theorem contains0_fn (f : FuncId) : FnR Tryz.prog G0 41 [dBs [], .fn f [] []] (.bool false) := by
  refine fnQ_of_vc txok mixed [] Tryz.func41 rfl rfl (by simp) fun b => ?_
  conv => whnf
  refine callF (index0_fn f) gf81 rfl rfl ?_
  conv => whnf
  try exact rfl
theorem check2_fn (m : MG) (c : Chk) (hc : KidOk m c) (hz : szM m ≤ 1073741824) : FnQ Tryz.prog G0 43 [.ptr [dI []] 0, .ptr [dBs []] 0, .ptr (encM m) 0] (fun o => o = resO (c [] [])) := by
  have hK := (hc [] [] (by simp only [List.length_nil]; omega) (by simp only [List.length_nil]; omega) nofun).1
  cases hr : c [] [] with
  | error e =>
    rw [hr] at hK
    refine fnQ_of_vc txok mixed [(1, .take 0 (.take 2 (.take 5 (.run 1 (.run 3 (.pure 4 (.fin 6 (.fin 7 .done))))))))] Tryz.func43 rfl rfl (by simp) fun bb => ?_
    repeat' ((conv => whnf); first
      | refine And.intro (by kernel_rfl) ?_
      | refine And.intro ?_ ?_
      | refine callF cloneI0_fn gf44 rfl rfl ?_
      | refine callF cloneB0_fn gf45 rfl rfl ?_
      | (refine callQ rfl rfl gf46 hK ?_; rintro o rfl))
    all_goals (try (conv => whnf))
    all_goals (try exact rfl)
  | ok t =>
    rw [hr] at hK
    refine fnQ_of_vc txok mixed [(1, .take 0 (.take 2 (.take 5 (.run 1 (.run 3 (.pure 4 (.fin 6 (.fin 7 .done))))))))] Tryz.func43 rfl rfl (by simp) fun bb => ?_
    repeat' ((conv => whnf); first
      | refine And.intro (by kernel_rfl) ?_
      | refine And.intro ?_ ?_
      | refine callF cloneI0_fn gf44 rfl rfl ?_
      | refine callF cloneB0_fn gf45 rfl rfl ?_
      | (refine callQ rfl rfl gf46 hK ?_; rintro o rfl))
    all_goals (try (conv => whnf))
    all_goals (try exact rfl)
def closedR (m : MG) (c : Chk) : Except Int TG := if rightM m = 0 then c [] [] else .error (rightM m)
theorem check_fn (m : MG) (c : Chk) (hc : rightM m = 0 → KidOk m c) (hz : szM m ≤ 1073741824) : FnR Tryz.prog G0 18 [dM m, dI [], dBs []] (outE (closedR m c)) := by
  have hR := rightTerm_fn m
  unfold closedR
  by_cases h : rightM m = 0
  · rw [if_pos h]
    rw [h] at hR
    have hU := caught_out gf43 (check2_fn m c (hc h) hz) (by
      cases c [] [] with
      | ok w => exact .inl ⟨w, rfl⟩
      | error e => exact .inr ⟨e, rfl⟩)
    rw [caughtOut_res] at hU
    cases hr : c [] [] with
    | ok w =>
      rw [hr] at hU
      obtain ⟨k1, n1, l1, m1⟩ := w
      refine fnQ_of_vc txok mixed [] Tryz.func18 rfl rfl (by simp) fun b => ?_
      conv => whnf
      refine callF hR gf40 rfl rfl ?_
      conv => whnf
      refine And.intro (fun h => absurd h (by decide)) (fun h => ?_)
      conv => whnf
      refine callF (contains0_fn 42) gf41 rfl rfl ?_
      conv => whnf
      refine And.intro (fun h => Bool.noConfusion h) (fun h => ?_)
      conv => whnf
      refine pubC (fun i => Nat.ble i 2) ?_
      conv => whnf
      refine callF hU gf27 rfl rfl ?_
      conv => whnf
      try exact rfl
    | error e =>
      rw [hr] at hU
      refine fnQ_of_vc txok mixed [] Tryz.func18 rfl rfl (by simp) fun b => ?_
      conv => whnf
      refine callF hR gf40 rfl rfl ?_
      conv => whnf
      refine And.intro (fun h => absurd h (by decide)) (fun h => ?_)
      conv => whnf
      refine callF (contains0_fn 42) gf41 rfl rfl ?_
      conv => whnf
      refine And.intro (fun h => Bool.noConfusion h) (fun h => ?_)
      conv => whnf
      refine pubC (fun i => Nat.ble i 2) ?_
      conv => whnf
      refine callF hU gf27 rfl rfl ?_
      conv => whnf
      try exact rfl
  · rw [if_neg h]
    refine fnQ_of_vc txok mixed [] Tryz.func18 rfl rfl (by simp) fun b => ?_
    conv => whnf
    refine callF hR gf40 rfl rfl ?_
    conv => whnf
    refine And.intro (fun h2 => ?_) (fun h2 => absurd (by simpa using h2) h)
    conv => whnf
    try exact rfl
theorem closed_fn (m : MG) (c : Chk) (hc : rightM m = 0 → KidOk m c) (hz : szM m ≤ 1073741824) : FnR Tryz.prog G0 6 [dM m] (outE (closedR m c)) := by
  have hC := check_fn m c hc hz
  cases hr : closedR m c with
  | ok w =>
    rw [hr] at hC
    obtain ⟨k1, n1, l1, m1⟩ := w
    refine fnQ_of_vc txok mixed [] Tryz.func6 rfl rfl (by simp) fun b => ?_
    conv => whnf
    refine callF hC gf18 rfl rfl ?_
    conv => whnf
    try exact rfl
  | error e =>
    rw [hr] at hC
    refine fnQ_of_vc txok mixed [] Tryz.func6 rfl rfl (by simp) fun b => ?_
    conv => whnf
    refine callF hC gf18 rfl rfl ?_
    conv => whnf
    try exact rfl
def hasR (r : Except Int TG) (t : TG) : Int := match r with
  | .ok u => if samG u t [] [] = true then 0 else 30
  | .error e => e
theorem has_fn (m : MG) (c : Chk) (t : TG) (hc : rightM m = 0 → KidOk m c) (hz : szM m ≤ 1073741824) (hg : ∀ u, closedR m c = .ok u → szG u ≤ 1048576) (he : ∀ e, closedR m c = .error e → e ≠ 0) : FnR Tryz.prog G0 8 [dM m, dG t] (.int .i64 (hasR (closedR m c) t)) := by
  have hC := closed_fn m c hc hz
  cases hr : closedR m c with
  | ok w =>
    rw [hr] at hC
    have hS := sameTop_fn w t (by have := hg w hr; omega)
    unfold hasR
    simp only
    cases hs : samG w t [] []
    · rw [hs] at hS
      obtain ⟨k1, n1, l1, m1⟩ := w
      refine fnQ_of_vc txok mixed [] Tryz.func8 rfl rfl (by simp) fun b => ?_
      conv => whnf
      refine callF hC gf6 rfl rfl ?_
      conv => whnf
      refine And.intro (fun h => ?_) (fun h => absurd h (by decide))
      conv => whnf
      refine callF hS gf19 rfl rfl ?_
      conv => whnf
      refine And.intro (fun h => ?_) (fun h => absurd h (by decide))
      conv => whnf
      try exact rfl
    · rw [hs] at hS
      obtain ⟨k1, n1, l1, m1⟩ := w
      refine fnQ_of_vc txok mixed [] Tryz.func8 rfl rfl (by simp) fun b => ?_
      conv => whnf
      refine callF hC gf6 rfl rfl ?_
      conv => whnf
      refine And.intro (fun h => ?_) (fun h => absurd h (by decide))
      conv => whnf
      refine callF hS gf19 rfl rfl ?_
      conv => whnf
      refine And.intro (fun h => absurd h (by decide)) (fun h => ?_)
      conv => whnf
      try exact rfl
  | error e =>
    rw [hr] at hC
    have he := he e hr
    refine fnQ_of_vc txok mixed [] Tryz.func8 rfl rfl (by simp) fun b => ?_
    conv => whnf
    refine callF hC gf6 rfl rfl ?_
    conv => whnf
    refine And.intro (fun h => absurd (by simpa using h) he) (fun h => ?_)
    conv => whnf
    try rfl
end Go.Proofs.YtcjkikadolnfgaaGreat


/- Rules: lam all (printed by gzw.py). -/
set_option linter.unusedSimpArgs false
set_option linter.unusedVariables false
namespace Go.Proofs.YtcjkikadolnfgaaGreat
open Go.Vx Go.Vc Go.RowKit
def Zwpq0 : List (Nat × Go.Vc.Pl) := [(1, .take 0 (.pure 1 (.take 2 (.pure 3 (.take 4 (.two 5 6 (.run 6 (.fin 7 .done)) (.fin 5 (.fin 7 .done)))))))), (2, .take 0 (.take 1 (.pure 2 (.take 3 (.take 4 (.pure 6 (.take 7 (.pure 8 (.take 9 (.run 5 (.run 10 (.fin 11 (.fin 12 (.fin 13 .done))))))))))))))]
def Zwpq1 : List (Nat × Go.Vc.Pl) := [(1, .pure 0 (.take 1 (.take 2 (.pure 3 (.take 4 (.pure 6 (.take 7 (.pure 8 (.take 9 (.run 5 (.run 10 (.run 11 (.run 12 (.fin 13 .done))))))))))))))]
set_option maxRecDepth 20000 in
set_option maxHeartbeats 2000000 in
theorem lamW_fn (vars : List Int) (l : List Bd) (n i : Int) (nm : ByteArray) (ls : List ByteArray) (a : TG) (u : MG) (cu : Chk) (hcu : KidOk u cu) (hv : vars.length + szM (.mk 5 n i nm ls [a] [u]) ≤ 549755813888) (hl : l.length + 2 * szM (.mk 5 n i nm ls [a] [u]) ≤ 549755813888) (hz : szM (.mk 5 n i nm ls [a] [u]) ≤ 1073741824) (hb : Bnd l) : FnQ Tryz.prog G0 118 [dSc vars l, dM (.mk 5 n i nm ls [a] [u])] (fun o => o = resO ((lamR nm a cu) vars l)) := by
  simp only [szM, szMs, szGs] at hv hl hz
  unfold lamR
  try simp only []
  have hH0 := here_fn vars l a (by omega)
  unfold hereR at hH0
  cases hi0 : insG a vars with
  | false =>
    rw [hi0] at hH0
    refine fnQ_of_vc txok mixed Zwpq0 Tryz.func118 rfl rfl (by simp) fun b => ?_
    repeat' ((conv => whnf); first
      | refine And.intro (by kernel_rfl) ?_
      | refine And.intro ?_ ?_
      | refine IdxC.encGs (l := [a]) 0 (by simp) rfl ?_
      | refine IdxC.encMs (l := [u]) 0 (by simp) rfl ?_
      | (refine callQ rfl rfl gf168 hH0 ?_; rintro o rfl)
      | intro _)
    all_goals (try (conv => whnf))
    all_goals (try exact rfl)
    all_goals (exfalso; simp_all; done)
  | true =>
  rw [hi0] at hH0
  have haa := ins_all hi0
  have hW2 := with_fn (vars) (l) nm a (by (try simp only [List.length_append, List.length_cons, List.length_nil]); omega)
  have hK4 := hcu (vars) (l ++ [(nm, a)]) (by (try simp only [List.length_append, List.length_cons, List.length_nil]); omega) (by (try simp only [List.length_append, List.length_cons, List.length_nil]); omega) (hb.snoc haa (by omega))
  obtain ⟨hK4, hK4G⟩ := hK4
  cases hr4 : cu (vars) (l ++ [(nm, a)]) with
  | error e =>
    rw [hr4] at hK4
    refine fnQ_of_vc txok mixed Zwpq0 Tryz.func118 rfl rfl (by simp) fun b => ?_
    repeat' ((conv => whnf); first
      | refine And.intro (by kernel_rfl) ?_
      | refine And.intro ?_ ?_
      | refine IdxC.encGs (l := [a]) 0 (by simp) rfl ?_
      | refine IdxC.encMs (l := [u]) 0 (by simp) rfl ?_
      | (refine callQ rfl rfl gf168 hH0 ?_; rintro o rfl)
      | refine callF hW2 gf169 rfl rfl ?_
      | (refine callQ rfl rfl gf46 hK4 ?_; rintro o rfl)
      | intro _)
    all_goals (try (conv => whnf))
    all_goals (try exact rfl)
    all_goals (exfalso; simp_all; done)
  | ok t =>
  rw [hr4] at hK4
  obtain ⟨hat, hzt⟩ := hK4G t hr4
  obtain ⟨ka, na, lsa, la⟩ := a
  obtain ⟨kt, nt, lst, lt⟩ := t
  refine fnQ_of_vc txok mixed Zwpq0 Tryz.func118 rfl rfl (by simp) fun b => ?_
  repeat' ((conv => whnf); first
    | refine And.intro (by kernel_rfl) ?_
    | refine And.intro ?_ ?_
    | refine IdxC.encGs (l := [(.mk ka na lsa la)]) 0 (by simp) rfl ?_
    | refine IdxC.encMs (l := [u]) 0 (by simp) rfl ?_
    | (refine callQ rfl rfl gf168 hH0 ?_; rintro o rfl)
    | refine callF hW2 gf169 rfl rfl ?_
    | (refine callQ rfl rfl gf46 hK4 ?_; rintro o rfl)
    | (refine pubC (fun i => Nat.beq i 4) ?_; (conv => whnf); refine callF (node_fn 4 [.mk ka na lsa la, .mk kt nt lst lt]) gf165 rfl rfl ?_)
    | intro _)
  all_goals (try (conv => whnf))
  all_goals (try exact rfl)
  all_goals (exfalso; simp_all; done)
set_option maxRecDepth 20000 in
set_option maxHeartbeats 2000000 in
theorem allW_fn (vars : List Int) (l : List Bd) (n i : Int) (nm : ByteArray) (ls : List ByteArray) (u : MG) (cu : Chk) (hcu : KidOk u cu) (hv : vars.length + szM (.mk 20 n i nm ls [] [u]) ≤ 549755813888) (hl : l.length + 2 * szM (.mk 20 n i nm ls [] [u]) ≤ 549755813888) (hz : szM (.mk 20 n i nm ls [] [u]) ≤ 1073741824) (hb : Bnd l) : FnQ Tryz.prog G0 132 [dSc vars l, dM (.mk 20 n i nm ls [] [u])] (fun o => o = resO ((allR n cu) vars l)) := by
  simp only [szM, szMs, szGs] at hv hl hz
  unfold allR
  try simp only []
  have hO0 := open_fn (vars) (l) n (by omega)
  by_cases hm0 : n ∈ vars
  · rw [if_pos hm0] at hO0 ⊢
    refine fnQ_of_vc txok mixed Zwpq1 Tryz.func132 rfl rfl (by simp) fun b => ?_
    repeat' ((conv => whnf); first
      | refine And.intro (by kernel_rfl) ?_
      | refine And.intro ?_ ?_
      | refine IdxC.encMs (l := [u]) 0 (by simp) rfl ?_
      | (refine callQ rfl rfl gf173 hO0 ?_; rintro o rfl)
      | intro _)
    all_goals (try (conv => whnf))
    all_goals (try exact rfl)
    all_goals (exfalso; simp_all; done)
  rw [if_neg hm0] at hO0 ⊢
  have hK2 := hcu (vars ++ [n]) (l) (by (try simp only [List.length_append, List.length_cons, List.length_nil]); omega) (by (try simp only [List.length_append, List.length_cons, List.length_nil]); omega) (hb)
  obtain ⟨hK2, hK2G⟩ := hK2
  cases hr2 : cu (vars ++ [n]) (l) with
  | error e =>
    rw [hr2] at hK2
    refine fnQ_of_vc txok mixed Zwpq1 Tryz.func132 rfl rfl (by simp) fun b => ?_
    repeat' ((conv => whnf); first
      | refine And.intro (by kernel_rfl) ?_
      | refine And.intro ?_ ?_
      | refine IdxC.encMs (l := [u]) 0 (by simp) rfl ?_
      | (refine callQ rfl rfl gf173 hO0 ?_; rintro o rfl)
      | (refine callQ rfl rfl gf46 hK2 ?_; rintro o rfl)
      | intro _)
    all_goals (try (conv => whnf))
    all_goals (try exact rfl)
    all_goals (exfalso; simp_all; done)
  | ok t =>
  rw [hr2] at hK2
  obtain ⟨hat, hzt⟩ := hK2G t hr2
  obtain ⟨kt, nt, lst, lt⟩ := t
  refine fnQ_of_vc txok mixed Zwpq1 Tryz.func132 rfl rfl (by simp) fun b => ?_
  repeat' ((conv => whnf); first
    | refine And.intro (by kernel_rfl) ?_
    | refine And.intro ?_ ?_
    | refine IdxC.encMs (l := [u]) 0 (by simp) rfl ?_
    | (refine callQ rfl rfl gf173 hO0 ?_; rintro o rfl)
    | (refine callQ rfl rfl gf46 hK2 ?_; rintro o rfl)
    | intro _)
  all_goals (try (conv => whnf))
  all_goals (try exact rfl)
  all_goals (exfalso; simp_all; done)
end Go.Proofs.YtcjkikadolnfgaaGreat


/- Parts of terms: names, functions, alls. -/
set_option linter.unusedSimpArgs false
set_option linter.unusedVariables false
namespace Go.Proofs.YtcjkikadolnfgaaGreat
open Go.Vx Go.Vc Go.RowKit
theorem good_fit {r : Except Int TG} (h : ∀ t, r = .ok t → allG t = true) : Good (fitE r) := by
  intro t ht
  cases r with
  | error e => cases ht
  | ok u =>
    have ht : fitR u = .ok t := ht
    unfold fitR at ht
    split at ht
    · injection ht with ht; subst ht
      exact ⟨h u rfl, by assumption⟩
    · cases ht
theorem kid_of (m : MG) (c : Chk) (j : Nat) (f : FuncId) (hk : m.k = (j : Int)) (hj : rulesD[j]? = some (.fn f [] [])) (hg : Goes Tryz.prog f)
    (h : ∀ vars l, vars.length + szM m ≤ 549755813888 → l.length + 2 * szM m ≤ 549755813888 → Bnd l → FnQ Tryz.prog G0 f [dSc vars l, dM m] (fun o => o = resO (c vars l)) ∧ ∀ t, c vars l = .ok t → allG t = true ∧ szG t ≤ 2147483648) : KidOk m (fun vars l => fitE (c vars l)) := by
  intro vars l hv hl hb
  obtain ⟨h1, h2⟩ := h vars l hv hl hb
  exact ⟨of_fn vars l m (c vars l) j f hk hj hg h1 (fun t ht => by have := (h2 t ht).2; omega), good_fit fun t ht => (h2 t ht).1⟩
theorem look_ok {l : List Bd} {nm : ByteArray} {t : TG} (h : lookR l nm = .ok t) : ∃ x ∈ l, x.2 = t := by
  unfold lookR at h
  split at h
  · rename_i b hb
    injection h with h
    exact ⟨b, by have := List.mem_of_find?_eq_some hb; simpa using this, h⟩
  · cases h
theorem kid_var (n i : Int) (nm : ByteArray) (ls : List ByteArray) (ts : List TG) (ks : List MG) : KidOk (.mk 4 n i nm ls ts ks) (fun _ l => fitE (lookR l nm)) :=
  kid_of (.mk 4 n i nm ls ts ks) (fun _ l => lookR l nm) 4 117 rfl rfl gf117 fun vars l _ _ hb => ⟨name_fn vars l _, fun t ht => by
    obtain ⟨x, hx, rfl⟩ := look_ok ht
    have := hb x hx
    exact ⟨this.1, by omega⟩⟩
theorem kid_lam (n i : Int) (nm : ByteArray) (ls : List ByteArray) (a : TG) (u : MG) (c : Chk) (hc : KidOk u c) (hz : szM (.mk 5 n i nm ls [a] [u]) ≤ 1073741824) : KidOk (.mk 5 n i nm ls [a] [u]) (fun vars l => fitE (lamR nm a c vars l)) :=
  kid_of _ (lamR nm a c) 5 118 rfl rfl gf118 fun vars l hv hl hb => ⟨lamW_fn vars l n i nm ls a u c hc hv hl hz hb, fun t ht => by
    unfold lamR at ht
    cases hi : insG a vars with
    | false => rw [hi] at ht; cases ht
    | true =>
      rw [hi] at ht
      have ha := ins_all hi
      simp only [szM, szMs, szGs] at hv hl hz
      have hG := (hc vars (l ++ [(nm, a)]) (by omega) (by simp only [List.length_append, List.length_cons, List.length_nil]; omega) (hb.snoc ha (by omega))).2
      cases hr : c vars (l ++ [(nm, a)]) with
      | error e => rw [hr] at ht; cases ht
      | ok v =>
        rw [hr] at ht
        obtain ⟨h1, h2⟩ := hG v hr
        have ht : Except.ok (TG.mk 4 0 [] [a, v]) = .ok t := ht
        injection ht with ht; subst ht
        refine ⟨(allG_mk ..).2 ⟨rfl, ?_⟩, ?_⟩
        · intro x hx
          simp only [List.mem_cons, List.not_mem_nil, or_false] at hx
          rcases hx with rfl | rfl <;> assumption
        · simp only [szG, szGs]; omega⟩
theorem kid_all (n i : Int) (nm : ByteArray) (ls : List ByteArray) (u : MG) (c : Chk) (hc : KidOk u c) (hz : szM (.mk 20 n i nm ls [] [u]) ≤ 1073741824) : KidOk (.mk 20 n i nm ls [] [u]) (fun vars l => fitE (allR n c vars l)) :=
  kid_of _ (allR n c) 20 132 rfl rfl gf132 fun vars l hv hl hb => ⟨allW_fn vars l n i nm ls u c hc hv hl hz hb, fun t ht => by
    unfold allR at ht
    split at ht
    · cases ht
    · simp only [szM, szMs, szGs] at hv hl hz
      have hG := (hc (vars ++ [n]) l (by simp only [List.length_append, List.length_cons, List.length_nil]; omega) (by omega) hb).2
      cases hr : c (vars ++ [n]) l with
      | error e => rw [hr] at ht; cases ht
      | ok v =>
        rw [hr] at ht
        obtain ⟨h1, h2⟩ := hG v hr
        have ht : Except.ok (TG.mk 10 n [] [v]) = .ok t := ht
        injection ht with ht; subst ht
        refine ⟨(allG_mk ..).2 ⟨rfl, ?_⟩, ?_⟩
        · intro x hx
          simp only [List.mem_cons, List.not_mem_nil, or_false] at hx
          rcases hx with rfl; assumption
        · simp only [szG, szGs]; omega⟩
end Go.Proofs.YtcjkikadolnfgaaGreat


/- alive. -/
set_option linter.unusedSimpArgs false
set_option linter.unusedVariables false
namespace Go.Proofs.YtcjkikadolnfgaaGreat
open Go.Vx Go.Vc Go.RowKit
abbrev nx : ByteArray := ⟨#[120]⟩
abbrev nz : ByteArray := ⟨#[122]⟩
abbrev n0 : ByteArray := ⟨#[]⟩
abbrev xM : MG := .mk 4 0 0 nx [] [] []
abbrev zM : MG := .mk 4 0 0 nz [] [] []
abbrev lamM : MG := .mk 5 0 0 nx [] [varG 1] [xM]
abbrev idM : MG := .mk 20 1 0 n0 [] [] [lamM]
abbrev fnT : TG := .mk 4 0 [] [varG 1, varG 1]
abbrev wantT : TG := .mk 10 1 [] [fnT]
abbrev cX : Chk := fun _ l => fitE (lookR l nx)
abbrev cZ : Chk := fun _ l => fitE (lookR l nz)
abbrev cL : Chk := fun vars l => fitE (lamR nx (varG 1) cX vars l)
abbrev cI : Chk := fun vars l => fitE (allR 1 cL vars l)
theorem rightX : rightM zM = 0 := by rfl
theorem rightI : rightM idM = 0 := by
  have h1 : shpM idM = true := by simp [shpM_mk, badM, endM, shpOf, shpTab, MG.k, MG.n, MG.i, MG.nm, MG.ls, MG.ts, MG.ks]
  have h2 : shpM lamM = true := rfl
  have h3 : shpM xM = true := rfl
  unfold rightM
  have e3 : allM (.mk 4 0 0 nx [] [] []) = true := by rw [allM, allGs, allMs, h3]; rfl
  have e2 : allM (.mk 5 0 0 nx [] [varG 1] [xM]) = true := by rw [allM, allGs, allMs, h2, e3, allG_var, allGs, allMs]; rfl
  have e1 : allM (.mk 20 1 0 n0 [] [] [lamM]) = true := by rw [allM, allGs, allMs, h1, e2, allMs]; rfl
  rw [if_neg (by simp [depM, depMs, depGs, depG, varG]), if_pos e1]
theorem rightV (m : Int) : rightG (varG m) = 0 := by
  unfold rightG
  rw [if_neg (by simp [depG, depGs, varG]), if_pos (allG_var m)]
theorem freeV (m x : Int) : x ∈ freeS (varG m) ↔ x = m := by rw [mem_freeS, fv_var]
theorem ins1 : insG (varG 1) [1] = true := by
  unfold insG
  rw [rightV]
  have : ((freeS (varG 1)).any fun n => !decide (n ∈ [1])) = false := by
    rw [List.any_eq_false]
    intro x hx
    rw [freeV] at hx
    subst hx
    decide
  rw [this]
  rfl
theorem ins0 : insG (varG 1) [] = false := by
  unfold insG
  have : ((freeS (varG 1)).any fun n => !decide (n ∈ ([] : List Int))) = true := by
    rw [List.any_eq_true]
    exact ⟨1, (freeV 1 1).2 rfl, by decide⟩
  rw [this, Bool.not_true, Bool.and_false]
theorem closedZ : closedR zM cZ = .error 30 := by unfold closedR; rw [if_pos rightX]; rfl
theorem closedI : closedR idM cI = .ok wantT := by
  unfold closedR
  rw [if_pos rightI]
  show fitE (allR 1 cL [] []) = _
  unfold allR
  rw [if_neg nofun]
  have e : cL ([] ++ [1]) [] = .ok fnT := by
    show fitE (lamR nx (varG 1) cX [1] []) = _
    unfold lamR
    rw [ins1]
    rfl
  rw [e]
  rfl
theorem samW : samG wantT wantT [] [] = true := by rfl
theorem samV : samG wantT (varG 1) [] [] = false := by rfl
theorem kidI : KidOk idM cI := kid_all 1 0 n0 [] lamM cL (kid_lam 0 0 nx [] (varG 1) xM cX (kid_var 0 0 nx [] [] []) (by decide)) (by decide)
theorem kidZ : KidOk zM cZ := kid_var 0 0 nz [] [] []
theorem v_fn (n : Int) : FnR Tryz.prog G0 23 [.int .i64 n] (dG (varG n)) := by
  refine fnQ_of_vc txok mixed [] Tryz.func23 rfl rfl (by simp) fun b => ?_
  conv => whnf
  try exact rfl
theorem lfn_fn (a c : TG) : FnR Tryz.prog G0 25 [dG a, dG c] (dG (.mk 4 0 [] [a, c])) := by
  obtain ⟨k1, n1, l1, m1⟩ := a
  obtain ⟨k2, n2, l2, m2⟩ := c
  refine fnQ_of_vc txok mixed [] Tryz.func25 rfl rfl (by simp) fun b => ?_
  conv => whnf
  try exact rfl
theorem variable_fn (nm : ByteArray) : FnR Tryz.prog G0 24 [.str nm] (dM (.mk 4 0 0 nm [] [] [])) := by
  refine fnQ_of_vc txok mixed [] Tryz.func24 rfl rfl (by simp) fun b => ?_
  conv => whnf
  try exact rfl
theorem llam_fn (nm : ByteArray) (a : TG) (u : MG) : FnR Tryz.prog G0 22 [.str nm, dG a, dM u] (dM (.mk 5 0 0 nm [] [a] [u])) := by
  obtain ⟨k1, n1, l1, m1⟩ := a
  obtain ⟨k, n, i, nm2, ls, ts, ks⟩ := u
  refine fnQ_of_vc txok mixed [] Tryz.func22 rfl rfl (by simp) fun b => ?_
  conv => whnf
  try exact rfl
end Go.Proofs.YtcjkikadolnfgaaGreat


/- alive: walked. -/
set_option linter.unusedSimpArgs false
set_option linter.unusedVariables false
namespace Go.Proofs.YtcjkikadolnfgaaGreat
open Go.Vx Go.Vc Go.RowKit
set_option maxRecDepth 20000 in
set_option maxHeartbeats 2000000 in
theorem alive_fn : FnR Tryz.prog G0 11 [] (.bool true) := by
  have hg : ∀ u, closedR idM cI = .ok u → szG u ≤ 1048576 := fun u h => by
    rw [closedI] at h; injection h with h; subst h; simp [szG, szGs, varG]
  have he : ∀ e, closedR idM cI = .error e → e ≠ 0 := fun e h => by rw [closedI] at h; cases h
  have hC := closed_fn idM cI (fun _ => kidI) (by decide)
  have hZ := closed_fn zM cZ (fun _ => kidZ) (by decide)
  have hH1 := has_fn idM cI wantT (fun _ => kidI) (by decide) hg he
  have hH2 := has_fn idM cI (varG 1) (fun _ => kidI) (by decide) hg he
  rw [closedI] at hC hH1 hH2
  rw [closedZ] at hZ
  unfold hasR at hH1 hH2
  simp only at hH1 hH2
  rw [samW, if_pos rfl] at hH1
  rw [samV, if_neg (by decide)] at hH2
  have hS := rsameTop_fn wantT wantT (by decide)
  rw [samW] at hS
  have hI1 := inScope_fn (varG 1) [1] (by decide)
  have hI0 := inScope_fn (varG 1) [] (by decide)
  rw [ins1] at hI1
  rw [ins0] at hI0
  have hV := v_fn 1
  refine fnQ_of_vc txok mixed [(5, .pure 0 (.pure 1 (.pure 2 (.take 3 (.take 4 (.run 5 (.pure 6 (.pure 7 (.pure 8 (.pure 9 (.pure 10 (.pure 11 (.take 12 (.take 13 (.run 14 (.pure 15 (.pure 16 (.pure 17 (.take 18 (.run 19 (.run 20 (.pure 21 (.pure 22 (.pure 23 (.two 24 25 (.run 25 (.run 26 (.pure 27 (.pure 28 (.run 29 (.run 30 (.pure 31 (.pure 32 (.pure 33 .done))))))))) (.run 24 (.run 26 (.pure 27 (.pure 28 (.run 29 (.run 30 (.pure 31 (.pure 32 (.pure 33 .done))))))))))))))))))))))))))))))))))] Tryz.func11 rfl rfl (by simp) fun b => ?_
  repeat' ((conv => whnf); first
    | refine And.intro (by kernel_rfl) ?_
    | refine And.intro (fun h => ?_) (fun h => absurd h (by decide))
    | refine And.intro (fun h => absurd h (by decide)) (fun h => ?_)
    | refine And.intro ?_ ?_
    | refine callF hV gf23 rfl rfl ?_
    | refine callF (variable_fn nx) gf24 rfl rfl ?_
    | refine callF (variable_fn nz) gf24 rfl rfl ?_
    | refine callF (llam_fn nx (varG 1) xM) gf22 rfl rfl ?_
    | refine callF (lfn_fn (varG 1) (varG 1)) gf25 rfl rfl ?_
    | (refine pubC (fun i => Nat.beq i 0) ?_; (conv => whnf); refine callF hC gf6 rfl rfl ?_)
    | (refine pubC (fun i => Nat.beq i 3) ?_; (conv => whnf); refine callF hZ gf6 rfl rfl ?_)
    | refine callF hS gf10 rfl rfl ?_
    | refine callF hH1 gf8 rfl rfl ?_
    | refine callF hH2 gf8 rfl rfl ?_
    | refine callF hI0 gf14 rfl rfl ?_
    | (refine pubC (fun i => Nat.beq i 6) ?_; (conv => whnf); refine callF hI1 gf14 rfl rfl ?_))
  all_goals (try (conv => whnf))
  all_goals (try exact rfl)
  all_goals trace_state
end Go.Proofs.YtcjkikadolnfgaaGreat


/- Plain laws: what is the same under scopes stays so with types put in, with a number more, with a number less. -/
set_option linter.unusedSimpArgs false
set_option linter.unusedVariables false
namespace Go.Proofs.YtcjkikadolnfgaaGreat
theorem lastI_lt (s : List Int) (n : Int) : lastI s n < s.length := by
  unfold lastI
  split
  · rename_i p h
    have hm := List.mem_of_find?_eq_some h
    unfold prI at hm
    simp only [List.mem_map, List.mem_range] at hm
    obtain ⟨j, hj, rfl⟩ := hm
    show ((s.length - 1 - j : Nat) : Int) < s.length
    omega
  · show (-1 : Int) < s.length
    omega
theorem lastI_get (s : List Int) (n : Int) : 0 ≤ lastI s n → n = ixI s (lastI s n).toNat := by
  unfold lastI
  split
  · rename_i p h
    have hm := List.mem_of_find?_eq_some h
    have hp := List.find?_some h
    unfold prI at hm
    simp only [List.mem_map, List.mem_range] at hm
    obtain ⟨j, hj, rfl⟩ := hm
    intro _
    simp only [beq_iff_eq] at hp
    simp only [Int.toNat_natCast]
    exact hp.symm
  · intro h; exact absurd h (by decide)
def Lv (s t : List Int) (z z' : Int) : Prop := lastI s z = lastI t z' ∧ (lastI s z < 0 → z = z')
theorem Lv.symm {s t : List Int} {z z' : Int} (h : Lv s t z z') : Lv t s z' z := ⟨h.1.symm, fun e => (h.2 (by rw [h.1]; exact e)).symm⟩
theorem Lv.snoc {s t : List Int} {n n' z z' : Int} (hst : s.length = t.length) (h : Lv (s ++ [n]) (t ++ [n']) z z') : (z = n ∧ z' = n') ∨ (z ≠ n ∧ z' ≠ n' ∧ Lv s t z z') := by
  obtain ⟨h1, h2⟩ := h
  have a1 := lastI_lt s z
  have a2 := lastI_lt t z'
  by_cases e : z = n
  · subst e
    by_cases e' : z' = n'
    · exact .inl ⟨rfl, e'⟩
    · rw [lastI_end, lastI_snoc _ e'] at h1; omega
  · by_cases e' : z' = n'
    · subst e'
      rw [lastI_end, lastI_snoc _ e] at h1; omega
    · rw [lastI_snoc _ e, lastI_snoc _ e'] at h1
      rw [lastI_snoc _ e] at h2
      exact .inr ⟨e, e', h1, h2⟩
theorem Lv.top {s t : List Int} {n n' z' : Int} (hst : s.length = t.length) (h : Lv (s ++ [n]) (t ++ [n']) n z') : z' = n' := by
  rcases h.snoc hst with ⟨_, h⟩ | ⟨h, _⟩
  · exact h
  · exact absurd rfl h
theorem Lv.env {s t : List Int} {z z' : Int} (h : Lv s t z z') (d : Nat) : env s z d = env t z' d := by
  unfold Go.Proofs.YtcjkikadolnfgaaGreat.env
  rw [h.1]
  split
  · rfl
  · rw [h.2 (by rw [h.1]; omega)]
theorem samGs_evs {n m : Nat} {ρ σ : Rho} {c d : List Int} : ∀ (l l' : List TG), (∀ u ∈ l, ∀ v ∈ l', samG u v c d = true → ev n ρ u = ev m σ v) → samGs l l' c d = true → l.length = l'.length → evs n ρ l = evs m σ l'
  | [], [], _ => fun _ _ => rfl
  | [], v :: r', _ => fun _ h => by simp at h
  | u :: r, [], _ => fun _ h => by simp at h
  | u :: r, v :: r', h => fun h1 h2 => by
    rw [samGs, Bool.and_eq_true] at h1
    rw [evs, evs, h u (by simp) v (by simp) h1.1, samGs_evs r r' (fun w hw x hx => h w (by simp [hw]) x (by simp [hx])) h1.2 (by simpa using h2)]
theorem ev_inst : ∀ (a b : TG) (s t : List Int), s.length = t.length → okV a = true → okV b = true → samG a b s t = true → ∀ (d : Nat) (ρ σ : Rho), (∀ z z', Lv s t z z' → ∀ d', d ≤ d' → ρ z d' = σ z' d') → ev d ρ a = ev d σ b := by
  refine TG.ind fun k n ls l ih b s t hst ha hb hs d ρ σ hc => ?_
  obtain ⟨k', n', ls', l'⟩ := b
  obtain ⟨ha6, hal⟩ := (okV_mk ..).1 ha
  obtain ⟨hb6, hbl⟩ := (okV_mk ..).1 hb
  obtain ⟨rfl, hll, rfl, h6, hbn, hno⟩ := (sam_iff ..).1 hs
  rw [ev, ev]
  by_cases hk : k = 6
  · obtain ⟨h1, h2, _⟩ := h6 hk
    rw [if_pos hk, if_pos hk]
    exact hc n n' ⟨h1, h2⟩ d (Nat.le_refl _)
  rw [if_neg hk, if_neg hk]
  by_cases hb' : bndG k = true
  · rw [if_pos hb', if_pos hb']
    congr 1
    refine samGs_evs l l' (fun u hu v hv huv => ih u hu v (s ++ [n]) (t ++ [n']) (by simp [hst]) (hal u hu) (hbl v hv) huv (d + 1) _ _ fun z z' hz d' hd => ?_) (hbn hb') hll
    rcases hz.snoc hst with ⟨rfl, rfl⟩ | ⟨e, e', hz⟩
    · rw [upd_eq, upd_eq]
    · rw [upd_ne _ _ e, upd_ne _ _ e']; exact hc z z' hz d' (by omega)
  · rw [if_neg hb', if_neg hb']
    obtain ⟨rfl, h2⟩ := hno hk (by simpa using hb')
    congr 1
    exact samGs_evs l l' (fun u hu v hv huv => ih u hu v s t hst (hal u hu) (hbl v hv) huv d _ _ hc) h2 hll
theorem sam_sym {a b : TG} {s t : List Int} (hst : s.length = t.length) (ha : okV a = true) (hb : okV b = true) (h : samG a b s t = true) : samG b a t s = true :=
  (sam_ev b a t s hst.symm hb ha).2 ((sam_ev a b s t hst ha hb).1 h).symm
theorem sam_refl (a : TG) (s : List Int) : samG a a s s = true := sam_ctx a s s rfl fun _ _ => rfl
theorem sam_sz {a b : TG} {s t : List Int} (hst : s.length = t.length) (ha : okV a = true) (hb : okV b = true) (h : samG a b s t = true) : szG a = szG b := by
  have h1 := ev_inst a b s t hst ha hb h 0 (fun _ _ => leafL 0) (fun _ _ => leafL 0) fun _ _ _ _ _ => rfl
  have h2 := szD_ev a 0 1 0 (fun _ _ => leafL 0) ha (fun _ => rfl) fun _ _ _ => rfl
  have h3 := szD_ev b 0 1 0 (fun _ _ => leafL 0) hb (fun _ => rfl) fun _ _ _ => rfl
  rw [h1] at h2; omega
theorem sam_cnt {a b : TG} {s t : List Int} {n n' : Int} (hst : s.length = t.length) (ha : okV a = true) (hb : okV b = true) (h : samG a b (s ++ [n]) (t ++ [n']) = true) : cntG n a = cntG n' b := by
  have hz := sam_sz (by simp [hst]) ha hb h
  have h1 := ev_inst a b _ _ (by simp [hst]) ha hb h 0 (fun z _ => if z = n then .mk 0 (.num 0) [] [leafL 0] else leafL 0) (fun z _ => if z = n' then .mk 0 (.num 0) [] [leafL 0] else leafL 0) fun z z' hl _ _ => by
    rcases hl.snoc hst with ⟨rfl, rfl⟩ | ⟨e, e', _⟩
    · rw [if_pos rfl, if_pos rfl]
    · rw [if_neg e, if_neg e']
  have h2 := szD_ev a n 2 0 (fun z _ => if z = n then .mk 0 (.num 0) [] [leafL 0] else leafL 0) ha (fun _ => by rw [if_pos rfl]; rfl) fun _ _ e => by rw [if_neg e]; rfl
  have h3 := szD_ev b n' 2 0 (fun z _ => if z = n' then .mk 0 (.num 0) [] [leafL 0] else leafL 0) hb (fun _ => by rw [if_pos rfl]; rfl) fun _ _ e => by rw [if_neg e]; rfl
  rw [h1] at h2; omega
theorem samGs_mem {c d : List Int} : ∀ (l l' : List TG), samGs l l' c d = true → l.length = l'.length → ∀ u ∈ l, ∃ v ∈ l', samG u v c d = true
  | [], _, _, _ => fun u hu => by simp at hu
  | _ :: _, [], _, h => by simp at h
  | x :: r, y :: r', h1, h2 => fun u hu => by
    rw [samGs, Bool.and_eq_true] at h1
    rcases List.mem_cons.1 hu with rfl | hu
    · exact ⟨y, by simp, h1.1⟩
    · obtain ⟨v, hv, h⟩ := samGs_mem r r' h1.2 (by simpa using h2) u hu
      exact ⟨v, by simp [hv], h⟩
theorem sam_free : ∀ (a b : TG) (s t : List Int), s.length = t.length → okV a = true → okV b = true → samG a b s t = true → ∀ z ∈ frG a [], ∃ z' ∈ frG b [], Lv s t z z' := by
  refine TG.ind fun k n ls l ih b s t hst ha hb hs z hz => ?_
  obtain ⟨k', n', ls', l'⟩ := b
  obtain ⟨ha6, hal⟩ := (okV_mk ..).1 ha
  obtain ⟨hb6, hbl⟩ := (okV_mk ..).1 hb
  obtain ⟨rfl, hll, rfl, h6, hbn, hno⟩ := (sam_iff ..).1 hs
  rcases (fv_mk ..).1 hz with ⟨hk, rfl⟩ | ⟨hne, u, hu, hzu⟩
  · exact ⟨n', (fv_mk ..).2 (.inl ⟨hk, rfl⟩), (h6 hk).1, (h6 hk).2.1⟩
  have hk : k ≠ 6 := fun e => by rw [(ha6 e).1] at hu; simp at hu
  by_cases hb' : bndG k = true
  · obtain ⟨v, hv, huv⟩ := samGs_mem l l' (hbn hb') hll u hu
    obtain ⟨z', hz', hl⟩ := ih u hu v _ _ (by simp [hst]) (hal u hu) (hbl v hv) huv z hzu
    rcases hl.snoc hst with ⟨e, _⟩ | ⟨_, e', hl⟩
    · exact absurd e (hne hb')
    · exact ⟨z', (fv_mk ..).2 (.inr ⟨fun _ => e', v, hv, hz'⟩), hl⟩
  · obtain ⟨v, hv, huv⟩ := samGs_mem l l' (hno hk (by simpa using hb')).2 hll u hu
    obtain ⟨z', hz', hl⟩ := ih u hu v _ _ hst (hal u hu) (hbl v hv) huv z hzu
    exact ⟨z', (fv_mk ..).2 (.inr ⟨fun e => absurd e hb', v, hv, hz'⟩), hl⟩
theorem sam_dep : ∀ (a b : TG) (s t : List Int), samG a b s t = true → depG a = depG b := by
  refine TG.ind fun k n ls l ih b s t hs => ?_
  obtain ⟨k', n', ls', l'⟩ := b
  obtain ⟨rfl, hll, rfl, h6, hbn, hno⟩ := (sam_iff ..).1 hs
  rw [depG, depG]
  have key : ∀ (c d : List Int) (m m' : List TG), (∀ u ∈ m, u ∈ l) → m.length = m'.length → samGs m m' c d = true → depGs m = depGs m' := by
    intro c d m
    induction m with
    | nil => intro m' _ h _; cases m' with
      | nil => rfl
      | cons => simp at h
    | cons u r ihr =>
      intro m' hm h hs
      cases m' with
      | nil => simp at h
      | cons v r' =>
        rw [samGs, Bool.and_eq_true] at hs
        rw [depGs, depGs, ih u (hm u (by simp)) v c d hs.1, ihr r' (fun w hw => hm w (by simp [hw])) (by simpa using h) hs.2]
  by_cases hk : k = 6
  · rw [key s t l l' (fun _ h => h) hll (h6 hk).2.2]
  · by_cases hb : bndG k = true
    · rw [key _ _ l l' (fun _ h => h) hll (hbn hb)]
    · rw [key _ _ l l' (fun _ h => h) hll (hno hk (by simpa using hb)).2]
structure RelT (s t : List Int) (a b : TG) : Prop where
  sam : samG a b s t = true
  len : s.length = t.length
  la : allG a = true
  lb : allG b = true
  fre : ∀ z ∈ frG a [], z ∈ s
theorem RelT.fre' {s t : List Int} {a b : TG} (h : RelT s t a b) : ∀ z ∈ frG b [], z ∈ t := fun z hz => by
  obtain ⟨z', hz', hl⟩ := sam_free b a t s h.len.symm (allG_okV h.lb) (allG_okV h.la) (sam_sym h.len (allG_okV h.la) (allG_okV h.lb) h.sam) z hz
  have := h.fre z' hz'
  have h1 := lastI_neg t z
  have h2 := lastI_neg s z'
  rw [hl.1] at h1
  by_cases e : z ∈ t
  · exact e
  · exact absurd this (h2.1 (h1.2 e))
theorem RelT.ev {s t : List Int} {a b : TG} (h : RelT s t a b) : Go.Proofs.YtcjkikadolnfgaaGreat.ev s.length (env s) a = Go.Proofs.YtcjkikadolnfgaaGreat.ev t.length (env t) b := (sam_ev a b s t h.len (allG_okV h.la) (allG_okV h.lb)).1 h.sam
theorem RelT.sz {s t : List Int} {a b : TG} (h : RelT s t a b) : szG a = szG b := sam_sz h.len (allG_okV h.la) (allG_okV h.lb) h.sam
theorem RelT.weak {s t : List Int} {a b : TG} {n n' : Int} (h : RelT s t a b) (hn : n ∉ s) (hn' : n' ∉ t) : RelT (s ++ [n]) (t ++ [n']) a b := by
  refine ⟨(sam_ev a b _ _ (by simp [h.len]) (allG_okV h.la) (allG_okV h.lb)).2 ?_, by simp [h.len], h.la, h.lb, fun z hz => List.mem_append.2 (.inl (h.fre z hz))⟩
  rw [ev_congr a _ (env (s ++ [n])) (env s) fun z hz => by rw [env_snoc, upd_ne _ _ (by rintro rfl; exact hn (h.fre z hz))],
    ev_congr b _ (env (t ++ [n'])) (env t) fun z hz => by rw [env_snoc, upd_ne _ _ (by rintro rfl; exact hn' (h.fre' z hz))]]
  have e : (t ++ [n']).length = (s ++ [n]).length := by simp [h.len]
  rw [e]
  exact ev_inst a b s t h.len (allG_okV h.la) (allG_okV h.lb) h.sam _ _ _ fun z z' hl d _ => hl.env d
theorem RelT.free_iff {s t : List Int} {a b : TG} {n n' : Int} (h : RelT (s ++ [n]) (t ++ [n']) a b) : n ∈ frG a [] ↔ n' ∈ frG b [] := by
  have hst : s.length = t.length := by have := h.len; simpa using this
  constructor
  · intro hz
    obtain ⟨z', hz', hl⟩ := sam_free a b _ _ h.len (allG_okV h.la) (allG_okV h.lb) h.sam n hz
    rw [← hl.top hst]; exact hz'
  · intro hz
    obtain ⟨z', hz', hl⟩ := sam_free b a _ _ h.len.symm (allG_okV h.lb) (allG_okV h.la) (sam_sym h.len (allG_okV h.la) (allG_okV h.lb) h.sam) n' hz
    rw [← hl.top hst.symm]; exact hz'
theorem RelT.strong {s t : List Int} {a b : TG} {n n' : Int} (h : RelT (s ++ [n]) (t ++ [n']) a b) (hn : n ∉ frG a []) : RelT s t a b := by
  have hst : s.length = t.length := by have := h.len; simpa using this
  have hn' : n' ∉ frG b [] := fun e => hn (h.free_iff.2 e)
  refine ⟨(sam_ev a b _ _ hst (allG_okV h.la) (allG_okV h.lb)).2 ?_, hst, h.la, h.lb, fun z hz => ?_⟩
  · rw [ev_congr a _ (env s) (upd (env s) n fun _ => leafL 0) fun z hz => by rw [upd_ne _ _ (by rintro rfl; exact hn hz)],
      ev_congr b _ (env t) (upd (env t) n' fun _ => leafL 0) fun z hz => by rw [upd_ne _ _ (by rintro rfl; exact hn' hz)], hst]
    refine ev_inst a b _ _ h.len (allG_okV h.la) (allG_okV h.lb) h.sam _ _ _ fun z z' hl d _ => ?_
    rcases hl.snoc hst with ⟨rfl, rfl⟩ | ⟨e, e', hl⟩
    · rw [upd_eq, upd_eq]
    · rw [upd_ne _ _ e, upd_ne _ _ e']; exact hl.env d
  · rcases List.mem_append.1 (h.fre z hz) with h | h
    · exact h
    · rw [List.mem_singleton.1 h] at hz; exact absurd hz hn
theorem sam_none {a b : TG} (s : List Int) (ha : okV a = true) (hb : okV b = true) : samG a b s s = true ↔ samG a b [] [] = true := by
  constructor
  · intro h
    refine (sam_ev a b [] [] rfl ha hb).2 (ev_inst a b s s rfl ha hb h _ _ _ fun z z' hl d _ => ?_)
    have : z = z' := by
      by_cases e : lastI s z < 0
      · exact hl.2 e
      · have h1 := lastI_get s z (by omega)
        have h2 := lastI_get s z' (by rw [← hl.1]; omega)
        rw [h1, h2, hl.1]
    rw [this]
  · intro h
    refine (sam_ev a b s s rfl ha hb).2 (ev_inst a b [] [] rfl ha hb h _ _ _ fun z z' hl d _ => ?_)
    rw [hl.2 ((lastI_neg [] z).2 (by simp))]
theorem RelT.cmp {s t : List Int} {a b a' b' : TG} (h : RelT s t a b) (h' : RelT s t a' b') : samG a a' [] [] = samG b b' [] [] := by
  have oa := allG_okV h.la
  have ob := allG_okV h.lb
  have oa' := allG_okV h'.la
  have ob' := allG_okV h'.lb
  have e1 : samG a a' [] [] = true ↔ samG b b' [] [] = true := by
    rw [← sam_none s oa oa', ← sam_none t ob ob', sam_ev a a' s s rfl oa oa', sam_ev b b' t t rfl ob ob', h.ev, h'.ev]
  cases h1 : samG a a' [] [] <;> cases h2 : samG b b' [] [] <;> simp_all
theorem RelT.right {s t : List Int} {a b : TG} (h : RelT s t a b) : rightG a = rightG b := by
  unfold rightG
  rw [sam_dep a b s t h.sam, h.la, h.lb]
def PutIs (w u : TG) (n : Int) (y : TG) : Prop := allG w = true ∧ ∀ d ρ, ev d ρ w = ev d (upd ρ n fun d' => ev d' ρ y) u
theorem putF_is {u y : TG} (n : Int) (hu : allG u = true) (hy : allG y = true) : PutIs (putF (szG u) u n y (freeS y)) u n y :=
  ⟨allG_put _ _ _ _ _ hy hu, ev_put _ _ _ _ _ (Nat.le_refl _) (allG_okV hu) (mem_freeS y)⟩
theorem put_rel {s t : List Int} {u u' y y' w' : TG} {n n' : Int} (hu : RelT (s ++ [n]) (t ++ [n']) u u') (hy : RelT s t y y') (h' : PutIs w' u' n' y') : RelT s t (putF (szG u) u n y (freeS y)) w' := by
  obtain ⟨ha, hp⟩ := putF_is n hu.la hy.la
  refine ⟨(sam_ev _ _ s t hy.len (allG_okV ha) (allG_okV h'.1)).2 ?_, hy.len, ha, h'.1, fun z hz => ?_⟩
  · rw [hp, h'.2, ← hy.len]
    refine ev_inst u u' _ _ hu.len (allG_okV hu.la) (allG_okV hu.lb) hu.sam _ _ _ fun z z' hl d _ => ?_
    rcases hl.snoc hy.len with ⟨rfl, rfl⟩ | ⟨e, e', hl⟩
    · rw [upd_eq, upd_eq]
      exact ev_inst y y' s t hy.len (allG_okV hy.la) (allG_okV hy.lb) hy.sam _ _ _ fun z z' hl d _ => hl.env d
    · rw [upd_ne _ _ e, upd_ne _ _ e']; exact hl.env d
  · rcases (fv_put _ u n y _ (Nat.le_refl _) (allG_okV hu.la) (mem_freeS y) z).1 hz with ⟨h1, h2⟩ | ⟨_, h2⟩
    · rcases List.mem_append.1 (hu.fre z h1) with h | h
      · exact h
      · exact absurd (List.mem_singleton.1 h) h2
    · exact hy.fre z h2
end Go.Proofs.YtcjkikadolnfgaaGreat


/- More about rules: shapes. -/
set_option linter.unusedSimpArgs false
set_option linter.unusedVariables false
namespace Go.Proofs.YtcjkikadolnfgaaGreat
open Go.Vx Go.Vc Go.RowKit
def injR (a : TG) (n : Int) (c : Chk) : Chk := fun vars l => askE (insG a vars) (bE (c vars l) fun k => askE (a.k == 8 && Nat.blt n.toNat a.kids.length) (askE (samG k (kidG a n.toNat) [] []) (.ok a)))
theorem exC {α : Type} {P : Prop} (r : Except Int α) (he : ∀ e, r = .error e → P) (ho : ∀ t, r = .ok t → P) : P := by
  cases h : r with
  | error e => exact he e h
  | ok t => exact ho t h
theorem byC {P Q : Prop} (hn : ¬ P → Q) (hp : P → Q) : Q := (Classical.em P).elim hp hn
theorem boC {P : Prop} (b : Bool) (hf : b = false → P) (ht : b = true → P) : P := by
  cases h : b
  · exact hf h
  · exact ht h
theorem gz {α : Type} {a : α} {l : List α} {d : α} : (a :: l).getD 0 d = a := List.getD_cons_zero
theorem gs {α : Type} {a : α} {l : List α} {d : α} {n : Nat} : (a :: l).getD (n + 1) d = l.getD n d := List.getD_cons_succ
theorem bs {k : Int} : (k == k) = true := beq_self_eq_true k
theorem lA {α : Type} {a b : List α} : (a ++ b).length = a.length + b.length := List.length_append
theorem lC {α : Type} {a : α} {b : List α} : (a :: b).length = b.length + 1 := List.length_cons
theorem lN {α : Type} : ([] : List α).length = 0 := rfl
theorem all2 {k : Int} {a c : TG} (hk : k = 4 ∨ k = 5) (ha : allG a = true) (hc : allG c = true) : allG (.mk k 0 [] [a, c]) = true := by
  refine (allG_mk ..).2 ⟨?_, ?_⟩
  · rcases hk with rfl | rfl <;> rfl
  · intro x hx
    simp only [List.mem_cons, List.not_mem_nil, or_false] at hx
    rcases hx with rfl | rfl <;> assumption
end Go.Proofs.YtcjkikadolnfgaaGreat


/- The checker as one plain function, with the way of putting in as a part. -/
set_option linter.unusedSimpArgs false
set_option linter.unusedVariables false
namespace Go.Proofs.YtcjkikadolnfgaaGreat
def dead : Chk := fun _ _ => .error 30
def kidC (cs : List Chk) (j : Nat) : Chk := cs.getD j dead
def consE (r : Except Int TG) (q : Except Int (List TG)) : Except Int (List TG) := match r with
  | .error e => .error e
  | .ok u => match q with
    | .error e => .error e
    | .ok us => .ok (u :: us)
def recK : List Chk → List Int → List Bd → Except Int (List TG)
  | [], _, _ => .ok []
  | c :: r, vars, l => consE (c vars l) (recK r vars l)
def recR (ls : List ByteArray) (cs : List Chk) : Chk := fun vars l => match recK cs vars l with
  | .error e => .error e
  | .ok ts => .ok (.mk 7 0 ls ts)
def idxB (ls : List ByteArray) (nm : ByteArray) : Option Nat := ls.findIdx? fun x => decide (x = nm)
def selR (nm : ByteArray) (c : Chk) : Chk := fun vars l => bE (c vars l) fun t => askE (t.k == 7) (match idxB t.ls nm with
  | none => .error 30
  | some j => .ok (kidG t j))
def casK : List ByteArray → List TG → List Chk → List Int → List Bd → Except Int (List TG)
  | nm :: ls, t :: ts, c :: cs, vars, l => consE (c vars (l ++ [(nm, t)])) (casK ls ts cs vars l)
  | _, _, _, _, _ => .ok []
def allSame (us : List TG) : Bool := us.all fun x => samG x (us.headD zG) [] []
def casesR (ls : List ByteArray) (cs : List Chk) : Chk := fun vars l => bE (kidC cs 0 vars l) fun t => askE (t.k == 8 && decide (t.kids.length = ls.length) && decide (0 < ls.length)) (match casK ls t.kids cs.tail vars l with
  | .error e => .error e
  | .ok us => askE (allSame us) (.ok (us.headD zG)))
def ruleR (P : Putt) (k n : Int) (nm : ByteArray) (ls : List ByteArray) (ts : List TG) (cs : List Chk) : Chk :=
  if k = 1 ∨ k = 2 ∨ k = 3 then plainR k
  else if k = 4 then fun _ l => lookR l nm
  else if k = 5 then lamR nm (ts.getD 0 zG) (kidC cs 0)
  else if k = 6 then appRl (kidC cs 0) (kidC cs 1)
  else if k = 7 then fixR nm (ls.getD 0 ⟨#[]⟩) (ts.getD 0 zG) (ts.getD 1 zG) (kidC cs 0)
  else if k = 8 then letR nm (kidC cs 0) (kidC cs 1)
  else if k = 9 then pairR (kidC cs 0) (kidC cs 1)
  else if k = 10 then halfR 0 (kidC cs 0)
  else if k = 11 then halfR 1 (kidC cs 0)
  else if k = 12 then chooseR (kidC cs 0) (kidC cs 1) (kidC cs 2)
  else if k = 13 then binR n (kidC cs 0) (kidC cs 1)
  else if k = 14 then recR ls cs
  else if k = 15 then selR nm (kidC cs 0)
  else if k = 16 then injR (ts.getD 0 zG) n (kidC cs 0)
  else if k = 17 then casesR ls cs
  else if k = 18 then foldR P (ts.getD 0 zG) (kidC cs 0)
  else if k = 19 then unfoldR P (kidC cs 0)
  else if k = 20 then allR n (kidC cs 0)
  else if k = 21 then instR P (ts.getD 0 zG) (kidC cs 0)
  else if k = 22 then packR P (ts.getD 0 zG) (ts.getD 1 zG) (kidC cs 0)
  else if k = 23 then openR P n nm (kidC cs 0) (kidC cs 1)
  else if k = 24 then failR (ts.getD 0 zG)
  else kidC cs 0
mutual
def chk (P : Putt) : MG → Chk
  | .mk k n _ nm ls ts ks => fun vars l => fitE (ruleR P k n nm ls ts (chks P ks) vars l)
def chks (P : Putt) : List MG → List Chk
  | [] => []
  | m :: r => chk P m :: chks P r
end
theorem chk_mk (P : Putt) (k n i : Int) (nm : ByteArray) (ls : List ByteArray) (ts : List TG) (ks : List MG) : chk P (.mk k n i nm ls ts ks) = fun vars l => fitE (ruleR P k n nm ls ts (chks P ks) vars l) := by rw [chk]
theorem chks_map (P : Putt) : ∀ l, chks P l = l.map (chk P)
  | [] => by simp [chks]
  | m :: r => by simp [chks, chks_map P r]
theorem shp_all {k n i : Int} {nm : ByteArray} {ls : List ByteArray} {ts : List TG} {ks : List MG} (h : allM (.mk k n i nm ls ts ks) = true) :
    1 ≤ k ∧ k ≤ 25 ∧ badM (shpOf k) (.mk k n i nm ls ts ks) = false ∧ endM (shpOf k) (.mk k n i nm ls ts ks) = true ∧ (∀ a ∈ ts, allG a = true) ∧ (∀ u ∈ ks, allM u = true) := by
  rw [allM, Bool.and_eq_true, Bool.and_eq_true, shpM_mk] at h
  obtain ⟨⟨h1, h2⟩, h3⟩ := h
  split at h1
  · cases h1
  split at h1
  · cases h1
  refine ⟨by omega, by omega, by simp_all, h1, (allGs_iff ts).1 h2, ?_⟩
  rw [allMs_any] at h3
  intro u hu
  cases e : allM u
  · simp only [Bool.not_eq_true', List.any_eq_false] at h3
    exact absurd (by simp [e]) (h3 u hu)
  · rfl
def lastR (nm : ByteArray) : List ByteArray → Int
  | [] => -1
  | a :: r => if a = nm then r.length else lastR nm r
def lastS (x : List ByteArray) (nm : ByteArray) : Int := lastR nm x.reverse
theorem lastR_lt (nm : ByteArray) : ∀ x : List ByteArray, lastR nm x < x.length
  | [] => by simp [lastR]
  | a :: r => by
    have := lastR_lt nm r
    rw [lastR]; simp only [List.length_cons]; split <;> omega
def RelR (s t : List Int) : Except Int TG → Except Int TG → Prop
  | .ok a, .ok b => RelT s t a b
  | .error e, .error f => e = f
  | _, _ => False
def RelC (s t : List Int) : List Bd → List Bd → Prop
  | [], [] => True
  | b :: r, b' :: r' => RelT s t b.2 b'.2 ∧ RelC s t r r'
  | _, _ => False
theorem RelC.len {s t : List Int} : ∀ {l l' : List Bd}, RelC s t l l' → l.length = l'.length
  | [], [], _ => rfl
  | _ :: _, _ :: _, h => by simp [RelC.len h.2]
theorem RelC.weak {s t : List Int} {n n' : Int} (hn : n ∉ s) (hn' : n' ∉ t) : ∀ {l l' : List Bd}, RelC s t l l' → RelC (s ++ [n]) (t ++ [n']) l l'
  | [], [], _ => trivial
  | _ :: _, _ :: _, h => ⟨h.1.weak hn hn', RelC.weak hn hn' h.2⟩
theorem look_rel {s t : List Int} {nm nm' : ByteArray} : ∀ {l l' : List Bd}, RelC s t l l' → lastR nm (l.map (·.1)) = lastR nm' (l'.map (·.1)) →
    RelR s t (match l.find? (fun b => decide (b.1 = nm)) with | some b => .ok b.2 | none => .error 30) (match l'.find? (fun b => decide (b.1 = nm')) with | some b => .ok b.2 | none => .error 30)
  | [], [], _, _ => rfl
  | b :: r, b' :: r', h, e => by
    have hl := h.2.len
    have a1 := lastR_lt nm (r.map (·.1))
    have a2 := lastR_lt nm' (r'.map (·.1))
    simp only [List.length_map] at a1 a2
    simp only [List.map_cons, lastR, List.length_map] at e
    by_cases h1 : b.1 = nm
    · by_cases h2 : b'.1 = nm'
      · rw [List.find?_cons_of_pos (by simpa using h1), List.find?_cons_of_pos (by simpa using h2)]
        exact h.1
      · rw [if_pos h1, if_neg h2] at e; omega
    · by_cases h2 : b'.1 = nm'
      · rw [if_neg h1, if_pos h2] at e; omega
      · rw [if_neg h1, if_neg h2] at e
        rw [List.find?_cons_of_neg (by simpa using h1), List.find?_cons_of_neg (by simpa using h2)]
        exact look_rel h.2 e
def RelL (s t : List Int) (l l' : List Bd) : Prop := RelC s t l.reverse l'.reverse
theorem RelL.snoc {s t : List Int} {l l' : List Bd} (h : RelL s t l l') {a b : TG} (hab : RelT s t a b) (n n' : ByteArray) : RelL s t (l ++ [(n, a)]) (l' ++ [(n', b)]) := by
  unfold RelL at h ⊢
  rw [List.reverse_append, List.reverse_append]
  exact ⟨hab, h⟩
theorem RelL.look {s t : List Int} {l l' : List Bd} {nm nm' : ByteArray} (h : RelL s t l l') (e : lastS (l.map (·.1)) nm = lastS (l'.map (·.1)) nm') : RelR s t (lookR l nm) (lookR l' nm') := by
  unfold lastS at e
  rw [← List.map_reverse, ← List.map_reverse] at e
  exact look_rel h e
def bndN (k : Int) : Bool := k == 5 || k == 7 || k == 8 || k == 23
def bndV (k : Int) : Bool := k == 20 || k == 23
def bndL (k : Int) : Bool := k == 7 || k == 17
def inV (k n : Int) (j : Nat) (s : List Int) : List Int := if k = 20 ∨ k = 23 ∧ j = 1 then s ++ [n] else s
def inX (k : Int) (nm : ByteArray) (ls : List ByteArray) (j : Nat) (x : List ByteArray) : List ByteArray :=
  if k = 5 then x ++ [nm] else if k = 7 then x ++ (nm :: ls) else if (k = 8 ∨ k = 23) ∧ j = 1 then x ++ [nm] else if k = 17 ∧ 0 < j ∧ j ≤ ls.length then x ++ [ls.getD (j - 1) ⟨#[]⟩] else x
def nodM (k n i : Int) (nm : ByteArray) (ls : List ByteArray) (ts : List TG) (c : Nat) (k' n' i' : Int) (nm' : ByteArray) (ls' : List ByteArray) (ts' : List TG) (c' : Nat) (s : List Int) (x : List ByteArray) (t : List Int) (y : List ByteArray) : Bool :=
  decide (k = k') && decide (i = i') && decide (c = c') && decide (ts.length = ts'.length) && decide (ls.length = ls'.length) && (bndV k || decide (n = n')) && (bndL k || decide (ls = ls')) &&
    (if k = 4 then decide (lastS x nm = lastS y nm') && (decide (0 ≤ lastS x nm) || decide (nm = nm')) else bndN k || decide (nm = nm')) && samGs ts ts' s t
mutual
def samM : MG → MG → List Int → List ByteArray → List Int → List ByteArray → Bool
  | .mk k n i nm ls ts ks, m', s, x, t, y => nodM k n i nm ls ts ks.length m'.k m'.n m'.i m'.nm m'.ls m'.ts m'.ks.length s x t y && samMs (fun j => inV k n j s) (fun j => inX k nm ls j x) (fun j => inV m'.k m'.n j t) (fun j => inX m'.k m'.nm m'.ls j y) 0 ks m'.ks
def samMs (s : Nat → List Int) (x : Nat → List ByteArray) (t : Nat → List Int) (y : Nat → List ByteArray) : Nat → List MG → List MG → Bool
  | _, [], _ => true
  | _, _ :: _, [] => false
  | j, m :: r, m' :: r' => samM m m' (s j) (x j) (t j) (y j) && samMs s x t y (j + 1) r r'
end
theorem samM_mk (k n i : Int) (nm : ByteArray) (ls : List ByteArray) (ts : List TG) (ks : List MG) (k' n' i' : Int) (nm' : ByteArray) (ls' : List ByteArray) (ts' : List TG) (ks' : List MG) (s : List Int) (x : List ByteArray) (t : List Int) (y : List ByteArray) :
    samM (.mk k n i nm ls ts ks) (.mk k' n' i' nm' ls' ts' ks') s x t y = (nodM k n i nm ls ts ks.length k' n' i' nm' ls' ts' ks'.length s x t y && samMs (fun j => inV k n j s) (fun j => inX k nm ls j x) (fun j => inV k' n' j t) (fun j => inX k' nm' ls' j y) 0 ks ks') := by
  rw [samM]; rfl
theorem samMs_at {s : Nat → List Int} {x : Nat → List ByteArray} {t : Nat → List Int} {y : Nat → List ByteArray} : ∀ (l l' : List MG) (j0 : Nat), samMs s x t y j0 l l' = true → ∀ (j : Nat) (h : j < l.length) (h' : j < l'.length), samM l[j] l'[j] (s (j0 + j)) (x (j0 + j)) (t (j0 + j)) (y (j0 + j)) = true
  | [], _, _, _ => fun j h => by simp at h
  | _ :: _, [], _, _ => fun j _ h => by simp at h
  | m :: r, m' :: r', j0, h => fun j hj hj' => by
    rw [samMs, Bool.and_eq_true] at h
    cases j with
    | zero => exact h.1
    | succ j =>
      have := samMs_at r r' (j0 + 1) h.2 j (by simpa using hj) (by simpa using hj')
      rw [Nat.add_right_comm] at this
      exact this
mutual
def agn : MG → List Int → Bool
  | .mk k n _ _ _ _ ks, s => agns k n 0 ks s
def agns (k n : Int) : Nat → List MG → List Int → Bool
  | _, [], _ => false
  | j, m :: r, s => (decide (k = 20 ∨ k = 23 ∧ j = 1) && decide (n ∈ s)) || agn m (inV k n j s) || agns k n (j + 1) r s
end
theorem agn_mk (k n i : Int) (nm : ByteArray) (ls : List ByteArray) (ts : List TG) (ks : List MG) (s : List Int) : agn (.mk k n i nm ls ts ks) s = agns k n 0 ks s := by rw [agn]
theorem agns_at {k n : Int} {s : List Int} : ∀ (l : List MG) (j0 : Nat), agns k n j0 l s = false → ∀ (j : Nat) (h : j < l.length), (k = 20 ∨ k = 23 ∧ j0 + j = 1 → n ∉ s) ∧ agn l[j] (inV k n (j0 + j) s) = false
  | [], _, _ => fun j h => by simp at h
  | m :: r, j0, h => fun j hj => by
    rw [agns, Bool.or_eq_false_iff, Bool.or_eq_false_iff] at h
    cases j with
    | zero =>
      refine ⟨fun hk hn => ?_, h.1.2⟩
      have := h.1.1
      rw [decide_eq_true (by simpa using hk), decide_eq_true hn] at this
      cases this
    | succ j =>
      have := agns_at r (j0 + 1) h.2 j (by simpa using hj)
      rw [Nat.add_right_comm] at this
      exact this
def Agr (m m' : MG) (s t : List Int) : Prop := (m = m' ∧ s = t) ∨ (agn m s = false ∧ agn m' t = false)
theorem Agr.kid {k n i : Int} {nm : ByteArray} {ls : List ByteArray} {ts : List TG} {ks : List MG} {n' i' : Int} {nm' : ByteArray} {ls' : List ByteArray} {ts' : List TG} {ks' : List MG} {s t : List Int} (h : Agr (.mk k n i nm ls ts ks) (.mk k n' i' nm' ls' ts' ks') s t) (j : Nat) (hj : j < ks.length) (hj' : j < ks'.length) :
    Agr ks[j] ks'[j] (inV k n j s) (inV k n' j t) ∧ (k = 20 ∨ k = 23 ∧ j = 1 → (n ∈ s ↔ n' ∈ t)) := by
  rcases h with ⟨h, rfl⟩ | ⟨h, h'⟩
  · injection h with _ h2 _ _ _ _ h7
    subst h2; subst h7
    exact ⟨.inl ⟨rfl, rfl⟩, fun _ => Iff.rfl⟩
  · rw [agn_mk] at h h'
    have h1 := agns_at ks 0 h j hj
    have h2 := agns_at ks' 0 h' j hj'
    rw [Nat.zero_add] at h1 h2
    exact ⟨.inr ⟨h1.2, h2.2⟩, fun hk => ⟨fun e => absurd e (h1.1 hk), fun e => absurd e (h2.1 hk)⟩⟩
theorem RelR.bE {s t s' t' : List Int} {r r' : Except Int TG} {f f' : TG → Except Int TG} (h : RelR s t r r') (hf : ∀ a b, RelT s t a b → RelR s' t' (f a) (f' b)) : RelR s' t' (bE r f) (bE r' f') := by
  cases r <;> cases r' <;> first | exact h.elim | exact h | exact hf _ _ h
theorem RelR.ask {s t : List Int} {c c' : Bool} {r r' : Except Int TG} (h : c = c') (hf : c = true → RelR s t r r') : RelR s t (askE c r) (askE c' r') := by
  subst h
  cases c
  · exact rfl
  · exact hf rfl
theorem RelR.fitR {s t : List Int} {a b : TG} (h : RelT s t a b) : RelR s t (fitR a) (fitR b) := by
  unfold Go.Proofs.YtcjkikadolnfgaaGreat.fitR
  rw [← h.sz]
  split
  · exact h
  · exact rfl
theorem RelR.fit {s t : List Int} {r r' : Except Int TG} (h : RelR s t r r') : RelR s t (fitE r) (fitE r') := by
  cases r <;> cases r' <;> first | exact h.elim | exact h | exact RelR.fitR h
theorem RelT.kids {s t : List Int} {k n : Int} {ls : List ByteArray} {l : List TG} {k' n' : Int} {ls' : List ByteArray} {l' : List TG} (h : RelT s t (.mk k n ls l) (.mk k' n' ls' l')) :
    k = k' ∧ ls = ls' ∧ l.length = l'.length ∧ (bndG k = false → k ≠ 6 → n = n' ∧ ∀ (j : Nat) (hj : j < l.length) (hj' : j < l'.length), RelT s t l[j] l'[j]) ∧
    (bndG k = true → ∀ (j : Nat) (hj : j < l.length) (hj' : j < l'.length), RelT (s ++ [n]) (t ++ [n']) l[j] l'[j]) := by
  obtain ⟨rfl, hll, rfl, h6, hb, hno⟩ := (sam_iff ..).1 h.sam
  have ha := ((allG_mk ..).1 h.la).2
  have hb' := ((allG_mk ..).1 h.lb).2
  have key : ∀ (c d : List Int) (m m' : List TG), samGs m m' c d = true → ∀ (j : Nat) (hj : j < m.length) (hj' : j < m'.length), samG m[j] m'[j] c d = true := by
    intro c d m
    induction m with
    | nil => intro _ _ j hj; simp at hj
    | cons u r ih =>
      intro m' hs j hj hj'
      cases m' with
      | nil => simp at hj'
      | cons v r' =>
        rw [samGs, Bool.and_eq_true] at hs
        cases j with
        | zero => exact hs.1
        | succ j => exact ih r' hs.2 j (by simpa using hj) (by simpa using hj')
  refine ⟨rfl, rfl, hll, fun h1 h2 => ⟨(hno h2 h1).1, fun j hj hj' => ⟨key s t l l' (hno h2 h1).2 j hj hj', h.len, ha _ (List.getElem_mem hj), hb' _ (List.getElem_mem hj'), fun z hz => h.fre z ((fv_mk ..).2 (.inr ⟨fun e => (by rw [e] at h1; cases h1), _, List.getElem_mem hj, hz⟩))⟩⟩, fun h1 j hj hj' => ⟨key _ _ l l' (hb h1) j hj hj', by simp [h.len], ha _ (List.getElem_mem hj), hb' _ (List.getElem_mem hj'), fun z hz => ?_⟩⟩
  by_cases e : z = n
  · subst e; simp
  · exact List.mem_append.2 (.inl (h.fre z ((fv_mk ..).2 (.inr ⟨fun _ => e, _, List.getElem_mem hj, hz⟩))))
theorem RelT.two {s t : List Int} {k n : Int} {ls : List ByteArray} {l : List TG} {b : TG} (hk : k = 4 ∨ k = 5) (h : RelT s t (.mk k n ls l) b) : n = 0 ∧ ls = [] ∧ ∃ a c a' c', l = [a, c] ∧ b = .mk k 0 [] [a', c'] ∧ RelT s t a a' ∧ RelT s t c c' := by
  obtain ⟨k', n', ls', l'⟩ := b
  obtain ⟨rfl, rfl, hll, hno, -⟩ := h.kids
  obtain ⟨rfl, rfl, a, c, rfl⟩ := shp2 hk ((allG_mk ..).1 h.la).1
  obtain ⟨rfl, _, a', c', rfl⟩ := shp2 hk ((allG_mk ..).1 h.lb).1
  obtain ⟨-, hr⟩ := hno (by rcases hk with rfl | rfl <;> rfl) (by omega)
  exact ⟨rfl, rfl, a, c, a', c', rfl, rfl, hr 0 (by simp) (by simp), hr 1 (by simp) (by simp)⟩
theorem RelT.bnd {s t : List Int} {k n : Int} {ls : List ByteArray} {l : List TG} {b : TG} (hk : k = 9 ∨ k = 10 ∨ k = 11) (h : RelT s t (.mk k n ls l) b) : ls = [] ∧ ∃ u n' u', l = [u] ∧ b = .mk k n' [] [u'] ∧ RelT (s ++ [n]) (t ++ [n']) u u' := by
  obtain ⟨k', n', ls', l'⟩ := b
  obtain ⟨rfl, rfl, hll, -, hb⟩ := h.kids
  obtain ⟨rfl, u, rfl⟩ := shp1 hk ((allG_mk ..).1 h.la).1
  obtain ⟨-, u', rfl⟩ := shp1 hk ((allG_mk ..).1 h.lb).1
  exact ⟨rfl, u, n', u', rfl, rfl, hb (by rcases hk with rfl | rfl | rfl <;> rfl) 0 (by simp) (by simp)⟩
theorem relT_mk {s t : List Int} {k : Int} {ls : List ByteArray} {l l' : List TG} (hst : s.length = t.length) (hk : bndG k = false) (h6 : k ≠ 6) (ha : shpG (.mk k 0 ls l) = true) (hl : l.length = l'.length) (h : ∀ (j : Nat) (hj : j < l.length) (hj' : j < l'.length), RelT s t l[j] l'[j]) : RelT s t (.mk k 0 ls l) (.mk k 0 ls l') := by
  have key : ∀ (m m' : List TG), m.length = m'.length → (∀ (j : Nat) (hj : j < m.length) (hj' : j < m'.length), RelT s t m[j] m'[j]) → samGs m m' s t = true := by
    intro m
    induction m with
    | nil => intro m' _ _; cases m' <;> rfl
    | cons u r ih =>
      intro m' hm hh
      cases m' with
      | nil => simp at hm
      | cons v r' =>
        rw [samGs, Bool.and_eq_true]
        exact ⟨(hh 0 (by simp) (by simp)).sam, ih r' (by simpa using hm) fun j hj hj' => hh (j + 1) (by simpa using hj) (by simpa using hj')⟩
  refine ⟨(sam_iff ..).2 ⟨rfl, hl, rfl, fun e => absurd e h6, fun e => (by rw [hk] at e; cases e), fun _ _ => ⟨rfl, key l l' hl h⟩⟩, hst, (allG_mk ..).2 ⟨ha, fun u hu => ?_⟩, (allG_mk ..).2 ⟨shpG_kids hl ha, fun u hu => ?_⟩, fun z hz => ?_⟩
  · obtain ⟨j, hj, rfl⟩ := List.mem_iff_getElem.1 hu
    exact (h j hj (hl ▸ hj)).la
  · obtain ⟨j, hj, rfl⟩ := List.mem_iff_getElem.1 hu
    exact (h j (hl ▸ hj) hj).lb
  · rcases (fv_mk ..).1 hz with ⟨e, _⟩ | ⟨_, u, hu, hzu⟩
    · exact absurd e h6
    · obtain ⟨j, hj, rfl⟩ := List.mem_iff_getElem.1 hu
      exact (h j hj (hl ▸ hj)).fre z hzu
theorem relT_all {s t : List Int} {n n' : Int} {u u' : TG} (hst : s.length = t.length) (h : RelT (s ++ [n]) (t ++ [n']) u u') : RelT s t (.mk 10 n [] [u]) (.mk 10 n' [] [u']) := by
  refine ⟨(sam_iff ..).2 ⟨rfl, rfl, rfl, fun e => (by cases e), fun _ => ?_, fun _ e => (by cases e)⟩, hst, (allG_mk ..).2 ⟨rfl, fun v hv => by rw [List.mem_singleton.1 hv]; exact h.la⟩, (allG_mk ..).2 ⟨rfl, fun v hv => by rw [List.mem_singleton.1 hv]; exact h.lb⟩, fun z hz => ?_⟩
  · rw [samGs, h.sam]; rfl
  · rcases (fv_mk ..).1 hz with ⟨e, _⟩ | ⟨hne, u, hu, hzu⟩
    · cases e
    · rw [List.mem_singleton.1 hu] at hzu
      rcases List.mem_append.1 (h.fre z hzu) with h | h
      · exact h
      · exact absurd (List.mem_singleton.1 h) (hne rfl)
theorem insG_iff (a : TG) (s : List Int) : insG a s = true ↔ rightG a = 0 ∧ ∀ z ∈ frG a [], z ∈ s := by
  unfold insG
  rw [Bool.and_eq_true, beq_iff_eq, Bool.not_eq_true', List.any_eq_false]
  refine and_congr Iff.rfl ⟨fun h z hz => ?_, fun h z hz => ?_⟩
  · have := h z ((mem_freeS a z).2 hz)
    simpa using this
  · simpa using h z ((mem_freeS a z).1 hz)
theorem RelR.here {s t s' t' : List Int} {a b : TG} {r r' : Except Int TG} (hs : samG a b s t = true) (hst : s.length = t.length) (ha : allG a = true) (hb : allG b = true) (h : RelT s t a b → RelR s' t' r r') : RelR s' t' (askE (insG a s) r) (askE (insG b t) r') := by
  have oa := allG_okV ha
  have ob := allG_okV hb
  have hr : rightG a = rightG b := by unfold rightG; rw [sam_dep a b s t hs, ha, hb]
  have key : ∀ {a b : TG} {s t : List Int}, okV a = true → okV b = true → s.length = t.length → samG a b s t = true → (∀ z ∈ frG a [], z ∈ s) → ∀ z ∈ frG b [], z ∈ t := by
    intro a b s t oa ob hst hs h z hz
    obtain ⟨z', hz', hl⟩ := sam_free b a t s hst.symm ob oa (sam_sym hst oa ob hs) z hz
    have h1 := lastI_neg t z
    have h2 := lastI_neg s z'
    rw [hl.1] at h1
    by_cases e : z ∈ t
    · exact e
    · exact absurd (h z' hz') (h2.1 (h1.2 e))
  have e : insG a s = insG b t := by
    have : insG a s = true ↔ insG b t = true := by
      rw [insG_iff, insG_iff, hr]
      exact and_congr Iff.rfl ⟨key oa ob hst hs, key ob oa hst.symm (sam_sym hst oa ob hs)⟩
    cases h1 : insG a s <;> cases h2 : insG b t <;> simp_all
  exact RelR.ask e fun h1 => h ⟨hs, hst, ha, hb, ((insG_iff a s).1 h1).2⟩
end Go.Proofs.YtcjkikadolnfgaaGreat


/- slices.Backward of names, and the last place of a name. -/
set_option linter.unusedSimpArgs false
set_option linter.unusedVariables false
namespace Go.Proofs.YtcjkikadolnfgaaGreat
open Go.Proofs Go.RowKit Go.Shelf
attribute [local go_sem] Oper.semAt_some
def ixB (zs : List ByteArray) (j : Nat) : ByteArray := zs.getD j ⟨#[]⟩
def prB (zs : List ByteArray) : List (Int × ByteArray) := (List.range zs.length).map fun j => (((zs.length - 1 - j : Nat) : Int), ixB zs (zs.length - 1 - j))
theorem prB_take {zs : List ByteArray} {k : Nat} (h : k < zs.length) : (prB zs).take (k + 1) = (prB zs).take k ++ [(((zs.length - 1 - k : Nat) : Int), ixB zs (zs.length - 1 - k))] := by
  have hl : k < (prB zs).length := by simp [prB, h]
  rw [List.take_succ_eq_append_getElem hl]
  simp [prB]
def encQ (x : Int × ByteArray) : Array Value := #[.int .i64 x.1, .string x.2]
set_option maxRecDepth 100000 in
set_option maxHeartbeats 2000000 in
theorem backS_in (F : Fence) (n : Nat) (h70 : F.fn 161) (hro : F.round = none) (hn : 1 ≤ n) (l Bs n₀ b off cap : Nat) (zs : List ByteArray) (hreach : zs.length * 16 ≤ 140737488355328) (hb : b < n₀) (J Jx : List (Int × ByteArray) → World → Prop) (W : World) (hJ : AbidesFrom W.heap.size J)
    (hY : ∀ pre x W, J pre W → pre.length < zs.length → YieldAt F (n - 1) Tryz.prog l (encQ x) W fun e W' =>
      (e = .returned (.bool true) ∧ J (pre ++ [x]) W' ∧ Below n₀ W W') ∨ (e = .returned (.bool false) ∧ Jx (pre ++ [x]) W'))
    (hW : n₀ ≤ W.heap.size) (hBl : Bs < n₀) (hBs : W.cell? ⟨Bs, 0, none⟩ = some (.slice (some ⟨b, off, none⟩) zs.length cap))
    (hc : ∀ j, j < zs.length → W.cell? ⟨b, off + j, none⟩ = some (.string (ixB zs j))) (h0 : J [] W) :
    CallsIn F n Tryz.prog 161 #[.func (.yield l) #[] #[], .pointer (some ⟨Bs, 0, none⟩)] W fun e W' => (∃ v, e = .returned v) ∧
      ((∃ ys, ys = prB zs ∧ J ys W') ∨ (∃ pre, (∃ k, k ≤ zs.length ∧ pre = (prB zs).take k) ∧ Jx pre W')) := by
  refine callsIn_of_wp Tryz.func161 rfl h70 ?_ hro
  simp only [Tryz.ntmps161, List.size_toArray, List.length_cons, List.length_nil, Nat.reduceAdd, Nat.reduceSub, Array.replicate_succ, Array.replicate_zero, List.push_toArray, List.append_toArray, List.nil_append, List.cons_append]
  gi_wp2
  gi_loopw [3] (fun i wr => ∃ k : Nat, k ≤ zs.length ∧ i = .int .i64 ((zs.length : Int) - 1 - k) ∧ J ((prB zs).take k) wr ∧ Below n₀ W wr)
    (fun i _ => (intOf i + 1).toNat)
  case atStart => exact ⟨0, Nat.zero_le _, by simp, h0, Below.refl _ _⟩
  case round =>
    obtain ⟨k, hk, rfl, hJs, hnx⟩ := hrel
    by_cases hlt : k < zs.length
    · have e : (zs.length : Int) - 1 - (k : Int) = ((zs.length - 1 - k : Nat) : Int) := by omega
      have hcx := hc (zs.length - 1 - k) (by omega)
      have hc1 := (hnx.cell (p := ⟨b, off + (zs.length - 1 - k), none⟩) hb).trans hcx
      have hBs1 := (hnx.cell (p := ⟨Bs, 0, none⟩) hBl).trans hBs
      have htk := prB_take hlt
      rw [e]
      generalize hq : zs.length - 1 - k = q at *
      obtain ⟨fn, tmps, assign, body, hy, hR⟩ := hY ((prB zs).take k) ((q : Int), ixB zs q) wr hJs (by simp [prB]; omega)
      unfold encQ at hy
      gi_wp2
      refine hR.mono ?_
      rintro e W3 (⟨rfl, hJ3, hk3⟩ | ⟨rfl, hJx3⟩)
      · gi_wp2
        go_roundw
        case rel => exact ⟨k + 1, by omega, by congr 1; omega, by rw [htk]; exact hJ3, hnx.trans hk3⟩
        case measure => simp [intOf]
      · gi_wp2
        refine bodyPost_ret (results_none rfl _ _ _) rfl ?_
        exact ⟨⟨_, rfl⟩, .inr ⟨_, ⟨k + 1, by omega, htk.symm⟩, hJx3⟩⟩
    · obtain rfl : k = zs.length := by omega
      gi_wp2
      go_end0
      exact ⟨⟨_, rfl⟩, .inl ⟨_, rfl, by rw [List.take_of_length_le (by simp [prB])] at hJs; exact hJs⟩⟩
set_option maxRecDepth 100000 in
set_option maxHeartbeats 1000000 in
theorem backS_nil_in (F : Fence) (n : Nat) (h70 : F.fn 161) (hro : F.round = none) (l Bs c : Nat) (A : Option Addr) (J : List (Int × ByteArray) → World → Prop) (W : World) (hBs : W.cell? ⟨Bs, 0, none⟩ = some (.slice A 0 c)) (h0 : J [] W) :
    CallsIn F n Tryz.prog 161 #[.func (.yield l) #[] #[], .pointer (some ⟨Bs, 0, none⟩)] W fun e W' => (∃ v, e = .returned v) ∧ J [] W' := by
  refine callsIn_of_wp Tryz.func161 rfl h70 ?_ hro
  simp only [Tryz.ntmps161, List.size_toArray, List.length_cons, List.length_nil, Nat.reduceAdd, Nat.reduceSub, Array.replicate_succ, Array.replicate_zero, List.push_toArray, List.append_toArray, List.nil_append, List.cons_append]
  gi_wp2
  gi_loopw [3] (fun i wr => i = .int .i64 (-1) ∧ J [] wr) (fun _ _ => 0)
  case atStart => exact ⟨rfl, h0⟩
  case round =>
    obtain ⟨rfl, hJs⟩ := hrel
    gi_wp2
    go_end0
    exact ⟨⟨_, rfl⟩, hJs⟩
def StrsAt (n₀ : Nat) (W : World) (sv : Value) (zs : List ByteArray) : Prop :=
  ((∃ A c, sv = .slice A 0 c) ∧ zs = []) ∨ ∃ b off cap, sv = .slice (some ⟨b, off, none⟩) zs.length cap ∧ b < n₀ ∧ ∀ j, j < zs.length → W.cell? ⟨b, off + j, none⟩ = some (.string (ixB zs j))
theorem StrsAt.below {n₀ : Nat} {A B : World} (h : Below n₀ A B) {sv : Value} {zs : List ByteArray} : StrsAt n₀ A sv zs → StrsAt n₀ B sv zs
  | .inl e => .inl e
  | .inr ⟨b, off, cap, e, hb, hc⟩ => .inr ⟨b, off, cap, e, hb, fun j hj => (h.cell (p := ⟨b, off + j, none⟩) hb).trans (hc j hj)⟩
theorem backS_stops (F : Fence) (n : Nat) (h70 : F.fn 161) (hro : F.round = none) (hn : 1 ≤ n) (Bs n₀ : Nat) (sv : Value) (zs : List ByteArray) (hreach : zs.length * 16 ≤ 140737488355328) (w : World) (hBs : Bs < n₀) (hn₀ : n₀ ≤ w.heap.size)
    (hc : w.cell? ⟨Bs, 0, none⟩ = some sv) (hI : StrsAt n₀ w sv zs) :
    SeqStopsK F n Tryz.prog 161 #[.pointer (some ⟨Bs, 0, none⟩)] encQ (Below n₀) (fun ys => ys = prB zs) (fun pre => ∃ k, k ≤ zs.length ∧ pre = (prB zs).take k) zs.length w := fun l J Jx W hW hJ _ hY h0 => by
  have hc' := (hW.cell (p := ⟨Bs, 0, none⟩) (Nat.lt_of_lt_of_le hBs hn₀)).trans hc
  rcases hI.below (hW.mono hn₀) with ⟨⟨A, c, rfl⟩, rfl⟩ | ⟨b, off, cap, rfl, hb, hcs⟩
  · exact (backS_nil_in F n h70 hro l Bs c A J W hc' h0).mono fun e W' ⟨he, hj⟩ => ⟨he, .inl ⟨_, rfl, hj⟩⟩
  · exact backS_in F n h70 hro hn l Bs n₀ b off cap zs hreach hb J Jx W hJ hY (Nat.le_trans hn₀ hW.size) hBs hc' hcs h0
theorem StrsAt.up {n₀ n₁ : Nat} {A B : World} (h : Below n₀ A B) (hn : n₀ ≤ n₁) {sv : Value} {zs : List ByteArray} (hI : StrsAt n₀ A sv zs) : StrsAt n₁ B sv zs := by
  rcases hI.below h with e | ⟨b, off, cap, e, hb, hc⟩
  · exact .inl e
  · exact .inr ⟨b, off, cap, e, Nat.lt_of_lt_of_le hb hn, hc⟩
theorem findS_last {l : List (Int × ByteArray)} {q : List (Int × ByteArray)} {y : Int × ByteArray} {x : ByteArray} (h : ∃ r, l = q ++ [y] ++ r) (hy : y.2 = x) (hq : ∀ z ∈ q, z.2 ≠ x) : l.find? (fun p => decide (p.2 = x)) = some y := by
  obtain ⟨r, rfl⟩ := h
  rw [List.append_assoc, List.find?_append]
  have : q.find? (fun p => decide (p.2 = x)) = none := by
    rw [List.find?_eq_none]
    intro z hz
    simpa using hq z hz
  rw [this]
  simp [hy]
def lastB (zs : List ByteArray) (x : ByteArray) : Int := match (prB zs).find? fun p => decide (p.2 = x) with
  | some p => p.1
  | none => -1
theorem boxS_own (B : Nat) (t : TypeId) (v : Value) : Own (fun (_ : List (Int × ByteArray)) W => Boxed W B t v) := fun s X Y row hs hg hrow =>
  hs.kept hg (fun e => by obtain ⟨o, ho, hc⟩ := hrow B e.symm; rw [show X.heap[B]? = _ from hs] at ho; cases ho; cases hc)
set_option maxRecDepth 100000 in
set_option maxHeartbeats 4000000 in
theorem lastS_in (F : Fence) (n : Nat) (h35 : F.fn 76) (h53 : F.fn 109) (h70 : F.fn 161) (hro : F.round = none) (hn : 3 ≤ n) (A : Option Addr) (m cp : Nat) (zs : List ByteArray) (x : ByteArray) (hreach : zs.length * 16 ≤ 140737488355328) (w : World)
    (hI : StrsAt w.heap.size w (.slice A m cp) zs) :
    CallsIn F n Tryz.prog 76 #[.slice A m cp, .string x] w fun e W' => e = .returned (.int .i64 (lastB zs x)) ∧ Below w.heap.size w W' := by
  have h1 : 1 ≤ n := by omega
  have hback : ∀ w', CallsIn F (n - 1) Tryz.prog 109 #[.slice A m cp] w' fun e W' => e = .returned (.func (.func 161) #[] #[.pointer (some ⟨w'.heap.size, 0, none⟩)]) ∧ W' = w'.alloc (.cells #[.slice A m cp] 22) := by
    intro w'
    refine callsIn_of_wp Tryz.func109 rfl h53 ?_ hro
    simp only [Tryz.ntmps109, List.size_toArray, List.length_cons, List.length_nil, Nat.reduceAdd, Nat.reduceSub, Array.replicate_succ, Array.replicate_zero, List.push_toArray, List.append_toArray, List.nil_append, List.cons_append]
    gi_wp2
    go_ret
    exact ⟨rfl, rfl⟩
  refine callsIn_of_wp_marks Tryz.func76 rfl h35 ?_ hro
  simp only [Tryz.ntmps76, List.size_toArray, List.length_cons, List.length_nil, Nat.reduceAdd, Nat.reduceSub, Array.replicate_succ, Array.replicate_zero, List.push_toArray, List.append_toArray, List.nil_append, List.cons_append]
  gi_wp2_with (gi_at_call 109; refine (hback _).mono ?_; rintro e w' ⟨rfl, rfl⟩)
  have hB0 : Below w.heap.size w (((w.alloc (.cells #[.string x] 9)).alloc (.cells #[.int .i64 0] 3)).alloc (.cells #[.slice A m cp] 22)) := (((Below.refl _ w).alloc (Nat.le_refl _) _).alloc (by simp) _).alloc (by simp; omega) _
  have b0 := ((Boxed.new w 9 (.string x)).alloc (.cells #[.int .i64 0] 3)).alloc (.cells #[.slice A m cp] 22)
  have b1 := (Boxed.new (w.alloc (.cells #[.string x] 9)) 3 (.int .i64 0)).alloc (.cells #[.slice A m cp] 22)
  have b2 := Boxed.new ((w.alloc (.cells #[.string x] 9)).alloc (.cells #[.int .i64 0] 3)) 22 (.slice A m cp)
  have hsz : (((w.alloc (.cells #[.string x] 9)).alloc (.cells #[.int .i64 0] 3)).alloc (.cells #[.slice A m cp] 22)).heap.size = w.heap.size + 3 := by simp
  rw [show (w.alloc (.cells #[.string x] 9)).heap.size = w.heap.size + 1 from by simp] at b1
  rw [show ((w.alloc (.cells #[.string x] 9)).alloc (.cells #[.int .i64 0] 3)).heap.size = w.heap.size + 1 + 1 from by simp] at b2
  obtain ⟨W0, hW0⟩ : ∃ W0, (((w.alloc (.cells #[.string x] 9)).alloc (.cells #[.int .i64 0] 3)).alloc (.cells #[.slice A m cp] 22)) = W0 := ⟨_, rfl⟩
  rw [hW0] at hB0 b0 b1 b2 hsz ⊢
  clear hW0
  refine wpIn_rangeFunc_ownH hro h1 (gf := 161) (lb := #[.pointer (some ⟨w.heap.size + 1 + 1, 0, none⟩)]) rfl h70 (enters_of Tryz.func161 (by kernel_rfl) rfl)
    (backS_stops F (n - 1) h70 hro (by omega) (w.heap.size + 1 + 1) (w.heap.size + 3) (.slice A m cp) zs hreach W0 (by omega) (by omega) b2.cell (hI.up hB0 (by omega))) belowK_t (belowK_b (by omega)) (Below.refl _ _) (fun _ => rfl)
    (fun pre W => (Boxed W w.heap.size 9 (.string x) ∧ Boxed W (w.heap.size + 1) 3 (.int .i64 0) ∧ ∀ y ∈ pre, y.2 ≠ x) ∧ Below w.heap.size w W)
    (fun c pre W => (c = .ret ∧ ∃ q y, pre = q ++ [y] ∧ y.2 = x ∧ (∀ z ∈ q, z.2 ≠ x) ∧ Boxed W (w.heap.size + 1) 3 (.int .i64 y.1)) ∧ Below w.heap.size w W)
    (OwnFrom.and (Own.from (fun s X Y row hs hg hr => ⟨boxS_own _ _ _ s X Y row hs.1 hg hr, boxS_own _ _ _ s X Y row hs.2.1 hg hr, hs.2.2⟩) _) (ownFrom_below (Nat.le_refl _) (by omega)))
    (fun c => OwnFrom.and (Own.from (fun s X Y row hs hg hr => by obtain ⟨rfl, q, y, e1, e2, e3, e4⟩ := hs; exact ⟨rfl, q, y, e1, e2, e3, boxS_own _ _ _ s X Y row e4 hg hr⟩) _) (ownFrom_below (Nat.le_refl _) (by omega)))
    ⟨⟨b0, b1, by simp⟩, hB0⟩
    (fun p a' W => a' = { tmps := #[.slice A m cp, .string x, undef, .pointer (some ⟨w.heap.size, 0, none⟩), .pointer (some ⟨w.heap.size + 1, 0, none⟩), .int .i64 p.1, .string p.2, .slice A m cp, .func (.func 161) #[] #[.pointer (some ⟨w.heap.size + 1 + 1, 0, none⟩)], .int .i64 p.1, .string p.2, undef, undef, undef, undef], defers := [] })
    (fun x a' _ X Y row hs hg hr => hs)
    ?assign ?body ?done ?stop
  case assign =>
    rintro l pre p W K ⟨⟨h0, h1', hne⟩, hB1⟩ hK
    unfold encQ
    gi_wp2
    exact hK _ _ (KeepsFrom.refl _ _) (Below.refl _ _) ⟨⟨h0, h1', hne⟩, hB1⟩ rfl
  case body =>
    rintro l pre p a' W hl ⟨r, hr⟩ ⟨⟨h0, h1', hne⟩, hB⟩ rfl hlt
    have hc0 := h0.cell
    have hc1 := h1'.cell
    have hf1 := h1'.frozen
    by_cases he : x = p.2
    · gi_wp2
      refine ⟨(KeepsOthers.setCell _ _ _).from _, ⟨rfl, pre, p, rfl, he.symm, hne, h1'.set _⟩, hB.setCell (by simp) _⟩
    · have hbb : (x.toList == p.2.toList) = false := by rw [beqB']; simpa using he
      gi_wp2
      refine ⟨KeepsFrom.refl _ _, Below.refl _ _, ⟨h0, h1', fun y hy => ?_⟩, hB⟩
      rcases List.mem_append.1 hy with hy | hy
      · exact hne y hy
      · simp at hy; subst hy; exact fun h => he h.symm
  case done =>
    rintro D ys W hD rfl ⟨⟨h0, h1', hne⟩, hB⟩ hK
    have hc1 := h1'.cell
    have hf1 := h1'.frozen
    gi_wp2
    have hlt := (Array.getElem?_eq_some_iff.1 hK).1
    have h2 := h1'.set (.int .i64 (-1))
    have hK2 : (W.setCell ⟨w.heap.size + 1, 0, none⟩ (.int .i64 (-1))).heap[D]? = some (.deferred (some [])) := (Below.heap_setCell W _ _ D (by show D ≠ w.heap.size + 1; omega)).trans hK
    refine ⟨by simp, .inl ⟨_, _, rfl, run_takeDeferred hK2, ?_⟩⟩
    have h3 : Boxed ((W.setCell ⟨w.heap.size + 1, 0, none⟩ (.int .i64 (-1))).putObj D (.deferred none)) (w.heap.size + 1) 3 (.int .i64 (-1)) := (World.putObj_heap_other (by omega)).trans h2
    refine ⟨.int .i64 (-1), ?_, ?_, ?_⟩
    · exact res_cell1 (ty := 3) rfl rfl rfl (by rfl) h3.cell
    · congr 2
      unfold lastB
      have : (prB zs).find? (fun p => decide (p.2 = x)) = none := by
        rw [List.find?_eq_none]
        intro z hz
        simpa using hne z hz
      rw [this]
    · exact (hB.setCell (p := ⟨w.heap.size + 1, 0, none⟩) (by simp) _).trans (belowK_b (w := w) (Nat.le_refl _) _ D _ _ (by omega) hK2 rfl rfl)
  case stop =>
    rintro D c pre W hD hk ⟨⟨rfl, q, y, rfl, e2, e3, e4⟩, hB⟩ hK
    have hc1 := e4.cell
    gi_wp2
    refine ⟨by simp, .inl ⟨_, _, rfl, run_takeDeferred hK, ?_⟩⟩
    have h3 : Boxed (W.putObj D (.deferred none)) (w.heap.size + 1) 3 (.int .i64 y.1) := (World.putObj_heap_other (by omega)).trans e4
    refine ⟨.int .i64 y.1, ?_, ?_, ?_⟩
    · exact res_cell1 (ty := 3) rfl rfl rfl (by rfl) h3.cell
    · congr 2
      unfold lastB
      obtain ⟨k, hk, hkk⟩ := hk
      rw [findS_last (q := q) (y := y) ⟨(prB zs).drop k, by rw [hkk, List.take_append_drop]⟩ e2 e3]
    · exact hB.trans (belowK_b (w := w) (Nat.le_refl _) W D _ _ (by omega) hK rfl rfl)
theorem repS_flat {S : Nat → Prop} {w : World} : ∀ {l : List ByteArray} {cs : List Value}, Go.Vx.RepDs S w (encS l) cs → cs = l.map (.string)
  | [], cs, h => by simpa only [encS, List.map_nil, Go.Vx.RepDs] using h
  | x :: r, cs, h => by
    rw [show encS (x :: r) = .str x :: encS r from rfl] at h
    simp only [Go.Vx.RepDs, Go.Vx.RepD] at h
    obtain ⟨_, _, rfl, rfl, h⟩ := h
    rw [repS_flat h]; rfl
theorem strsAt_rep {S : Nat → Prop} {w : World} {v : Value} {l : List ByteArray} (h : Go.Vx.RepD S w (dL l) v) : ∃ A c, v = .slice A l.length c ∧ StrsAt w.heap.size w (.slice A l.length c) l := by
  simp only [dL, Go.Vx.slD, Go.Vx.RepD] at h
  obtain ⟨A, c, rfl, h1, h2, h3, h4⟩ := h
  refine ⟨A, c, rfl, ?_⟩
  cases l with
  | nil => exact .inl ⟨⟨A, c, rfl⟩, rfl⟩
  | cons x r =>
    obtain ⟨ad, rfl⟩ := h3 (by simp)
    obtain ⟨vs, k1, k2⟩ := h4.cells
    have hv := repS_flat k1
    have k3 : ∀ j, j < (x :: r).length → w.cell? (ad.add j) = some (.string (ixB (x :: r) j)) := by
      intro j hj
      have := (k2 j (.string (ixB (x :: r) j)) (by rw [hv, List.getElem?_map, ixB, List.getD_eq_getElem?_getD, List.getElem?_eq_getElem hj]; rfl)).2
      simpa using this
    have hs : ad.spot = none := by
      have := k3 0 (by simp)
      rw [show ad.add 0 = ad from rfl] at this
      unfold World.cell? at this
      cases hsp : ad.spot with
      | none => rfl
      | some s =>
        simp [hsp] at this
        split at this <;> cases this
    obtain ⟨bk, off, sp⟩ := ad
    simp only at hs
    subst hs
    have k0 := World.block_lt_of_cell? w _ (k3 0 (by simp))
    rw [Go.Vc.add_block] at k0
    exact .inr ⟨bk, off, c, rfl, k0, fun j hj => by
      have := k3 j hj
      rw [Go.Vc.add_own] at this
      exact this⟩
theorem lastS_fn (l : List ByteArray) (x : ByteArray) : Go.Vx.FnR Tryz.prog G0 76 [dL l, .str x] (.int .i64 (lastB l x)) := by
  refine Go.Vx.fnQ_sz fun hs => ?_
  have hl := (Go.Vx.szOk_sl hs.1).1
  simp only [Go.Vx.LB] at hl
  intro S w vs hvs hlt _
  simp only [Go.Vx.RepDs] at hvs
  obtain ⟨v, s, rfl, h1, v2, s2, rfl, h2, rfl⟩ := hvs
  simp only [Go.Vx.RepD] at h2
  subst h2
  obtain ⟨A, c, rfl, hI⟩ := strsAt_rep h1
  refine (callsIn_wide.1 (lastS_in Fence.wide 3 trivial trivial trivial rfl (by omega) A l.length c l x hl w hI)).mono ?_
  rintro en w' ⟨rfl, hb⟩
  exact ⟨.ret (.int .i64 (lastB l x)), S, rfl, ⟨_, rfl, by simp only [Go.Vx.RepD]⟩, ⟨hb, trivial⟩, fun _ h => h, fun _ h => .inl h, fun k hk => Nat.lt_of_lt_of_le (hlt k hk) hb.size⟩
def pairsR : List ByteArray → List (Int × ByteArray)
  | [] => []
  | a :: r => ((r.length : Int), a) :: pairsR r
theorem pairsR_len : ∀ r, (pairsR r).length = r.length
  | [] => rfl
  | a :: r => by simp [pairsR, pairsR_len r]
theorem pairsR_get : ∀ (r : List ByteArray) (j : Nat) (h : j < (pairsR r).length) (h' : j < r.length), (pairsR r)[j] = (((r.length - 1 - j : Nat) : Int), r[j])
  | [], j, h, _ => by simp [pairsR] at h
  | a :: r, 0, _, _ => by simp [pairsR]
  | a :: r, j + 1, h, h' => by
    simp only [pairsR, List.getElem_cons_succ]
    rw [pairsR_get r j (by simpa [pairsR] using h) (by simpa using h')]
    simp only [List.length_cons, Prod.mk.injEq, and_true]
    congr 1; omega
theorem prB_pairs (zs : List ByteArray) : prB zs = pairsR zs.reverse := by
  have hl : (prB zs).length = (pairsR zs.reverse).length := by rw [pairsR_len]; simp [prB]
  refine List.ext_getElem hl fun j h1 h2 => ?_
  have hj : j < zs.length := by simpa [prB] using h1
  rw [pairsR_get zs.reverse j h2 (by simpa using hj)]
  simp only [prB, List.getElem_map, List.getElem_range, List.length_reverse, Prod.mk.injEq, true_and]
  rw [List.getElem_reverse]
  simp only [ixB]
  rw [List.getD_eq_getElem?_getD, List.getElem?_eq_getElem (by omega)]; rfl
theorem lastB_lastS (zs : List ByteArray) (x : ByteArray) : lastB zs x = lastS zs x := by
  unfold lastB lastS
  rw [prB_pairs]
  induction zs.reverse with
  | nil => rfl
  | cons a r ih =>
    rw [pairsR, lastR]
    by_cases h : a = x
    · rw [if_pos h, List.find?_cons_of_pos (by simpa using h)]
    · rw [if_neg h, List.find?_cons_of_neg (by simpa using h)]
      exact ih
theorem lastN_fn (l : List ByteArray) (x : ByteArray) : Go.Vx.FnR Tryz.prog G0 76 [dL l, .str x] (.int .i64 (lastS l x)) := by
  rw [← lastB_lastS]; exact lastS_fn l x
end Go.Proofs.YtcjkikadolnfgaaGreat


/- Scopes of terms: what binds, and what is bound in a kid. -/
set_option linter.unusedSimpArgs false
set_option linter.unusedVariables false
namespace Go.Proofs.YtcjkikadolnfgaaGreat
open Go.Vx Go.Vc Go.RowKit
theorem bndV_fn (m : MG) : FnR Tryz.prog G0 73 [dM m] (.bool (bndV m.k)) := by
  refine fnQ_of_vc txok mixed [] Tryz.func73 rfl rfl (by simp) fun b => ?_
  (repeat' ((conv => whnf); first | refine And.intro (fun _ => ?_) (fun _ => ?_))) <;> (conv => whnf)
  all_goals simp_all [bndV, retD]
theorem bndL_fn (m : MG) : FnR Tryz.prog G0 74 [dM m] (.bool (bndL m.k)) := by
  refine fnQ_of_vc txok mixed [] Tryz.func74 rfl rfl (by simp) fun b => ?_
  (repeat' ((conv => whnf); first | refine And.intro (fun _ => ?_) (fun _ => ?_))) <;> (conv => whnf)
  all_goals simp_all [bndL, retD]
theorem bndN_fn (m : MG) : FnR Tryz.prog G0 77 [dM m] (.bool (bndN m.k)) := by
  refine fnQ_of_vc txok mixed [] Tryz.func77 rfl rfl (by simp) fun b => ?_
  (repeat' ((conv => whnf); first | refine And.intro (fun _ => ?_) (fun _ => ?_))) <;> (conv => whnf)
  all_goals simp_all [bndN, retD]
theorem clipS_fn (l : List ByteArray) : FnR Tryz.prog G0 162 [dL l] (.csl (ebn 16 l.length) l.length (encS l)) := by
  refine fnQ_of_vc txok mixed [] Tryz.func162 rfl rfl (by simp) fun b => ?_
  conv => whnf
  refine clipC (el := 9) txok rfl rfl rfl rfl rfl rfl rfl ?_
  conv => whnf
  try exact rfl
theorem snocS {n0 N : Nat} {b : Bs G0 n0} {kp : Bool} {o : Oper} {st : Go.Vx.St} {K : SExit → Go.Vx.St → Prop} {y : Go.Vx.SV} {eb' : Nat} (s r : List ByteArray) (ho : appOf st.T o.op = some (.d (.csl eb' s.length (encS s)), y, 22)) (hy : slOf st.H y = some (r.length, encS r)) (hr : 0 < r.length) (hlen : s.length + r.length < 1099511627776)
    (hk : match st with
      | ⟨T, H, q⟩ => Go.Vx.putK N o.dst (.row q) ⟨T, (q, .row 9 16 1 (s ++ r).length (encS (s ++ r))) :: H, q + 1⟩ (K .normal)) : OpC Tryz.prog b N kp o st K :=
  appC (el := 9) (eb := 16) (sz := 1) txok (s ++ r).length (encS (s ++ r)) ho hy (by kernel_rfl) hr (by rw [encS_len, Nat.mul_one]) (encS_scal s) (by rw [encS_len, Nat.mul_one]) (encS_scal r) (by simp only [LB]; omega) (by simp) (by simp [encS]) hk
abbrev dX (s : List Int) (x : List ByteArray) : D := .agg [dI s, dL x]
theorem nameX_fn (s : List Int) (x r : List ByteArray) (hr : 0 < r.length) (hl : x.length + r.length < 1099511627776) : FnR Tryz.prog G0 110 [dX s x, dL r] (dX s (x ++ r)) := by
  refine fnQ_of_vc txok mixed [(1, .pure 0 (.take 1 (.pure 2 (.take 3 (.pure 5 (.run 4 (.run 6 (.pure 7 (.fin 8 .done)))))))))] Tryz.func110 rfl rfl (by simp) fun b => ?_
  conv => whnf
  refine And.intro (by kernel_rfl) ?_
  repeat' ((conv => whnf); first
    | refine And.intro ?_ ?_
    | refine callF (clipS_fn x) gf162 rfl rfl ?_
    | refine snocS x r rfl rfl hr hl ?_)
  all_goals (conv => whnf)
  all_goals
    refine pubC (fun i => Nat.ble 1 i) ?_
    (conv => whnf)
    try exact rfl
theorem typX_fn (s : List Int) (x : List ByteArray) (n : Int) (hl : s.length < 1099511627776) : FnR Tryz.prog G0 111 [dX s x, .int .i64 n] (dX (s ++ [n]) x) := by
  refine fnQ_of_vc txok mixed [(1, .pure 0 (.take 1 (.pure 3 (.pure 6 (.take 7 (.two 2 4 (.run 4 (.run 5 (.pure 8 (.fin 9 .done)))) (.run 2 (.run 5 (.pure 8 (.fin 9 .done))))))))))] Tryz.func111 rfl rfl (by simp) fun b => ?_
  conv => whnf
  refine And.intro (by kernel_rfl) ?_
  repeat' ((conv => whnf); first
    | refine And.intro ?_ ?_
    | refine callF (clip_fn s) gf86 rfl rfl ?_
    | refine snocI s n rfl rfl (by omega) ?_)
  all_goals (conv => whnf)
  all_goals
    refine pubC (fun i => Nat.ble 1 i) ?_
    (conv => whnf)
    try exact rfl
end Go.Proofs.YtcjkikadolnfgaaGreat


/- What is bound in a kid. -/
set_option linter.unusedSimpArgs false
set_option linter.unusedVariables false
namespace Go.Proofs.YtcjkikadolnfgaaGreat
open Go.Vx Go.Vc Go.RowKit
theorem predD {j : Nat} (h : 0 < j) (h2 : j < 9223372036854775807) : IntKind.i64.wrap ((j : Int) - 1) = ((j - 1 : Nat) : Int) := by
  have e : ((j : Int) - 1) = ((j - 1 : Nat) : Int) := by omega
  rw [e]
  have h1 : ((j - 1 : Nat) : Int) ≤ 9223372036854775807 := by omega
  have h0 : -9223372036854775808 ≤ ((j - 1 : Nat) : Int) := by omega
  exact Go.Vc.wrap_small h0 h1
theorem natOne (j : Nat) : ((j : Int) = 1) ↔ j = 1 := by omega
theorem inner_fn (m : MG) (j : Nat) (s : List Int) (x : List ByteArray) (hj : j < 1099511627776) (hs : s.length < 1099511627776) (hx : x.length + m.ls.length + 1 < 1099511627776) : FnR Tryz.prog G0 78 [dM m, .int .i64 j, dX s x] (dX (inV m.k m.n j s) (inX m.k m.nm m.ls j x)) := by
  obtain ⟨k, n, i, nm, ls, ts, ks⟩ := m
  simp only [MG.ls] at hx
  have hN : FnR Tryz.prog G0 110 [dX s x, dL [nm]] (dX s (x ++ [nm])) := nameX_fn s x [nm] (by simp) (by simp only [List.length_cons, List.length_nil]; omega)
  have hF : FnR Tryz.prog G0 110 [dX s x, dL (nm :: ls)] (dX s (x ++ (nm :: ls))) := nameX_fn s x (nm :: ls) (by simp) (by simp only [List.length_cons]; omega)
  have hT : FnR Tryz.prog G0 111 [dX s x, .int .i64 n] (dX (s ++ [n]) x) := typX_fn s x n hs
  have hTN : FnR Tryz.prog G0 110 [dX (s ++ [n]) x, dL [nm]] (dX (s ++ [n]) (x ++ [nm])) := nameX_fn (s ++ [n]) x [nm] (by simp) (by simp only [List.length_cons, List.length_nil]; omega)
  have hL : ∀ lb : ByteArray, FnR Tryz.prog G0 110 [dX s x, dL [lb]] (dX s (x ++ [lb])) := fun lb => nameX_fn s x [lb] (by simp) (by simp only [List.length_cons, List.length_nil]; omega)
  refine fnQ_sz fun hsz => ?_
  have hls := (szOk_M hsz.1).2.2.2
  simp only [MG.ls, LB] at hls
  refine fnQ_of_vc txok mixed ((200005, .done) :: (5, (.pure 1 (.pure 4 (.three 0 2 5 (.two 2 5 (.two 3 5 (.run 5 (.run 6 (.fin 7 (.fin 8 .done)))) (.run 3 (.run 6 (.fin 7 (.fin 8 .done))))) (.run 2 (.run 3 (.run 6 (.fin 7 (.fin 8 .done)))))) (.three 0 3 5 (.two 3 5 (.run 5 (.run 6 (.fin 7 (.fin 8 .done)))) (.run 3 (.run 6 (.fin 7 (.fin 8 .done))))) (.two 0 5 (.run 5 (.run 6 (.fin 7 (.fin 8 .done)))) (.two 0 6 (.run 6 (.fin 7 (.fin 8 .done))) (.run 0 (.fin 7 (.fin 8 .done))))) (.two 0 3 (.run 3 (.run 6 (.fin 7 (.fin 8 .done)))) (.two 0 6 (.run 6 (.fin 7 (.fin 8 .done))) (.run 0 (.fin 7 (.fin 8 .done)))))) (.two 0 2 (.run 2 (.run 3 (.run 6 (.fin 7 (.fin 8 .done))))) (.two 0 3 (.run 3 (.run 6 (.fin 7 (.fin 8 .done)))) (.two 0 6 (.run 6 (.fin 7 (.fin 8 .done))) (.run 0 (.fin 7 (.fin 8 .done)))))))))) :: [(5, .take 0 (.pure 1 (.take 2 (.pure 4 (.take 5 (.run 3 (.run 6 (.fin 7 (.fin 8 .done))))))))), (11, .take 0 (.pure 1 (.take 2 (.pure 4 (.take 5 (.two 3 6 (.run 6 (.fin 7 (.fin 8 .done))) (.run 3 (.fin 7 (.fin 8 .done))))))))), (14, .take 0 (.pure 1 (.take 2 (.pure 3 (.pure 4 (.pure 5 (.take 6 (.run 7 (.fin 8 (.fin 9 .done))))))))))]) Tryz.func78 rfl rfl (by simp) fun b => ?_
  simp only [MG.k, MG.n, MG.nm, MG.ls, inV, inX]
  repeat' ((conv => whnf); first
    | refine And.intro (by kernel_rfl) ?_
    | refine And.intro (fun h => ?_) (fun h => ?_)
    | refine And.intro ?_ ?_
    | (refine pubC (fun i => Nat.beq i 3) ?_; (conv => whnf); refine callF hN gf110 rfl rfl ?_)
    | (refine pubC (fun i => Nat.beq i 3) ?_; (conv => whnf); refine callF hF gf110 rfl rfl ?_)
    | (refine pubC (fun i => Nat.beq i 3) ?_; (conv => whnf); refine callF hTN gf110 rfl rfl ?_)
    | refine callF hT gf111 rfl rfl ?_
    | refine appR (i := 3) (el := 9) (eb := 16) (sz := 1) (n := 1) (m := ls.length) (xs := [.str nm]) (ys := encS ls) txok (fun _ => false) (ls.length + 1) (encS (nm :: ls)) (by exact rfl) (by exact rfl) (by exact rfl) (by kernel_rfl) (by rw [encS_len, Nat.mul_one]) (encS_scal ls) (by omega) rfl (by simp only [LB]; omega) ?_)
  case refine_2.refine_2.refine_2.refine_2.refine_1.refine_1.refine_1 =>
    have h0 : decide ((j : Int) > 0) = true := by assumption
    have h1 : decide ((j : Int) ≤ (MG.mk k n i nm ls ts ks).ls.length) = true := by assumption
    have h17 : ((MG.mk k n i nm ls ts ks).k == 17) = true := by assumption
    have g0 : 0 < j := by simpa using h0
    have g1 : j ≤ ls.length := by simpa [MG.ls] using h1
    have g17 : k = 17 := by simpa [MG.k] using h17
    refine IdxC.encS (l := ls) (j - 1) (by omega) (predD g0 (by omega)) ?_
    conv => whnf
    refine pubC (fun i => Nat.beq i 3) ?_
    conv => whnf
    refine callF (hL _) gf110 rfl rfl ?_
    conv => whnf
    subst g17
    have e : ls.getD (j - 1) ⟨#[]⟩ = ls[j - 1] := by rw [List.getD_eq_getElem?_getD, List.getElem?_eq_getElem (by omega)]; rfl
    rw [e]
    simp [g0, g1]
  all_goals (try (conv => whnf))
  all_goals (try exact rfl)
  all_goals (simp only [MG.k, beq_iff_eq, beq_eq_false_iff_ne, decide_eq_true_eq, decide_eq_false_iff_not, ne_eq, natOne] at *)
  all_goals (try simp_all)
  all_goals (try (simp only [MG.ls] at *))
  all_goals (try (rw [if_neg (by omega)]; done))
  all_goals (try (rw [List.getElem?_eq_getElem (by omega)]; rfl))
end Go.Proofs.YtcjkikadolnfgaaGreat


