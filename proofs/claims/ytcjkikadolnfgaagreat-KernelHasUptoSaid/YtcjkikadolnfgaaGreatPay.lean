/- Texts of mine, joined: At Ax Bs Ed. -/
import Derived.Test.YtcjkikadolnfgaaGreatPau
import Derived.Test.YtcjkikadolnfgaaGreatPax
import Derived.Test.YtcjkikadolnfgaaGreatPaw
import Derived.Test.YtcjkikadolnfgaaGreatPav
/- Rules: choose (printed by gzw.py). -/
set_option linter.unusedSimpArgs false
set_option linter.unusedVariables false
namespace Go.Proofs.YtcjkikadolnfgaaGreat
open Go.Vx Go.Vc Go.RowKit
def Atpq0 : List (Nat × Go.Vc.Pl) := [(1, .take 0 (.pure 1 (.take 2 (.pure 3 (.take 4 (.take 6 (.pure 7 (.take 8 (.pure 9 (.take 10 (.take 12 (.pure 13 (.take 14 (.pure 15 (.take 16 (.four 5 18 19 20 (.four 11 18 19 20 (.four 17 18 19 20 (.three 18 19 20 (.two 19 20 (.run 20 (.fin 21 (.fin 22 (.fin 23 .done)))) (.run 19 (.fin 21 (.fin 22 (.fin 23 .done))))) (.two 18 20 (.run 20 (.fin 21 (.fin 22 (.fin 23 .done)))) (.run 18 (.fin 21 (.fin 22 (.fin 23 .done))))) (.two 18 19 (.run 19 (.fin 21 (.fin 22 (.fin 23 .done)))) (.run 18 (.fin 21 (.fin 22 (.fin 23 .done)))))) (.three 17 19 20 (.two 19 20 (.run 20 (.fin 21 (.fin 22 (.fin 23 .done)))) (.run 19 (.fin 21 (.fin 22 (.fin 23 .done))))) (.two 17 20 (.run 20 (.fin 21 (.fin 22 (.fin 23 .done)))) (.fin 17 (.fin 21 (.fin 22 (.fin 23 .done))))) (.two 17 19 (.run 19 (.fin 21 (.fin 22 (.fin 23 .done)))) (.fin 17 (.fin 21 (.fin 22 (.fin 23 .done)))))) (.three 17 18 20 (.two 18 20 (.run 20 (.fin 21 (.fin 22 (.fin 23 .done)))) (.run 18 (.fin 21 (.fin 22 (.fin 23 .done))))) (.two 17 20 (.run 20 (.fin 21 (.fin 22 (.fin 23 .done)))) (.fin 17 (.fin 21 (.fin 22 (.fin 23 .done))))) (.two 17 18 (.run 18 (.fin 21 (.fin 22 (.fin 23 .done)))) (.fin 17 (.fin 21 (.fin 22 (.fin 23 .done)))))) (.three 17 18 19 (.two 18 19 (.run 19 (.fin 21 (.fin 22 (.fin 23 .done)))) (.run 18 (.fin 21 (.fin 22 (.fin 23 .done))))) (.two 17 19 (.run 19 (.fin 21 (.fin 22 (.fin 23 .done)))) (.fin 17 (.fin 21 (.fin 22 (.fin 23 .done))))) (.two 17 18 (.run 18 (.fin 21 (.fin 22 (.fin 23 .done)))) (.fin 17 (.fin 21 (.fin 22 (.fin 23 .done))))))) (.three 11 19 20 (.three 17 19 20 (.two 19 20 (.run 20 (.fin 21 (.fin 22 (.fin 23 .done)))) (.run 19 (.fin 21 (.fin 22 (.fin 23 .done))))) (.two 17 20 (.run 20 (.fin 21 (.fin 22 (.fin 23 .done)))) (.fin 17 (.fin 21 (.fin 22 (.fin 23 .done))))) (.two 17 19 (.run 19 (.fin 21 (.fin 22 (.fin 23 .done)))) (.fin 17 (.fin 21 (.fin 22 (.fin 23 .done)))))) (.two 11 20 (.two 17 20 (.run 20 (.fin 21 (.fin 22 (.fin 23 .done)))) (.fin 17 (.fin 21 (.fin 22 (.fin 23 .done))))) (.run 11 (.fin 17 (.fin 21 (.fin 22 (.fin 23 .done)))))) (.two 11 19 (.two 17 19 (.run 19 (.fin 21 (.fin 22 (.fin 23 .done)))) (.fin 17 (.fin 21 (.fin 22 (.fin 23 .done))))) (.run 11 (.fin 17 (.fin 21 (.fin 22 (.fin 23 .done))))))) (.three 11 18 20 (.three 17 18 20 (.two 18 20 (.run 20 (.fin 21 (.fin 22 (.fin 23 .done)))) (.run 18 (.fin 21 (.fin 22 (.fin 23 .done))))) (.two 17 20 (.run 20 (.fin 21 (.fin 22 (.fin 23 .done)))) (.fin 17 (.fin 21 (.fin 22 (.fin 23 .done))))) (.two 17 18 (.run 18 (.fin 21 (.fin 22 (.fin 23 .done)))) (.fin 17 (.fin 21 (.fin 22 (.fin 23 .done)))))) (.two 11 20 (.two 17 20 (.run 20 (.fin 21 (.fin 22 (.fin 23 .done)))) (.fin 17 (.fin 21 (.fin 22 (.fin 23 .done))))) (.run 11 (.fin 17 (.fin 21 (.fin 22 (.fin 23 .done)))))) (.two 11 18 (.two 17 18 (.run 18 (.fin 21 (.fin 22 (.fin 23 .done)))) (.fin 17 (.fin 21 (.fin 22 (.fin 23 .done))))) (.run 11 (.fin 17 (.fin 21 (.fin 22 (.fin 23 .done))))))) (.three 11 18 19 (.three 17 18 19 (.two 18 19 (.run 19 (.fin 21 (.fin 22 (.fin 23 .done)))) (.run 18 (.fin 21 (.fin 22 (.fin 23 .done))))) (.two 17 19 (.run 19 (.fin 21 (.fin 22 (.fin 23 .done)))) (.fin 17 (.fin 21 (.fin 22 (.fin 23 .done))))) (.two 17 18 (.run 18 (.fin 21 (.fin 22 (.fin 23 .done)))) (.fin 17 (.fin 21 (.fin 22 (.fin 23 .done)))))) (.two 11 19 (.two 17 19 (.run 19 (.fin 21 (.fin 22 (.fin 23 .done)))) (.fin 17 (.fin 21 (.fin 22 (.fin 23 .done))))) (.run 11 (.fin 17 (.fin 21 (.fin 22 (.fin 23 .done)))))) (.two 11 18 (.two 17 18 (.run 18 (.fin 21 (.fin 22 (.fin 23 .done)))) (.fin 17 (.fin 21 (.fin 22 (.fin 23 .done))))) (.run 11 (.fin 17 (.fin 21 (.fin 22 (.fin 23 .done)))))))) (.three 5 19 20 (.three 11 19 20 (.three 17 19 20 (.two 19 20 (.run 20 (.fin 21 (.fin 22 (.fin 23 .done)))) (.run 19 (.fin 21 (.fin 22 (.fin 23 .done))))) (.two 17 20 (.run 20 (.fin 21 (.fin 22 (.fin 23 .done)))) (.fin 17 (.fin 21 (.fin 22 (.fin 23 .done))))) (.two 17 19 (.run 19 (.fin 21 (.fin 22 (.fin 23 .done)))) (.fin 17 (.fin 21 (.fin 22 (.fin 23 .done)))))) (.two 11 20 (.two 17 20 (.run 20 (.fin 21 (.fin 22 (.fin 23 .done)))) (.fin 17 (.fin 21 (.fin 22 (.fin 23 .done))))) (.run 11 (.fin 17 (.fin 21 (.fin 22 (.fin 23 .done)))))) (.two 11 19 (.two 17 19 (.run 19 (.fin 21 (.fin 22 (.fin 23 .done)))) (.fin 17 (.fin 21 (.fin 22 (.fin 23 .done))))) (.run 11 (.fin 17 (.fin 21 (.fin 22 (.fin 23 .done))))))) (.two 5 20 (.two 11 20 (.two 17 20 (.run 20 (.fin 21 (.fin 22 (.fin 23 .done)))) (.fin 17 (.fin 21 (.fin 22 (.fin 23 .done))))) (.run 11 (.fin 17 (.fin 21 (.fin 22 (.fin 23 .done)))))) (.run 5 (.run 11 (.fin 17 (.fin 21 (.fin 22 (.fin 23 .done))))))) (.two 5 19 (.two 11 19 (.two 17 19 (.run 19 (.fin 21 (.fin 22 (.fin 23 .done)))) (.fin 17 (.fin 21 (.fin 22 (.fin 23 .done))))) (.run 11 (.fin 17 (.fin 21 (.fin 22 (.fin 23 .done)))))) (.run 5 (.run 11 (.fin 17 (.fin 21 (.fin 22 (.fin 23 .done)))))))) (.three 5 18 20 (.three 11 18 20 (.three 17 18 20 (.two 18 20 (.run 20 (.fin 21 (.fin 22 (.fin 23 .done)))) (.run 18 (.fin 21 (.fin 22 (.fin 23 .done))))) (.two 17 20 (.run 20 (.fin 21 (.fin 22 (.fin 23 .done)))) (.fin 17 (.fin 21 (.fin 22 (.fin 23 .done))))) (.two 17 18 (.run 18 (.fin 21 (.fin 22 (.fin 23 .done)))) (.fin 17 (.fin 21 (.fin 22 (.fin 23 .done)))))) (.two 11 20 (.two 17 20 (.run 20 (.fin 21 (.fin 22 (.fin 23 .done)))) (.fin 17 (.fin 21 (.fin 22 (.fin 23 .done))))) (.run 11 (.fin 17 (.fin 21 (.fin 22 (.fin 23 .done)))))) (.two 11 18 (.two 17 18 (.run 18 (.fin 21 (.fin 22 (.fin 23 .done)))) (.fin 17 (.fin 21 (.fin 22 (.fin 23 .done))))) (.run 11 (.fin 17 (.fin 21 (.fin 22 (.fin 23 .done))))))) (.two 5 20 (.two 11 20 (.two 17 20 (.run 20 (.fin 21 (.fin 22 (.fin 23 .done)))) (.fin 17 (.fin 21 (.fin 22 (.fin 23 .done))))) (.run 11 (.fin 17 (.fin 21 (.fin 22 (.fin 23 .done)))))) (.run 5 (.run 11 (.fin 17 (.fin 21 (.fin 22 (.fin 23 .done))))))) (.two 5 18 (.two 11 18 (.two 17 18 (.run 18 (.fin 21 (.fin 22 (.fin 23 .done)))) (.fin 17 (.fin 21 (.fin 22 (.fin 23 .done))))) (.run 11 (.fin 17 (.fin 21 (.fin 22 (.fin 23 .done)))))) (.run 5 (.run 11 (.fin 17 (.fin 21 (.fin 22 (.fin 23 .done)))))))) (.three 5 18 19 (.three 11 18 19 (.three 17 18 19 (.two 18 19 (.run 19 (.fin 21 (.fin 22 (.fin 23 .done)))) (.run 18 (.fin 21 (.fin 22 (.fin 23 .done))))) (.two 17 19 (.run 19 (.fin 21 (.fin 22 (.fin 23 .done)))) (.fin 17 (.fin 21 (.fin 22 (.fin 23 .done))))) (.two 17 18 (.run 18 (.fin 21 (.fin 22 (.fin 23 .done)))) (.fin 17 (.fin 21 (.fin 22 (.fin 23 .done)))))) (.two 11 19 (.two 17 19 (.run 19 (.fin 21 (.fin 22 (.fin 23 .done)))) (.fin 17 (.fin 21 (.fin 22 (.fin 23 .done))))) (.run 11 (.fin 17 (.fin 21 (.fin 22 (.fin 23 .done)))))) (.two 11 18 (.two 17 18 (.run 18 (.fin 21 (.fin 22 (.fin 23 .done)))) (.fin 17 (.fin 21 (.fin 22 (.fin 23 .done))))) (.run 11 (.fin 17 (.fin 21 (.fin 22 (.fin 23 .done))))))) (.two 5 19 (.two 11 19 (.two 17 19 (.run 19 (.fin 21 (.fin 22 (.fin 23 .done)))) (.fin 17 (.fin 21 (.fin 22 (.fin 23 .done))))) (.run 11 (.fin 17 (.fin 21 (.fin 22 (.fin 23 .done)))))) (.run 5 (.run 11 (.fin 17 (.fin 21 (.fin 22 (.fin 23 .done))))))) (.two 5 18 (.two 11 18 (.two 17 18 (.run 18 (.fin 21 (.fin 22 (.fin 23 .done)))) (.fin 17 (.fin 21 (.fin 22 (.fin 23 .done))))) (.run 11 (.fin 17 (.fin 21 (.fin 22 (.fin 23 .done)))))) (.run 5 (.run 11 (.fin 17 (.fin 21 (.fin 22 (.fin 23 .done))))))))))))))))))))))))]
inductive P6 where
  | a | b | c | d | e | f
def P6.p : P6 → Nat × Nat × Nat
  | .a => (3, 4, 5) | .b => (3, 5, 4) | .c => (4, 3, 5) | .d => (4, 5, 3) | .e => (5, 3, 4) | .f => (5, 4, 3)
def toKE {G : Glob} {n0 : Nat} (b : Bs G n0) (N : Nat) (st' : P6 → Go.Vx.St) : SExit → Go.Vx.St → Prop := fun x s => match x with
  | .normal => ∃ i, Go.Vx.Weak b N s (st' i)
  | _ => False
theorem wk_seqE {P : Program} {G : Glob} {N n0 : Nat} {b : Bs G n0} {x y : Code} {st : Go.Vx.St} {K : SExit → Go.Vx.St → Prop} (st' : P6 → Go.Vx.St) (h1 : Wk P b N x st (toKE b N st')) (h2 : ∀ i, Wk P b N y (st' i) K) : Wk P b N (.seq x y) st K := by
  intro e a w ok
  refine wp_seq (wp_mono (h1 e a w ok) fun ex a1 w1 h => ?_)
  cases ex with
  | panic c => obtain ⟨_, _, _, _, _, _, _, h⟩ := h; exact h.elim
  | outgrown => exact h.elim
  | ret => obtain ⟨_, _, _, h⟩ := h; exact h.elim
  | exit j => obtain ⟨_, _, _, h⟩ := h; exact h.elim
  | goto j => obtain ⟨_, _, _, h⟩ := h; exact h.elim
  | normal =>
    obtain ⟨e', s', ok', i, hw⟩ := h
    obtain ⟨e2, _, ok2⟩ := hw e' a1 w1 ok'
    exact h2 i e2 a1 w1 ok2
set_option maxRecDepth 20000 in
set_option maxHeartbeats 8000000 in
theorem choose_front (vars : List Int) (l : List Bd) (n i : Int) (nm : ByteArray) (ls : List ByteArray) (u v z : MG) {k1 n1 : Int} {ls1 : List ByteArray} {l1 : List TG} {k2 n2 : Int} {ls2 : List ByteArray} {l2 : List TG} {k3 n3 : Int} {ls3 : List ByteArray} {l3 : List TG} {Q : DOut → Prop}
    (hK0 : FnQ Tryz.prog G0 46 [dSc vars l, dM u] fun o => o = resO (.ok (.mk k1 n1 ls1 l1))) (hK2 : FnQ Tryz.prog G0 46 [dSc vars l, dM v] fun o => o = resO (.ok (.mk k2 n2 ls2 l2))) (hK4 : FnQ Tryz.prog G0 46 [dSc vars l, dM z] fun o => o = resO (.ok (.mk k3 n3 ls3 l3)))
    (h : ∀ (bb : Bs G0 0) (p : P6), Wk Tryz.prog bb 34 (restOf Tryz.f124) ⟨[(2, .own 0 0), (3, .own 1 0), (4, .own 2 0), (5, .own p.p.1 0), (6, .own p.p.2.1 0), (7, .own p.p.2.2 0)], nmH0 vars l (.mk 12 n i nm ls [] [u, v, z]) zS ++ [(p.p.1, .blk 28 (tcS (.mk k1 n1 ls1 l1))), (p.p.2.1, .blk 28 (tcS (.mk k2 n2 ls2 l2))), (p.p.2.2, .blk 28 (tcS (.mk k3 n3 ls3 l3)))], 6⟩ (retK tx 0 [] Tryz.f124.results.toList (closeQ Q))) : FnQ Tryz.prog G0 124 [dSc vars l, dM (.mk 12 n i nm ls [] [u, v, z])] Q := by
  refine fnQ_of_wk (N := 34) txok mixed Tryz.func124 rfl rfl (by simp) fun bb => ?_
  refine wk_seq ⟨[(2, .own 0 0), (3, .own 1 0), (4, .own 2 0)], nmH0 vars l (.mk 12 n i nm ls [] [u, v, z]) zS, 3⟩ (wk_vc txok mixed [] ?_) ?_
  · conv => whnf
    exact weak_of rfl (by repeat ((conv => whnf); first | exact trivial | refine And.intro rfl ?_ | refine And.intro (incD (by omega)) ?_)) (by repeat ((conv => whnf); first | exact trivial | refine And.intro rfl ?_ | refine And.intro (incD (by omega)) ?_))
  refine wk_seqE (fun p => ⟨[(2, .own 0 0), (3, .own 1 0), (4, .own 2 0), (5, .own p.p.1 0), (6, .own p.p.2.1 0), (7, .own p.p.2.2 0)], nmH0 vars l (.mk 12 n i nm ls [] [u, v, z]) zS ++ [(p.p.1, .blk 28 (tcS (.mk k1 n1 ls1 l1))), (p.p.2.1, .blk 28 (tcS (.mk k2 n2 ls2 l2))), (p.p.2.2, .blk 28 (tcS (.mk k3 n3 ls3 l3)))], 6⟩) (wk_vc txok mixed Atpq0 ?_) ?_
  rotate_left
  · intro p
    show Wk _ _ _ (restOf Tryz.f124) _ _
    exact h bb p
  · repeat' ((conv => whnf); first
      | refine And.intro (by kernel_rfl) ?_
      | refine And.intro ?_ ?_
      | refine IdxC.encMs (l := [u, v, z]) 0 (by simp) rfl ?_
      | refine IdxC.encMs (l := [u, v, z]) 1 (by simp) rfl ?_
      | refine IdxC.encMs (l := [u, v, z]) 2 (by simp) rfl ?_
      | (refine callQ rfl rfl gf46 hK0 ?_; rintro o rfl)
      | (refine callQ rfl rfl gf46 hK2 ?_; rintro o rfl)
      | (refine callQ rfl rfl gf46 hK4 ?_; rintro o rfl))
    all_goals first | (refine ⟨.a, weak_of rfl ?_ ?_⟩; (focus ((repeat ((conv => whnf); first | exact trivial | refine And.intro rfl ?_ | refine And.intro (incD (by omega)) ?_)); done)); (focus ((repeat ((conv => whnf); first | exact trivial | refine And.intro rfl ?_ | refine And.intro (incD (by omega)) ?_)); done))) | (refine ⟨.b, weak_of rfl ?_ ?_⟩; (focus ((repeat ((conv => whnf); first | exact trivial | refine And.intro rfl ?_ | refine And.intro (incD (by omega)) ?_)); done)); (focus ((repeat ((conv => whnf); first | exact trivial | refine And.intro rfl ?_ | refine And.intro (incD (by omega)) ?_)); done))) | (refine ⟨.c, weak_of rfl ?_ ?_⟩; (focus ((repeat ((conv => whnf); first | exact trivial | refine And.intro rfl ?_ | refine And.intro (incD (by omega)) ?_)); done)); (focus ((repeat ((conv => whnf); first | exact trivial | refine And.intro rfl ?_ | refine And.intro (incD (by omega)) ?_)); done))) | (refine ⟨.d, weak_of rfl ?_ ?_⟩; (focus ((repeat ((conv => whnf); first | exact trivial | refine And.intro rfl ?_ | refine And.intro (incD (by omega)) ?_)); done)); (focus ((repeat ((conv => whnf); first | exact trivial | refine And.intro rfl ?_ | refine And.intro (incD (by omega)) ?_)); done))) | (refine ⟨.e, weak_of rfl ?_ ?_⟩; (focus ((repeat ((conv => whnf); first | exact trivial | refine And.intro rfl ?_ | refine And.intro (incD (by omega)) ?_)); done)); (focus ((repeat ((conv => whnf); first | exact trivial | refine And.intro rfl ?_ | refine And.intro (incD (by omega)) ?_)); done))) | (refine ⟨.f, weak_of rfl ?_ ?_⟩; (focus ((repeat ((conv => whnf); first | exact trivial | refine And.intro rfl ?_ | refine And.intro (incD (by omega)) ?_)); done)); (focus ((repeat ((conv => whnf); first | exact trivial | refine And.intro rfl ?_ | refine And.intro (incD (by omega)) ?_)); done)))
set_option maxRecDepth 20000 in
set_option maxHeartbeats 8000000 in
theorem chooseW_fn (vars : List Int) (l : List Bd) (n i : Int) (nm : ByteArray) (ls : List ByteArray) (u : MG) (v : MG) (z : MG) (cu : Chk) (hcu : KidOk u cu) (cv : Chk) (hcv : KidOk v cv) (cz : Chk) (hcz : KidOk z cz) (hv : vars.length + szM (.mk 12 n i nm ls [] [u, v, z]) ≤ 549755813888) (hl : l.length + 2 * szM (.mk 12 n i nm ls [] [u, v, z]) ≤ 549755813888) (hz : szM (.mk 12 n i nm ls [] [u, v, z]) ≤ 1073741824) (hb : Bnd l) : FnQ Tryz.prog G0 124 [dSc vars l, dM (.mk 12 n i nm ls [] [u, v, z])] (fun o => o = resO ((chooseR cu cv cz) vars l)) ∧ ∀ t, (chooseR cu cv cz) vars l = .ok t → allG t = true ∧ szG t ≤ 2147483648 := by
  simp only [szM, szMs, szGs] at hv hl hz
  unfold chooseR
  try simp only []
  have hK0 := hcu (vars) (l) (by (try simp only [List.length_append, List.length_cons, List.length_nil]); omega) (by (try simp only [List.length_append, List.length_cons, List.length_nil]); omega) (hb)
  obtain ⟨hK0, hK0G⟩ := hK0
  cases hr0 : cu (vars) (l) with
  | error e =>
    rw [hr0] at hK0
    refine And.intro ?_ (fun t ht => by exfalso; revert ht; (try simp only [bE, askE, kidG, g_k, g_n, g_kids, List.getD_cons_zero, List.getD_cons_succ, beq_self_eq_true, hr0]); exact nofun)
    refine fnQ_of_vc txok mixed Atpq0 Tryz.func124 rfl rfl (by simp) fun bb => ?_
    repeat' ((conv => whnf); first
      | refine And.intro (by kernel_rfl) ?_
      | refine And.intro ?_ ?_
      | refine IdxC.encMs (l := [u, v, z]) 0 (by simp) rfl ?_
      | refine IdxC.encMs (l := [u, v, z]) 1 (by simp) rfl ?_
      | refine IdxC.encMs (l := [u, v, z]) 2 (by simp) rfl ?_
      | (refine callQ rfl rfl gf46 hK0 ?_; rintro o rfl)
      | intro _)
    all_goals (try (conv => whnf))
    all_goals first | exact rfl | (simp only [bE, askE, kidG, g_k, g_n, g_kids, List.getD_cons_zero, List.getD_cons_succ, beq_self_eq_true, hr0]; try exact rfl; done)
  | ok x =>
  rw [hr0] at hK0
  obtain ⟨hax, hzx⟩ := hK0G x hr0
  have hK2 := hcv (vars) (l) (by (try simp only [List.length_append, List.length_cons, List.length_nil]); omega) (by (try simp only [List.length_append, List.length_cons, List.length_nil]); omega) (hb)
  obtain ⟨hK2, hK2G⟩ := hK2
  cases hr2 : cv (vars) (l) with
  | error e =>
    rw [hr2] at hK2
    refine And.intro ?_ (fun t ht => by exfalso; revert ht; (try simp only [bE, askE, kidG, g_k, g_n, g_kids, List.getD_cons_zero, List.getD_cons_succ, beq_self_eq_true, hr0, hr2]); exact nofun)
    refine fnQ_of_vc txok mixed Atpq0 Tryz.func124 rfl rfl (by simp) fun bb => ?_
    repeat' ((conv => whnf); first
      | refine And.intro (by kernel_rfl) ?_
      | refine And.intro ?_ ?_
      | refine IdxC.encMs (l := [u, v, z]) 0 (by simp) rfl ?_
      | refine IdxC.encMs (l := [u, v, z]) 1 (by simp) rfl ?_
      | refine IdxC.encMs (l := [u, v, z]) 2 (by simp) rfl ?_
      | (refine callQ rfl rfl gf46 hK0 ?_; rintro o rfl)
      | (refine callQ rfl rfl gf46 hK2 ?_; rintro o rfl)
      | intro _)
    all_goals (try (conv => whnf))
    all_goals first | exact rfl | (simp only [bE, askE, kidG, g_k, g_n, g_kids, List.getD_cons_zero, List.getD_cons_succ, beq_self_eq_true, hr0, hr2]; try exact rfl; done)
  | ok a =>
  rw [hr2] at hK2
  obtain ⟨haa, hza⟩ := hK2G a hr2
  have hK4 := hcz (vars) (l) (by (try simp only [List.length_append, List.length_cons, List.length_nil]); omega) (by (try simp only [List.length_append, List.length_cons, List.length_nil]); omega) (hb)
  obtain ⟨hK4, hK4G⟩ := hK4
  cases hr4 : cz (vars) (l) with
  | error e =>
    rw [hr4] at hK4
    refine And.intro ?_ (fun t ht => by exfalso; revert ht; (try simp only [bE, askE, kidG, g_k, g_n, g_kids, List.getD_cons_zero, List.getD_cons_succ, beq_self_eq_true, hr0, hr2, hr4]); exact nofun)
    refine fnQ_of_vc txok mixed Atpq0 Tryz.func124 rfl rfl (by simp) fun bb => ?_
    repeat' ((conv => whnf); first
      | refine And.intro (by kernel_rfl) ?_
      | refine And.intro ?_ ?_
      | refine IdxC.encMs (l := [u, v, z]) 0 (by simp) rfl ?_
      | refine IdxC.encMs (l := [u, v, z]) 1 (by simp) rfl ?_
      | refine IdxC.encMs (l := [u, v, z]) 2 (by simp) rfl ?_
      | (refine callQ rfl rfl gf46 hK0 ?_; rintro o rfl)
      | (refine callQ rfl rfl gf46 hK2 ?_; rintro o rfl)
      | (refine callQ rfl rfl gf46 hK4 ?_; rintro o rfl)
      | intro _)
    all_goals (try (conv => whnf))
    all_goals first | exact rfl | (simp only [bE, askE, kidG, g_k, g_n, g_kids, List.getD_cons_zero, List.getD_cons_succ, beq_self_eq_true, hr0, hr2, hr4]; try exact rfl; done)
  | ok b =>
  rw [hr4] at hK4
  obtain ⟨hab, hzb⟩ := hK4G b hr4
  obtain ⟨kx, nx, lsx, lx⟩ := x
  obtain ⟨ka, na, lsa, la⟩ := a
  obtain ⟨kb, nb, lsb, lb⟩ := b
  have hA6 := ask_fn (kx == 2)
  by_cases hk6 : kx = 2
  rotate_left
  · have hkb : (kx == 2) = false := by simpa using hk6
    rw [show askO (kx == 2) = .pan (badW 30) from by rw [hkb]; rfl] at hA6
    refine And.intro ?_ (fun t ht => by exfalso; revert ht; (try simp only [bE, askE, kidG, g_k, g_n, g_kids, List.getD_cons_zero, List.getD_cons_succ, beq_self_eq_true, hr0, hr2, hr4, hkb]); exact nofun)
    refine choose_front vars l n i nm ls u v z hK0 hK2 hK4 fun bb p => ?_
    refine wk_vc txok mixed [] ?_
    cases p <;> repeat' ((conv => whnf); first
      | (refine callQ rfl rfl gf167 hA6 ?_; rintro o rfl))
    all_goals (try (conv => whnf))
    all_goals first | exact rfl | (simp only [bE, askE, kidG, g_k, g_n, g_kids, List.getD_cons_zero, List.getD_cons_succ, beq_self_eq_true, hr0, hr2, hr4, hkb]; try exact rfl; done)
  subst hk6
  have hS8 := same_fn (.mk ka na lsa la) (.mk kb nb lsb lb) (by omega)
  cases hs8 : samG (.mk ka na lsa la) (.mk kb nb lsb lb) [] [] with
  | false =>
    rw [hs8] at hS8
    refine And.intro ?_ (fun t ht => by exfalso; revert ht; (try simp only [bE, askE, kidG, g_k, g_n, g_kids, List.getD_cons_zero, List.getD_cons_succ, beq_self_eq_true, hr0, hr2, hr4, hs8]); exact nofun)
    refine choose_front vars l n i nm ls u v z hK0 hK2 hK4 fun bb p => ?_
    refine wk_vc txok mixed [] ?_
    cases p <;> repeat' ((conv => whnf); first
      | (refine callQ rfl rfl gf167 (ask_fn true) ?_; rintro o rfl)
      | (refine callQ rfl rfl gf170 hS8 ?_; rintro o rfl))
    all_goals (try (conv => whnf))
    all_goals first | exact rfl | (simp only [bE, askE, kidG, g_k, g_n, g_kids, List.getD_cons_zero, List.getD_cons_succ, beq_self_eq_true, hr0, hr2, hr4, hs8]; try exact rfl; done)
  | true =>
    rw [hs8] at hS8
    refine And.intro ?_ (fun t ht => by (try simp only [bE, askE, kidG, g_k, g_n, g_kids, List.getD_cons_zero, List.getD_cons_succ, beq_self_eq_true, hr0, hr2, hr4, hs8] at ht); injection ht with ht; subst ht; exact ⟨haa, by omega⟩)
    refine choose_front vars l n i nm ls u v z hK0 hK2 hK4 fun bb p => ?_
    refine wk_vc txok mixed [] ?_
    cases p <;> repeat' ((conv => whnf); first
      | (refine callQ rfl rfl gf167 (ask_fn true) ?_; rintro o rfl)
      | (refine callQ rfl rfl gf170 hS8 ?_; rintro o rfl))
    all_goals (try (conv => whnf))
    all_goals first | exact rfl | (simp only [bE, askE, kidG, g_k, g_n, g_kids, List.getD_cons_zero, List.getD_cons_succ, beq_self_eq_true, hr0, hr2, hr4, hs8]; try exact rfl; done)
theorem kid_choose (n i : Int) (nm : ByteArray) (ls : List ByteArray) (u : MG) (v : MG) (z : MG) (cu : Chk) (hcu : KidOk u cu) (cv : Chk) (hcv : KidOk v cv) (cz : Chk) (hcz : KidOk z cz) (hz : szM (.mk 12 n i nm ls [] [u, v, z]) ≤ 1073741824) : KidOk (.mk 12 n i nm ls [] [u, v, z]) (fun vars l => fitE ((chooseR cu cv cz) vars l)) :=
  kid_of _ ((chooseR cu cv cz)) 12 124 rfl rfl gf124 fun vars l hv hl hb => chooseW_fn vars l n i nm ls u v z cu hcu cv hcv cz hcz hv hl hz hb
end Go.Proofs.YtcjkikadolnfgaaGreat


/- The program's checker is the plain one. -/
set_option linter.unusedSimpArgs false
set_option linter.unusedVariables false
namespace Go.Proofs.YtcjkikadolnfgaaGreat
open Go.Vx Go.Vc Go.RowKit
set_option maxRecDepth 20000 in
theorem chk_ok : ∀ m : MG, allM m = true → szM m ≤ 1073741824 → KidOk m (chk putR m) := by
  refine MG.ind fun k n i nm ls ts ks ih ha hz => ?_
  obtain ⟨h1, h25, hbad, hend, hta, hka⟩ := shp_all ha
  obtain ⟨hT, hK⟩ := shp_len hbad
  have kid : ∀ u ∈ ks, KidOk u (chk putR u) := fun u hu => ih u hu (hka u hu) (by have := szM_mem hu; rw [szM_eq] at hz; simp only [MG.ks, MG.ts] at hz; omega)
  have one : ∀ {α : Type} {q : List α}, (q.length : Int) = 1 → ∃ a, q = [a] := fun h => List.length_eq_one_iff.1 (by omega)
  have two : ∀ {α : Type} {q : List α}, (q.length : Int) = 2 → ∃ a b, q = [a, b] := fun h => len2 (by omega)
  have nil : ∀ {α : Type} {q : List α}, (q.length : Int) = 0 → q = [] := fun h => List.eq_nil_of_length_eq_zero (by omega)
  rw [chk_mk, chks_map]
  have hk : k = 1 ∨ k = 2 ∨ k = 3 ∨ k = 4 ∨ k = 5 ∨ k = 6 ∨ k = 7 ∨ k = 8 ∨ k = 9 ∨ k = 10 ∨ k = 11 ∨ k = 12 ∨ k = 13 ∨ k = 14 ∨ k = 15 ∨ k = 16 ∨ k = 17 ∨ k = 18 ∨ k = 19 ∨ k = 20 ∨ k = 21 ∨ k = 22 ∨ k = 23 ∨ k = 24 ∨ k = 25 := by omega
  rcases hk with rfl | rfl | rfl | rfl | rfl | rfl | rfl | rfl | rfl | rfl | rfl | rfl | rfl | rfl | rfl | rfl | rfl | rfl | rfl | rfl | rfl | rfl | rfl | rfl | rfl
  · obtain rfl := nil hT; obtain rfl := nil (hK (by decide))
    exact kid_plain1 n i nm ls hz
  · obtain rfl := nil hT; obtain rfl := nil (hK (by decide))
    exact kid_plain2 n i nm ls hz
  · obtain rfl := nil hT; obtain rfl := nil (hK (by decide))
    exact kid_plain3 n i nm ls hz
  · exact kid_var n i nm ls ts ks
  · obtain ⟨a, rfl⟩ := one hT; obtain ⟨u, rfl⟩ := one (hK (by decide))
    exact kid_lam n i nm ls a u _ (kid u (by simp)) hz
  · obtain rfl := nil hT; obtain ⟨u, v, rfl⟩ := two (hK (by decide))
    exact kid_app n i nm ls u v _ (kid u (by simp)) _ (kid v (by simp)) hz
  · obtain ⟨a, b, rfl⟩ := two hT; obtain ⟨u, rfl⟩ := one (hK (by decide))
    have hlb : (ls.length : Int) = 1 := by
      unfold endM at hend
      rw [if_neg (by decide), if_neg (by decide)] at hend
      split at hend
      · cases hend
      · rename_i h; simpa [shpOf, shpTab, MG.ls] using h
    obtain ⟨lb, rfl⟩ := one hlb
    exact kid_fix n i nm [] lb a b u _ (kid u (by simp)) hz
  · obtain rfl := nil hT; obtain ⟨u, v, rfl⟩ := two (hK (by decide))
    exact kid_let n i nm ls u v _ (kid u (by simp)) _ (kid v (by simp)) hz
  · obtain rfl := nil hT; obtain ⟨u, v, rfl⟩ := two (hK (by decide))
    exact kid_pair n i nm ls u v _ (kid u (by simp)) _ (kid v (by simp)) hz
  · obtain rfl := nil hT; obtain ⟨u, rfl⟩ := one (hK (by decide))
    exact kid_half10 n i nm ls u _ (kid u (by simp)) hz
  · obtain rfl := nil hT; obtain ⟨u, rfl⟩ := one (hK (by decide))
    exact kid_half11 n i nm ls u _ (kid u (by simp)) hz
  · obtain rfl := nil hT; obtain ⟨u, v, w, rfl⟩ := len3 (by have := hK (by decide); exact Int.ofNat.inj this : ks.length = 3)
    exact kid_choose n i nm ls u v w _ (kid u (by simp)) _ (kid v (by simp)) _ (kid w (by simp)) hz
  · obtain rfl := nil hT; obtain ⟨u, v, rfl⟩ := two (hK (by decide))
    exact kid_bin n i nm ls u v _ (kid u (by simp)) _ (kid v (by simp)) hz
  · obtain rfl := nil hT
    have hsh : ls.length = ks.length ∧ ordS ls = true := by
      unfold endM at hend
      rw [if_pos (by decide), Bool.and_eq_true, beq_iff_eq] at hend
      exact ⟨Int.ofNat.inj hend.1, hend.2⟩
    exact kid_rec n i nm ls ks (ks.map (chk putR)) (by simp) (fun j h h' => by rw [List.getElem_map]; exact kid _ (List.getElem_mem h)) hsh.1 hsh.2 hz
  · obtain rfl := nil hT; obtain ⟨u, rfl⟩ := one (hK (by decide))
    exact kid_sel n i nm ls u _ (kid u (by simp))
  · obtain ⟨a, rfl⟩ := one hT; obtain ⟨u, rfl⟩ := one (hK (by decide))
    have hn : 0 ≤ n := by
      unfold endM at hend
      rw [if_neg (by decide), if_neg (by decide)] at hend
      split at hend
      · cases hend
      · have e2 : ¬ ((16 : Int) = 2) := by decide
        have e13 : ¬ ((16 : Int) = 13) := by decide
        simp only [MG.k, if_neg e2, if_neg e13, if_true, decide_eq_true_eq, MG.n] at hend
        exact of_decide_eq_true hend
    obtain ⟨j, rfl⟩ : ∃ j : Nat, n = (j : Int) := ⟨n.toNat, by omega⟩
    exact kid_inj 0 i nm ls j a u _ (kid u (by simp)) hz
  · obtain rfl := nil hT
    have hlen : ks.length = ls.length + 1 := by
      unfold endM at hend
      rw [if_neg (by decide), if_pos (by decide), beq_iff_eq] at hend
      simp only [MG.ks, MG.ls] at hend; omega
    obtain ⟨u, r, rfl⟩ : ∃ u r, ks = u :: r := by
      cases ks with
      | nil => simp at hlen
      | cons u r => exact ⟨u, r, rfl⟩
    exact kid_cases n i nm ls u r _ (r.map (chk putR)) (kid u (by simp)) (by simp) (fun j h h' => by rw [List.getElem_map]; exact kid _ (List.mem_cons_of_mem _ (List.getElem_mem h))) (by simpa using hlen) hz
  · obtain ⟨a, rfl⟩ := one hT; obtain ⟨u, rfl⟩ := one (hK (by decide))
    exact kid_fold n i nm ls a u _ (kid u (by simp)) hz
  · obtain rfl := nil hT; obtain ⟨u, rfl⟩ := one (hK (by decide))
    exact kid_unfold n i nm ls u _ (kid u (by simp)) hz
  · obtain rfl := nil hT; obtain ⟨u, rfl⟩ := one (hK (by decide))
    exact kid_all n i nm ls u _ (kid u (by simp)) hz
  · obtain ⟨a, rfl⟩ := one hT; obtain ⟨u, rfl⟩ := one (hK (by decide))
    exact kid_inst n i nm ls a u _ (kid u (by simp)) hz
  · obtain ⟨a, b, rfl⟩ := two hT; obtain ⟨u, rfl⟩ := one (hK (by decide))
    exact kid_pack n i nm ls a b u _ (kid u (by simp)) hz
  · obtain rfl := nil hT; obtain ⟨u, v, rfl⟩ := two (hK (by decide))
    exact kid_opened n i nm ls u v _ (kid u (by simp)) _ (kid v (by simp)) hz
  · obtain ⟨a, rfl⟩ := one hT; obtain rfl := nil (hK (by decide))
    exact kid_fail n i nm ls a hz
  · obtain rfl := nil hT; obtain ⟨u, rfl⟩ := one (hK (by decide))
    exact kid_tick n i nm ls u _ (kid u (by simp)) hz
end Go.Proofs.YtcjkikadolnfgaaGreat


/- The law KernelTypes. -/
set_option linter.unusedSimpArgs false
set_option linter.unusedVariables false
namespace Go.Proofs.YtcjkikadolnfgaaGreat
open Go.Vx Go.Vc Go.RowKit
def errR : Except Int TG → Int
  | .ok _ => 0
  | .error e => e
def valR : Except Int TG → TG
  | .ok t => t
  | .error _ => zG
theorem outE_eq (r : Except Int TG) : outE r = .tup [dG (valR r), .int .i64 (errR r)] := by cases r <;> rfl
def SameR : Except Int TG → Except Int TG → Prop
  | .ok a, .ok b => samG a b [] [] = true
  | .error e, .error f => e = f
  | _, _ => False
theorem SameR.err {r q : Except Int TG} (h : SameR r q) : errR r = errR q := by
  cases r <;> cases q <;> first | exact h.elim | rfl | exact h
theorem SameR.val {r q : Except Int TG} (h : SameR r q) : samG (valR r) (valR q) [] [] = true := by
  cases r <;> cases q <;> first | exact h.elim | exact h | rfl
end Go.Proofs.YtcjkikadolnfgaaGreat


/- The reference's Check, Closed, Has; the law KernelHas. -/
set_option linter.unusedSimpArgs false
set_option linter.unusedVariables false
namespace Go.Proofs.YtcjkikadolnfgaaGreat
open Go.Vx Go.Vc Go.RowKit
theorem samGs_refl (s : List Int) : ∀ l : List TG, samGs l l s s = true
  | [] => rfl
  | t :: r => by rw [samGs, sam_refl, samGs_refl s r]; rfl
theorem nodM_refl (k n i : Int) (nm : ByteArray) (ls : List ByteArray) (ts : List TG) (c : Nat) (s : List Int) (x : List ByteArray) : nodM k n i nm ls ts c k n i nm ls ts c s x s x = true := by
  unfold nodM
  rw [samGs_refl]
  by_cases h : k = 4 <;> simp [h]
theorem samM_refl : ∀ (m : MG) (s : List Int) (x : List ByteArray), samM m m s x s x = true := by
  refine MG.ind fun k n i nm ls ts ks ih s x => ?_
  rw [samM_mk, nodM_refl, Bool.true_and]
  have key : ∀ (l : List MG) (s : Nat → List Int) (x : Nat → List ByteArray), (∀ m ∈ l, ∀ s x, samM m m s x s x = true) → ∀ j, samMs s x s x j l l = true := by
    intro l s x
    induction l with
    | nil => intro _ _; rfl
    | cons m r ihr => intro h j; rw [samMs, h m (by simp), ihr (fun m hm => h m (by simp [hm])) (j + 1)]; rfl
  exact key ks _ _ ih 0
theorem rcheck_fn (m : MG) (hz : szM m ≤ 1073741824) : FnR Tryz.prog G0 20 [dM m, dI [], dBs []] (outE (closedR m (chk rputR m))) := by
  have hR := rRightTerm_fn m
  unfold closedR
  by_cases h0 : rightM m = 0
  · have ha : allM m = true := by
      unfold rightM at h0
      split at h0
      · cases h0
      · split at h0
        · assumption
        · cases h0
    rw [if_pos h0]
    rw [h0] at hR
    obtain ⟨hK, -, -⟩ := rchk_ok m ha hz [] [] (by simp; omega) (by simp; omega) nofun
    cases hr : chk rputR m [] [] with
    | error e =>
      rw [hr] at hK
      refine fnQ_of_vc txok mixed [] Tryz.func20 rfl rfl (by simp) fun b => ?_
      repeat' ((conv => whnf); first
        | refine And.intro (by kernel_rfl) ?_
        | (refine And.intro (fun h => ?_) (fun h => ?_); focus (exfalso; revert h; decide; done))
        | refine callF hR gf48 rfl rfl ?_
        | refine callF hK gf50 rfl rfl ?_)
      all_goals (try (conv => whnf))
      all_goals exact rfl
    | ok t =>
      rw [hr] at hK
      obtain ⟨k1, n1, l1, m1⟩ := t
      refine fnQ_of_vc txok mixed [] Tryz.func20 rfl rfl (by simp) fun b => ?_
      repeat' ((conv => whnf); first
        | refine And.intro (by kernel_rfl) ?_
        | (refine And.intro (fun h => ?_) (fun h => ?_); focus (exfalso; revert h; decide; done))
        | refine callF hR gf48 rfl rfl ?_
        | refine callF hK gf50 rfl rfl ?_)
      all_goals (try (conv => whnf))
      all_goals exact rfl
  · rw [if_neg h0]
    generalize rightM m = e at *
    refine fnQ_of_vc txok mixed [] Tryz.func20 rfl rfl (by simp) fun b => ?_
    repeat' ((conv => whnf); first
      | refine And.intro (by kernel_rfl) ?_
      | (refine And.intro (fun h => ?_) (fun h => ?_); rotate_left; focus (exfalso; revert h; simp [h0]; done))
      | refine callF hR gf48 rfl rfl ?_
      | refine callF (none_fn e) gf49 rfl rfl ?_)
    all_goals (try (conv => whnf))
    all_goals exact rfl
theorem rclosed_fn (m : MG) (hz : szM m ≤ 1073741824) : FnR Tryz.prog G0 7 [dM m] (outE (closedR m (chk rputR m))) := by
  have hC := rcheck_fn m hz
  cases hr : closedR m (chk rputR m) with
  | ok w =>
    rw [hr] at hC
    obtain ⟨k1, n1, l1, m1⟩ := w
    refine fnQ_of_vc txok mixed [] Tryz.func7 rfl rfl (by simp) fun b => ?_
    conv => whnf
    refine callF hC gf20 rfl rfl ?_
    conv => whnf
    try exact rfl
  | error e =>
    rw [hr] at hC
    refine fnQ_of_vc txok mixed [] Tryz.func7 rfl rfl (by simp) fun b => ?_
    conv => whnf
    refine callF hC gf20 rfl rfl ?_
    conv => whnf
    try exact rfl
theorem rhas_fn (m : MG) (t : TG) (hz : szM m ≤ 1073741824) (hg : ∀ u, closedR m (chk rputR m) = .ok u → szG u ≤ 1048576) (he : ∀ e, closedR m (chk rputR m) = .error e → e ≠ 0) : FnR Tryz.prog G0 9 [dM m, dG t] (.int .i64 (hasR (closedR m (chk rputR m)) t)) := by
  have hC := rclosed_fn m hz
  cases hr : closedR m (chk rputR m) with
  | ok w =>
    rw [hr] at hC
    have hS := rsameTop_fn w t (by have := hg w hr; omega)
    unfold hasR
    simp only
    obtain ⟨k1, n1, l1, m1⟩ := w
    cases hs : samG (.mk k1 n1 l1 m1) t [] []
    all_goals
      rw [hs] at hS
      refine fnQ_of_vc txok mixed [] Tryz.func9 rfl rfl (by simp) fun b => ?_
      repeat' ((conv => whnf); first
        | refine And.intro (by kernel_rfl) ?_
        | (refine And.intro (fun h => ?_) (fun h => ?_); rotate_left; focus (exfalso; revert h; decide; done))
        | (refine And.intro (fun h => ?_) (fun h => ?_); focus (exfalso; revert h; decide; done))
        | refine callF hC gf7 rfl rfl ?_
        | refine callF hS gf10 rfl rfl ?_)
      all_goals (try (conv => whnf))
      all_goals exact rfl
  | error e =>
    have h := he e hr
    rw [hr] at hC
    unfold hasR
    simp only
    refine fnQ_of_vc txok mixed [] Tryz.func9 rfl rfl (by simp) fun b => ?_
    repeat' ((conv => whnf); first
      | refine And.intro (by kernel_rfl) ?_
      | (refine And.intro (fun h' => ?_) (fun h' => ?_); rotate_left; focus (exfalso; revert h'; simp [h]; done))
      | (refine And.intro (fun h' => ?_) (fun h' => ?_); focus (exfalso; revert h'; simp [h]; done))
      | refine callF hC gf7 rfl rfl ?_)
    all_goals (try (conv => whnf))
    all_goals exact rfl
theorem right_allM {m : MG} (h0 : rightM m = 0) : allM m = true := by
  unfold rightM at h0
  split at h0
  · cases h0
  · split at h0
    · assumption
    · cases h0
theorem rel_same {r q : Except Int TG} (h : RelR [] [] r q) : SameR r q := by
  cases r <;> cases q <;> first | exact h.elim | exact h | exact RelT.sam h
theorem both_same (m : MG) : SameR (closedR m (chk putR m)) (closedR m (chk rputR m)) := by
  unfold closedR
  by_cases h0 : rightM m = 0
  · rw [if_pos h0, if_pos h0]
    have ha := right_allM h0
    exact rel_same (sim rputR_ok m m [] [] [] [] [] [] (samM_refl m [] []) (.inl ⟨rfl, rfl⟩) ha ha rfl rfl trivial rfl)
  · rw [if_neg h0, if_neg h0]; rfl
theorem closed_good (m : MG) (hz : szM m ≤ 1073741824) : (∀ u, closedR m (chk rputR m) = .ok u → szG u ≤ 1048576) ∧ ∀ e, closedR m (chk rputR m) = .error e → e ≠ 0 := by
  unfold closedR
  by_cases h0 : rightM m = 0
  · rw [if_pos h0]
    obtain ⟨-, h1, h2⟩ := rchk_ok m (right_allM h0) hz [] [] (by simp; omega) (by simp; omega) nofun
    exact ⟨fun u hu => (h1 u hu).2, h2⟩
  · rw [if_neg h0]
    exact ⟨nofun, fun e h => by injection h with h; subst h; exact h0⟩
theorem closed_good1 (m : MG) (hz : szM m ≤ 1073741824) : (∀ u, closedR m (chk putR m) = .ok u → szG u ≤ 1048576) ∧ ∀ e, closedR m (chk putR m) = .error e → e ≠ 0 := by
  have h := both_same m
  obtain ⟨h1, h2⟩ := closed_good m hz
  constructor
  · intro u hu
    unfold closedR at hu
    split at hu
    · rename_i h0
      exact ((chk_ok m (right_allM h0) hz [] [] (by simp; omega) (by simp; omega) nofun).2 u hu).2
    · cases hu
  · intro e he
    rw [he] at h
    cases hq : closedR m (chk rputR m) with
    | ok u => rw [hq] at h; exact h.elim
    | error f => rw [hq] at h; have h : e = f := h; rw [h]; exact h2 f hq
theorem has_same (m : MG) (t : TG) : hasR (closedR m (chk putR m)) t = hasR (closedR m (chk rputR m)) t := by
  have h := both_same m
  have hk : ∀ {P : Putt} (hP : ∀ {u y w : TG} {n : Int}, allG u = true → allG y = true → P u n y = .ok w → allG w = true), True := fun _ => trivial
  clear hk
  unfold closedR at h ⊢
  by_cases h0 : rightM m = 0
  · rw [if_pos h0, if_pos h0] at h ⊢
    have ha := right_allM h0
    have hs := sim rputR_ok m m [] [] [] [] [] [] (samM_refl m [] []) (.inl ⟨rfl, rfl⟩) ha ha rfl rfl trivial rfl
    cases h1 : chk putR m [] [] with
    | error e =>
      cases h2 : chk rputR m [] [] with
      | error f => rw [h1, h2] at h; exact h
      | ok w => rw [h1, h2] at h; exact h.elim
    | ok u =>
      cases h2 : chk rputR m [] [] with
      | error f => rw [h1, h2] at h; exact h.elim
      | ok w =>
        rw [h1, h2] at hs
        have hs : RelT [] [] u w := hs
        have hsy := sam_sym rfl (allG_okV hs.la) (allG_okV hs.lb) hs.sam
        have e : samG u t [] [] = samG w t [] [] := by
          cases h3 : samG u t [] [] <;> cases h4 : samG w t [] []
          · rfl
          · rw [sam_trans _ _ _ _ _ _ hs.sam h4] at h3; cases h3
          · rw [sam_trans _ _ _ _ _ _ hsy h3] at h4; cases h4
          · rfl
        show (if samG u t [] [] = true then (0 : Int) else 30) = if samG w t [] [] = true then 0 else 30
        rw [e]
  · rw [if_neg h0, if_neg h0]
theorem has_law_fn (m : MG) (t : TG) (hz : szM m ≤ 1048576) : FnR Tryz.prog G0 3 [dM m, dG t] (.bool true) := by
  have hk : rightM m = 0 → KidOk m (chk putR m) := fun h => chk_ok m (right_allM h) (by omega)
  obtain ⟨g1, e1⟩ := closed_good1 m (by omega)
  obtain ⟨g2, e2⟩ := closed_good m (by omega)
  have h1 := closed_fn m _ hk (by omega)
  have h2 := rclosed_fn m (by omega)
  have h3 := has_fn m _ t hk (by omega) g1 e1
  have h4 := rhas_fn m t (by omega) g2 e2
  rw [← has_same] at h4
  have hsz : szG (valR (closedR m (chk putR m))) ≤ 1048576 := by
    cases hq : closedR m (chk putR m) with
    | ok u => exact g1 u hq
    | error e => simp [valR, szG, szGs]
  have h5 := rsameTop_fn (valR (closedR m (chk putR m))) (valR (closedR m (chk rputR m))) (by omega)
  have hs := both_same m
  rw [hs.val] at h5
  have he := hs.err
  rw [outE_eq] at h1 h2
  rw [← he] at h2
  have hal := alive_fn
  generalize errR (closedR m (chk putR m)) = e at *
  generalize valR (closedR m (chk putR m)) = a at *
  generalize valR (closedR m (chk rputR m)) = c at *
  generalize hasR (closedR m (chk putR m)) t = g at *
  clear he hs g1 e1 g2 e2 hk
  obtain ⟨k1, n1, l1, m1⟩ := a
  obtain ⟨k2, n2, l2, m2⟩ := c
  obtain ⟨k, n, ls, l⟩ := t
  obtain ⟨k3, n3, i3, nm3, ls3, ts3, ks3⟩ := m
  refine fnQ_of_vc txok mixed [(3, .take 0 (.take 1 (.take 3 (.take 4 (.run 2 (.run 5 (.pure 6 (.pure 7 (.pure 8 (.pure 9 (.pure 10 (.pure 11 (.pure 12 (.take 13 (.take 14 (.fin 15 (.pure 16 (.pure 17 (.fin 18 (.pure 19 (.pure 20 .done)))))))))))))))))))))] Tryz.func3 rfl rfl (by simp) fun b => ?_
  repeat' ((conv => whnf); first
    | refine And.intro (by kernel_rfl) ?_
    | (refine And.intro (fun h => ?_) (fun h => ?_); rotate_left; focus (exfalso; revert h; simp; done))
    | refine And.intro ?_ ?_
    | refine callF h1 gf6 rfl rfl ?_
    | refine callF h2 gf7 rfl rfl ?_
    | refine callF h3 gf8 rfl rfl ?_
    | refine callF h4 gf9 rfl rfl ?_
    | refine callF h5 gf10 rfl rfl ?_
    | refine callF hal gf11 rfl rfl ?_)
  all_goals (try (conv => whnf))
  all_goals (try exact rfl)
end Go.Proofs.YtcjkikadolnfgaaGreat


