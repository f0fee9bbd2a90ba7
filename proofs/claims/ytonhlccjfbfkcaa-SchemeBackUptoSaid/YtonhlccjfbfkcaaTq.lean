/- The law's alive. -/
import Derived.Test.YtonhlccjfbfkcaaTp
namespace Go.Proofs.Ytonhlccjfbfkcaa
open Go.Vc Go.RowKit

abbrev mt (n : Int) : Tp := .mk 7 n []
abbrev gn (n : Int) : Tp := .mk 8 n []
abbrev it : Tp := .mk 1 0 []
abbrev fnT (a b : Tp) : Tp := .mk 4 0 [a, b]
theorem alive1 : genAll (fnT (mt 3) (fnT (mt 1) (mt 3))) [1] = ⟨1, fnT (gn 0) (fnT (mt 1) (gn 0))⟩ := by
  simp [genAll, openMs, fnd, fndL, sub, subL, tbl, genL, List.range, List.range.loop]
theorem alive2 : instOk ⟨2, fnT (gn 0) (fnT (gn 1) (gn 0))⟩ 7 = true := by
  simp [instOk, rightS, rightT, rightL, fnd, fndL, isUp]
theorem alive3 : instT ⟨2, fnT (gn 0) (fnT (gn 1) (gn 0))⟩ 7 = fnT (mt 7) (fnT (mt 8) (mt 7)) := by
  simp [instT, fnd, fndL, sub, subL, tbl, metaL, List.range, List.range.loop]
theorem alive4 : atL ⟨1, fnT (gn 0) (gn 0)⟩ ⟨0, fnT it it⟩ = true := by
  refine atL_some (l := [it]) ⟨?_, ?_, rfl, ?_⟩
  · simp [rightS, rightT, rightL, fnd, fndL, isUp]
  · simp [rightS, rightT, rightL, fnd, fndL, isUp]
  · simp [gsub, sub, subL]
theorem alive5 : atL ⟨0, fnT it it⟩ ⟨1, fnT (gn 0) (gn 0)⟩ = false := by
  refine atL_none (.inr fun l hl => ?_)
  simp [gsub, sub, subL]

theorem _root_.Go.Vc.RepT.opn' {S : Nat → Prop} {w : World} {t : Tp} {A : Option Addr} {n c : Nat} {a b : Value} (h : RepT S w t (.agg #[a, b, .slice A n c])) : RepKs S w t.kids A 0 := by
  obtain ⟨A', c', e, _, _, h3⟩ := h.opn
  injection e with e
  have e' : [a, b, .slice A n c] = [.int .i64 t.k, .int .i64 t.n, .slice A' t.kids.length c'] := congrArg Array.toList e
  injection e' with _ e'; injection e' with _ e'; injection e' with e' _; injection e' with e1 _ _
  rw [e1]; exact h3
theorem alive_calls (w : World) : Calls Try.prog 10 #[] w (fun e w' => e = .returned (.bool true) ∧ Below w.heap.size w w') := by
  refine calls0 (args := []) tyok mixed [(5, ([1, 2, 3, 4], .pure 0 (.take 1 (.pure 2 (.pure 3 (.pure 4 (.take 5 (.run 6 (.run 7 (.run 8 (.run 9 (.run 10 (.run 11 (.pure 12 (.pure 13 (.pure 14 (.pure 15 (.pure 16 (.pure 17 (.pure 18 (.pure 19 (.pure 20 (.pure 21 (.take 22 (.run 23 (.run 24 (.run 25 (.run 26 (.run 27 (.run 28 (.pure 29 (.pure 30 (.take 31 (.take 32 (.run 33 (.pure 34 (.pure 35 (.take 36 (.take 37 (.run 38 (.pure 39 (.pure 40 (.pure 41 .done)))))))))))))))))))))))))))))))))))))))))))] Try.func10 rfl rfl (by simp) ?_
  conv => whnf
  refine ⟨gf36, fun w1 hw1 => scalK (meta_calls w1 3) hw1 ?_⟩
  conv => whnf
  refine ⟨gf36, fun w1 hw1 => scalK (meta_calls w1 1) hw1 ?_⟩
  conv => whnf
  refine ⟨gf36, fun w1 hw1 => scalK (meta_calls w1 3) hw1 ?_⟩
  conv => whnf
  refine ⟨gf35, fun w1 hw1 => resN (fn_calls (fun _ => False) w1 (mt 1) (mt 3) _ _ (leaf_rep _ _ _ _) (leaf_rep _ _ _ _)) hw1 fun v1 w2 p2 hv1 st2 => ?_⟩
  have hv1 : RepT p2 w2 _ _ := hv1.to (Same.rfl' _ _) (fun k h hl => h.elim False.elim fun h => st2.new k h hl)
  conv => whnf
  refine ⟨gf35, fun w3 hw3 => resN (fn_calls p2 w3 (mt 3) (fnT (mt 1) (mt 3)) _ _ (leaf_rep _ _ _ _) (hv1.to hw3.same (fun _ h _ => h))) hw3 fun v2 w4 p4 hv2 st4 => ?_⟩
  have hv2 := hv2.nw st4
  conv => whnf
  intro g0
  conv => whnf
  refine ⟨gf11, fun w5 hw5 => ?_⟩
  obtain ⟨p6, hw6, st6, hc6⟩ := hw5.pubE (i := 0) rfl rfl
  refine resN (generalise_calls p6 w5 (fnT (mt 3) (fnT (mt 1) (mt 3))) v2 _ 1 [1] (hv2.mv st6) (by decide) hc6 (by simp [fnd, fndL, LIM]) (by simp [fnd, fndL, LIM])) hw6 fun v3 w7 p7 hv3 st7 => ?_
  rw [alive1] at hv3
  have hv3 := hv3.nw st7
  obtain ⟨A3, c3, rfl, h31, h32, h33⟩ := hv3
  have h3 := RepS.typ h31 h32 h33
  conv => whnf
  intro g1
  conv => whnf
  refine ⟨gf37, fun w1 hw1 => scalK (gen_calls w1 0) hw1 ?_⟩
  conv => whnf
  refine ⟨gf37, fun w1 hw1 => scalK (gen_calls w1 1) hw1 ?_⟩
  conv => whnf
  refine ⟨gf37, fun w1 hw1 => scalK (gen_calls w1 0) hw1 ?_⟩
  conv => whnf
  refine ⟨gf35, fun w8 hw8 => resN (fn_calls p7 w8 (gn 1) (gn 0) _ _ (leaf_rep _ _ _ _) (leaf_rep _ _ _ _)) hw8 fun v4 w9 p9 hv4 st9 => ?_⟩
  have h3 := h3.mv st9
  have hv4 := hv4.nw st9
  conv => whnf
  refine ⟨gf35, fun w8 hw8 => resN (fn_calls p9 w8 (gn 0) (fnT (gn 1) (gn 0)) _ _ (leaf_rep _ _ _ _) (hv4.to hw8.same (fun _ h _ => h))) hw8 fun v5 w11 p11 hv5 st11 => ?_⟩
  have h3 := h3.mv st11
  have hv5 := hv5.nw st11
  obtain ⟨A5, c5, rfl, h51, h52, h53⟩ := hv5.opn
  conv => whnf
  refine ⟨gf24, fun w8 hw8 => resN (instantiate_calls p11 w8 ⟨2, fnT (gn 0) (fnT (gn 1) (gn 0))⟩ _ 7 ⟨A5, c5, rfl, h51, h52, h53.to hw8.same (fun _ h _ => h)⟩ (by decide)) hw8 fun v6 w13 p13 hv6 st13 => ?_⟩
  have h3 := h3.mv st13
  rcases hv6 with ⟨h, _⟩ | ⟨_, v6, rfl, hv6⟩
  · rw [alive2] at h; cases h
  rw [alive3] at hv6
  have hv6 := hv6.nw st13
  obtain ⟨A6, c6, rfl, h61, h62, h63⟩ := hv6.opn
  conv => whnf
  intro g2
  conv => whnf
  refine ⟨gf37, fun w1 hw1 => scalK (gen_calls w1 0) hw1 ?_⟩
  conv => whnf
  refine ⟨gf37, fun w1 hw1 => scalK (gen_calls w1 0) hw1 ?_⟩
  conv => whnf
  refine ⟨gf35, fun w8 hw8 => resN (fn_calls p13 w8 (gn 0) (gn 0) _ _ (leaf_rep _ _ _ _) (leaf_rep _ _ _ _)) hw8 fun v7 w15 p15 hv7 st15 => ?_⟩
  have h3 := h3.mv st15
  have hv6 := hv6.mv st15
  have hv7 := hv7.nw st15
  obtain ⟨A7, c7, rfl, h71, h72, h73⟩ := hv7.opn
  conv => whnf
  intro g3
  conv => whnf
  refine ⟨gf38, fun w1 hw1 => scalK (int0_calls w1) hw1 ?_⟩
  conv => whnf
  refine ⟨gf38, fun w1 hw1 => scalK (int0_calls w1) hw1 ?_⟩
  conv => whnf
  refine ⟨gf35, fun w8 hw8 => resN (fn_calls p15 w8 it it _ _ (leaf_rep _ _ _ _) (leaf_rep _ _ _ _)) hw8 fun v8 w17 p17 hv8 st17 => ?_⟩
  have h3 := h3.mv st17
  have hv6 := hv6.mv st17
  have hv7 := hv7.mv st17
  have hv8 := hv8.nw st17
  obtain ⟨A8, c8, rfl, h81, h82, h83⟩ := hv8.opn
  conv => whnf
  intro g4
  conv => whnf
  refine ⟨by kernel_rfl, rfl, ?_⟩
  conv => whnf
  refine ⟨fun _ => ?_, nofun⟩
  conv => whnf
  refine ⟨gf37, fun w1 hw1 => scalK (gen_calls w1 0) hw1 ?_⟩
  conv => whnf
  refine ⟨⟨⟨rfl, rfl, rfl, rfl, rfl, trivial⟩, ⟨rfl, rfl, rfl, rfl, trivial⟩, fun k hk => ⟨hk, rfl⟩⟩, ?_⟩
  conv => whnf
  refine ⟨gf36, fun w1 hw1 => scalK (meta_calls w1 1) hw1 ?_⟩
  conv => whnf
  refine ⟨⟨⟨rfl, rfl, rfl, rfl, rfl, trivial⟩, ⟨rfl, rfl, rfl, rfl, trivial⟩, fun k hk => ⟨hk, rfl⟩⟩, ?_⟩
  conv => whnf
  refine ⟨gf37, fun w1 hw1 => scalK (gen_calls w1 0) hw1 ?_⟩
  conv => whnf
  refine ⟨⟨⟨rfl, rfl, rfl, rfl, rfl, trivial⟩, ⟨rfl, rfl, rfl, rfl, trivial⟩, fun k hk => ⟨hk, rfl⟩⟩, ?_⟩
  conv => whnf
  refine ⟨gf35, fun w8 hw8 => resN (fn_calls p17 w8 (mt 1) (gn 0) _ _ (leaf_rep _ _ _ _) (leaf_rep _ _ _ _)) hw8 fun v9 w19 p19 hv9 st19 => ?_⟩
  have h3 := h3.mv st19
  have hv6 := hv6.mv st19
  have hv7 := hv7.mv st19
  have hv8 := hv8.mv st19
  have hv9 := hv9.nw st19
  conv => whnf
  refine ⟨⟨⟨rfl, rfl, rfl, rfl, rfl, trivial⟩, ⟨rfl, rfl, rfl, rfl, trivial⟩, st19.held⟩, ?_⟩
  conv => whnf
  refine ⟨gf35, fun w8 hw8 => resN (fn_calls p19 w8 (gn 0) (fnT (mt 1) (gn 0)) _ _ (leaf_rep _ _ _ _) (hv9.to hw8.same (fun _ h _ => h))) hw8 fun va w21 p21 hva st21 => ?_⟩
  have h3 := h3.mv st21
  have hv6 := hv6.mv st21
  have hv7 := hv7.mv st21
  have hv8 := hv8.mv st21
  have hva := hva.nw st21
  have held1 := HeldW.trans (st19.held (T := []) (ρ := []) (E := []) (R := [])) (st21.held (T := []) (ρ := []) (E := []) (R := []))
  conv => whnf
  refine ⟨⟨⟨rfl, rfl, rfl, rfl, rfl, trivial⟩, ⟨rfl, rfl, rfl, rfl, trivial⟩, HeldW.trans (st19.held (T := []) (ρ := []) (E := []) (R := [])) st21.held⟩, ?_⟩
  conv => whnf
  refine ⟨gf30, fun w8 hw8 => scalK (rsame_calls p21 w8 (fnT (gn 0) (fnT (mt 1) (gn 0))) (fnT (gn 0) (fnT (mt 1) (gn 0))) _ _ (h3.to hw8.same (fun _ h _ => h)) (hva.to hw8.same (fun _ h _ => h))) hw8 ?_⟩
  rw [show (cmpT (fnT (gn 0) (fnT (mt 1) (gn 0))) (fnT (gn 0) (fnT (mt 1) (gn 0))) == 0) = true from by simp [cmpT_zero]]
  conv => whnf
  refine ⟨⟨⟨rfl, rfl, rfl, rfl, rfl, trivial⟩, ⟨rfl, rfl, rfl, rfl, trivial⟩, HeldW.trans (st19.held (T := []) (ρ := []) (E := []) (R := [])) st21.held⟩, ?_⟩
  conv => whnf
  refine ⟨fun _ => ?_, nofun⟩
  conv => whnf
  refine ⟨fun _ => ?_, nofun⟩
  conv => whnf
  refine ⟨fun _ => ?_, nofun⟩
  conv => whnf
  refine ⟨gf36, fun w1 hw1 => scalK (meta_calls w1 7) hw1 ?_⟩
  conv => whnf
  refine ⟨⟨⟨rfl, rfl, rfl, rfl, rfl, trivial⟩, ⟨rfl, rfl, rfl, rfl, trivial⟩, HeldW.trans (st19.held (T := []) (ρ := []) (E := []) (R := [])) st21.held⟩, ?_⟩
  conv => whnf
  refine ⟨gf36, fun w1 hw1 => scalK (meta_calls w1 8) hw1 ?_⟩
  conv => whnf
  refine ⟨⟨⟨rfl, rfl, rfl, rfl, rfl, trivial⟩, ⟨rfl, rfl, rfl, rfl, trivial⟩, HeldW.trans (st19.held (T := []) (ρ := []) (E := []) (R := [])) st21.held⟩, ?_⟩
  conv => whnf
  refine ⟨gf36, fun w1 hw1 => scalK (meta_calls w1 7) hw1 ?_⟩
  conv => whnf
  refine ⟨⟨⟨rfl, rfl, rfl, rfl, rfl, trivial⟩, ⟨rfl, rfl, rfl, rfl, trivial⟩, HeldW.trans (st19.held (T := []) (ρ := []) (E := []) (R := [])) st21.held⟩, ?_⟩
  conv => whnf
  refine ⟨gf35, fun w8 hw8 => resN (fn_calls p21 w8 (mt 8) (mt 7) _ _ (leaf_rep _ _ _ _) (leaf_rep _ _ _ _)) hw8 fun vb w23 p23 hvb st23 => ?_⟩
  have hv6 := hv6.mv st23
  have hv7 := hv7.mv st23
  have hv8 := hv8.mv st23
  have hvb := hvb.nw st23
  conv => whnf
  refine ⟨⟨⟨rfl, rfl, rfl, rfl, rfl, trivial⟩, ⟨rfl, rfl, rfl, rfl, trivial⟩, HeldW.trans (HeldW.trans (st19.held (T := []) (ρ := []) (E := []) (R := [])) (st21.held (T := []) (ρ := []) (E := []) (R := []))) st23.held⟩, ?_⟩
  conv => whnf
  refine ⟨gf35, fun w8 hw8 => resN (fn_calls p23 w8 (mt 7) (fnT (mt 8) (mt 7)) _ _ (leaf_rep _ _ _ _) (hvb.to hw8.same (fun _ h _ => h))) hw8 fun vc w25 p25 hvc st25 => ?_⟩
  have hv6 := hv6.mv st25
  have hv7 := hv7.mv st25
  have hv8 := hv8.mv st25
  have hvc := hvc.nw st25
  have held2 := HeldW.trans held1 (HeldW.trans (st23.held (T := []) (ρ := []) (E := []) (R := [])) (st25.held (T := []) (ρ := []) (E := []) (R := [])))
  conv => whnf
  refine ⟨⟨⟨rfl, rfl, rfl, rfl, rfl, trivial⟩, ⟨rfl, rfl, rfl, rfl, trivial⟩, held2⟩, ?_⟩
  conv => whnf
  refine ⟨gf30, fun w8 hw8 => scalK (rsame_calls p25 w8 (fnT (mt 7) (fnT (mt 8) (mt 7))) (fnT (mt 7) (fnT (mt 8) (mt 7))) _ _ (hv6.to hw8.same (fun _ h _ => h)) (hvc.to hw8.same (fun _ h _ => h))) hw8 ?_⟩
  rw [show (cmpT (fnT (mt 7) (fnT (mt 8) (mt 7))) (fnT (mt 7) (fnT (mt 8) (mt 7))) == 0) = true from by simp [cmpT_zero]]
  conv => whnf
  refine ⟨⟨⟨rfl, rfl, rfl, rfl, rfl, trivial⟩, ⟨rfl, rfl, rfl, rfl, trivial⟩, held2⟩, ?_⟩
  conv => whnf
  refine ⟨fun _ => ?_, nofun⟩
  conv => whnf
  refine ⟨gf18, fun w8 hw8 => scalK (atLeast_calls p25 w8 ⟨1, fnT (gn 0) (gn 0)⟩ ⟨0, fnT it it⟩ _ _ ⟨A7, c7, rfl, h71, h72, (hv7.opn').to hw8.same (fun _ h _ => h)⟩ ⟨A8, c8, rfl, h81, h82, (hv8.opn').to hw8.same (fun _ h _ => h)⟩ (by decide) (by decide)) hw8 ?_⟩
  rw [alive4]
  conv => whnf
  refine ⟨⟨⟨rfl, rfl, rfl, rfl, rfl, trivial⟩, ⟨rfl, rfl, rfl, rfl, trivial⟩, held2⟩, ?_⟩
  conv => whnf
  refine ⟨fun _ => ?_, nofun⟩
  conv => whnf
  refine ⟨gf18, fun w8 hw8 => scalK (atLeast_calls p25 w8 ⟨0, fnT it it⟩ ⟨1, fnT (gn 0) (gn 0)⟩ _ _ ⟨A8, c8, rfl, h81, h82, (hv8.opn').to hw8.same (fun _ h _ => h)⟩ ⟨A7, c7, rfl, h71, h72, (hv7.opn').to hw8.same (fun _ h _ => h)⟩ (by decide) (by decide)) hw8 ?_⟩
  rw [alive5]
  conv => whnf
  refine ⟨⟨⟨rfl, rfl, rfl, rfl, rfl, trivial⟩, ⟨rfl, rfl, rfl, rfl, trivial⟩, held2⟩, ?_⟩
  conv => whnf
  intro w9 hw9
  exact ⟨rfl, hw9.bel⟩
end Go.Proofs.Ytonhlccjfbfkcaa
