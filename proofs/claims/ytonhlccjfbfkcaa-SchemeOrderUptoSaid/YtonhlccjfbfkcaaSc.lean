/- The law SchemeOrder: it tells true. -/
import Derived.Test.YtonhlccjfbfkcaaSb
namespace Go.Proofs.Ytonhlccjfbfkcaa
open Go.Vc Go.RowKit

theorem exec_neB {ρ : List Nat} {T : Tl} {x y : Operand} {dst : Option Tmp} {t' type : TypeId} {pos : String} {after : Array Edge} {guard : Option (Nat × Bool)} {a b : Bool} {w : World} (hx : evF ρ T x = .bool a) (hy : evF ρ T y = .bool b) :
    (execOp (evF ρ T) { dst, op := .binOp .neq 4 x y t', type, pos, after, guard }).run Try.prog w = .ok (.value (.bool (!(a == b)))) w := by
  simp only [execOp]
  refine run_val ?_
  rw [hx, hy]
  have : (eqGuard .neq 4 x y (.bool a) (.bool b)).run Try.prog w = .ok () w := rfl
  rw [Sem.run_bind, this]
  simp only [Result.andThen_ok, binOp]
  have he : (Op.equal 4 (.bool a) (.bool b)).run Try.prog w = .ok (a == b) w := by
    unfold Op.equal
    rw [show Op.maxDepth = 9999 + 1 from rfl]
    unfold Op.equalIn
    rw [Sem.run_bind, run_under Try.underlying4]
    rfl
  rw [Sem.run_bind, he]
  rfl
theorem least_right {a : Sc} (h : rightS a = false) : atL a a = false := by
  rcases e : atL a a with _ | _
  · rfl
  · obtain ⟨l, q1, _⟩ := atL_true.1 e
    rw [h] at q1; cases q1

theorem order_calls (S : Nat → Prop) (w : World) (a b c : Sc) (va vb vc : Value) (ha : RepS S w a va) (hb : RepS S w b vb) (hc : RepS S w c vc) (hna : szT a.t ≤ 1073741824) (hnb : szT b.t ≤ 1073741824) (hnc : szT c.t ≤ 1073741824) :
    Calls Try.prog 6 #[va, vb, vc] w (fun e w' => e = .returned (.bool true) ∧ Below w.heap.size w w') := by
  have hfa := fnd_sz 8 a.t []
  simp only [List.length_nil, Nat.zero_add] at hfa
  have ha' : RepS (fun q => S q ∧ q < w.heap.size) w a va := ha.to (Same.rfl' _ _) (fun _ h hl => ⟨h, hl⟩)
  have hb' : RepS (fun q => S q ∧ q < w.heap.size) w b vb := hb.to (Same.rfl' _ _) (fun _ h hl => ⟨h, hl⟩)
  have hc' : RepS (fun q => S q ∧ q < w.heap.size) w c vc := hc.to (Same.rfl' _ _) (fun _ h hl => ⟨h, hl⟩)
  obtain ⟨A, ca, rfl, a1, a2, a3⟩ := ha
  obtain ⟨B, cb, rfl, b1, b2, b3⟩ := hb
  obtain ⟨C, cc, rfl, c1, c2, c3⟩ := hc
  refine calls_of_vc (args := [_, _, _]) (plans := [(5, ([0, 1], .take 0 (.take 1 (.take 3 (.take 4 (.run 2 (.run 5 (.pure 6 (.take 7 (.take 8 (.run 9 (.pure 10 (.run 11 (.pure 12 (.take 13 (.take 14 (.run 15 (.pure 16 (.take 17 (.take 19 (.run 18 (.run 20 (.run 21 (.pure 22 (.pure 23 (.pure 24 .done)))))))))))))))))))))))))), (100003, ([], .done)), (100005, ([], .done))]) tyok mixed Try.func6 rfl rfl (by simp) (fun q => S q ∧ q < w.heap.size) (fun q h => h.2) ?_
  conv => whnf
  intro g0
  conv => whnf
  intro g1
  conv => whnf
  intro g2
  conv => whnf
  refine ⟨fun st => st = ⟨[(3, .own 0 0), (4, .own 1 0), (5, .own 2 0)], [g0, g1, g2], [(2, ([.v (.int .i64 c.g), .v (.int .i64 c.t.k), .v (.int .i64 c.t.n), .v (.slice C c.t.kids.length cc)], 29)), (1, ([.v (.int .i64 b.g), .v (.int .i64 b.t.k), .v (.int .i64 b.t.n), .v (.slice B b.t.kids.length cb)], 29)), (0, ([.v (.int .i64 a.g), .v (.int .i64 a.t.k), .v (.int .i64 a.t.n), .v (.slice A a.t.kids.length ca)], 29))], [], fun q => S q ∧ q < w.heap.size, w⟩, ?_, ?_⟩
  · conv => whnf
    refine ⟨gf22, fun w1 hw1 => scalK (rightScheme_calls _ w1 a _ (ha'.to hw1.same (fun _ h _ => h)) (by omega)) hw1 ?_⟩
    rcases hra : rightS a with _ | _
    · conv => whnf
      refine ⟨nofun, fun _ => ?_⟩
      conv => whnf
      refine ⟨gf22, fun w1 hw1 => scalK (rightScheme_calls _ w1 a _ (ha'.to hw1.same (fun _ h _ => h)) (by omega)) hw1 ?_⟩
      rw [hra]
      conv => whnf
      refine ⟨fun _ => ?_, nofun⟩
      conv => whnf
      refine ⟨gf18, fun w5 hw5 => scalK (atLeast_calls _ w5 a a _ _ (ha'.to hw5.same (fun _ h _ => h)) (ha'.to hw5.same (fun _ h _ => h)) hna hna) hw5 ?_⟩
      rw [least_right hra]
      conv => whnf
      refine ⟨nofun, fun _ => ?_⟩
      conv => whnf
      exact ⟨_, rfl, weak_of (preP_refl _) ⟨rfl, rfl, rfl, trivial⟩ ⟨⟨rfl, rfl, rfl⟩, ⟨rfl, rfl, rfl⟩, ⟨rfl, rfl, rfl⟩, trivial⟩ (List.Sublist.refl _) rfl rfl⟩
    · conv => whnf
      refine ⟨fun _ => ?_, nofun⟩
      conv => whnf
      refine ⟨gf18, fun w5 hw5 => scalK (atLeast_calls _ w5 a a _ _ (ha'.to hw5.same (fun _ h _ => h)) (ha'.to hw5.same (fun _ h _ => h)) hna hna) hw5 ?_⟩
      rw [atL_true.2 (least_refl hra)]
      conv => whnf
      refine ⟨fun _ => ?_, nofun⟩
      conv => whnf
      refine ⟨gf22, fun w1 hw1 => scalK (rightScheme_calls _ w1 a _ (ha'.to hw1.same (fun _ h _ => h)) (by omega)) hw1 ?_⟩
      rw [hra]
      conv => whnf
      refine ⟨nofun, fun _ => ?_⟩
      conv => whnf
      exact ⟨_, rfl, weak_of (preP_refl _) ⟨rfl, rfl, rfl, trivial⟩ ⟨⟨rfl, rfl, rfl⟩, ⟨rfl, rfl, rfl⟩, ⟨rfl, rfl, rfl⟩, trivial⟩ (List.Sublist.refl _) rfl rfl⟩
  rintro st rfl
  conv => whnf
  refine ⟨fun st => st = ⟨[(3, .own 0 0), (4, .own 1 0), (5, .own 2 0)], [g0, g1, g2], [(2, ([.v (.int .i64 c.g), .v (.int .i64 c.t.k), .v (.int .i64 c.t.n), .v (.slice C c.t.kids.length cc)], 29)), (1, ([.v (.int .i64 b.g), .v (.int .i64 b.t.k), .v (.int .i64 b.t.n), .v (.slice B b.t.kids.length cb)], 29)), (0, ([.v (.int .i64 a.g), .v (.int .i64 a.t.k), .v (.int .i64 a.t.n), .v (.slice A a.t.kids.length ca)], 29))], [], fun q => S q ∧ q < w.heap.size, w⟩, ?_, ?_⟩
  · conv => whnf
    refine ⟨gf18, fun w5 hw5 => scalK (atLeast_calls _ w5 a b _ _ (ha'.to hw5.same (fun _ h _ => h)) (hb'.to hw5.same (fun _ h _ => h)) hna hnb) hw5 ?_⟩
    rcases hab : atL a b with _ | _
    · conv => whnf
      refine ⟨nofun, fun _ => ?_⟩
      conv => whnf
      exact ⟨_, rfl, weak_of (preP_refl _) ⟨rfl, rfl, rfl, trivial⟩ ⟨⟨rfl, rfl, rfl⟩, ⟨rfl, rfl, rfl⟩, ⟨rfl, rfl, rfl⟩, trivial⟩ (List.Sublist.refl _) rfl rfl⟩
    · conv => whnf
      refine ⟨fun _ => ?_, nofun⟩
      conv => whnf
      refine ⟨gf18, fun w5 hw5 => scalK (atLeast_calls _ w5 b c _ _ (hb'.to hw5.same (fun _ h _ => h)) (hc'.to hw5.same (fun _ h _ => h)) hnb hnc) hw5 ?_⟩
      rcases hbc : atL b c with _ | _
      · conv => whnf
        refine ⟨nofun, fun _ => ?_⟩
        conv => whnf
        exact ⟨_, rfl, weak_of (preP_refl _) ⟨rfl, rfl, rfl, trivial⟩ ⟨⟨rfl, rfl, rfl⟩, ⟨rfl, rfl, rfl⟩, ⟨rfl, rfl, rfl⟩, trivial⟩ (List.Sublist.refl _) rfl rfl⟩
      · conv => whnf
        refine ⟨fun _ => ?_, nofun⟩
        conv => whnf
        refine ⟨gf18, fun w5 hw5 => scalK (atLeast_calls _ w5 a c _ _ (ha'.to hw5.same (fun _ h _ => h)) (hc'.to hw5.same (fun _ h _ => h)) hna hnc) hw5 ?_⟩
        rw [atL_true.2 (least_trans (atL_true.1 hab) (atL_true.1 hbc))]
        conv => whnf
        refine ⟨nofun, fun _ => ?_⟩
        conv => whnf
        exact ⟨_, rfl, weak_of (preP_refl _) ⟨rfl, rfl, rfl, trivial⟩ ⟨⟨rfl, rfl, rfl⟩, ⟨rfl, rfl, rfl⟩, ⟨rfl, rfl, rfl⟩, trivial⟩ (List.Sublist.refl _) rfl rfl⟩
  rintro st rfl
  conv => whnf
  refine ⟨by kernel_rfl, rfl, ?_⟩
  conv => whnf
  refine ⟨gf20, fun w5 hw5 => scalK (alike_calls _ w5 a b _ _ (ha'.to hw5.same (fun _ h _ => h)) (hb'.to hw5.same (fun _ h _ => h)) hna hnb) hw5 ?_⟩
  conv => whnf
  refine ⟨⟨⟨rfl, rfl, rfl, trivial⟩, ⟨rfl, rfl, trivial⟩, fun k hk => ⟨hk, rfl⟩⟩, ?_⟩
  conv => whnf
  refine ⟨gf18, fun w5 hw5 => scalK (atLeast_calls _ w5 a b _ _ (ha'.to hw5.same (fun _ h _ => h)) (hb'.to hw5.same (fun _ h _ => h)) hna hnb) hw5 ?_⟩
  conv => whnf
  refine ⟨⟨⟨rfl, rfl, rfl, trivial⟩, ⟨rfl, rfl, trivial⟩, fun k hk => ⟨hk, rfl⟩⟩, ?_⟩
  conv => whnf
  rcases hab : atL a b with _ | _
  · refine ⟨nofun, fun _ => ?_⟩
    conv => whnf
    refine ⟨nofun, fun w6 hw6 => valK (v := .bool false) hw6 (by rw [exec_neB (a := false && atL b a) (b := false) rfl rfl]; rfl) ?_⟩
    conv => whnf
    refine ⟨⟨⟨rfl, rfl, rfl, trivial⟩, ⟨rfl, rfl, trivial⟩, fun k hk => ⟨hk, rfl⟩⟩, ?_⟩
    conv => whnf
    refine ⟨fun _ => ?_, nofun⟩
    conv => whnf
    refine ⟨gf20, fun w5 hw5 => scalK (alike_calls _ w5 a b _ _ (ha'.to hw5.same (fun _ h _ => h)) (hb'.to hw5.same (fun _ h _ => h)) hna hnb) hw5 ?_⟩
    rw [hab]
    conv => whnf
    refine ⟨⟨⟨rfl, rfl, rfl, trivial⟩, ⟨rfl, rfl, trivial⟩, fun k hk => ⟨hk, rfl⟩⟩, ?_⟩
    conv => whnf
    refine ⟨nofun, fun _ => ?_⟩
    conv => whnf
    refine ⟨gf10, fun w1 hw1 => scalK (alive_calls w1) hw1 ?_⟩
    conv => whnf
    intro w2 hw2
    exact ⟨rfl, hw2.bel⟩
  · refine ⟨fun _ => ?_, nofun⟩
    conv => whnf
    refine ⟨gf18, fun w5 hw5 => scalK (atLeast_calls _ w5 b a _ _ (hb'.to hw5.same (fun _ h _ => h)) (ha'.to hw5.same (fun _ h _ => h)) hnb hna) hw5 ?_⟩
    conv => whnf
    refine ⟨⟨⟨rfl, rfl, rfl, trivial⟩, ⟨rfl, rfl, trivial⟩, fun k hk => ⟨hk, rfl⟩⟩, ?_⟩
    conv => whnf
    refine ⟨nofun, fun w6 hw6 => valK (v := .bool false) hw6 (by rw [exec_neB (a := true && atL b a) (b := atL b a) rfl rfl]; simp) ?_⟩
    conv => whnf
    refine ⟨⟨⟨rfl, rfl, rfl, trivial⟩, ⟨rfl, rfl, trivial⟩, fun k hk => ⟨hk, rfl⟩⟩, ?_⟩
    conv => whnf
    refine ⟨fun _ => ?_, nofun⟩
    conv => whnf
    refine ⟨gf20, fun w5 hw5 => scalK (alike_calls _ w5 a b _ _ (ha'.to hw5.same (fun _ h _ => h)) (hb'.to hw5.same (fun _ h _ => h)) hna hnb) hw5 ?_⟩
    rw [hab]
    rcases hba : atL b a with _ | _
    · conv => whnf
      refine ⟨⟨⟨rfl, rfl, rfl, trivial⟩, ⟨rfl, rfl, trivial⟩, fun k hk => ⟨hk, rfl⟩⟩, ?_⟩
      conv => whnf
      refine ⟨nofun, fun _ => ?_⟩
      conv => whnf
      refine ⟨gf10, fun w1 hw1 => scalK (alive_calls w1) hw1 ?_⟩
      conv => whnf
      intro w2 hw2
      exact ⟨rfl, hw2.bel⟩
    · have hEq : a = b := least_antisymm (atL_true.1 hab) (atL_true.1 hba)
      conv => whnf
      refine ⟨⟨⟨rfl, rfl, rfl, trivial⟩, ⟨rfl, rfl, trivial⟩, fun k hk => ⟨hk, rfl⟩⟩, ?_⟩
      conv => whnf
      refine ⟨fun _ => ?_, nofun⟩
      conv => whnf
      have hra : rightS a = true := by obtain ⟨l, q1, _⟩ := atL_true.1 hab; exact q1
      have hrb : rightS b = true := by obtain ⟨l, q1, _⟩ := atL_true.1 hba; exact q1
      refine ⟨gf26, fun w7 hw7 => resN (canonical_calls _ w7 a _ (ha'.to hw7.same (fun _ h _ => h)) hna) hw7 fun v w8 p8 hv st8 => ?_⟩
      rw [canon_right hra] at hv
      have hv := hv.nw st8
      have hb8 := hb'.mv st8
      conv => whnf
      refine ⟨⟨⟨rfl, rfl, rfl, trivial⟩, ⟨rfl, rfl, trivial⟩, st8.held⟩, ?_⟩
      conv => whnf
      refine ⟨gf26, fun w9 hw9 => resN (canonical_calls _ w9 b _ (hb8.to hw9.same (fun _ h _ => h)) hnb) hw9 fun v' w10 p10 hv' st10 => ?_⟩
      rw [canon_right hrb] at hv'
      have hv' := hv'.nw st10
      have hv := hv.mv st10
      conv => whnf
      refine ⟨⟨⟨rfl, rfl, rfl, trivial⟩, ⟨rfl, rfl, trivial⟩, HeldW.trans (st8.held (T := []) (ρ := []) (E := []) (R := [])) st10.held⟩, ?_⟩
      conv => whnf
      refine ⟨gf25, fun w11 hw11 => scalK (sameScheme_calls p10 w11 a b _ _ (hv.to hw11.same (fun _ h _ => h)) (hv'.to hw11.same (fun _ h _ => h))) hw11 ?_⟩
      rw [sameS_iff.2 hEq]
      conv => whnf
      refine ⟨⟨⟨rfl, rfl, rfl, trivial⟩, ⟨rfl, rfl, trivial⟩, HeldW.trans (st8.held (T := []) (ρ := []) (E := []) (R := [])) st10.held⟩, ?_⟩
      conv => whnf
      refine ⟨nofun, fun _ => ?_⟩
      conv => whnf
      refine ⟨gf10, fun w1 hw1 => scalK (alive_calls w1) hw1 ?_⟩
      conv => whnf
      intro w2 hw2
      exact ⟨rfl, hw2.bel⟩
end Go.Proofs.Ytonhlccjfbfkcaa
