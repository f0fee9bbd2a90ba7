/- The law SchemeMatches: it tells true. -/
import Derived.Test.YtonhlccjfbfkcaaTx
import Derived.Test.YtonhlccjfbfkcaaTr
namespace Go.Proofs.Ytonhlccjfbfkcaa
open Go.Vc Go.RowKit

theorem exec_eqB {ρ : List Nat} {T : Tl} {x y : Operand} {dst : Option Tmp} {t' type : TypeId} {pos : String} {after : Array Edge} {guard : Option (Nat × Bool)} {a b : Bool} {w : World} (hx : evF ρ T x = .bool a) (hy : evF ρ T y = .bool b) :
    (execOp (evF ρ T) { dst, op := .binOp .eql 4 x y t', type, pos, after, guard }).run Try.prog w = .ok (.value (.bool (a == b))) w := by
  simp only [execOp]
  refine run_val ?_
  rw [hx, hy]
  have : (eqGuard .eql 4 x y (.bool a) (.bool b)).run Try.prog w = .ok () w := rfl
  rw [Sem.run_bind, this]
  simp only [Result.andThen_ok, binOp]
  have he : (Op.equal 4 (.bool a) (.bool b)).run Try.prog w = .ok (a == b) w := by
    unfold Op.equal
    rw [show Op.maxDepth = 9999 + 1 from rfl]
    unfold Op.equalIn
    rw [Sem.run_bind, run_under Try.underlying4]
    rfl
  rw [Sem.run_bind, he]
  rfl

theorem occL_mem {k x : Int} : ∀ {l : List Tp}, occL k x l → ∃ u ∈ l, occ k x u
  | t :: r, h => by
    rcases h with h | h
    · exact ⟨t, List.mem_cons_self .., h⟩
    · obtain ⟨u, h1, h2⟩ := occL_mem h
      exact ⟨u, List.mem_cons_of_mem _ h1, h2⟩
theorem leafyL_mem : ∀ {l : List Tp}, leafyL l → ∀ u ∈ l, leafy u
  | t :: r, h, u, hu => by
    rcases List.mem_cons.1 hu with rfl | hu
    · exact h.1
    · exact leafyL_mem h.2 u hu
theorem isUp_get : ∀ {l : List Int} {j : Int} {i : Nat}, isUp l j = true → i < l.length → l[i]? = some (j + (i : Int))
  | x :: r, j, 0, h, _ => by
    simp only [isUp, Bool.and_eq_true, decide_eq_true_eq] at h
    simp [h.1]
  | x :: r, j, i + 1, h, hi => by
    simp only [isUp, Bool.and_eq_true, decide_eq_true_eq] at h
    have := isUp_get (i := i) h.2 (by simpa using hi)
    simp only [List.getElem?_cons_succ]
    rw [this]; push_cast; congr 1; omega
theorem MatchIs.inj {a b : Sc} {r r' : Option (List Tp)} (h : MatchIs a b r) (h' : MatchIs a b r') : r = r' := by
  rcases r with _ | l
  · rcases r' with _ | l'
    · rfl
    · exact (h.none_some h').elim
  · rcases r' with _ | l'
    · exact (h'.none_some h).elim
    · obtain ⟨h1, h2, h3, h4⟩ := h
      obtain ⟨_, _, h3', h4'⟩ := h'
      have hll : l.length = l'.length := by omega
      obtain ⟨g, hg, hgl, hok⟩ := rightS_gok h1
      have key : ∀ (t : Tp), ∀ n : Nat, gok g t → leafy t → gsub l t = gsub l' t → occ 8 (n : Int) t → l[n]? = l'[n]? := by
        refine Tp.ind fun k n ks ih => ?_
        intro m hgk hlf he ho
        by_cases hk : k = 8
        · subst hk
          obtain ⟨q0, q1⟩ := hgk.1 rfl
          rcases ho with ⟨_, hn⟩ | ho
          · subst hn
            rw [gsub_gen (by omega) (by omega), gsub_gen (by omega) (by omega)] at he
            simp only [Int.toNat_natCast] at he
            rw [List.getElem?_eq_getElem (by omega), List.getElem?_eq_getElem (by omega), he]
          · rw [hlf.1 (.inr rfl)] at ho; exact ho.elim
        · rcases ho with ⟨h8, _⟩ | ho
          · exact absurd h8 hk
          · obtain ⟨u, hu, ho⟩ := occL_mem ho
            rw [gsub_node hk, gsub_node hk] at he
            injection he with _ _ he
            exact ih u hu m (gokL_mem hgk.2 u hu) (leafyL_mem hlf.2 u hu) (List.map_inj_left.1 he u hu) ho
      congr 1
      apply List.ext_getElem?
      intro i
      rcases Nat.lt_or_ge i g with hi | hi
      · have hmem : (i : Int) ∈ fnd 8 a.t [] := by
          have hup := h1
          simp only [rightS, Bool.and_eq_true] at hup
          have := isUp_get hup.2.1 (i := i) (by omega)
          rw [Int.zero_add] at this
          exact List.mem_of_getElem? this
        have hup := h1
        simp only [rightS, Bool.and_eq_true] at hup
        refine key a.t i hok (right_leafy a.t hup.1) (by rw [h4, h4']) ?_
        exact ((mem_fnd 8 (i : Int) a.t []).1 hmem).resolve_left (by simp)
      · rw [List.getElem?_eq_none (by omega), List.getElem?_eq_none (by omega)]

theorem matches_calls (S : Nat → Prop) (w : World) (a b : Sc) (va vb : Value) (ha : RepS S w a va) (hb : RepS S w b vb) (hna : szT a.t ≤ 1073741824) (hnb : szT b.t ≤ 1073741824) :
    Calls Try.prog 4 #[va, vb] w (fun e w' => e = .returned (.bool true) ∧ Below w.heap.size w w') := by
  have hfa := fnd_sz 8 a.t []
  simp only [List.length_nil, Nat.zero_add] at hfa
  have ha' : RepS (fun q => S q ∧ q < w.heap.size) w a va := ha.to (Same.rfl' _ _) (fun _ h hl => ⟨h, hl⟩)
  have hb' : RepS (fun q => S q ∧ q < w.heap.size) w b vb := hb.to (Same.rfl' _ _) (fun _ h hl => ⟨h, hl⟩)
  obtain ⟨A, ca, rfl, a1, a2, a3⟩ := ha
  obtain ⟨B, cb, rfl, b1, b2, b3⟩ := hb
  refine calls_of_vc (args := [_, _]) (plans := [(3, ([0, 1], .pure 0 (.pure 1 (.run 2 (.pure 3 (.pure 4 (.pure 5 (.run 6 (.pure 7 (.pure 8 (.take 9 (.take 10 (.take 12 (.take 13 (.run 11 (.run 14 (.run 15 (.pure 16 (.pure 17 (.take 18 (.take 19 (.take 21 (.take 22 (.run 20 (.run 23 (.run 24 (.pure 25 (.pure 26 (.run 27 (.pure 28 (.pure 29 .done)))))))))))))))))))))))))))))))]) tyok mixed Try.func4 rfl rfl (by simp) (fun q => S q ∧ q < w.heap.size) (fun q h => h.2) ?_
  conv => whnf
  intro g0
  conv => whnf
  intro g1
  conv => whnf
  refine ⟨gf15, fun w1 hw1 => resN (match_calls (fun q => S q ∧ q < w.heap.size) w1 a b _ _ (ha'.to hw1.same (fun _ h _ => h)) (hb'.to hw1.same (fun _ h _ => h)) hna hnb) hw1 fun v w2 p2 hv st2 => ?_⟩
  obtain ⟨r, hr, hv⟩ := hv
  have ha2 := ha'.mv st2
  have hb2 := hb'.mv st2
  obtain ⟨l, D, d, bo, rfl, hl, hD⟩ : ∃ (l : List Tp) (D : Option Addr) (d : Nat) (bo : Bool), v = .tuple #[.slice D l.length d, .bool bo] ∧ l.length ≤ LIM ∧ RepKs p2 w2 l D 0 ∧ (r = if bo then some l else none) ∧ (bo = false → l = []) := by
    rcases r with _ | l
    · have hv : v = _ := hv
      exact ⟨[], none, 0, false, hv, Nat.zero_le _, by simp only [RepKs], rfl, fun _ => rfl⟩
    · obtain ⟨D, d, hv, _, hk⟩ := hv
      refine ⟨l, D, d, true, hv, ?_, hk.nw st2, rfl, nofun⟩
      obtain ⟨q1, _, q3, _⟩ := hr
      obtain ⟨g, hg, hgl, _⟩ := rightS_gok q1
      unfold LIM; omega
  obtain ⟨hD, hrl, hbl⟩ := hD
  clear hv
  conv => whnf
  refine ⟨gf16, fun w3 hw3 => resN (rmatch_calls p2 w3 a b _ _ (ha2.to hw3.same (fun _ h _ => h)) (hb2.to hw3.same (fun _ h _ => h)) hna hnb) hw3 fun v w4 p4 hv st4 => ?_⟩
  obtain ⟨r', hr', hv⟩ := hv
  obtain rfl := hr.inj hr'
  have ha4 := ha2.mv st4
  have hb4 := hb2.mv st4
  have hD := hD.mv st4
  obtain ⟨D', d', rfl, hD'⟩ : ∃ (D' : Option Addr) (d' : Nat), v = .tuple #[.slice D' l.length d', .bool bo] ∧ RepKs p4 w4 l D' 0 := by
    rcases bo with _ | _
    · rw [hrl] at hv
      have hv : v = _ := hv
      rw [hbl rfl]
      exact ⟨none, 0, hv, by simp only [RepKs]⟩
    · rw [hrl] at hv
      obtain ⟨D', d', hv, _, hk⟩ := hv
      exact ⟨D', d', hv, hk.nw st4⟩
  conv => whnf
  refine ⟨by kernel_rfl, rfl, ?_⟩
  conv => whnf
  refine ⟨gf17, fun w5 hw5 => scalK (sameAll_calls p4 w5 l l D D' d d' hl hl (hD.to hw5.same (fun _ h _ => h)) (hD'.to hw5.same (fun _ h _ => h))) hw5 ?_⟩
  rw [show (cmpL l l == 0) = true from by simp [cmpL_zero]]
  conv => whnf
  refine ⟨⟨⟨rfl, rfl, trivial⟩, ⟨rfl, rfl, trivial⟩, fun k hk => ⟨hk, rfl⟩⟩, ?_⟩
  conv => whnf
  refine ⟨fun _ => ?_, nofun⟩
  conv => whnf
  refine ⟨nofun, fun w6 hw6 => valK (v := .bool true) hw6 (by rw [exec_eqB (a := bo) (b := bo) rfl rfl, beq_self_eq_true]) ?_⟩
  conv => whnf
  refine ⟨⟨⟨rfl, rfl, trivial⟩, ⟨rfl, rfl, trivial⟩, fun k hk => ⟨hk, rfl⟩⟩, ?_⟩
  conv => whnf
  refine ⟨fun _ => ?_, nofun⟩
  conv => whnf
  refine ⟨gf18, fun w5 hw5 => scalK (atLeast_calls p4 w5 a b _ _ (ha4.to hw5.same (fun _ h _ => h)) (hb4.to hw5.same (fun _ h _ => h)) hna hnb) hw5 ?_⟩
  conv => whnf
  refine ⟨⟨⟨rfl, rfl, trivial⟩, ⟨rfl, rfl, trivial⟩, fun k hk => ⟨hk, rfl⟩⟩, ?_⟩
  conv => whnf
  refine ⟨gf19, fun w5 hw5 => scalK (ratLeast_calls p4 w5 a b _ _ (ha4.to hw5.same (fun _ h _ => h)) (hb4.to hw5.same (fun _ h _ => h)) hna hnb) hw5 ?_⟩
  conv => whnf
  refine ⟨⟨⟨rfl, rfl, trivial⟩, ⟨rfl, rfl, trivial⟩, fun k hk => ⟨hk, rfl⟩⟩, ?_⟩
  conv => whnf
  refine ⟨nofun, fun w6 hw6 => valK (v := .bool true) hw6 (by rw [exec_eqB (a := atL a b) (b := atL a b) rfl rfl, beq_self_eq_true]) ?_⟩
  conv => whnf
  refine ⟨⟨⟨rfl, rfl, trivial⟩, ⟨rfl, rfl, trivial⟩, fun k hk => ⟨hk, rfl⟩⟩, ?_⟩
  conv => whnf
  refine ⟨fun _ => ?_, nofun⟩
  conv => whnf
  refine ⟨gf20, fun w5 hw5 => scalK (alike_calls p4 w5 a b _ _ (ha4.to hw5.same (fun _ h _ => h)) (hb4.to hw5.same (fun _ h _ => h)) hna hnb) hw5 ?_⟩
  conv => whnf
  refine ⟨⟨⟨rfl, rfl, trivial⟩, ⟨rfl, rfl, trivial⟩, fun k hk => ⟨hk, rfl⟩⟩, ?_⟩
  conv => whnf
  refine ⟨gf21, fun w5 hw5 => scalK (ralike_calls p4 w5 a b _ _ (ha4.to hw5.same (fun _ h _ => h)) (hb4.to hw5.same (fun _ h _ => h)) hna hnb) hw5 ?_⟩
  conv => whnf
  refine ⟨⟨⟨rfl, rfl, trivial⟩, ⟨rfl, rfl, trivial⟩, fun k hk => ⟨hk, rfl⟩⟩, ?_⟩
  conv => whnf
  refine ⟨nofun, fun w6 hw6 => valK (v := .bool true) hw6 (by rw [exec_eqB (a := atL a b && atL b a) (b := atL a b && atL b a) rfl rfl, beq_self_eq_true]) ?_⟩
  conv => whnf
  refine ⟨⟨⟨rfl, rfl, trivial⟩, ⟨rfl, rfl, trivial⟩, fun k hk => ⟨hk, rfl⟩⟩, ?_⟩
  conv => whnf
  refine ⟨fun _ => ?_, nofun⟩
  conv => whnf
  refine ⟨gf10, fun w1 hw1 => scalK (alive_calls w1) hw1 ?_⟩
  conv => whnf
  refine ⟨⟨⟨rfl, rfl, trivial⟩, ⟨rfl, rfl, trivial⟩, fun k hk => ⟨hk, rfl⟩⟩, ?_⟩
  conv => whnf
  intro w2 hw2
  exact ⟨rfl, hw2.bel⟩
end Go.Proofs.Ytonhlccjfbfkcaa
