/- The reference's Match, AtLeast, Alike; the law's sameAll. -/
import Derived.Test.YtonhlccjfbfkcaaTw
namespace Go.Proofs.Ytonhlccjfbfkcaa
open Go.Vc Go.RowKit

theorem weak_swap {N : Nat} {b : Base} {T : Tl} {ρ : List Nat} {E : El} {r1 r2 : Row} {pub : Nat → Prop} {s : World} : Weak N b ⟨T, ρ, E, [r1, r2], pub, s⟩ ⟨T, ρ, E, [r2, r1], pub, s⟩ := by
  intro a w h
  refine ⟨h.sz, h.df, h.tm, ⟨h.wd.below, h.wd.size, h.wd.pub, h.wd.ent, h.wd.entN, h.wd.inj, fun r hr => h.wd.row r ?_, ?_⟩⟩
  · simp only [List.mem_cons, List.not_mem_nil, or_false] at hr ⊢
    exact hr.symm
  · have := h.wd.rinj
    simp only [List.pairwise_cons, List.mem_singleton, forall_eq, List.not_mem_nil, false_imp_iff, implies_true, List.Pairwise.nil, and_true] at this ⊢
    exact fun g h1 h2 => this g h2 h1

theorem rmatch_calls (S : Nat → Prop) (w : World) (a b : Sc) (va vb : Value) (ha : RepS S w a va) (hb : RepS S w b vb) (hna : szT a.t ≤ 1073741824) (hnb : szT b.t ≤ 1073741824) :
    Calls Try.prog 16 #[va, vb] w (Res w (MatchP S w a b)) := by
  obtain ⟨ag, t⟩ := a
  obtain ⟨bg, u⟩ := b
  have hfa := fnd_sz 8 t []
  have hfb := fnd_sz 8 u []
  have ha' := ha
  have hb' := hb
  obtain ⟨A, ca, rfl, a1, a2, a3⟩ := ha
  obtain ⟨B, cb, rfl, b1, b2, b3⟩ := hb
  simp only [List.length_nil, Nat.zero_add] at *
  have failed : ∀ {w4 : World}, MatchIs ⟨ag, t⟩ ⟨bg, u⟩ none → Below w.heap.size w w4 → Res w (MatchP S w ⟨ag, t⟩ ⟨bg, u⟩) (.returned (.tuple #[.slice none 0 0, .bool false])) w4 := fun h hb => ⟨_, rfl, ⟨none, h, rfl⟩, hb⟩
  refine calls_of_vc (args := [_, _]) (plans := [(3, ([0], .pure 0 (.take 1 (.pure 3 (.take 4 (.two 2 5 (.run 5 (.pure 6 (.run 7 (.pure 8 .done)))) (.run 2 (.pure 6 (.run 7 (.pure 8 .done)))))))))), (100004, ([], .done))]) tyok mixed Try.func16 rfl rfl (by simp) (fun q => S q ∧ q < w.heap.size) (fun q h => h.2) ?_
  conv => whnf
  intro g0
  conv => whnf
  intro g1
  conv => whnf
  refine ⟨gf45, fun w1 hw1 => scalK (rrightScheme_calls S w1 ⟨ag, t⟩ _ (ha'.to (hw1.samev S) (fun _ h _ => h)) (by simp only; omega)) hw1 ?_⟩
  rcases hra : rightS ⟨ag, t⟩ with _ | _
  · conv => whnf
    refine ⟨nofun, fun _ => ?_⟩
    conv => whnf
    intro w2 hw2
    exact failed (.inl (by simp [hra])) hw2.bel
  conv => whnf
  refine ⟨fun _ => ?_, nofun⟩
  conv => whnf
  refine ⟨gf45, fun w1 hw1 => scalK (rrightScheme_calls S w1 ⟨bg, u⟩ _ (hb'.to (hw1.samev S) (fun _ h _ => h)) (by simp only; omega)) hw1 ?_⟩
  rcases hrb : rightS ⟨bg, u⟩ with _ | _
  · conv => whnf
    refine ⟨fun _ => ?_, nofun⟩
    conv => whnf
    intro w2 hw2
    exact failed (.inl (by simp [hrb])) hw2.bel
  obtain ⟨g, hg, hgl, hok⟩ := rightS_gok hra
  simp only at hg hgl hok
  subst hg
  have hg30 : g ≤ 1073741824 := by omega
  have hz6 : RepFlat (fun q => S q ∧ q < w.heap.size) w (List.replicate g zeroT) (madeCells #[.int .i64 0, .int .i64 0, .slice none 0 0] (g * 3)).toList := zeros_flat _ w g
  have hz7 : (madeCells #[.bool false] (g * 1)).toList = (List.replicate g false).map Value.bool := by rw [zeros_one, List.map_replicate]
  have hu0 : RepT (fun q => S q ∧ q < w.heap.size) w u (.agg #[.int .i64 u.k, .int .i64 u.n, .slice B u.kids.length cb]) := (RepS.typ (s := ⟨bg, u⟩) b1 b2 b3).to (Same.rfl' _ _) (fun _ h hl => ⟨h, hl⟩)
  have ht0 : RepT (fun q => S q ∧ q < w.heap.size) w t (.agg #[.int .i64 t.k, .int .i64 t.n, .slice A t.kids.length ca]) := (RepS.typ (s := ⟨(g : Int), t⟩) a1 a2 a3).to (Same.rfl' _ _) (fun _ h hl => ⟨h, hl⟩)
  conv => whnf
  refine ⟨nofun, fun _ => ?_⟩
  conv => whnf
  refine ⟨fun st => ∃ (adK adL : Addr) (g2 : Nat), st = ⟨[(6, .own 2 0), (2, .own 0 0), (3, .own 1 0)], [g0, g1, g2],
      [(2, ([.v (.slice (some adK) g g), .v (.slice (some adL) g g)], 65)), (0, ([.v (.int .i64 g), .v (.int .i64 t.k), .v (.int .i64 t.n), .v (.slice A t.kids.length ca)], 29)), (1, ([.v (.int .i64 bg), .v (.int .i64 u.k), .v (.int .i64 u.n), .v (.slice B u.kids.length cb)], 29))],
      [⟨.slice (some adK) g g, 4, 1, (List.replicate g false).map Value.bool⟩, ⟨.slice (some adL) g g, 24, 3, (madeCells #[.int .i64 0, .int .i64 0, .slice none 0 0] (g * 3)).toList⟩], fun q => S q ∧ q < w.heap.size, w⟩, ?_, ?_⟩
  · rw [← hz7]
    conv => whnf
    refine ⟨by kernel_rfl, rfl, ?_⟩
    conv => whnf
    refine ⟨?_, ?_⟩
    · refine ⟨nofun, fun w2 hw2 => makeK tyok (t := 59) rfl rfl rfl hw2 (n := g) rfl rfl (by show 1 * g ≤ _; omega) (by simp only [maxLen]; omega) fun adK => ?_⟩
      conv => whnf
      refine ⟨⟨⟨rfl, rfl, trivial⟩, ⟨rfl, trivial⟩, fun k hk => ⟨hk, rfl⟩⟩, ?_⟩
      conv => whnf
      refine ⟨nofun, fun w2 hw2 => makeK tyok (t := 22) rfl rfl rfl hw2 (n := g) rfl rfl (by show 40 * g ≤ _; omega) (by simp only [maxLen]; omega) fun adL => ?_⟩
      conv => whnf
      refine ⟨⟨⟨rfl, rfl, trivial⟩, ⟨rfl, trivial⟩, fun k hk => ⟨hk, rfl⟩⟩, ?_⟩
      conv => whnf
      intro g2
      conv => whnf
      refine ⟨⟨⟨rfl, rfl, trivial⟩, ⟨rfl, trivial⟩, fun k hk => ⟨hk, rfl⟩⟩, ?_⟩
      conv => whnf
      exact ⟨_, ⟨adK, adL, g2, rfl⟩, Weak.trans weak_swap (weak_of (preP_refl _) ⟨rfl, rfl, rfl, trivial⟩ ⟨⟨rfl, rfl, rfl⟩, ⟨rfl, rfl, rfl⟩, ⟨rfl, rfl, rfl⟩, trivial⟩ (List.Sublist.refl _) rfl rfl)⟩
    · refine ⟨nofun, fun w2 hw2 => makeK tyok (t := 22) rfl rfl rfl hw2 (n := g) rfl rfl (by show 40 * g ≤ _; omega) (by simp only [maxLen]; omega) fun adL => ?_⟩
      conv => whnf
      refine ⟨⟨⟨rfl, rfl, trivial⟩, ⟨rfl, trivial⟩, fun k hk => ⟨hk, rfl⟩⟩, ?_⟩
      conv => whnf
      refine ⟨nofun, fun w2 hw2 => makeK tyok (t := 59) rfl rfl rfl hw2 (n := g) rfl rfl (by show 1 * g ≤ _; omega) (by simp only [maxLen]; omega) fun adK => ?_⟩
      conv => whnf
      refine ⟨⟨⟨rfl, rfl, trivial⟩, ⟨rfl, trivial⟩, fun k hk => ⟨hk, rfl⟩⟩, ?_⟩
      conv => whnf
      intro g2
      conv => whnf
      refine ⟨⟨⟨rfl, rfl, trivial⟩, ⟨rfl, trivial⟩, fun k hk => ⟨hk, rfl⟩⟩, ?_⟩
      conv => whnf
      exact ⟨_, ⟨adK, adL, g2, rfl⟩, weak_of (preP_refl _) ⟨rfl, rfl, rfl, trivial⟩ ⟨⟨rfl, rfl, rfl⟩, ⟨rfl, rfl, rfl⟩, ⟨rfl, rfl, rfl⟩, trivial⟩ (List.Sublist.refl _) rfl rfl⟩
  · rintro st ⟨adK, adL, g2, rfl⟩
    conv => whnf
    refine ⟨gf46, fun w2 hw2 => ?_⟩
    have rK := hw2.row ⟨.slice (some adK) g g, 4, 1, (List.replicate g false).map Value.bool⟩ (List.mem_cons_self ..)
    have rL := hw2.row ⟨.slice (some adL) g g, 24, 3, (madeCells #[.int .i64 0, .int .i64 0, .slice none 0 0] (g * 3)).toList⟩ (List.mem_cons_of_mem _ (List.mem_cons_self ..))
    have rj : adK.block ≠ adL.block := by
      have := hw2.rinj
      simp only [List.pairwise_cons, List.mem_singleton, forall_eq] at this
      exact fun h => this.1 adK.block rfl (by simp only [rowB]; rw [h])
    refine fitK 2 (fits_calls t (fun q => S q ∧ q < w.heap.size) w2 g2 adK adL g u _ _ (List.replicate g zeroT) (List.replicate g false) _ hok ⟨hw2.ent 2 _ _ rfl, rK.1, rL.1, fun h => (rK.2 adK.block rfl).2.2 2 rfl h.symm, fun h => (rL.2 adL.block rfl).2.2 2 rfl h.symm, rj⟩ (by simp) (by simp) (hz6.to hw2.same (fun _ h _ => h))
      (ht0.to hw2.same (fun _ h _ => h)) (hu0.to hw2.same (fun _ h _ => h)) (hw2.entN 2 _ _ rfl).2.2 (rK.2 adK.block rfl).2.1 (rL.2 adL.block rfl).2.1) hw2 rfl rfl fun res xs' bs' c6' hx hb hc hfit => ?_
    have triv : ∀ l : List Tp, Cons (List.replicate g zeroT) (List.replicate g false) l := by
      intro l i hi
      rw [List.getElem?_replicate] at hi
      split at hi <;> simp at hi
    rcases res with _ | _
    · conv => whnf
      refine ⟨fun _ => ?_, nofun⟩
      conv => whnf
      intro w4 hw4
      refine failed (.inr fun l hl he => ?_) hw4.bel
      have hl : l.length = g := by simp only at hl; omega
      exact hfit l hl ⟨triv l, he⟩
    · conv => whnf
      refine ⟨nofun, fun _ => ?_⟩
      conv => whnf
      intro w4 hw4
      obtain ⟨r1, r2⟩ := hw4.row ⟨.slice (some adL) g g, 24, 3, c6'⟩ (List.mem_cons_of_mem _ (List.mem_cons_self ..))
      refine ⟨_, rfl, ⟨some xs', ⟨hra, hrb, by simp [hx], ((hfit xs' hx).2 (fun _ _ => rfl)).2⟩, some adL, g, ?_, by omega, ?_⟩, hw4.bel⟩
      · rw [hx]; rfl
      · exact RepKs.ofCells (S := ext S w) (hc.to hw4.same (fun q h _ => .inl h.1)) (r1.cells rfl (ext S w) (fun q hq => .inr (((r2 q hq).1).elim (fun h => h.elim) id))) (fun q h _ => h)
theorem ratLeast_calls : LeastOk 19 := by
  intro S w a b va vb ha hb hna hnb
  have ha' := ha
  have hb' := hb
  obtain ⟨A, ca, rfl, a1, a2, a3⟩ := ha
  obtain ⟨B, cb, rfl, b1, b2, b3⟩ := hb
  refine calls0 tyok mixed [] Try.func19 rfl rfl (by simp) ?_
  conv => whnf
  intro g0
  conv => whnf
  intro g1
  conv => whnf
  refine ⟨gf16, fun w1 hw1 => resN (rmatch_calls S w1 a b _ _ (ha'.to (hw1.samev S) (fun _ h _ => h)) (hb'.to (hw1.samev S) (fun _ h _ => h)) hna hnb) hw1 fun v w2 p2 hv st2 => ?_⟩
  obtain ⟨r, hr, hv⟩ := hv
  rcases r with _ | l
  · have hv : v = _ := hv
    subst hv
    conv => whnf
    intro w3 hw3
    exact ⟨retB (atL_none hr).symm, hw3.bel⟩
  · obtain ⟨D, d, rfl, _, _⟩ := hv
    conv => whnf
    intro w3 hw3
    exact ⟨retB (atL_some hr).symm, hw3.bel⟩

theorem ralike_calls : AlikeOk 21 := by
  intro S w a b va vb ha hb hna hnb
  have ha' := ha
  have hb' := hb
  obtain ⟨A, ca, rfl, a1, a2, a3⟩ := ha
  obtain ⟨B, cb, rfl, b1, b2, b3⟩ := hb
  refine calls0 tyok mixed [] Try.func21 rfl rfl (by simp) ?_
  conv => whnf
  intro g0
  conv => whnf
  intro g1
  conv => whnf
  refine ⟨gf19, fun w1 hw1 => scalK (ratLeast_calls S w1 a b _ _ (ha'.to (hw1.samev S) (fun _ h _ => h)) (hb'.to (hw1.samev S) (fun _ h _ => h)) hna hnb) hw1 ?_⟩
  rcases atL a b with _ | _
  · conv => whnf
    refine ⟨nofun, fun _ => ?_⟩
    conv => whnf
    intro w3 hw3
    exact ⟨rfl, hw3.bel⟩
  · conv => whnf
    refine ⟨fun _ => ?_, nofun⟩
    conv => whnf
    refine ⟨gf19, fun w1 hw1 => scalK (ratLeast_calls S w1 b a _ _ (hb'.to (hw1.samev S) (fun _ h _ => h)) (ha'.to (hw1.samev S) (fun _ h _ => h)) hnb hna) hw1 ?_⟩
    conv => whnf
    intro w3 hw3
    exact ⟨rfl, hw3.bel⟩

theorem sameAll_calls (S : Nat → Prop) (w : World) (l m : List Tp) (A A' : Option Addr) (c c' : Nat) (hl : l.length ≤ LIM) (hm : m.length ≤ LIM) (h : RepKs S w l A 0) (h' : RepKs S w m A' 0) :
    Calls Try.prog 17 #[.slice A l.length c, .slice A' m.length c'] w fun e w' => e = .returned (.bool (cmpL l m == 0)) ∧ Below w.heap.size w w' := by
  unfold LIM at hl hm
  refine calls0 tyok mixed [(6, ([], .pure 0 (.pure 1 (.pure 2 (.take 3 (.pure 4 (.pure 5 (.pure 6 (.take 7 (.fin 8 (.pure 9 .done)))))))))))] Try.func17 rfl rfl (by simp) ?_
  conv => whnf
  refine ⟨fun hb => ?_, fun hb => ?_⟩
  · have hb : ¬ ((l.length : Nat) : Int) = m.length := by simpa using hb
    conv => whnf
    intro w2 hw2
    refine ⟨retB ?_, hw2.bel⟩
    symm
    rw [beq_eq_false_iff_ne]
    intro h0
    rw [(cmpL_zero l m).1 h0] at hb
    exact hb rfl
  have hb : l.length = m.length := by have : ((l.length : Nat) : Int) = m.length := by simpa using hb
                                      omega
  conv => whnf
  refine ⟨fun n st => ∃ i : Nat, i ≤ l.length ∧ n = l.length - i ∧ (cmpL l m == 0) = (cmpL (l.drop i) (m.drop i) == 0) ∧ st = ⟨[(5, .v (.int .i64 i)), (0, .v (.slice A l.length c)), (1, .v (.slice A' m.length c'))], [], [], [], fun _ => False, w⟩,
    ⟨l.length, _, ⟨0, Nat.zero_le _, by simp, by simp, rfl⟩, weak_of (preP_refl _) ⟨rfl, rfl, rfl, trivial⟩ trivial (List.Sublist.refl _) rfl rfl⟩, ?_⟩
  rintro n st ⟨i, hi, hn, hx, rfl⟩
  conv => whnf
  refine ⟨fun hb' => ?_, fun hb' => ?_⟩
  · have hb' := of_decide_eq_true hb'
    have hil : i < l.length := by omega
    have him : i < m.length := by omega
    obtain ⟨ad, B, d, rfl, _, hld, _, _, _, k4⟩ := h.ld (P := Try.prog) tk24 rfl rfl (i := i) (t := l[i]) (by simp [hil])
    obtain ⟨ad', B', d', rfl, _, hld', _, _, _, k4'⟩ := h'.ld (P := Try.prog) tk24 rfl rfl (i := i) (t := m[i]) (by simp [him])
    conv => whnf
    refine ⟨by kernel_rfl, rfl, ?_⟩
    conv => whnf
    refine ⟨ad, rfl, by omega, hb', ?_⟩
    conv => whnf
    refine ⟨_, fun w1 h1 => hld w1 (same_of_below h1.1.below S), ?_⟩
    conv => whnf
    refine ⟨ad', rfl, by omega, by omega, ?_⟩
    conv => whnf
    refine ⟨_, fun w1 h1 => hld' w1 (same_of_below h1.1.below S), ?_⟩
    conv => whnf
    refine ⟨gf30, fun w1 hw1 => scalK (rsame_calls S w1 l[i] m[i] _ _ (k4.to (hw1.samev S) (fun _ h _ => h)) (k4'.to (hw1.samev S) (fun _ h _ => h))) hw1 ?_⟩
    rcases hc : cmpT l[i] m[i] == 0 with _ | _
    · conv => whnf
      refine ⟨fun _ => ?_, nofun⟩
      conv => whnf
      intro w4 hw4
      have hc : cmpT l[i] m[i] ≠ 0 := by simpa using hc
      exact ⟨retB (by rw [hx, cmpL_drop hil him, if_pos hc]; symm; simpa using hc), hw4.bel⟩
    · conv => whnf
      refine ⟨nofun, fun _ => ?_⟩
      conv => whnf
      have hc : cmpT l[i] m[i] = 0 := by simpa using hc
      refine ⟨l.length - (i + 1), _, by omega, ⟨i + 1, hil, rfl, ?_, rfl⟩, weak_of (preP_refl _) ⟨incV (by omega), rfl, rfl, trivial⟩ trivial (List.Sublist.refl _) rfl rfl⟩
      rw [hx, cmpL_drop hil him, if_neg (by simpa using hc)]
  · have hb' := of_decide_eq_false hb'
    conv => whnf
    intro w4 hw4
    refine ⟨retB ?_, hw4.bel⟩
    rw [hx, List.drop_eq_nil_of_le (by omega), List.drop_eq_nil_of_le (by omega)]
    rfl
end Go.Proofs.Ytonhlccjfbfkcaa
