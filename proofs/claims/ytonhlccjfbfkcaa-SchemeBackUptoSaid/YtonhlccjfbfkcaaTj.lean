/- The reference's number, Cmp, Same, In; the law's in. -/
import Derived.Test.YtonhlccjfbfkcaaTi
namespace Go.Proofs.Ytonhlccjfbfkcaa
open Go.Vc Go.RowKit

theorem number_calls (w : World) (a b : Int) : Calls Try.prog 65 #[.int .i64 a, .int .i64 b] w fun e w' => e = .returned (.int .i64 (cmpI a b)) ∧ Below w.heap.size w w' := by
  refine calls0 tyok mixed [] Try.func65 rfl rfl (by simp) ?_
  conv => whnf
  refine ⟨fun h => ?_, fun h => ?_⟩
  · have h := of_decide_eq_true h
    conv => whnf
    intro w2 hw2
    exact ⟨retI (by simp only [cmpI, if_pos h]), hw2.bel⟩
  · have h := of_decide_eq_false h
    conv => whnf
    refine ⟨fun h' => ?_, fun h' => ?_⟩
    · have h' := of_decide_eq_true h'
      conv => whnf
      intro w2 hw2
      exact ⟨retI (by simp only [cmpI, if_neg h, if_pos h']), hw2.bel⟩
    · have h' := of_decide_eq_false h'
      conv => whnf
      intro w2 hw2
      exact ⟨retI (by simp only [cmpI, if_neg h, if_neg h']), hw2.bel⟩

theorem cmpI_zero {a b : Int} : cmpI a b = 0 ↔ a = b := by
  unfold cmpI; split <;> (try split) <;> omega

def RCmpOk (t : Tp) : Prop := ∀ (S : Nat → Prop) (w : World) (u : Tp) (v v' : Value), RepT S w t v → RepT S w u v' → Calls Try.prog 51 #[v, v'] w fun e w' => e = .returned (.int .i64 (cmpT t u)) ∧ Below w.heap.size w w'

theorem rcmp_calls : ∀ t, RCmpOk t := by
  refine Tp.ind fun k n ks ih => ?_
  intro S w u v v' hv hu
  obtain ⟨k', n', ks'⟩ := u
  obtain ⟨A, c, rfl, a1, a2, a3⟩ := hv.opn
  obtain ⟨A', c', rfl, b1, b2, b3⟩ := hu.opn
  simp only [Tp.k, Tp.n, Tp.kids] at *
  have a2' := a2
  have b2' := b2
  unfold LIM at a2' b2'
  have hc : cmpT (.mk k n ks) (.mk k' n' ks') = orL [cmpI k k', cmpI n n', cmpI ks.length ks'.length, cmpL ks ks'] := by rw [cmpT]
  rw [hc]
  refine calls0 tyok mixed [(13, ([0, 1], .pure 0 (.take 1 (.pure 2 (.pure 3 (.take 4 (.pure 5 (.take 6 (.pure 7 (.pure 8 (.take 9 (.run 10 (.pure 11 .done)))))))))))))] Try.func51 rfl rfl (by simp) ?_
  conv => whnf
  intro g0
  conv => whnf
  intro g1
  conv => whnf
  refine ⟨gf65, fun w1 hw1 => scalK (number_calls _ _ _) hw1 ?_⟩
  conv => whnf
  refine ⟨fun h => ?_, fun h => ?_⟩
  · have h : cmpI k k' ≠ 0 := by simpa using h
    conv => whnf
    intro w2 hw2
    exact ⟨retI (by simp [orL, h]), hw2.bel⟩
  have h1 : cmpI k k' = 0 := by simpa using h
  conv => whnf
  refine ⟨gf65, fun w1 hw1 => scalK (number_calls _ _ _) hw1 ?_⟩
  conv => whnf
  refine ⟨fun h => ?_, fun h => ?_⟩
  · have h : cmpI n n' ≠ 0 := by simpa using h
    conv => whnf
    intro w2 hw2
    exact ⟨retI (by simp [orL, h, h1]), hw2.bel⟩
  have h2 : cmpI n n' = 0 := by simpa using h
  conv => whnf
  refine ⟨gf65, fun w1 hw1 => scalK (number_calls _ _ _) hw1 ?_⟩
  conv => whnf
  refine ⟨fun h => ?_, fun h => ?_⟩
  · have h : cmpI ks.length ks'.length ≠ 0 := by simpa using h
    conv => whnf
    intro w2 hw2
    exact ⟨retI (by simp [orL, h, h1, h2]), hw2.bel⟩
  have h3 : cmpI ks.length ks'.length = 0 := by simpa using h
  have hlen : ks.length = ks'.length := by have := cmpI_zero.1 h3; omega
  have ho : orL [cmpI k k', cmpI n n', cmpI ks.length ks'.length, cmpL ks ks'] = cmpL ks ks' := by simp [orL, h1, h2, h3]; exact fun h => h.symm
  rw [ho]
  clear ho hc
  conv => whnf
  refine ⟨fun m st => ∃ i : Nat, i ≤ ks.length ∧ m = ks.length - i ∧ cmpL ks ks' = cmpL (ks.drop i) (ks'.drop i) ∧ st = ⟨[(8, .v (.int .i64 i)), (2, .own 0 0), (3, .own 1 0)], [g0, g1],
      [(1, ([.v (.int .i64 k'), .v (.int .i64 n'), .v (.slice A' ks'.length c')], 24)), (0, ([.v (.int .i64 k), .v (.int .i64 n), .v (.slice A ks.length c)], 24))], [], fun _ => False, w⟩,
    ⟨ks.length, _, ⟨0, Nat.zero_le _, by simp, by simp, rfl⟩, weak_of (preP_refl _) ⟨rfl, rfl, rfl, trivial⟩ ⟨⟨rfl, rfl, rfl⟩, ⟨rfl, rfl, rfl⟩, trivial⟩ (List.Sublist.refl _) rfl rfl⟩, ?_⟩
  rintro m st ⟨i, hi, hm, hx, rfl⟩
  conv => whnf
  refine ⟨fun hb => ?_, fun hb => ?_⟩
  · have hb := of_decide_eq_true hb
    have hil : i < ks.length := by omega
    have him : i < ks'.length := by omega
    obtain ⟨ad, B, d, rfl, _, hld, _, _, _, k4⟩ := a3.ld (P := Try.prog) tk24 rfl rfl (i := i) (t := ks[i]) (by simp [hil])
    obtain ⟨ad', B', d', rfl, _, hld', _, _, _, k4'⟩ := b3.ld (P := Try.prog) tk24 rfl rfl (i := i) (t := ks'[i]) (by simp [him])
    conv => whnf
    refine ⟨by kernel_rfl, rfl, ?_⟩
    conv => whnf
    refine ⟨ad, rfl, by omega, hb, ?_⟩
    conv => whnf
    refine ⟨_, fun w1 h1 => hld w1 (same_of_below h1.1.below S), ?_⟩
    conv => whnf
    refine ⟨ad', rfl, by omega, by omega, ?_⟩
    conv => whnf
    refine ⟨_, fun w1 h1 => hld' w1 (same_of_below h1.1.below S), ?_⟩
    conv => whnf
    refine ⟨gf51, fun w1 hw1 => scalK (ih ks[i] (by simp) S w1 ks'[i] _ _ (k4.to (hw1.samev S) (fun _ h _ => h)) (k4'.to (hw1.samev S) (fun _ h _ => h))) hw1 ?_⟩
    conv => whnf
    refine ⟨⟨⟨rfl, rfl, trivial⟩, ⟨rfl, rfl, trivial⟩, fun k hk => ⟨hk, rfl⟩⟩, ?_⟩
    conv => whnf
    refine ⟨fun he => ?_, fun he => ?_⟩
    · have he : cmpT ks[i] ks'[i] ≠ 0 := by simpa using he
      conv => whnf
      intro w4 hw4
      refine ⟨retI ?_, hw4.bel⟩
      rw [hx, cmpL_drop hil him, if_pos he]
    · have he : cmpT ks[i] ks'[i] = 0 := by simpa using he
      conv => whnf
      refine ⟨ks.length - (i + 1), _, by omega, ⟨i + 1, hil, rfl, ?_, rfl⟩, weak_of (preP_refl _) ⟨incV (by omega), rfl, rfl, trivial⟩ ⟨⟨rfl, rfl, rfl⟩, ⟨rfl, rfl, rfl⟩, trivial⟩ (List.Sublist.refl _) rfl rfl⟩
      rw [hx, cmpL_drop hil him, if_neg (by simpa using he)]
  · have hb := of_decide_eq_false hb
    conv => whnf
    intro w4 hw4
    refine ⟨retI ?_, hw4.bel⟩
    rw [hx, List.drop_eq_nil_of_le (by omega), List.drop_eq_nil_of_le (by omega)]
    rfl

theorem rsame_calls (S : Nat → Prop) (w : World) (t u : Tp) (v v' : Value) (hv : RepT S w t v) (hu : RepT S w u v') : Calls Try.prog 30 #[v, v'] w fun e w' => e = .returned (.bool (cmpT t u == 0)) ∧ Below w.heap.size w w' := by
  obtain ⟨A, c, rfl, a1, a2, a3⟩ := hv.opn
  obtain ⟨A', c', rfl, b1, b2, b3⟩ := hu.opn
  refine calls0 tyok mixed [] Try.func30 rfl rfl (by simp) ?_
  conv => whnf
  intro g0
  conv => whnf
  intro g1
  conv => whnf
  refine ⟨gf51, fun w1 hw1 => scalK (rcmp_calls t S w1 u _ _ (hv.to (hw1.samev S) (fun _ h _ => h)) (hu.to (hw1.samev S) (fun _ h _ => h))) hw1 ?_⟩
  conv => whnf
  intro w2 hw2
  exact ⟨retB rfl, hw2.bel⟩

def InOk (f : FuncId) : Prop := ∀ (S : Nat → Prop) (w : World) (A : Option Addr) (c : Nat) (l : List Int) (x : Int), l.length ≤ 17592186044416 → Cells S w A (ints l) →
    Calls Try.prog f #[.slice A l.length c, .int .i64 x] w (fun e w' => e = .returned (.bool (decide (x ∈ l))) ∧ Below w.heap.size w w')
theorem rin_calls : InOk 69 := by
  intro S w A c l x hl hr
  refine calls0 tyok mixed [] Try.func69 rfl rfl (by simp) ?_
  conv => whnf
  refine ⟨fun n st => ∃ i : Nat, i ≤ l.length ∧ n = l.length - i ∧ (x ∈ l ↔ x ∈ l.drop i) ∧ st = ⟨[(5, .v (.int .i64 i)), (0, .v (.slice A l.length c)), (1, .v (.int .i64 x))], [], [], [], fun _ => False, w⟩, ⟨l.length, _, ⟨0, Nat.zero_le _, by simp, by simp, rfl⟩, weak_of (preP_refl _) ⟨rfl, rfl, rfl, trivial⟩ trivial (List.Sublist.refl _) rfl rfl⟩, ?_⟩
  rintro n st ⟨i, hi, hn, hx, rfl⟩
  conv => whnf
  refine ⟨fun h => ?_, fun h => ?_⟩
  · have h := of_decide_eq_true h
    have hil : i < l.length := by omega
    have hd : l.drop i = l[i] :: l.drop (i + 1) := by rw [List.drop_eq_getElem_cons hil]
    obtain ⟨ad, rfl, _, hld⟩ := hr.ld1 (P := Try.prog) tk3 rfl (i := i) (v := .int .i64 l[i]) (by simp [hil])
    conv => whnf
    refine ⟨ad, rfl, by omega, h, ?_⟩
    conv => whnf
    intro w1 hw
    refine ⟨_, hld w1 (hw.samev S), ?_⟩
    conv => whnf
    refine ⟨fun h => ?_, fun h => ?_⟩
    · have h : l[i] = x := eq_of_beq h
      conv => whnf
      intro w2 hw2
      exact ⟨retB (by symm; exact decide_eq_true (hx.2 (by rw [hd, h]; simp))), hw2.bel⟩
    · have h : l[i] ≠ x := by simpa using h
      conv => whnf
      refine ⟨l.length - (i + 1), _, by omega, ⟨i + 1, hil, rfl, ?_, rfl⟩, weak_of (preP_refl _) ⟨incV (by omega), rfl, rfl, trivial⟩ trivial (List.Sublist.refl _) rfl rfl⟩
      rw [hx, hd, List.mem_cons]; exact ⟨fun h' => h'.resolve_left (Ne.symm h), .inr⟩
  · have h := of_decide_eq_false h
    conv => whnf
    intro w2 hw2
    have : i = l.length := by omega
    exact ⟨retB (by symm; apply decide_eq_false; rw [hx, this]; simp), hw2.bel⟩
theorem lin_calls : InOk 13 := by
  intro S w A c l x hl hr
  refine calls0 tyok mixed [] Try.func13 rfl rfl (by simp) ?_
  conv => whnf
  refine ⟨fun n st => ∃ i : Nat, i ≤ l.length ∧ n = l.length - i ∧ (x ∈ l ↔ x ∈ l.drop i) ∧ st = ⟨[(5, .v (.int .i64 i)), (0, .v (.slice A l.length c)), (1, .v (.int .i64 x))], [], [], [], fun _ => False, w⟩, ⟨l.length, _, ⟨0, Nat.zero_le _, by simp, by simp, rfl⟩, weak_of (preP_refl _) ⟨rfl, rfl, rfl, trivial⟩ trivial (List.Sublist.refl _) rfl rfl⟩, ?_⟩
  rintro n st ⟨i, hi, hn, hx, rfl⟩
  conv => whnf
  refine ⟨fun h => ?_, fun h => ?_⟩
  · have h := of_decide_eq_true h
    have hil : i < l.length := by omega
    have hd : l.drop i = l[i] :: l.drop (i + 1) := by rw [List.drop_eq_getElem_cons hil]
    obtain ⟨ad, rfl, _, hld⟩ := hr.ld1 (P := Try.prog) tk3 rfl (i := i) (v := .int .i64 l[i]) (by simp [hil])
    conv => whnf
    refine ⟨ad, rfl, by omega, h, ?_⟩
    conv => whnf
    intro w1 hw
    refine ⟨_, hld w1 (hw.samev S), ?_⟩
    conv => whnf
    refine ⟨fun h => ?_, fun h => ?_⟩
    · have h : l[i] = x := eq_of_beq h
      conv => whnf
      intro w2 hw2
      exact ⟨retB (by symm; exact decide_eq_true (hx.2 (by rw [hd, h]; simp))), hw2.bel⟩
    · have h : l[i] ≠ x := by simpa using h
      conv => whnf
      refine ⟨l.length - (i + 1), _, by omega, ⟨i + 1, hil, rfl, ?_, rfl⟩, weak_of (preP_refl _) ⟨incV (by omega), rfl, rfl, trivial⟩ trivial (List.Sublist.refl _) rfl rfl⟩
      rw [hx, hd, List.mem_cons]; exact ⟨fun h' => h'.resolve_left (Ne.symm h), .inr⟩
  · have h := of_decide_eq_false h
    conv => whnf
    intro w2 hw2
    have : i = l.length := by omega
    exact ⟨retB (by symm; apply decide_eq_false; rw [hx, this]; simp), hw2.bel⟩
end Go.Proofs.Ytonhlccjfbfkcaa
