/- slices.CompareFunc and types.Cmp, types.Same, types.SameScheme: what they come to. -/
import Derived.Test.YtonhlccjfbfkcaaTa
namespace Go.Proofs.Ytonhlccjfbfkcaa
open Go.Vc Go.RowKit

def CmpOk (t : Tp) : Prop := ∀ (S : Nat → Prop) (w : World) (u : Tp) (v v' : Value), RepT S w t v → RepT S w u v' → Calls Try.prog 53 #[v, v'] w fun e w' => e = .returned (.int .i64 (cmpT t u)) ∧ Below w.heap.size w w'

theorem cmpL_drop {l m : List Tp} {i : Nat} (h : i < l.length) (h' : i < m.length) : cmpL (l.drop i) (m.drop i) = if cmpT l[i] m[i] ≠ 0 then cmpT l[i] m[i] else cmpL (l.drop (i + 1)) (m.drop (i + 1)) := by
  rw [List.drop_eq_getElem_cons h, List.drop_eq_getElem_cons h', cmpL]

theorem compareFunc_calls (l m : List Tp) (ih : ∀ t ∈ l, CmpOk t) (S : Nat → Prop) (w : World) (A A' : Option Addr) (c c' : Nat) (hl : l.length ≤ LIM) (_hm : m.length ≤ LIM) (h : RepKs S w l A 0) (h' : RepKs S w m A' 0) :
    Calls Try.prog 68 #[.slice A l.length c, .slice A' m.length c', .func (.func 53) #[] #[]] w fun e w' => e = .returned (.int .i64 (cmpL l m)) ∧ Below w.heap.size w w' := by
  unfold LIM at hl
  refine calls0 tyok mixed [] Try.func68 rfl rfl (by simp) ?_
  conv => whnf
  refine ⟨fun n st => ∃ i : Nat, i ≤ l.length ∧ n = l.length - i ∧ i ≤ m.length ∧ cmpL l m = cmpL (l.drop i) (m.drop i) ∧ st = ⟨[(13, .v (.int .i64 i)), (12, .v (.int .i64 l.length)), (11, .v (.slice A l.length c)), (0, .v (.slice A l.length c)), (1, .v (.slice A' m.length c')), (2, .v (.func (.func 53) #[] #[]))], [], [], [], fun _ => False, w⟩,
    ⟨l.length, _, ⟨0, Nat.zero_le _, by simp, Nat.zero_le _, by simp, rfl⟩, weak_of (preP_refl _) ⟨rfl, rfl, rfl, rfl, rfl, rfl, trivial⟩ trivial (List.Sublist.refl _) rfl rfl⟩, ?_⟩
  rintro n st ⟨i, hi, hn, him, hx, rfl⟩
  conv => whnf
  refine ⟨fun hb => ?_, fun hb => ?_⟩
  · have hb := of_decide_eq_true hb
    have hil : i < l.length := by omega
    obtain ⟨ad, B, d, rfl, hS, hld, k1, k2, k3, k4⟩ := h.ld (P := Try.prog) tk24 rfl rfl (i := i) (t := l[i]) (by simp [hil])
    conv => whnf
    refine ⟨ad, rfl, by omega, hb, ?_⟩
    conv => whnf
    intro w1 hw
    refine ⟨_, hld w1 (hw.samev S), ?_⟩
    conv => whnf
    intro g0
    conv => whnf
    refine ⟨fun hc => ?_, fun hc => ?_⟩
    · have hc := of_decide_eq_true hc
      have him' : i = m.length := by omega
      conv => whnf
      intro w2 hw2
      refine ⟨retI ?_, hw2.bel⟩
      rw [hx, List.drop_eq_getElem_cons hil, List.drop_eq_nil_of_le (show m.length ≤ i by omega)]
      rfl
    · have hc := of_decide_eq_false hc
      have him' : i < m.length := by omega
      obtain ⟨ad', B', d', rfl, hS', hld', k1', k2', k3', k4'⟩ := h'.ld (P := Try.prog) tk24 rfl rfl (i := i) (t := m[i]) (by simp [him'])
      conv => whnf
      refine ⟨ad', rfl, by omega, by omega, ?_⟩
      conv => whnf
      intro w2 hw2
      refine ⟨_, hld' w2 (hw2.samev S), ?_⟩
      conv => whnf
      intro g1
      conv => whnf
      refine ⟨gf53, fun w3 hw3 => scalK (ih l[i] (by simp) S w3 m[i] _ _ (k4.to (hw3.samev S) (fun _ h _ => h)) (k4'.to (hw3.samev S) (fun _ h _ => h))) hw3 ?_⟩
      conv => whnf
      refine ⟨fun he => ?_, fun he => ?_⟩
      · conv => whnf
        intro w4 hw4
        refine ⟨retI ?_, hw4.bel⟩
        rw [hx, cmpL_drop hil him', if_pos (by simpa using he)]
      · conv => whnf
        refine ⟨l.length - (i + 1), _, by omega, ⟨i + 1, hil, rfl, him', ?_, rfl⟩, weak_of trivial ⟨incV (by omega), rfl, rfl, rfl, rfl, rfl, trivial⟩ trivial (List.Sublist.refl _) rfl rfl⟩
        rw [hx, cmpL_drop hil him', if_neg (by simpa using he)]
  · have hb := of_decide_eq_false hb
    have hil : i = l.length := by omega
    have e1 : l.drop i = [] := by rw [hil]; simp
    rw [e1] at hx
    conv => whnf
    refine ⟨fun hc => ?_, fun hc => ?_⟩
    · have hc := of_decide_eq_true hc
      conv => whnf
      intro w4 hw4
      refine ⟨retI ?_, hw4.bel⟩
      rw [hx, List.drop_eq_getElem_cons (show i < m.length by omega)]
      rfl
    · have hc := of_decide_eq_false hc
      conv => whnf
      intro w4 hw4
      refine ⟨retI ?_, hw4.bel⟩
      have e2 : m.drop i = [] := List.drop_eq_nil_of_le (by omega)
      rw [hx, e2]
      rfl

theorem cmp_calls : ∀ t, CmpOk t := by
  refine Tp.ind fun k n ks ih => ?_
  intro S w u v v' hv hu
  obtain ⟨k', n', ks'⟩ := u
  obtain ⟨A, c, rfl, a1, a2, a3⟩ := hv.opn
  obtain ⟨A', c', rfl, b1, b2, b3⟩ := hu.opn
  simp only [Tp.k, Tp.n, Tp.kids] at *
  have a2' := a2
  have b2' := b2
  unfold LIM at a2' b2'
  refine calls0 tyok mixed [(1, ([0, 1], .pure 0 (.take 1 (.pure 2 (.take 3 (.pure 5 (.take 6 (.pure 7 (.take 8 (.pure 10 (.take 11 (.pure 12 (.pure 13 (.take 14 (.pure 15 (.pure 17 (.take 18 (.pure 19 (.take 20 (.run 4 (.run 9 (.run 16 (.run 21 (.run 22 (.run 23 (.pure 24 .done))))))))))))))))))))))))))] Try.func53 rfl rfl (by simp) ?_
  conv => whnf
  intro g0
  conv => whnf
  intro g1
  conv => whnf
  refine ⟨by kernel_rfl, rfl, ?_⟩
  conv => whnf
  refine ⟨gf67, fun w1 hw1 => scalK (compare_calls _ _ _) hw1 ?_⟩
  conv => whnf
  refine ⟨⟨preP_refl _, ⟨rfl, rfl, trivial⟩, fun k hk => ⟨hk, rfl⟩⟩, ?_⟩
  conv => whnf
  refine ⟨gf67, fun w1 hw1 => scalK (compare_calls _ _ _) hw1 ?_⟩
  conv => whnf
  refine ⟨⟨preP_refl _, ⟨rfl, rfl, trivial⟩, fun k hk => ⟨hk, rfl⟩⟩, ?_⟩
  conv => whnf
  refine ⟨gf67, fun w1 hw1 => scalK (compare_calls _ _ _) hw1 ?_⟩
  conv => whnf
  refine ⟨⟨preP_refl _, ⟨rfl, rfl, trivial⟩, fun k hk => ⟨hk, rfl⟩⟩, ?_⟩
  conv => whnf
  refine ⟨gf68, fun w1 hw1 => scalK (compareFunc_calls ks ks' ih S w1 A A' c c' a2 b2 (a3.to (hw1.samev S) (fun _ h _ => h)) (b3.to (hw1.samev S) (fun _ h _ => h))) hw1 ?_⟩
  conv => whnf
  refine ⟨⟨preP_refl _, ⟨rfl, rfl, trivial⟩, fun k hk => ⟨hk, rfl⟩⟩, ?_⟩
  conv => whnf
  intro g2
  conv => whnf
  refine ⟨⟨⟨rfl, rfl, trivial⟩, ⟨rfl, rfl, trivial⟩, fun k hk => ⟨hk, rfl⟩⟩, ?_⟩
  conv => whnf
  refine ⟨gf66, fun w1 hw1 => scalK (or_calls _ w1 [cmpI k k', cmpI n n', cmpI ks.length ks'.length, cmpL ks ks'] _ 4 (by simp) (hw1.own (i := 2) rfl)) hw1 ?_⟩
  conv => whnf
  refine ⟨⟨⟨rfl, rfl, trivial⟩, ⟨rfl, rfl, trivial⟩, fun k hk => ⟨hk, rfl⟩⟩, ?_⟩
  conv => whnf
  intro w2 hw2
  exact ⟨retI (by rw [cmpT]), hw2.bel⟩

theorem same_calls (S : Nat → Prop) (w : World) (t u : Tp) (v v' : Value) (hv : RepT S w t v) (hu : RepT S w u v') : Calls Try.prog 33 #[v, v'] w fun e w' => e = .returned (.bool (cmpT t u == 0)) ∧ Below w.heap.size w w' := by
  obtain ⟨A, c, rfl, a1, a2, a3⟩ := hv.opn
  obtain ⟨A', c', rfl, b1, b2, b3⟩ := hu.opn
  refine calls0 tyok mixed [] Try.func33 rfl rfl (by simp) ?_
  conv => whnf
  intro g0
  conv => whnf
  intro g1
  conv => whnf
  refine ⟨gf53, fun w1 hw1 => scalK (cmp_calls t S w1 u _ _ (hv.to (hw1.samev S) (fun _ h _ => h)) (hu.to (hw1.samev S) (fun _ h _ => h))) hw1 ?_⟩
  conv => whnf
  intro w2 hw2
  exact ⟨retB rfl, hw2.bel⟩
end Go.Proofs.Ytonhlccjfbfkcaa
