/- types.Right, types.RightScheme; the reference's. -/
import Derived.Test.YtonhlccjfbfkcaaTh
namespace Go.Proofs.Ytonhlccjfbfkcaa
open Go.Vc Go.RowKit

mutual
/-- Is a type right? -/
def rightT : Tp → Bool
  | .mk k n ks => if k = 1 ∨ k = 2 ∨ k = 3 then decide (n = 0) && decide (ks.length = 0) else if k = 4 ∨ k = 5 then decide (n = 0) && decide (ks.length = 2) && rightL ks
    else if k = 6 ∨ k = 7 ∨ k = 8 then decide (0 ≤ n) && decide (ks.length = 0) else false
def rightL : List Tp → Bool
  | [] => true
  | t :: r => rightT t && rightL r
end
theorem knL {A B X Y : Prop} (h : ¬ A) (k : B → Y) : (A → X) ∧ (B → Y) := ⟨fun a => absurd a h, k⟩
theorem knR {A B X Y : Prop} (h : ¬ B) (k : A → X) : (A → X) ∧ (B → Y) := ⟨k, fun a => absurd a h⟩
def RightOk (f : FuncId) (t : Tp) : Prop := ∀ (S : Nat → Prop) (w : World) (v : Value), RepT S w t v → Calls Try.prog f #[v] w (fun e w' => e = .returned (.bool (rightT t)) ∧ Below w.heap.size w w')

theorem right_calls : ∀ t, RightOk 31 t := by
  refine Tp.ind fun k n ks ih => ?_
  intro S w v ht
  obtain ⟨B, d, rfl, b1, b2, b3⟩ := ht.opn
  simp only [Tp.k, Tp.n, Tp.kids] at *
  refine calls0 tyok mixed [] Try.func31 rfl rfl (by simp) ?_
  conv => whnf
  intro g0
  conv => whnf
  by_cases h1 : k = 1 ∨ k = 2 ∨ k = 3
  · have hr : rightT (.mk k n ks) = (decide (n = 0) && decide (ks.length = 0)) := by unfold rightT; rw [if_pos h1]
    rw [hr]
    rcases h1 with rfl | rfl | rfl
    all_goals
      repeat ((first | (refine knL ?_ ?_; (focus (simp; done)); intro _) | (refine knR ?_ ?_; (focus (simp; done)); intro _) | (refine knL ?_ ?_; (focus (simp [*]; done)); intro _) | (refine knR ?_ ?_; (focus (simp [*]; done)); intro _) | fail); conv => whnf)
      refine ⟨fun hn => ?_, fun hn => ?_⟩
      · have hn : n = 0 := eq_of_beq hn
        conv => whnf
        intro w2 hw2
        exact ⟨retB (by simp only [hn, decide_true, Bool.true_and]; rw [Bool.eq_iff_iff]; simp), hw2.bel⟩
      · have hn : n ≠ 0 := by simpa using hn
        conv => whnf
        intro w2 hw2
        exact ⟨retB (by simp [hn]), hw2.bel⟩
  by_cases h2 : k = 4 ∨ k = 5
  · have hr : rightT (.mk k n ks) = (decide (n = 0) && decide (ks.length = 2) && rightL ks) := by unfold rightT; rw [if_neg h1, if_pos h2]
    rw [hr]
    rcases h2 with rfl | rfl
    all_goals
      clear h1
      repeat ((first | (refine knL ?_ ?_; (focus (simp; done)); intro _) | (refine knR ?_ ?_; (focus (simp; done)); intro _) | (refine knL ?_ ?_; (focus (simp [*]; done)); intro _) | (refine knR ?_ ?_; (focus (simp [*]; done)); intro _) | fail); conv => whnf)
      refine ⟨fun hn => ?_, fun hn => ?_⟩
      · have hn : n = 0 := eq_of_beq hn
        conv => whnf
        refine ⟨fun hl => ?_, fun hl => ?_⟩
        · have hl : ((ks.length : Nat) : Int) = 2 := eq_of_beq hl
          obtain ⟨x, y, rfl⟩ : ∃ x y, ks = [x, y] := by
            match ks, hl with
            | [x, y], _ => exact ⟨x, y, rfl⟩
            | [], h => simp at h
            | [_], h => simp at h
            | _ :: _ :: _ :: _, h => simp at h; omega
          obtain ⟨ad, B1, d1, rfl, _, hld1, _, _, _, k1⟩ := b3.ld (P := Try.prog) tk24 rfl rfl (i := 0) (t := x) rfl
          obtain ⟨_, B2, d2, e, _, hld2, _, _, _, k2⟩ := b3.ld (P := Try.prog) tk24 rfl rfl (i := 1) (t := y) rfl
          injection e with e; subst e
          have i1 := ih x (by simp)
          have i2 := ih y (by simp)
          conv => whnf
          refine ⟨ad, rfl, by omega, by simp, ?_⟩
          conv => whnf
          intro w1 hw1
          refine ⟨_, hld1 w1 (hw1.samev S), ?_⟩
          conv => whnf
          refine ⟨gf31, fun w1 hw1 => scalK (i1 S w1 _ (k1.to (hw1.samev S) (fun _ h _ => h))) hw1 ?_⟩
          conv => whnf
          refine ⟨fun hx => ?_, fun hx => ?_⟩
          · have hx : rightT x = true := hx
            conv => whnf
            refine ⟨ad, rfl, by omega, by simp, ?_⟩
            conv => whnf
            intro w1 hw1
            refine ⟨_, hld2 w1 (hw1.samev S), ?_⟩
            conv => whnf
            refine ⟨gf31, fun w1 hw1 => scalK (i2 S w1 _ (k2.to (hw1.samev S) (fun _ h _ => h))) hw1 ?_⟩
            conv => whnf
            intro w2 hw2
            exact ⟨retB (by simp [hn, hx, rightL]), hw2.bel⟩
          · have hx : rightT x = false := by simpa using hx
            conv => whnf
            intro w2 hw2
            exact ⟨retB (by simp [hx, rightL]), hw2.bel⟩
        · have hl : ((ks.length : Nat) : Int) ≠ 2 := by simpa using hl
          have hl' : ks.length ≠ 2 := by omega
          conv => whnf
          intro w2 hw2
          exact ⟨retB (by simp [hl']), hw2.bel⟩
      · have hn : n ≠ 0 := by simpa using hn
        conv => whnf
        intro w2 hw2
        exact ⟨retB (by simp [hn]), hw2.bel⟩
  by_cases h3 : k = 6 ∨ k = 7 ∨ k = 8
  · have hr : rightT (.mk k n ks) = (decide (0 ≤ n) && decide (ks.length = 0)) := by unfold rightT; rw [if_neg h1, if_neg h2, if_pos h3]
    rw [hr]
    rcases h3 with rfl | rfl | rfl
    all_goals
      clear h1 h2
      repeat ((first | (refine knL ?_ ?_; (focus (simp; done)); intro _) | (refine knR ?_ ?_; (focus (simp; done)); intro _) | (refine knL ?_ ?_; (focus (simp [*]; done)); intro _) | (refine knR ?_ ?_; (focus (simp [*]; done)); intro _) | fail); conv => whnf)
      refine ⟨fun hn => ?_, fun hn => ?_⟩
      · have hn : 0 ≤ n := of_decide_eq_true hn
        conv => whnf
        intro w2 hw2
        exact ⟨retB (by simp only [hn, decide_true, Bool.true_and]; rw [Bool.eq_iff_iff]; simp), hw2.bel⟩
      · have hn := of_decide_eq_false hn
        conv => whnf
        intro w2 hw2
        exact ⟨retB (by simp [hn]), hw2.bel⟩
  · have hr : rightT (.mk k n ks) = false := by unfold rightT; rw [if_neg h1, if_neg h2, if_neg h3]
    rw [hr]
    have e1 : k ≠ 1 := by omega
    have e2 : k ≠ 2 := by omega
    have e3 : k ≠ 3 := by omega
    have e4 : k ≠ 4 := by omega
    have e5 : k ≠ 5 := by omega
    have e6 : k ≠ 6 := by omega
    have e7 : k ≠ 7 := by omega
    have e8 : k ≠ 8 := by omega
    clear h1 h2 h3 hr ih
    repeat ((first | (refine knL ?_ ?_; (focus (simp; done)); intro _) | (refine knR ?_ ?_; (focus (simp; done)); intro _) | (refine knL ?_ ?_; (focus (simp [*]; done)); intro _) | (refine knR ?_ ?_; (focus (simp [*]; done)); intro _) | fail); conv => whnf)
    intro w2 hw2
    exact ⟨rfl, hw2.bel⟩
theorem rright_calls : ∀ t, RightOk 9 t := by
  refine Tp.ind fun k n ks ih => ?_
  intro S w v ht
  obtain ⟨B, d, rfl, b1, b2, b3⟩ := ht.opn
  simp only [Tp.k, Tp.n, Tp.kids] at *
  refine calls0 tyok mixed [] Try.func9 rfl rfl (by simp) ?_
  conv => whnf
  intro g0
  conv => whnf
  by_cases h1 : k = 1 ∨ k = 2 ∨ k = 3
  · have hr : rightT (.mk k n ks) = (decide (n = 0) && decide (ks.length = 0)) := by unfold rightT; rw [if_pos h1]
    rw [hr]
    rcases h1 with rfl | rfl | rfl
    all_goals
      repeat ((first | (refine knL ?_ ?_; (focus (simp; done)); intro _) | (refine knR ?_ ?_; (focus (simp; done)); intro _) | (refine knL ?_ ?_; (focus (simp [*]; done)); intro _) | (refine knR ?_ ?_; (focus (simp [*]; done)); intro _) | fail); conv => whnf)
      refine ⟨fun hn => ?_, fun hn => ?_⟩
      · have hn : n = 0 := eq_of_beq hn
        conv => whnf
        intro w2 hw2
        exact ⟨retB (by simp only [hn, decide_true, Bool.true_and]; rw [Bool.eq_iff_iff]; simp), hw2.bel⟩
      · have hn : n ≠ 0 := by simpa using hn
        conv => whnf
        intro w2 hw2
        exact ⟨retB (by simp [hn]), hw2.bel⟩
  by_cases h2 : k = 4 ∨ k = 5
  · have hr : rightT (.mk k n ks) = (decide (n = 0) && decide (ks.length = 2) && rightL ks) := by unfold rightT; rw [if_neg h1, if_pos h2]
    rw [hr]
    rcases h2 with rfl | rfl
    all_goals
      clear h1
      repeat ((first | (refine knL ?_ ?_; (focus (simp; done)); intro _) | (refine knR ?_ ?_; (focus (simp; done)); intro _) | (refine knL ?_ ?_; (focus (simp [*]; done)); intro _) | (refine knR ?_ ?_; (focus (simp [*]; done)); intro _) | fail); conv => whnf)
      refine ⟨fun hn => ?_, fun hn => ?_⟩
      · have hn : n = 0 := eq_of_beq hn
        conv => whnf
        refine ⟨fun hl => ?_, fun hl => ?_⟩
        · have hl : ((ks.length : Nat) : Int) = 2 := eq_of_beq hl
          obtain ⟨x, y, rfl⟩ : ∃ x y, ks = [x, y] := by
            match ks, hl with
            | [x, y], _ => exact ⟨x, y, rfl⟩
            | [], h => simp at h
            | [_], h => simp at h
            | _ :: _ :: _ :: _, h => simp at h; omega
          obtain ⟨ad, B1, d1, rfl, _, hld1, _, _, _, k1⟩ := b3.ld (P := Try.prog) tk24 rfl rfl (i := 0) (t := x) rfl
          obtain ⟨_, B2, d2, e, _, hld2, _, _, _, k2⟩ := b3.ld (P := Try.prog) tk24 rfl rfl (i := 1) (t := y) rfl
          injection e with e; subst e
          have i1 := ih x (by simp)
          have i2 := ih y (by simp)
          conv => whnf
          refine ⟨ad, rfl, by omega, by simp, ?_⟩
          conv => whnf
          intro w1 hw1
          refine ⟨_, hld1 w1 (hw1.samev S), ?_⟩
          conv => whnf
          refine ⟨gf9, fun w1 hw1 => scalK (i1 S w1 _ (k1.to (hw1.samev S) (fun _ h _ => h))) hw1 ?_⟩
          conv => whnf
          refine ⟨fun hx => ?_, fun hx => ?_⟩
          · have hx : rightT x = true := hx
            conv => whnf
            refine ⟨ad, rfl, by omega, by simp, ?_⟩
            conv => whnf
            intro w1 hw1
            refine ⟨_, hld2 w1 (hw1.samev S), ?_⟩
            conv => whnf
            refine ⟨gf9, fun w1 hw1 => scalK (i2 S w1 _ (k2.to (hw1.samev S) (fun _ h _ => h))) hw1 ?_⟩
            conv => whnf
            intro w2 hw2
            exact ⟨retB (by simp [hn, hx, rightL]), hw2.bel⟩
          · have hx : rightT x = false := by simpa using hx
            conv => whnf
            intro w2 hw2
            exact ⟨retB (by simp [hx, rightL]), hw2.bel⟩
        · have hl : ((ks.length : Nat) : Int) ≠ 2 := by simpa using hl
          have hl' : ks.length ≠ 2 := by omega
          conv => whnf
          intro w2 hw2
          exact ⟨retB (by simp [hl']), hw2.bel⟩
      · have hn : n ≠ 0 := by simpa using hn
        conv => whnf
        intro w2 hw2
        exact ⟨retB (by simp [hn]), hw2.bel⟩
  by_cases h3 : k = 6 ∨ k = 7 ∨ k = 8
  · have hr : rightT (.mk k n ks) = (decide (0 ≤ n) && decide (ks.length = 0)) := by unfold rightT; rw [if_neg h1, if_neg h2, if_pos h3]
    rw [hr]
    rcases h3 with rfl | rfl | rfl
    all_goals
      clear h1 h2
      repeat ((first | (refine knL ?_ ?_; (focus (simp; done)); intro _) | (refine knR ?_ ?_; (focus (simp; done)); intro _) | (refine knL ?_ ?_; (focus (simp [*]; done)); intro _) | (refine knR ?_ ?_; (focus (simp [*]; done)); intro _) | fail); conv => whnf)
      refine ⟨fun hn => ?_, fun hn => ?_⟩
      · have hn : 0 ≤ n := of_decide_eq_true hn
        conv => whnf
        intro w2 hw2
        exact ⟨retB (by simp only [hn, decide_true, Bool.true_and]; rw [Bool.eq_iff_iff]; simp), hw2.bel⟩
      · have hn := of_decide_eq_false hn
        conv => whnf
        intro w2 hw2
        exact ⟨retB (by simp [hn]), hw2.bel⟩
  · have hr : rightT (.mk k n ks) = false := by unfold rightT; rw [if_neg h1, if_neg h2, if_neg h3]
    rw [hr]
    have e1 : k ≠ 1 := by omega
    have e2 : k ≠ 2 := by omega
    have e3 : k ≠ 3 := by omega
    have e4 : k ≠ 4 := by omega
    have e5 : k ≠ 5 := by omega
    have e6 : k ≠ 6 := by omega
    have e7 : k ≠ 7 := by omega
    have e8 : k ≠ 8 := by omega
    clear h1 h2 h3 hr ih
    repeat ((first | (refine knL ?_ ?_; (focus (simp; done)); intro _) | (refine knR ?_ ?_; (focus (simp; done)); intro _) | (refine knL ?_ ?_; (focus (simp [*]; done)); intro _) | (refine knR ?_ ?_; (focus (simp [*]; done)); intro _) | fail); conv => whnf)
    intro w2 hw2
    exact ⟨rfl, hw2.bel⟩
end Go.Proofs.Ytonhlccjfbfkcaa
