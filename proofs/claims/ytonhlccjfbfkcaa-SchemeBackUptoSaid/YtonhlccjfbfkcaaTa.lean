/- cmp.Compare, cmp.Or, slices.CompareFunc and types.Cmp: what they come to. -/
import Derived.Test.YtonhlccjfbfkcaaTy
namespace Go.Proofs.Ytonhlccjfbfkcaa
open Go.Vc Go.RowKit

def cmpI (a b : Int) : Int := if a < b then -1 else if a > b then 1 else 0
def orL : List Int → Int
  | [] => 0
  | x :: r => if x ≠ 0 then x else orL r
mutual
def cmpT : Tp → Tp → Int
  | .mk k n ks, .mk k' n' ks' => orL [cmpI k k', cmpI n n', cmpI ks.length ks'.length, cmpL ks ks']
def cmpL : List Tp → List Tp → Int
  | [], [] => 0
  | [], _ :: _ => -1
  | _ :: _, [] => 1
  | a :: r, b :: s => if cmpT a b ≠ 0 then cmpT a b else cmpL r s
end

theorem isNaN_calls (w : World) (a : Int) : Calls Try.prog 72 #[.int .i64 a] w fun e w' => e = .returned (.bool false) ∧ Below w.heap.size w w' := by
  refine calls0 tyok mixed [] Try.func72 rfl rfl (by simp) ?_
  conv => whnf
  intro w1 hw
  exact ⟨by simp [den], hw.bel⟩

theorem compare_calls (w : World) (a b : Int) : Calls Try.prog 67 #[.int .i64 a, .int .i64 b] w fun e w' => e = .returned (.int .i64 (cmpI a b)) ∧ Below w.heap.size w w' := by
  refine calls0 tyok mixed [] Try.func67 rfl rfl (by simp) ?_
  conv => whnf
  refine ⟨gf72, fun w1 hw1 => scalK (isNaN_calls _ _) hw1 ?_⟩
  conv => whnf
  refine ⟨gf72, fun w1 hw1 => scalK (isNaN_calls _ _) hw1 ?_⟩
  conv => whnf
  refine ⟨fun h => (by cases h), fun _ => ?_⟩
  conv => whnf
  refine ⟨fun h => (by cases h), fun _ => ?_⟩
  conv => whnf
  refine ⟨fun h => ?_, fun h => ?_⟩
  · conv => whnf
    intro w2 hw
    exact ⟨by simp only [cmpI, if_pos (of_decide_eq_true h)]; rfl, hw.bel⟩
  · conv => whnf
    refine ⟨fun h' => ?_, fun h' => ?_⟩
    · conv => whnf
      intro w2 hw
      exact ⟨by simp only [cmpI, if_neg (of_decide_eq_false h), if_pos (of_decide_eq_true h')]; rfl, hw.bel⟩
    · conv => whnf
      intro w2 hw
      exact ⟨by simp only [cmpI, if_neg (of_decide_eq_false h), if_neg (of_decide_eq_false h')]; rfl, hw.bel⟩

theorem or_calls (S : Nat → Prop) (w : World) (l : List Int) (A : Option Addr) (c : Nat) (hl : l.length ≤ 17592186044416) (hr : Cells S w A (ints l)) :
    Calls Try.prog 66 #[.slice A l.length c] w fun e w' => e = .returned (.int .i64 (orL l)) ∧ Below w.heap.size w w' := by
  refine calls0 tyok mixed [] Try.func66 rfl rfl (by simp) ?_
  conv => whnf
  refine ⟨fun n st => ∃ i : Nat, i ≤ l.length ∧ n = l.length - i ∧ orL l = orL (l.drop i) ∧ st = ⟨[(8, .v (.int .i64 i)), (7, .v (.int .i64 l.length)), (6, .v (.slice A l.length c)), (3, .v (.int .i64 0))], [], [], [], fun _ => False, w⟩, ⟨l.length, _, ⟨0, Nat.zero_le _, by simp, by simp, rfl⟩, weak_of (preP_refl _) ⟨rfl, rfl, rfl, rfl, trivial⟩ trivial (List.Sublist.refl _) rfl rfl⟩, ?_⟩
  rintro n st ⟨i, hi, hn, hx, rfl⟩
  conv => whnf
  refine ⟨fun h => ?_, fun h => ?_⟩
  · have h := of_decide_eq_true h
    have hil : i < l.length := by omega
    have hd : l.drop i = l[i] :: l.drop (i + 1) := by rw [List.drop_eq_getElem_cons hil]
    obtain ⟨ad, rfl, _, hld⟩ := hr.ld1 (P := Try.prog) tk3 rfl (i := i) (v := .int .i64 l[i]) (by simp [hil])
    conv => whnf
    refine ⟨ad, rfl, by omega, h, ?_⟩
    conv => whnf
    intro w1 hw
    refine ⟨_, hld w1 (hw.samev S), ?_⟩
    conv => whnf
    refine ⟨fun h => ?_, fun h => ?_⟩
    · conv => whnf
      intro w2 hw2
      exact ⟨by rw [hx, hd, orL, if_pos (by simpa using h)]; rfl, hw2.bel⟩
    · conv => whnf
      refine ⟨l.length - (i + 1), _, by omega, ⟨i + 1, hil, rfl, ?_, rfl⟩, weak_of (preP_refl _) ⟨incV (by omega), rfl, rfl, rfl, trivial⟩ trivial (List.Sublist.refl _) rfl rfl⟩
      · rw [hx, hd, orL, if_neg (by simpa using h)]
  · have h := of_decide_eq_false h
    conv => whnf
    intro w2 hw2
    have : i = l.length := by omega
    exact ⟨by rw [hx, this]; simp [orL]; rfl, hw2.bel⟩
end Go.Proofs.Ytonhlccjfbfkcaa
