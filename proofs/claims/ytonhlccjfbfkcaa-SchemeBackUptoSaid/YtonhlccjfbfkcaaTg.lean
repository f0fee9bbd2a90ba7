/- scheme.gens, scheme.Generalise. -/
import Derived.Test.YtonhlccjfbfkcaaTf
namespace Go.Proofs.Ytonhlccjfbfkcaa
open Go.Vc Go.RowKit

/-- k generic variables, from n on. -/
def genL (n : Int) (k : Nat) : List Tp := (List.range k).map fun i : Nat => .mk 8 (n + (i : Int)) []
def genC (n : Int) (k : Nat) : List Value := (List.range k).flatMap fun i : Nat => [.int .i64 8, .int .i64 (n + (i : Int)), .slice none 0 0]
theorem genL_length (n : Int) (k : Nat) : (genL n k).length = k := by simp [genL]
theorem genC_flat (S : Nat → Prop) (w : World) (n : Int) : ∀ k, RepFlat S w (genL n k) (genC n k)
  | 0 => rfl
  | k + 1 => by
    have h := genC_flat S w n k
    unfold genL genC at *
    rw [List.range_succ, List.map_append, List.flatMap_append]
    refine h.app (RepFlat.one ?_)
    have := RepT.mk' (t := .mk 8 (n + (k : Int)) []) (S := S) (w := w) (A := none) (c := 0) (by simp [Tp.kids]) (by simp [Tp.kids]) (by simp [Tp.kids, RepKs])
    exact this

theorem sgens_calls (w : World) (n : Int) (k : Nat) (h0 : 0 ≤ n) (hn : n ≤ 1152921504606846976) (hk : k ≤ LIM) :
    Calls Try.prog 43 #[.int .i64 n, .int .i64 k] w (Res w (OwnT w k (genC n k))) := by
  unfold LIM at hk
  refine calls0 tyok mixed [] Try.func43 rfl rfl (by simp) ?_
  conv => whnf
  refine ⟨fun m st => ∃ (i : Nat) (A : Option Addr) (c : Nat), i ≤ k ∧ m = k - i ∧ st = ⟨[(8, .v (.int .i64 i)), (7, .v (.int .i64 k)), (5, .v (.slice A i c)), (0, .v (.int .i64 n)), (1, .v (.int .i64 k))], [], [], [⟨.slice A i c, 24, 3, genC n i⟩], fun _ => False, w⟩,
    ⟨k, _, ⟨0, none, 0, Nat.zero_le _, by simp, rfl⟩, Weak.trans (weak_nil 24 3) (weak_of (preP_refl _) ⟨rfl, rfl, rfl, rfl, rfl, trivial⟩ trivial (List.Sublist.refl _) rfl rfl)⟩, ?_⟩
  rintro m st ⟨i, A, c, hi, hm, rfl⟩
  conv => whnf
  refine ⟨fun h => ?_, fun h => ?_⟩
  · have h := of_decide_eq_true h
    have hik : i < k := by omega
    have hw : IntKind.i64.wrap (n + (i : Int)) = n + (i : Int) := Go.Vc.wrap_small (by omega) (by omega)
    conv => whnf
    rw [hw]
    intro g
    conv => whnf
    refine ⟨nofun, fun w2 hw2 => appendK (b := ⟨w, fun _ => False⟩) tyok (t := 22) rfl rfl rfl rfl (by decide) (by decide) hw2 0 rfl rfl (m := 1) (d := 1) (ys := [.int .i64 8, .int .i64 (n + (i : Int)), .slice none 0 0]) rfl (S := fun _ => True) rfl (hw2.own (i := 0) rfl) (by simp [Value.oneCell']) (by show (i + 1) * 40 ≤ _; omega) fun A' c' => ?_⟩
    conv => whnf
    refine ⟨k - (i + 1), _, by omega, ⟨i + 1, A', c', hik, rfl, rfl⟩, weak_of (by trivial) ⟨incV (by omega), rfl, rfl, rfl, rfl, trivial⟩ (by trivial) ?_ rfl rfl⟩
    have e : genC n (i + 1) = genC n i ++ [.int .i64 8, .int .i64 (n + (i : Int)), .slice none 0 0] := by
      unfold genC; rw [List.range_succ, List.flatMap_append]; simp
    rw [e]
    exact List.Sublist.refl _
  · have h := of_decide_eq_false h
    have hik : i = k := by omega
    subst hik
    conv => whnf
    intro w4 hw4
    obtain ⟨r1, r2⟩ := hw4.row _ (List.mem_singleton.2 rfl)
    exact ⟨_, rfl, ⟨A, c, rfl, r1, fun q hq => ((r2 q hq).1).elim (fun h => h.elim) id⟩, hw4.bel⟩

theorem keep_pred (S : Nat → Prop) (w : World) (ad : Addr) (A : Option Addr) (c : Nat) (keep : List Int) (hl : keep.length ≤ 17592186044416) (hS : S ad.block) (hc : w.cell? ad = some (.slice A keep.length c)) (hr : Cells S w A (ints keep)) :
    Pred S w 40 #[] #[.pointer (some ad)] (fun x => decide (x ∈ keep)) := by
  refine ⟨gf40, fun w' x hsz hs => ?_⟩
  refine calls0 (args := [.int .i64 x, .pointer (some ad)]) tyok mixed [] Try.func40 rfl rfl (by simp) ?_
  conv => whnf
  intro w1 hw1
  refine ⟨.slice A keep.length c, run_loadVar1 tk25 ((hw1.samev S).cell hS (hs.cell hS hc)) rfl, ?_⟩
  conv => whnf
  refine ⟨gf41, fun w2 hw2 => scalK (contains_calls S w2 A c keep x hl ((hr.to hs (fun _ h _ => h)).to (hw2.samev S) (fun _ h _ => h))) hw2 ?_⟩
  conv => whnf
  intro w3 hw3
  exact ⟨rfl, hw3.bel⟩
end Go.Proofs.Ytonhlccjfbfkcaa
