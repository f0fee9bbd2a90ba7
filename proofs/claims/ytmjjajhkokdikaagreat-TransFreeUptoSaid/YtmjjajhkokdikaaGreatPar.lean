/- Texts of mine, joined: Hd. -/
import Derived.Test.YtmjjajhkokdikaaGreatPaq
import Derived.Sort.Walk0
/- Plain laws: what is sorted and compacted goes up. -/
set_option linter.unusedSimpArgs false
set_option linter.unusedVariables false
namespace Go.Proofs.YtmjjajhkokdikaaGreat
open Go.Vx Go.Vc Go.RowKit

theorem compact_pair {α : Type} [Inhabited α] [DecidableEq α] (R : α → α → Prop) (hanti : ∀ a b, R a b → R b a → a = b) (hrefl : ∀ a, R a a) (l : List α) (h : l.Pairwise R) : (Go.Lib.compact l).Pairwise fun a b => R a b ∧ a ≠ b := by
  have hR : ∀ i j, i ≤ j → j < l.length → R (l.toArray[i]!) (l.toArray[j]!) := by
    intro i j hij hj
    have e : ∀ k (hk : k < l.length), l.toArray[k]! = l[k] := fun k hk => by rw [getElem!_pos l.toArray k (by simpa using hk)]; simp
    rw [e i (by omega), e j hj]
    rcases Nat.lt_or_eq_of_le hij with h1 | h1
    · exact (List.pairwise_iff_getElem.1 h) i j (by omega) hj h1
    · subst h1; exact hrefl _
  unfold Go.Lib.compact Go.Lib.compactUpTo
  rw [List.pairwise_map]
  refine ((List.pairwise_lt_range (n := l.length)).filter _).imp_of_mem ?_
  intro a b ha hb hab
  simp only [List.mem_filter, List.mem_range] at ha hb
  refine ⟨hR a b (by omega) hb.1, fun e => ?_⟩
  have h1 := hR a (b - 1) (by omega) (by omega)
  have h2 := hR (b - 1) b (by omega) hb.1
  have h3 : l.toArray[b]! = l.toArray[b - 1]! := hanti _ _ (by rw [← e]; exact h1) h2
  have := Go.Lib.keeps_neg (d := l.toArray) (m := b) (by omega) h3
  rw [this] at hb
  exact absurd hb.2 (by simp)
theorem setS_up (l : List ByteArray) : (setS l).Pairwise fun a b => Op.bytesLess a.toList b.toList = true := by
  have h1 : (srtS (l.map byt)).Pairwise fun x y => x ≤ y := by
    unfold srtS
    refine (List.pairwise_mergeSort (le := fun x y : List UInt8 => decide (x ≤ y)) ?_ ?_ _).imp (fun h => by simpa using h)
    · intro a b c h h'
      simp only [decide_eq_true_eq] at *
      exact List.le_trans h h'
    · intro a b
      simp only [Bool.or_eq_true, decide_eq_true_eq]
      exact List.le_total a b
  have h2 := compact_pair (fun x y : List UInt8 => x ≤ y) (fun a b h h' => List.le_antisymm h h') (fun a => List.le_refl a) _ h1
  unfold setS
  rw [List.pairwise_map]
  refine h2.imp ?_
  rintro a b ⟨h3, h4⟩
  have e : ∀ x : List UInt8, (txt8 x).toList = x := fun x => by
    have := byt_txt8 x
    unfold byt at this
    rw [Go.ByteArray.toList_eq]
    exact this
  rw [e, e, Go.Proofs.bytesLess_eq, decide_eq_true_iff]
  rcases Decidable.em (a < b) with h | h
  · exact h
  · exact absurd (List.le_antisymm h3 h) h4
theorem freeS_nodup (t : TG) : (freeS t).Nodup := by
  have h1 : (srtI (frG t [])).Pairwise fun x y => x ≤ y := by
    unfold srtI
    refine (List.pairwise_mergeSort (le := fun x y : Int => decide (x ≤ y)) ?_ ?_ _).imp (fun h => by simpa using h)
    · intro a b c h h'
      simp only [decide_eq_true_eq] at *
      omega
    · intro a b
      simp only [Bool.or_eq_true, decide_eq_true_eq]
      omega
  have h2 := compact_pair (fun x y : Int => x ≤ y) (fun a b h h' => by omega) (fun a => by omega) _ h1
  unfold freeS
  exact h2.imp fun h => h.2
end Go.Proofs.YtmjjajhkokdikaaGreat

