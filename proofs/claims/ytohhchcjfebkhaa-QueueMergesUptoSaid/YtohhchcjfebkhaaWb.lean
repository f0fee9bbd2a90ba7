/- QueueAnyhow: the walk. -/
import Derived.Test.YtohhchcjfebkhaaWa
set_option linter.unusedSimpArgs false
set_option linter.unusedVariables false
namespace Go.Proofs.Ytohhchcjfebkhaa
open Go.Vx Go.Vc Go.RowKit

theorem newQ_nodup {l : List It} (h : (nms l).Nodup) : newQ l = l := by
  have : ∀ (l acc : List It), (nms (acc ++ l)).Nodup → l.foldl addQ acc = acc ++ l := by
    intro l
    induction l with
    | nil => intro acc _; simp
    | cons x r ih =>
      intro acc h
      have hx : x.2 ∉ acc.map (·.2) := by
        simp only [nms, List.map_append, List.map_cons, List.nodup_append] at h
        intro hm
        exact h.2.2 x.2 hm x.2 (by simp) rfl
      have e : addQ acc x = acc ++ [x] := by unfold addQ; rw [if_neg hx]
      rw [List.foldl_cons, e, ih (acc ++ [x]) (by simpa using h)]
      simp
  simpa [newQ] using this l [] (by simpa using h)
theorem newS_turned {l : List It} (h : (nms l).Nodup) : newS l.reverse = newS l := by
  unfold newS
  have h' : (nms l.reverse).Nodup := by
    unfold nms
    rw [List.map_reverse]
    exact (List.reverse_perm _).nodup_iff.2 h
  rw [newQ_nodup h, newQ_nodup h']
  exact srt_eq (List.reverse_perm l)
theorem nodup_step {l : List It} {i : Nat} (hi : i < l.length) (h : (nms (l.take i)).Nodup) (hn : ∀ (j : Nat) (hj : j < i), (l[j]'(by omega)).2 ≠ l[i].2) : (nms (l.take (i + 1))).Nodup := by
  rw [List.take_succ_eq_append_getElem hi]
  simp only [nms, List.map_append, List.map_cons, List.map_nil, List.nodup_append]
  refine ⟨h, by simp, fun a ha b hb => ?_⟩
  simp only [List.mem_singleton] at hb
  subst hb
  obtain ⟨x, hx, rfl⟩ := List.mem_map.1 ha
  obtain ⟨j, hj, rfl⟩ := List.mem_iff_getElem.1 hx
  rw [List.getElem_take]
  simp at hj
  exact hn j (by omega)
theorem turn_wrap {j : Nat} (h : j < 4611686018427387904) (h0 : 0 < j) : IntKind.i64.wrap ((j : Int) - 1 - 1) = ((j - 1 : Nat) : Int) - 1 := by
  by_cases h1 : j = 1
  · subst h1; rfl
  · rw [Go.Vc.wrap_small (by omega) (by omega)]; omega
theorem turn_step {l : List It} {j : Nat} (h0 : 0 < j) (hj : j ≤ l.length) : (l.drop j).reverse ++ [l[j - 1]] = (l.drop (j - 1)).reverse := by
  have : l.drop (j - 1) = l[j - 1] :: l.drop j := by
    rw [List.drop_eq_getElem_cons (by omega), show j - 1 + 1 = j from by omega]
  rw [this, List.reverse_cons]
theorem queueAnyhow_fn (l : List It) : FnR Try.prog G0 4 [dQ l] (.bool true) := by
  refine fnQ_sz fun hs => ?_
  have hl := (szOk_sl hs.1).1
  simp only [LB] at hl
  have hr := newS_len l
  refine fnQ_of_vc txok mixed [(7, .pure 0 (.pure 1 (.pure 2 (.pure 3 (.take 4 (.pure 5 (.pure 6 (.pure 7 (.pure 8 (.take 9 (.pure 10 .done)))))))))))] Try.func4 rfl rfl (by simp) fun b => ?_
  conv => whnf
  refine loopH (fun i : Nat => i ≤ l.length ∧ (nms (l.take i)).Nodup) (fun i => l.length - i) (fun i => [(3, .d (.int .i64 i))]) (fun _ => []) 0 0 ⟨by omega, by simp⟩ (weak_of rfl (by repeat ((conv => whnf); first | exact trivial | refine And.intro rfl ?_ | refine And.intro (incD (by omega)) ?_)) (by repeat ((conv => whnf); first | exact trivial | refine And.intro rfl ?_ | refine And.intro (incD (by omega)) ?_))) ?_
  rintro i ⟨hi, hnd⟩
  conv => whnf
  refine And.intro (fun hb => ?_) (fun hb => ?_)
  · have hb : (i : Int) < (l.length : Int) := of_decide_eq_true hb
    have hil : i < l.length := by omega
    conv => whnf
    refine loopH (fun k : Nat => k ≤ i ∧ ∀ (j : Nat) (hj : j < k), ∀ (h : j < l.length), (l[j]).2 ≠ l[i].2) (fun k => i - k) (fun k => [(4, .d (.int .i64 k))]) (fun _ => []) 0 0 ⟨by omega, fun j hj => by omega⟩ (weak_of rfl (by repeat ((conv => whnf); first | exact trivial | refine And.intro rfl ?_ | refine And.intro (incD (by omega)) ?_)) (by repeat ((conv => whnf); first | exact trivial | refine And.intro rfl ?_ | refine And.intro (incD (by omega)) ?_))) ?_
    rintro k ⟨hk, hne⟩
    conv => whnf
    refine And.intro (fun hb => ?_) (fun hb => ?_)
    · have hb : (k : Int) < (i : Int) := of_decide_eq_true hb
      have hkl : k < l.length := by omega
      conv => whnf
      refine And.intro (by kernel_rfl) ?_
      conv => whnf
      refine IdxC.encQ i hil rfl ?_
      conv => whnf
      refine IdxC.encQ k hkl rfl ?_
      conv => whnf
      refine And.intro (fun he => ?_) (fun he => ?_)
      · conv => whnf
        refine callF alive_fn gf16 rfl rfl ?_
        conv => whnf
      · have he : l[i].2 ≠ l[k].2 := by
          intro e
          rw [e] at he
          simp at he
        conv => whnf
        refine again (k + 1) (by omega) ⟨by omega, fun j hj h => ?_⟩ (weak_of rfl (by repeat ((conv => whnf); first | exact trivial | refine And.intro rfl ?_ | refine And.intro (incD (by omega)) ?_)) (by repeat ((conv => whnf); first | exact trivial | refine And.intro rfl ?_ | refine And.intro (incD (by omega)) ?_)))
        by_cases e : j = k
        · subst e; exact Ne.symm he
        · exact hne j (by omega) h
    · have hb : ¬ (k : Int) < (i : Int) := of_decide_eq_false hb
      have e : k = i := by omega
      subst e
      conv => whnf
      exact again (k + 1) (by omega) ⟨hil, nodup_step hil hnd fun j hj => hne j hj (by omega)⟩ (weak_of rfl (by repeat ((conv => whnf); first | exact trivial | refine And.intro rfl ?_ | refine And.intro (incD (by omega)) ?_)) (by repeat ((conv => whnf); first | exact trivial | refine And.intro rfl ?_ | refine And.intro (incD (by omega)) ?_)))
  · have hb : ¬ (i : Int) < (l.length : Int) := of_decide_eq_false hb
    rw [List.take_of_length_le (by omega)] at hnd
    have e0 : IntKind.i64.wrap ((l.length : Int) - 1) = (l.length : Int) - 1 := by
      by_cases h0 : l.length = 0
      · rw [h0]; rfl
      · rw [Go.Vc.wrap_small (by omega) (by omega)]
    conv => whnf
    rw [e0]
    refine loopH (fun j : Nat => j ≤ l.length) (fun j => j) (fun j => [(6, .d (.int .i64 ((j : Int) - 1))), (5, .row 0)]) (fun j => [(0, .row 35 24 2 ((l.drop j).reverse).length (encQ (l.drop j).reverse))]) 1 l.length (Nat.le_refl _) ?_ ?_
    · rw [List.drop_length]
      exact (weak_nlT 5 35 24 2 rfl).trans (weak_of rfl (by repeat ((conv => whnf); first | exact trivial | refine And.intro rfl ?_ | refine And.intro (incD (by omega)) ?_)) (by repeat ((conv => whnf); first | exact trivial | refine And.intro rfl ?_ | refine And.intro (incD (by omega)) ?_)))
    intro j hj
    conv => whnf
    refine And.intro (fun hb => ?_) (fun hb => ?_)
    · have hb : (j : Int) - 1 ≥ 0 := of_decide_eq_true hb
      have h0 : 0 < j := by omega
      conv => whnf
      refine IdxC.encQ (j - 1) (by omega) (by omega) ?_
      conv => whnf
      refine appR (i := 0) (sz := 2) (n := ((l.drop j).reverse).length) (m := 1) (xs := encQ (l.drop j).reverse) (ys := encIt l[j - 1]) txok (fun k => Nat.blt 0 k) ((l.drop (j - 1)).reverse).length (encQ (l.drop (j - 1)).reverse) (by exact rfl) (by exact rfl) (by exact rfl) (by kernel_rfl) (by exact rfl) (scalDs_mem (by exact rfl)) (by simp; omega) (by rw [← turn_step h0 hj, encQ_app]; rfl) (by simp only [LB, List.length_reverse, List.length_drop]; omega) ?_
      conv => whnf
      rw [turn_wrap (by omega) h0]
      exact again (j - 1) (by omega) (by omega) (weak_of rfl (by repeat ((conv => whnf); first | exact trivial | refine And.intro rfl ?_ | refine And.intro (incD (by omega)) ?_)) (by repeat ((conv => whnf); first | exact trivial | refine And.intro rfl ?_ | refine And.intro (incD (by omega)) ?_)))
    · have hb : ¬ (j : Int) - 1 ≥ 0 := of_decide_eq_false hb
      have e : j = 0 := by omega
      subst e
      rw [List.drop_zero]
      have hrl := newS_len l.reverse
      have hrl' : l.reverse.length = l.length := by simp
      conv => whnf
      refine pubC (fun k => Nat.beq k 0) ?_
      conv => whnf
      refine callF (mine_fn l) gf10 rfl rfl ?_
      conv => whnf
      refine callT [] (newR_new l) gf9 rfl rfl trivial rfl ?_
      rintro o' H' ⟨rfl, l1, mp1, rfl, h1⟩
      conv => whnf
      refine callT [1, 2, 3] (itemsR_tri l1 mp1 _ (by simp only [LB]; omega) h1) gf11 rfl rfl ⟨rfl, rfl, rfl, trivial⟩ rfl ?_
      rintro o' H' ⟨rfl, rfl⟩
      conv => whnf
      refine callF (mine_fn l.reverse) gf10 rfl rfl ?_
      conv => whnf
      refine callT [] (newR_new l.reverse) gf9 rfl rfl trivial rfl ?_
      rintro o' H' ⟨rfl, l2, mp2, rfl, h2⟩
      conv => whnf
      refine callT [4, 5, 6] (itemsR_tri l2 mp2 _ (by simp only [LB]; omega) h2) gf11 rfl rfl ⟨rfl, rfl, rfl, trivial⟩ rfl ?_
      rintro o' H' ⟨rfl, rfl⟩
      rw [newS_turned hnd]
      conv => whnf
      refine callF (equal_fn _ _) gf14 rfl rfl ?_
      conv => whnf
      refine And.intro (fun _ => ?_) (fun h => by simp at h)
      conv => whnf
      refine callF alive_fn gf16 rfl rfl ?_
      conv => whnf
end Go.Proofs.Ytohhchcjfebkhaa
