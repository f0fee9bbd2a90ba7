/- Queue: the laws' walks, Merge, readings (texts Wa Wb Wc Wd Kp Kq, joined) -/
import Derived.Test.YtohhchcjfebkhaaJn
import Derived.Test.YtohhchcjfebkhaaRows
import Derived.Test.YtohhchcjfebkhaaVxs
import Derived.WalkKit
import Derived.ProofKit
import Derived.OpenShut
import Derived.JoinedCond
import Derived.Carry
set_option linter.unusedVariables false
set_option linter.unusedSimpArgs false
/- QueueMoves: the walk. -/
namespace Go.Proofs.Ytohhchcjfebkhaa
open Go.Vx Go.Vc Go.RowKit

theorem rem_len {s : ByteArray} {r : List It} (h : s ∈ nms r) : (rem s r).length + 1 ≤ r.length := by
  obtain ⟨x, hx, rfl⟩ := List.mem_map.1 h
  have : (rem x.2 r).length < r.length := by
    unfold rem
    rw [← List.countP_eq_length_filter]
    exact Nat.lt_of_le_of_ne (List.countP_le_length) fun e => by
      have := List.countP_eq_length.1 e x hx
      simp at this
  omega
theorem rem_notin (s : ByteArray) (r : List It) : s ∉ nms (rem s r) := by
  intro h
  obtain ⟨x, hx, e⟩ := List.mem_map.1 h
  have := (List.mem_filter.1 hx).2
  simp only [decide_eq_true_eq] at this
  exact this e
theorem queueMoves_fn (l : List It) (s : ByteArray) (n : Int) : FnR Try.prog G0 5 [dQ l, .str s, .int .i64 n] (.bool true) := by
  refine fnQ_sz fun hs => ?_
  have hl := (szOk_sl hs.1).1
  simp only [LB] at hl
  have hr := newS_len l
  refine fnQ_of_vc txok mixed [] Try.func5 rfl rfl (by simp) fun b => ?_
  conv => whnf
  refine callF (mine_fn l) gf10 rfl rfl ?_
  conv => whnf
  refine callT [] (newR_new l) gf9 rfl rfl trivial rfl ?_
  rintro o' H' ⟨rfl, l1, mp1, rfl, h1⟩
  conv => whnf
  refine callF (mine_fn l) gf10 rfl rfl ?_
  conv => whnf
  refine callT [] (newR_new l) gf9 rfl rfl trivial rfl ?_
  rintro o' H' ⟨rfl, l2, mp2, rfl, h2⟩
  conv => whnf
  refine callT [0, 1, 2] (moveR_tri l1 mp1 _ s n (by simp only [LB]; omega) h1) gf17 rfl rfl ⟨rfl, rfl, rfl, trivial⟩ rfl ?_
  rintro o' H' (⟨hm, rfl, l3, mp3, rfl, h3⟩ | ⟨hm, rfl, l3, mp3, rfl, h3⟩)
  · conv => whnf
    refine callT [3, 4, 5] (removeR_tri l2 mp2 _ s (by simp only [LB]; omega) h2) gf18 rfl rfl ⟨rfl, rfl, rfl, trivial⟩ rfl ?_
    rintro o' H' (⟨_, rfl, l4, mp4, rfl, h4⟩ | ⟨hm', _⟩)
    rotate_left
    · exact absurd hm' hm
    conv => whnf
    refine And.intro (fun _ => ?_) (fun h => absurd h (by decide))
    conv => whnf
    refine callT [0, 1, 2] (itemsR_tri l3 mp3 _ (by simp only [LB]; omega) h3) gf11 rfl rfl ⟨rfl, rfl, rfl, trivial⟩ rfl ?_
    rintro o' H' ⟨rfl, rfl⟩
    conv => whnf
    refine callT [3, 4, 5] (itemsR_tri l4 mp4 _ (by simp only [LB]; omega) h4) gf11 rfl rfl ⟨rfl, rfl, rfl, trivial⟩ rfl ?_
    rintro o' H' ⟨rfl, rfl⟩
    conv => whnf
    refine callF (equal_fn _ _) gf14 rfl rfl ?_
    conv => whnf
    refine And.intro (fun _ => ?_) (fun h => by simp at h)
    conv => whnf
    refine callT [0, 1, 2] (lenR_tri l3 mp3 _ h3) gf12 rfl rfl ⟨rfl, rfl, rfl, trivial⟩ rfl ?_
    rintro o' H' ⟨rfl, rfl⟩
    conv => whnf
    refine callT [3, 4, 5] (lenR_tri l4 mp4 _ h4) gf12 rfl rfl ⟨rfl, rfl, rfl, trivial⟩ rfl ?_
    rintro o' H' ⟨rfl, rfl⟩
    conv => whnf
    refine And.intro (fun _ => ?_) (fun h => by simp at h)
    conv => whnf
    refine callF alive_fn gf16 rfl rfl ?_
    conv => whnf
  · conv => whnf
    refine callT [3, 4, 5] (removeR_tri l2 mp2 _ s (by simp only [LB]; omega) h2) gf18 rfl rfl ⟨rfl, rfl, rfl, trivial⟩ rfl ?_
    rintro o' H' (⟨hm', _⟩ | ⟨_, rfl, l4, mp4, rfl, h4⟩)
    · exact absurd hm hm'
    have hrl := rem_len hm
    have hil : (ins (n, s) (rem s (newS l))).length = (rem s (newS l)).length + 1 := by rw [(ins_perm _ _).length_eq]; simp
    conv => whnf
    refine callT [3, 4, 5] (pushR_tri l4 mp4 _ (n, s) (by simp only [LB]; omega) h4) gf19 rfl rfl ⟨rfl, rfl, rfl, trivial⟩ rfl ?_
    rintro o' H' (⟨hm', _⟩ | ⟨_, rfl, l5, mp5, rfl, h5⟩)
    · exact absurd hm' (rem_notin s _)
    conv => whnf
    refine And.intro (fun _ => ?_) (fun h => absurd h (by decide))
    conv => whnf
    refine callT [0, 1, 2] (itemsR_tri l3 mp3 _ (by simp only [LB]; omega) h3) gf11 rfl rfl ⟨rfl, rfl, rfl, trivial⟩ rfl ?_
    rintro o' H' ⟨rfl, rfl⟩
    conv => whnf
    refine callT [3, 4, 5] (itemsR_tri l5 mp5 _ (by simp only [LB]; omega) h5) gf11 rfl rfl ⟨rfl, rfl, rfl, trivial⟩ rfl ?_
    rintro o' H' ⟨rfl, rfl⟩
    conv => whnf
    refine callF (equal_fn _ _) gf14 rfl rfl ?_
    conv => whnf
    refine And.intro (fun _ => ?_) (fun h => by simp at h)
    conv => whnf
    refine callT [0, 1, 2] (lenR_tri l3 mp3 _ h3) gf12 rfl rfl ⟨rfl, rfl, rfl, trivial⟩ rfl ?_
    rintro o' H' ⟨rfl, rfl⟩
    conv => whnf
    refine callT [3, 4, 5] (lenR_tri l5 mp5 _ h5) gf12 rfl rfl ⟨rfl, rfl, rfl, trivial⟩ rfl ?_
    rintro o' H' ⟨rfl, rfl⟩
    conv => whnf
    refine And.intro (fun _ => ?_) (fun h => by simp at h)
    conv => whnf
    refine callF alive_fn gf16 rfl rfl ?_
    conv => whnf
end Go.Proofs.Ytohhchcjfebkhaa

/- QueueAnyhow: the walk. -/
namespace Go.Proofs.Ytohhchcjfebkhaa
open Go.Vx Go.Vc Go.RowKit

theorem newQ_nodup {l : List It} (h : (nms l).Nodup) : newQ l = l := by
  have : ∀ (l acc : List It), (nms (acc ++ l)).Nodup → l.foldl addQ acc = acc ++ l := by
    intro l
    induction l with
    | nil => intro acc _; simp
    | cons x r ih =>
      intro acc h
      have hx : x.2 ∉ acc.map (·.2) := by
        simp only [nms, List.map_append, List.map_cons, List.nodup_append] at h
        intro hm
        exact h.2.2 x.2 hm x.2 (by simp) rfl
      have e : addQ acc x = acc ++ [x] := by unfold addQ; rw [if_neg hx]
      rw [List.foldl_cons, e, ih (acc ++ [x]) (by simpa using h)]
      simp
  simpa [newQ] using this l [] (by simpa using h)
theorem newS_turned {l : List It} (h : (nms l).Nodup) : newS l.reverse = newS l := by
  unfold newS
  have h' : (nms l.reverse).Nodup := by
    unfold nms
    rw [List.map_reverse]
    exact (List.reverse_perm _).nodup_iff.2 h
  rw [newQ_nodup h, newQ_nodup h']
  exact srt_eq (List.reverse_perm l)
theorem nodup_step {l : List It} {i : Nat} (hi : i < l.length) (h : (nms (l.take i)).Nodup) (hn : ∀ (j : Nat) (hj : j < i), (l[j]'(by omega)).2 ≠ l[i].2) : (nms (l.take (i + 1))).Nodup := by
  rw [List.take_succ_eq_append_getElem hi]
  simp only [nms, List.map_append, List.map_cons, List.map_nil, List.nodup_append]
  refine ⟨h, by simp, fun a ha b hb => ?_⟩
  simp only [List.mem_singleton] at hb
  subst hb
  obtain ⟨x, hx, rfl⟩ := List.mem_map.1 ha
  obtain ⟨j, hj, rfl⟩ := List.mem_iff_getElem.1 hx
  rw [List.getElem_take]
  simp at hj
  exact hn j (by omega)
theorem turn_wrap {j : Nat} (h : j < 4611686018427387904) (h0 : 0 < j) : IntKind.i64.wrap ((j : Int) - 1 - 1) = ((j - 1 : Nat) : Int) - 1 := by
  by_cases h1 : j = 1
  · subst h1; rfl
  · rw [Go.Vc.wrap_small (by omega) (by omega)]; omega
theorem turn_step {l : List It} {j : Nat} (h0 : 0 < j) (hj : j ≤ l.length) : (l.drop j).reverse ++ [l[j - 1]] = (l.drop (j - 1)).reverse := by
  have : l.drop (j - 1) = l[j - 1] :: l.drop j := by
    rw [List.drop_eq_getElem_cons (by omega), show j - 1 + 1 = j from by omega]
  rw [this, List.reverse_cons]
theorem queueAnyhow_fn (l : List It) : FnR Try.prog G0 4 [dQ l] (.bool true) := by
  refine fnQ_sz fun hs => ?_
  have hl := (szOk_sl hs.1).1
  simp only [LB] at hl
  have hr := newS_len l
  refine fnQ_of_vc txok mixed [(7, .pure 0 (.pure 1 (.pure 2 (.pure 3 (.take 4 (.pure 5 (.pure 6 (.pure 7 (.pure 8 (.take 9 (.pure 10 .done)))))))))))] Try.func4 rfl rfl (by simp) fun b => ?_
  conv => whnf
  refine loopH (fun i : Nat => i ≤ l.length ∧ (nms (l.take i)).Nodup) (fun i => l.length - i) (fun i => [(3, .d (.int .i64 i))]) (fun _ => []) 0 0 ⟨by omega, by simp⟩ (weak_of rfl (by repeat ((conv => whnf); first | exact trivial | refine And.intro rfl ?_ | refine And.intro (incD (by omega)) ?_)) (by repeat ((conv => whnf); first | exact trivial | refine And.intro rfl ?_ | refine And.intro (incD (by omega)) ?_))) ?_
  rintro i ⟨hi, hnd⟩
  conv => whnf
  refine And.intro (fun hb => ?_) (fun hb => ?_)
  · have hb : (i : Int) < (l.length : Int) := of_decide_eq_true hb
    have hil : i < l.length := by omega
    conv => whnf
    refine loopH (fun k : Nat => k ≤ i ∧ ∀ (j : Nat) (hj : j < k), ∀ (h : j < l.length), (l[j]).2 ≠ l[i].2) (fun k => i - k) (fun k => [(4, .d (.int .i64 k))]) (fun _ => []) 0 0 ⟨by omega, fun j hj => by omega⟩ (weak_of rfl (by repeat ((conv => whnf); first | exact trivial | refine And.intro rfl ?_ | refine And.intro (incD (by omega)) ?_)) (by repeat ((conv => whnf); first | exact trivial | refine And.intro rfl ?_ | refine And.intro (incD (by omega)) ?_))) ?_
    rintro k ⟨hk, hne⟩
    conv => whnf
    refine And.intro (fun hb => ?_) (fun hb => ?_)
    · have hb : (k : Int) < (i : Int) := of_decide_eq_true hb
      have hkl : k < l.length := by omega
      conv => whnf
      refine And.intro (by kernel_rfl) ?_
      conv => whnf
      refine IdxC.encQ i hil rfl ?_
      conv => whnf
      refine IdxC.encQ k hkl rfl ?_
      conv => whnf
      refine And.intro (fun he => ?_) (fun he => ?_)
      · conv => whnf
        refine callF alive_fn gf16 rfl rfl ?_
        conv => whnf
      · have he : l[i].2 ≠ l[k].2 := by
          intro e
          rw [e] at he
          simp at he
        conv => whnf
        refine again (k + 1) (by omega) ⟨by omega, fun j hj h => ?_⟩ (weak_of rfl (by repeat ((conv => whnf); first | exact trivial | refine And.intro rfl ?_ | refine And.intro (incD (by omega)) ?_)) (by repeat ((conv => whnf); first | exact trivial | refine And.intro rfl ?_ | refine And.intro (incD (by omega)) ?_)))
        by_cases e : j = k
        · subst e; exact Ne.symm he
        · exact hne j (by omega) h
    · have hb : ¬ (k : Int) < (i : Int) := of_decide_eq_false hb
      have e : k = i := by omega
      subst e
      conv => whnf
      exact again (k + 1) (by omega) ⟨hil, nodup_step hil hnd fun j hj => hne j hj (by omega)⟩ (weak_of rfl (by repeat ((conv => whnf); first | exact trivial | refine And.intro rfl ?_ | refine And.intro (incD (by omega)) ?_)) (by repeat ((conv => whnf); first | exact trivial | refine And.intro rfl ?_ | refine And.intro (incD (by omega)) ?_)))
  · have hb : ¬ (i : Int) < (l.length : Int) := of_decide_eq_false hb
    rw [List.take_of_length_le (by omega)] at hnd
    have e0 : IntKind.i64.wrap ((l.length : Int) - 1) = (l.length : Int) - 1 := by
      by_cases h0 : l.length = 0
      · rw [h0]; rfl
      · rw [Go.Vc.wrap_small (by omega) (by omega)]
    conv => whnf
    rw [e0]
    refine loopH (fun j : Nat => j ≤ l.length) (fun j => j) (fun j => [(6, .d (.int .i64 ((j : Int) - 1))), (5, .row 0)]) (fun j => [(0, .row 35 24 2 ((l.drop j).reverse).length (encQ (l.drop j).reverse))]) 1 l.length (Nat.le_refl _) ?_ ?_
    · rw [List.drop_length]
      exact (weak_nlT 5 35 24 2 rfl).trans (weak_of rfl (by repeat ((conv => whnf); first | exact trivial | refine And.intro rfl ?_ | refine And.intro (incD (by omega)) ?_)) (by repeat ((conv => whnf); first | exact trivial | refine And.intro rfl ?_ | refine And.intro (incD (by omega)) ?_)))
    intro j hj
    conv => whnf
    refine And.intro (fun hb => ?_) (fun hb => ?_)
    · have hb : (j : Int) - 1 ≥ 0 := of_decide_eq_true hb
      have h0 : 0 < j := by omega
      conv => whnf
      refine IdxC.encQ (j - 1) (by omega) (by omega) ?_
      conv => whnf
      refine appR (i := 0) (sz := 2) (n := ((l.drop j).reverse).length) (m := 1) (xs := encQ (l.drop j).reverse) (ys := encIt l[j - 1]) txok (fun k => Nat.blt 0 k) ((l.drop (j - 1)).reverse).length (encQ (l.drop (j - 1)).reverse) (by exact rfl) (by exact rfl) (by exact rfl) (by kernel_rfl) (by exact rfl) (scalDs_mem (by exact rfl)) (by simp; omega) (by rw [← turn_step h0 hj, encQ_app]; rfl) (by simp only [LB, List.length_reverse, List.length_drop]; omega) ?_
      conv => whnf
      rw [turn_wrap (by omega) h0]
      exact again (j - 1) (by omega) (by omega) (weak_of rfl (by repeat ((conv => whnf); first | exact trivial | refine And.intro rfl ?_ | refine And.intro (incD (by omega)) ?_)) (by repeat ((conv => whnf); first | exact trivial | refine And.intro rfl ?_ | refine And.intro (incD (by omega)) ?_)))
    · have hb : ¬ (j : Int) - 1 ≥ 0 := of_decide_eq_false hb
      have e : j = 0 := by omega
      subst e
      rw [List.drop_zero]
      have hrl := newS_len l.reverse
      have hrl' : l.reverse.length = l.length := by simp
      conv => whnf
      refine pubC (fun k => Nat.beq k 0) ?_
      conv => whnf
      refine callF (mine_fn l) gf10 rfl rfl ?_
      conv => whnf
      refine callT [] (newR_new l) gf9 rfl rfl trivial rfl ?_
      rintro o' H' ⟨rfl, l1, mp1, rfl, h1⟩
      conv => whnf
      refine callT [1, 2, 3] (itemsR_tri l1 mp1 _ (by simp only [LB]; omega) h1) gf11 rfl rfl ⟨rfl, rfl, rfl, trivial⟩ rfl ?_
      rintro o' H' ⟨rfl, rfl⟩
      conv => whnf
      refine callF (mine_fn l.reverse) gf10 rfl rfl ?_
      conv => whnf
      refine callT [] (newR_new l.reverse) gf9 rfl rfl trivial rfl ?_
      rintro o' H' ⟨rfl, l2, mp2, rfl, h2⟩
      conv => whnf
      refine callT [4, 5, 6] (itemsR_tri l2 mp2 _ (by simp only [LB]; omega) h2) gf11 rfl rfl ⟨rfl, rfl, rfl, trivial⟩ rfl ?_
      rintro o' H' ⟨rfl, rfl⟩
      rw [newS_turned hnd]
      conv => whnf
      refine callF (equal_fn _ _) gf14 rfl rfl ?_
      conv => whnf
      refine And.intro (fun _ => ?_) (fun h => by simp at h)
      conv => whnf
      refine callF alive_fn gf16 rfl rfl ?_
      conv => whnf
end Go.Proofs.Ytohhchcjfebkhaa

/- QueueOrder: the walk. -/
namespace Go.Proofs.Ytohhchcjfebkhaa
open Go.Vx Go.Vc Go.RowKit

theorem newQ_mem {l : List It} {x : It} (h : x ∈ l) : x.2 ∈ nms (newQ l) := by
  have key : ∀ (l acc : List It), (∀ s, s ∈ nms acc → s ∈ nms (l.foldl addQ acc)) ∧ ∀ x ∈ l, x.2 ∈ nms (l.foldl addQ acc) := by
    intro l
    induction l with
    | nil => intro acc; exact ⟨fun _ h => h, fun x h => by simp at h⟩
    | cons y r ih =>
      intro acc
      obtain ⟨h1, h2⟩ := ih (addQ acc y)
      have hy : ∀ s, s ∈ nms acc ∨ s = y.2 → s ∈ nms (addQ acc y) := by
        intro s hs
        unfold addQ
        split
        · rename_i hin
          rcases hs with hs | rfl
          · exact hs
          · exact hin
        · simp only [nms, List.map_append, List.map_cons, List.map_nil, List.mem_append, List.mem_singleton]
          exact hs
      refine ⟨fun s hs => h1 s (hy s (.inl hs)), fun x hx => ?_⟩
      rcases List.mem_cons.1 hx with rfl | hx
      · exact h1 _ (hy _ (.inr rfl))
      · exact h2 x hx
  exact (key l []).2 x h
theorem newS_mem {l : List It} {x : It} (h : x ∈ l) : x.2 ∈ nms (newS l) := ((srt_perm (newQ l)).map (·.2)).mem_iff.2 (newQ_mem h)
theorem next_lt {r : List It} (hs : Sorted r) (hn : (nms r).Nodup) {i : Nat} (h : i + 1 < r.length) : lt (r[i]'(by omega)) r[i + 1] := by
  have h1 := List.pairwise_iff_getElem.1 hs i (i + 1) (by omega) h (by omega)
  rcases lt_tri r[i] r[i + 1] with h2 | h2 | h2
  · exact h2
  · exfalso
    have h3 := List.pairwise_iff_getElem.1 (List.nodup_iff_pairwise_ne.1 hn) i (i + 1) (by simp; omega) (by simp; omega) (by omega)
    simp only [nms, List.getElem_map] at h3
    exact h3 (by rw [h2])
  · exact absurd h2 h1
theorem count_one {l : List ByteArray} {a : ByteArray} (h : l.Nodup) (hm : a ∈ l) : l.count a = 1 := by
  have h1 := List.nodup_iff_count.1 h a
  have h2 := List.count_pos_iff.2 hm
  omega
theorem cmpB_lt {a b : ByteArray} (h : blt a b = true) : cmpB a b = -1 := by unfold cmpB; rw [if_pos h]
theorem cnt_step {r : List It} {k : Nat} (h : k < r.length) (s : ByteArray) : (nms (r.take (k + 1))).count s = (nms (r.take k)).count s + (if r[k].2 = s then 1 else 0) := by
  rw [List.take_succ_eq_append_getElem h]
  simp only [nms, List.map_append, List.map_cons, List.map_nil, List.count_append, List.count_singleton]
  by_cases e : r[k].2 = s
  · rw [if_pos e, if_pos (by simpa using e)]
  · rw [if_neg e, if_neg (by simpa using e)]
theorem drop_cons {r : List It} {j : Nat} {y : It} {t : List It} (h : r.drop j = y :: t) : ∃ hj : j < r.length, y = r[j] ∧ t = r.drop (j + 1) := by
  have hj : j < r.length := by
    refine Nat.lt_of_not_le fun hle => ?_
    rw [List.drop_eq_nil_of_le hle] at h; cases h
  rw [List.drop_eq_getElem_cons hj] at h
  injection h with h1 h2
  exact ⟨hj, h1.symm, h2.symm⟩
theorem queueOrder_fn (l : List It) : FnR Try.prog G0 3 [dQ l] (.bool true) := by
  refine fnQ_sz fun hs => ?_
  have hl := (szOk_sl hs.1).1
  simp only [LB] at hl
  have hr := newS_len l
  refine fnQ_of_vc txok mixed [(17, .pure 0 (.pure 1 (.pure 2 (.pure 3 (.pure 4 (.take 5 (.pure 6 (.pure 7 (.pure 8 (.pure 9 (.take 10 (.pure 11 (.pure 12 (.pure 13 (.pure 14 (.pure 15 (.pure 16 (.pure 17 (.take 18 (.pure 19 (.pure 20 (.pure 21 (.pure 22 (.take 23 (.pure 24 (.pure 25 (.pure 26 (.pure 27 (.pure 28 (.pure 29 (.pure 30 (.take 31 (.pure 32 (.pure 33 (.pure 34 (.pure 35 (.take 36 (.fin 37 (.pure 38 (.pure 39 (.pure 40 .done))))))))))))))))))))))))))))))))))))))))), (26, .pure 0 (.pure 1 (.pure 2 (.pure 3 (.take 4 (.pure 5 (.pure 6 (.pure 7 (.pure 8 (.take 9 (.pure 10 .done)))))))))))] Try.func3 rfl rfl (by simp) fun b => ?_
  conv => whnf
  refine callF (mine_fn l) gf10 rfl rfl ?_
  conv => whnf
  refine callT [] (newR_new l) gf9 rfl rfl trivial rfl ?_
  rintro o' H' ⟨rfl, l1, mp1, rfl, h1⟩
  have hnd := h1.nodup
  have hso := h1.s
  have hmem := fun x hx => newS_mem (l := l) (x := x) hx
  generalize newS l = r at hr h1 hnd hso hmem
  conv => whnf
  refine callT [0, 1, 2] (itemsR_tri l1 mp1 _ (by simp only [LB]; omega) h1) gf11 rfl rfl ⟨rfl, rfl, rfl, trivial⟩ rfl ?_
  rintro o' H' ⟨rfl, rfl⟩
  conv => whnf
  refine callT [0, 1, 2] (lenR_tri l1 mp1 _ h1) gf12 rfl rfl ⟨rfl, rfl, rfl, trivial⟩ rfl ?_
  rintro o' H' ⟨rfl, rfl⟩
  conv => whnf
  refine loopH (fun x : Nat × List It × (ByteArray → Option Int) => x.1 ≤ r.length ∧ QR x.2.1 x.2.2 (r.drop x.1)) (fun x => r.length - x.1) (fun x => [(6, .d (.int .i64 (r.length - x.1 : Nat))), (5, .row 3)]) (fun x => qH x.2.1 x.2.2 ++ [(3, .row 30 24 2 (r.take x.1).length (encQ (r.take x.1)))]) 4 (0, l1, mp1) ⟨by simp, h1⟩ ((weak_nlT 5 30 24 2 rfl).trans (weak_of rfl (by repeat ((conv => whnf); first | exact trivial | refine And.intro rfl ?_ | refine And.intro (incD (by omega)) ?_)) (by repeat ((conv => whnf); first | exact trivial | refine And.intro rfl ?_ | refine And.intro (incD (by omega)) ?_)))) ?_
  rintro ⟨j, l2, mp2⟩ ⟨hj, h2⟩
  simp only at hj h2
  have hjt : (r.take j).length = j := by simp; omega
  conv => whnf
  refine And.intro (fun hb => ?_) (fun hb => ?_)
  · have hb : ((r.length - j : Nat) : Int) > 0 := of_decide_eq_true hb
    have hjl : j < r.length := by omega
    conv => whnf
    refine callT [0, 1, 2] (popR_tri l2 mp2 _ (by simp only [LB, List.length_drop]; omega) h2) gf13 rfl rfl ⟨rfl, rfl, rfl, trivial⟩ rfl ?_
    rintro o' H' (⟨he, _⟩ | ⟨y, t, he, rfl, l3, mp3, rfl, h3⟩)
    · rw [List.drop_eq_getElem_cons hjl] at he; cases he
    obtain ⟨_, rfl, rfl⟩ := drop_cons he
    conv => whnf
    refine appR (i := 3) (sz := 2) (n := (r.take j).length) (m := 1) (xs := encQ (r.take j)) (ys := encIt r[j]) txok (fun k => Nat.blt 3 k) (r.take (j + 1)).length (encQ (r.take (j + 1))) (by exact rfl) (by exact rfl) (by exact rfl) (by kernel_rfl) (by exact rfl) (scalDs_mem (by exact rfl)) (by simp; omega) (by rw [List.take_succ_eq_append_getElem hjl, encQ_app]; rfl) (by simp only [LB, List.length_take]; omega) ?_
    conv => whnf
    have ew : IntKind.i64.wrap (((r.length - j : Nat) : Int) - 1) = ((r.length - (j + 1) : Nat) : Int) := by
      rw [Go.Vc.wrap_small (by omega) (by omega)]; omega
    rw [ew]
    exact again (j + 1, l3, mp3) (by simp only; omega) ⟨by simp only; omega, h3⟩ (weak_of rfl (by repeat ((conv => whnf); first | exact trivial | refine And.intro rfl ?_ | refine And.intro (incD (by omega)) ?_)) (by repeat ((conv => whnf); first | exact trivial | refine And.intro rfl ?_ | refine And.intro (incD (by omega)) ?_)))
  · have hb : ¬ ((r.length - j : Nat) : Int) > 0 := of_decide_eq_false hb
    have e : j = r.length := by omega
    subst e
    rw [List.drop_length] at h2
    rw [List.take_length]
    conv => whnf
    refine pubC (fun k => Nat.beq k 3) ?_
    conv => whnf
    refine callT [0, 1, 2] (popR_tri l2 mp2 _ (by simp [LB]) h2) gf13 rfl rfl ⟨rfl, rfl, rfl, trivial⟩ rfl ?_
    rintro o' H' (⟨_, rfl, l3, mp3, rfl, h3⟩ | ⟨y, t, he, _⟩)
    rotate_left
    · cases he
    conv => whnf
    refine callF (equal_fn r r) gf14 rfl rfl ?_
    conv => whnf
    refine And.intro (fun h => by simp at h) (fun _ => ?_)
    conv => whnf
    refine loopH (fun i : Nat => 1 ≤ i) (fun i => r.length - i) (fun i => [(11, .d (.int .i64 i))]) (fun _ => []) 5 1 (Nat.le_refl _) (weak_of rfl (by repeat ((conv => whnf); first | exact trivial | refine And.intro rfl ?_ | refine And.intro (incD (by omega)) ?_)) (by repeat ((conv => whnf); first | exact trivial | refine And.intro rfl ?_ | refine And.intro (incD (by omega)) ?_))) ?_
    intro i hi
    conv => whnf
    refine And.intro (fun hb => ?_) (fun hb => ?_)
    · have hb : (i : Int) < (r.length : Int) := of_decide_eq_true hb
      obtain ⟨k, rfl⟩ : ∃ k, i = k + 1 := ⟨i - 1, by omega⟩
      have hk1 : k + 1 < r.length := by omega
      have ew : IntKind.i64.wrap (((k + 1 : Nat) : Int) - 1) = ((k : Nat) : Int) := by
        rw [Go.Vc.wrap_small (by omega) (by omega)]; omega
      have hlt := next_lt hso hnd hk1
      conv => whnf
      refine And.intro (by kernel_rfl) ?_
      conv => whnf
      refine IdxC.encQ k (by omega) ew ?_
      conv => whnf
      refine IdxC.encQ (k + 1) hk1 rfl ?_
      conv => whnf
      rcases hlt with h4 | ⟨h4, h5⟩
      · refine And.intro (fun _ => ?_) (fun h => absurd (of_decide_eq_true h) (by omega))
        conv => whnf
        refine IdxC.encQ k (by omega) ew ?_
        conv => whnf
        refine IdxC.encQ (k + 1) hk1 rfl ?_
        conv => whnf
        have h6 : ((r[k]'(by omega)).1 == r[k + 1].1) = false := by simp; omega
        refine And.intro (fun h => absurd (h6.symm.trans h) (by decide)) (fun _ => ?_)
        conv => whnf
        exact again (k + 1 + 1) (by omega) (by omega) (weak_of rfl (by repeat ((conv => whnf); first | exact trivial | refine And.intro rfl ?_ | refine And.intro (incD (by omega)) ?_)) (by repeat ((conv => whnf); first | exact trivial | refine And.intro rfl ?_ | refine And.intro (incD (by omega)) ?_)))
      · refine And.intro (fun _ => ?_) (fun h => absurd (of_decide_eq_true h) (by omega))
        conv => whnf
        refine IdxC.encQ k (by omega) ew ?_
        conv => whnf
        refine IdxC.encQ (k + 1) hk1 rfl ?_
        conv => whnf
        have h6 : ((r[k]'(by omega)).1 == r[k + 1].1) = true := by simp; omega
        refine And.intro (fun _ => ?_) (fun h => absurd (h6.symm.trans h) (by decide))
        conv => whnf
        refine IdxC.encQ k (by omega) ew ?_
        conv => whnf
        refine IdxC.encQ (k + 1) hk1 rfl ?_
        conv => whnf
        refine callF (ncmp0_fn _ _) gf15 rfl rfl ?_
        conv => whnf
        have h8 : (cmpB (r[k]'(by omega)).2 r[k + 1].2 != -1) = false := by rw [cmpB_lt h5]; rfl
        refine And.intro (fun h => absurd (h8.symm.trans h) (by decide)) (fun _ => ?_)
        conv => whnf
        exact again (k + 1 + 1) (by omega) (by omega) (weak_of rfl (by repeat ((conv => whnf); first | exact trivial | refine And.intro rfl ?_ | refine And.intro (incD (by omega)) ?_)) (by repeat ((conv => whnf); first | exact trivial | refine And.intro rfl ?_ | refine And.intro (incD (by omega)) ?_)))
    · have hb : ¬ (i : Int) < (r.length : Int) := of_decide_eq_false hb
      conv => whnf
      refine loopH (fun i : Nat => i ≤ l.length) (fun i => l.length - i) (fun i => [(12, .d (.int .i64 i))]) (fun _ => []) 5 0 (Nat.zero_le _) (weak_of rfl (by repeat ((conv => whnf); first | exact trivial | refine And.intro rfl ?_ | refine And.intro (incD (by omega)) ?_)) (by repeat ((conv => whnf); first | exact trivial | refine And.intro rfl ?_ | refine And.intro (incD (by omega)) ?_))) ?_
      intro i' hi'
      conv => whnf
      refine And.intro (fun hb2 => ?_) (fun hb2 => ?_)
      · have hb2 : (i' : Int) < (l.length : Int) := of_decide_eq_true hb2
        have hil : i' < l.length := by omega
        have hcl : ∀ k, (nms (r.take k)).count l[i'].2 ≤ r.length := fun k => Nat.le_trans (List.count_le_length) (by simp; omega)
        conv => whnf
        refine loopH (fun k : Nat => k ≤ r.length) (fun k => r.length - k) (fun k => [(14, .d (.int .i64 k)), (13, .d (.int .i64 ((nms (r.take k)).count l[i'].2 : Nat)))]) (fun _ => []) 5 0 (Nat.zero_le _) (weak_of rfl (by repeat ((conv => whnf); first | exact trivial | refine And.intro rfl ?_ | refine And.intro (incD (by omega)) ?_)) (by repeat ((conv => whnf); first | exact trivial | refine And.intro rfl ?_ | refine And.intro (incD (by omega)) ?_))) ?_
        intro k hk
        have hck := hcl k
        conv => whnf
        refine And.intro (fun hb3 => ?_) (fun hb3 => ?_)
        · have hb3 : (k : Int) < (r.length : Int) := of_decide_eq_true hb3
          have hkl : k < r.length := by omega
          have hcs := cnt_step hkl l[i'].2
          conv => whnf
          refine And.intro (by kernel_rfl) ?_
          conv => whnf
          refine IdxC.encQ k hkl rfl ?_
          conv => whnf
          refine IdxC.encQ i' hil rfl ?_
          conv => whnf
          refine And.intro (fun he => ?_) (fun he => ?_)
          · have he : r[k].2 = l[i'].2 := toList_inj (eq_of_beq he)
            rw [if_pos he] at hcs
            conv => whnf
            refine again (k + 1) (by omega) (by omega) (weak_of rfl ?_ (by repeat ((conv => whnf); first | exact trivial | refine And.intro rfl ?_ | refine And.intro (incD (by omega)) ?_)))
            rw [hcs]
            repeat ((conv => whnf); first | exact trivial | refine And.intro rfl ?_ | refine And.intro (incD (by omega)) ?_)
          · have he : r[k].2 ≠ l[i'].2 := by
              intro e
              rw [e] at he
              simp at he
            rw [if_neg he, Nat.add_zero] at hcs
            conv => whnf
            refine again (k + 1) (by omega) (by omega) (weak_of rfl ?_ (by repeat ((conv => whnf); first | exact trivial | refine And.intro rfl ?_ | refine And.intro (incD (by omega)) ?_)))
            rw [hcs]
            repeat ((conv => whnf); first | exact trivial | refine And.intro rfl ?_ | refine And.intro (incD (by omega)) ?_)
        · have hb3 : ¬ (k : Int) < (r.length : Int) := of_decide_eq_false hb3
          have hc1 : (nms (r.take k)).count l[i'].2 = 1 := by
            rw [List.take_of_length_le (by omega)]
            exact count_one hnd (hmem _ (by simp))
          rw [hc1]
          conv => whnf
          refine And.intro (fun h => by simp at h) (fun _ => ?_)
          conv => whnf
          exact again (i' + 1) (by omega) (by omega) (weak_of rfl (by repeat ((conv => whnf); first | exact trivial | refine And.intro rfl ?_ | refine And.intro (incD (by omega)) ?_)) (by repeat ((conv => whnf); first | exact trivial | refine And.intro rfl ?_ | refine And.intro (incD (by omega)) ?_)))
      · conv => whnf
        have h7 : decide ((r.length : Int) ≤ (l.length : Int)) = true := decide_eq_true (by omega)
        refine And.intro (fun _ => ?_) (fun h => absurd (h7.symm.trans h) (by decide))
        conv => whnf
        refine callF alive_fn gf16 rfl rfl ?_
        conv => whnf
end Go.Proofs.Ytohhchcjfebkhaa

/- Merge. -/
namespace Go.Proofs.Ytohhchcjfebkhaa
open Go.Vx Go.Vc Go.RowKit

/-- The rank of a name that waits. -/
def rkOf (r : List It) (s : ByteArray) : Int := ((r.find? fun x => decide (x.2 = s)).map (·.1)).getD 0
theorem nodup_eq {r : List It} (hn : (nms r).Nodup) {x y : It} (hx : x ∈ r) (hy : y ∈ r) (h : x.2 = y.2) : x = y := by
  obtain ⟨i, hi, rfl⟩ := List.mem_iff_getElem.1 hx
  obtain ⟨j, hj, rfl⟩ := List.mem_iff_getElem.1 hy
  have key : ∀ (i j : Nat) (hi : i < r.length) (hj : j < r.length), i < j → r[i].2 ≠ r[j].2 := by
    intro i j hi hj hij
    have := List.pairwise_iff_getElem.1 (List.nodup_iff_pairwise_ne.1 hn) i j (by simpa using hi) (by simpa using hj) hij
    simpa [nms] using this
  rcases Nat.lt_trichotomy i j with h1 | h1 | h1
  · exact absurd h (key i j hi hj h1)
  · subst h1; rfl
  · exact absurd h.symm (key j i hj hi h1)
theorem rkOf_eq {r : List It} (hn : (nms r).Nodup) {n : Int} {s : ByteArray} (h : (n, s) ∈ r) : rkOf r s = n := by
  unfold rkOf
  cases hf : r.find? (fun x => decide (x.2 = s)) with
  | none =>
    have := List.find?_eq_none.1 hf _ h
    simp at this
  | some y =>
    have h1 := List.find?_some hf
    have h2 := List.mem_of_find?_eq_some hf
    simp only [decide_eq_true_eq] at h1
    have := nodup_eq hn h2 h h1
    rw [this]; rfl
def mstep (r : List It) (x : It) : List It := if x.2 ∈ nms r then (if x.1 < rkOf r x.2 then ins x (rem x.2 r) else r) else ins x r
def mergeR (r s : List It) : List It := s.foldl mstep r
theorem ins_len (x : It) (r : List It) : (ins x r).length = r.length + 1 := by rw [(ins_perm x r).length_eq]; simp
theorem rem_len' {s : ByteArray} {r : List It} (hn : (nms r).Nodup) (h : s ∈ nms r) : (rem s r).length + 1 = r.length := by
  obtain ⟨x, hx, rfl⟩ := List.mem_map.1 h
  obtain ⟨i, hi, rfl⟩ := ix_mem.1 hx
  have := (set_perm hi hn (ix r i).1).length_eq
  simp at this; omega
theorem mstep_len {r : List It} (hn : (nms r).Nodup) (x : It) : (mstep r x).length = r.length + (if x.2 ∈ nms r then 0 else 1) := by
  unfold mstep
  by_cases h : x.2 ∈ nms r
  · rw [if_pos h, if_pos h]
    split
    · have := rem_len' hn h
      rw [ins_len]; omega
    · rfl
  · rw [if_neg h, if_neg h, ins_len]
theorem merge_succ {r s : List It} {i : Nat} (h : i < s.length) : mergeR r (s.take (i + 1)) = mstep (mergeR r (s.take i)) s[i] := by
  unfold mergeR
  rw [List.take_succ_eq_append_getElem h, List.foldl_append]; rfl
theorem merge_tri (l : List It) (mp) (l' : List It) (mp') (r s : List It) (hb : (r.length + s.length) * 24 ≤ LB) (h : QR l mp r) (h' : QR l' mp' s) :
    Tri Try.prog G0 20 6 0 [.own 0 0, .own 3 0] (qH l mp ++ qA 3 4 5 l' mp')
      (fun o H' => r.length ≤ (mergeR r s).length ∧ o = .ret (.d (.int .i64 ((mergeR r s).length - r.length : Nat))) ∧ ∃ l2 mp2, H' = qH l2 mp2 ++ qA 3 4 5 l' mp' ∧ QR l2 mp2 (mergeR r s)) := by
  simp only [LB] at hb
  refine tri_of_vc txok mixed [] [] Try.func20 rfl rfl (by simp) fun b => ?_
  conv => whnf
  refine ptrC (i := 0) (j := 3) txok true (by exact rfl) Try.underlying23 (by exact rfl) (by exact rfl) (by exact rfl) (by decide) (by exact rfl) (by exact rfl) ?_
  conv => whnf
  refine callT [3, 4, 5] (itemsR_tri l' mp' _ (by simp only [LB]; omega) h') gf11 rfl rfl ⟨rfl, rfl, rfl, trivial⟩ rfl ?_
  rintro o' H' ⟨rfl, rfl⟩
  conv => whnf
  refine loopH (fun x : Nat × List It × (ByteArray → Option Int) => x.1 ≤ s.length ∧ QR x.2.1 x.2.2 (mergeR r (s.take x.1)) ∧ r.length ≤ (mergeR r (s.take x.1)).length ∧ (mergeR r (s.take x.1)).length ≤ r.length + x.1) (fun x => s.length - x.1) (fun x => [(20, .d (.int .i64 x.1)), (5, .d (.int .i64 ((mergeR r (s.take x.1)).length - r.length : Nat)))]) (fun x => qH x.2.1 x.2.2 ++ qA 3 4 5 l' mp') 6 (0, l, mp) ⟨by simp, by simpa [mergeR] using h, by simp [mergeR], by simp [mergeR]⟩ (weak_of rfl ?_ (by repeat ((conv => whnf); first | exact trivial | refine And.intro rfl ?_ | refine And.intro (incD (by omega)) ?_))) ?_
  · have e : (mergeR r (s.take 0)).length - r.length = 0 := by simp [mergeR]
    simp only [e]
    repeat ((conv => whnf); first | exact trivial | refine And.intro rfl ?_ | refine And.intro (incD (by omega)) ?_)
  rintro ⟨i, l2, mp2⟩ ⟨hi, h2, h3, h4⟩
  simp only at hi h2 h3 h4
  have hbig : (i, l2, mp2).1 < 9223372036854775807 := by show i < _; omega
  conv => whnf
  refine And.intro (fun hc => ?_) (fun hc => ?_)
  · have hc : (i : Int) < (s.length : Int) := of_decide_eq_true hc
    have hil : i < s.length := by omega
    have hms := merge_succ (r := r) hil
    have hml := mstep_len h2.nodup s[i]
    conv => whnf
    refine IdxC.encQ i hil rfl ?_
    conv => whnf
    refine callT [0, 1, 2] (pushR_tri l2 mp2 _ s[i] (by simp only [LB]; omega) h2) gf19 rfl rfl ⟨rfl, rfl, rfl, trivial⟩ rfl ?_
    rintro o' H' (⟨hin, rfl, l3, mp3, rfl, h5⟩ | ⟨hin, rfl, l3, mp3, rfl, h5⟩)
    · rw [if_pos hin, Nat.add_zero] at hml
      conv => whnf
      refine callT [0, 1, 2] (rankR_tri l3 mp3 _ s[i].2 h5) gf33 rfl rfl ⟨rfl, rfl, rfl, trivial⟩ rfl ?_
      rintro o' H' ⟨⟨hin', _⟩ | ⟨n, hmem, rfl⟩, rfl⟩
      · exact absurd hin hin'
      have hrk := rkOf_eq h5.nodup hmem
      conv => whnf
      refine And.intro (fun hlt => ?_) (fun hlt => ?_)
      · have hlt := of_decide_eq_true hlt
        have hst : mstep (mergeR r (s.take i)) s[i] = ins (s[i].1, s[i].2) (rem s[i].2 (mergeR r (s.take i))) := by
          unfold mstep; rw [if_pos hin, hrk, if_pos hlt]
        conv => whnf
        refine callT [0, 1, 2] (moveR_tri l3 mp3 _ s[i].2 s[i].1 (by simp only [LB]; omega) h5) gf17 rfl rfl ⟨rfl, rfl, rfl, trivial⟩ rfl ?_
        rintro o' H' (⟨hin', _⟩ | ⟨_, rfl, l4, mp4, rfl, h6⟩)
        · exact absurd hin hin'
        conv => whnf
        refine again (i + 1, l4, mp4) (by simp only; omega) ⟨hil, by simp only; rw [hms, hst]; exact h6, by simp only; rw [hms, hml]; exact h3, by simp only; rw [hms, hml]; omega⟩ (weak_of rfl ?_ (by repeat ((conv => whnf); first | exact trivial | refine And.intro rfl ?_ | refine And.intro (incD (by omega)) ?_)))
        simp only [hms, hml]
        repeat ((conv => whnf); first | exact trivial | refine And.intro rfl ?_ | refine And.intro (incD (by omega)) ?_)
      · have hlt := of_decide_eq_false hlt
        have hst : mstep (mergeR r (s.take i)) s[i] = mergeR r (s.take i) := by
          unfold mstep; rw [if_pos hin, hrk, if_neg hlt]
        conv => whnf
        refine again (i + 1, l3, mp3) (by simp only; omega) ⟨hil, by simp only; rw [hms, hst]; exact h5, by simp only; rw [hms, hml]; exact h3, by simp only; rw [hms, hml]; omega⟩ (weak_of rfl ?_ (by repeat ((conv => whnf); first | exact trivial | refine And.intro rfl ?_ | refine And.intro (incD (by omega)) ?_)))
        simp only [hms, hml]
        repeat ((conv => whnf); first | exact trivial | refine And.intro rfl ?_ | refine And.intro (incD (by omega)) ?_)
    · rw [if_neg hin] at hml
      have hst : mstep (mergeR r (s.take i)) s[i] = ins s[i] (mergeR r (s.take i)) := by
        unfold mstep; rw [if_neg hin]
      conv => whnf
      refine again (i + 1, l3, mp3) (by simp only; omega) ⟨hil, by simp only; rw [hms, hst]; exact h5, by simp only; rw [hms, hml]; omega, by simp only; rw [hms, hml]; omega⟩ (weak_of rfl ?_ (by repeat ((conv => whnf); first | exact trivial | refine And.intro rfl ?_ | refine And.intro (incD (by omega)) ?_)))
      have e5 : (mergeR r (s.take i)).length + 1 - r.length = (mergeR r (s.take i)).length - r.length + 1 := by omega
      simp only [hms, hml, e5]
      repeat ((conv => whnf); first | exact trivial | refine And.intro rfl ?_ | refine And.intro (incD (by omega)) ?_)
  · have hc : ¬ (i : Int) < (s.length : Int) := of_decide_eq_false hc
    have e : i = s.length := by omega
    subst e
    rw [List.take_length] at h2 h3
    conv => whnf
    refine ⟨h3, ?_, l2, mp2, rfl, h2⟩
    rw [List.take_length]
/-- What is merged out of these items: of each name the one of least rank. -/
structure Mrg (cur S : List It) : Prop where
  le : ∀ x ∈ cur, x ∈ S ∧ ∀ y ∈ S, y.2 = x.2 → x.1 ≤ y.1
  ex : ∀ y ∈ S, ∃ z ∈ cur, z.2 = y.2
  nd : (nms cur).Nodup
  so : Sorted cur
theorem Mrg.start {r : List It} (hn : (nms r).Nodup) (hs : Sorted r) : Mrg r r :=
  ⟨fun x hx => ⟨hx, fun y hy e => by rw [nodup_eq hn hy hx e]; exact Int.le_refl _⟩, fun y hy => ⟨y, hy, rfl⟩, hn, hs⟩
theorem ins_mem {x y : It} {l : List It} : y ∈ ins x l ↔ y = x ∨ y ∈ l := by
  rw [(ins_perm x l).mem_iff, List.mem_append, List.mem_singleton]; exact Or.comm
theorem rem_mem {s : ByteArray} {y : It} {l : List It} : y ∈ rem s l ↔ y ∈ l ∧ y.2 ≠ s := by
  unfold rem; rw [List.mem_filter]; simp
theorem ins_nodup {x : It} {l : List It} (h : (nms l).Nodup) (hx : x.2 ∉ nms l) : (nms (ins x l)).Nodup := by
  have hp : (nms (ins x l)).Perm (nms l ++ [x.2]) := by
    have := (ins_perm x l).map (·.2)
    simpa [nms] using this
  rw [hp.nodup_iff, List.nodup_append]
  exact ⟨h, by simp, fun a ha b hb => by simp only [List.mem_singleton] at hb; subst hb; rintro rfl; exact hx ha⟩
theorem rem_nodup {s : ByteArray} {l : List It} (h : (nms l).Nodup) : (nms (rem s l)).Nodup := List.Nodup.sublist (List.Sublist.map _ List.filter_sublist) h
theorem Mrg.step {cur S : List It} (h : Mrg cur S) (x : It) : Mrg (mstep cur x) (S ++ [x]) := by
  unfold mstep
  by_cases hin : x.2 ∈ nms cur
  · rw [if_pos hin]
    obtain ⟨y0, hy0, e0⟩ := List.mem_map.1 hin
    have hrk : rkOf cur x.2 = y0.1 := rkOf_eq h.nd (by rw [← e0]; exact hy0)
    rw [hrk]
    by_cases hlt : x.1 < y0.1
    · rw [if_pos hlt]
      refine ⟨fun z hz => ?_, fun y hy => ?_, ins_nodup (rem_nodup h.nd) (rem_notin _ _), ins_sorted (rem_sorted h.so _)⟩
      · rcases ins_mem.1 hz with rfl | hz
        · refine ⟨by simp, fun y hy e => ?_⟩
          rcases List.mem_append.1 hy with hy | hy
          · have := (h.le y0 hy0).2 y hy (by rw [e, e0]); omega
          · rw [List.mem_singleton] at hy; subst hy; exact Int.le_refl _
        · obtain ⟨hz, hne⟩ := rem_mem.1 hz
          refine ⟨List.mem_append_left _ (h.le z hz).1, fun y hy e => ?_⟩
          rcases List.mem_append.1 hy with hy | hy
          · exact (h.le z hz).2 y hy e
          · rw [List.mem_singleton] at hy; subst hy; exact absurd e.symm hne
      · rcases List.mem_append.1 hy with hy | hy
        · obtain ⟨z, hz, e⟩ := h.ex y hy
          by_cases hzx : z.2 = x.2
          · exact ⟨x, ins_mem.2 (.inl rfl), by rw [← e, hzx]⟩
          · exact ⟨z, ins_mem.2 (.inr (rem_mem.2 ⟨hz, hzx⟩)), e⟩
        · rw [List.mem_singleton] at hy; subst hy; exact ⟨y, ins_mem.2 (.inl rfl), rfl⟩
    · rw [if_neg hlt]
      refine ⟨fun z hz => ⟨List.mem_append_left _ (h.le z hz).1, fun y hy e => ?_⟩, fun y hy => ?_, h.nd, h.so⟩
      · rcases List.mem_append.1 hy with hy | hy
        · exact (h.le z hz).2 y hy e
        · rw [List.mem_singleton] at hy; subst hy
          have := nodup_eq h.nd hz hy0 (by rw [e0, e])
          subst this; omega
      · rcases List.mem_append.1 hy with hy | hy
        · exact h.ex y hy
        · rw [List.mem_singleton] at hy; subst hy; exact ⟨y0, hy0, e0⟩
  · rw [if_neg hin]
    refine ⟨fun z hz => ?_, fun y hy => ?_, ins_nodup h.nd hin, ins_sorted h.so⟩
    · rcases ins_mem.1 hz with rfl | hz2
      · refine ⟨by simp, fun y hy e => ?_⟩
        rcases List.mem_append.1 hy with hy | hy
        · obtain ⟨w, hw, e2⟩ := h.ex y hy
          exact absurd (List.mem_map.2 ⟨w, hw, by rw [e2, e]⟩) hin
        · rw [List.mem_singleton] at hy; subst hy; exact Int.le_refl _
      · refine ⟨List.mem_append_left _ (h.le z hz2).1, fun y hy e => ?_⟩
        rcases List.mem_append.1 hy with hy | hy
        · exact (h.le z hz2).2 y hy e
        · rw [List.mem_singleton] at hy; subst hy
          exact absurd (List.mem_map.2 ⟨z, hz2, e.symm⟩) hin
    · rcases List.mem_append.1 hy with hy | hy
      · obtain ⟨z, hz, e⟩ := h.ex y hy
        exact ⟨z, ins_mem.2 (.inr hz), e⟩
      · rw [List.mem_singleton] at hy; subst hy; exact ⟨y, ins_mem.2 (.inl rfl), rfl⟩
theorem Mrg.fold : ∀ {s cur S : List It}, Mrg cur S → Mrg (s.foldl mstep cur) (S ++ s)
  | [], cur, S, h => by simpa using h
  | x :: r, cur, S, h => by
    have := Mrg.fold (s := r) (h.step x)
    simpa using this
theorem Mrg.eq {c c' S S' : List It} (h : Mrg c S) (h' : Mrg c' S') (hS : ∀ x, x ∈ S ↔ x ∈ S') : c = c' := by
  have half : ∀ {c c' S S' : List It}, Mrg c S → Mrg c' S' → (∀ x, x ∈ S ↔ x ∈ S') → ∀ x ∈ c, x ∈ c' := by
    intro c c' S S' h h' hS x hx
    obtain ⟨h1, h2⟩ := h.le x hx
    obtain ⟨z, hz, e⟩ := h'.ex x ((hS x).1 h1)
    obtain ⟨h3, h4⟩ := h'.le z hz
    have h5 := h2 z ((hS z).2 h3) e
    have h6 := h4 x ((hS x).1 h1) e.symm
    have : z = x := Prod.ext (by omega) e
    rw [← this]; exact hz
  have nd : ∀ {c S : List It}, Mrg c S → c.Nodup := by
    intro c S h
    have := h.nd
    rw [List.nodup_iff_pairwise_ne] at this ⊢
    unfold nms at this
    rw [List.pairwise_map] at this
    exact this.imp fun hne e => hne (by rw [e])
  exact sorted_eq ((List.perm_ext_iff_of_nodup (nd h) (nd h')).2 fun x => ⟨half h h' hS x, half h' h (fun x => (hS x).symm) x⟩) h.so h'.so
theorem merge_comm {r s : List It} (hr : (nms r).Nodup) (hs : (nms s).Nodup) (sr : Sorted r) (ss : Sorted s) : mergeR r s = mergeR s r :=
  Mrg.eq (Mrg.start hr sr).fold (Mrg.start hs ss).fold fun x => by rw [List.mem_append, List.mem_append]; exact Or.comm
theorem merge_len : ∀ {s r : List It}, (nms r).Nodup → Sorted r → (mergeR r s).length ≤ r.length + s.length
  | [], r, _, _ => by simp [mergeR]
  | x :: t, r, hn, hs => by
    have h1 := (Mrg.start hn hs).step x
    have h2 := merge_len (s := t) h1.nd h1.so
    have h3 := mstep_len hn x
    have h4 : (mergeR r (x :: t)) = mergeR (mstep r x) t := rfl
    rw [h4]
    have h5 : (if x.2 ∈ nms r then 0 else 1) ≤ 1 := by split <;> omega
    simp only [List.length_cons]
    omega
def SZ2 (l m : List It) : Prop := l.length + m.length ≤ 1048576
theorem queueMerges_fn (l m : List It) (hz : SZ2 l m) : FnR Try.prog G0 6 [dQ l, dQ m] (.bool true) := by
  unfold SZ2 at hz
  have hr := newS_len l
  have hs := newS_len m
  refine fnQ_of_vc txok mixed [] Try.func6 rfl rfl (by simp) fun b => ?_
  conv => whnf
  refine callF (mine_fn l) gf10 rfl rfl ?_
  conv => whnf
  refine callT [] (newR_new l) gf9 rfl rfl trivial rfl ?_
  rintro o' H' ⟨rfl, l1, mp1, rfl, h1⟩
  conv => whnf
  refine callF (mine_fn m) gf10 rfl rfl ?_
  conv => whnf
  refine callT [] (newR_new m) gf9 rfl rfl trivial rfl ?_
  rintro o' H' ⟨rfl, l2, mp2, rfl, h2⟩
  conv => whnf
  refine callF (mine_fn l) gf10 rfl rfl ?_
  conv => whnf
  refine callT [] (newR_new l) gf9 rfl rfl trivial rfl ?_
  rintro o' H' ⟨rfl, l3, mp3, rfl, h3⟩
  conv => whnf
  refine callF (mine_fn m) gf10 rfl rfl ?_
  conv => whnf
  refine callT [] (newR_new m) gf9 rfl rfl trivial rfl ?_
  rintro o' H' ⟨rfl, l4, mp4, rfl, h4⟩
  have hcm := merge_comm h1.nodup h2.nodup h1.s h2.s
  conv => whnf
  refine callT [3, 4, 5] (lenR_tri l2 mp2 _ h2) gf12 rfl rfl ⟨rfl, rfl, rfl, trivial⟩ rfl ?_
  rintro o' H' ⟨rfl, rfl⟩
  conv => whnf
  refine callT [0, 1, 2, 3, 4, 5] (merge_tri l1 mp1 l2 mp2 _ _ (by simp only [LB]; omega) h1 h2) gf20 rfl rfl ⟨rfl, rfl, rfl, rfl, rfl, rfl, trivial⟩ rfl ?_
  rintro o' H' ⟨hge, rfl, l5, mp5, rfl, h5⟩
  conv => whnf
  refine callT [9, 10, 11, 6, 7, 8] (merge_tri l4 mp4 l3 mp3 _ _ (by simp only [LB]; omega) h4 h3) gf20 rfl rfl ⟨rfl, rfl, rfl, rfl, rfl, rfl, trivial⟩ rfl ?_
  rintro o' H' ⟨hge', rfl, l6, mp6, rfl, h6⟩
  rw [← hcm] at h6
  have hml : (mergeR (newS l) (newS m)).length ≤ (newS l).length + (newS m).length := merge_len h1.nodup h1.s
  conv => whnf
  refine callT [0, 1, 2] (itemsR_tri l5 mp5 _ (by simp only [LB]; omega) h5) gf11 rfl rfl ⟨rfl, rfl, rfl, trivial⟩ rfl ?_
  rintro o' H' ⟨rfl, rfl⟩
  conv => whnf
  refine callT [9, 10, 11] (itemsR_tri l6 mp6 _ (by simp only [LB]; omega) h6) gf11 rfl rfl ⟨rfl, rfl, rfl, trivial⟩ rfl ?_
  rintro o' H' ⟨rfl, rfl⟩
  conv => whnf
  refine callF (equal_fn _ _) gf14 rfl rfl ?_
  conv => whnf
  refine And.intro (fun _ => ?_) (fun h => by simp at h)
  conv => whnf
  refine callT [0, 1, 2] (lenR_tri l5 mp5 _ h5) gf12 rfl rfl ⟨rfl, rfl, rfl, trivial⟩ rfl ?_
  rintro o' H' ⟨rfl, rfl⟩
  conv => whnf
  refine callT [6, 7, 8] (lenR_tri l3 mp3 _ h3) gf12 rfl rfl ⟨rfl, rfl, rfl, trivial⟩ rfl ?_
  rintro o' H' ⟨rfl, rfl⟩
  conv => whnf
  have hw : IntKind.i64.wrap (((mergeR (newS l) (newS m)).length : Int) - ((newS l).length : Int)) = (((mergeR (newS l) (newS m)).length - (newS l).length : Nat) : Int) := by
    rw [Go.Vc.wrap_small (by omega) (by omega)]; omega
  rw [hw]
  refine And.intro (fun _ => ?_) (fun h => by simp at h)
  conv => whnf
  refine callT [3, 4, 5] (lenR_tri l2 mp2 _ h2) gf12 rfl rfl ⟨rfl, rfl, rfl, trivial⟩ rfl ?_
  rintro o' H' ⟨rfl, rfl⟩
  conv => whnf
  refine And.intro (fun _ => ?_) (fun h => by simp at h)
  conv => whnf
  refine callT [3, 4, 5] (itemsR_tri l2 mp2 _ (by simp only [LB]; omega) h2) gf11 rfl rfl ⟨rfl, rfl, rfl, trivial⟩ rfl ?_
  rintro o' H' ⟨rfl, rfl⟩
  conv => whnf
  refine callF (mine_fn m) gf10 rfl rfl ?_
  conv => whnf
  refine callT [] (newR_new m) gf9 rfl rfl trivial rfl ?_
  rintro o' H' ⟨rfl, l7, mp7, rfl, h7⟩
  conv => whnf
  refine callT [12, 13, 14] (itemsR_tri l7 mp7 _ (by simp only [LB]; omega) h7) gf11 rfl rfl ⟨rfl, rfl, rfl, trivial⟩ rfl ?_
  rintro o' H' ⟨rfl, rfl⟩
  conv => whnf
  refine callF (equal_fn _ _) gf14 rfl rfl ?_
  conv => whnf
  refine And.intro (fun _ => ?_) (fun h => by simp at h)
  conv => whnf
  refine callF alive_fn gf16 rfl rfl ?_
  conv => whnf
end Go.Proofs.Ytohhchcjfebkhaa

/- What the rows' readings say of arguments: lists of items, of operations. -/
set_option linter.unusedVariables false
set_option linter.unusedSimpArgs false
namespace Go.Proofs.Ytohhchcjfebkhaa
open Go.Vx Go.Vc Go.RowKit

/-- An operation of the law's. -/
structure OpT where
  k : Int
  r : Int
  n : ByteArray
  l : List It
def encOp (o : OpT) : List D := [.int .i64 o.k, .int .i64 o.r, .str o.n, dQ o.l]
theorem encOp_len (o : OpT) : (encOp o).length = 4 := rfl
abbrev encOps (l : List OpT) : List D := fl encOp l
abbrev dOps (l : List OpT) : D := slD 56 l.length (encOps l)

theorem cells35 : Try.prog.cellsOf 35 = 2 := by kernel_rfl
theorem cells49 : Try.prog.cellsOf 49 = 4 := by kernel_rfl
theorem cells3 : Try.prog.cellsOf 3 = 1 := by kernel_rfl
theorem cells9 : Try.prog.cellsOf 9 = 1 := by kernel_rfl
theorem cells22 : Try.prog.cellsOf 22 = 1 := by kernel_rfl

section
variable {H : Type} {enc : TypeId × Value → H} {W : World} {sp : Nat → Bool}

theorem bulk_one (d : DataW H) : 1 ≤ Rows.uptoBulk d := by
  cases d with
  | lit l => cases l <;> simp [Rows.uptoBulk]
  | nil => simp [Rows.uptoBulk]
  | ptr d => simp [Rows.uptoBulk]
  | slice elems spare => simp [Rows.uptoBulk]
  | agg parts => simp [Rows.uptoBulk]
  | iface t d => simp [Rows.uptoBulk]
  | map entries => simp [Rows.uptoBulk]
  | held h => simp [Rows.uptoBulk]
def muL {α : Type} (μ : α → Nat) : List α → Nat
  | [] => 0
  | x :: r => μ x + muL μ r
theorem elems_G {α : Type} {f : α → List D} {w t n : Nat} (hf : ∀ x, (f x).length = w) (hcl : Try.prog.cellsOf t = w) (μ : α → Nat)
    (ih : ∀ (cs : List Value) (x : DataW H × List MemPlace), DataW.trod enc Try.prog W 0 sp true n t cs = some x → Rows.uptoBulk x.1 ≤ 1048576 → ∃ y, RepDs (InW W) W (f y) cs ∧ μ y ≤ Rows.uptoBulk x.1)
    {a : Addr} {len : Nat} {elems : List (DataW H × List MemPlace)} (hlen : elems.length = len)
    (hel : ∀ i, i < len → (W.cells? 0 (a.add (i * Try.prog.cellsOf t)) (Try.prog.cellsOf t)).bind (DataW.trod enc Try.prog W 0 sp true n t) = elems[i]?) :
    ∀ (m j : Nat), j + m = len → Rows.uptoBulkAll ((elems.drop j).map (·.1)) ≤ 1048576 → ∃ ys : List α, ys.length = m ∧ RepC (InW W) W (fl f ys) (some a) (j * w) ∧ muL μ ys ≤ Rows.uptoBulkAll ((elems.drop j).map (·.1))
  | 0, j, _, _ => ⟨[], rfl, by simp only [fl, RepC], by simp [muL]⟩
  | m + 1, j, hj, hb => by
    have hjl : j < elems.length := by omega
    rw [List.drop_eq_getElem_cons hjl, List.map_cons, Rows.uptoBulkAll] at hb ⊢
    obtain ⟨ys, h1, h2, h3⟩ := elems_G hf hcl μ ih hlen hel m (j + 1) (by omega) (by omega)
    have h4 := hel j (by omega)
    rw [List.getElem?_eq_getElem hjl, hcl] at h4
    obtain ⟨cs, h5, h6⟩ := Option.bind_eq_some_iff.1 h4
    obtain ⟨y, k2, k3⟩ := ih cs _ h6 (by omega)
    obtain ⟨_, _, q⟩ := World.cells?_some h5
    have hlc : cs.length = w := by rw [k2.len]; exact hf y
    have hc : ∀ (i : Nat) v, cs[i]? = some v → W.cell? (a.add (j * w + i)) = some v := by
      intro i v hv
      have hi := (List.getElem?_eq_some_iff.1 hv).1
      have q := q i (by omega)
      rw [Go.Vc.add_add] at q
      rw [q, hv]
    refine ⟨y :: ys, by simp [h1], ?_, by simp only [muL]; omega⟩
    show RepC (InW W) W (f y ++ fl f ys) (some a) (j * w)
    refine RepC.app (RepDs.cellsW k2 hc) ?_
    rw [hf y, show j * w + w = (j + 1) * w from by rw [Nat.succ_mul]]
    exact h2
theorem two_of {α : Type} : ∀ {l : List α}, l.length = 2 → ∃ a b, l = [a, b]
  | [a, b], _ => ⟨a, b, rfl⟩
theorem four_of {α : Type} : ∀ {l : List α}, l.length = 4 → ∃ a b c d, l = [a, b, c, d]
  | [a, b, c, d], _ => ⟨a, b, c, d, rfl⟩
theorem open_It {fuel : Nat} {cs : List Value} {x : DataW H × List MemPlace} (h : DataW.trod enc Try.prog W 0 sp true fuel 35 cs = some x) : ∃ y : It, RepDs (InW W) W (encIt y) cs ∧ 1 ≤ Rows.uptoBulk x.1 := by
  obtain ⟨xs, n, rfl, rfl, hl, hxl, hf⟩ := DataW.trod_struct Try.underlying35 h
  rw [cells35] at hl
  have hxl : xs.length = 2 := hxl.trans (by kernel_rfl)
  obtain ⟨y0, y1, rfl⟩ := two_of hxl
  obtain ⟨v0, v1, rfl⟩ := two_of hl
  have f0 : DataW.trod enc Try.prog W 0 sp true n 3 (List.take (Try.prog.cellsOf 3) [v0, v1]) = some y0 := hf 0 _ rfl
  have f1 : DataW.trod enc Try.prog W 0 sp true n 9 (List.take (Try.prog.cellsOf 9) [v1]) = some y1 := hf 1 _ rfl
  rw [cells3] at f0
  rw [cells9] at f1
  obtain ⟨k, hk, e0, _⟩ := DataW.trod_int Try.underlying3 f0
  obtain ⟨s, hs, e1, _⟩ := DataW.trod_string Try.underlying9 f1
  simp at hk hs
  subst hk; subst hs
  refine ⟨(k, s), ?_, by simp [Rows.uptoBulk]⟩
  simp only [encIt, RepDs, RepD]
  exact ⟨_, _, rfl, rfl, _, _, rfl, rfl, rfl⟩
theorem dnil {eb : Nat} {cs : List D} (h : cs = []) : RepD (InW W) W (slD eb 0 cs) (.slice none 0 0) := by
  subst h
  simp only [slD, ebn, RepD]
  exact ⟨none, 0, rfl, Nat.le_refl _, by simp, by simp, by simp only [RepC]⟩
theorem ebn_le (eb n : Nat) : ebn eb n ≤ eb := by unfold ebn; split <;> omega
theorem muL_one {α : Type} : ∀ l : List α, muL (fun _ => 1) l = l.length
  | [] => rfl
  | x :: r => by simp only [muL, muL_one r, List.length_cons]; omega
/-- A slice of items. -/
theorem open_Q {fuel : Nat} {A : Option Addr} {n c : Nat} {x : DataW H × List MemPlace} (h : DataW.trod enc Try.prog W 0 sp true fuel 22 [.slice A n c] = some x) (hb : Rows.uptoBulk x.1 ≤ 1048576) :
    ∃ l : List It, RepD (InW W) W (dQ l) (.slice A n c) ∧ l.length ≤ Rows.uptoBulk x.1 := by
  rcases DataW.trod_slice Try.underlying22 h with ⟨hs, e2⟩ | ⟨a, len, cap, elems, rest, m, rfl, hs, e2, _, hle, hcap, hlen, hel, _⟩
  · injection hs with hs _
    injection hs with h1 h2 h3
    subst h1; subst h2; subst h3
    exact ⟨[], dnil rfl, by simp⟩
  · injection hs with hs _
    injection hs with h1 h2 h3
    subst h1; subst h2; subst h3
    subst e2
    simp only [Rows.uptoBulk] at hb ⊢
    obtain ⟨l, h1, h2, h3⟩ := elems_G encIt_len cells35 (fun _ => 1) (fun cs x hx hb => open_It hx) hlen hel n 0 (by omega) (by simp; omega)
    simp only [List.drop_zero, muL_one] at h3
    refine ⟨l, ?_, by omega⟩
    subst h1
    simp only [dQ, slD, RepD]
    refine ⟨some a, c, rfl, hle, ?_, fun _ => ⟨a, rfl⟩, by simpa [encQ] using h2⟩
    have := Nat.mul_le_mul_left l.length (ebn_le 24 l.length)
    simp only [LB]; omega
def opMu (o : OpT) : Nat := 1 + o.l.length
theorem open_Op {fuel : Nat} {cs : List Value} {x : DataW H × List MemPlace} (h : DataW.trod enc Try.prog W 0 sp true fuel 49 cs = some x) (hb : Rows.uptoBulk x.1 ≤ 1048576) : ∃ y : OpT, RepDs (InW W) W (encOp y) cs ∧ opMu y ≤ Rows.uptoBulk x.1 := by
  obtain ⟨xs, n, rfl, rfl, hl, hxl, hf⟩ := DataW.trod_struct Try.underlying49 h
  rw [cells49] at hl
  have hxl : xs.length = 4 := hxl.trans (by kernel_rfl)
  obtain ⟨y0, y1, y2, y3, rfl⟩ := four_of hxl
  obtain ⟨v0, v1, v2, v3, rfl⟩ := four_of hl
  have f0 : DataW.trod enc Try.prog W 0 sp true n 3 (List.take (Try.prog.cellsOf 3) [v0, v1, v2, v3]) = some y0 := hf 0 _ rfl
  have f1 : DataW.trod enc Try.prog W 0 sp true n 3 (List.take (Try.prog.cellsOf 3) [v1, v2, v3]) = some y1 := hf 1 _ rfl
  have f2 : DataW.trod enc Try.prog W 0 sp true n 9 (List.take (Try.prog.cellsOf 9) [v2, v3]) = some y2 := hf 2 _ rfl
  have f3 : DataW.trod enc Try.prog W 0 sp true n 22 (List.take (Try.prog.cellsOf 22) [v3]) = some y3 := hf 3 _ rfl
  rw [cells3] at f0 f1
  rw [cells9] at f2
  rw [cells22] at f3
  obtain ⟨k, hk, e0, _⟩ := DataW.trod_int Try.underlying3 f0
  obtain ⟨r, hr, e1, _⟩ := DataW.trod_int Try.underlying3 f1
  obtain ⟨s, hs, e2, _⟩ := DataW.trod_string Try.underlying9 f2
  simp at hk hr hs
  subst hk; subst hr; subst hs
  simp only [List.map_cons, List.map_nil, Rows.uptoBulk, Rows.uptoBulkAll] at hb ⊢
  have hsl : ∃ A n c, v3 = .slice A n c := by
    rcases DataW.trod_slice Try.underlying22 f3 with ⟨hs, _⟩ | ⟨a, len, cap, elems, rest, m, _, hs, _⟩
    · simp at hs; exact ⟨_, _, _, hs⟩
    · simp at hs; exact ⟨_, _, _, hs⟩
  obtain ⟨A, n', c, rfl⟩ := hsl
  obtain ⟨l, h1, h2⟩ := open_Q f3 (by omega)
  refine ⟨⟨k, r, s, l⟩, ?_, by simp only [opMu]; omega⟩
  simp only [encOp, RepDs.eq_2, RepDs.eq_1]
  refine ⟨_, _, rfl, by simp only [RepD], _, _, rfl, by simp only [RepD], _, _, rfl, by simp only [RepD], _, _, rfl, h1, rfl⟩
/-- A slice of operations. -/
theorem open_O {fuel : Nat} {A : Option Addr} {n c : Nat} {x : DataW H × List MemPlace} (h : DataW.trod enc Try.prog W 0 sp true fuel 44 [.slice A n c] = some x) (hb : Rows.uptoBulk x.1 ≤ 1048576) :
    ∃ l : List OpT, RepD (InW W) W (dOps l) (.slice A n c) ∧ muL opMu l ≤ Rows.uptoBulk x.1 := by
  rcases DataW.trod_slice Try.underlying44 h with ⟨hs, e2⟩ | ⟨a, len, cap, elems, rest, m, rfl, hs, e2, _, hle, hcap, hlen, hel, _⟩
  · injection hs with hs _
    injection hs with h1 h2 h3
    subst h1; subst h2; subst h3
    exact ⟨[], dnil rfl, by simp [muL]⟩
  · injection hs with hs _
    injection hs with h1 h2 h3
    subst h1; subst h2; subst h3
    subst e2
    simp only [Rows.uptoBulk] at hb ⊢
    obtain ⟨l, h1, h2, h3⟩ := elems_G encOp_len cells49 opMu (fun cs x hx hb => open_Op hx hb) hlen hel n 0 (by omega) (by simp; omega)
    simp only [List.drop_zero] at h3
    have hle2 : l.length ≤ muL opMu l := by
      clear h2 h1
      induction l with
      | nil => simp
      | cons x r ih => simp only [muL, opMu, List.length_cons] at *; omega
    refine ⟨l, ?_, by omega⟩
    subst h1
    simp only [dOps, slD, RepD]
    refine ⟨some a, c, rfl, hle, ?_, fun _ => ⟨a, rfl⟩, by simpa using h2⟩
    have := Nat.mul_le_mul_left l.length (ebn_le 56 l.length)
    simp only [LB]; omega
end
end Go.Proofs.Ytohhchcjfebkhaa

/- What the rows' readings say of arguments, with the names' sizes. -/
set_option linter.unusedVariables false
set_option linter.unusedSimpArgs false
namespace Go.Proofs.Ytohhchcjfebkhaa
open Go.Vx Go.Vc Go.RowKit
section
variable {H : Type} {enc : TypeId × Value → H} {W : World} {sp : Nat → Bool}
theorem muL_mem {α : Type} {μ : α → Nat} : ∀ {l : List α} {x : α}, x ∈ l → μ x ≤ muL μ l
  | y :: r, x, h => by
    simp only [muL]
    rcases List.mem_cons.1 h with rfl | h
    · omega
    · have := muL_mem (μ := μ) h; omega
theorem muL_len {α : Type} {μ : α → Nat} (h1 : ∀ x, 1 ≤ μ x) : ∀ l : List α, l.length ≤ muL μ l
  | [] => by simp
  | y :: r => by simp only [muL, List.length_cons]; have := muL_len h1 r; have := h1 y; omega
def itMu (x : It) : Nat := 1 + x.2.size
theorem open_Itz {fuel : Nat} {cs : List Value} {x : DataW H × List MemPlace} (h : DataW.trod enc Try.prog W 0 sp true fuel 35 cs = some x) : ∃ y : It, RepDs (InW W) W (encIt y) cs ∧ itMu y ≤ Rows.uptoBulk x.1 := by
  obtain ⟨xs, n, rfl, rfl, hl, hxl, hf⟩ := DataW.trod_struct Try.underlying35 h
  rw [cells35] at hl
  have hxl : xs.length = 2 := hxl.trans (by kernel_rfl)
  obtain ⟨y0, y1, rfl⟩ := two_of hxl
  obtain ⟨v0, v1, rfl⟩ := two_of hl
  have f0 : DataW.trod enc Try.prog W 0 sp true n 3 (List.take (Try.prog.cellsOf 3) [v0, v1]) = some y0 := hf 0 _ rfl
  have f1 : DataW.trod enc Try.prog W 0 sp true n 9 (List.take (Try.prog.cellsOf 9) [v1]) = some y1 := hf 1 _ rfl
  rw [cells3] at f0
  rw [cells9] at f1
  obtain ⟨k, hk, e0, _⟩ := DataW.trod_int Try.underlying3 f0
  obtain ⟨s, hs, e1, _⟩ := DataW.trod_string Try.underlying9 f1
  simp at hk hs
  subst hk; subst hs
  refine ⟨(k, s), ?_, ?_⟩
  · simp only [encIt, RepDs, RepD]
    exact ⟨_, _, rfl, rfl, _, _, rfl, rfl, rfl⟩
  · have e1' : y1.1 = .lit (.string s.data.toList) := congrArg Prod.fst e1
    simp only [List.map_cons, List.map_nil, Rows.uptoBulk, Rows.uptoBulkAll, e1', itMu]
    have : s.data.toList.length = s.size := rfl
    omega
/-- A slice of items. -/
theorem open_Qz {fuel : Nat} {A : Option Addr} {n c : Nat} {x : DataW H × List MemPlace} (h : DataW.trod enc Try.prog W 0 sp true fuel 22 [.slice A n c] = some x) (hb : Rows.uptoBulk x.1 ≤ 1048576) :
    ∃ l : List It, RepD (InW W) W (dQ l) (.slice A n c) ∧ muL itMu l ≤ Rows.uptoBulk x.1 := by
  rcases DataW.trod_slice Try.underlying22 h with ⟨hs, e2⟩ | ⟨a, len, cap, elems, rest, m, rfl, hs, e2, _, hle, hcap, hlen, hel, _⟩
  · injection hs with hs _
    injection hs with h1 h2 h3
    subst h1; subst h2; subst h3
    exact ⟨[], dnil rfl, by simp [muL]⟩
  · injection hs with hs _
    injection hs with h1 h2 h3
    subst h1; subst h2; subst h3
    subst e2
    simp only [Rows.uptoBulk] at hb ⊢
    obtain ⟨l, h1, h2, h3⟩ := elems_G encIt_len cells35 itMu (fun cs x hx hb => open_Itz hx) hlen hel n 0 (by omega) (by simp; omega)
    simp only [List.drop_zero] at h3
    have hll := muL_len (μ := itMu) (fun x => by simp only [itMu]; omega) l
    refine ⟨l, ?_, by omega⟩
    subst h1
    simp only [dQ, slD, RepD]
    refine ⟨some a, c, rfl, hle, ?_, fun _ => ⟨a, rfl⟩, by simpa [encQ] using h2⟩
    have := Nat.mul_le_mul_left l.length (ebn_le 24 l.length)
    simp only [LB]; omega
def opMz (o : OpT) : Nat := 1 + o.n.size + muL itMu o.l
theorem open_Opz {fuel : Nat} {cs : List Value} {x : DataW H × List MemPlace} (h : DataW.trod enc Try.prog W 0 sp true fuel 49 cs = some x) (hb : Rows.uptoBulk x.1 ≤ 1048576) : ∃ y : OpT, RepDs (InW W) W (encOp y) cs ∧ opMz y ≤ Rows.uptoBulk x.1 := by
  obtain ⟨xs, n, rfl, rfl, hl, hxl, hf⟩ := DataW.trod_struct Try.underlying49 h
  rw [cells49] at hl
  have hxl : xs.length = 4 := hxl.trans (by kernel_rfl)
  obtain ⟨y0, y1, y2, y3, rfl⟩ := four_of hxl
  obtain ⟨v0, v1, v2, v3, rfl⟩ := four_of hl
  have f0 : DataW.trod enc Try.prog W 0 sp true n 3 (List.take (Try.prog.cellsOf 3) [v0, v1, v2, v3]) = some y0 := hf 0 _ rfl
  have f1 : DataW.trod enc Try.prog W 0 sp true n 3 (List.take (Try.prog.cellsOf 3) [v1, v2, v3]) = some y1 := hf 1 _ rfl
  have f2 : DataW.trod enc Try.prog W 0 sp true n 9 (List.take (Try.prog.cellsOf 9) [v2, v3]) = some y2 := hf 2 _ rfl
  have f3 : DataW.trod enc Try.prog W 0 sp true n 22 (List.take (Try.prog.cellsOf 22) [v3]) = some y3 := hf 3 _ rfl
  rw [cells3] at f0 f1
  rw [cells9] at f2
  rw [cells22] at f3
  obtain ⟨k, hk, e0, _⟩ := DataW.trod_int Try.underlying3 f0
  obtain ⟨r, hr, e1, _⟩ := DataW.trod_int Try.underlying3 f1
  obtain ⟨s, hs, e2, _⟩ := DataW.trod_string Try.underlying9 f2
  simp at hk hr hs
  subst hk; subst hr; subst hs
  have e2' : y2.1 = .lit (.string s.data.toList) := congrArg Prod.fst e2
  simp only [List.map_cons, List.map_nil, Rows.uptoBulk, Rows.uptoBulkAll, e2'] at hb ⊢
  have hss : s.data.toList.length = s.size := rfl
  have hsl : ∃ A n c, v3 = .slice A n c := by
    rcases DataW.trod_slice Try.underlying22 f3 with ⟨hs, _⟩ | ⟨a, len, cap, elems, rest, m, _, hs, _⟩
    · simp at hs; exact ⟨_, _, _, hs⟩
    · simp at hs; exact ⟨_, _, _, hs⟩
  obtain ⟨A, n', c, rfl⟩ := hsl
  obtain ⟨l, h1, h2⟩ := open_Qz f3 (by omega)
  refine ⟨⟨k, r, s, l⟩, ?_, by simp only [opMz]; omega⟩
  simp only [encOp, RepDs.eq_2, RepDs.eq_1]
  refine ⟨_, _, rfl, by simp only [RepD], _, _, rfl, by simp only [RepD], _, _, rfl, by simp only [RepD], _, _, rfl, h1, rfl⟩
/-- A slice of operations. -/
theorem open_Oz {fuel : Nat} {A : Option Addr} {n c : Nat} {x : DataW H × List MemPlace} (h : DataW.trod enc Try.prog W 0 sp true fuel 44 [.slice A n c] = some x) (hb : Rows.uptoBulk x.1 ≤ 1048576) :
    ∃ l : List OpT, RepD (InW W) W (dOps l) (.slice A n c) ∧ muL opMz l ≤ Rows.uptoBulk x.1 := by
  rcases DataW.trod_slice Try.underlying44 h with ⟨hs, e2⟩ | ⟨a, len, cap, elems, rest, m, rfl, hs, e2, _, hle, hcap, hlen, hel, _⟩
  · injection hs with hs _
    injection hs with h1 h2 h3
    subst h1; subst h2; subst h3
    exact ⟨[], dnil rfl, by simp [muL]⟩
  · injection hs with hs _
    injection hs with h1 h2 h3
    subst h1; subst h2; subst h3
    subst e2
    simp only [Rows.uptoBulk] at hb ⊢
    obtain ⟨l, h1, h2, h3⟩ := elems_G encOp_len cells49 opMz (fun cs x hx hb => open_Opz hx hb) hlen hel n 0 (by omega) (by simp; omega)
    simp only [List.drop_zero] at h3
    have hll := muL_len (μ := opMz) (fun x => by simp only [opMz]; omega) l
    refine ⟨l, ?_, by omega⟩
    subst h1
    simp only [dOps, slD, RepD]
    refine ⟨some a, c, rfl, hle, ?_, fun _ => ⟨a, rfl⟩, by simpa using h2⟩
    have := Nat.mul_le_mul_left l.length (ebn_le 56 l.length)
    simp only [LB]; omega
end
end Go.Proofs.Ytohhchcjfebkhaa

