/- QueueOrder: the walk. -/
import Derived.Test.YtohhchcjfebkhaaWb
set_option linter.unusedSimpArgs false
set_option linter.unusedVariables false
namespace Go.Proofs.Ytohhchcjfebkhaa
open Go.Vx Go.Vc Go.RowKit

theorem newQ_mem {l : List It} {x : It} (h : x ∈ l) : x.2 ∈ nms (newQ l) := by
  have key : ∀ (l acc : List It), (∀ s, s ∈ nms acc → s ∈ nms (l.foldl addQ acc)) ∧ ∀ x ∈ l, x.2 ∈ nms (l.foldl addQ acc) := by
    intro l
    induction l with
    | nil => intro acc; exact ⟨fun _ h => h, fun x h => by simp at h⟩
    | cons y r ih =>
      intro acc
      obtain ⟨h1, h2⟩ := ih (addQ acc y)
      have hy : ∀ s, s ∈ nms acc ∨ s = y.2 → s ∈ nms (addQ acc y) := by
        intro s hs
        unfold addQ
        split
        · rename_i hin
          rcases hs with hs | rfl
          · exact hs
          · exact hin
        · simp only [nms, List.map_append, List.map_cons, List.map_nil, List.mem_append, List.mem_singleton]
          exact hs
      refine ⟨fun s hs => h1 s (hy s (.inl hs)), fun x hx => ?_⟩
      rcases List.mem_cons.1 hx with rfl | hx
      · exact h1 _ (hy _ (.inr rfl))
      · exact h2 x hx
  exact (key l []).2 x h
theorem newS_mem {l : List It} {x : It} (h : x ∈ l) : x.2 ∈ nms (newS l) := ((srt_perm (newQ l)).map (·.2)).mem_iff.2 (newQ_mem h)
theorem next_lt {r : List It} (hs : Sorted r) (hn : (nms r).Nodup) {i : Nat} (h : i + 1 < r.length) : lt (r[i]'(by omega)) r[i + 1] := by
  have h1 := List.pairwise_iff_getElem.1 hs i (i + 1) (by omega) h (by omega)
  rcases lt_tri r[i] r[i + 1] with h2 | h2 | h2
  · exact h2
  · exfalso
    have h3 := List.pairwise_iff_getElem.1 (List.nodup_iff_pairwise_ne.1 hn) i (i + 1) (by simp; omega) (by simp; omega) (by omega)
    simp only [nms, List.getElem_map] at h3
    exact h3 (by rw [h2])
  · exact absurd h2 h1
theorem count_one {l : List ByteArray} {a : ByteArray} (h : l.Nodup) (hm : a ∈ l) : l.count a = 1 := by
  have h1 := List.nodup_iff_count.1 h a
  have h2 := List.count_pos_iff.2 hm
  omega
theorem cmpB_lt {a b : ByteArray} (h : blt a b = true) : cmpB a b = -1 := by unfold cmpB; rw [if_pos h]
theorem cnt_step {r : List It} {k : Nat} (h : k < r.length) (s : ByteArray) : (nms (r.take (k + 1))).count s = (nms (r.take k)).count s + (if r[k].2 = s then 1 else 0) := by
  rw [List.take_succ_eq_append_getElem h]
  simp only [nms, List.map_append, List.map_cons, List.map_nil, List.count_append, List.count_singleton]
  by_cases e : r[k].2 = s
  · rw [if_pos e, if_pos (by simpa using e)]
  · rw [if_neg e, if_neg (by simpa using e)]
theorem drop_cons {r : List It} {j : Nat} {y : It} {t : List It} (h : r.drop j = y :: t) : ∃ hj : j < r.length, y = r[j] ∧ t = r.drop (j + 1) := by
  have hj : j < r.length := by
    refine Nat.lt_of_not_le fun hle => ?_
    rw [List.drop_eq_nil_of_le hle] at h; cases h
  rw [List.drop_eq_getElem_cons hj] at h
  injection h with h1 h2
  exact ⟨hj, h1.symm, h2.symm⟩
theorem queueOrder_fn (l : List It) : FnR Try.prog G0 3 [dQ l] (.bool true) := by
  refine fnQ_sz fun hs => ?_
  have hl := (szOk_sl hs.1).1
  simp only [LB] at hl
  have hr := newS_len l
  refine fnQ_of_vc txok mixed [(17, .pure 0 (.pure 1 (.pure 2 (.pure 3 (.pure 4 (.take 5 (.pure 6 (.pure 7 (.pure 8 (.pure 9 (.take 10 (.pure 11 (.pure 12 (.pure 13 (.pure 14 (.pure 15 (.pure 16 (.pure 17 (.take 18 (.pure 19 (.pure 20 (.pure 21 (.pure 22 (.take 23 (.pure 24 (.pure 25 (.pure 26 (.pure 27 (.pure 28 (.pure 29 (.pure 30 (.take 31 (.pure 32 (.pure 33 (.pure 34 (.pure 35 (.take 36 (.fin 37 (.pure 38 (.pure 39 (.pure 40 .done))))))))))))))))))))))))))))))))))))))))), (26, .pure 0 (.pure 1 (.pure 2 (.pure 3 (.take 4 (.pure 5 (.pure 6 (.pure 7 (.pure 8 (.take 9 (.pure 10 .done)))))))))))] Try.func3 rfl rfl (by simp) fun b => ?_
  conv => whnf
  refine callF (mine_fn l) gf10 rfl rfl ?_
  conv => whnf
  refine callT [] (newR_new l) gf9 rfl rfl trivial rfl ?_
  rintro o' H' ⟨rfl, l1, mp1, rfl, h1⟩
  have hnd := h1.nodup
  have hso := h1.s
  have hmem := fun x hx => newS_mem (l := l) (x := x) hx
  generalize newS l = r at hr h1 hnd hso hmem
  conv => whnf
  refine callT [0, 1, 2] (itemsR_tri l1 mp1 _ (by simp only [LB]; omega) h1) gf11 rfl rfl ⟨rfl, rfl, rfl, trivial⟩ rfl ?_
  rintro o' H' ⟨rfl, rfl⟩
  conv => whnf
  refine callT [0, 1, 2] (lenR_tri l1 mp1 _ h1) gf12 rfl rfl ⟨rfl, rfl, rfl, trivial⟩ rfl ?_
  rintro o' H' ⟨rfl, rfl⟩
  conv => whnf
  refine loopH (fun x : Nat × List It × (ByteArray → Option Int) => x.1 ≤ r.length ∧ QR x.2.1 x.2.2 (r.drop x.1)) (fun x => r.length - x.1) (fun x => [(6, .d (.int .i64 (r.length - x.1 : Nat))), (5, .row 3)]) (fun x => qH x.2.1 x.2.2 ++ [(3, .row 30 24 2 (r.take x.1).length (encQ (r.take x.1)))]) 4 (0, l1, mp1) ⟨by simp, h1⟩ ((weak_nlT 5 30 24 2 rfl).trans (weak_of rfl (by repeat ((conv => whnf); first | exact trivial | refine And.intro rfl ?_ | refine And.intro (incD (by omega)) ?_)) (by repeat ((conv => whnf); first | exact trivial | refine And.intro rfl ?_ | refine And.intro (incD (by omega)) ?_)))) ?_
  rintro ⟨j, l2, mp2⟩ ⟨hj, h2⟩
  simp only at hj h2
  have hjt : (r.take j).length = j := by simp; omega
  conv => whnf
  refine And.intro (fun hb => ?_) (fun hb => ?_)
  · have hb : ((r.length - j : Nat) : Int) > 0 := of_decide_eq_true hb
    have hjl : j < r.length := by omega
    conv => whnf
    refine callT [0, 1, 2] (popR_tri l2 mp2 _ (by simp only [LB, List.length_drop]; omega) h2) gf13 rfl rfl ⟨rfl, rfl, rfl, trivial⟩ rfl ?_
    rintro o' H' (⟨he, _⟩ | ⟨y, t, he, rfl, l3, mp3, rfl, h3⟩)
    · rw [List.drop_eq_getElem_cons hjl] at he; cases he
    obtain ⟨_, rfl, rfl⟩ := drop_cons he
    conv => whnf
    refine appR (i := 3) (sz := 2) (n := (r.take j).length) (m := 1) (xs := encQ (r.take j)) (ys := encIt r[j]) txok (fun k => Nat.blt 3 k) (r.take (j + 1)).length (encQ (r.take (j + 1))) (by exact rfl) (by exact rfl) (by exact rfl) (by kernel_rfl) (by exact rfl) (scalDs_mem (by exact rfl)) (by simp; omega) (by rw [List.take_succ_eq_append_getElem hjl, encQ_app]; rfl) (by simp only [LB, List.length_take]; omega) ?_
    conv => whnf
    have ew : IntKind.i64.wrap (((r.length - j : Nat) : Int) - 1) = ((r.length - (j + 1) : Nat) : Int) := by
      rw [Go.Vc.wrap_small (by omega) (by omega)]; omega
    rw [ew]
    exact again (j + 1, l3, mp3) (by simp only; omega) ⟨by simp only; omega, h3⟩ (weak_of rfl (by repeat ((conv => whnf); first | exact trivial | refine And.intro rfl ?_ | refine And.intro (incD (by omega)) ?_)) (by repeat ((conv => whnf); first | exact trivial | refine And.intro rfl ?_ | refine And.intro (incD (by omega)) ?_)))
  · have hb : ¬ ((r.length - j : Nat) : Int) > 0 := of_decide_eq_false hb
    have e : j = r.length := by omega
    subst e
    rw [List.drop_length] at h2
    rw [List.take_length]
    conv => whnf
    refine pubC (fun k => Nat.beq k 3) ?_
    conv => whnf
    refine callT [0, 1, 2] (popR_tri l2 mp2 _ (by simp [LB]) h2) gf13 rfl rfl ⟨rfl, rfl, rfl, trivial⟩ rfl ?_
    rintro o' H' (⟨_, rfl, l3, mp3, rfl, h3⟩ | ⟨y, t, he, _⟩)
    rotate_left
    · cases he
    conv => whnf
    refine callF (equal_fn r r) gf14 rfl rfl ?_
    conv => whnf
    refine And.intro (fun h => by simp at h) (fun _ => ?_)
    conv => whnf
    refine loopH (fun i : Nat => 1 ≤ i) (fun i => r.length - i) (fun i => [(11, .d (.int .i64 i))]) (fun _ => []) 5 1 (Nat.le_refl _) (weak_of rfl (by repeat ((conv => whnf); first | exact trivial | refine And.intro rfl ?_ | refine And.intro (incD (by omega)) ?_)) (by repeat ((conv => whnf); first | exact trivial | refine And.intro rfl ?_ | refine And.intro (incD (by omega)) ?_))) ?_
    intro i hi
    conv => whnf
    refine And.intro (fun hb => ?_) (fun hb => ?_)
    · have hb : (i : Int) < (r.length : Int) := of_decide_eq_true hb
      obtain ⟨k, rfl⟩ : ∃ k, i = k + 1 := ⟨i - 1, by omega⟩
      have hk1 : k + 1 < r.length := by omega
      have ew : IntKind.i64.wrap (((k + 1 : Nat) : Int) - 1) = ((k : Nat) : Int) := by
        rw [Go.Vc.wrap_small (by omega) (by omega)]; omega
      have hlt := next_lt hso hnd hk1
      conv => whnf
      refine And.intro (by kernel_rfl) ?_
      conv => whnf
      refine IdxC.encQ k (by omega) ew ?_
      conv => whnf
      refine IdxC.encQ (k + 1) hk1 rfl ?_
      conv => whnf
      rcases hlt with h4 | ⟨h4, h5⟩
      · refine And.intro (fun _ => ?_) (fun h => absurd (of_decide_eq_true h) (by omega))
        conv => whnf
        refine IdxC.encQ k (by omega) ew ?_
        conv => whnf
        refine IdxC.encQ (k + 1) hk1 rfl ?_
        conv => whnf
        have h6 : ((r[k]'(by omega)).1 == r[k + 1].1) = false := by simp; omega
        refine And.intro (fun h => absurd (h6.symm.trans h) (by decide)) (fun _ => ?_)
        conv => whnf
        exact again (k + 1 + 1) (by omega) (by omega) (weak_of rfl (by repeat ((conv => whnf); first | exact trivial | refine And.intro rfl ?_ | refine And.intro (incD (by omega)) ?_)) (by repeat ((conv => whnf); first | exact trivial | refine And.intro rfl ?_ | refine And.intro (incD (by omega)) ?_)))
      · refine And.intro (fun _ => ?_) (fun h => absurd (of_decide_eq_true h) (by omega))
        conv => whnf
        refine IdxC.encQ k (by omega) ew ?_
        conv => whnf
        refine IdxC.encQ (k + 1) hk1 rfl ?_
        conv => whnf
        have h6 : ((r[k]'(by omega)).1 == r[k + 1].1) = true := by simp; omega
        refine And.intro (fun _ => ?_) (fun h => absurd (h6.symm.trans h) (by decide))
        conv => whnf
        refine IdxC.encQ k (by omega) ew ?_
        conv => whnf
        refine IdxC.encQ (k + 1) hk1 rfl ?_
        conv => whnf
        refine callF (ncmp0_fn _ _) gf15 rfl rfl ?_
        conv => whnf
        have h8 : (cmpB (r[k]'(by omega)).2 r[k + 1].2 != -1) = false := by rw [cmpB_lt h5]; rfl
        refine And.intro (fun h => absurd (h8.symm.trans h) (by decide)) (fun _ => ?_)
        conv => whnf
        exact again (k + 1 + 1) (by omega) (by omega) (weak_of rfl (by repeat ((conv => whnf); first | exact trivial | refine And.intro rfl ?_ | refine And.intro (incD (by omega)) ?_)) (by repeat ((conv => whnf); first | exact trivial | refine And.intro rfl ?_ | refine And.intro (incD (by omega)) ?_)))
    · have hb : ¬ (i : Int) < (r.length : Int) := of_decide_eq_false hb
      conv => whnf
      refine loopH (fun i : Nat => i ≤ l.length) (fun i => l.length - i) (fun i => [(12, .d (.int .i64 i))]) (fun _ => []) 5 0 (Nat.zero_le _) (weak_of rfl (by repeat ((conv => whnf); first | exact trivial | refine And.intro rfl ?_ | refine And.intro (incD (by omega)) ?_)) (by repeat ((conv => whnf); first | exact trivial | refine And.intro rfl ?_ | refine And.intro (incD (by omega)) ?_))) ?_
      intro i' hi'
      conv => whnf
      refine And.intro (fun hb2 => ?_) (fun hb2 => ?_)
      · have hb2 : (i' : Int) < (l.length : Int) := of_decide_eq_true hb2
        have hil : i' < l.length := by omega
        have hcl : ∀ k, (nms (r.take k)).count l[i'].2 ≤ r.length := fun k => Nat.le_trans (List.count_le_length) (by simp; omega)
        conv => whnf
        refine loopH (fun k : Nat => k ≤ r.length) (fun k => r.length - k) (fun k => [(14, .d (.int .i64 k)), (13, .d (.int .i64 ((nms (r.take k)).count l[i'].2 : Nat)))]) (fun _ => []) 5 0 (Nat.zero_le _) (weak_of rfl (by repeat ((conv => whnf); first | exact trivial | refine And.intro rfl ?_ | refine And.intro (incD (by omega)) ?_)) (by repeat ((conv => whnf); first | exact trivial | refine And.intro rfl ?_ | refine And.intro (incD (by omega)) ?_))) ?_
        intro k hk
        have hck := hcl k
        conv => whnf
        refine And.intro (fun hb3 => ?_) (fun hb3 => ?_)
        · have hb3 : (k : Int) < (r.length : Int) := of_decide_eq_true hb3
          have hkl : k < r.length := by omega
          have hcs := cnt_step hkl l[i'].2
          conv => whnf
          refine And.intro (by kernel_rfl) ?_
          conv => whnf
          refine IdxC.encQ k hkl rfl ?_
          conv => whnf
          refine IdxC.encQ i' hil rfl ?_
          conv => whnf
          refine And.intro (fun he => ?_) (fun he => ?_)
          · have he : r[k].2 = l[i'].2 := toList_inj (eq_of_beq he)
            rw [if_pos he] at hcs
            conv => whnf
            refine again (k + 1) (by omega) (by omega) (weak_of rfl ?_ (by repeat ((conv => whnf); first | exact trivial | refine And.intro rfl ?_ | refine And.intro (incD (by omega)) ?_)))
            rw [hcs]
            repeat ((conv => whnf); first | exact trivial | refine And.intro rfl ?_ | refine And.intro (incD (by omega)) ?_)
          · have he : r[k].2 ≠ l[i'].2 := by
              intro e
              rw [e] at he
              simp at he
            rw [if_neg he, Nat.add_zero] at hcs
            conv => whnf
            refine again (k + 1) (by omega) (by omega) (weak_of rfl ?_ (by repeat ((conv => whnf); first | exact trivial | refine And.intro rfl ?_ | refine And.intro (incD (by omega)) ?_)))
            rw [hcs]
            repeat ((conv => whnf); first | exact trivial | refine And.intro rfl ?_ | refine And.intro (incD (by omega)) ?_)
        · have hb3 : ¬ (k : Int) < (r.length : Int) := of_decide_eq_false hb3
          have hc1 : (nms (r.take k)).count l[i'].2 = 1 := by
            rw [List.take_of_length_le (by omega)]
            exact count_one hnd (hmem _ (by simp))
          rw [hc1]
          conv => whnf
          refine And.intro (fun h => by simp at h) (fun _ => ?_)
          conv => whnf
          exact again (i' + 1) (by omega) (by omega) (weak_of rfl (by repeat ((conv => whnf); first | exact trivial | refine And.intro rfl ?_ | refine And.intro (incD (by omega)) ?_)) (by repeat ((conv => whnf); first | exact trivial | refine And.intro rfl ?_ | refine And.intro (incD (by omega)) ?_)))
      · conv => whnf
        have h7 : decide ((r.length : Int) ≤ (l.length : Int)) = true := decide_eq_true (by omega)
        refine And.intro (fun _ => ?_) (fun h => absurd (h7.symm.trans h) (by decide))
        conv => whnf
        refine callF alive_fn gf16 rfl rfl ?_
        conv => whnf
end Go.Proofs.Ytohhchcjfebkhaa
