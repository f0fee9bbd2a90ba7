/- Merge. -/
import Derived.Test.YtohhchcjfebkhaaWc
set_option linter.unusedSimpArgs false
set_option linter.unusedVariables false
namespace Go.Proofs.Ytohhchcjfebkhaa
open Go.Vx Go.Vc Go.RowKit

/-- The rank of a name that waits. -/
def rkOf (r : List It) (s : ByteArray) : Int := ((r.find? fun x => decide (x.2 = s)).map (·.1)).getD 0
theorem nodup_eq {r : List It} (hn : (nms r).Nodup) {x y : It} (hx : x ∈ r) (hy : y ∈ r) (h : x.2 = y.2) : x = y := by
  obtain ⟨i, hi, rfl⟩ := List.mem_iff_getElem.1 hx
  obtain ⟨j, hj, rfl⟩ := List.mem_iff_getElem.1 hy
  have key : ∀ (i j : Nat) (hi : i < r.length) (hj : j < r.length), i < j → r[i].2 ≠ r[j].2 := by
    intro i j hi hj hij
    have := List.pairwise_iff_getElem.1 (List.nodup_iff_pairwise_ne.1 hn) i j (by simpa using hi) (by simpa using hj) hij
    simpa [nms] using this
  rcases Nat.lt_trichotomy i j with h1 | h1 | h1
  · exact absurd h (key i j hi hj h1)
  · subst h1; rfl
  · exact absurd h.symm (key j i hj hi h1)
theorem rkOf_eq {r : List It} (hn : (nms r).Nodup) {n : Int} {s : ByteArray} (h : (n, s) ∈ r) : rkOf r s = n := by
  unfold rkOf
  cases hf : r.find? (fun x => decide (x.2 = s)) with
  | none =>
    have := List.find?_eq_none.1 hf _ h
    simp at this
  | some y =>
    have h1 := List.find?_some hf
    have h2 := List.mem_of_find?_eq_some hf
    simp only [decide_eq_true_eq] at h1
    have := nodup_eq hn h2 h h1
    rw [this]; rfl
def mstep (r : List It) (x : It) : List It := if x.2 ∈ nms r then (if x.1 < rkOf r x.2 then ins x (rem x.2 r) else r) else ins x r
def mergeR (r s : List It) : List It := s.foldl mstep r
theorem ins_len (x : It) (r : List It) : (ins x r).length = r.length + 1 := by rw [(ins_perm x r).length_eq]; simp
theorem rem_len' {s : ByteArray} {r : List It} (hn : (nms r).Nodup) (h : s ∈ nms r) : (rem s r).length + 1 = r.length := by
  obtain ⟨x, hx, rfl⟩ := List.mem_map.1 h
  obtain ⟨i, hi, rfl⟩ := ix_mem.1 hx
  have := (set_perm hi hn (ix r i).1).length_eq
  simp at this; omega
theorem mstep_len {r : List It} (hn : (nms r).Nodup) (x : It) : (mstep r x).length = r.length + (if x.2 ∈ nms r then 0 else 1) := by
  unfold mstep
  by_cases h : x.2 ∈ nms r
  · rw [if_pos h, if_pos h]
    split
    · have := rem_len' hn h
      rw [ins_len]; omega
    · rfl
  · rw [if_neg h, if_neg h, ins_len]
theorem merge_succ {r s : List It} {i : Nat} (h : i < s.length) : mergeR r (s.take (i + 1)) = mstep (mergeR r (s.take i)) s[i] := by
  unfold mergeR
  rw [List.take_succ_eq_append_getElem h, List.foldl_append]; rfl
theorem merge_tri (l : List It) (mp) (l' : List It) (mp') (r s : List It) (hb : (r.length + s.length) * 24 ≤ LB) (h : QR l mp r) (h' : QR l' mp' s) :
    Tri Try.prog G0 20 6 0 [.own 0 0, .own 3 0] (qH l mp ++ qA 3 4 5 l' mp')
      (fun o H' => r.length ≤ (mergeR r s).length ∧ o = .ret (.d (.int .i64 ((mergeR r s).length - r.length : Nat))) ∧ ∃ l2 mp2, H' = qH l2 mp2 ++ qA 3 4 5 l' mp' ∧ QR l2 mp2 (mergeR r s)) := by
  simp only [LB] at hb
  refine tri_of_vc txok mixed [] [] Try.func20 rfl rfl (by simp) fun b => ?_
  conv => whnf
  refine ptrC (i := 0) (j := 3) txok true (by exact rfl) Try.underlying23 (by exact rfl) (by exact rfl) (by exact rfl) (by decide) (by exact rfl) (by exact rfl) ?_
  conv => whnf
  refine callT [3, 4, 5] (itemsR_tri l' mp' _ (by simp only [LB]; omega) h') gf11 rfl rfl ⟨rfl, rfl, rfl, trivial⟩ rfl ?_
  rintro o' H' ⟨rfl, rfl⟩
  conv => whnf
  refine loopH (fun x : Nat × List It × (ByteArray → Option Int) => x.1 ≤ s.length ∧ QR x.2.1 x.2.2 (mergeR r (s.take x.1)) ∧ r.length ≤ (mergeR r (s.take x.1)).length ∧ (mergeR r (s.take x.1)).length ≤ r.length + x.1) (fun x => s.length - x.1) (fun x => [(20, .d (.int .i64 x.1)), (5, .d (.int .i64 ((mergeR r (s.take x.1)).length - r.length : Nat)))]) (fun x => qH x.2.1 x.2.2 ++ qA 3 4 5 l' mp') 6 (0, l, mp) ⟨by simp, by simpa [mergeR] using h, by simp [mergeR], by simp [mergeR]⟩ (weak_of rfl ?_ (by repeat ((conv => whnf); first | exact trivial | refine And.intro rfl ?_ | refine And.intro (incD (by omega)) ?_))) ?_
  · have e : (mergeR r (s.take 0)).length - r.length = 0 := by simp [mergeR]
    simp only [e]
    repeat ((conv => whnf); first | exact trivial | refine And.intro rfl ?_ | refine And.intro (incD (by omega)) ?_)
  rintro ⟨i, l2, mp2⟩ ⟨hi, h2, h3, h4⟩
  simp only at hi h2 h3 h4
  have hbig : (i, l2, mp2).1 < 9223372036854775807 := by show i < _; omega
  conv => whnf
  refine And.intro (fun hc => ?_) (fun hc => ?_)
  · have hc : (i : Int) < (s.length : Int) := of_decide_eq_true hc
    have hil : i < s.length := by omega
    have hms := merge_succ (r := r) hil
    have hml := mstep_len h2.nodup s[i]
    conv => whnf
    refine IdxC.encQ i hil rfl ?_
    conv => whnf
    refine callT [0, 1, 2] (pushR_tri l2 mp2 _ s[i] (by simp only [LB]; omega) h2) gf19 rfl rfl ⟨rfl, rfl, rfl, trivial⟩ rfl ?_
    rintro o' H' (⟨hin, rfl, l3, mp3, rfl, h5⟩ | ⟨hin, rfl, l3, mp3, rfl, h5⟩)
    · rw [if_pos hin, Nat.add_zero] at hml
      conv => whnf
      refine callT [0, 1, 2] (rankR_tri l3 mp3 _ s[i].2 h5) gf33 rfl rfl ⟨rfl, rfl, rfl, trivial⟩ rfl ?_
      rintro o' H' ⟨⟨hin', _⟩ | ⟨n, hmem, rfl⟩, rfl⟩
      · exact absurd hin hin'
      have hrk := rkOf_eq h5.nodup hmem
      conv => whnf
      refine And.intro (fun hlt => ?_) (fun hlt => ?_)
      · have hlt := of_decide_eq_true hlt
        have hst : mstep (mergeR r (s.take i)) s[i] = ins (s[i].1, s[i].2) (rem s[i].2 (mergeR r (s.take i))) := by
          unfold mstep; rw [if_pos hin, hrk, if_pos hlt]
        conv => whnf
        refine callT [0, 1, 2] (moveR_tri l3 mp3 _ s[i].2 s[i].1 (by simp only [LB]; omega) h5) gf17 rfl rfl ⟨rfl, rfl, rfl, trivial⟩ rfl ?_
        rintro o' H' (⟨hin', _⟩ | ⟨_, rfl, l4, mp4, rfl, h6⟩)
        · exact absurd hin hin'
        conv => whnf
        refine again (i + 1, l4, mp4) (by simp only; omega) ⟨hil, by simp only; rw [hms, hst]; exact h6, by simp only; rw [hms, hml]; exact h3, by simp only; rw [hms, hml]; omega⟩ (weak_of rfl ?_ (by repeat ((conv => whnf); first | exact trivial | refine And.intro rfl ?_ | refine And.intro (incD (by omega)) ?_)))
        simp only [hms, hml]
        repeat ((conv => whnf); first | exact trivial | refine And.intro rfl ?_ | refine And.intro (incD (by omega)) ?_)
      · have hlt := of_decide_eq_false hlt
        have hst : mstep (mergeR r (s.take i)) s[i] = mergeR r (s.take i) := by
          unfold mstep; rw [if_pos hin, hrk, if_neg hlt]
        conv => whnf
        refine again (i + 1, l3, mp3) (by simp only; omega) ⟨hil, by simp only; rw [hms, hst]; exact h5, by simp only; rw [hms, hml]; exact h3, by simp only; rw [hms, hml]; omega⟩ (weak_of rfl ?_ (by repeat ((conv => whnf); first | exact trivial | refine And.intro rfl ?_ | refine And.intro (incD (by omega)) ?_)))
        simp only [hms, hml]
        repeat ((conv => whnf); first | exact trivial | refine And.intro rfl ?_ | refine And.intro (incD (by omega)) ?_)
    · rw [if_neg hin] at hml
      have hst : mstep (mergeR r (s.take i)) s[i] = ins s[i] (mergeR r (s.take i)) := by
        unfold mstep; rw [if_neg hin]
      conv => whnf
      refine again (i + 1, l3, mp3) (by simp only; omega) ⟨hil, by simp only; rw [hms, hst]; exact h5, by simp only; rw [hms, hml]; omega, by simp only; rw [hms, hml]; omega⟩ (weak_of rfl ?_ (by repeat ((conv => whnf); first | exact trivial | refine And.intro rfl ?_ | refine And.intro (incD (by omega)) ?_)))
      have e5 : (mergeR r (s.take i)).length + 1 - r.length = (mergeR r (s.take i)).length - r.length + 1 := by omega
      simp only [hms, hml, e5]
      repeat ((conv => whnf); first | exact trivial | refine And.intro rfl ?_ | refine And.intro (incD (by omega)) ?_)
  · have hc : ¬ (i : Int) < (s.length : Int) := of_decide_eq_false hc
    have e : i = s.length := by omega
    subst e
    rw [List.take_length] at h2 h3
    conv => whnf
    refine ⟨h3, ?_, l2, mp2, rfl, h2⟩
    rw [List.take_length]
/-- What is merged out of these items: of each name the one of least rank. -/
structure Mrg (cur S : List It) : Prop where
  le : ∀ x ∈ cur, x ∈ S ∧ ∀ y ∈ S, y.2 = x.2 → x.1 ≤ y.1
  ex : ∀ y ∈ S, ∃ z ∈ cur, z.2 = y.2
  nd : (nms cur).Nodup
  so : Sorted cur
theorem Mrg.start {r : List It} (hn : (nms r).Nodup) (hs : Sorted r) : Mrg r r :=
  ⟨fun x hx => ⟨hx, fun y hy e => by rw [nodup_eq hn hy hx e]; exact Int.le_refl _⟩, fun y hy => ⟨y, hy, rfl⟩, hn, hs⟩
theorem ins_mem {x y : It} {l : List It} : y ∈ ins x l ↔ y = x ∨ y ∈ l := by
  rw [(ins_perm x l).mem_iff, List.mem_append, List.mem_singleton]; exact Or.comm
theorem rem_mem {s : ByteArray} {y : It} {l : List It} : y ∈ rem s l ↔ y ∈ l ∧ y.2 ≠ s := by
  unfold rem; rw [List.mem_filter]; simp
theorem ins_nodup {x : It} {l : List It} (h : (nms l).Nodup) (hx : x.2 ∉ nms l) : (nms (ins x l)).Nodup := by
  have hp : (nms (ins x l)).Perm (nms l ++ [x.2]) := by
    have := (ins_perm x l).map (·.2)
    simpa [nms] using this
  rw [hp.nodup_iff, List.nodup_append]
  exact ⟨h, by simp, fun a ha b hb => by simp only [List.mem_singleton] at hb; subst hb; rintro rfl; exact hx ha⟩
theorem rem_nodup {s : ByteArray} {l : List It} (h : (nms l).Nodup) : (nms (rem s l)).Nodup := List.Nodup.sublist (List.Sublist.map _ List.filter_sublist) h
theorem Mrg.step {cur S : List It} (h : Mrg cur S) (x : It) : Mrg (mstep cur x) (S ++ [x]) := by
  unfold mstep
  by_cases hin : x.2 ∈ nms cur
  · rw [if_pos hin]
    obtain ⟨y0, hy0, e0⟩ := List.mem_map.1 hin
    have hrk : rkOf cur x.2 = y0.1 := rkOf_eq h.nd (by rw [← e0]; exact hy0)
    rw [hrk]
    by_cases hlt : x.1 < y0.1
    · rw [if_pos hlt]
      refine ⟨fun z hz => ?_, fun y hy => ?_, ins_nodup (rem_nodup h.nd) (rem_notin _ _), ins_sorted (rem_sorted h.so _)⟩
      · rcases ins_mem.1 hz with rfl | hz
        · refine ⟨by simp, fun y hy e => ?_⟩
          rcases List.mem_append.1 hy with hy | hy
          · have := (h.le y0 hy0).2 y hy (by rw [e, e0]); omega
          · rw [List.mem_singleton] at hy; subst hy; exact Int.le_refl _
        · obtain ⟨hz, hne⟩ := rem_mem.1 hz
          refine ⟨List.mem_append_left _ (h.le z hz).1, fun y hy e => ?_⟩
          rcases List.mem_append.1 hy with hy | hy
          · exact (h.le z hz).2 y hy e
          · rw [List.mem_singleton] at hy; subst hy; exact absurd e.symm hne
      · rcases List.mem_append.1 hy with hy | hy
        · obtain ⟨z, hz, e⟩ := h.ex y hy
          by_cases hzx : z.2 = x.2
          · exact ⟨x, ins_mem.2 (.inl rfl), by rw [← e, hzx]⟩
          · exact ⟨z, ins_mem.2 (.inr (rem_mem.2 ⟨hz, hzx⟩)), e⟩
        · rw [List.mem_singleton] at hy; subst hy; exact ⟨y, ins_mem.2 (.inl rfl), rfl⟩
    · rw [if_neg hlt]
      refine ⟨fun z hz => ⟨List.mem_append_left _ (h.le z hz).1, fun y hy e => ?_⟩, fun y hy => ?_, h.nd, h.so⟩
      · rcases List.mem_append.1 hy with hy | hy
        · exact (h.le z hz).2 y hy e
        · rw [List.mem_singleton] at hy; subst hy
          have := nodup_eq h.nd hz hy0 (by rw [e0, e])
          subst this; omega
      · rcases List.mem_append.1 hy with hy | hy
        · exact h.ex y hy
        · rw [List.mem_singleton] at hy; subst hy; exact ⟨y0, hy0, e0⟩
  · rw [if_neg hin]
    refine ⟨fun z hz => ?_, fun y hy => ?_, ins_nodup h.nd hin, ins_sorted h.so⟩
    · rcases ins_mem.1 hz with rfl | hz2
      · refine ⟨by simp, fun y hy e => ?_⟩
        rcases List.mem_append.1 hy with hy | hy
        · obtain ⟨w, hw, e2⟩ := h.ex y hy
          exact absurd (List.mem_map.2 ⟨w, hw, by rw [e2, e]⟩) hin
        · rw [List.mem_singleton] at hy; subst hy; exact Int.le_refl _
      · refine ⟨List.mem_append_left _ (h.le z hz2).1, fun y hy e => ?_⟩
        rcases List.mem_append.1 hy with hy | hy
        · exact (h.le z hz2).2 y hy e
        · rw [List.mem_singleton] at hy; subst hy
          exact absurd (List.mem_map.2 ⟨z, hz2, e.symm⟩) hin
    · rcases List.mem_append.1 hy with hy | hy
      · obtain ⟨z, hz, e⟩ := h.ex y hy
        exact ⟨z, ins_mem.2 (.inr hz), e⟩
      · rw [List.mem_singleton] at hy; subst hy; exact ⟨y, ins_mem.2 (.inl rfl), rfl⟩
theorem Mrg.fold : ∀ {s cur S : List It}, Mrg cur S → Mrg (s.foldl mstep cur) (S ++ s)
  | [], cur, S, h => by simpa using h
  | x :: r, cur, S, h => by
    have := Mrg.fold (s := r) (h.step x)
    simpa using this
theorem Mrg.eq {c c' S S' : List It} (h : Mrg c S) (h' : Mrg c' S') (hS : ∀ x, x ∈ S ↔ x ∈ S') : c = c' := by
  have half : ∀ {c c' S S' : List It}, Mrg c S → Mrg c' S' → (∀ x, x ∈ S ↔ x ∈ S') → ∀ x ∈ c, x ∈ c' := by
    intro c c' S S' h h' hS x hx
    obtain ⟨h1, h2⟩ := h.le x hx
    obtain ⟨z, hz, e⟩ := h'.ex x ((hS x).1 h1)
    obtain ⟨h3, h4⟩ := h'.le z hz
    have h5 := h2 z ((hS z).2 h3) e
    have h6 := h4 x ((hS x).1 h1) e.symm
    have : z = x := Prod.ext (by omega) e
    rw [← this]; exact hz
  have nd : ∀ {c S : List It}, Mrg c S → c.Nodup := by
    intro c S h
    have := h.nd
    rw [List.nodup_iff_pairwise_ne] at this ⊢
    unfold nms at this
    rw [List.pairwise_map] at this
    exact this.imp fun hne e => hne (by rw [e])
  exact sorted_eq ((List.perm_ext_iff_of_nodup (nd h) (nd h')).2 fun x => ⟨half h h' hS x, half h' h (fun x => (hS x).symm) x⟩) h.so h'.so
theorem merge_comm {r s : List It} (hr : (nms r).Nodup) (hs : (nms s).Nodup) (sr : Sorted r) (ss : Sorted s) : mergeR r s = mergeR s r :=
  Mrg.eq (Mrg.start hr sr).fold (Mrg.start hs ss).fold fun x => by rw [List.mem_append, List.mem_append]; exact Or.comm
theorem merge_len : ∀ {s r : List It}, (nms r).Nodup → Sorted r → (mergeR r s).length ≤ r.length + s.length
  | [], r, _, _ => by simp [mergeR]
  | x :: t, r, hn, hs => by
    have h1 := (Mrg.start hn hs).step x
    have h2 := merge_len (s := t) h1.nd h1.so
    have h3 := mstep_len hn x
    have h4 : (mergeR r (x :: t)) = mergeR (mstep r x) t := rfl
    rw [h4]
    have h5 : (if x.2 ∈ nms r then 0 else 1) ≤ 1 := by split <;> omega
    simp only [List.length_cons]
    omega
def SZ2 (l m : List It) : Prop := l.length + m.length ≤ 1048576
theorem queueMerges_fn (l m : List It) (hz : SZ2 l m) : FnR Try.prog G0 6 [dQ l, dQ m] (.bool true) := by
  unfold SZ2 at hz
  have hr := newS_len l
  have hs := newS_len m
  refine fnQ_of_vc txok mixed [] Try.func6 rfl rfl (by simp) fun b => ?_
  conv => whnf
  refine callF (mine_fn l) gf10 rfl rfl ?_
  conv => whnf
  refine callT [] (newR_new l) gf9 rfl rfl trivial rfl ?_
  rintro o' H' ⟨rfl, l1, mp1, rfl, h1⟩
  conv => whnf
  refine callF (mine_fn m) gf10 rfl rfl ?_
  conv => whnf
  refine callT [] (newR_new m) gf9 rfl rfl trivial rfl ?_
  rintro o' H' ⟨rfl, l2, mp2, rfl, h2⟩
  conv => whnf
  refine callF (mine_fn l) gf10 rfl rfl ?_
  conv => whnf
  refine callT [] (newR_new l) gf9 rfl rfl trivial rfl ?_
  rintro o' H' ⟨rfl, l3, mp3, rfl, h3⟩
  conv => whnf
  refine callF (mine_fn m) gf10 rfl rfl ?_
  conv => whnf
  refine callT [] (newR_new m) gf9 rfl rfl trivial rfl ?_
  rintro o' H' ⟨rfl, l4, mp4, rfl, h4⟩
  have hcm := merge_comm h1.nodup h2.nodup h1.s h2.s
  conv => whnf
  refine callT [3, 4, 5] (lenR_tri l2 mp2 _ h2) gf12 rfl rfl ⟨rfl, rfl, rfl, trivial⟩ rfl ?_
  rintro o' H' ⟨rfl, rfl⟩
  conv => whnf
  refine callT [0, 1, 2, 3, 4, 5] (merge_tri l1 mp1 l2 mp2 _ _ (by simp only [LB]; omega) h1 h2) gf20 rfl rfl ⟨rfl, rfl, rfl, rfl, rfl, rfl, trivial⟩ rfl ?_
  rintro o' H' ⟨hge, rfl, l5, mp5, rfl, h5⟩
  conv => whnf
  refine callT [9, 10, 11, 6, 7, 8] (merge_tri l4 mp4 l3 mp3 _ _ (by simp only [LB]; omega) h4 h3) gf20 rfl rfl ⟨rfl, rfl, rfl, rfl, rfl, rfl, trivial⟩ rfl ?_
  rintro o' H' ⟨hge', rfl, l6, mp6, rfl, h6⟩
  rw [← hcm] at h6
  have hml : (mergeR (newS l) (newS m)).length ≤ (newS l).length + (newS m).length := merge_len h1.nodup h1.s
  conv => whnf
  refine callT [0, 1, 2] (itemsR_tri l5 mp5 _ (by simp only [LB]; omega) h5) gf11 rfl rfl ⟨rfl, rfl, rfl, trivial⟩ rfl ?_
  rintro o' H' ⟨rfl, rfl⟩
  conv => whnf
  refine callT [9, 10, 11] (itemsR_tri l6 mp6 _ (by simp only [LB]; omega) h6) gf11 rfl rfl ⟨rfl, rfl, rfl, trivial⟩ rfl ?_
  rintro o' H' ⟨rfl, rfl⟩
  conv => whnf
  refine callF (equal_fn _ _) gf14 rfl rfl ?_
  conv => whnf
  refine And.intro (fun _ => ?_) (fun h => by simp at h)
  conv => whnf
  refine callT [0, 1, 2] (lenR_tri l5 mp5 _ h5) gf12 rfl rfl ⟨rfl, rfl, rfl, trivial⟩ rfl ?_
  rintro o' H' ⟨rfl, rfl⟩
  conv => whnf
  refine callT [6, 7, 8] (lenR_tri l3 mp3 _ h3) gf12 rfl rfl ⟨rfl, rfl, rfl, trivial⟩ rfl ?_
  rintro o' H' ⟨rfl, rfl⟩
  conv => whnf
  have hw : IntKind.i64.wrap (((mergeR (newS l) (newS m)).length : Int) - ((newS l).length : Int)) = (((mergeR (newS l) (newS m)).length - (newS l).length : Nat) : Int) := by
    rw [Go.Vc.wrap_small (by omega) (by omega)]; omega
  rw [hw]
  refine And.intro (fun _ => ?_) (fun h => by simp at h)
  conv => whnf
  refine callT [3, 4, 5] (lenR_tri l2 mp2 _ h2) gf12 rfl rfl ⟨rfl, rfl, rfl, trivial⟩ rfl ?_
  rintro o' H' ⟨rfl, rfl⟩
  conv => whnf
  refine And.intro (fun _ => ?_) (fun h => by simp at h)
  conv => whnf
  refine callT [3, 4, 5] (itemsR_tri l2 mp2 _ (by simp only [LB]; omega) h2) gf11 rfl rfl ⟨rfl, rfl, rfl, trivial⟩ rfl ?_
  rintro o' H' ⟨rfl, rfl⟩
  conv => whnf
  refine callF (mine_fn m) gf10 rfl rfl ?_
  conv => whnf
  refine callT [] (newR_new m) gf9 rfl rfl trivial rfl ?_
  rintro o' H' ⟨rfl, l7, mp7, rfl, h7⟩
  conv => whnf
  refine callT [12, 13, 14] (itemsR_tri l7 mp7 _ (by simp only [LB]; omega) h7) gf11 rfl rfl ⟨rfl, rfl, rfl, trivial⟩ rfl ?_
  rintro o' H' ⟨rfl, rfl⟩
  conv => whnf
  refine callF (equal_fn _ _) gf14 rfl rfl ?_
  conv => whnf
  refine And.intro (fun _ => ?_) (fun h => by simp at h)
  conv => whnf
  refine callF alive_fn gf16 rfl rfl ?_
  conv => whnf
end Go.Proofs.Ytohhchcjfebkhaa
