/- QueueMoves: the walk. -/
import Derived.Test.YtohhchcjfebkhaaJn
set_option linter.unusedSimpArgs false
set_option linter.unusedVariables false
namespace Go.Proofs.Ytohhchcjfebkhaa
open Go.Vx Go.Vc Go.RowKit

theorem rem_len {s : ByteArray} {r : List It} (h : s ∈ nms r) : (rem s r).length + 1 ≤ r.length := by
  obtain ⟨x, hx, rfl⟩ := List.mem_map.1 h
  have : (rem x.2 r).length < r.length := by
    unfold rem
    rw [← List.countP_eq_length_filter]
    exact Nat.lt_of_le_of_ne (List.countP_le_length) fun e => by
      have := List.countP_eq_length.1 e x hx
      simp at this
  omega
theorem rem_notin (s : ByteArray) (r : List It) : s ∉ nms (rem s r) := by
  intro h
  obtain ⟨x, hx, e⟩ := List.mem_map.1 h
  have := (List.mem_filter.1 hx).2
  simp only [decide_eq_true_eq] at this
  exact this e
theorem queueMoves_fn (l : List It) (s : ByteArray) (n : Int) : FnR Try.prog G0 5 [dQ l, .str s, .int .i64 n] (.bool true) := by
  refine fnQ_sz fun hs => ?_
  have hl := (szOk_sl hs.1).1
  simp only [LB] at hl
  have hr := newS_len l
  refine fnQ_of_vc txok mixed [] Try.func5 rfl rfl (by simp) fun b => ?_
  conv => whnf
  refine callF (mine_fn l) gf10 rfl rfl ?_
  conv => whnf
  refine callT [] (newR_new l) gf9 rfl rfl trivial rfl ?_
  rintro o' H' ⟨rfl, l1, mp1, rfl, h1⟩
  conv => whnf
  refine callF (mine_fn l) gf10 rfl rfl ?_
  conv => whnf
  refine callT [] (newR_new l) gf9 rfl rfl trivial rfl ?_
  rintro o' H' ⟨rfl, l2, mp2, rfl, h2⟩
  conv => whnf
  refine callT [0, 1, 2] (moveR_tri l1 mp1 _ s n (by simp only [LB]; omega) h1) gf17 rfl rfl ⟨rfl, rfl, rfl, trivial⟩ rfl ?_
  rintro o' H' (⟨hm, rfl, l3, mp3, rfl, h3⟩ | ⟨hm, rfl, l3, mp3, rfl, h3⟩)
  · conv => whnf
    refine callT [3, 4, 5] (removeR_tri l2 mp2 _ s (by simp only [LB]; omega) h2) gf18 rfl rfl ⟨rfl, rfl, rfl, trivial⟩ rfl ?_
    rintro o' H' (⟨_, rfl, l4, mp4, rfl, h4⟩ | ⟨hm', _⟩)
    rotate_left
    · exact absurd hm' hm
    conv => whnf
    refine And.intro (fun _ => ?_) (fun h => absurd h (by decide))
    conv => whnf
    refine callT [0, 1, 2] (itemsR_tri l3 mp3 _ (by simp only [LB]; omega) h3) gf11 rfl rfl ⟨rfl, rfl, rfl, trivial⟩ rfl ?_
    rintro o' H' ⟨rfl, rfl⟩
    conv => whnf
    refine callT [3, 4, 5] (itemsR_tri l4 mp4 _ (by simp only [LB]; omega) h4) gf11 rfl rfl ⟨rfl, rfl, rfl, trivial⟩ rfl ?_
    rintro o' H' ⟨rfl, rfl⟩
    conv => whnf
    refine callF (equal_fn _ _) gf14 rfl rfl ?_
    conv => whnf
    refine And.intro (fun _ => ?_) (fun h => by simp at h)
    conv => whnf
    refine callT [0, 1, 2] (lenR_tri l3 mp3 _ h3) gf12 rfl rfl ⟨rfl, rfl, rfl, trivial⟩ rfl ?_
    rintro o' H' ⟨rfl, rfl⟩
    conv => whnf
    refine callT [3, 4, 5] (lenR_tri l4 mp4 _ h4) gf12 rfl rfl ⟨rfl, rfl, rfl, trivial⟩ rfl ?_
    rintro o' H' ⟨rfl, rfl⟩
    conv => whnf
    refine And.intro (fun _ => ?_) (fun h => by simp at h)
    conv => whnf
    refine callF alive_fn gf16 rfl rfl ?_
    conv => whnf
  · conv => whnf
    refine callT [3, 4, 5] (removeR_tri l2 mp2 _ s (by simp only [LB]; omega) h2) gf18 rfl rfl ⟨rfl, rfl, rfl, trivial⟩ rfl ?_
    rintro o' H' (⟨hm', _⟩ | ⟨_, rfl, l4, mp4, rfl, h4⟩)
    · exact absurd hm hm'
    have hrl := rem_len hm
    have hil : (ins (n, s) (rem s (newS l))).length = (rem s (newS l)).length + 1 := by rw [(ins_perm _ _).length_eq]; simp
    conv => whnf
    refine callT [3, 4, 5] (pushR_tri l4 mp4 _ (n, s) (by simp only [LB]; omega) h4) gf19 rfl rfl ⟨rfl, rfl, rfl, trivial⟩ rfl ?_
    rintro o' H' (⟨hm', _⟩ | ⟨_, rfl, l5, mp5, rfl, h5⟩)
    · exact absurd hm' (rem_notin s _)
    conv => whnf
    refine And.intro (fun _ => ?_) (fun h => absurd h (by decide))
    conv => whnf
    refine callT [0, 1, 2] (itemsR_tri l3 mp3 _ (by simp only [LB]; omega) h3) gf11 rfl rfl ⟨rfl, rfl, rfl, trivial⟩ rfl ?_
    rintro o' H' ⟨rfl, rfl⟩
    conv => whnf
    refine callT [3, 4, 5] (itemsR_tri l5 mp5 _ (by simp only [LB]; omega) h5) gf11 rfl rfl ⟨rfl, rfl, rfl, trivial⟩ rfl ?_
    rintro o' H' ⟨rfl, rfl⟩
    conv => whnf
    refine callF (equal_fn _ _) gf14 rfl rfl ?_
    conv => whnf
    refine And.intro (fun _ => ?_) (fun h => by simp at h)
    conv => whnf
    refine callT [0, 1, 2] (lenR_tri l3 mp3 _ h3) gf12 rfl rfl ⟨rfl, rfl, rfl, trivial⟩ rfl ?_
    rintro o' H' ⟨rfl, rfl⟩
    conv => whnf
    refine callT [3, 4, 5] (lenR_tri l5 mp5 _ h5) gf12 rfl rfl ⟨rfl, rfl, rfl, trivial⟩ rfl ?_
    rintro o' H' ⟨rfl, rfl⟩
    conv => whnf
    refine And.intro (fun _ => ?_) (fun h => by simp at h)
    conv => whnf
    refine callF alive_fn gf16 rfl rfl ?_
    conv => whnf
end Go.Proofs.Ytohhchcjfebkhaa
