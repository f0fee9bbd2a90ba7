/- The law TypesMeasures: what it computes. -/
import Derived.Test.YtmgmddcehjcbkaaDoorIm
import Derived.Test.YtmgmddcehjcbkaaDoorHu
set_option linter.unusedSimpArgs false
set_option linter.unusedVariables false
namespace Go.Proofs.YtmgmddcehjcbkaaDoor
open Go.Vx Go.Vc Go.RowKit Go.Lib

mutual
theorem numsT_of {p q : Int → Prop} (h : ∀ n, p n → q n) : ∀ t : Tp, nums p t → numsT q t
  | .mk k n ks, hn => by
    simp only [nums, numsT] at hn ⊢
    exact ⟨fun e => h n (hn.1 e), fun e => h n (hn.2.1 e), fun e e' => h _ (hn.2.2.1 e e'), numsL_of h ks hn.2.2.2⟩
theorem numsL_of {p q : Int → Prop} (h : ∀ n, p n → q n) : ∀ ts : List Tp, numsLs p ts → numsL q ts
  | [], _ => by simp only [numsL]
  | t :: r, hn => by
    simp only [numsLs, numsL] at hn ⊢
    exact ⟨numsT_of h t hn.1, numsL_of h r hn.2⟩
theorem nums_of {p q : Int → Prop} (h : ∀ n, p n → q n) : ∀ t : Tp, nums p t → nums q t
  | .mk k n ks, hn => by
    simp only [nums] at hn ⊢
    exact ⟨fun e => h n (hn.1 e), fun e => h n (hn.2.1 e), fun e e' => h _ (hn.2.2.1 e e'), numsLs_of h ks hn.2.2.2⟩
theorem numsLs_of {p q : Int → Prop} (h : ∀ n, p n → q n) : ∀ ts : List Tp, numsLs p ts → numsLs q ts
  | [], _ => by simp only [numsLs]
  | t :: r, hn => by
    simp only [numsLs] at hn ⊢
    exact ⟨nums_of h t hn.1, numsLs_of h r hn.2⟩
end
theorem itA_size {n : Int} (h : I64 n) : (itA n).size ≤ 20 := by
  have := itoa_len20 h
  simpa [itA, ByteArray.size] using this
theorem measures_fn (t : Tp) (ht : szT t ≤ 1048576) (hn : nums I64 t) : FnR Tryd.prog GT 10 [dT t] (.bool true) := by
  have b6 : (fnd 6 t []).length * 8 ≤ LB := by have := fnd_sz 6 t []; simp only [List.length_nil, LB] at *; omega
  have b7 : (fnd 7 t []).length * 8 ≤ LB := by have := fnd_sz 7 t []; simp only [List.length_nil, LB] at *; omega
  have b8 : (fnd 8 t []).length * 8 ≤ LB := by have := fnd_sz 8 t []; simp only [List.length_nil, LB] at *; omega
  have hz := txt_size itA t (nums_of (fun n h => itA_size h) t hn)
  have hT := text_fn (G := GT) itA t (numsT_of (fun n h => itoaT_fn n h.1 h.2) t hn) (by omega)
  have hR := rtext_fn itA t (numsT_of (fun n h => decimal_fn n.natAbs n (Nat.le_refl _) (by obtain ⟨h1, h2⟩ := h; omega)) t hn) (by omega)
  refine fnQ_of_vc txok mixed [(1, .take 0 (.take 2 (.run 1 (.run 3 (.pure 4 (.pure 5 (.take 6 (.take 8 (.run 7 (.run 9 (.pure 10 (.pure 11 (.pure 12 (.take 13 (.take 15 (.run 14 (.run 16 (.pure 17 (.pure 18 (.pure 19 (.take 20 (.take 22 (.run 21 (.run 23 (.run 24 (.pure 25 (.pure 26 (.take 27 (.take 29 (.run 28 (.run 30 (.run 31 (.pure 32 (.pure 33 (.take 34 (.take 36 (.run 35 (.run 37 (.run 38 (.pure 39 (.pure 40 (.take 41 (.take 43 (.run 42 (.run 44 (.pure 45 (.pure 46 (.pure 47 (.take 48 (.take 50 (.run 49 (.run 51 (.pure 52 (.pure 53 (.pure 54 (.run 55 (.pure 56 (.pure 57 .done))))))))))))))))))))))))))))))))))))))))))))))))))))))))))] Tryd.func10 rfl rfl (by simp) fun b => ?_
  conv => whnf
  refine And.intro (by kernel_rfl) ?_
  conv => whnf
  refine callF (FnR_up (right_fn t)) gf19 rfl rfl ?_
  conv => whnf
  refine callF (FnR_up (rright_fn t)) gf26 rfl rfl ?_
  conv => whnf
  refine And.intro (fun _ => ?_) (fun h => by simp at h)
  conv => whnf
  refine callF (FnR_up (size_fn t)) gf21 rfl rfl ?_
  conv => whnf
  refine callF (FnR_up (rsize_fn t)) gf27 rfl rfl ?_
  conv => whnf
  refine And.intro (fun _ => ?_) (fun h => by simp at h)
  conv => whnf
  refine callF (FnR_up (fits_fn t)) gf22 rfl rfl ?_
  conv => whnf
  refine callF (FnR_up (rfits_fn t)) gf28 rfl rfl ?_
  conv => whnf
  refine And.intro (fun _ => ?_) (fun h => by simp at h)
  conv => whnf
  refine callF (FnR_up (stamps_fn t b6)) gf24 rfl rfl ?_
  conv => whnf
  refine callF (FnR_up (rstamps_fn t b6)) gf29 rfl rfl ?_
  conv => whnf
  refine callF (FnR_up (ints_fn (fnd 6 t []) (fnd 6 t []))) gf18 rfl rfl ?_
  conv => whnf
  refine And.intro (fun _ => ?_) (fun h => by simp at h)
  conv => whnf
  refine callF (FnR_up (metas_fn t b7)) gf30 rfl rfl ?_
  conv => whnf
  refine callF (FnR_up (rmetas_fn t b7)) gf31 rfl rfl ?_
  conv => whnf
  refine callF (FnR_up (ints_fn (fnd 7 t []) (fnd 7 t []))) gf18 rfl rfl ?_
  conv => whnf
  refine And.intro (fun _ => ?_) (fun h => by simp at h)
  conv => whnf
  refine callF (FnR_up (gens_fn t b8)) gf32 rfl rfl ?_
  conv => whnf
  refine callF (FnR_up (rgens_fn t b8)) gf33 rfl rfl ?_
  conv => whnf
  refine callF (FnR_up (ints_fn (fnd 8 t []) (fnd 8 t []))) gf18 rfl rfl ?_
  conv => whnf
  refine And.intro (fun _ => ?_) (fun h => by simp at h)
  conv => whnf
  refine callF (FnR_up (closed_fn t b7 b8)) gf34 rfl rfl ?_
  conv => whnf
  refine callF (FnR_up (rclosed_fn t b7 b8)) gf35 rfl rfl ?_
  conv => whnf
  refine And.intro (fun _ => ?_) (fun h => by simp at h)
  conv => whnf
  refine callF hT gf20 rfl rfl ?_
  conv => whnf
  refine callF (FnR_up hR) gf36 rfl rfl ?_
  conv => whnf
  refine And.intro (fun _ => ?_) (fun h => by simp at h)
  conv => whnf
  exact callF (FnR_up alive_fn) gf15 rfl rfl rfl
end Go.Proofs.YtmgmddcehjcbkaaDoor
