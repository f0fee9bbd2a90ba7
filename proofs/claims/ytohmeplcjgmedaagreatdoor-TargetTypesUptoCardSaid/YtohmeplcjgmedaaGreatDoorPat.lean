/- Texts of mine, joined: Yp Yq Ys Yt Yu Yv. -/
import Derived.Test.YtohmeplcjgmedaaGreatDoorPas
import Derived.Test.YtohmeplcjgmedaaGreatDoorPan
import Derived.Test.YtohmeplcjgmedaaGreatDoorPar
/- The reference: texts of types, but for lists. -/
set_option linter.unusedSimpArgs false
set_option linter.unusedVariables false
namespace Go.Proofs.YtohmeplcjgmedaaGreatDoor
open Go.Vx Go.Vc Go.RowKit Go.Lib

def TextOk (t : TG) : Prop := ∀ s : List Int, s.length + szB t < 1099511627776 → FnR Tryz.prog G0 31 [dG t, dI s] (.str (bs (txG t s)))
def PartOk (t : TG) : Prop := ∀ s : List Int, s.length + szB t < 1099511627776 → FnR Tryz.prog G0 62 [dG t, dI s] (.str (bs (parW (t.k, txG t s))))
theorem part_ok (t : TG) (hi : i64G t) (ht : TextOk t) : PartOk t := by
  intro s h1
  have hl := txG_len t hi s (by omega)
  have hT := ht s h1
  cases hw : (t.k == 4 || bndG t.k)
  · have hp : parW (t.k, txG t s) = txG t s := by unfold parW; rw [if_neg (by simp only; rw [hw]; decide)]
    rw [hp]
    obtain ⟨k, n, ls, ks⟩ := t
    simp only [g_k] at hw
    have hW := wide_fn k
    rw [hw] at hW
    generalize txG (.mk k n ls ks) s = x at *
    refine fnQ_of_vc txok mixed [] Tryz.func62 rfl rfl (by simp) fun b => ?_
    conv => whnf
    refine callF hW gf93 rfl rfl ?_
    conv => whnf
    refine And.intro (fun h => Bool.noConfusion h) (fun h => ?_)
    conv => whnf
    refine callF hT gf31 rfl rfl ?_
    conv => whnf
    try exact rfl
  · have hp : parW (t.k, txG t s) = 40 :: (txG t s ++ [41]) := by unfold parW; rw [if_pos hw]
    rw [hp]
    obtain ⟨k, n, ls, ks⟩ := t
    simp only [g_k] at hw
    have hW := wide_fn k
    rw [hw] at hW
    generalize txG (.mk k n ls ks) s = x at *
    refine fnQ_of_vc txok mixed [] Tryz.func62 rfl rfl (by simp) fun b => ?_
    conv => whnf
    refine callF hW gf93 rfl rfl ?_
    conv => whnf
    refine And.intro (fun h => ?_) (fun h => Bool.noConfusion h)
    conv => whnf
    refine callF hT gf31 rfl rfl ?_
    conv => whnf
    refine ⟨by rw [bs_size]; show 1 + _ ≤ _; omega, ?_⟩
    conv => whnf
    refine ⟨by rw [ByteArray.size_append, bs_size]; show 1 + _ + 1 ≤ _; omega, ?_⟩
    conv => whnf
    exact congrArg D.str (show bs [40] ++ bs x ++ bs [41] = _ by simp only [bs_app, List.cons_append, List.nil_append])
set_option maxRecDepth 20000 in
theorem textR_bad (k n : Int) (ls : List ByteArray) (ks : List TG) (hb : badN k ls.length ks.length = true) (s : List Int) : FnR Tryz.prog G0 31 [dG (.mk k n ls ks), dI s] (.str (bs ([63]))) := by
  refine fnQ_of_vc txok mixed [(100004, .done)] Tryz.func31 rfl rfl (by simp) fun b => ?_
  conv => whnf
  refine callF (kidsR_fn k) gf44 rfl rfl ?_
  unfold badN at hb
  generalize kidN k = q at *
  repeat' ((conv => whnf); first
    | (refine And.intro (fun hf => ?_) (fun hf => ?_) <;> first | exact Bool.noConfusion hf | skip)
    | refine CutC.mk (fun _ => False) ?_ (fun _ h => h.elim))
  all_goals try (conv => whnf)
  all_goals first | exact rfl | (exfalso; simp_all [g_k, g_ls, g_kids]; done) | (exfalso; simp_all [g_k, g_ls, g_kids]; omega)
set_option maxRecDepth 20000 in
theorem textR1 (n : Int) (ls : List ByteArray) (s : List Int) : FnR Tryz.prog G0 31 [dG (.mk 1 n ls []), dI s] (.str (bs ([105, 110, 116]))) := by
  refine fnQ_of_wk (N := 124) txok mixed Tryz.func31 rfl rfl (by simp) fun b => ?_
  refine wk_seq ⟨[(1, .d (dI s)), (2, .own 0 0)], [(0, .blk 25 [.d (.int .i64 1), .d (.int .i64 n), .d (slD 16 ls.length (encS ls)), .d (slD 64 0 (encGs []))])], 1⟩ (wk_vc txok mixed [] ?_) ?_
  · repeat' ((conv => whnf); first | (refine And.intro (fun hf => ?_) (fun hf => ?_) <;> first | exact Bool.noConfusion hf | skip))
    exact weak_of rfl (by repeat ((conv => whnf); first | exact trivial | refine And.intro rfl ?_ | refine And.intro (incD (by omega)) ?_)) (by repeat ((conv => whnf); first | exact trivial | refine And.intro rfl ?_ | refine And.intro (incD (by omega)) ?_))
  refine wk_seq ⟨[(5, .d (.int .i64 (0))), (1, .d (dI s)), (2, .own 0 0)], [(0, .blk 25 [.d (.int .i64 1), .d (.int .i64 n), .d (slD 16 ls.length (encS ls)), .d (slD 64 0 (encGs []))])], 1⟩ (wk_vc txok mixed [] ?_) ?_
  · conv => whnf
    refine callF (kidsR_fn 1) gf44 rfl rfl ?_
    conv => whnf
    exact weak_of rfl (by repeat ((conv => whnf); first | exact trivial | refine And.intro rfl ?_ | refine And.intro (incD (by omega)) ?_)) (by repeat ((conv => whnf); first | exact trivial | refine And.intro rfl ?_ | refine And.intro (incD (by omega)) ?_))
  refine wk_seq ⟨[(1, .d (dI s)), (2, .own 0 0)], [(0, .blk 25 [.d (.int .i64 1), .d (.int .i64 n), .d (slD 16 ls.length (encS ls)), .d (slD 64 0 (encGs []))])], 1⟩ (wk_vc txok mixed [] ?_) ?_
  · repeat' ((conv => whnf); first | (refine And.intro (fun hf => ?_) (fun hf => ?_) <;> first | exact Bool.noConfusion hf | skip))
    exact weak_of rfl (by repeat ((conv => whnf); first | exact trivial | refine And.intro rfl ?_ | refine And.intro (incD (by omega)) ?_)) (by repeat ((conv => whnf); first | exact trivial | refine And.intro rfl ?_ | refine And.intro (incD (by omega)) ?_))
  refine wk_seqR ?_
  refine wk_seq ⟨[(39, .d (.int .i64 1)), (1, .d (dI s)), (2, .own 0 0)], [(0, .blk 25 [.d (.int .i64 1), .d (.int .i64 n), .d (slD 16 ls.length (encS ls)), .d (slD 64 0 (encGs []))])], 1⟩ (wk_vc txok mixed [] ?_) ?_
  · repeat' ((conv => whnf); first | (refine And.intro (fun hf => ?_) (fun hf => ?_) <;> first | exact Bool.noConfusion hf | skip))
    exact weak_of rfl (by repeat ((conv => whnf); first | exact trivial | refine And.intro rfl ?_ | refine And.intro (incD (by omega)) ?_)) (by repeat ((conv => whnf); first | exact trivial | refine And.intro rfl ?_ | refine And.intro (incD (by omega)) ?_))
  refine wk_block (fun j s h => h) ?_
  refine wk_seq ⟨[(40, .d (.bool true)), (39, .d (.int .i64 1)), (1, .d (dI s)), (2, .own 0 0)], [(0, .blk 25 [.d (.int .i64 1), .d (.int .i64 n), .d (slD 16 ls.length (encS ls)), .d (slD 64 0 (encGs []))])], 1⟩ (wk_vc txok mixed [] ?_) ?_
  · repeat' ((conv => whnf); first | (refine And.intro (fun hf => ?_) (fun hf => ?_) <;> first | exact Bool.noConfusion hf | skip))
    first | refine (weak_kbT 40 true (by exact rfl)).trans (weak_of rfl (by repeat ((conv => whnf); first | exact trivial | refine And.intro rfl ?_ | refine And.intro (incD (by omega)) ?_)) (by repeat ((conv => whnf); first | exact trivial | refine And.intro rfl ?_ | refine And.intro (incD (by omega)) ?_))) | exact weak_of rfl (by repeat ((conv => whnf); first | exact trivial | refine And.intro rfl ?_ | refine And.intro (incD (by omega)) ?_)) (by repeat ((conv => whnf); first | exact trivial | refine And.intro rfl ?_ | refine And.intro (incD (by omega)) ?_))
  refine wk_true rfl ?_
  refine wk_vc txok mixed [(17, .pure 0 (.take 1 (.pure 2 (.take 3 (.pure 4 (.pure 7 (.take 8 (.pure 9 (.take 10 (.pure 11 (.run 5 (.pure 6 (.fin 12 (.pure 13 (.pure 14 .done))))))))))))))), (19, .pure 0 (.take 1 (.pure 2 (.take 3 (.pure 4 (.pure 8 (.take 9 (.pure 10 (.take 11 (.pure 12 (.run 5 (.pure 6 (.pure 7 (.fin 13 (.pure 14 (.pure 15 (.pure 16 .done))))))))))))))))), (28, .pure 0 (.pure 1 (.pure 2 (.pure 3 (.pure 7 (.take 8 (.pure 9 (.take 10 (.pure 11 (.pure 12 (.take 13 (.run 4 (.pure 5 (.pure 6 (.run 14 (.fin 15 (.pure 16 (.pure 17 .done))))))))))))))))))] ?_
  conv => whnf
  rfl
set_option maxRecDepth 20000 in
theorem textR2 (n : Int) (ls : List ByteArray) (s : List Int) : FnR Tryz.prog G0 31 [dG (.mk 2 n ls []), dI s] (.str (bs ([98, 111, 111, 108]))) := by
  refine fnQ_of_wk (N := 124) txok mixed Tryz.func31 rfl rfl (by simp) fun b => ?_
  refine wk_seq ⟨[(1, .d (dI s)), (2, .own 0 0)], [(0, .blk 25 [.d (.int .i64 2), .d (.int .i64 n), .d (slD 16 ls.length (encS ls)), .d (slD 64 0 (encGs []))])], 1⟩ (wk_vc txok mixed [] ?_) ?_
  · repeat' ((conv => whnf); first | (refine And.intro (fun hf => ?_) (fun hf => ?_) <;> first | exact Bool.noConfusion hf | skip))
    exact weak_of rfl (by repeat ((conv => whnf); first | exact trivial | refine And.intro rfl ?_ | refine And.intro (incD (by omega)) ?_)) (by repeat ((conv => whnf); first | exact trivial | refine And.intro rfl ?_ | refine And.intro (incD (by omega)) ?_))
  refine wk_seq ⟨[(5, .d (.int .i64 (0))), (1, .d (dI s)), (2, .own 0 0)], [(0, .blk 25 [.d (.int .i64 2), .d (.int .i64 n), .d (slD 16 ls.length (encS ls)), .d (slD 64 0 (encGs []))])], 1⟩ (wk_vc txok mixed [] ?_) ?_
  · conv => whnf
    refine callF (kidsR_fn 2) gf44 rfl rfl ?_
    conv => whnf
    exact weak_of rfl (by repeat ((conv => whnf); first | exact trivial | refine And.intro rfl ?_ | refine And.intro (incD (by omega)) ?_)) (by repeat ((conv => whnf); first | exact trivial | refine And.intro rfl ?_ | refine And.intro (incD (by omega)) ?_))
  refine wk_seq ⟨[(1, .d (dI s)), (2, .own 0 0)], [(0, .blk 25 [.d (.int .i64 2), .d (.int .i64 n), .d (slD 16 ls.length (encS ls)), .d (slD 64 0 (encGs []))])], 1⟩ (wk_vc txok mixed [] ?_) ?_
  · repeat' ((conv => whnf); first | (refine And.intro (fun hf => ?_) (fun hf => ?_) <;> first | exact Bool.noConfusion hf | skip))
    exact weak_of rfl (by repeat ((conv => whnf); first | exact trivial | refine And.intro rfl ?_ | refine And.intro (incD (by omega)) ?_)) (by repeat ((conv => whnf); first | exact trivial | refine And.intro rfl ?_ | refine And.intro (incD (by omega)) ?_))
  refine wk_seqR ?_
  refine wk_seq ⟨[(39, .d (.int .i64 2)), (1, .d (dI s)), (2, .own 0 0)], [(0, .blk 25 [.d (.int .i64 2), .d (.int .i64 n), .d (slD 16 ls.length (encS ls)), .d (slD 64 0 (encGs []))])], 1⟩ (wk_vc txok mixed [] ?_) ?_
  · repeat' ((conv => whnf); first | (refine And.intro (fun hf => ?_) (fun hf => ?_) <;> first | exact Bool.noConfusion hf | skip))
    exact weak_of rfl (by repeat ((conv => whnf); first | exact trivial | refine And.intro rfl ?_ | refine And.intro (incD (by omega)) ?_)) (by repeat ((conv => whnf); first | exact trivial | refine And.intro rfl ?_ | refine And.intro (incD (by omega)) ?_))
  refine wk_block (fun j s h => h) ?_
  refine wk_seq ⟨[(40, .d (.bool false)), (39, .d (.int .i64 2)), (1, .d (dI s)), (2, .own 0 0)], [(0, .blk 25 [.d (.int .i64 2), .d (.int .i64 n), .d (slD 16 ls.length (encS ls)), .d (slD 64 0 (encGs []))])], 1⟩ (wk_vc txok mixed [] ?_) ?_
  · repeat' ((conv => whnf); first | (refine And.intro (fun hf => ?_) (fun hf => ?_) <;> first | exact Bool.noConfusion hf | skip))
    first | refine (weak_kbT 40 false (by exact rfl)).trans (weak_of rfl (by repeat ((conv => whnf); first | exact trivial | refine And.intro rfl ?_ | refine And.intro (incD (by omega)) ?_)) (by repeat ((conv => whnf); first | exact trivial | refine And.intro rfl ?_ | refine And.intro (incD (by omega)) ?_))) | exact weak_of rfl (by repeat ((conv => whnf); first | exact trivial | refine And.intro rfl ?_ | refine And.intro (incD (by omega)) ?_)) (by repeat ((conv => whnf); first | exact trivial | refine And.intro rfl ?_ | refine And.intro (incD (by omega)) ?_))
  refine wk_false rfl ?_
  refine wk_seq ⟨[(42, .d (.bool true)), (39, .d (.int .i64 2)), (1, .d (dI s)), (2, .own 0 0)], [(0, .blk 25 [.d (.int .i64 2), .d (.int .i64 n), .d (slD 16 ls.length (encS ls)), .d (slD 64 0 (encGs []))])], 1⟩ (wk_vc txok mixed [] ?_) ?_
  · repeat' ((conv => whnf); first | (refine And.intro (fun hf => ?_) (fun hf => ?_) <;> first | exact Bool.noConfusion hf | skip))
    first | refine (weak_kbT 42 true (by exact rfl)).trans (weak_of rfl (by repeat ((conv => whnf); first | exact trivial | refine And.intro rfl ?_ | refine And.intro (incD (by omega)) ?_)) (by repeat ((conv => whnf); first | exact trivial | refine And.intro rfl ?_ | refine And.intro (incD (by omega)) ?_))) | exact weak_of rfl (by repeat ((conv => whnf); first | exact trivial | refine And.intro rfl ?_ | refine And.intro (incD (by omega)) ?_)) (by repeat ((conv => whnf); first | exact trivial | refine And.intro rfl ?_ | refine And.intro (incD (by omega)) ?_))
  refine wk_true rfl ?_
  refine wk_vc txok mixed [(17, .pure 0 (.take 1 (.pure 2 (.take 3 (.pure 4 (.pure 7 (.take 8 (.pure 9 (.take 10 (.pure 11 (.run 5 (.pure 6 (.fin 12 (.pure 13 (.pure 14 .done))))))))))))))), (19, .pure 0 (.take 1 (.pure 2 (.take 3 (.pure 4 (.pure 8 (.take 9 (.pure 10 (.take 11 (.pure 12 (.run 5 (.pure 6 (.pure 7 (.fin 13 (.pure 14 (.pure 15 (.pure 16 .done))))))))))))))))), (28, .pure 0 (.pure 1 (.pure 2 (.pure 3 (.pure 7 (.take 8 (.pure 9 (.take 10 (.pure 11 (.pure 12 (.take 13 (.run 4 (.pure 5 (.pure 6 (.run 14 (.fin 15 (.pure 16 (.pure 17 .done))))))))))))))))))] ?_
  conv => whnf
  rfl
set_option maxRecDepth 20000 in
theorem textR3 (n : Int) (ls : List ByteArray) (s : List Int) : FnR Tryz.prog G0 31 [dG (.mk 3 n ls []), dI s] (.str (bs ([117, 110, 105, 116]))) := by
  refine fnQ_of_wk (N := 124) txok mixed Tryz.func31 rfl rfl (by simp) fun b => ?_
  refine wk_seq ⟨[(1, .d (dI s)), (2, .own 0 0)], [(0, .blk 25 [.d (.int .i64 3), .d (.int .i64 n), .d (slD 16 ls.length (encS ls)), .d (slD 64 0 (encGs []))])], 1⟩ (wk_vc txok mixed [] ?_) ?_
  · repeat' ((conv => whnf); first | (refine And.intro (fun hf => ?_) (fun hf => ?_) <;> first | exact Bool.noConfusion hf | skip))
    exact weak_of rfl (by repeat ((conv => whnf); first | exact trivial | refine And.intro rfl ?_ | refine And.intro (incD (by omega)) ?_)) (by repeat ((conv => whnf); first | exact trivial | refine And.intro rfl ?_ | refine And.intro (incD (by omega)) ?_))
  refine wk_seq ⟨[(5, .d (.int .i64 (0))), (1, .d (dI s)), (2, .own 0 0)], [(0, .blk 25 [.d (.int .i64 3), .d (.int .i64 n), .d (slD 16 ls.length (encS ls)), .d (slD 64 0 (encGs []))])], 1⟩ (wk_vc txok mixed [] ?_) ?_
  · conv => whnf
    refine callF (kidsR_fn 3) gf44 rfl rfl ?_
    conv => whnf
    exact weak_of rfl (by repeat ((conv => whnf); first | exact trivial | refine And.intro rfl ?_ | refine And.intro (incD (by omega)) ?_)) (by repeat ((conv => whnf); first | exact trivial | refine And.intro rfl ?_ | refine And.intro (incD (by omega)) ?_))
  refine wk_seq ⟨[(1, .d (dI s)), (2, .own 0 0)], [(0, .blk 25 [.d (.int .i64 3), .d (.int .i64 n), .d (slD 16 ls.length (encS ls)), .d (slD 64 0 (encGs []))])], 1⟩ (wk_vc txok mixed [] ?_) ?_
  · repeat' ((conv => whnf); first | (refine And.intro (fun hf => ?_) (fun hf => ?_) <;> first | exact Bool.noConfusion hf | skip))
    exact weak_of rfl (by repeat ((conv => whnf); first | exact trivial | refine And.intro rfl ?_ | refine And.intro (incD (by omega)) ?_)) (by repeat ((conv => whnf); first | exact trivial | refine And.intro rfl ?_ | refine And.intro (incD (by omega)) ?_))
  refine wk_seqR ?_
  refine wk_seq ⟨[(39, .d (.int .i64 3)), (1, .d (dI s)), (2, .own 0 0)], [(0, .blk 25 [.d (.int .i64 3), .d (.int .i64 n), .d (slD 16 ls.length (encS ls)), .d (slD 64 0 (encGs []))])], 1⟩ (wk_vc txok mixed [] ?_) ?_
  · repeat' ((conv => whnf); first | (refine And.intro (fun hf => ?_) (fun hf => ?_) <;> first | exact Bool.noConfusion hf | skip))
    exact weak_of rfl (by repeat ((conv => whnf); first | exact trivial | refine And.intro rfl ?_ | refine And.intro (incD (by omega)) ?_)) (by repeat ((conv => whnf); first | exact trivial | refine And.intro rfl ?_ | refine And.intro (incD (by omega)) ?_))
  refine wk_block (fun j s h => h) ?_
  refine wk_seq ⟨[(40, .d (.bool false)), (39, .d (.int .i64 3)), (1, .d (dI s)), (2, .own 0 0)], [(0, .blk 25 [.d (.int .i64 3), .d (.int .i64 n), .d (slD 16 ls.length (encS ls)), .d (slD 64 0 (encGs []))])], 1⟩ (wk_vc txok mixed [] ?_) ?_
  · repeat' ((conv => whnf); first | (refine And.intro (fun hf => ?_) (fun hf => ?_) <;> first | exact Bool.noConfusion hf | skip))
    first | refine (weak_kbT 40 false (by exact rfl)).trans (weak_of rfl (by repeat ((conv => whnf); first | exact trivial | refine And.intro rfl ?_ | refine And.intro (incD (by omega)) ?_)) (by repeat ((conv => whnf); first | exact trivial | refine And.intro rfl ?_ | refine And.intro (incD (by omega)) ?_))) | exact weak_of rfl (by repeat ((conv => whnf); first | exact trivial | refine And.intro rfl ?_ | refine And.intro (incD (by omega)) ?_)) (by repeat ((conv => whnf); first | exact trivial | refine And.intro rfl ?_ | refine And.intro (incD (by omega)) ?_))
  refine wk_false rfl ?_
  refine wk_seq ⟨[(42, .d (.bool false)), (39, .d (.int .i64 3)), (1, .d (dI s)), (2, .own 0 0)], [(0, .blk 25 [.d (.int .i64 3), .d (.int .i64 n), .d (slD 16 ls.length (encS ls)), .d (slD 64 0 (encGs []))])], 1⟩ (wk_vc txok mixed [] ?_) ?_
  · repeat' ((conv => whnf); first | (refine And.intro (fun hf => ?_) (fun hf => ?_) <;> first | exact Bool.noConfusion hf | skip))
    first | refine (weak_kbT 42 false (by exact rfl)).trans (weak_of rfl (by repeat ((conv => whnf); first | exact trivial | refine And.intro rfl ?_ | refine And.intro (incD (by omega)) ?_)) (by repeat ((conv => whnf); first | exact trivial | refine And.intro rfl ?_ | refine And.intro (incD (by omega)) ?_))) | exact weak_of rfl (by repeat ((conv => whnf); first | exact trivial | refine And.intro rfl ?_ | refine And.intro (incD (by omega)) ?_)) (by repeat ((conv => whnf); first | exact trivial | refine And.intro rfl ?_ | refine And.intro (incD (by omega)) ?_))
  refine wk_false rfl ?_
  refine wk_seq ⟨[(44, .d (.bool true)), (39, .d (.int .i64 3)), (1, .d (dI s)), (2, .own 0 0)], [(0, .blk 25 [.d (.int .i64 3), .d (.int .i64 n), .d (slD 16 ls.length (encS ls)), .d (slD 64 0 (encGs []))])], 1⟩ (wk_vc txok mixed [] ?_) ?_
  · repeat' ((conv => whnf); first | (refine And.intro (fun hf => ?_) (fun hf => ?_) <;> first | exact Bool.noConfusion hf | skip))
    first | refine (weak_kbT 44 true (by exact rfl)).trans (weak_of rfl (by repeat ((conv => whnf); first | exact trivial | refine And.intro rfl ?_ | refine And.intro (incD (by omega)) ?_)) (by repeat ((conv => whnf); first | exact trivial | refine And.intro rfl ?_ | refine And.intro (incD (by omega)) ?_))) | exact weak_of rfl (by repeat ((conv => whnf); first | exact trivial | refine And.intro rfl ?_ | refine And.intro (incD (by omega)) ?_)) (by repeat ((conv => whnf); first | exact trivial | refine And.intro rfl ?_ | refine And.intro (incD (by omega)) ?_))
  refine wk_true rfl ?_
  refine wk_vc txok mixed [(17, .pure 0 (.take 1 (.pure 2 (.take 3 (.pure 4 (.pure 7 (.take 8 (.pure 9 (.take 10 (.pure 11 (.run 5 (.pure 6 (.fin 12 (.pure 13 (.pure 14 .done))))))))))))))), (19, .pure 0 (.take 1 (.pure 2 (.take 3 (.pure 4 (.pure 8 (.take 9 (.pure 10 (.take 11 (.pure 12 (.run 5 (.pure 6 (.pure 7 (.fin 13 (.pure 14 (.pure 15 (.pure 16 .done))))))))))))))))), (28, .pure 0 (.pure 1 (.pure 2 (.pure 3 (.pure 7 (.take 8 (.pure 9 (.take 10 (.pure 11 (.pure 12 (.take 13 (.run 4 (.pure 5 (.pure 6 (.run 14 (.fin 15 (.pure 16 (.pure 17 .done))))))))))))))))))] ?_
  conv => whnf
  rfl
set_option maxRecDepth 20000 in
theorem textR6 (n : Int) (hn : -9223372036854775808 ≤ n ∧ n ≤ 9223372036854775807) (ls : List ByteArray) (s : List Int) (hs : s.length < 1099511627776) : FnR Tryz.prog G0 31 [dG (.mk 6 n ls []), dI s] (.str (bs (numA s n))) := by
  have hlt := lastI_lt s n
  refine fnQ_of_wk (N := 124) txok mixed Tryz.func31 rfl rfl (by simp) fun b => ?_
  refine wk_seq ⟨[(1, .d (dI s)), (2, .own 0 0)], [(0, .blk 25 [.d (.int .i64 6), .d (.int .i64 n), .d (slD 16 ls.length (encS ls)), .d (slD 64 0 (encGs []))])], 1⟩ (wk_vc txok mixed [] ?_) ?_
  · repeat' ((conv => whnf); first | (refine And.intro (fun hf => ?_) (fun hf => ?_) <;> first | exact Bool.noConfusion hf | skip))
    exact weak_of rfl (by repeat ((conv => whnf); first | exact trivial | refine And.intro rfl ?_ | refine And.intro (incD (by omega)) ?_)) (by repeat ((conv => whnf); first | exact trivial | refine And.intro rfl ?_ | refine And.intro (incD (by omega)) ?_))
  refine wk_seq ⟨[(5, .d (.int .i64 (0))), (1, .d (dI s)), (2, .own 0 0)], [(0, .blk 25 [.d (.int .i64 6), .d (.int .i64 n), .d (slD 16 ls.length (encS ls)), .d (slD 64 0 (encGs []))])], 1⟩ (wk_vc txok mixed [] ?_) ?_
  · conv => whnf
    refine callF (kidsR_fn 6) gf44 rfl rfl ?_
    conv => whnf
    exact weak_of rfl (by repeat ((conv => whnf); first | exact trivial | refine And.intro rfl ?_ | refine And.intro (incD (by omega)) ?_)) (by repeat ((conv => whnf); first | exact trivial | refine And.intro rfl ?_ | refine And.intro (incD (by omega)) ?_))
  refine wk_seq ⟨[(1, .d (dI s)), (2, .own 0 0)], [(0, .blk 25 [.d (.int .i64 6), .d (.int .i64 n), .d (slD 16 ls.length (encS ls)), .d (slD 64 0 (encGs []))])], 1⟩ (wk_vc txok mixed [] ?_) ?_
  · repeat' ((conv => whnf); first | (refine And.intro (fun hf => ?_) (fun hf => ?_) <;> first | exact Bool.noConfusion hf | skip))
    exact weak_of rfl (by repeat ((conv => whnf); first | exact trivial | refine And.intro rfl ?_ | refine And.intro (incD (by omega)) ?_)) (by repeat ((conv => whnf); first | exact trivial | refine And.intro rfl ?_ | refine And.intro (incD (by omega)) ?_))
  refine wk_seqR ?_
  refine wk_seq ⟨[(39, .d (.int .i64 6)), (1, .d (dI s)), (2, .own 0 0)], [(0, .blk 25 [.d (.int .i64 6), .d (.int .i64 n), .d (slD 16 ls.length (encS ls)), .d (slD 64 0 (encGs []))])], 1⟩ (wk_vc txok mixed [] ?_) ?_
  · repeat' ((conv => whnf); first | (refine And.intro (fun hf => ?_) (fun hf => ?_) <;> first | exact Bool.noConfusion hf | skip))
    exact weak_of rfl (by repeat ((conv => whnf); first | exact trivial | refine And.intro rfl ?_ | refine And.intro (incD (by omega)) ?_)) (by repeat ((conv => whnf); first | exact trivial | refine And.intro rfl ?_ | refine And.intro (incD (by omega)) ?_))
  refine wk_block (fun j s h => h) ?_
  refine wk_seq ⟨[(40, .d (.bool false)), (39, .d (.int .i64 6)), (1, .d (dI s)), (2, .own 0 0)], [(0, .blk 25 [.d (.int .i64 6), .d (.int .i64 n), .d (slD 16 ls.length (encS ls)), .d (slD 64 0 (encGs []))])], 1⟩ (wk_vc txok mixed [] ?_) ?_
  · repeat' ((conv => whnf); first | (refine And.intro (fun hf => ?_) (fun hf => ?_) <;> first | exact Bool.noConfusion hf | skip))
    first | refine (weak_kbT 40 false (by exact rfl)).trans (weak_of rfl (by repeat ((conv => whnf); first | exact trivial | refine And.intro rfl ?_ | refine And.intro (incD (by omega)) ?_)) (by repeat ((conv => whnf); first | exact trivial | refine And.intro rfl ?_ | refine And.intro (incD (by omega)) ?_))) | exact weak_of rfl (by repeat ((conv => whnf); first | exact trivial | refine And.intro rfl ?_ | refine And.intro (incD (by omega)) ?_)) (by repeat ((conv => whnf); first | exact trivial | refine And.intro rfl ?_ | refine And.intro (incD (by omega)) ?_))
  refine wk_false rfl ?_
  refine wk_seq ⟨[(42, .d (.bool false)), (39, .d (.int .i64 6)), (1, .d (dI s)), (2, .own 0 0)], [(0, .blk 25 [.d (.int .i64 6), .d (.int .i64 n), .d (slD 16 ls.length (encS ls)), .d (slD 64 0 (encGs []))])], 1⟩ (wk_vc txok mixed [] ?_) ?_
  · repeat' ((conv => whnf); first | (refine And.intro (fun hf => ?_) (fun hf => ?_) <;> first | exact Bool.noConfusion hf | skip))
    first | refine (weak_kbT 42 false (by exact rfl)).trans (weak_of rfl (by repeat ((conv => whnf); first | exact trivial | refine And.intro rfl ?_ | refine And.intro (incD (by omega)) ?_)) (by repeat ((conv => whnf); first | exact trivial | refine And.intro rfl ?_ | refine And.intro (incD (by omega)) ?_))) | exact weak_of rfl (by repeat ((conv => whnf); first | exact trivial | refine And.intro rfl ?_ | refine And.intro (incD (by omega)) ?_)) (by repeat ((conv => whnf); first | exact trivial | refine And.intro rfl ?_ | refine And.intro (incD (by omega)) ?_))
  refine wk_false rfl ?_
  refine wk_seq ⟨[(44, .d (.bool false)), (39, .d (.int .i64 6)), (1, .d (dI s)), (2, .own 0 0)], [(0, .blk 25 [.d (.int .i64 6), .d (.int .i64 n), .d (slD 16 ls.length (encS ls)), .d (slD 64 0 (encGs []))])], 1⟩ (wk_vc txok mixed [] ?_) ?_
  · repeat' ((conv => whnf); first | (refine And.intro (fun hf => ?_) (fun hf => ?_) <;> first | exact Bool.noConfusion hf | skip))
    first | refine (weak_kbT 44 false (by exact rfl)).trans (weak_of rfl (by repeat ((conv => whnf); first | exact trivial | refine And.intro rfl ?_ | refine And.intro (incD (by omega)) ?_)) (by repeat ((conv => whnf); first | exact trivial | refine And.intro rfl ?_ | refine And.intro (incD (by omega)) ?_))) | exact weak_of rfl (by repeat ((conv => whnf); first | exact trivial | refine And.intro rfl ?_ | refine And.intro (incD (by omega)) ?_)) (by repeat ((conv => whnf); first | exact trivial | refine And.intro rfl ?_ | refine And.intro (incD (by omega)) ?_))
  refine wk_false rfl ?_
  refine wk_seq ⟨[(46, .d (.bool true)), (39, .d (.int .i64 6)), (1, .d (dI s)), (2, .own 0 0)], [(0, .blk 25 [.d (.int .i64 6), .d (.int .i64 n), .d (slD 16 ls.length (encS ls)), .d (slD 64 0 (encGs []))])], 1⟩ (wk_vc txok mixed [] ?_) ?_
  · repeat' ((conv => whnf); first | (refine And.intro (fun hf => ?_) (fun hf => ?_) <;> first | exact Bool.noConfusion hf | skip))
    first | refine (weak_kbT 46 true (by exact rfl)).trans (weak_of rfl (by repeat ((conv => whnf); first | exact trivial | refine And.intro rfl ?_ | refine And.intro (incD (by omega)) ?_)) (by repeat ((conv => whnf); first | exact trivial | refine And.intro rfl ?_ | refine And.intro (incD (by omega)) ?_))) | exact weak_of rfl (by repeat ((conv => whnf); first | exact trivial | refine And.intro rfl ?_ | refine And.intro (incD (by omega)) ?_)) (by repeat ((conv => whnf); first | exact trivial | refine And.intro rfl ?_ | refine And.intro (incD (by omega)) ?_))
  refine wk_true rfl ?_
  refine wk_vc txok mixed [(17, .pure 0 (.take 1 (.pure 2 (.take 3 (.pure 4 (.pure 7 (.take 8 (.pure 9 (.take 10 (.pure 11 (.run 5 (.pure 6 (.fin 12 (.pure 13 (.pure 14 .done))))))))))))))), (19, .pure 0 (.take 1 (.pure 2 (.take 3 (.pure 4 (.pure 8 (.take 9 (.pure 10 (.take 11 (.pure 12 (.run 5 (.pure 6 (.pure 7 (.fin 13 (.pure 14 (.pure 15 (.pure 16 .done))))))))))))))))), (28, .pure 0 (.pure 1 (.pure 2 (.pure 3 (.pure 7 (.take 8 (.pure 9 (.take 10 (.pure 11 (.pure 12 (.take 13 (.run 4 (.pure 5 (.pure 6 (.run 14 (.fin 15 (.pure 16 (.pure 17 .done))))))))))))))))))] ?_
  conv => whnf
  refine callF (level_fn s n hs) gf52 rfl rfl ?_
  conv => whnf
  refine And.intro (fun h => ?_) (fun h => ?_)
  · have h : lastI s n < 0 := of_decide_eq_true h
    have h20 := itoa_len20 hn
    conv => whnf
    refine callF (decimal_fn n hn) gf61 rfl rfl ?_
    conv => whnf
    refine ⟨by rw [bs_size]; show 1 + _ ≤ _; omega, ?_⟩
    conv => whnf
    unfold numA
    rw [if_neg (by omega)]
    exact congrArg D.str (show bs [35] ++ bs (itoa n) = _ by simp only [bs_app, List.cons_append, List.nil_append])
  · have h : ¬ lastI s n < 0 := of_decide_eq_false h
    have h20 := itoa_len20 (n := lastI s n) ⟨by omega, by omega⟩
    conv => whnf
    refine callF (decimal_fn (lastI s n) ⟨by omega, by omega⟩) gf61 rfl rfl ?_
    conv => whnf
    refine ⟨by rw [bs_size]; show 1 + _ ≤ _; omega, ?_⟩
    conv => whnf
    unfold numA
    rw [if_pos (by omega)]
    exact congrArg D.str (show bs [116] ++ bs (itoa (lastI s n)) = _ by simp only [bs_app, List.cons_append, List.nil_append])
set_option maxRecDepth 20000 in
theorem textR4 (n : Int) (ls : List ByteArray) (u v : TG) (hu : PartOk u) (hv : TextOk v) (s : List Int) (hs : s.length + szB u + szB v < 1099511627776) (hlu : (parW (u.k, txG u s)).length ≤ 100 * szB u) (hlv : (txG v s).length ≤ 100 * szB v) : FnR Tryz.prog G0 31 [dG (.mk 4 n ls [u, v]), dI s] (.str (bs (parW (u.k, txG u s) ++ ([32, 45, 62, 32] ++ txG v s)))) := by
  have hu := hu s (by omega)
  have hv := hv s (by omega)
  generalize parW (u.k, txG u s) = x at *
  generalize txG v s = y at *
  have z1 : (⟨#[32, 45, 62, 32]⟩ : ByteArray).size = 4 := rfl
  have z2 : (⟨#[40]⟩ : ByteArray).size = 1 := rfl
  have z3 : (⟨#[41]⟩ : ByteArray).size = 1 := rfl
  have z4 : (⟨#[32, 42, 32]⟩ : ByteArray).size = 3 := rfl
  have z5 : (⟨#[32, 116]⟩ : ByteArray).size = 2 := rfl
  have z6 : (⟨#[46, 32]⟩ : ByteArray).size = 2 := rfl
  refine fnQ_of_wk (N := 124) txok mixed Tryz.func31 rfl rfl (by simp) fun b => ?_
  refine wk_seq ⟨[(1, .d (dI s)), (2, .own 0 0)], [(0, .blk 25 [.d (.int .i64 4), .d (.int .i64 n), .d (slD 16 ls.length (encS ls)), .d (slD 64 2 (encGs [u, v]))])], 1⟩ (wk_vc txok mixed [] ?_) ?_
  · repeat' ((conv => whnf); first | (refine And.intro (fun hf => ?_) (fun hf => ?_) <;> first | exact Bool.noConfusion hf | skip))
    exact weak_of rfl (by repeat ((conv => whnf); first | exact trivial | refine And.intro rfl ?_ | refine And.intro (incD (by omega)) ?_)) (by repeat ((conv => whnf); first | exact trivial | refine And.intro rfl ?_ | refine And.intro (incD (by omega)) ?_))
  refine wk_seq ⟨[(5, .d (.int .i64 (2))), (1, .d (dI s)), (2, .own 0 0)], [(0, .blk 25 [.d (.int .i64 4), .d (.int .i64 n), .d (slD 16 ls.length (encS ls)), .d (slD 64 2 (encGs [u, v]))])], 1⟩ (wk_vc txok mixed [] ?_) ?_
  · conv => whnf
    refine callF (kidsR_fn 4) gf44 rfl rfl ?_
    conv => whnf
    exact weak_of rfl (by repeat ((conv => whnf); first | exact trivial | refine And.intro rfl ?_ | refine And.intro (incD (by omega)) ?_)) (by repeat ((conv => whnf); first | exact trivial | refine And.intro rfl ?_ | refine And.intro (incD (by omega)) ?_))
  refine wk_seq ⟨[(1, .d (dI s)), (2, .own 0 0)], [(0, .blk 25 [.d (.int .i64 4), .d (.int .i64 n), .d (slD 16 ls.length (encS ls)), .d (slD 64 2 (encGs [u, v]))])], 1⟩ (wk_vc txok mixed [] ?_) ?_
  · repeat' ((conv => whnf); first | (refine And.intro (fun hf => ?_) (fun hf => ?_) <;> first | exact Bool.noConfusion hf | skip))
    exact weak_of rfl (by repeat ((conv => whnf); first | exact trivial | refine And.intro rfl ?_ | refine And.intro (incD (by omega)) ?_)) (by repeat ((conv => whnf); first | exact trivial | refine And.intro rfl ?_ | refine And.intro (incD (by omega)) ?_))
  refine wk_seqR ?_
  refine wk_seq ⟨[(39, .d (.int .i64 4)), (1, .d (dI s)), (2, .own 0 0)], [(0, .blk 25 [.d (.int .i64 4), .d (.int .i64 n), .d (slD 16 ls.length (encS ls)), .d (slD 64 2 (encGs [u, v]))])], 1⟩ (wk_vc txok mixed [] ?_) ?_
  · repeat' ((conv => whnf); first | (refine And.intro (fun hf => ?_) (fun hf => ?_) <;> first | exact Bool.noConfusion hf | skip))
    exact weak_of rfl (by repeat ((conv => whnf); first | exact trivial | refine And.intro rfl ?_ | refine And.intro (incD (by omega)) ?_)) (by repeat ((conv => whnf); first | exact trivial | refine And.intro rfl ?_ | refine And.intro (incD (by omega)) ?_))
  refine wk_block (fun j s h => h) ?_
  refine wk_seq ⟨[(40, .d (.bool false)), (39, .d (.int .i64 4)), (1, .d (dI s)), (2, .own 0 0)], [(0, .blk 25 [.d (.int .i64 4), .d (.int .i64 n), .d (slD 16 ls.length (encS ls)), .d (slD 64 2 (encGs [u, v]))])], 1⟩ (wk_vc txok mixed [] ?_) ?_
  · repeat' ((conv => whnf); first | (refine And.intro (fun hf => ?_) (fun hf => ?_) <;> first | exact Bool.noConfusion hf | skip))
    first | refine (weak_kbT 40 false (by exact rfl)).trans (weak_of rfl (by repeat ((conv => whnf); first | exact trivial | refine And.intro rfl ?_ | refine And.intro (incD (by omega)) ?_)) (by repeat ((conv => whnf); first | exact trivial | refine And.intro rfl ?_ | refine And.intro (incD (by omega)) ?_))) | exact weak_of rfl (by repeat ((conv => whnf); first | exact trivial | refine And.intro rfl ?_ | refine And.intro (incD (by omega)) ?_)) (by repeat ((conv => whnf); first | exact trivial | refine And.intro rfl ?_ | refine And.intro (incD (by omega)) ?_))
  refine wk_false rfl ?_
  refine wk_seq ⟨[(42, .d (.bool false)), (39, .d (.int .i64 4)), (1, .d (dI s)), (2, .own 0 0)], [(0, .blk 25 [.d (.int .i64 4), .d (.int .i64 n), .d (slD 16 ls.length (encS ls)), .d (slD 64 2 (encGs [u, v]))])], 1⟩ (wk_vc txok mixed [] ?_) ?_
  · repeat' ((conv => whnf); first | (refine And.intro (fun hf => ?_) (fun hf => ?_) <;> first | exact Bool.noConfusion hf | skip))
    first | refine (weak_kbT 42 false (by exact rfl)).trans (weak_of rfl (by repeat ((conv => whnf); first | exact trivial | refine And.intro rfl ?_ | refine And.intro (incD (by omega)) ?_)) (by repeat ((conv => whnf); first | exact trivial | refine And.intro rfl ?_ | refine And.intro (incD (by omega)) ?_))) | exact weak_of rfl (by repeat ((conv => whnf); first | exact trivial | refine And.intro rfl ?_ | refine And.intro (incD (by omega)) ?_)) (by repeat ((conv => whnf); first | exact trivial | refine And.intro rfl ?_ | refine And.intro (incD (by omega)) ?_))
  refine wk_false rfl ?_
  refine wk_seq ⟨[(44, .d (.bool false)), (39, .d (.int .i64 4)), (1, .d (dI s)), (2, .own 0 0)], [(0, .blk 25 [.d (.int .i64 4), .d (.int .i64 n), .d (slD 16 ls.length (encS ls)), .d (slD 64 2 (encGs [u, v]))])], 1⟩ (wk_vc txok mixed [] ?_) ?_
  · repeat' ((conv => whnf); first | (refine And.intro (fun hf => ?_) (fun hf => ?_) <;> first | exact Bool.noConfusion hf | skip))
    first | refine (weak_kbT 44 false (by exact rfl)).trans (weak_of rfl (by repeat ((conv => whnf); first | exact trivial | refine And.intro rfl ?_ | refine And.intro (incD (by omega)) ?_)) (by repeat ((conv => whnf); first | exact trivial | refine And.intro rfl ?_ | refine And.intro (incD (by omega)) ?_))) | exact weak_of rfl (by repeat ((conv => whnf); first | exact trivial | refine And.intro rfl ?_ | refine And.intro (incD (by omega)) ?_)) (by repeat ((conv => whnf); first | exact trivial | refine And.intro rfl ?_ | refine And.intro (incD (by omega)) ?_))
  refine wk_false rfl ?_
  refine wk_seq ⟨[(46, .d (.bool false)), (39, .d (.int .i64 4)), (1, .d (dI s)), (2, .own 0 0)], [(0, .blk 25 [.d (.int .i64 4), .d (.int .i64 n), .d (slD 16 ls.length (encS ls)), .d (slD 64 2 (encGs [u, v]))])], 1⟩ (wk_vc txok mixed [] ?_) ?_
  · repeat' ((conv => whnf); first | (refine And.intro (fun hf => ?_) (fun hf => ?_) <;> first | exact Bool.noConfusion hf | skip))
    first | refine (weak_kbT 46 false (by exact rfl)).trans (weak_of rfl (by repeat ((conv => whnf); first | exact trivial | refine And.intro rfl ?_ | refine And.intro (incD (by omega)) ?_)) (by repeat ((conv => whnf); first | exact trivial | refine And.intro rfl ?_ | refine And.intro (incD (by omega)) ?_))) | exact weak_of rfl (by repeat ((conv => whnf); first | exact trivial | refine And.intro rfl ?_ | refine And.intro (incD (by omega)) ?_)) (by repeat ((conv => whnf); first | exact trivial | refine And.intro rfl ?_ | refine And.intro (incD (by omega)) ?_))
  refine wk_false rfl ?_
  refine wk_seq ⟨[(61, .d (.bool true)), (39, .d (.int .i64 4)), (1, .d (dI s)), (2, .own 0 0)], [(0, .blk 25 [.d (.int .i64 4), .d (.int .i64 n), .d (slD 16 ls.length (encS ls)), .d (slD 64 2 (encGs [u, v]))])], 1⟩ (wk_vc txok mixed [] ?_) ?_
  · repeat' ((conv => whnf); first | (refine And.intro (fun hf => ?_) (fun hf => ?_) <;> first | exact Bool.noConfusion hf | skip))
    first | refine (weak_kbT 61 true (by exact rfl)).trans (weak_of rfl (by repeat ((conv => whnf); first | exact trivial | refine And.intro rfl ?_ | refine And.intro (incD (by omega)) ?_)) (by repeat ((conv => whnf); first | exact trivial | refine And.intro rfl ?_ | refine And.intro (incD (by omega)) ?_))) | exact weak_of rfl (by repeat ((conv => whnf); first | exact trivial | refine And.intro rfl ?_ | refine And.intro (incD (by omega)) ?_)) (by repeat ((conv => whnf); first | exact trivial | refine And.intro rfl ?_ | refine And.intro (incD (by omega)) ?_))
  refine wk_true rfl ?_
  refine wk_vc txok mixed [(17, .pure 0 (.take 1 (.pure 2 (.take 3 (.pure 4 (.pure 7 (.take 8 (.pure 9 (.take 10 (.pure 11 (.run 5 (.pure 6 (.fin 12 (.pure 13 (.pure 14 .done))))))))))))))), (19, .pure 0 (.take 1 (.pure 2 (.take 3 (.pure 4 (.pure 8 (.take 9 (.pure 10 (.take 11 (.pure 12 (.run 5 (.pure 6 (.pure 7 (.fin 13 (.pure 14 (.pure 15 (.pure 16 .done))))))))))))))))), (28, .pure 0 (.pure 1 (.pure 2 (.pure 3 (.pure 7 (.take 8 (.pure 9 (.take 10 (.pure 11 (.pure 12 (.take 13 (.run 4 (.pure 5 (.pure 6 (.run 14 (.fin 15 (.pure 16 (.pure 17 .done))))))))))))))))))] ?_
  conv => whnf
  refine And.intro (by kernel_rfl) ?_
  repeat'
    first
      | (simp only [ByteArray.size_append, bs_size]; omega)
      | ((conv => whnf); first
        | refine And.intro ?_ ?_
        | refine IdxC.encGs (l := [u, v]) 0 (by show 0 < 2; decide) (by exact rfl) ?_
        | refine IdxC.encGs (l := [u, v]) 1 (by show 1 < 2; decide) (by exact rfl) ?_
        | refine callF hu gf62 (by exact rfl) (by exact rfl) ?_
        | refine callF hv gf31 (by exact rfl) (by exact rfl) ?_
        | exact congrArg D.str (show bs x ++ bs [32, 45, 62, 32] ++ bs y = _ by simp only [bs_app, List.append_assoc]))
set_option maxRecDepth 20000 in
theorem textR5 (n : Int) (ls : List ByteArray) (u v : TG) (hu : PartOk u) (hv : PartOk v) (s : List Int) (hs : s.length + szB u + szB v < 1099511627776) (hlu : (parW (u.k, txG u s)).length ≤ 100 * szB u) (hlv : (parW (v.k, txG v s)).length ≤ 100 * szB v) : FnR Tryz.prog G0 31 [dG (.mk 5 n ls [u, v]), dI s] (.str (bs ([40] ++ (parW (u.k, txG u s) ++ ([32, 42, 32] ++ (parW (v.k, txG v s) ++ [41])))))) := by
  have hu := hu s (by omega)
  have hv := hv s (by omega)
  generalize parW (u.k, txG u s) = x at *
  generalize parW (v.k, txG v s) = y at *
  have z1 : (⟨#[32, 45, 62, 32]⟩ : ByteArray).size = 4 := rfl
  have z2 : (⟨#[40]⟩ : ByteArray).size = 1 := rfl
  have z3 : (⟨#[41]⟩ : ByteArray).size = 1 := rfl
  have z4 : (⟨#[32, 42, 32]⟩ : ByteArray).size = 3 := rfl
  have z5 : (⟨#[32, 116]⟩ : ByteArray).size = 2 := rfl
  have z6 : (⟨#[46, 32]⟩ : ByteArray).size = 2 := rfl
  refine fnQ_of_wk (N := 124) txok mixed Tryz.func31 rfl rfl (by simp) fun b => ?_
  refine wk_seq ⟨[(1, .d (dI s)), (2, .own 0 0)], [(0, .blk 25 [.d (.int .i64 5), .d (.int .i64 n), .d (slD 16 ls.length (encS ls)), .d (slD 64 2 (encGs [u, v]))])], 1⟩ (wk_vc txok mixed [] ?_) ?_
  · repeat' ((conv => whnf); first | (refine And.intro (fun hf => ?_) (fun hf => ?_) <;> first | exact Bool.noConfusion hf | skip))
    exact weak_of rfl (by repeat ((conv => whnf); first | exact trivial | refine And.intro rfl ?_ | refine And.intro (incD (by omega)) ?_)) (by repeat ((conv => whnf); first | exact trivial | refine And.intro rfl ?_ | refine And.intro (incD (by omega)) ?_))
  refine wk_seq ⟨[(5, .d (.int .i64 (2))), (1, .d (dI s)), (2, .own 0 0)], [(0, .blk 25 [.d (.int .i64 5), .d (.int .i64 n), .d (slD 16 ls.length (encS ls)), .d (slD 64 2 (encGs [u, v]))])], 1⟩ (wk_vc txok mixed [] ?_) ?_
  · conv => whnf
    refine callF (kidsR_fn 5) gf44 rfl rfl ?_
    conv => whnf
    exact weak_of rfl (by repeat ((conv => whnf); first | exact trivial | refine And.intro rfl ?_ | refine And.intro (incD (by omega)) ?_)) (by repeat ((conv => whnf); first | exact trivial | refine And.intro rfl ?_ | refine And.intro (incD (by omega)) ?_))
  refine wk_seq ⟨[(1, .d (dI s)), (2, .own 0 0)], [(0, .blk 25 [.d (.int .i64 5), .d (.int .i64 n), .d (slD 16 ls.length (encS ls)), .d (slD 64 2 (encGs [u, v]))])], 1⟩ (wk_vc txok mixed [] ?_) ?_
  · repeat' ((conv => whnf); first | (refine And.intro (fun hf => ?_) (fun hf => ?_) <;> first | exact Bool.noConfusion hf | skip))
    exact weak_of rfl (by repeat ((conv => whnf); first | exact trivial | refine And.intro rfl ?_ | refine And.intro (incD (by omega)) ?_)) (by repeat ((conv => whnf); first | exact trivial | refine And.intro rfl ?_ | refine And.intro (incD (by omega)) ?_))
  refine wk_seqR ?_
  refine wk_seq ⟨[(39, .d (.int .i64 5)), (1, .d (dI s)), (2, .own 0 0)], [(0, .blk 25 [.d (.int .i64 5), .d (.int .i64 n), .d (slD 16 ls.length (encS ls)), .d (slD 64 2 (encGs [u, v]))])], 1⟩ (wk_vc txok mixed [] ?_) ?_
  · repeat' ((conv => whnf); first | (refine And.intro (fun hf => ?_) (fun hf => ?_) <;> first | exact Bool.noConfusion hf | skip))
    exact weak_of rfl (by repeat ((conv => whnf); first | exact trivial | refine And.intro rfl ?_ | refine And.intro (incD (by omega)) ?_)) (by repeat ((conv => whnf); first | exact trivial | refine And.intro rfl ?_ | refine And.intro (incD (by omega)) ?_))
  refine wk_block (fun j s h => h) ?_
  refine wk_seq ⟨[(40, .d (.bool false)), (39, .d (.int .i64 5)), (1, .d (dI s)), (2, .own 0 0)], [(0, .blk 25 [.d (.int .i64 5), .d (.int .i64 n), .d (slD 16 ls.length (encS ls)), .d (slD 64 2 (encGs [u, v]))])], 1⟩ (wk_vc txok mixed [] ?_) ?_
  · repeat' ((conv => whnf); first | (refine And.intro (fun hf => ?_) (fun hf => ?_) <;> first | exact Bool.noConfusion hf | skip))
    first | refine (weak_kbT 40 false (by exact rfl)).trans (weak_of rfl (by repeat ((conv => whnf); first | exact trivial | refine And.intro rfl ?_ | refine And.intro (incD (by omega)) ?_)) (by repeat ((conv => whnf); first | exact trivial | refine And.intro rfl ?_ | refine And.intro (incD (by omega)) ?_))) | exact weak_of rfl (by repeat ((conv => whnf); first | exact trivial | refine And.intro rfl ?_ | refine And.intro (incD (by omega)) ?_)) (by repeat ((conv => whnf); first | exact trivial | refine And.intro rfl ?_ | refine And.intro (incD (by omega)) ?_))
  refine wk_false rfl ?_
  refine wk_seq ⟨[(42, .d (.bool false)), (39, .d (.int .i64 5)), (1, .d (dI s)), (2, .own 0 0)], [(0, .blk 25 [.d (.int .i64 5), .d (.int .i64 n), .d (slD 16 ls.length (encS ls)), .d (slD 64 2 (encGs [u, v]))])], 1⟩ (wk_vc txok mixed [] ?_) ?_
  · repeat' ((conv => whnf); first | (refine And.intro (fun hf => ?_) (fun hf => ?_) <;> first | exact Bool.noConfusion hf | skip))
    first | refine (weak_kbT 42 false (by exact rfl)).trans (weak_of rfl (by repeat ((conv => whnf); first | exact trivial | refine And.intro rfl ?_ | refine And.intro (incD (by omega)) ?_)) (by repeat ((conv => whnf); first | exact trivial | refine And.intro rfl ?_ | refine And.intro (incD (by omega)) ?_))) | exact weak_of rfl (by repeat ((conv => whnf); first | exact trivial | refine And.intro rfl ?_ | refine And.intro (incD (by omega)) ?_)) (by repeat ((conv => whnf); first | exact trivial | refine And.intro rfl ?_ | refine And.intro (incD (by omega)) ?_))
  refine wk_false rfl ?_
  refine wk_seq ⟨[(44, .d (.bool false)), (39, .d (.int .i64 5)), (1, .d (dI s)), (2, .own 0 0)], [(0, .blk 25 [.d (.int .i64 5), .d (.int .i64 n), .d (slD 16 ls.length (encS ls)), .d (slD 64 2 (encGs [u, v]))])], 1⟩ (wk_vc txok mixed [] ?_) ?_
  · repeat' ((conv => whnf); first | (refine And.intro (fun hf => ?_) (fun hf => ?_) <;> first | exact Bool.noConfusion hf | skip))
    first | refine (weak_kbT 44 false (by exact rfl)).trans (weak_of rfl (by repeat ((conv => whnf); first | exact trivial | refine And.intro rfl ?_ | refine And.intro (incD (by omega)) ?_)) (by repeat ((conv => whnf); first | exact trivial | refine And.intro rfl ?_ | refine And.intro (incD (by omega)) ?_))) | exact weak_of rfl (by repeat ((conv => whnf); first | exact trivial | refine And.intro rfl ?_ | refine And.intro (incD (by omega)) ?_)) (by repeat ((conv => whnf); first | exact trivial | refine And.intro rfl ?_ | refine And.intro (incD (by omega)) ?_))
  refine wk_false rfl ?_
  refine wk_seq ⟨[(46, .d (.bool false)), (39, .d (.int .i64 5)), (1, .d (dI s)), (2, .own 0 0)], [(0, .blk 25 [.d (.int .i64 5), .d (.int .i64 n), .d (slD 16 ls.length (encS ls)), .d (slD 64 2 (encGs [u, v]))])], 1⟩ (wk_vc txok mixed [] ?_) ?_
  · repeat' ((conv => whnf); first | (refine And.intro (fun hf => ?_) (fun hf => ?_) <;> first | exact Bool.noConfusion hf | skip))
    first | refine (weak_kbT 46 false (by exact rfl)).trans (weak_of rfl (by repeat ((conv => whnf); first | exact trivial | refine And.intro rfl ?_ | refine And.intro (incD (by omega)) ?_)) (by repeat ((conv => whnf); first | exact trivial | refine And.intro rfl ?_ | refine And.intro (incD (by omega)) ?_))) | exact weak_of rfl (by repeat ((conv => whnf); first | exact trivial | refine And.intro rfl ?_ | refine And.intro (incD (by omega)) ?_)) (by repeat ((conv => whnf); first | exact trivial | refine And.intro rfl ?_ | refine And.intro (incD (by omega)) ?_))
  refine wk_false rfl ?_
  refine wk_seq ⟨[(61, .d (.bool false)), (39, .d (.int .i64 5)), (1, .d (dI s)), (2, .own 0 0)], [(0, .blk 25 [.d (.int .i64 5), .d (.int .i64 n), .d (slD 16 ls.length (encS ls)), .d (slD 64 2 (encGs [u, v]))])], 1⟩ (wk_vc txok mixed [] ?_) ?_
  · repeat' ((conv => whnf); first | (refine And.intro (fun hf => ?_) (fun hf => ?_) <;> first | exact Bool.noConfusion hf | skip))
    first | refine (weak_kbT 61 false (by exact rfl)).trans (weak_of rfl (by repeat ((conv => whnf); first | exact trivial | refine And.intro rfl ?_ | refine And.intro (incD (by omega)) ?_)) (by repeat ((conv => whnf); first | exact trivial | refine And.intro rfl ?_ | refine And.intro (incD (by omega)) ?_))) | exact weak_of rfl (by repeat ((conv => whnf); first | exact trivial | refine And.intro rfl ?_ | refine And.intro (incD (by omega)) ?_)) (by repeat ((conv => whnf); first | exact trivial | refine And.intro rfl ?_ | refine And.intro (incD (by omega)) ?_))
  refine wk_false rfl ?_
  refine wk_seq ⟨[(77, .d (.bool true)), (39, .d (.int .i64 5)), (1, .d (dI s)), (2, .own 0 0)], [(0, .blk 25 [.d (.int .i64 5), .d (.int .i64 n), .d (slD 16 ls.length (encS ls)), .d (slD 64 2 (encGs [u, v]))])], 1⟩ (wk_vc txok mixed [] ?_) ?_
  · repeat' ((conv => whnf); first | (refine And.intro (fun hf => ?_) (fun hf => ?_) <;> first | exact Bool.noConfusion hf | skip))
    first | refine (weak_kbT 77 true (by exact rfl)).trans (weak_of rfl (by repeat ((conv => whnf); first | exact trivial | refine And.intro rfl ?_ | refine And.intro (incD (by omega)) ?_)) (by repeat ((conv => whnf); first | exact trivial | refine And.intro rfl ?_ | refine And.intro (incD (by omega)) ?_))) | exact weak_of rfl (by repeat ((conv => whnf); first | exact trivial | refine And.intro rfl ?_ | refine And.intro (incD (by omega)) ?_)) (by repeat ((conv => whnf); first | exact trivial | refine And.intro rfl ?_ | refine And.intro (incD (by omega)) ?_))
  refine wk_true rfl ?_
  refine wk_vc txok mixed [(17, .pure 0 (.take 1 (.pure 2 (.take 3 (.pure 4 (.pure 7 (.take 8 (.pure 9 (.take 10 (.pure 11 (.run 5 (.pure 6 (.fin 12 (.pure 13 (.pure 14 .done))))))))))))))), (19, .pure 0 (.take 1 (.pure 2 (.take 3 (.pure 4 (.pure 8 (.take 9 (.pure 10 (.take 11 (.pure 12 (.run 5 (.pure 6 (.pure 7 (.fin 13 (.pure 14 (.pure 15 (.pure 16 .done))))))))))))))))), (28, .pure 0 (.pure 1 (.pure 2 (.pure 3 (.pure 7 (.take 8 (.pure 9 (.take 10 (.pure 11 (.pure 12 (.take 13 (.run 4 (.pure 5 (.pure 6 (.run 14 (.fin 15 (.pure 16 (.pure 17 .done))))))))))))))))))] ?_
  conv => whnf
  refine And.intro (by kernel_rfl) ?_
  repeat'
    first
      | (simp only [ByteArray.size_append, bs_size]; omega)
      | ((conv => whnf); first
        | refine And.intro ?_ ?_
        | refine IdxC.encGs (l := [u, v]) 0 (by show 0 < 2; decide) (by exact rfl) ?_
        | refine IdxC.encGs (l := [u, v]) 1 (by show 1 < 2; decide) (by exact rfl) ?_
        | refine callF hu gf62 (by exact rfl) (by exact rfl) ?_
        | refine callF hv gf62 (by exact rfl) (by exact rfl) ?_
        | exact congrArg D.str (show bs [40] ++ bs x ++ bs [32, 42, 32] ++ bs y ++ bs [41] = _ by simp only [bs_app, List.append_assoc]))
set_option maxRecDepth 20000 in
theorem textR9 (n : Int) (ls : List ByteArray) (u : TG) (hu : TextOk u) (s : List Int) (hs : s.length + szB u < 1099511627775) (hlu : (txG u (s ++ [n])).length ≤ 100 * szB u) : FnR Tryz.prog G0 31 [dG (.mk 9 n ls [u]), dI s] (.str (bs ([109, 117] ++ ([32, 116] ++ (itoa s.length ++ ([46, 32] ++ txG u (s ++ [n]))))))) := by
  have hu := hu (s ++ [n]) (by simp only [List.length_append, List.length_cons, List.length_nil]; omega)
  have hw := rwith_fn s n (by omega)
  have hd := decimal_fn (s.length : Int) ⟨by omega, by omega⟩
  have h20 := itoa_len20 (n := (s.length : Int)) ⟨by omega, by omega⟩
  have z7 : (⟨#[109, 117]⟩ : ByteArray).size ≤ 4 := by decide
  generalize txG u (s ++ [n]) = y at *
  have z1 : (⟨#[32, 45, 62, 32]⟩ : ByteArray).size = 4 := rfl
  have z2 : (⟨#[40]⟩ : ByteArray).size = 1 := rfl
  have z3 : (⟨#[41]⟩ : ByteArray).size = 1 := rfl
  have z4 : (⟨#[32, 42, 32]⟩ : ByteArray).size = 3 := rfl
  have z5 : (⟨#[32, 116]⟩ : ByteArray).size = 2 := rfl
  have z6 : (⟨#[46, 32]⟩ : ByteArray).size = 2 := rfl
  refine fnQ_of_wk (N := 124) txok mixed Tryz.func31 rfl rfl (by simp) fun b => ?_
  refine wk_seq ⟨[(1, .d (dI s)), (2, .own 0 0)], [(0, .blk 25 [.d (.int .i64 9), .d (.int .i64 n), .d (slD 16 ls.length (encS ls)), .d (slD 64 1 (encGs [u]))])], 1⟩ (wk_vc txok mixed [] ?_) ?_
  · repeat' ((conv => whnf); first | (refine And.intro (fun hf => ?_) (fun hf => ?_) <;> first | exact Bool.noConfusion hf | skip))
    exact weak_of rfl (by repeat ((conv => whnf); first | exact trivial | refine And.intro rfl ?_ | refine And.intro (incD (by omega)) ?_)) (by repeat ((conv => whnf); first | exact trivial | refine And.intro rfl ?_ | refine And.intro (incD (by omega)) ?_))
  refine wk_seq ⟨[(5, .d (.int .i64 (1))), (1, .d (dI s)), (2, .own 0 0)], [(0, .blk 25 [.d (.int .i64 9), .d (.int .i64 n), .d (slD 16 ls.length (encS ls)), .d (slD 64 1 (encGs [u]))])], 1⟩ (wk_vc txok mixed [] ?_) ?_
  · conv => whnf
    refine callF (kidsR_fn 9) gf44 rfl rfl ?_
    conv => whnf
    exact weak_of rfl (by repeat ((conv => whnf); first | exact trivial | refine And.intro rfl ?_ | refine And.intro (incD (by omega)) ?_)) (by repeat ((conv => whnf); first | exact trivial | refine And.intro rfl ?_ | refine And.intro (incD (by omega)) ?_))
  refine wk_seq ⟨[(1, .d (dI s)), (2, .own 0 0)], [(0, .blk 25 [.d (.int .i64 9), .d (.int .i64 n), .d (slD 16 ls.length (encS ls)), .d (slD 64 1 (encGs [u]))])], 1⟩ (wk_vc txok mixed [] ?_) ?_
  · repeat' ((conv => whnf); first | (refine And.intro (fun hf => ?_) (fun hf => ?_) <;> first | exact Bool.noConfusion hf | skip))
    exact weak_of rfl (by repeat ((conv => whnf); first | exact trivial | refine And.intro rfl ?_ | refine And.intro (incD (by omega)) ?_)) (by repeat ((conv => whnf); first | exact trivial | refine And.intro rfl ?_ | refine And.intro (incD (by omega)) ?_))
  refine wk_seq ⟨[(1, .d (dI s)), (2, .own 0 0)], [(0, .blk 25 [.d (.int .i64 9), .d (.int .i64 n), .d (slD 16 ls.length (encS ls)), .d (slD 64 1 (encGs [u]))])], 1⟩ ?_ ?_
  · refine wk_seq ⟨[(39, .d (.int .i64 9)), (1, .d (dI s)), (2, .own 0 0)], [(0, .blk 25 [.d (.int .i64 9), .d (.int .i64 n), .d (slD 16 ls.length (encS ls)), .d (slD 64 1 (encGs [u]))])], 1⟩ (wk_vc txok mixed [] ?_) ?_
    · repeat' ((conv => whnf); first | (refine And.intro (fun hf => ?_) (fun hf => ?_) <;> first | exact Bool.noConfusion hf | skip))
      exact weak_of rfl (by repeat ((conv => whnf); first | exact trivial | refine And.intro rfl ?_ | refine And.intro (incD (by omega)) ?_)) (by repeat ((conv => whnf); first | exact trivial | refine And.intro rfl ?_ | refine And.intro (incD (by omega)) ?_))
    refine wk_block (fun j s h => h) ?_
    refine wk_seq ⟨[(40, .d (.bool false)), (39, .d (.int .i64 9)), (1, .d (dI s)), (2, .own 0 0)], [(0, .blk 25 [.d (.int .i64 9), .d (.int .i64 n), .d (slD 16 ls.length (encS ls)), .d (slD 64 1 (encGs [u]))])], 1⟩ (wk_vc txok mixed [] ?_) ?_
    · repeat' ((conv => whnf); first | (refine And.intro (fun hf => ?_) (fun hf => ?_) <;> first | exact Bool.noConfusion hf | skip))
      first | refine (weak_kbT 40 false (by exact rfl)).trans (weak_of rfl (by repeat ((conv => whnf); first | exact trivial | refine And.intro rfl ?_ | refine And.intro (incD (by omega)) ?_)) (by repeat ((conv => whnf); first | exact trivial | refine And.intro rfl ?_ | refine And.intro (incD (by omega)) ?_))) | exact weak_of rfl (by repeat ((conv => whnf); first | exact trivial | refine And.intro rfl ?_ | refine And.intro (incD (by omega)) ?_)) (by repeat ((conv => whnf); first | exact trivial | refine And.intro rfl ?_ | refine And.intro (incD (by omega)) ?_))
    refine wk_false rfl ?_
    refine wk_seq ⟨[(42, .d (.bool false)), (39, .d (.int .i64 9)), (1, .d (dI s)), (2, .own 0 0)], [(0, .blk 25 [.d (.int .i64 9), .d (.int .i64 n), .d (slD 16 ls.length (encS ls)), .d (slD 64 1 (encGs [u]))])], 1⟩ (wk_vc txok mixed [] ?_) ?_
    · repeat' ((conv => whnf); first | (refine And.intro (fun hf => ?_) (fun hf => ?_) <;> first | exact Bool.noConfusion hf | skip))
      first | refine (weak_kbT 42 false (by exact rfl)).trans (weak_of rfl (by repeat ((conv => whnf); first | exact trivial | refine And.intro rfl ?_ | refine And.intro (incD (by omega)) ?_)) (by repeat ((conv => whnf); first | exact trivial | refine And.intro rfl ?_ | refine And.intro (incD (by omega)) ?_))) | exact weak_of rfl (by repeat ((conv => whnf); first | exact trivial | refine And.intro rfl ?_ | refine And.intro (incD (by omega)) ?_)) (by repeat ((conv => whnf); first | exact trivial | refine And.intro rfl ?_ | refine And.intro (incD (by omega)) ?_))
    refine wk_false rfl ?_
    refine wk_seq ⟨[(44, .d (.bool false)), (39, .d (.int .i64 9)), (1, .d (dI s)), (2, .own 0 0)], [(0, .blk 25 [.d (.int .i64 9), .d (.int .i64 n), .d (slD 16 ls.length (encS ls)), .d (slD 64 1 (encGs [u]))])], 1⟩ (wk_vc txok mixed [] ?_) ?_
    · repeat' ((conv => whnf); first | (refine And.intro (fun hf => ?_) (fun hf => ?_) <;> first | exact Bool.noConfusion hf | skip))
      first | refine (weak_kbT 44 false (by exact rfl)).trans (weak_of rfl (by repeat ((conv => whnf); first | exact trivial | refine And.intro rfl ?_ | refine And.intro (incD (by omega)) ?_)) (by repeat ((conv => whnf); first | exact trivial | refine And.intro rfl ?_ | refine And.intro (incD (by omega)) ?_))) | exact weak_of rfl (by repeat ((conv => whnf); first | exact trivial | refine And.intro rfl ?_ | refine And.intro (incD (by omega)) ?_)) (by repeat ((conv => whnf); first | exact trivial | refine And.intro rfl ?_ | refine And.intro (incD (by omega)) ?_))
    refine wk_false rfl ?_
    refine wk_seq ⟨[(46, .d (.bool false)), (39, .d (.int .i64 9)), (1, .d (dI s)), (2, .own 0 0)], [(0, .blk 25 [.d (.int .i64 9), .d (.int .i64 n), .d (slD 16 ls.length (encS ls)), .d (slD 64 1 (encGs [u]))])], 1⟩ (wk_vc txok mixed [] ?_) ?_
    · repeat' ((conv => whnf); first | (refine And.intro (fun hf => ?_) (fun hf => ?_) <;> first | exact Bool.noConfusion hf | skip))
      first | refine (weak_kbT 46 false (by exact rfl)).trans (weak_of rfl (by repeat ((conv => whnf); first | exact trivial | refine And.intro rfl ?_ | refine And.intro (incD (by omega)) ?_)) (by repeat ((conv => whnf); first | exact trivial | refine And.intro rfl ?_ | refine And.intro (incD (by omega)) ?_))) | exact weak_of rfl (by repeat ((conv => whnf); first | exact trivial | refine And.intro rfl ?_ | refine And.intro (incD (by omega)) ?_)) (by repeat ((conv => whnf); first | exact trivial | refine And.intro rfl ?_ | refine And.intro (incD (by omega)) ?_))
    refine wk_false rfl ?_
    refine wk_seq ⟨[(61, .d (.bool false)), (39, .d (.int .i64 9)), (1, .d (dI s)), (2, .own 0 0)], [(0, .blk 25 [.d (.int .i64 9), .d (.int .i64 n), .d (slD 16 ls.length (encS ls)), .d (slD 64 1 (encGs [u]))])], 1⟩ (wk_vc txok mixed [] ?_) ?_
    · repeat' ((conv => whnf); first | (refine And.intro (fun hf => ?_) (fun hf => ?_) <;> first | exact Bool.noConfusion hf | skip))
      first | refine (weak_kbT 61 false (by exact rfl)).trans (weak_of rfl (by repeat ((conv => whnf); first | exact trivial | refine And.intro rfl ?_ | refine And.intro (incD (by omega)) ?_)) (by repeat ((conv => whnf); first | exact trivial | refine And.intro rfl ?_ | refine And.intro (incD (by omega)) ?_))) | exact weak_of rfl (by repeat ((conv => whnf); first | exact trivial | refine And.intro rfl ?_ | refine And.intro (incD (by omega)) ?_)) (by repeat ((conv => whnf); first | exact trivial | refine And.intro rfl ?_ | refine And.intro (incD (by omega)) ?_))
    refine wk_false rfl ?_
    refine wk_seq ⟨[(77, .d (.bool false)), (39, .d (.int .i64 9)), (1, .d (dI s)), (2, .own 0 0)], [(0, .blk 25 [.d (.int .i64 9), .d (.int .i64 n), .d (slD 16 ls.length (encS ls)), .d (slD 64 1 (encGs [u]))])], 1⟩ (wk_vc txok mixed [] ?_) ?_
    · repeat' ((conv => whnf); first | (refine And.intro (fun hf => ?_) (fun hf => ?_) <;> first | exact Bool.noConfusion hf | skip))
      first | refine (weak_kbT 77 false (by exact rfl)).trans (weak_of rfl (by repeat ((conv => whnf); first | exact trivial | refine And.intro rfl ?_ | refine And.intro (incD (by omega)) ?_)) (by repeat ((conv => whnf); first | exact trivial | refine And.intro rfl ?_ | refine And.intro (incD (by omega)) ?_))) | exact weak_of rfl (by repeat ((conv => whnf); first | exact trivial | refine And.intro rfl ?_ | refine And.intro (incD (by omega)) ?_)) (by repeat ((conv => whnf); first | exact trivial | refine And.intro rfl ?_ | refine And.intro (incD (by omega)) ?_))
    refine wk_false rfl ?_
    refine wk_seq ⟨[(95, .d (.bool false)), (39, .d (.int .i64 9)), (1, .d (dI s)), (2, .own 0 0)], [(0, .blk 25 [.d (.int .i64 9), .d (.int .i64 n), .d (slD 16 ls.length (encS ls)), .d (slD 64 1 (encGs [u]))])], 1⟩ (wk_vc txok mixed [] ?_) ?_
    · repeat' ((conv => whnf); first | (refine And.intro (fun hf => ?_) (fun hf => ?_) <;> first | exact Bool.noConfusion hf | skip))
      first | refine (weak_kbT 95 false (by exact rfl)).trans (weak_of rfl (by repeat ((conv => whnf); first | exact trivial | refine And.intro rfl ?_ | refine And.intro (incD (by omega)) ?_)) (by repeat ((conv => whnf); first | exact trivial | refine And.intro rfl ?_ | refine And.intro (incD (by omega)) ?_))) | exact weak_of rfl (by repeat ((conv => whnf); first | exact trivial | refine And.intro rfl ?_ | refine And.intro (incD (by omega)) ?_)) (by repeat ((conv => whnf); first | exact trivial | refine And.intro rfl ?_ | refine And.intro (incD (by omega)) ?_))
    refine wk_false rfl ?_
    refine wk_skip ?_
    exact weak_of rfl (by repeat ((conv => whnf); first | exact trivial | refine And.intro rfl ?_ | refine And.intro (incD (by omega)) ?_)) (by repeat ((conv => whnf); first | exact trivial | refine And.intro rfl ?_ | refine And.intro (incD (by omega)) ?_))
  refine wk_seq ⟨[(7, .d (.str ⟨#[109, 117]⟩)), (1, .d (dI s)), (2, .own 0 0)], [(0, .blk 25 [.d (.int .i64 9), .d (.int .i64 n), .d (slD 16 ls.length (encS ls)), .d (slD 64 1 (encGs [u]))])], 1⟩ (wk_vc txok mixed [] ?_) ?_
  · conv => whnf
    exact weak_of rfl (by repeat ((conv => whnf); first | exact trivial | refine And.intro rfl ?_ | refine And.intro (incD (by omega)) ?_)) (by repeat ((conv => whnf); first | exact trivial | refine And.intro rfl ?_ | refine And.intro (incD (by omega)) ?_))
  refine wk_seq ⟨[(7, .d (.str ⟨#[109, 117]⟩)), (1, .d (dI s)), (2, .own 0 0)], [(0, .blk 25 [.d (.int .i64 9), .d (.int .i64 n), .d (slD 16 ls.length (encS ls)), .d (slD 64 1 (encGs [u]))])], 1⟩ (wk_vc txok mixed [] ?_) ?_
  · repeat' ((conv => whnf); first | (refine And.intro (fun hf => ?_) (fun hf => ?_) <;> first | exact Bool.noConfusion hf | skip))
    exact weak_of rfl (by repeat ((conv => whnf); first | exact trivial | refine And.intro rfl ?_ | refine And.intro (incD (by omega)) ?_)) (by repeat ((conv => whnf); first | exact trivial | refine And.intro rfl ?_ | refine And.intro (incD (by omega)) ?_))
  refine wk_seq ⟨[(7, .d (.str ⟨#[109, 117]⟩)), (1, .d (dI s)), (2, .own 0 0)], [(0, .blk 25 [.d (.int .i64 9), .d (.int .i64 n), .d (slD 16 ls.length (encS ls)), .d (slD 64 1 (encGs [u]))])], 1⟩ (wk_vc txok mixed [] ?_) ?_
  · repeat' ((conv => whnf); first | (refine And.intro (fun hf => ?_) (fun hf => ?_) <;> first | exact Bool.noConfusion hf | skip))
    exact weak_of rfl (by repeat ((conv => whnf); first | exact trivial | refine And.intro rfl ?_ | refine And.intro (incD (by omega)) ?_)) (by repeat ((conv => whnf); first | exact trivial | refine And.intro rfl ?_ | refine And.intro (incD (by omega)) ?_))
  refine wk_vc txok mixed [(17, .pure 0 (.take 1 (.pure 2 (.take 3 (.pure 4 (.pure 7 (.take 8 (.pure 9 (.take 10 (.pure 11 (.run 5 (.pure 6 (.fin 12 (.pure 13 (.pure 14 .done))))))))))))))), (19, .pure 0 (.take 1 (.pure 2 (.take 3 (.pure 4 (.pure 8 (.take 9 (.pure 10 (.take 11 (.pure 12 (.run 5 (.pure 6 (.pure 7 (.fin 13 (.pure 14 (.pure 15 (.pure 16 .done))))))))))))))))), (28, .pure 0 (.pure 1 (.pure 2 (.pure 3 (.pure 7 (.take 8 (.pure 9 (.take 10 (.pure 11 (.pure 12 (.take 13 (.run 4 (.pure 5 (.pure 6 (.run 14 (.fin 15 (.pure 16 (.pure 17 .done))))))))))))))))))] ?_
  conv => whnf
  refine And.intro (by kernel_rfl) ?_
  repeat'
    first
      | exact Nat.le_of_ble_eq_true rfl
      | (simp only [ByteArray.size_append, bs_size]; omega)
      | ((conv => whnf); first
        | refine And.intro ?_ ?_
        | refine IdxC.encGs (l := [u]) 0 (by show 0 < 1; decide) (by exact rfl) ?_
        | refine callF hd gf61 (by exact rfl) (by exact rfl) ?_
        | refine callF hw gf54 (by exact rfl) (by exact rfl) ?_
        | refine callF hu gf31 (by exact rfl) (by exact rfl) ?_
        | exact congrArg D.str (show bs [109, 117] ++ bs [32, 116] ++ bs (itoa s.length) ++ bs [46, 32] ++ bs y = _ by simp only [bs_app, List.append_assoc]))
set_option maxRecDepth 20000 in
theorem textR10 (n : Int) (ls : List ByteArray) (u : TG) (hu : TextOk u) (s : List Int) (hs : s.length + szB u < 1099511627775) (hlu : (txG u (s ++ [n])).length ≤ 100 * szB u) : FnR Tryz.prog G0 31 [dG (.mk 10 n ls [u]), dI s] (.str (bs ([97, 108, 108] ++ ([32, 116] ++ (itoa s.length ++ ([46, 32] ++ txG u (s ++ [n]))))))) := by
  have hu := hu (s ++ [n]) (by simp only [List.length_append, List.length_cons, List.length_nil]; omega)
  have hw := rwith_fn s n (by omega)
  have hd := decimal_fn (s.length : Int) ⟨by omega, by omega⟩
  have h20 := itoa_len20 (n := (s.length : Int)) ⟨by omega, by omega⟩
  have z7 : (⟨#[97, 108, 108]⟩ : ByteArray).size ≤ 4 := by decide
  generalize txG u (s ++ [n]) = y at *
  have z1 : (⟨#[32, 45, 62, 32]⟩ : ByteArray).size = 4 := rfl
  have z2 : (⟨#[40]⟩ : ByteArray).size = 1 := rfl
  have z3 : (⟨#[41]⟩ : ByteArray).size = 1 := rfl
  have z4 : (⟨#[32, 42, 32]⟩ : ByteArray).size = 3 := rfl
  have z5 : (⟨#[32, 116]⟩ : ByteArray).size = 2 := rfl
  have z6 : (⟨#[46, 32]⟩ : ByteArray).size = 2 := rfl
  refine fnQ_of_wk (N := 124) txok mixed Tryz.func31 rfl rfl (by simp) fun b => ?_
  refine wk_seq ⟨[(1, .d (dI s)), (2, .own 0 0)], [(0, .blk 25 [.d (.int .i64 10), .d (.int .i64 n), .d (slD 16 ls.length (encS ls)), .d (slD 64 1 (encGs [u]))])], 1⟩ (wk_vc txok mixed [] ?_) ?_
  · repeat' ((conv => whnf); first | (refine And.intro (fun hf => ?_) (fun hf => ?_) <;> first | exact Bool.noConfusion hf | skip))
    exact weak_of rfl (by repeat ((conv => whnf); first | exact trivial | refine And.intro rfl ?_ | refine And.intro (incD (by omega)) ?_)) (by repeat ((conv => whnf); first | exact trivial | refine And.intro rfl ?_ | refine And.intro (incD (by omega)) ?_))
  refine wk_seq ⟨[(5, .d (.int .i64 (1))), (1, .d (dI s)), (2, .own 0 0)], [(0, .blk 25 [.d (.int .i64 10), .d (.int .i64 n), .d (slD 16 ls.length (encS ls)), .d (slD 64 1 (encGs [u]))])], 1⟩ (wk_vc txok mixed [] ?_) ?_
  · conv => whnf
    refine callF (kidsR_fn 10) gf44 rfl rfl ?_
    conv => whnf
    exact weak_of rfl (by repeat ((conv => whnf); first | exact trivial | refine And.intro rfl ?_ | refine And.intro (incD (by omega)) ?_)) (by repeat ((conv => whnf); first | exact trivial | refine And.intro rfl ?_ | refine And.intro (incD (by omega)) ?_))
  refine wk_seq ⟨[(1, .d (dI s)), (2, .own 0 0)], [(0, .blk 25 [.d (.int .i64 10), .d (.int .i64 n), .d (slD 16 ls.length (encS ls)), .d (slD 64 1 (encGs [u]))])], 1⟩ (wk_vc txok mixed [] ?_) ?_
  · repeat' ((conv => whnf); first | (refine And.intro (fun hf => ?_) (fun hf => ?_) <;> first | exact Bool.noConfusion hf | skip))
    exact weak_of rfl (by repeat ((conv => whnf); first | exact trivial | refine And.intro rfl ?_ | refine And.intro (incD (by omega)) ?_)) (by repeat ((conv => whnf); first | exact trivial | refine And.intro rfl ?_ | refine And.intro (incD (by omega)) ?_))
  refine wk_seq ⟨[(1, .d (dI s)), (2, .own 0 0)], [(0, .blk 25 [.d (.int .i64 10), .d (.int .i64 n), .d (slD 16 ls.length (encS ls)), .d (slD 64 1 (encGs [u]))])], 1⟩ ?_ ?_
  · refine wk_seq ⟨[(39, .d (.int .i64 10)), (1, .d (dI s)), (2, .own 0 0)], [(0, .blk 25 [.d (.int .i64 10), .d (.int .i64 n), .d (slD 16 ls.length (encS ls)), .d (slD 64 1 (encGs [u]))])], 1⟩ (wk_vc txok mixed [] ?_) ?_
    · repeat' ((conv => whnf); first | (refine And.intro (fun hf => ?_) (fun hf => ?_) <;> first | exact Bool.noConfusion hf | skip))
      exact weak_of rfl (by repeat ((conv => whnf); first | exact trivial | refine And.intro rfl ?_ | refine And.intro (incD (by omega)) ?_)) (by repeat ((conv => whnf); first | exact trivial | refine And.intro rfl ?_ | refine And.intro (incD (by omega)) ?_))
    refine wk_block (fun j s h => h) ?_
    refine wk_seq ⟨[(40, .d (.bool false)), (39, .d (.int .i64 10)), (1, .d (dI s)), (2, .own 0 0)], [(0, .blk 25 [.d (.int .i64 10), .d (.int .i64 n), .d (slD 16 ls.length (encS ls)), .d (slD 64 1 (encGs [u]))])], 1⟩ (wk_vc txok mixed [] ?_) ?_
    · repeat' ((conv => whnf); first | (refine And.intro (fun hf => ?_) (fun hf => ?_) <;> first | exact Bool.noConfusion hf | skip))
      first | refine (weak_kbT 40 false (by exact rfl)).trans (weak_of rfl (by repeat ((conv => whnf); first | exact trivial | refine And.intro rfl ?_ | refine And.intro (incD (by omega)) ?_)) (by repeat ((conv => whnf); first | exact trivial | refine And.intro rfl ?_ | refine And.intro (incD (by omega)) ?_))) | exact weak_of rfl (by repeat ((conv => whnf); first | exact trivial | refine And.intro rfl ?_ | refine And.intro (incD (by omega)) ?_)) (by repeat ((conv => whnf); first | exact trivial | refine And.intro rfl ?_ | refine And.intro (incD (by omega)) ?_))
    refine wk_false rfl ?_
    refine wk_seq ⟨[(42, .d (.bool false)), (39, .d (.int .i64 10)), (1, .d (dI s)), (2, .own 0 0)], [(0, .blk 25 [.d (.int .i64 10), .d (.int .i64 n), .d (slD 16 ls.length (encS ls)), .d (slD 64 1 (encGs [u]))])], 1⟩ (wk_vc txok mixed [] ?_) ?_
    · repeat' ((conv => whnf); first | (refine And.intro (fun hf => ?_) (fun hf => ?_) <;> first | exact Bool.noConfusion hf | skip))
      first | refine (weak_kbT 42 false (by exact rfl)).trans (weak_of rfl (by repeat ((conv => whnf); first | exact trivial | refine And.intro rfl ?_ | refine And.intro (incD (by omega)) ?_)) (by repeat ((conv => whnf); first | exact trivial | refine And.intro rfl ?_ | refine And.intro (incD (by omega)) ?_))) | exact weak_of rfl (by repeat ((conv => whnf); first | exact trivial | refine And.intro rfl ?_ | refine And.intro (incD (by omega)) ?_)) (by repeat ((conv => whnf); first | exact trivial | refine And.intro rfl ?_ | refine And.intro (incD (by omega)) ?_))
    refine wk_false rfl ?_
    refine wk_seq ⟨[(44, .d (.bool false)), (39, .d (.int .i64 10)), (1, .d (dI s)), (2, .own 0 0)], [(0, .blk 25 [.d (.int .i64 10), .d (.int .i64 n), .d (slD 16 ls.length (encS ls)), .d (slD 64 1 (encGs [u]))])], 1⟩ (wk_vc txok mixed [] ?_) ?_
    · repeat' ((conv => whnf); first | (refine And.intro (fun hf => ?_) (fun hf => ?_) <;> first | exact Bool.noConfusion hf | skip))
      first | refine (weak_kbT 44 false (by exact rfl)).trans (weak_of rfl (by repeat ((conv => whnf); first | exact trivial | refine And.intro rfl ?_ | refine And.intro (incD (by omega)) ?_)) (by repeat ((conv => whnf); first | exact trivial | refine And.intro rfl ?_ | refine And.intro (incD (by omega)) ?_))) | exact weak_of rfl (by repeat ((conv => whnf); first | exact trivial | refine And.intro rfl ?_ | refine And.intro (incD (by omega)) ?_)) (by repeat ((conv => whnf); first | exact trivial | refine And.intro rfl ?_ | refine And.intro (incD (by omega)) ?_))
    refine wk_false rfl ?_
    refine wk_seq ⟨[(46, .d (.bool false)), (39, .d (.int .i64 10)), (1, .d (dI s)), (2, .own 0 0)], [(0, .blk 25 [.d (.int .i64 10), .d (.int .i64 n), .d (slD 16 ls.length (encS ls)), .d (slD 64 1 (encGs [u]))])], 1⟩ (wk_vc txok mixed [] ?_) ?_
    · repeat' ((conv => whnf); first | (refine And.intro (fun hf => ?_) (fun hf => ?_) <;> first | exact Bool.noConfusion hf | skip))
      first | refine (weak_kbT 46 false (by exact rfl)).trans (weak_of rfl (by repeat ((conv => whnf); first | exact trivial | refine And.intro rfl ?_ | refine And.intro (incD (by omega)) ?_)) (by repeat ((conv => whnf); first | exact trivial | refine And.intro rfl ?_ | refine And.intro (incD (by omega)) ?_))) | exact weak_of rfl (by repeat ((conv => whnf); first | exact trivial | refine And.intro rfl ?_ | refine And.intro (incD (by omega)) ?_)) (by repeat ((conv => whnf); first | exact trivial | refine And.intro rfl ?_ | refine And.intro (incD (by omega)) ?_))
    refine wk_false rfl ?_
    refine wk_seq ⟨[(61, .d (.bool false)), (39, .d (.int .i64 10)), (1, .d (dI s)), (2, .own 0 0)], [(0, .blk 25 [.d (.int .i64 10), .d (.int .i64 n), .d (slD 16 ls.length (encS ls)), .d (slD 64 1 (encGs [u]))])], 1⟩ (wk_vc txok mixed [] ?_) ?_
    · repeat' ((conv => whnf); first | (refine And.intro (fun hf => ?_) (fun hf => ?_) <;> first | exact Bool.noConfusion hf | skip))
      first | refine (weak_kbT 61 false (by exact rfl)).trans (weak_of rfl (by repeat ((conv => whnf); first | exact trivial | refine And.intro rfl ?_ | refine And.intro (incD (by omega)) ?_)) (by repeat ((conv => whnf); first | exact trivial | refine And.intro rfl ?_ | refine And.intro (incD (by omega)) ?_))) | exact weak_of rfl (by repeat ((conv => whnf); first | exact trivial | refine And.intro rfl ?_ | refine And.intro (incD (by omega)) ?_)) (by repeat ((conv => whnf); first | exact trivial | refine And.intro rfl ?_ | refine And.intro (incD (by omega)) ?_))
    refine wk_false rfl ?_
    refine wk_seq ⟨[(77, .d (.bool false)), (39, .d (.int .i64 10)), (1, .d (dI s)), (2, .own 0 0)], [(0, .blk 25 [.d (.int .i64 10), .d (.int .i64 n), .d (slD 16 ls.length (encS ls)), .d (slD 64 1 (encGs [u]))])], 1⟩ (wk_vc txok mixed [] ?_) ?_
    · repeat' ((conv => whnf); first | (refine And.intro (fun hf => ?_) (fun hf => ?_) <;> first | exact Bool.noConfusion hf | skip))
      first | refine (weak_kbT 77 false (by exact rfl)).trans (weak_of rfl (by repeat ((conv => whnf); first | exact trivial | refine And.intro rfl ?_ | refine And.intro (incD (by omega)) ?_)) (by repeat ((conv => whnf); first | exact trivial | refine And.intro rfl ?_ | refine And.intro (incD (by omega)) ?_))) | exact weak_of rfl (by repeat ((conv => whnf); first | exact trivial | refine And.intro rfl ?_ | refine And.intro (incD (by omega)) ?_)) (by repeat ((conv => whnf); first | exact trivial | refine And.intro rfl ?_ | refine And.intro (incD (by omega)) ?_))
    refine wk_false rfl ?_
    refine wk_seq ⟨[(95, .d (.bool false)), (39, .d (.int .i64 10)), (1, .d (dI s)), (2, .own 0 0)], [(0, .blk 25 [.d (.int .i64 10), .d (.int .i64 n), .d (slD 16 ls.length (encS ls)), .d (slD 64 1 (encGs [u]))])], 1⟩ (wk_vc txok mixed [] ?_) ?_
    · repeat' ((conv => whnf); first | (refine And.intro (fun hf => ?_) (fun hf => ?_) <;> first | exact Bool.noConfusion hf | skip))
      first | refine (weak_kbT 95 false (by exact rfl)).trans (weak_of rfl (by repeat ((conv => whnf); first | exact trivial | refine And.intro rfl ?_ | refine And.intro (incD (by omega)) ?_)) (by repeat ((conv => whnf); first | exact trivial | refine And.intro rfl ?_ | refine And.intro (incD (by omega)) ?_))) | exact weak_of rfl (by repeat ((conv => whnf); first | exact trivial | refine And.intro rfl ?_ | refine And.intro (incD (by omega)) ?_)) (by repeat ((conv => whnf); first | exact trivial | refine And.intro rfl ?_ | refine And.intro (incD (by omega)) ?_))
    refine wk_false rfl ?_
    refine wk_skip ?_
    exact weak_of rfl (by repeat ((conv => whnf); first | exact trivial | refine And.intro rfl ?_ | refine And.intro (incD (by omega)) ?_)) (by repeat ((conv => whnf); first | exact trivial | refine And.intro rfl ?_ | refine And.intro (incD (by omega)) ?_))
  refine wk_seq ⟨[(7, .d (.str ⟨#[109, 117]⟩)), (1, .d (dI s)), (2, .own 0 0)], [(0, .blk 25 [.d (.int .i64 10), .d (.int .i64 n), .d (slD 16 ls.length (encS ls)), .d (slD 64 1 (encGs [u]))])], 1⟩ (wk_vc txok mixed [] ?_) ?_
  · conv => whnf
    exact weak_of rfl (by repeat ((conv => whnf); first | exact trivial | refine And.intro rfl ?_ | refine And.intro (incD (by omega)) ?_)) (by repeat ((conv => whnf); first | exact trivial | refine And.intro rfl ?_ | refine And.intro (incD (by omega)) ?_))
  refine wk_seq ⟨[(7, .d (.str ⟨#[97, 108, 108]⟩)), (1, .d (dI s)), (2, .own 0 0)], [(0, .blk 25 [.d (.int .i64 10), .d (.int .i64 n), .d (slD 16 ls.length (encS ls)), .d (slD 64 1 (encGs [u]))])], 1⟩ (wk_vc txok mixed [] ?_) ?_
  · repeat' ((conv => whnf); first | (refine And.intro (fun hf => ?_) (fun hf => ?_) <;> first | exact Bool.noConfusion hf | skip))
    exact weak_of rfl (by repeat ((conv => whnf); first | exact trivial | refine And.intro rfl ?_ | refine And.intro (incD (by omega)) ?_)) (by repeat ((conv => whnf); first | exact trivial | refine And.intro rfl ?_ | refine And.intro (incD (by omega)) ?_))
  refine wk_seq ⟨[(7, .d (.str ⟨#[97, 108, 108]⟩)), (1, .d (dI s)), (2, .own 0 0)], [(0, .blk 25 [.d (.int .i64 10), .d (.int .i64 n), .d (slD 16 ls.length (encS ls)), .d (slD 64 1 (encGs [u]))])], 1⟩ (wk_vc txok mixed [] ?_) ?_
  · repeat' ((conv => whnf); first | (refine And.intro (fun hf => ?_) (fun hf => ?_) <;> first | exact Bool.noConfusion hf | skip))
    exact weak_of rfl (by repeat ((conv => whnf); first | exact trivial | refine And.intro rfl ?_ | refine And.intro (incD (by omega)) ?_)) (by repeat ((conv => whnf); first | exact trivial | refine And.intro rfl ?_ | refine And.intro (incD (by omega)) ?_))
  refine wk_vc txok mixed [(17, .pure 0 (.take 1 (.pure 2 (.take 3 (.pure 4 (.pure 7 (.take 8 (.pure 9 (.take 10 (.pure 11 (.run 5 (.pure 6 (.fin 12 (.pure 13 (.pure 14 .done))))))))))))))), (19, .pure 0 (.take 1 (.pure 2 (.take 3 (.pure 4 (.pure 8 (.take 9 (.pure 10 (.take 11 (.pure 12 (.run 5 (.pure 6 (.pure 7 (.fin 13 (.pure 14 (.pure 15 (.pure 16 .done))))))))))))))))), (28, .pure 0 (.pure 1 (.pure 2 (.pure 3 (.pure 7 (.take 8 (.pure 9 (.take 10 (.pure 11 (.pure 12 (.take 13 (.run 4 (.pure 5 (.pure 6 (.run 14 (.fin 15 (.pure 16 (.pure 17 .done))))))))))))))))))] ?_
  conv => whnf
  refine And.intro (by kernel_rfl) ?_
  repeat'
    first
      | exact Nat.le_of_ble_eq_true rfl
      | (simp only [ByteArray.size_append, bs_size]; omega)
      | ((conv => whnf); first
        | refine And.intro ?_ ?_
        | refine IdxC.encGs (l := [u]) 0 (by show 0 < 1; decide) (by exact rfl) ?_
        | refine callF hd gf61 (by exact rfl) (by exact rfl) ?_
        | refine callF hw gf54 (by exact rfl) (by exact rfl) ?_
        | refine callF hu gf31 (by exact rfl) (by exact rfl) ?_
        | exact congrArg D.str (show bs [97, 108, 108] ++ bs [32, 116] ++ bs (itoa s.length) ++ bs [46, 32] ++ bs y = _ by simp only [bs_app, List.append_assoc]))
set_option maxRecDepth 20000 in
theorem textR11 (n : Int) (ls : List ByteArray) (u : TG) (hu : TextOk u) (s : List Int) (hs : s.length + szB u < 1099511627775) (hlu : (txG u (s ++ [n])).length ≤ 100 * szB u) : FnR Tryz.prog G0 31 [dG (.mk 11 n ls [u]), dI s] (.str (bs ([115, 111, 109, 101] ++ ([32, 116] ++ (itoa s.length ++ ([46, 32] ++ txG u (s ++ [n]))))))) := by
  have hu := hu (s ++ [n]) (by simp only [List.length_append, List.length_cons, List.length_nil]; omega)
  have hw := rwith_fn s n (by omega)
  have hd := decimal_fn (s.length : Int) ⟨by omega, by omega⟩
  have h20 := itoa_len20 (n := (s.length : Int)) ⟨by omega, by omega⟩
  have z7 : (⟨#[115, 111, 109, 101]⟩ : ByteArray).size ≤ 4 := by decide
  generalize txG u (s ++ [n]) = y at *
  have z1 : (⟨#[32, 45, 62, 32]⟩ : ByteArray).size = 4 := rfl
  have z2 : (⟨#[40]⟩ : ByteArray).size = 1 := rfl
  have z3 : (⟨#[41]⟩ : ByteArray).size = 1 := rfl
  have z4 : (⟨#[32, 42, 32]⟩ : ByteArray).size = 3 := rfl
  have z5 : (⟨#[32, 116]⟩ : ByteArray).size = 2 := rfl
  have z6 : (⟨#[46, 32]⟩ : ByteArray).size = 2 := rfl
  refine fnQ_of_wk (N := 124) txok mixed Tryz.func31 rfl rfl (by simp) fun b => ?_
  refine wk_seq ⟨[(1, .d (dI s)), (2, .own 0 0)], [(0, .blk 25 [.d (.int .i64 11), .d (.int .i64 n), .d (slD 16 ls.length (encS ls)), .d (slD 64 1 (encGs [u]))])], 1⟩ (wk_vc txok mixed [] ?_) ?_
  · repeat' ((conv => whnf); first | (refine And.intro (fun hf => ?_) (fun hf => ?_) <;> first | exact Bool.noConfusion hf | skip))
    exact weak_of rfl (by repeat ((conv => whnf); first | exact trivial | refine And.intro rfl ?_ | refine And.intro (incD (by omega)) ?_)) (by repeat ((conv => whnf); first | exact trivial | refine And.intro rfl ?_ | refine And.intro (incD (by omega)) ?_))
  refine wk_seq ⟨[(5, .d (.int .i64 (1))), (1, .d (dI s)), (2, .own 0 0)], [(0, .blk 25 [.d (.int .i64 11), .d (.int .i64 n), .d (slD 16 ls.length (encS ls)), .d (slD 64 1 (encGs [u]))])], 1⟩ (wk_vc txok mixed [] ?_) ?_
  · conv => whnf
    refine callF (kidsR_fn 11) gf44 rfl rfl ?_
    conv => whnf
    exact weak_of rfl (by repeat ((conv => whnf); first | exact trivial | refine And.intro rfl ?_ | refine And.intro (incD (by omega)) ?_)) (by repeat ((conv => whnf); first | exact trivial | refine And.intro rfl ?_ | refine And.intro (incD (by omega)) ?_))
  refine wk_seq ⟨[(1, .d (dI s)), (2, .own 0 0)], [(0, .blk 25 [.d (.int .i64 11), .d (.int .i64 n), .d (slD 16 ls.length (encS ls)), .d (slD 64 1 (encGs [u]))])], 1⟩ (wk_vc txok mixed [] ?_) ?_
  · repeat' ((conv => whnf); first | (refine And.intro (fun hf => ?_) (fun hf => ?_) <;> first | exact Bool.noConfusion hf | skip))
    exact weak_of rfl (by repeat ((conv => whnf); first | exact trivial | refine And.intro rfl ?_ | refine And.intro (incD (by omega)) ?_)) (by repeat ((conv => whnf); first | exact trivial | refine And.intro rfl ?_ | refine And.intro (incD (by omega)) ?_))
  refine wk_seq ⟨[(1, .d (dI s)), (2, .own 0 0)], [(0, .blk 25 [.d (.int .i64 11), .d (.int .i64 n), .d (slD 16 ls.length (encS ls)), .d (slD 64 1 (encGs [u]))])], 1⟩ ?_ ?_
  · refine wk_seq ⟨[(39, .d (.int .i64 11)), (1, .d (dI s)), (2, .own 0 0)], [(0, .blk 25 [.d (.int .i64 11), .d (.int .i64 n), .d (slD 16 ls.length (encS ls)), .d (slD 64 1 (encGs [u]))])], 1⟩ (wk_vc txok mixed [] ?_) ?_
    · repeat' ((conv => whnf); first | (refine And.intro (fun hf => ?_) (fun hf => ?_) <;> first | exact Bool.noConfusion hf | skip))
      exact weak_of rfl (by repeat ((conv => whnf); first | exact trivial | refine And.intro rfl ?_ | refine And.intro (incD (by omega)) ?_)) (by repeat ((conv => whnf); first | exact trivial | refine And.intro rfl ?_ | refine And.intro (incD (by omega)) ?_))
    refine wk_block (fun j s h => h) ?_
    refine wk_seq ⟨[(40, .d (.bool false)), (39, .d (.int .i64 11)), (1, .d (dI s)), (2, .own 0 0)], [(0, .blk 25 [.d (.int .i64 11), .d (.int .i64 n), .d (slD 16 ls.length (encS ls)), .d (slD 64 1 (encGs [u]))])], 1⟩ (wk_vc txok mixed [] ?_) ?_
    · repeat' ((conv => whnf); first | (refine And.intro (fun hf => ?_) (fun hf => ?_) <;> first | exact Bool.noConfusion hf | skip))
      first | refine (weak_kbT 40 false (by exact rfl)).trans (weak_of rfl (by repeat ((conv => whnf); first | exact trivial | refine And.intro rfl ?_ | refine And.intro (incD (by omega)) ?_)) (by repeat ((conv => whnf); first | exact trivial | refine And.intro rfl ?_ | refine And.intro (incD (by omega)) ?_))) | exact weak_of rfl (by repeat ((conv => whnf); first | exact trivial | refine And.intro rfl ?_ | refine And.intro (incD (by omega)) ?_)) (by repeat ((conv => whnf); first | exact trivial | refine And.intro rfl ?_ | refine And.intro (incD (by omega)) ?_))
    refine wk_false rfl ?_
    refine wk_seq ⟨[(42, .d (.bool false)), (39, .d (.int .i64 11)), (1, .d (dI s)), (2, .own 0 0)], [(0, .blk 25 [.d (.int .i64 11), .d (.int .i64 n), .d (slD 16 ls.length (encS ls)), .d (slD 64 1 (encGs [u]))])], 1⟩ (wk_vc txok mixed [] ?_) ?_
    · repeat' ((conv => whnf); first | (refine And.intro (fun hf => ?_) (fun hf => ?_) <;> first | exact Bool.noConfusion hf | skip))
      first | refine (weak_kbT 42 false (by exact rfl)).trans (weak_of rfl (by repeat ((conv => whnf); first | exact trivial | refine And.intro rfl ?_ | refine And.intro (incD (by omega)) ?_)) (by repeat ((conv => whnf); first | exact trivial | refine And.intro rfl ?_ | refine And.intro (incD (by omega)) ?_))) | exact weak_of rfl (by repeat ((conv => whnf); first | exact trivial | refine And.intro rfl ?_ | refine And.intro (incD (by omega)) ?_)) (by repeat ((conv => whnf); first | exact trivial | refine And.intro rfl ?_ | refine And.intro (incD (by omega)) ?_))
    refine wk_false rfl ?_
    refine wk_seq ⟨[(44, .d (.bool false)), (39, .d (.int .i64 11)), (1, .d (dI s)), (2, .own 0 0)], [(0, .blk 25 [.d (.int .i64 11), .d (.int .i64 n), .d (slD 16 ls.length (encS ls)), .d (slD 64 1 (encGs [u]))])], 1⟩ (wk_vc txok mixed [] ?_) ?_
    · repeat' ((conv => whnf); first | (refine And.intro (fun hf => ?_) (fun hf => ?_) <;> first | exact Bool.noConfusion hf | skip))
      first | refine (weak_kbT 44 false (by exact rfl)).trans (weak_of rfl (by repeat ((conv => whnf); first | exact trivial | refine And.intro rfl ?_ | refine And.intro (incD (by omega)) ?_)) (by repeat ((conv => whnf); first | exact trivial | refine And.intro rfl ?_ | refine And.intro (incD (by omega)) ?_))) | exact weak_of rfl (by repeat ((conv => whnf); first | exact trivial | refine And.intro rfl ?_ | refine And.intro (incD (by omega)) ?_)) (by repeat ((conv => whnf); first | exact trivial | refine And.intro rfl ?_ | refine And.intro (incD (by omega)) ?_))
    refine wk_false rfl ?_
    refine wk_seq ⟨[(46, .d (.bool false)), (39, .d (.int .i64 11)), (1, .d (dI s)), (2, .own 0 0)], [(0, .blk 25 [.d (.int .i64 11), .d (.int .i64 n), .d (slD 16 ls.length (encS ls)), .d (slD 64 1 (encGs [u]))])], 1⟩ (wk_vc txok mixed [] ?_) ?_
    · repeat' ((conv => whnf); first | (refine And.intro (fun hf => ?_) (fun hf => ?_) <;> first | exact Bool.noConfusion hf | skip))
      first | refine (weak_kbT 46 false (by exact rfl)).trans (weak_of rfl (by repeat ((conv => whnf); first | exact trivial | refine And.intro rfl ?_ | refine And.intro (incD (by omega)) ?_)) (by repeat ((conv => whnf); first | exact trivial | refine And.intro rfl ?_ | refine And.intro (incD (by omega)) ?_))) | exact weak_of rfl (by repeat ((conv => whnf); first | exact trivial | refine And.intro rfl ?_ | refine And.intro (incD (by omega)) ?_)) (by repeat ((conv => whnf); first | exact trivial | refine And.intro rfl ?_ | refine And.intro (incD (by omega)) ?_))
    refine wk_false rfl ?_
    refine wk_seq ⟨[(61, .d (.bool false)), (39, .d (.int .i64 11)), (1, .d (dI s)), (2, .own 0 0)], [(0, .blk 25 [.d (.int .i64 11), .d (.int .i64 n), .d (slD 16 ls.length (encS ls)), .d (slD 64 1 (encGs [u]))])], 1⟩ (wk_vc txok mixed [] ?_) ?_
    · repeat' ((conv => whnf); first | (refine And.intro (fun hf => ?_) (fun hf => ?_) <;> first | exact Bool.noConfusion hf | skip))
      first | refine (weak_kbT 61 false (by exact rfl)).trans (weak_of rfl (by repeat ((conv => whnf); first | exact trivial | refine And.intro rfl ?_ | refine And.intro (incD (by omega)) ?_)) (by repeat ((conv => whnf); first | exact trivial | refine And.intro rfl ?_ | refine And.intro (incD (by omega)) ?_))) | exact weak_of rfl (by repeat ((conv => whnf); first | exact trivial | refine And.intro rfl ?_ | refine And.intro (incD (by omega)) ?_)) (by repeat ((conv => whnf); first | exact trivial | refine And.intro rfl ?_ | refine And.intro (incD (by omega)) ?_))
    refine wk_false rfl ?_
    refine wk_seq ⟨[(77, .d (.bool false)), (39, .d (.int .i64 11)), (1, .d (dI s)), (2, .own 0 0)], [(0, .blk 25 [.d (.int .i64 11), .d (.int .i64 n), .d (slD 16 ls.length (encS ls)), .d (slD 64 1 (encGs [u]))])], 1⟩ (wk_vc txok mixed [] ?_) ?_
    · repeat' ((conv => whnf); first | (refine And.intro (fun hf => ?_) (fun hf => ?_) <;> first | exact Bool.noConfusion hf | skip))
      first | refine (weak_kbT 77 false (by exact rfl)).trans (weak_of rfl (by repeat ((conv => whnf); first | exact trivial | refine And.intro rfl ?_ | refine And.intro (incD (by omega)) ?_)) (by repeat ((conv => whnf); first | exact trivial | refine And.intro rfl ?_ | refine And.intro (incD (by omega)) ?_))) | exact weak_of rfl (by repeat ((conv => whnf); first | exact trivial | refine And.intro rfl ?_ | refine And.intro (incD (by omega)) ?_)) (by repeat ((conv => whnf); first | exact trivial | refine And.intro rfl ?_ | refine And.intro (incD (by omega)) ?_))
    refine wk_false rfl ?_
    refine wk_seq ⟨[(95, .d (.bool false)), (39, .d (.int .i64 11)), (1, .d (dI s)), (2, .own 0 0)], [(0, .blk 25 [.d (.int .i64 11), .d (.int .i64 n), .d (slD 16 ls.length (encS ls)), .d (slD 64 1 (encGs [u]))])], 1⟩ (wk_vc txok mixed [] ?_) ?_
    · repeat' ((conv => whnf); first | (refine And.intro (fun hf => ?_) (fun hf => ?_) <;> first | exact Bool.noConfusion hf | skip))
      first | refine (weak_kbT 95 false (by exact rfl)).trans (weak_of rfl (by repeat ((conv => whnf); first | exact trivial | refine And.intro rfl ?_ | refine And.intro (incD (by omega)) ?_)) (by repeat ((conv => whnf); first | exact trivial | refine And.intro rfl ?_ | refine And.intro (incD (by omega)) ?_))) | exact weak_of rfl (by repeat ((conv => whnf); first | exact trivial | refine And.intro rfl ?_ | refine And.intro (incD (by omega)) ?_)) (by repeat ((conv => whnf); first | exact trivial | refine And.intro rfl ?_ | refine And.intro (incD (by omega)) ?_))
    refine wk_false rfl ?_
    refine wk_skip ?_
    exact weak_of rfl (by repeat ((conv => whnf); first | exact trivial | refine And.intro rfl ?_ | refine And.intro (incD (by omega)) ?_)) (by repeat ((conv => whnf); first | exact trivial | refine And.intro rfl ?_ | refine And.intro (incD (by omega)) ?_))
  refine wk_seq ⟨[(7, .d (.str ⟨#[109, 117]⟩)), (1, .d (dI s)), (2, .own 0 0)], [(0, .blk 25 [.d (.int .i64 11), .d (.int .i64 n), .d (slD 16 ls.length (encS ls)), .d (slD 64 1 (encGs [u]))])], 1⟩ (wk_vc txok mixed [] ?_) ?_
  · conv => whnf
    exact weak_of rfl (by repeat ((conv => whnf); first | exact trivial | refine And.intro rfl ?_ | refine And.intro (incD (by omega)) ?_)) (by repeat ((conv => whnf); first | exact trivial | refine And.intro rfl ?_ | refine And.intro (incD (by omega)) ?_))
  refine wk_seq ⟨[(7, .d (.str ⟨#[109, 117]⟩)), (1, .d (dI s)), (2, .own 0 0)], [(0, .blk 25 [.d (.int .i64 11), .d (.int .i64 n), .d (slD 16 ls.length (encS ls)), .d (slD 64 1 (encGs [u]))])], 1⟩ (wk_vc txok mixed [] ?_) ?_
  · repeat' ((conv => whnf); first | (refine And.intro (fun hf => ?_) (fun hf => ?_) <;> first | exact Bool.noConfusion hf | skip))
    exact weak_of rfl (by repeat ((conv => whnf); first | exact trivial | refine And.intro rfl ?_ | refine And.intro (incD (by omega)) ?_)) (by repeat ((conv => whnf); first | exact trivial | refine And.intro rfl ?_ | refine And.intro (incD (by omega)) ?_))
  refine wk_seq ⟨[(7, .d (.str ⟨#[115, 111, 109, 101]⟩)), (1, .d (dI s)), (2, .own 0 0)], [(0, .blk 25 [.d (.int .i64 11), .d (.int .i64 n), .d (slD 16 ls.length (encS ls)), .d (slD 64 1 (encGs [u]))])], 1⟩ (wk_vc txok mixed [] ?_) ?_
  · repeat' ((conv => whnf); first | (refine And.intro (fun hf => ?_) (fun hf => ?_) <;> first | exact Bool.noConfusion hf | skip))
    exact weak_of rfl (by repeat ((conv => whnf); first | exact trivial | refine And.intro rfl ?_ | refine And.intro (incD (by omega)) ?_)) (by repeat ((conv => whnf); first | exact trivial | refine And.intro rfl ?_ | refine And.intro (incD (by omega)) ?_))
  refine wk_vc txok mixed [(17, .pure 0 (.take 1 (.pure 2 (.take 3 (.pure 4 (.pure 7 (.take 8 (.pure 9 (.take 10 (.pure 11 (.run 5 (.pure 6 (.fin 12 (.pure 13 (.pure 14 .done))))))))))))))), (19, .pure 0 (.take 1 (.pure 2 (.take 3 (.pure 4 (.pure 8 (.take 9 (.pure 10 (.take 11 (.pure 12 (.run 5 (.pure 6 (.pure 7 (.fin 13 (.pure 14 (.pure 15 (.pure 16 .done))))))))))))))))), (28, .pure 0 (.pure 1 (.pure 2 (.pure 3 (.pure 7 (.take 8 (.pure 9 (.take 10 (.pure 11 (.pure 12 (.take 13 (.run 4 (.pure 5 (.pure 6 (.run 14 (.fin 15 (.pure 16 (.pure 17 .done))))))))))))))))))] ?_
  conv => whnf
  refine And.intro (by kernel_rfl) ?_
  repeat'
    first
      | exact Nat.le_of_ble_eq_true rfl
      | (simp only [ByteArray.size_append, bs_size]; omega)
      | ((conv => whnf); first
        | refine And.intro ?_ ?_
        | refine IdxC.encGs (l := [u]) 0 (by show 0 < 1; decide) (by exact rfl) ?_
        | refine callF hd gf61 (by exact rfl) (by exact rfl) ?_
        | refine callF hw gf54 (by exact rfl) (by exact rfl) ?_
        | refine callF hu gf31 (by exact rfl) (by exact rfl) ?_
        | exact congrArg D.str (show bs [115, 111, 109, 101] ++ bs [32, 116] ++ bs (itoa s.length) ++ bs [46, 32] ++ bs y = _ by simp only [bs_app, List.append_assoc]))
end Go.Proofs.YtohmeplcjgmedaaGreatDoor

/- The reference: lists; texts of all types. -/
set_option linter.unusedSimpArgs false
set_option linter.unusedVariables false
namespace Go.Proofs.YtohmeplcjgmedaaGreatDoor
open Go.Vx Go.Vc Go.RowKit Go.Lib

theorem encB_map (l : List UInt8) : encB l = (l.map fun x => (x.toNat : Int)).map (D.int .u8) := by
  induction l with
  | nil => rfl
  | cons x r ih => simp only [List.map_cons, ← ih]; rfl
theorem appLen (l : List UInt8) (s : ByteArray) : l.length + s.size = (l ++ s.data.toList).length := by rw [List.length_append, Array.length_toList]; rfl
theorem bytesOf_go (l : List UInt8) : ∀ a : ByteArray, ((l.map fun x => (x.toNat : Int)).foldl (fun r n => r.push (UInt8.ofNat n.toNat)) a) = a ++ bs l := by
  induction l with
  | nil => intro a; apply ByteArray.ext; simp [bs]
  | cons x r ih =>
    intro a
    simp only [List.map_cons, List.foldl_cons]
    rw [ih]
    apply ByteArray.ext
    simp [bs, ByteArray.push]
theorem bytesOf_bs (l : List UInt8) : bytesOf (l.map fun x => (x.toNat : Int)) = bs l := by
  unfold bytesOf
  rw [bytesOf_go]
  apply ByteArray.ext
  simp
set_option maxRecDepth 20000 in
theorem listR7 (n : Int) (ls : List ByteArray) (ks : List TG) (hp : ∀ t ∈ ks, PartOk t) (hi : ∀ t ∈ ks, i64G t) (hll : ls.length = ks.length) (s : List Int) (hs : s.length + szs szB ks + szs ByteArray.size ls < 1099511627775) : FnR Tryz.prog G0 63 [dG (.mk 7 n ls ks), dI s] (.str (bs ([123] ++ (itemsTo true ls (txs ks s) (txs ks s).length ++ [125])))) := by
  have hi0 := hi
  refine fnQ_sz fun hsz => ?_
  have hkl := (szOk_G (t := .mk 7 n ls ks) hsz.1).1
  simp only [g_kids, LB] at hkl
  rw [txs_len]
  have hI := fun i hi' => itemsTo_len true ls (txs ks s) (fun h => by rw [txs_len]; exact hll) i hi'
  have hX := sumX_take ks hi s (by omega)
  rw [txs_len] at hI
  refine fnQ_of_wk (N := 53) txok mixed Tryz.func63 rfl rfl (by simp) fun b => ?_
  refine wk_seq ⟨[(1, .d (dI s)), (2, .own 0 0)], [(0, .blk 25 [.d (.int .i64 7), .d (.int .i64 n), .d (slD 16 ls.length (encS ls)), .d (slD 64 ks.length (encGs ks))])], 1⟩ (wk_vc txok mixed [] ?_) ?_
  · conv => whnf
    exact weak_of rfl (by repeat ((conv => whnf); first | exact trivial | refine And.intro rfl ?_ | refine And.intro (incD (by omega)) ?_)) (by repeat ((conv => whnf); first | exact trivial | refine And.intro rfl ?_ | refine And.intro (incD (by omega)) ?_))
  refine wk_seq ⟨[(5, .row 1), (1, .d (dI s)), (2, .own 0 0)], [(0, .blk 25 [.d (.int .i64 7), .d (.int .i64 n), .d (slD 16 ls.length (encS ls)), .d (slD 64 ks.length (encGs ks))]), (1, .row 5 1 1 (([] : List UInt8)).length (encB (([] : List UInt8))))], 2⟩ (wk_vc txok mixed [] ?_) ?_
  · conv => whnf
    exact (weak_nlT 5 5 1 1 rfl).trans (weak_of rfl (by repeat ((conv => whnf); first | exact trivial | refine And.intro rfl ?_ | refine And.intro (incD (by omega)) ?_)) (by repeat ((conv => whnf); first | exact trivial | refine And.intro rfl ?_ | refine And.intro (incD (by omega)) ?_)))
  refine wk_seq ⟨[(5, .row 1), (1, .d (dI s)), (2, .own 0 0)], [(0, .blk 25 [.d (.int .i64 7), .d (.int .i64 n), .d (slD 16 ls.length (encS ls)), .d (slD 64 ks.length (encGs ks))]), (1, .row 5 1 1 (itemsTo true ls (txs ks s) ks.length).length (encB (itemsTo true ls (txs ks s) ks.length)))], 2⟩ (wk_vc txok mixed [] ?_) ?_
  · conv => whnf
    refine loopH (fun i : Nat => i ≤ ks.length) (fun i => ks.length - i) (fun i => [(6, .d (.int .i64 i)), (5, .row 1)]) (fun i => [(0, .blk 25 [.d (.int .i64 7), .d (.int .i64 n), .d (slD 16 ls.length (encS ls)), .d (slD 64 ks.length (encGs ks))]), (1, .row 5 1 1 (itemsTo true ls (txs ks s) i).length (encB (itemsTo true ls (txs ks s) i)))]) 2 0 (by omega) ?_ ?_
    · exact weak_of rfl (by repeat ((conv => whnf); first | exact trivial | refine And.intro rfl ?_ | refine And.intro (incD (by omega)) ?_)) (by repeat ((conv => whnf); first | exact trivial | refine And.intro rfl ?_ | refine And.intro (incD (by omega)) ?_))
    intro i hi
    conv => whnf
    refine And.intro (fun hb => ?_) (fun hb => ?_)
    · have hil : i < ks.length := by have := of_decide_eq_true hb; omega
      have h1 := hI i hi
      have h2 := hX i
      have h3 : szs szB (ks.take (i + 1)) = szs szB (ks.take i) + szB ks[i] := by rw [List.take_succ_eq_append_getElem hil]; simp only [szs, List.map_append, List.sum_append, List.map_cons, List.map_nil, List.sum_cons, List.sum_nil, Nat.add_zero]
      have h4 := szs_takele szB ks (i + 1)
      have h5 := szs_takele ByteArray.size ls (i + 1)
      have hx := txs_at ks s i hil
      have hpl := parW_len (ks[i].k, txG ks[i] s)
      have htl := txG_len ks[i] (hi0 ks[i] (List.getElem_mem hil)) s (by omega)
      simp only at hpl
      have hzp : (bs (parW (ks[i].k, txG ks[i] s))).data.toList.length = (parW (ks[i].k, txG ks[i] s)).length := by simp [bs]
      have hil7 : i < ls.length := by omega
      have h6 : szs ByteArray.size (ls.take (i + 1)) = szs ByteArray.size (ls.take i) + ls[i].size := by rw [List.take_succ_eq_append_getElem hil7]; simp only [szs, List.map_append, List.sum_append, List.map_cons, List.map_nil, List.sum_cons, List.sum_nil, Nat.add_zero]
      have hlb : ls[i].size < 1099511627776 := by omega
      have hlz : (ls[i] ++ ⟨#[58, 32]⟩ : ByteArray).data.toList.length = ls[i].size + 2 := by
        rw [Array.length_toList]
        show (ls[i] ++ ⟨#[58, 32]⟩ : ByteArray).size = _
        rw [ByteArray.size_append]; rfl
      have hla : labA true ls i = (ls[i] ++ ⟨#[58, 32]⟩ : ByteArray).data.toList := by
        unfold labA; rw [if_pos rfl, List.getD_eq_getElem?_getD, List.getElem?_eq_getElem hil7]; simp
      conv => whnf
      refine And.intro (fun hf => ?_) (fun hf => Bool.noConfusion hf)
      conv => whnf
      refine And.intro (fun hp' => ?_) (fun hp' => ?_)
      · have hp' : i > 0 := by have := of_decide_eq_true hp'; omega
        have he : itemsTo true ls (txs ks s) (i + 1) = itemsTo true ls (txs ks s) i ++ (⟨#[44, 32]⟩ : ByteArray).data.toList ++ (ls[i] ++ ⟨#[58, 32]⟩ : ByteArray).data.toList ++ (bs (parW (ks[i].k, txG ks[i] s))).data.toList := by rw [itemsTo, hla, hx]; unfold sepA; rw [if_pos hp']; simp [bs]
        conv => whnf
        refine appStrC (i := 1) (l := (itemsTo true ls (txs ks s) i)) (s := ⟨#[44, 32]⟩) (fun _ => false) (by exact rfl) (by exact rfl) (by exact rfl) (by exact rfl) Tryz.underlying55 Tryz.underlying9 (by kernel_rfl) ((itemsTo true ls (txs ks s) i) ++ (⟨#[44, 32]⟩ : ByteArray).data.toList).length (appLen _ _) (by simp only [LB, List.length_append, List.length_cons, List.length_nil, hzp, hlz]; omega) ?_
        conv => whnf
        refine IdxC.encS i hil7 rfl ?_
        conv => whnf
        refine ⟨by have := hlb; show ls[i].size + 2 ≤ _; omega, ?_⟩
        conv => whnf
        refine appStrC (i := 1) (l := (itemsTo true ls (txs ks s) i ++ (⟨#[44, 32]⟩ : ByteArray).data.toList)) (s := (ls[i] ++ ⟨#[58, 32]⟩)) (fun _ => false) (by exact rfl) (by exact rfl) (by exact rfl) (by exact rfl) Tryz.underlying55 Tryz.underlying9 (by kernel_rfl) ((itemsTo true ls (txs ks s) i ++ (⟨#[44, 32]⟩ : ByteArray).data.toList) ++ ((ls[i] ++ ⟨#[58, 32]⟩) : ByteArray).data.toList).length (appLen _ _) (by simp only [LB, List.length_append, List.length_cons, List.length_nil, hzp, hlz]; omega) ?_
        conv => whnf
        refine IdxC.encGs i hil rfl ?_
        conv => whnf
        refine callF (hp ks[i] (List.getElem_mem hil) s (by omega)) gf62 rfl rfl ?_
        conv => whnf
        refine appStrC (i := 1) (l := ((itemsTo true ls (txs ks s) i ++ (⟨#[44, 32]⟩ : ByteArray).data.toList) ++ (ls[i] ++ ⟨#[58, 32]⟩ : ByteArray).data.toList)) (s := bs (parW (ks[i].k, txG ks[i] s))) (fun _ => false) (by exact rfl) (by exact rfl) (by exact rfl) (by exact rfl) Tryz.underlying55 Tryz.underlying9 (by kernel_rfl) (((itemsTo true ls (txs ks s) i ++ (⟨#[44, 32]⟩ : ByteArray).data.toList) ++ (ls[i] ++ ⟨#[58, 32]⟩ : ByteArray).data.toList) ++ (bs (parW (ks[i].k, txG ks[i] s)) : ByteArray).data.toList).length (appLen _ _) (by simp only [LB, List.length_append, List.length_cons, List.length_nil, hzp, hlz]; omega) ?_
        conv => whnf
        rw [incD (by omega)]
        refine again (i + 1) (by omega) (by omega) ?_
        rw [he]
        exact weak_of rfl (by repeat ((conv => whnf); first | exact trivial | refine And.intro rfl ?_ | refine And.intro (incD (by omega)) ?_)) (by repeat ((conv => whnf); first | exact trivial | refine And.intro rfl ?_ | refine And.intro (incD (by omega)) ?_))
      · have hp' : ¬ i > 0 := by have := of_decide_eq_false hp'; omega
        have he : itemsTo true ls (txs ks s) (i + 1) = itemsTo true ls (txs ks s) i ++ (ls[i] ++ ⟨#[58, 32]⟩ : ByteArray).data.toList ++ (bs (parW (ks[i].k, txG ks[i] s))).data.toList := by rw [itemsTo, hla, hx]; unfold sepA; rw [if_neg hp']; simp [bs]
        conv => whnf
        refine IdxC.encS i hil7 rfl ?_
        conv => whnf
        refine ⟨by have := hlb; show ls[i].size + 2 ≤ _; omega, ?_⟩
        conv => whnf
        refine appStrC (i := 1) (l := (itemsTo true ls (txs ks s) i)) (s := (ls[i] ++ ⟨#[58, 32]⟩)) (fun _ => false) (by exact rfl) (by exact rfl) (by exact rfl) (by exact rfl) Tryz.underlying55 Tryz.underlying9 (by kernel_rfl) ((itemsTo true ls (txs ks s) i) ++ ((ls[i] ++ ⟨#[58, 32]⟩) : ByteArray).data.toList).length (appLen _ _) (by simp only [LB, List.length_append, List.length_cons, List.length_nil, hzp, hlz]; omega) ?_
        conv => whnf
        refine IdxC.encGs i hil rfl ?_
        conv => whnf
        refine callF (hp ks[i] (List.getElem_mem hil) s (by omega)) gf62 rfl rfl ?_
        conv => whnf
        refine appStrC (i := 1) (l := ((itemsTo true ls (txs ks s) i) ++ (ls[i] ++ ⟨#[58, 32]⟩ : ByteArray).data.toList)) (s := bs (parW (ks[i].k, txG ks[i] s))) (fun _ => false) (by exact rfl) (by exact rfl) (by exact rfl) (by exact rfl) Tryz.underlying55 Tryz.underlying9 (by kernel_rfl) (((itemsTo true ls (txs ks s) i) ++ (ls[i] ++ ⟨#[58, 32]⟩ : ByteArray).data.toList) ++ (bs (parW (ks[i].k, txG ks[i] s)) : ByteArray).data.toList).length (appLen _ _) (by simp only [LB, List.length_append, List.length_cons, List.length_nil, hzp, hlz]; omega) ?_
        conv => whnf
        rw [incD (by omega)]
        refine again (i + 1) (by omega) (by omega) ?_
        rw [he]
        exact weak_of rfl (by repeat ((conv => whnf); first | exact trivial | refine And.intro rfl ?_ | refine And.intro (incD (by omega)) ?_)) (by repeat ((conv => whnf); first | exact trivial | refine And.intro rfl ?_ | refine And.intro (incD (by omega)) ?_))
    · have hil : i = ks.length := by have := of_decide_eq_false hb; omega
      subst hil
      conv => whnf
      exact weak_of rfl (by repeat ((conv => whnf); first | exact trivial | refine And.intro rfl ?_ | refine And.intro (incD (by omega)) ?_)) (by repeat ((conv => whnf); first | exact trivial | refine And.intro rfl ?_ | refine And.intro (incD (by omega)) ?_))
  have h1 := hI ks.length (Nat.le_refl _)
  have h2 := hX ks.length
  rw [List.take_length] at h2
  have h5 := szs_takele ByteArray.size ls ks.length
  generalize itemsTo true ls (txs ks s) ks.length = acc at *
  refine wk_vc txok mixed [] ?_
  conv => whnf
  refine And.intro (fun hf => ?_) (fun hf => Bool.noConfusion hf)
  conv => whnf
  refine bsC (n := acc.length) txok (acc.map fun x => (x.toNat : Int)) rfl rfl rfl rfl rfl rfl rfl rfl (by rw [← encB_map]; exact rfl) (by simp) ?_
  rw [bytesOf_bs]
  conv => whnf
  refine ⟨by rw [bs_size]; show 1 + _ ≤ _; omega, ?_⟩
  conv => whnf
  refine ⟨by rw [ByteArray.size_append, bs_size]; show 1 + _ + 1 ≤ _; omega, ?_⟩
  conv => whnf
  exact congrArg D.str (show bs [123] ++ bs acc ++ bs [125] = _ by simp only [bs_app, List.append_assoc])
set_option maxRecDepth 20000 in
theorem listR8 (n : Int) (ls : List ByteArray) (ks : List TG) (hp : ∀ t ∈ ks, PartOk t) (hi : ∀ t ∈ ks, i64G t) (s : List Int) (hs : s.length + szs szB ks + szs ByteArray.size ls < 1099511627775) : FnR Tryz.prog G0 63 [dG (.mk 8 n ls ks), dI s] (.str (bs ([91] ++ (itemsTo false ls (txs ks s) (txs ks s).length ++ [93])))) := by
  have hi0 := hi
  refine fnQ_sz fun hsz => ?_
  have hkl := (szOk_G (t := .mk 8 n ls ks) hsz.1).1
  simp only [g_kids, LB] at hkl
  rw [txs_len]
  have hI := fun i hi' => itemsTo_len false ls (txs ks s) (fun h => by cases h) i hi'
  have hX := sumX_take ks hi s (by omega)
  rw [txs_len] at hI
  refine fnQ_of_wk (N := 53) txok mixed Tryz.func63 rfl rfl (by simp) fun b => ?_
  refine wk_seq ⟨[(1, .d (dI s)), (2, .own 0 0)], [(0, .blk 25 [.d (.int .i64 8), .d (.int .i64 n), .d (slD 16 ls.length (encS ls)), .d (slD 64 ks.length (encGs ks))])], 1⟩ (wk_vc txok mixed [] ?_) ?_
  · conv => whnf
    exact weak_of rfl (by repeat ((conv => whnf); first | exact trivial | refine And.intro rfl ?_ | refine And.intro (incD (by omega)) ?_)) (by repeat ((conv => whnf); first | exact trivial | refine And.intro rfl ?_ | refine And.intro (incD (by omega)) ?_))
  refine wk_seq ⟨[(5, .row 1), (1, .d (dI s)), (2, .own 0 0)], [(0, .blk 25 [.d (.int .i64 8), .d (.int .i64 n), .d (slD 16 ls.length (encS ls)), .d (slD 64 ks.length (encGs ks))]), (1, .row 5 1 1 (([] : List UInt8)).length (encB (([] : List UInt8))))], 2⟩ (wk_vc txok mixed [] ?_) ?_
  · conv => whnf
    exact (weak_nlT 5 5 1 1 rfl).trans (weak_of rfl (by repeat ((conv => whnf); first | exact trivial | refine And.intro rfl ?_ | refine And.intro (incD (by omega)) ?_)) (by repeat ((conv => whnf); first | exact trivial | refine And.intro rfl ?_ | refine And.intro (incD (by omega)) ?_)))
  refine wk_seq ⟨[(5, .row 1), (1, .d (dI s)), (2, .own 0 0)], [(0, .blk 25 [.d (.int .i64 8), .d (.int .i64 n), .d (slD 16 ls.length (encS ls)), .d (slD 64 ks.length (encGs ks))]), (1, .row 5 1 1 (itemsTo false ls (txs ks s) ks.length).length (encB (itemsTo false ls (txs ks s) ks.length)))], 2⟩ (wk_vc txok mixed [] ?_) ?_
  · conv => whnf
    refine loopH (fun i : Nat => i ≤ ks.length) (fun i => ks.length - i) (fun i => [(6, .d (.int .i64 i)), (5, .row 1)]) (fun i => [(0, .blk 25 [.d (.int .i64 8), .d (.int .i64 n), .d (slD 16 ls.length (encS ls)), .d (slD 64 ks.length (encGs ks))]), (1, .row 5 1 1 (itemsTo false ls (txs ks s) i).length (encB (itemsTo false ls (txs ks s) i)))]) 2 0 (by omega) ?_ ?_
    · exact weak_of rfl (by repeat ((conv => whnf); first | exact trivial | refine And.intro rfl ?_ | refine And.intro (incD (by omega)) ?_)) (by repeat ((conv => whnf); first | exact trivial | refine And.intro rfl ?_ | refine And.intro (incD (by omega)) ?_))
    intro i hi
    conv => whnf
    refine And.intro (fun hb => ?_) (fun hb => ?_)
    · have hil : i < ks.length := by have := of_decide_eq_true hb; omega
      have h1 := hI i hi
      have h2 := hX i
      have h3 : szs szB (ks.take (i + 1)) = szs szB (ks.take i) + szB ks[i] := by rw [List.take_succ_eq_append_getElem hil]; simp only [szs, List.map_append, List.sum_append, List.map_cons, List.map_nil, List.sum_cons, List.sum_nil, Nat.add_zero]
      have h4 := szs_takele szB ks (i + 1)
      have h5 := szs_takele ByteArray.size ls (i + 1)
      have hx := txs_at ks s i hil
      have hpl := parW_len (ks[i].k, txG ks[i] s)
      have htl := txG_len ks[i] (hi0 ks[i] (List.getElem_mem hil)) s (by omega)
      simp only at hpl
      have hzp : (bs (parW (ks[i].k, txG ks[i] s))).data.toList.length = (parW (ks[i].k, txG ks[i] s)).length := by simp [bs]
      have h6 : szs ByteArray.size (ls.take i) ≤ szs ByteArray.size ls := szs_takele ByteArray.size ls i
      have hla : labA false ls i = [] := by unfold labA; rw [if_neg (by decide)]
      conv => whnf
      refine And.intro (fun hf => Bool.noConfusion hf) (fun hf => ?_)
      conv => whnf
      refine And.intro (fun hp' => ?_) (fun hp' => ?_)
      · have hp' : i > 0 := by have := of_decide_eq_true hp'; omega
        have he : itemsTo false ls (txs ks s) (i + 1) = itemsTo false ls (txs ks s) i ++ (⟨#[32, 124, 32]⟩ : ByteArray).data.toList ++ (bs (parW (ks[i].k, txG ks[i] s))).data.toList := by rw [itemsTo, hla, hx]; unfold sepA; rw [if_pos hp']; simp [bs]
        conv => whnf
        refine appStrC (i := 1) (l := (itemsTo false ls (txs ks s) i)) (s := ⟨#[32, 124, 32]⟩) (fun _ => false) (by exact rfl) (by exact rfl) (by exact rfl) (by exact rfl) Tryz.underlying55 Tryz.underlying9 (by kernel_rfl) ((itemsTo false ls (txs ks s) i) ++ (⟨#[32, 124, 32]⟩ : ByteArray).data.toList).length (appLen _ _) (by simp only [LB, List.length_append, List.length_cons, List.length_nil, hzp]; omega) ?_
        conv => whnf
        refine IdxC.encGs i hil rfl ?_
        conv => whnf
        refine callF (hp ks[i] (List.getElem_mem hil) s (by omega)) gf62 rfl rfl ?_
        conv => whnf
        refine appStrC (i := 1) (l := (itemsTo false ls (txs ks s) i ++ (⟨#[32, 124, 32]⟩ : ByteArray).data.toList)) (s := bs (parW (ks[i].k, txG ks[i] s))) (fun _ => false) (by exact rfl) (by exact rfl) (by exact rfl) (by exact rfl) Tryz.underlying55 Tryz.underlying9 (by kernel_rfl) ((itemsTo false ls (txs ks s) i ++ (⟨#[32, 124, 32]⟩ : ByteArray).data.toList) ++ (bs (parW (ks[i].k, txG ks[i] s)) : ByteArray).data.toList).length (appLen _ _) (by simp only [LB, List.length_append, List.length_cons, List.length_nil, hzp]; omega) ?_
        conv => whnf
        rw [incD (by omega)]
        refine again (i + 1) (by omega) (by omega) ?_
        rw [he]
        exact weak_of rfl (by repeat ((conv => whnf); first | exact trivial | refine And.intro rfl ?_ | refine And.intro (incD (by omega)) ?_)) (by repeat ((conv => whnf); first | exact trivial | refine And.intro rfl ?_ | refine And.intro (incD (by omega)) ?_))
      · have hp' : ¬ i > 0 := by have := of_decide_eq_false hp'; omega
        have he : itemsTo false ls (txs ks s) (i + 1) = itemsTo false ls (txs ks s) i ++ (bs (parW (ks[i].k, txG ks[i] s))).data.toList := by rw [itemsTo, hla, hx]; unfold sepA; rw [if_neg hp']; simp [bs]
        conv => whnf
        refine IdxC.encGs i hil rfl ?_
        conv => whnf
        refine callF (hp ks[i] (List.getElem_mem hil) s (by omega)) gf62 rfl rfl ?_
        conv => whnf
        refine appStrC (i := 1) (l := (itemsTo false ls (txs ks s) i)) (s := bs (parW (ks[i].k, txG ks[i] s))) (fun _ => false) (by exact rfl) (by exact rfl) (by exact rfl) (by exact rfl) Tryz.underlying55 Tryz.underlying9 (by kernel_rfl) ((itemsTo false ls (txs ks s) i) ++ (bs (parW (ks[i].k, txG ks[i] s)) : ByteArray).data.toList).length (appLen _ _) (by simp only [LB, List.length_append, List.length_cons, List.length_nil, hzp]; omega) ?_
        conv => whnf
        rw [incD (by omega)]
        refine again (i + 1) (by omega) (by omega) ?_
        rw [he]
        exact weak_of rfl (by repeat ((conv => whnf); first | exact trivial | refine And.intro rfl ?_ | refine And.intro (incD (by omega)) ?_)) (by repeat ((conv => whnf); first | exact trivial | refine And.intro rfl ?_ | refine And.intro (incD (by omega)) ?_))
    · have hil : i = ks.length := by have := of_decide_eq_false hb; omega
      subst hil
      conv => whnf
      exact weak_of rfl (by repeat ((conv => whnf); first | exact trivial | refine And.intro rfl ?_ | refine And.intro (incD (by omega)) ?_)) (by repeat ((conv => whnf); first | exact trivial | refine And.intro rfl ?_ | refine And.intro (incD (by omega)) ?_))
  have h1 := hI ks.length (Nat.le_refl _)
  have h2 := hX ks.length
  rw [List.take_length] at h2
  have h5 := szs_takele ByteArray.size ls ks.length
  generalize itemsTo false ls (txs ks s) ks.length = acc at *
  refine wk_vc txok mixed [] ?_
  conv => whnf
  refine And.intro (fun hf => Bool.noConfusion hf) (fun hf => ?_)
  conv => whnf
  refine bsC (n := acc.length) txok (acc.map fun x => (x.toNat : Int)) rfl rfl rfl rfl rfl rfl rfl rfl (by rw [← encB_map]; exact rfl) (by simp) ?_
  rw [bytesOf_bs]
  conv => whnf
  refine ⟨by rw [bs_size]; show 1 + _ ≤ _; omega, ?_⟩
  conv => whnf
  refine ⟨by rw [ByteArray.size_append, bs_size]; show 1 + _ + 1 ≤ _; omega, ?_⟩
  conv => whnf
  exact congrArg D.str (show bs [91] ++ bs acc ++ bs [93] = _ by simp only [bs_app, List.append_assoc])
end Go.Proofs.YtohmeplcjgmedaaGreatDoor

/- The reference: texts of all types. -/
set_option linter.unusedSimpArgs false
set_option linter.unusedVariables false
namespace Go.Proofs.YtohmeplcjgmedaaGreatDoor
open Go.Vx Go.Vc Go.RowKit Go.Lib

set_option maxRecDepth 20000 in
theorem textR7 (n : Int) (ls : List ByteArray) (ks : List TG) (hp : ∀ t ∈ ks, PartOk t) (hi : ∀ t ∈ ks, i64G t) (hll : ls.length = ks.length) (s : List Int) (hs : s.length + szs szB ks + szs ByteArray.size ls < 1099511627775) : FnR Tryz.prog G0 31 [dG (.mk 7 n ls ks), dI s] (.str (bs ([123] ++ (itemsTo true ls (txs ks s) (txs ks s).length ++ [125])))) := by
  have hL := listR7 n ls ks hp hi hll s hs
  generalize itemsTo true ls (txs ks s) (txs ks s).length = x at *
  have hne : ((ls.length : Int) != (ks.length : Int)) = false := by rw [hll]; simp
  refine fnQ_of_wk (N := 124) txok mixed Tryz.func31 rfl rfl (by simp) fun b => ?_
  refine wk_seq ⟨[(1, .d (dI s)), (2, .own 0 0)], [(0, .blk 25 [.d (.int .i64 7), .d (.int .i64 n), .d (slD 16 ls.length (encS ls)), .d (slD 64 ks.length (encGs ks))])], 1⟩ (wk_vc txok mixed [] ?_) ?_
  · repeat' ((conv => whnf); first | (refine And.intro (fun hf => ?_) (fun hf => ?_) <;> first | exact Bool.noConfusion hf | skip))
    exact weak_of rfl (by repeat ((conv => whnf); first | exact trivial | refine And.intro rfl ?_ | refine And.intro (incD (by omega)) ?_)) (by repeat ((conv => whnf); first | exact trivial | refine And.intro rfl ?_ | refine And.intro (incD (by omega)) ?_))
  refine wk_seq ⟨[(5, .d (.int .i64 (-1))), (1, .d (dI s)), (2, .own 0 0)], [(0, .blk 25 [.d (.int .i64 7), .d (.int .i64 n), .d (slD 16 ls.length (encS ls)), .d (slD 64 ks.length (encGs ks))])], 1⟩ (wk_vc txok mixed [] ?_) ?_
  · conv => whnf
    refine callF (kidsR_fn 7) gf44 rfl rfl ?_
    conv => whnf
    exact weak_of rfl (by repeat ((conv => whnf); first | exact trivial | refine And.intro rfl ?_ | refine And.intro (incD (by omega)) ?_)) (by repeat ((conv => whnf); first | exact trivial | refine And.intro rfl ?_ | refine And.intro (incD (by omega)) ?_))
  refine wk_seq ⟨[(1, .d (dI s)), (2, .own 0 0)], [(0, .blk 25 [.d (.int .i64 7), .d (.int .i64 n), .d (slD 16 ls.length (encS ls)), .d (slD 64 ks.length (encGs ks))])], 1⟩ (wk_vc txok mixed [] ?_) ?_
  · repeat' ((conv => whnf); first | (refine And.intro (fun hf => ?_) (fun hf => ?_) <;> first | exact Bool.noConfusion hf | (rw [hne] at hf; exact Bool.noConfusion hf) | skip))
    exact weak_of rfl (by repeat ((conv => whnf); first | exact trivial | refine And.intro rfl ?_ | refine And.intro (incD (by omega)) ?_)) (by repeat ((conv => whnf); first | exact trivial | refine And.intro rfl ?_ | refine And.intro (incD (by omega)) ?_))
  refine wk_seqR ?_
  refine wk_seq ⟨[(39, .d (.int .i64 7)), (1, .d (dI s)), (2, .own 0 0)], [(0, .blk 25 [.d (.int .i64 7), .d (.int .i64 n), .d (slD 16 ls.length (encS ls)), .d (slD 64 ks.length (encGs ks))])], 1⟩ (wk_vc txok mixed [] ?_) ?_
  · repeat' ((conv => whnf); first | (refine And.intro (fun hf => ?_) (fun hf => ?_) <;> first | exact Bool.noConfusion hf | skip))
    exact weak_of rfl (by repeat ((conv => whnf); first | exact trivial | refine And.intro rfl ?_ | refine And.intro (incD (by omega)) ?_)) (by repeat ((conv => whnf); first | exact trivial | refine And.intro rfl ?_ | refine And.intro (incD (by omega)) ?_))
  refine wk_block (fun j s h => h) ?_
  refine wk_seq ⟨[(40, .d (.bool false)), (39, .d (.int .i64 7)), (1, .d (dI s)), (2, .own 0 0)], [(0, .blk 25 [.d (.int .i64 7), .d (.int .i64 n), .d (slD 16 ls.length (encS ls)), .d (slD 64 ks.length (encGs ks))])], 1⟩ (wk_vc txok mixed [] ?_) ?_
  · repeat' ((conv => whnf); first | (refine And.intro (fun hf => ?_) (fun hf => ?_) <;> first | exact Bool.noConfusion hf | skip))
    first | refine (weak_kbT 40 false (by exact rfl)).trans (weak_of rfl (by repeat ((conv => whnf); first | exact trivial | refine And.intro rfl ?_ | refine And.intro (incD (by omega)) ?_)) (by repeat ((conv => whnf); first | exact trivial | refine And.intro rfl ?_ | refine And.intro (incD (by omega)) ?_))) | exact weak_of rfl (by repeat ((conv => whnf); first | exact trivial | refine And.intro rfl ?_ | refine And.intro (incD (by omega)) ?_)) (by repeat ((conv => whnf); first | exact trivial | refine And.intro rfl ?_ | refine And.intro (incD (by omega)) ?_))
  refine wk_false rfl ?_
  refine wk_seq ⟨[(42, .d (.bool false)), (39, .d (.int .i64 7)), (1, .d (dI s)), (2, .own 0 0)], [(0, .blk 25 [.d (.int .i64 7), .d (.int .i64 n), .d (slD 16 ls.length (encS ls)), .d (slD 64 ks.length (encGs ks))])], 1⟩ (wk_vc txok mixed [] ?_) ?_
  · repeat' ((conv => whnf); first | (refine And.intro (fun hf => ?_) (fun hf => ?_) <;> first | exact Bool.noConfusion hf | skip))
    first | refine (weak_kbT 42 false (by exact rfl)).trans (weak_of rfl (by repeat ((conv => whnf); first | exact trivial | refine And.intro rfl ?_ | refine And.intro (incD (by omega)) ?_)) (by repeat ((conv => whnf); first | exact trivial | refine And.intro rfl ?_ | refine And.intro (incD (by omega)) ?_))) | exact weak_of rfl (by repeat ((conv => whnf); first | exact trivial | refine And.intro rfl ?_ | refine And.intro (incD (by omega)) ?_)) (by repeat ((conv => whnf); first | exact trivial | refine And.intro rfl ?_ | refine And.intro (incD (by omega)) ?_))
  refine wk_false rfl ?_
  refine wk_seq ⟨[(44, .d (.bool false)), (39, .d (.int .i64 7)), (1, .d (dI s)), (2, .own 0 0)], [(0, .blk 25 [.d (.int .i64 7), .d (.int .i64 n), .d (slD 16 ls.length (encS ls)), .d (slD 64 ks.length (encGs ks))])], 1⟩ (wk_vc txok mixed [] ?_) ?_
  · repeat' ((conv => whnf); first | (refine And.intro (fun hf => ?_) (fun hf => ?_) <;> first | exact Bool.noConfusion hf | skip))
    first | refine (weak_kbT 44 false (by exact rfl)).trans (weak_of rfl (by repeat ((conv => whnf); first | exact trivial | refine And.intro rfl ?_ | refine And.intro (incD (by omega)) ?_)) (by repeat ((conv => whnf); first | exact trivial | refine And.intro rfl ?_ | refine And.intro (incD (by omega)) ?_))) | exact weak_of rfl (by repeat ((conv => whnf); first | exact trivial | refine And.intro rfl ?_ | refine And.intro (incD (by omega)) ?_)) (by repeat ((conv => whnf); first | exact trivial | refine And.intro rfl ?_ | refine And.intro (incD (by omega)) ?_))
  refine wk_false rfl ?_
  refine wk_seq ⟨[(46, .d (.bool false)), (39, .d (.int .i64 7)), (1, .d (dI s)), (2, .own 0 0)], [(0, .blk 25 [.d (.int .i64 7), .d (.int .i64 n), .d (slD 16 ls.length (encS ls)), .d (slD 64 ks.length (encGs ks))])], 1⟩ (wk_vc txok mixed [] ?_) ?_
  · repeat' ((conv => whnf); first | (refine And.intro (fun hf => ?_) (fun hf => ?_) <;> first | exact Bool.noConfusion hf | skip))
    first | refine (weak_kbT 46 false (by exact rfl)).trans (weak_of rfl (by repeat ((conv => whnf); first | exact trivial | refine And.intro rfl ?_ | refine And.intro (incD (by omega)) ?_)) (by repeat ((conv => whnf); first | exact trivial | refine And.intro rfl ?_ | refine And.intro (incD (by omega)) ?_))) | exact weak_of rfl (by repeat ((conv => whnf); first | exact trivial | refine And.intro rfl ?_ | refine And.intro (incD (by omega)) ?_)) (by repeat ((conv => whnf); first | exact trivial | refine And.intro rfl ?_ | refine And.intro (incD (by omega)) ?_))
  refine wk_false rfl ?_
  refine wk_seq ⟨[(61, .d (.bool false)), (39, .d (.int .i64 7)), (1, .d (dI s)), (2, .own 0 0)], [(0, .blk 25 [.d (.int .i64 7), .d (.int .i64 n), .d (slD 16 ls.length (encS ls)), .d (slD 64 ks.length (encGs ks))])], 1⟩ (wk_vc txok mixed [] ?_) ?_
  · repeat' ((conv => whnf); first | (refine And.intro (fun hf => ?_) (fun hf => ?_) <;> first | exact Bool.noConfusion hf | skip))
    first | refine (weak_kbT 61 false (by exact rfl)).trans (weak_of rfl (by repeat ((conv => whnf); first | exact trivial | refine And.intro rfl ?_ | refine And.intro (incD (by omega)) ?_)) (by repeat ((conv => whnf); first | exact trivial | refine And.intro rfl ?_ | refine And.intro (incD (by omega)) ?_))) | exact weak_of rfl (by repeat ((conv => whnf); first | exact trivial | refine And.intro rfl ?_ | refine And.intro (incD (by omega)) ?_)) (by repeat ((conv => whnf); first | exact trivial | refine And.intro rfl ?_ | refine And.intro (incD (by omega)) ?_))
  refine wk_false rfl ?_
  refine wk_seq ⟨[(77, .d (.bool false)), (39, .d (.int .i64 7)), (1, .d (dI s)), (2, .own 0 0)], [(0, .blk 25 [.d (.int .i64 7), .d (.int .i64 n), .d (slD 16 ls.length (encS ls)), .d (slD 64 ks.length (encGs ks))])], 1⟩ (wk_vc txok mixed [] ?_) ?_
  · repeat' ((conv => whnf); first | (refine And.intro (fun hf => ?_) (fun hf => ?_) <;> first | exact Bool.noConfusion hf | skip))
    first | refine (weak_kbT 77 false (by exact rfl)).trans (weak_of rfl (by repeat ((conv => whnf); first | exact trivial | refine And.intro rfl ?_ | refine And.intro (incD (by omega)) ?_)) (by repeat ((conv => whnf); first | exact trivial | refine And.intro rfl ?_ | refine And.intro (incD (by omega)) ?_))) | exact weak_of rfl (by repeat ((conv => whnf); first | exact trivial | refine And.intro rfl ?_ | refine And.intro (incD (by omega)) ?_)) (by repeat ((conv => whnf); first | exact trivial | refine And.intro rfl ?_ | refine And.intro (incD (by omega)) ?_))
  refine wk_false rfl ?_
  refine wk_seq ⟨[(95, .d (.bool true)), (39, .d (.int .i64 7)), (1, .d (dI s)), (2, .own 0 0)], [(0, .blk 25 [.d (.int .i64 7), .d (.int .i64 n), .d (slD 16 ls.length (encS ls)), .d (slD 64 ks.length (encGs ks))])], 1⟩ (wk_vc txok mixed [] ?_) ?_
  · repeat' ((conv => whnf); first | (refine And.intro (fun hf => ?_) (fun hf => ?_) <;> first | exact Bool.noConfusion hf | skip))
    first | refine (weak_kbT 95 true (by exact rfl)).trans (weak_of rfl (by repeat ((conv => whnf); first | exact trivial | refine And.intro rfl ?_ | refine And.intro (incD (by omega)) ?_)) (by repeat ((conv => whnf); first | exact trivial | refine And.intro rfl ?_ | refine And.intro (incD (by omega)) ?_))) | exact weak_of rfl (by repeat ((conv => whnf); first | exact trivial | refine And.intro rfl ?_ | refine And.intro (incD (by omega)) ?_)) (by repeat ((conv => whnf); first | exact trivial | refine And.intro rfl ?_ | refine And.intro (incD (by omega)) ?_))
  refine wk_true rfl ?_
  refine wk_vc txok mixed [] ?_
  conv => whnf
  refine callF hL gf63 rfl rfl ?_
  conv => whnf
  try exact rfl
set_option maxRecDepth 20000 in
theorem textR8 (n : Int) (ls : List ByteArray) (ks : List TG) (hp : ∀ t ∈ ks, PartOk t) (hi : ∀ t ∈ ks, i64G t) (s : List Int) (hs : s.length + szs szB ks + szs ByteArray.size ls < 1099511627775) : FnR Tryz.prog G0 31 [dG (.mk 8 n ls ks), dI s] (.str (bs ([91] ++ (itemsTo false ls (txs ks s) (txs ks s).length ++ [93])))) := by
  have hL := listR8 n ls ks hp hi s hs
  generalize itemsTo false ls (txs ks s) (txs ks s).length = x at *
  refine fnQ_of_wk (N := 124) txok mixed Tryz.func31 rfl rfl (by simp) fun b => ?_
  refine wk_seq ⟨[(1, .d (dI s)), (2, .own 0 0)], [(0, .blk 25 [.d (.int .i64 8), .d (.int .i64 n), .d (slD 16 ls.length (encS ls)), .d (slD 64 ks.length (encGs ks))])], 1⟩ (wk_vc txok mixed [] ?_) ?_
  · repeat' ((conv => whnf); first | (refine And.intro (fun hf => ?_) (fun hf => ?_) <;> first | exact Bool.noConfusion hf | skip))
    exact weak_of rfl (by repeat ((conv => whnf); first | exact trivial | refine And.intro rfl ?_ | refine And.intro (incD (by omega)) ?_)) (by repeat ((conv => whnf); first | exact trivial | refine And.intro rfl ?_ | refine And.intro (incD (by omega)) ?_))
  refine wk_seq ⟨[(5, .d (.int .i64 (-1))), (1, .d (dI s)), (2, .own 0 0)], [(0, .blk 25 [.d (.int .i64 8), .d (.int .i64 n), .d (slD 16 ls.length (encS ls)), .d (slD 64 ks.length (encGs ks))])], 1⟩ (wk_vc txok mixed [] ?_) ?_
  · conv => whnf
    refine callF (kidsR_fn 8) gf44 rfl rfl ?_
    conv => whnf
    exact weak_of rfl (by repeat ((conv => whnf); first | exact trivial | refine And.intro rfl ?_ | refine And.intro (incD (by omega)) ?_)) (by repeat ((conv => whnf); first | exact trivial | refine And.intro rfl ?_ | refine And.intro (incD (by omega)) ?_))
  refine wk_seq ⟨[(1, .d (dI s)), (2, .own 0 0)], [(0, .blk 25 [.d (.int .i64 8), .d (.int .i64 n), .d (slD 16 ls.length (encS ls)), .d (slD 64 ks.length (encGs ks))])], 1⟩ (wk_vc txok mixed [] ?_) ?_
  · repeat' ((conv => whnf); first | (refine And.intro (fun hf => ?_) (fun hf => ?_) <;> first | exact Bool.noConfusion hf | skip))
    exact weak_of rfl (by repeat ((conv => whnf); first | exact trivial | refine And.intro rfl ?_ | refine And.intro (incD (by omega)) ?_)) (by repeat ((conv => whnf); first | exact trivial | refine And.intro rfl ?_ | refine And.intro (incD (by omega)) ?_))
  refine wk_seqR ?_
  refine wk_seq ⟨[(39, .d (.int .i64 8)), (1, .d (dI s)), (2, .own 0 0)], [(0, .blk 25 [.d (.int .i64 8), .d (.int .i64 n), .d (slD 16 ls.length (encS ls)), .d (slD 64 ks.length (encGs ks))])], 1⟩ (wk_vc txok mixed [] ?_) ?_
  · repeat' ((conv => whnf); first | (refine And.intro (fun hf => ?_) (fun hf => ?_) <;> first | exact Bool.noConfusion hf | skip))
    exact weak_of rfl (by repeat ((conv => whnf); first | exact trivial | refine And.intro rfl ?_ | refine And.intro (incD (by omega)) ?_)) (by repeat ((conv => whnf); first | exact trivial | refine And.intro rfl ?_ | refine And.intro (incD (by omega)) ?_))
  refine wk_block (fun j s h => h) ?_
  refine wk_seq ⟨[(40, .d (.bool false)), (39, .d (.int .i64 8)), (1, .d (dI s)), (2, .own 0 0)], [(0, .blk 25 [.d (.int .i64 8), .d (.int .i64 n), .d (slD 16 ls.length (encS ls)), .d (slD 64 ks.length (encGs ks))])], 1⟩ (wk_vc txok mixed [] ?_) ?_
  · repeat' ((conv => whnf); first | (refine And.intro (fun hf => ?_) (fun hf => ?_) <;> first | exact Bool.noConfusion hf | skip))
    first | refine (weak_kbT 40 false (by exact rfl)).trans (weak_of rfl (by repeat ((conv => whnf); first | exact trivial | refine And.intro rfl ?_ | refine And.intro (incD (by omega)) ?_)) (by repeat ((conv => whnf); first | exact trivial | refine And.intro rfl ?_ | refine And.intro (incD (by omega)) ?_))) | exact weak_of rfl (by repeat ((conv => whnf); first | exact trivial | refine And.intro rfl ?_ | refine And.intro (incD (by omega)) ?_)) (by repeat ((conv => whnf); first | exact trivial | refine And.intro rfl ?_ | refine And.intro (incD (by omega)) ?_))
  refine wk_false rfl ?_
  refine wk_seq ⟨[(42, .d (.bool false)), (39, .d (.int .i64 8)), (1, .d (dI s)), (2, .own 0 0)], [(0, .blk 25 [.d (.int .i64 8), .d (.int .i64 n), .d (slD 16 ls.length (encS ls)), .d (slD 64 ks.length (encGs ks))])], 1⟩ (wk_vc txok mixed [] ?_) ?_
  · repeat' ((conv => whnf); first | (refine And.intro (fun hf => ?_) (fun hf => ?_) <;> first | exact Bool.noConfusion hf | skip))
    first | refine (weak_kbT 42 false (by exact rfl)).trans (weak_of rfl (by repeat ((conv => whnf); first | exact trivial | refine And.intro rfl ?_ | refine And.intro (incD (by omega)) ?_)) (by repeat ((conv => whnf); first | exact trivial | refine And.intro rfl ?_ | refine And.intro (incD (by omega)) ?_))) | exact weak_of rfl (by repeat ((conv => whnf); first | exact trivial | refine And.intro rfl ?_ | refine And.intro (incD (by omega)) ?_)) (by repeat ((conv => whnf); first | exact trivial | refine And.intro rfl ?_ | refine And.intro (incD (by omega)) ?_))
  refine wk_false rfl ?_
  refine wk_seq ⟨[(44, .d (.bool false)), (39, .d (.int .i64 8)), (1, .d (dI s)), (2, .own 0 0)], [(0, .blk 25 [.d (.int .i64 8), .d (.int .i64 n), .d (slD 16 ls.length (encS ls)), .d (slD 64 ks.length (encGs ks))])], 1⟩ (wk_vc txok mixed [] ?_) ?_
  · repeat' ((conv => whnf); first | (refine And.intro (fun hf => ?_) (fun hf => ?_) <;> first | exact Bool.noConfusion hf | skip))
    first | refine (weak_kbT 44 false (by exact rfl)).trans (weak_of rfl (by repeat ((conv => whnf); first | exact trivial | refine And.intro rfl ?_ | refine And.intro (incD (by omega)) ?_)) (by repeat ((conv => whnf); first | exact trivial | refine And.intro rfl ?_ | refine And.intro (incD (by omega)) ?_))) | exact weak_of rfl (by repeat ((conv => whnf); first | exact trivial | refine And.intro rfl ?_ | refine And.intro (incD (by omega)) ?_)) (by repeat ((conv => whnf); first | exact trivial | refine And.intro rfl ?_ | refine And.intro (incD (by omega)) ?_))
  refine wk_false rfl ?_
  refine wk_seq ⟨[(46, .d (.bool false)), (39, .d (.int .i64 8)), (1, .d (dI s)), (2, .own 0 0)], [(0, .blk 25 [.d (.int .i64 8), .d (.int .i64 n), .d (slD 16 ls.length (encS ls)), .d (slD 64 ks.length (encGs ks))])], 1⟩ (wk_vc txok mixed [] ?_) ?_
  · repeat' ((conv => whnf); first | (refine And.intro (fun hf => ?_) (fun hf => ?_) <;> first | exact Bool.noConfusion hf | skip))
    first | refine (weak_kbT 46 false (by exact rfl)).trans (weak_of rfl (by repeat ((conv => whnf); first | exact trivial | refine And.intro rfl ?_ | refine And.intro (incD (by omega)) ?_)) (by repeat ((conv => whnf); first | exact trivial | refine And.intro rfl ?_ | refine And.intro (incD (by omega)) ?_))) | exact weak_of rfl (by repeat ((conv => whnf); first | exact trivial | refine And.intro rfl ?_ | refine And.intro (incD (by omega)) ?_)) (by repeat ((conv => whnf); first | exact trivial | refine And.intro rfl ?_ | refine And.intro (incD (by omega)) ?_))
  refine wk_false rfl ?_
  refine wk_seq ⟨[(61, .d (.bool false)), (39, .d (.int .i64 8)), (1, .d (dI s)), (2, .own 0 0)], [(0, .blk 25 [.d (.int .i64 8), .d (.int .i64 n), .d (slD 16 ls.length (encS ls)), .d (slD 64 ks.length (encGs ks))])], 1⟩ (wk_vc txok mixed [] ?_) ?_
  · repeat' ((conv => whnf); first | (refine And.intro (fun hf => ?_) (fun hf => ?_) <;> first | exact Bool.noConfusion hf | skip))
    first | refine (weak_kbT 61 false (by exact rfl)).trans (weak_of rfl (by repeat ((conv => whnf); first | exact trivial | refine And.intro rfl ?_ | refine And.intro (incD (by omega)) ?_)) (by repeat ((conv => whnf); first | exact trivial | refine And.intro rfl ?_ | refine And.intro (incD (by omega)) ?_))) | exact weak_of rfl (by repeat ((conv => whnf); first | exact trivial | refine And.intro rfl ?_ | refine And.intro (incD (by omega)) ?_)) (by repeat ((conv => whnf); first | exact trivial | refine And.intro rfl ?_ | refine And.intro (incD (by omega)) ?_))
  refine wk_false rfl ?_
  refine wk_seq ⟨[(77, .d (.bool false)), (39, .d (.int .i64 8)), (1, .d (dI s)), (2, .own 0 0)], [(0, .blk 25 [.d (.int .i64 8), .d (.int .i64 n), .d (slD 16 ls.length (encS ls)), .d (slD 64 ks.length (encGs ks))])], 1⟩ (wk_vc txok mixed [] ?_) ?_
  · repeat' ((conv => whnf); first | (refine And.intro (fun hf => ?_) (fun hf => ?_) <;> first | exact Bool.noConfusion hf | skip))
    first | refine (weak_kbT 77 false (by exact rfl)).trans (weak_of rfl (by repeat ((conv => whnf); first | exact trivial | refine And.intro rfl ?_ | refine And.intro (incD (by omega)) ?_)) (by repeat ((conv => whnf); first | exact trivial | refine And.intro rfl ?_ | refine And.intro (incD (by omega)) ?_))) | exact weak_of rfl (by repeat ((conv => whnf); first | exact trivial | refine And.intro rfl ?_ | refine And.intro (incD (by omega)) ?_)) (by repeat ((conv => whnf); first | exact trivial | refine And.intro rfl ?_ | refine And.intro (incD (by omega)) ?_))
  refine wk_false rfl ?_
  refine wk_seq ⟨[(95, .d (.bool true)), (39, .d (.int .i64 8)), (1, .d (dI s)), (2, .own 0 0)], [(0, .blk 25 [.d (.int .i64 8), .d (.int .i64 n), .d (slD 16 ls.length (encS ls)), .d (slD 64 ks.length (encGs ks))])], 1⟩ (wk_vc txok mixed [] ?_) ?_
  · repeat' ((conv => whnf); first | (refine And.intro (fun hf => ?_) (fun hf => ?_) <;> first | exact Bool.noConfusion hf | skip))
    first | refine (weak_kbT 95 true (by exact rfl)).trans (weak_of rfl (by repeat ((conv => whnf); first | exact trivial | refine And.intro rfl ?_ | refine And.intro (incD (by omega)) ?_)) (by repeat ((conv => whnf); first | exact trivial | refine And.intro rfl ?_ | refine And.intro (incD (by omega)) ?_))) | exact weak_of rfl (by repeat ((conv => whnf); first | exact trivial | refine And.intro rfl ?_ | refine And.intro (incD (by omega)) ?_)) (by repeat ((conv => whnf); first | exact trivial | refine And.intro rfl ?_ | refine And.intro (incD (by omega)) ?_))
  refine wk_true rfl ?_
  refine wk_vc txok mixed [] ?_
  conv => whnf
  refine callF hL gf63 rfl rfl ?_
  conv => whnf
  try exact rfl
theorem text_ok : ∀ t : TG, i64G t → TextOk t := by
  refine TG.ind fun k n ls ks ih hi s h1 => ?_
  rw [i64G, i64Gs_iff] at hi
  obtain ⟨_, hn, hik⟩ := hi
  rw [szB, szBs_eq] at h1
  rw [txG]
  have hty : ∀ t ∈ ks, TextOk t := fun t ht => ih t ht (hik t ht)
  have hin : ∀ t ∈ ks, PartOk t := fun t ht => part_ok t (hik t ht) (hty t ht)
  clear ih
  by_cases hb : badN k ls.length ks.length = true
  · rw [txN_bad (by rw [txs_len]; exact hb)]
    exact textR_bad k n ls ks hb s
  have hb : badN k ls.length ks.length = false := by simpa using hb
  have hN : badN k ls.length (txs ks (if bndG k = true then s ++ [n] else s)).length = false := by rw [txs_len]; exact hb
  have hk' : k = 1 ∨ k = 2 ∨ k = 3 ∨ k = 4 ∨ k = 5 ∨ k = 6 ∨ k = 7 ∨ k = 8 ∨ k = 9 ∨ k = 10 ∨ k = 11 := by
    by_cases hk : k < 1 ∨ 11 < k
    · exfalso
      have : kidN k = -2 := by unfold kidN; rw [if_neg (by omega), if_neg (by omega), if_neg (by omega), if_neg (by omega)]
      unfold badN at hb
      rw [this] at hb
      exact absurd hb (by simp)
    · omega
  rcases hk' with rfl | rfl | rfl | rfl | rfl | rfl | rfl | rfl | rfl | rfl | rfl
  · have := len0 (l := ks) (by have h3 := good_kid hb (by decide); rw [show kidN 1 = 0 from by decide] at h3; omega)
    subst this
    unfold txN
    rw [if_neg (by rw [hN]; decide)]
    exact textR1 n ls s
  · have := len0 (l := ks) (by have h3 := good_kid hb (by decide); rw [show kidN 2 = 0 from by decide] at h3; omega)
    subst this
    unfold txN
    rw [if_neg (by rw [hN]; decide)]
    exact textR2 n ls s
  · have := len0 (l := ks) (by have h3 := good_kid hb (by decide); rw [show kidN 3 = 0 from by decide] at h3; omega)
    subst this
    unfold txN
    rw [if_neg (by rw [hN]; decide)]
    exact textR3 n ls s
  · obtain ⟨u, v, rfl⟩ := len2 (l := ks) (by have h3 := good_kid hb (by decide); rw [show kidN 4 = 2 from by decide] at h3; omega)
    simp only [szs, List.map_cons, List.map_nil, List.sum_cons, List.sum_nil] at h1
    have hlu := txG_len u (hik u (by simp)) s (by omega)
    have hlv := txG_len v (hik v (by simp)) s (by omega)
    have hpu := parW_len (u.k, txG u s)
    have hpv := parW_len (v.k, txG v s)
    simp only at hpu hpv
    unfold txN
    rw [if_neg (by rw [hN]; decide)]
    exact textR4 n ls u v (hin u (by simp)) (hty v (by simp)) s (by omega) (by omega) (by omega)
  · obtain ⟨u, v, rfl⟩ := len2 (l := ks) (by have h3 := good_kid hb (by decide); rw [show kidN 5 = 2 from by decide] at h3; omega)
    simp only [szs, List.map_cons, List.map_nil, List.sum_cons, List.sum_nil] at h1
    have hlu := txG_len u (hik u (by simp)) s (by omega)
    have hlv := txG_len v (hik v (by simp)) s (by omega)
    have hpu := parW_len (u.k, txG u s)
    have hpv := parW_len (v.k, txG v s)
    simp only at hpu hpv
    unfold txN
    rw [if_neg (by rw [hN]; decide)]
    exact textR5 n ls u v (hin u (by simp)) (hin v (by simp)) s (by omega) (by omega) (by omega)
  · have := len0 (l := ks) (by have h3 := good_kid hb (by decide); rw [show kidN 6 = 0 from by decide] at h3; omega)
    subst this
    unfold txN
    rw [if_neg (by rw [hN]; decide)]
    exact textR6 n hn ls s (by omega)
  · unfold txN
    rw [if_neg (by rw [hN]; decide)]
    exact textR7 n ls ks hin hik (good_rec hb) s (by omega)
  · unfold txN
    rw [if_neg (by rw [hN]; decide)]
    exact textR8 n ls ks hin hik s (by omega)
  · obtain ⟨u, rfl⟩ := len1 (l := ks) (by have h3 := good_kid hb (by decide); rw [show kidN 9 = 1 from by decide] at h3; omega)
    simp only [szs, List.map_cons, List.map_nil, List.sum_cons, List.sum_nil] at h1
    have hlu := txG_len u (hik u (by simp)) (s ++ [n]) (by simp only [List.length_append, List.length_cons, List.length_nil]; omega)
    unfold txN
    rw [if_neg (by rw [hN]; decide)]
    exact textR9 n ls u (hty u (by simp)) s (by omega) (by omega)
  · obtain ⟨u, rfl⟩ := len1 (l := ks) (by have h3 := good_kid hb (by decide); rw [show kidN 10 = 1 from by decide] at h3; omega)
    simp only [szs, List.map_cons, List.map_nil, List.sum_cons, List.sum_nil] at h1
    have hlu := txG_len u (hik u (by simp)) (s ++ [n]) (by simp only [List.length_append, List.length_cons, List.length_nil]; omega)
    unfold txN
    rw [if_neg (by rw [hN]; decide)]
    exact textR10 n ls u (hty u (by simp)) s (by omega) (by omega)
  · obtain ⟨u, rfl⟩ := len1 (l := ks) (by have h3 := good_kid hb (by decide); rw [show kidN 11 = 1 from by decide] at h3; omega)
    simp only [szs, List.map_cons, List.map_nil, List.sum_cons, List.sum_nil] at h1
    have hlu := txG_len u (hik u (by simp)) (s ++ [n]) (by simp only [List.length_append, List.length_cons, List.length_nil]; omega)
    unfold txN
    rw [if_neg (by rw [hN]; decide)]
    exact textR11 n ls u (hty u (by simp)) s (by omega) (by omega)
theorem rtext_fn (t : TG) (hi : i64G t) (hz : szB t < 10995116000) : FnR Tryz.prog G0 13 [dG t] (.str (bs (txG t []))) := by
  have h := text_ok t hi [] (by simp only [List.length_nil]; omega)
  refine fnQ_of_vc txok mixed [] Tryz.func13 rfl rfl (by simp) fun b => ?_
  conv => whnf
  refine callF h gf31 rfl rfl ?_
  conv => whnf
  try exact rfl
end Go.Proofs.YtohmeplcjgmedaaGreatDoor

/- The reference: what stands free; sizes. -/
set_option linter.unusedSimpArgs false
set_option linter.unusedVariables false
namespace Go.Proofs.YtohmeplcjgmedaaGreatDoor
open Go.Vx Go.Vc Go.RowKit Go.Lib

theorem putL_app : ∀ (l m acc : List Int), putL acc (l ++ m) = putL (putL acc l) m
  | [], m, acc => by simp [putL]
  | f :: r, m, acc => by rw [List.cons_append, putL, putL, putL_app r m]
theorem putL_len : ∀ (l acc : List Int), (putL acc l).length ≤ acc.length + l.length
  | [], acc => by simp [putL]
  | f :: r, acc => by
    rw [putL]
    have := putL_len r (put1 acc f)
    have := put1_len acc f
    simp only [List.length_cons]; omega
theorem free_fn : ∀ (t : TG) (s got : List Int), s.length + szG t < 1099511627776 → got.length + szG t < 1099511627776 → FnR Tryz.prog G0 27 [dG t, dI s, dI got] (dI (putL got (frG t s))) := by
  refine TG.ind fun k n ls ks ih s got hss hacc => ?_
  refine fnQ_sz fun hs => ?_
  have hl := (szOk_G (t := .mk k n ls ks) hs.1).1
  simp only [g_kids, LB] at hl
  have hsz : szG (.mk k n ls ks) = szGs ks + 1 := by simp only [szG]
  rw [hsz] at hss hacc
  rw [frG_mk, putL_app]
  generalize he : (if k = 6 ∧ lastI s n < 0 then [n] else [] : List Int) = e0
  have he0 : e0.length ≤ 1 := by rw [← he]; split <;> simp
  have hg1 := putL_len e0 got
  refine fnQ_of_wk (N := 45) txok mixed Tryz.func27 rfl rfl (by simp) fun b => ?_
  refine wk_seq ⟨[(1, .d (dI s)), (2, .d (dI got)), (3, .own 0 0)], [(0, .blk 25 [.d (.int .i64 k), .d (.int .i64 n), .d (dL ls), .d (dGs ks)])], 1⟩ (wk_vc txok mixed [] ?_) ?_
  · conv => whnf
    exact weak_of rfl (by repeat ((conv => whnf); first | exact trivial | refine And.intro rfl ?_ | refine And.intro (incD (by omega)) ?_)) (by repeat ((conv => whnf); first | exact trivial | refine And.intro rfl ?_ | refine And.intro (incD (by omega)) ?_))
  refine wk_seq ⟨[(1, .d (dI s)), (2, .d (dI (putL got e0))), (3, .own 0 0)], [(0, .blk 25 [.d (.int .i64 k), .d (.int .i64 n), .d (dL ls), .d (dGs ks)])], 1⟩ (wk_vc txok mixed [] ?_) ?_
  · conv => whnf
    refine And.intro (fun h1 => ?_) (fun h1 => ?_)
    · have h1 : k = 6 := eq_of_beq h1
      conv => whnf
      refine callF (level_fn s n (by omega)) gf52 rfl rfl ?_
      conv => whnf
      refine And.intro (fun h2 => ?_) (fun h2 => ?_)
      · have h2 := of_decide_eq_true h2
        rw [if_pos ⟨h1, h2⟩] at he
        subst he
        conv => whnf
        refine callF (put1_fn got n (by omega)) gf53 rfl rfl ?_
        conv => whnf
        exact weak_of rfl (by repeat ((conv => whnf); first | exact trivial | refine And.intro rfl ?_ | refine And.intro (incD (by omega)) ?_)) (by repeat ((conv => whnf); first | exact trivial | refine And.intro rfl ?_ | refine And.intro (incD (by omega)) ?_))
      · have h2 := of_decide_eq_false h2
        rw [if_neg (fun h => h2 h.2)] at he
        subst he
        conv => whnf
        exact weak_of rfl (by repeat ((conv => whnf); first | exact trivial | refine And.intro rfl ?_ | refine And.intro (incD (by omega)) ?_)) (by repeat ((conv => whnf); first | exact trivial | refine And.intro rfl ?_ | refine And.intro (incD (by omega)) ?_))
    · have h1 : k ≠ 6 := ne_of_beq_false h1
      rw [if_neg (fun h => h1 h.1)] at he
      subst he
      conv => whnf
      exact weak_of rfl (by repeat ((conv => whnf); first | exact trivial | refine And.intro rfl ?_ | refine And.intro (incD (by omega)) ?_)) (by repeat ((conv => whnf); first | exact trivial | refine And.intro rfl ?_ | refine And.intro (incD (by omega)) ?_))
  generalize putL got e0 = g1 at *
  generalize hs' : (if bndG k = true then s ++ [n] else s) = s'
  have hsl : s'.length ≤ s.length + 1 := by rw [← hs']; split <;> simp
  refine wk_seq ⟨[(1, .d (dI s')), (2, .d (dI g1)), (3, .own 0 0)], [(0, .blk 25 [.d (.int .i64 k), .d (.int .i64 n), .d (dL ls), .d (dGs ks)])], 1⟩ (wk_vc txok mixed [] ?_) ?_
  · conv => whnf
    refine callF (bindsR_fn k) gf45 rfl rfl ?_
    conv => whnf
    refine And.intro (fun h5 => ?_) (fun h5 => ?_)
    · rw [if_pos h5] at hs'
      subst hs'
      conv => whnf
      refine callF (rwith_fn s n (by omega)) gf54 rfl rfl ?_
      conv => whnf
      exact weak_of rfl (by repeat ((conv => whnf); first | exact trivial | refine And.intro rfl ?_ | refine And.intro (incD (by omega)) ?_)) (by repeat ((conv => whnf); first | exact trivial | refine And.intro rfl ?_ | refine And.intro (incD (by omega)) ?_))
    · rw [if_neg (by rw [h5]; decide)] at hs'
      subst hs'
      conv => whnf
      exact weak_of rfl (by repeat ((conv => whnf); first | exact trivial | refine And.intro rfl ?_ | refine And.intro (incD (by omega)) ?_)) (by repeat ((conv => whnf); first | exact trivial | refine And.intro rfl ?_ | refine And.intro (incD (by omega)) ?_))
  refine wk_vc txok mixed [] ?_
  conv => whnf
  refine loopH (fun i : Nat => i ≤ ks.length) (fun i => ks.length - i) (fun i => [(7, .d (.int .i64 i)), (2, .d (dI (putL g1 (frGs (ks.take i) s'))))]) (fun i => [(0, .blk 25 [.d (.int .i64 k), .d (.int .i64 n), .d (dL ls), .d (dGs ks)])]) 1 0 (by omega) ?_ ?_
  · rw [show putL g1 (frGs (ks.take 0) s') = g1 from by simp [frGs, putL]]
    exact weak_of rfl (by repeat ((conv => whnf); first | exact trivial | refine And.intro rfl ?_ | refine And.intro (incD (by omega)) ?_)) (by repeat ((conv => whnf); first | exact trivial | refine And.intro rfl ?_ | refine And.intro (incD (by omega)) ?_))
  intro i hi
  conv => whnf
  refine And.intro (fun hb => ?_) (fun hb => ?_)
  · have hil : i < ks.length := by have := of_decide_eq_true hb; omega
    have hmem := szG_mem (List.getElem_mem hil)
    have hlen := frGs_len (ks.take i) s'
    have hpl := putL_len (frGs (ks.take i) s') g1
    have htk := szGs_take hil
    have htl := szGs_le ks (i + 1)
    have hN := ih ks[i] (by simp) s' (putL g1 (frGs (ks.take i) s')) (by omega) (by omega)
    rw [← putL_app, ← frGs_take hil] at hN
    conv => whnf
    refine IdxC.encGs i hil rfl ?_
    conv => whnf
    refine callF hN gf27 rfl rfl ?_
    conv => whnf
    rw [incD (by omega)]
    exact again (i + 1) (by omega) (by omega) (weak_of rfl (by repeat ((conv => whnf); first | exact trivial | refine And.intro rfl ?_ | refine And.intro (incD (by omega)) ?_)) (by repeat ((conv => whnf); first | exact trivial | refine And.intro rfl ?_ | refine And.intro (incD (by omega)) ?_)))
  · have hil : i = ks.length := by have := of_decide_eq_false hb; omega
    subst hil
    rw [List.take_length]
    conv => whnf
    try exact rfl
theorem freeTypes_eq (t : TG) : putL [] (frG t []) = freeS t := by
  obtain ⟨h1, h2, _⟩ := putL_facts (frG t []) [] List.Pairwise.nil
  refine asc_ext _ _ h1 (freeS_asc t) fun z => ?_
  rw [h2 z, mem_freeS]
  simp
theorem rfreeTypes_fn (t : TG) (hz : szG t < 1099511627776) : FnR Tryz.prog G0 9 [dG t] (dI (freeS t)) := by
  have h := free_fn t [] [] (by simpa using hz) (by simpa using hz)
  rw [freeTypes_eq] at h
  refine fnQ_of_vc txok mixed [] Tryz.func9 rfl rfl (by simp) fun b => ?_
  conv => whnf
  refine callF h gf27 rfl rfl ?_
  conv => whnf
  try exact rfl
end Go.Proofs.YtohmeplcjgmedaaGreatDoor

/- The reference: sizes; which types are right. -/
set_option linter.unusedSimpArgs false
set_option linter.unusedVariables false
namespace Go.Proofs.YtohmeplcjgmedaaGreatDoor
open Go.Vx Go.Vc Go.RowKit Go.Lib

def cutN (most : Int) (x : Nat) : Int := if (x : Int) ≤ most then x else most + 1
theorem sizeG_pos {t : TG} {most : Int} (h : 0 ≤ most) : sizeG t most = cutN most (szG t) := by unfold sizeG cutN; rw [if_neg (by omega)]
theorem rsize_fn : ∀ (t : TG) (most : Int), szG t < 4611686018427387904 → -9223372036854775808 ≤ most → most < 9223372036854775808 → FnR Tryz.prog G0 11 [dG t, .int .i64 most] (.int .i64 (sizeG t most)) := by
  refine TG.ind fun k n ls ks ih most hz hm0 hm => ?_
  refine fnQ_sz fun hs => ?_
  have hl := (szOk_G (t := .mk k n ls ks) hs.1).1
  simp only [g_kids, LB] at hl
  have hsz : szG (.mk k n ls ks) = szGs ks + 1 := by simp only [szG]
  by_cases hneg : most < 0
  · have e : sizeG (.mk k n ls ks) most = 0 := by unfold sizeG; rw [if_pos hneg]
    rw [e]
    refine fnQ_of_wk (N := 38) txok mixed Tryz.func11 rfl rfl (by simp) fun b => ?_
    refine wk_seq ⟨[(1, .d (.int .i64 most)), (2, .own 0 0)], [(0, .blk 25 [.d (.int .i64 k), .d (.int .i64 n), .d (dL ls), .d (dGs ks)])], 1⟩ (wk_vc txok mixed [] ?_) ?_
    · conv => whnf
      exact weak_of rfl (by repeat ((conv => whnf); first | exact trivial | refine And.intro rfl ?_ | refine And.intro (incD (by omega)) ?_)) (by repeat ((conv => whnf); first | exact trivial | refine And.intro rfl ?_ | refine And.intro (incD (by omega)) ?_))
    refine wk_seqR (wk_vc txok mixed [] ?_)
    conv => whnf
    refine And.intro (fun h => ?_) (fun h => absurd hneg (of_decide_eq_false h))
    conv => whnf
    try exact rfl
  · rw [sizeG_pos (by omega), hsz]
    rw [hsz] at hz
    refine fnQ_of_wk (N := 38) txok mixed Tryz.func11 rfl rfl (by simp) fun b => ?_
    refine wk_seq ⟨[(1, .d (.int .i64 most)), (2, .own 0 0)], [(0, .blk 25 [.d (.int .i64 k), .d (.int .i64 n), .d (dL ls), .d (dGs ks)])], 1⟩ (wk_vc txok mixed [] ?_) ?_
    · conv => whnf
      exact weak_of rfl (by repeat ((conv => whnf); first | exact trivial | refine And.intro rfl ?_ | refine And.intro (incD (by omega)) ?_)) (by repeat ((conv => whnf); first | exact trivial | refine And.intro rfl ?_ | refine And.intro (incD (by omega)) ?_))
    refine wk_seq ⟨[(1, .d (.int .i64 most)), (2, .own 0 0)], [(0, .blk 25 [.d (.int .i64 k), .d (.int .i64 n), .d (dL ls), .d (dGs ks)])], 1⟩ (wk_vc txok mixed [] ?_) ?_
    · conv => whnf
      refine And.intro (fun h => absurd (of_decide_eq_true h) hneg) (fun h => ?_)
      conv => whnf
      exact weak_of rfl (by repeat ((conv => whnf); first | exact trivial | refine And.intro rfl ?_ | refine And.intro (incD (by omega)) ?_)) (by repeat ((conv => whnf); first | exact trivial | refine And.intro rfl ?_ | refine And.intro (incD (by omega)) ?_))
    refine wk_seq ⟨[(5, .d (.int .i64 1)), (1, .d (.int .i64 most)), (2, .own 0 0)], [(0, .blk 25 [.d (.int .i64 k), .d (.int .i64 n), .d (dL ls), .d (dGs ks)])], 1⟩ (wk_vc txok mixed [] ?_) ?_
    · conv => whnf
      exact weak_of rfl (by repeat ((conv => whnf); first | exact trivial | refine And.intro rfl ?_ | refine And.intro (incD (by omega)) ?_)) (by repeat ((conv => whnf); first | exact trivial | refine And.intro rfl ?_ | refine And.intro (incD (by omega)) ?_))
    refine wk_seq ⟨[(5, .d (.int .i64 (cutN most (szGs ks + 1)))), (1, .d (.int .i64 most)), (2, .own 0 0)], [(0, .blk 25 [.d (.int .i64 k), .d (.int .i64 n), .d (dL ls), .d (dGs ks)])], 1⟩ (wk_vc txok mixed [] ?_) ?_
    · conv => whnf
      refine loopH (fun i : Nat => i ≤ ks.length) (fun i => ks.length - i) (fun i => [(6, .d (.int .i64 i)), (5, .d (.int .i64 (cutN most (szGs (ks.take i) + 1))))]) (fun i => [(0, .blk 25 [.d (.int .i64 k), .d (.int .i64 n), .d (dL ls), .d (dGs ks)])]) 1 0 (by omega) ?_ ?_
      · have e : cutN most (szGs (ks.take 0) + 1) = 1 := by
          simp only [List.take_zero, szGs, cutN]
          split <;> omega
        rw [e]
        exact weak_of rfl (by repeat ((conv => whnf); first | exact trivial | refine And.intro rfl ?_ | refine And.intro (incD (by omega)) ?_)) (by repeat ((conv => whnf); first | exact trivial | refine And.intro rfl ?_ | refine And.intro (incD (by omega)) ?_))
      intro i hi
      have htl := szGs_le ks i
      have hgo : cutN most (szGs (ks.take i) + 1) = (if ((szGs (ks.take i) + 1 : Nat) : Int) ≤ most then ((szGs (ks.take i) + 1 : Nat) : Int) else most + 1) := rfl
      by_cases ha : ((szGs (ks.take i) + 1 : Nat) : Int) ≤ most
      · rw [if_pos ha] at hgo
        rw [hgo]
        conv => whnf
        refine And.intro (fun hb => ?_) (fun hb => ?_)
        · have hil : i < ks.length := by have := of_decide_eq_true hb; omega
          have hmem := szG_mem (List.getElem_mem hil)
          have htk := szGs_take hil
          have htl2 := szGs_le ks (i + 1)
          have hN := ih ks[i] (by simp) (most - ((szGs (ks.take i) + 1 : Nat) : Int)) (by omega) (by omega) (by omega)
          rw [sizeG_pos (by omega)] at hN
          have e1 : IntKind.i64.wrap (most - ((szGs (ks.take i) + 1 : Nat) : Int)) = most - ((szGs (ks.take i) + 1 : Nat) : Int) := Go.Vc.wrap_small (by omega) (by omega)
          have e2 : IntKind.i64.wrap (((szGs (ks.take i) + 1 : Nat) : Int) + cutN (most - ((szGs (ks.take i) + 1 : Nat) : Int)) (szG ks[i])) = cutN most (szGs (ks.take (i + 1)) + 1) := by
            rw [htk]
            unfold cutN
            by_cases h : (szG ks[i] : Int) ≤ most - ((szGs (ks.take i) + 1 : Nat) : Int)
            · rw [if_pos h, if_pos (by omega), Go.Vc.wrap_small (by omega) (by omega)]; omega
            · rw [if_neg h, if_neg (by omega)]
              have : ((szGs (ks.take i) + 1 : Nat) : Int) + (most - ((szGs (ks.take i) + 1 : Nat) : Int) + 1) = most + 1 := by omega
              rw [this]
              exact Go.Vc.wrap_small (by omega) (by omega)
          rw [← e1] at hN
          conv => whnf
          refine And.intro (fun hb2 => ?_) (fun hb2 => absurd ha (of_decide_eq_false hb2))
          conv => whnf
          refine IdxC.encGs i hil rfl ?_
          conv => whnf
          refine callF hN gf11 rfl rfl ?_
          conv => whnf
          rw [e1, e2, incD (by omega)]
          exact again (i + 1) (by omega) (by omega) (weak_of rfl (by repeat ((conv => whnf); first | exact trivial | refine And.intro rfl ?_ | refine And.intro (incD (by omega)) ?_)) (by repeat ((conv => whnf); first | exact trivial | refine And.intro rfl ?_ | refine And.intro (incD (by omega)) ?_)))
        · have hil : i = ks.length := by have := of_decide_eq_false hb; omega
          subst hil
          rw [List.take_length] at hgo ⊢
          conv => whnf
          rw [← hgo]
          exact weak_of rfl (by repeat ((conv => whnf); first | exact trivial | refine And.intro rfl ?_ | refine And.intro (incD (by omega)) ?_)) (by repeat ((conv => whnf); first | exact trivial | refine And.intro rfl ?_ | refine And.intro (incD (by omega)) ?_))
      · rw [if_neg ha] at hgo
        have e3 : cutN most (szGs ks + 1) = most + 1 := by unfold cutN; rw [if_neg (by omega)]
        rw [hgo, e3]
        conv => whnf
        refine And.intro (fun hb => ?_) (fun hb => ?_)
        · conv => whnf
          refine And.intro (fun hb2 => absurd (of_decide_eq_true hb2) (by omega)) (fun hb2 => ?_)
          conv => whnf
          exact weak_of rfl (by repeat ((conv => whnf); first | exact trivial | refine And.intro rfl ?_ | refine And.intro (incD (by omega)) ?_)) (by repeat ((conv => whnf); first | exact trivial | refine And.intro rfl ?_ | refine And.intro (incD (by omega)) ?_))
        · conv => whnf
          exact weak_of rfl (by repeat ((conv => whnf); first | exact trivial | refine And.intro rfl ?_ | refine And.intro (incD (by omega)) ?_)) (by repeat ((conv => whnf); first | exact trivial | refine And.intro rfl ?_ | refine And.intro (incD (by omega)) ?_))
    refine wk_vc txok mixed [] ?_
    have hgo : cutN most (szGs ks + 1) = (if ((szGs ks + 1 : Nat) : Int) ≤ most then ((szGs ks + 1 : Nat) : Int) else most + 1) := rfl
    by_cases ha : ((szGs ks + 1 : Nat) : Int) ≤ most
    · rw [if_pos ha] at hgo
      rw [hgo]
      conv => whnf
      refine And.intro (fun hb => absurd (of_decide_eq_true hb) (by omega)) (fun hb => ?_)
      conv => whnf
      try exact rfl
    · rw [if_neg ha] at hgo
      rw [hgo]
      conv => whnf
      refine And.intro (fun hb => ?_) (fun hb => absurd (of_decide_eq_false hb) (by omega))
      conv => whnf
      rw [Go.Vc.wrap_small (by omega) (by omega)]
end Go.Proofs.YtohmeplcjgmedaaGreatDoor

/- The law TargetTypes. -/
set_option linter.unusedSimpArgs false
set_option linter.unusedVariables false
namespace Go.Proofs.YtohmeplcjgmedaaGreatDoor
open Go.Vx Go.Vc Go.RowKit Go.Lib

set_option maxRecDepth 20000 in
theorem types_law_fn (t : TG) (most : Int) (hz : szB t ≤ 1048576) (hi : i64G t) (hm : -9223372036854775808 ≤ most ∧ most < 9223372036854775808) : FnR Tryz.prog GT 3 [dG t, .int .i64 most] (.bool true) := by
  have hzG := szG_szB t
  have h1 := FnR_up (rightType_fn t)
  have h2 := FnR_up (rtR_fn t)
  rw [rtR_right] at h2
  have h3 := FnR_up (freeT_fn t (by omega))
  have h4 := FnR_up (rfreeTypes_fn t (by omega))
  have h5 := FnR_up (ints_fn (freeS t) (freeS t))
  rw [decide_eq_true rfl] at h5
  have h6 := FnR_up (size_fn t most (by omega) hm.2)
  have h7 := FnR_up (rsize_fn t most (by omega) hm.1 hm.2)
  have h8 := text_fn t hi (by omega)
  have h9 := FnR_up (rtext_fn t hi (by omega))
  have h10 := FnR_up alive_fn
  refine fnQ_of_vc txok mixed [(1, .take 0 (.take 2 (.run 1 (.run 3 (.pure 4 (.pure 5 (.take 6 (.take 8 (.run 7 (.run 9 (.run 10 (.pure 11 (.pure 12 (.take 13 (.pure 14 (.take 16 (.pure 17 (.run 15 (.run 18 (.pure 19 (.pure 20 (.pure 21 (.take 22 (.take 24 (.run 23 (.run 25 (.pure 26 (.pure 27 (.pure 28 (.run 29 (.pure 30 (.pure 31 .done))))))))))))))))))))))))))))))))] Tryz.func3 rfl rfl (by simp) fun b => ?_
  conv => whnf
  refine And.intro (by kernel_rfl) ?_
  repeat' ((conv => whnf); first
    | refine callF h1 gf5 (by exact rfl) (by exact rfl) ?_
    | refine callF h2 gf6 (by exact rfl) (by exact rfl) ?_
    | refine callF h3 gf8 (by exact rfl) (by exact rfl) ?_
    | refine callF h4 gf9 (by exact rfl) (by exact rfl) ?_
    | refine callF h5 gf7 (by exact rfl) (by exact rfl) ?_
    | refine callF h6 gf10 (by exact rfl) (by exact rfl) ?_
    | refine callF h7 gf11 (by exact rfl) (by exact rfl) ?_
    | refine callF h8 gf12 (by exact rfl) (by exact rfl) ?_
    | refine callF h9 gf13 (by exact rfl) (by exact rfl) ?_
    | refine callF h10 gf14 (by exact rfl) (by exact rfl) ?_
    | (refine And.intro (fun hf => ?_) (fun hf => ?_) <;> first | exact Bool.noConfusion hf | (exfalso; simp at hf; done) | skip))
  all_goals (conv => whnf)
  all_goals try exact rfl
end Go.Proofs.YtohmeplcjgmedaaGreatDoor

