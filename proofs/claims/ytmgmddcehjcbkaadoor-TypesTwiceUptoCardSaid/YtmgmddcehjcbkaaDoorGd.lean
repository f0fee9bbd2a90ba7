/- What stands in a type: see, walk, found. -/
import Derived.Test.YtmgmddcehjcbkaaDoorGc
set_option linter.unusedSimpArgs false
set_option linter.unusedVariables false
namespace Go.Proofs.YtmgmddcehjcbkaaDoor
open Go.Vx Go.Vc Go.RowKit

/-- The finder and its row. -/
def fdr (kind : Int) (acc : List Int) : Hp := [(0, .blk 66 [.d (.int .i64 kind), .row 1]), (1, .row 3 8 1 acc.length (encI acc))]
def see1 (kind : Int) (t : Tp) (acc : List Int) : List Int := if t.k = kind ∧ t.n ∉ acc then acc ++ [t.n] else acc
def fdrPost (kind : Int) (acc : List Int) : Out → Hp → Prop := fun o H' => o = .ret (.tup []) ∧ H' = fdr kind acc

theorem see_tri (kind : Int) (t : Tp) (acc : List Int) (hl : (see1 kind t acc).length * 8 ≤ LB) : Tri Tryd.prog G0 64 2 0 [.own 0 0, .d (dT t)] (fdr kind acc) (fdrPost kind (see1 kind t acc)) := by
  refine tri_of_vc txok mixed [] [(1, .pure 0 (.take 1 (.pure 2 (.pure 3 (.pure 4 (.take 5 (.pure 6 (.pure 7 (.pure 8 (.pure 9 (.pure 10 (.take 11 (.pure 12 (.take 13 (.fin 14 (.pure 15 (.pure 16 .done))))))))))))))))), (2, .pure 0 (.pure 1 (.pure 2 (.pure 3 (.take 4 (.pure 5 (.take 6 (.run 7 (.fin 8 (.pure 9 (.pure 10 (.fin 11 .done))))))))))))] Tryd.func64 rfl rfl (by simp) fun b => ?_
  conv => whnf
  refine And.intro (by kernel_rfl) ?_
  conv => whnf
  refine And.intro (fun hk => ?_) (fun hk => ?_)
  · have hk := eq_of_beq hk
    conv => whnf
    refine callV (contains_fn acc t.n) gf67 rfl rfl rfl rfl ?_
    conv => whnf
    refine And.intro (fun hc => ?_) (fun hc => ?_)
    · have hc : t.n ∉ acc := by
        have := of_decide_eq_false (by simpa using hc : decide (idxFrom acc t.n 0 ≥ 0) = false)
        rwa [ge_iff_le, idxFrom_nonneg acc t.n 0 (by omega)] at this
      have hs : see1 kind t acc = acc ++ [t.n] := by rw [see1, if_pos ⟨hk, hc⟩]
      rw [hs] at hl ⊢
      conv => whnf
      refine And.intro (by kernel_rfl) ?_
      conv => whnf
      refine appR (i := 1) (sz := 1) (n := acc.length) (m := 1) (xs := encI acc) (ys := [.int .i64 t.n]) txok (fun k => Nat.beq k 3) (acc ++ [t.n]).length (encI (acc ++ [t.n])) (by exact rfl) (by exact rfl) (by exact rfl) (by kernel_rfl) (by exact rfl) (scalDs_mem (by exact rfl)) (by simp) (by simp [encI]) hl ?_
      conv => whnf
      exact ⟨rfl, rfl⟩
    · have hc : t.n ∈ acc := by
        have := of_decide_eq_true (by simpa using hc : decide (idxFrom acc t.n 0 ≥ 0) = true)
        rwa [ge_iff_le, idxFrom_nonneg acc t.n 0 (by omega)] at this
      have hs : see1 kind t acc = acc := by rw [see1, if_neg (fun h => h.2 hc)]
      rw [hs]
      conv => whnf
      exact ⟨rfl, rfl⟩
  · have hk : t.k ≠ kind := by simpa using hk
    have hs : see1 kind t acc = acc := by rw [see1, if_neg (fun h => hk h.1)]
    rw [hs]
    conv => whnf
    exact ⟨rfl, rfl⟩

theorem fnd_eq (kind : Int) (t : Tp) (acc : List Int) : fnd kind t acc = fndL kind t.kids (see1 kind t acc) := by
  cases t; rfl
theorem walk_tri (kind : Int) : ∀ (t : Tp) (acc : List Int), (fnd kind t acc).length * 8 ≤ LB → Tri Tryd.prog G0 63 2 0 [.d (dT t), .fn 64 [.own 0 0] []] (fdr kind acc) (fdrPost kind (fnd kind t acc)) := by
  refine Tp.ind fun k n ks ih acc hl => ?_
  have hl1 : (see1 kind (.mk k n ks) acc).length * 8 ≤ LB := Nat.le_trans (Nat.mul_le_mul_right _ (fndL_len kind ks _)) (by rw [fnd_eq] at hl; exact hl)
  rw [fnd_eq] at hl ⊢
  simp only [mk_kids] at hl ⊢
  generalize hg : see1 kind (.mk k n ks) acc = acc1 at *
  refine tri_sz fun hs => ?_
  have hkl := (szOk_T (t := .mk k n ks) (hs (.d (dT (.mk k n ks))) (by simp))).1
  simp only [mk_kids, LB] at hkl
  refine tri_of_vc txok mixed [] [] Tryd.func63 rfl rfl (by simp) fun b => ?_
  conv => whnf
  refine callT [0, 1] (see_tri kind (.mk k n ks) acc (by rw [hg]; exact hl1)) gf64 rfl rfl ⟨rfl, rfl, trivial⟩ rfl ?_
  rintro o' H' ⟨rfl, rfl⟩
  rw [hg]
  conv => whnf
  refine loopH (fun x : Nat × List Int => x.1 ≤ ks.length ∧ fndL kind ks acc1 = fndL kind (ks.drop x.1) x.2) (fun x => ks.length - x.1) (fun x => [(12, .d (.int .i64 x.1))]) (fun x => fdr kind x.2 ++ [(2, .blk 24 [.d (.int .i64 k), .d (.int .i64 n), .d (dK ks)])]) 3 (0, acc1) ⟨by simp, rfl⟩ (weak_of rfl (by repeat ((conv => whnf); first | exact trivial | refine And.intro rfl ?_ | refine And.intro (incD (by omega)) ?_)) (by repeat ((conv => whnf); first | exact trivial | refine And.intro rfl ?_ | refine And.intro (incD (by omega)) ?_))) ?_
  rintro ⟨i, acc'⟩ ⟨hi, hx⟩
  simp only at hi hx
  conv => whnf
  simp only [mk_kids]
  refine And.intro (fun hb => ?_) (fun hb => ?_)
  · have hb := of_decide_eq_true hb
    have hil : i < ks.length := by omega
    rw [fndL_drop hil] at hx
    conv => whnf
    refine IdxC.encK i hil rfl ?_
    conv => whnf
    refine callT [0, 1] (ih ks[i] (by simp) acc' (Nat.le_trans (Nat.mul_le_mul_right _ (fndL_len kind _ _)) (by rw [← hx]; exact hl))) gf63 rfl rfl ⟨rfl, rfl, trivial⟩ rfl ?_
    rintro o' H' ⟨rfl, rfl⟩
    conv => whnf
    exact again (i + 1, fnd kind ks[i] acc') (by simp; omega) ⟨by simp; omega, hx⟩ (weak_of rfl (by repeat ((conv => whnf); first | exact trivial | refine And.intro rfl ?_ | refine And.intro (incD (by omega)) ?_)) (by repeat ((conv => whnf); first | exact trivial | refine And.intro rfl ?_ | refine And.intro (incD (by omega)) ?_)))
  · have hb := of_decide_eq_false hb
    conv => whnf
    rw [hx, List.drop_eq_nil_of_le (by omega)]
    exact ⟨rfl, rfl⟩
end Go.Proofs.YtmgmddcehjcbkaaDoor
