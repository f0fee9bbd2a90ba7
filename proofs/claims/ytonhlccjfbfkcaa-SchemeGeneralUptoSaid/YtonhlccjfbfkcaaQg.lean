/- The functions of package types (texts Ga to Gj, joined, as far as this seat has them). -/
import Derived.Test.YtonhlccjfbfkcaaTx

set_option linter.unusedVariables false
set_option linter.unusedSimpArgs false

/- types.Right. -/
namespace Go.Proofs.Ytonhlccjfbfkcaa
open Go.Vx Go.Vc Go.RowKit

abbrev G0 : Glob := ⟨fun _ _ => True, fun _ _ _ _ => trivial⟩

theorem right_fn : ∀ t : Tp, FnR Try.prog G0 31 [dT t] (.bool (right t)) := by
  refine Tp.ind fun k n ks ih => ?_
  refine fnQ_of_vc txok mixed [] Try.func31 rfl rfl (by simp) fun b => ?_
  (repeat' ((conv => whnf); first | refine And.intro (fun _ => ?_) (fun _ => ?_))) <;> (conv => whnf)
  all_goals simp only [mk_k, mk_n, mk_kids, Bool.not_true] at *
  all_goals try (refine congrArg D.bool ?_; first | (simp only [right, *, Bool.or_self, Bool.true_or, Bool.or_true, Bool.false_or, Bool.or_false, Bool.false_and, Bool.and_false, Bool.true_and, Bool.and_true, Bool.and_self, Bool.not_true, Bool.not_false]; done) | (simp_all [right]; done) | (simp_all [right]; omega))
  all_goals
    have h2 : ks.length = 2 := by rename_i h2; have := eq_of_beq h2; omega
    obtain ⟨t, u, rfl⟩ : ∃ t u, ks = [t, u] := by
      match ks, h2 with
      | [t, u], _ => exact ⟨t, u, rfl⟩
    refine IdxC.encK 0 (by simp) rfl ?_
    conv => whnf
    refine callF (ih t (by simp)) gf31 rfl rfl ?_
    (repeat' ((conv => whnf); first | refine And.intro (fun _ => ?_) (fun _ => ?_))) <;> (conv => whnf)
  all_goals try (refine congrArg D.bool ?_; first | (simp only [right, rights, *, Bool.or_self, Bool.true_or, Bool.or_true, Bool.false_or, Bool.or_false, Bool.false_and, Bool.and_false, Bool.true_and, Bool.and_true, Bool.and_self, Bool.not_true, Bool.not_false]; done) | (simp_all [right, rights]; done) | (simp_all [right, rights]; omega))
  all_goals
    refine IdxC.encK 1 (by simp) rfl ?_
    conv => whnf
    refine callF (ih u (by simp)) gf31 rfl rfl ?_
    conv => whnf
    refine congrArg D.bool ?_; first | (simp only [right, rights, *, Bool.or_self, Bool.true_or, Bool.or_true, Bool.false_or, Bool.or_false, Bool.false_and, Bool.and_false, Bool.true_and, Bool.and_true, Bool.and_self, Bool.not_true, Bool.not_false]; done) | (simp_all [right, rights]; done) | (simp_all [right, rights]; omega)
end Go.Proofs.Ytonhlccjfbfkcaa


/- slices.Index, Contains. -/
namespace Go.Proofs.Ytonhlccjfbfkcaa
open Go.Vx Go.Vc Go.RowKit

theorem index_fn (l : List Int) (x : Int) : FnR Try.prog G0 56 [dI l, .int .i64 x] (.int .i64 (idxFrom l x 0)) := by
  refine fnQ_sz fun hs => ?_
  have hl := (szOk_sl hs.1).1
  simp only [LB] at hl
  refine fnQ_of_vc txok mixed [] Try.func56 rfl rfl (by simp) fun b => ?_
  conv => whnf
  refine loopH (fun i : Nat => i ≤ l.length ∧ idxFrom l x 0 = idxFrom (l.drop i) x i) (fun i => l.length - i) (fun i => [(8, .d (.int .i64 i))]) (fun _ => []) 0 0 ⟨by omega, rfl⟩ (weak_of rfl (by repeat ((conv => whnf); first | exact trivial | refine And.intro rfl ?_ | refine And.intro (incD (by omega)) ?_)) (by repeat ((conv => whnf); first | exact trivial | refine And.intro rfl ?_ | refine And.intro (incD (by omega)) ?_))) ?_
  rintro i ⟨hi, hx⟩
  conv => whnf
  refine And.intro (fun hb => ?_) (fun hb => ?_)
  · have hb := of_decide_eq_true hb
    have hil : i < l.length := by omega
    rw [List.drop_eq_getElem_cons hil, idxFrom] at hx
    conv => whnf
    refine IdxC.encI i hil rfl ?_
    conv => whnf
    refine And.intro (fun he => ?_) (fun he => ?_)
    · conv => whnf
      rw [hx, if_pos (eq_of_beq he)]
    · conv => whnf
      rw [if_neg (by simpa using he)] at hx
      exact again (i + 1) (by omega) ⟨by omega, by rw [hx]; rfl⟩ (weak_of rfl (by repeat ((conv => whnf); first | exact trivial | refine And.intro rfl ?_ | refine And.intro (incD (by omega)) ?_)) (by repeat ((conv => whnf); first | exact trivial | refine And.intro rfl ?_ | refine And.intro (incD (by omega)) ?_)))
  · have hb := of_decide_eq_false hb
    conv => whnf
    rw [hx, List.drop_eq_nil_of_le (by omega)]; rfl
end Go.Proofs.Ytonhlccjfbfkcaa


/- The order of types. -/
namespace Go.Proofs.Ytonhlccjfbfkcaa
open Go.Vx Go.Vc Go.RowKit

theorem isNaN_fn (a : Int) : FnR Try.prog G0 72 [.int .i64 a] (.bool false) := by
  refine fnQ_of_vc txok mixed [] Try.func72 rfl rfl (by simp) fun b => ?_
  conv => whnf
  simp
theorem compare_fn (a c : Int) : FnR Try.prog G0 67 [.int .i64 a, .int .i64 c] (.int .i64 (cmpI a c)) := by
  refine fnQ_of_vc txok mixed [] Try.func67 rfl rfl (by simp) fun b => ?_
  conv => whnf
  refine callF (isNaN_fn a) gf72 rfl rfl ?_
  conv => whnf
  refine callF (isNaN_fn c) gf72 rfl rfl ?_
  (repeat' ((conv => whnf); first | refine And.intro (fun _ => ?_) (fun _ => ?_))) <;> (conv => whnf)
  all_goals try contradiction
  all_goals refine congrArg (D.int .i64) ?_
  all_goals simp_all [cmpI]
  all_goals omega
theorem contains_fn (l : List Int) (x : Int) : FnR Try.prog G0 41 [dI l, .int .i64 x] (.bool (decide (idxFrom l x 0 ≥ 0))) := by
  refine fnQ_of_vc txok mixed [] Try.func41 rfl rfl (by simp) fun b => ?_
  conv => whnf
  exact callF (index_fn l x) gf56 rfl rfl rfl
theorem or_fn (l : List Int) : FnR Try.prog G0 66 [dI l] (.int .i64 (orL l)) := by
  refine fnQ_sz fun hs => ?_
  have hl := (szOk_sl hs.1).1
  simp only [LB] at hl
  refine fnQ_of_vc txok mixed [] Try.func66 rfl rfl (by simp) fun b => ?_
  conv => whnf
  refine loopH (fun i : Nat => i ≤ l.length ∧ orL l = orL (l.drop i)) (fun i => l.length - i) (fun i => [(8, .d (.int .i64 i))]) (fun _ => []) 0 0 ⟨by omega, rfl⟩ (weak_of rfl (by repeat ((conv => whnf); first | exact trivial | refine And.intro rfl ?_ | refine And.intro (incD (by omega)) ?_)) (by repeat ((conv => whnf); first | exact trivial | refine And.intro rfl ?_ | refine And.intro (incD (by omega)) ?_))) ?_
  rintro i ⟨hi, hx⟩
  conv => whnf
  refine And.intro (fun hb => ?_) (fun hb => ?_)
  · have hb := of_decide_eq_true hb
    have hil : i < l.length := by omega
    rw [List.drop_eq_getElem_cons hil, orL] at hx
    conv => whnf
    refine IdxC.encI i hil rfl ?_
    conv => whnf
    refine And.intro (fun he => ?_) (fun he => ?_)
    · conv => whnf
      rw [hx, if_pos (by simpa using he)]
    · conv => whnf
      rw [if_neg (by simpa using he)] at hx
      exact again (i + 1) (by omega) ⟨by omega, hx⟩ (weak_of rfl (by repeat ((conv => whnf); first | exact trivial | refine And.intro rfl ?_ | refine And.intro (incD (by omega)) ?_)) (by repeat ((conv => whnf); first | exact trivial | refine And.intro rfl ?_ | refine And.intro (incD (by omega)) ?_)))
  · have hb := of_decide_eq_false hb
    conv => whnf
    rw [hx, List.drop_eq_nil_of_le (by omega)]; rfl

def CmpOk (f : FuncId) (t : Tp) : Prop := ∀ u : Tp, FnR Try.prog G0 f [dT t, dT u] (.int .i64 (cmpT t u))
theorem compareFunc_fn (l m : List Tp) (ih : ∀ t ∈ l, CmpOk 53 t) : FnR Try.prog G0 68 [dK l, dK m, .fn 53 [] []] (.int .i64 (cmpL l m)) := by
  refine fnQ_sz fun hs => ?_
  have hl := (szOk_sl hs.1).1
  simp only [LB] at hl
  refine fnQ_of_vc txok mixed [] Try.func68 rfl rfl (by simp) fun b => ?_
  conv => whnf
  refine loopH (fun i : Nat => i ≤ l.length ∧ i ≤ m.length ∧ cmpL l m = cmpL (l.drop i) (m.drop i)) (fun i => l.length - i) (fun i => [(13, .d (.int .i64 i))]) (fun _ => []) 0 0 ⟨by omega, by omega, rfl⟩ (weak_of rfl (by repeat ((conv => whnf); first | exact trivial | refine And.intro rfl ?_ | refine And.intro (incD (by omega)) ?_)) (by repeat ((conv => whnf); first | exact trivial | refine And.intro rfl ?_ | refine And.intro (incD (by omega)) ?_))) ?_
  rintro i ⟨hi, him, hx⟩
  conv => whnf
  refine And.intro (fun hb => ?_) (fun hb => ?_)
  · have hb := of_decide_eq_true hb
    have hil : i < l.length := by omega
    conv => whnf
    refine IdxC.encK i hil rfl ?_
    conv => whnf
    refine And.intro (fun hc => ?_) (fun hc => ?_)
    · have hc := of_decide_eq_true hc
      conv => whnf
      rw [hx, List.drop_eq_getElem_cons hil, List.drop_eq_nil_of_le (show m.length ≤ i by omega)]
      rfl
    · have hc := of_decide_eq_false hc
      have him' : i < m.length := by omega
      conv => whnf
      refine IdxC.encK i him' rfl ?_
      conv => whnf
      refine callF (ih l[i] (by simp) m[i]) gf53 rfl rfl ?_
      conv => whnf
      refine And.intro (fun he => ?_) (fun he => ?_)
      · conv => whnf
        rw [hx, cmpL_drop hil him', if_pos (by simpa using he)]
      · conv => whnf
        rw [cmpL_drop hil him', if_neg (by simpa using he)] at hx
        exact again (i + 1) (by omega) ⟨by omega, by omega, hx⟩ (weak_of rfl (by repeat ((conv => whnf); first | exact trivial | refine And.intro rfl ?_ | refine And.intro (incD (by omega)) ?_)) (by repeat ((conv => whnf); first | exact trivial | refine And.intro rfl ?_ | refine And.intro (incD (by omega)) ?_)))
  · have hb := of_decide_eq_false hb
    rw [List.drop_eq_nil_of_le (show l.length ≤ i by omega)] at hx
    conv => whnf
    refine And.intro (fun hc => ?_) (fun hc => ?_)
    · have hc := of_decide_eq_true hc
      conv => whnf
      rw [hx, List.drop_eq_getElem_cons (show i < m.length by omega)]
      rfl
    · have hc := of_decide_eq_false hc
      conv => whnf
      rw [hx, List.drop_eq_nil_of_le (show m.length ≤ i by omega)]
      rfl
theorem cmp_fn : ∀ t, CmpOk 53 t := by
  refine Tp.ind fun k n ks ih u => ?_
  obtain ⟨k', n', ks'⟩ := u
  refine fnQ_of_vc txok mixed [(1, .pure 0 (.take 1 (.pure 2 (.take 3 (.pure 5 (.take 6 (.pure 7 (.take 8 (.pure 10 (.take 11 (.pure 12 (.pure 13 (.take 14 (.pure 15 (.pure 17 (.take 18 (.pure 19 (.take 20 (.run 4 (.run 9 (.run 16 (.fin 21 (.fin 22 (.fin 23 (.pure 24 .done)))))))))))))))))))))))))] Try.func53 rfl rfl (by simp) fun b => ?_
  conv => whnf
  refine And.intro (by kernel_rfl) ?_
  conv => whnf
  refine callF (compare_fn k k') gf67 rfl rfl ?_
  conv => whnf
  refine callF (compare_fn n n') gf67 rfl rfl ?_
  conv => whnf
  refine callF (compare_fn ks.length ks'.length) gf67 rfl rfl ?_
  conv => whnf
  refine callF (compareFunc_fn ks ks' ih) gf68 rfl rfl ?_
  conv => whnf
  refine callV (or_fn [cmpI k k', cmpI n n', cmpI ks.length ks'.length, cmpL ks ks']) gf66 rfl rfl rfl rfl ?_
  conv => whnf
  simp only [cmpT]
theorem same_fn (t u : Tp) : FnR Try.prog G0 33 [dT t, dT u] (.bool (cmpT t u == 0)) := by
  refine fnQ_of_vc txok mixed [] Try.func33 rfl rfl (by simp) fun b => ?_
  conv => whnf
  exact callF (cmp_fn t u) gf53 rfl rfl rfl
end Go.Proofs.Ytonhlccjfbfkcaa


/- What stands in a type: see, walk, found. -/
namespace Go.Proofs.Ytonhlccjfbfkcaa
open Go.Vx Go.Vc Go.RowKit

/-- The finder and its row. -/
def fdr (kind : Int) (acc : List Int) : Hp := [(0, .blk 76 [.d (.int .i64 kind), .row 1]), (1, .row 3 8 1 acc.length (encI acc))]
def see1 (kind : Int) (t : Tp) (acc : List Int) : List Int := if t.k = kind ∧ t.n ∉ acc then acc ++ [t.n] else acc
def fdrPost (kind : Int) (acc : List Int) : Out → Hp → Prop := fun o H' => o = .ret (.tup []) ∧ H' = fdr kind acc

theorem see_tri (kind : Int) (t : Tp) (acc : List Int) (hl : (see1 kind t acc).length * 8 ≤ LB) : Tri Try.prog G0 59 2 0 [.own 0 0, .d (dT t)] (fdr kind acc) (fdrPost kind (see1 kind t acc)) := by
  refine tri_of_vc txok mixed [] [(1, .pure 0 (.take 1 (.pure 2 (.pure 3 (.pure 4 (.take 5 (.pure 6 (.pure 7 (.pure 8 (.pure 9 (.pure 10 (.take 11 (.pure 12 (.take 13 (.fin 14 (.pure 15 (.pure 16 .done))))))))))))))))), (2, .pure 0 (.pure 1 (.pure 2 (.pure 3 (.take 4 (.pure 5 (.take 6 (.run 7 (.fin 8 (.pure 9 (.pure 10 (.fin 11 .done))))))))))))] Try.func59 rfl rfl (by simp) fun b => ?_
  conv => whnf
  refine And.intro (by kernel_rfl) ?_
  conv => whnf
  refine And.intro (fun hk => ?_) (fun hk => ?_)
  · have hk := eq_of_beq hk
    conv => whnf
    refine callV (contains_fn acc t.n) gf41 rfl rfl rfl rfl ?_
    conv => whnf
    refine And.intro (fun hc => ?_) (fun hc => ?_)
    · have hc : t.n ∉ acc := by
        have := of_decide_eq_false (by simpa using hc : decide (idxFrom acc t.n 0 ≥ 0) = false)
        rwa [ge_iff_le, idxFrom_nonneg acc t.n 0 (by omega)] at this
      have hs : see1 kind t acc = acc ++ [t.n] := by rw [see1, if_pos ⟨hk, hc⟩]
      rw [hs] at hl ⊢
      conv => whnf
      refine And.intro (by kernel_rfl) ?_
      conv => whnf
      refine appR (i := 1) (sz := 1) (n := acc.length) (m := 1) (xs := encI acc) (ys := [.int .i64 t.n]) txok (fun k => Nat.beq k 3) (acc ++ [t.n]).length (encI (acc ++ [t.n])) (by exact rfl) (by exact rfl) (by exact rfl) (by kernel_rfl) (by exact rfl) (scalDs_mem (by exact rfl)) (by simp) (by simp [encI]) hl ?_
      conv => whnf
      exact ⟨rfl, rfl⟩
    · have hc : t.n ∈ acc := by
        have := of_decide_eq_true (by simpa using hc : decide (idxFrom acc t.n 0 ≥ 0) = true)
        rwa [ge_iff_le, idxFrom_nonneg acc t.n 0 (by omega)] at this
      have hs : see1 kind t acc = acc := by rw [see1, if_neg (fun h => h.2 hc)]
      rw [hs]
      conv => whnf
      exact ⟨rfl, rfl⟩
  · have hk : t.k ≠ kind := by simpa using hk
    have hs : see1 kind t acc = acc := by rw [see1, if_neg (fun h => hk h.1)]
    rw [hs]
    conv => whnf
    exact ⟨rfl, rfl⟩

theorem fnd_eq (kind : Int) (t : Tp) (acc : List Int) : fnd kind t acc = fndL kind t.kids (see1 kind t acc) := by
  cases t; rfl
theorem walk_tri (kind : Int) : ∀ (t : Tp) (acc : List Int), (fnd kind t acc).length * 8 ≤ LB → Tri Try.prog G0 58 2 0 [.d (dT t), .fn 59 [.own 0 0] []] (fdr kind acc) (fdrPost kind (fnd kind t acc)) := by
  refine Tp.ind fun k n ks ih acc hl => ?_
  have hl1 : (see1 kind (.mk k n ks) acc).length * 8 ≤ LB := Nat.le_trans (Nat.mul_le_mul_right _ (fndL_len kind ks _)) (by rw [fnd_eq] at hl; exact hl)
  rw [fnd_eq] at hl ⊢
  simp only [mk_kids] at hl ⊢
  generalize hg : see1 kind (.mk k n ks) acc = acc1 at *
  refine tri_sz fun hs => ?_
  have hkl := (szOk_T (t := .mk k n ks) (hs (.d (dT (.mk k n ks))) (by simp))).1
  simp only [mk_kids, LB] at hkl
  refine tri_of_vc txok mixed [] [] Try.func58 rfl rfl (by simp) fun b => ?_
  conv => whnf
  refine callT [0, 1] (see_tri kind (.mk k n ks) acc (by rw [hg]; exact hl1)) gf59 rfl rfl ⟨rfl, rfl, trivial⟩ rfl ?_
  rintro o' H' ⟨rfl, rfl⟩
  rw [hg]
  conv => whnf
  refine loopH (fun x : Nat × List Int => x.1 ≤ ks.length ∧ fndL kind ks acc1 = fndL kind (ks.drop x.1) x.2) (fun x => ks.length - x.1) (fun x => [(12, .d (.int .i64 x.1))]) (fun x => fdr kind x.2 ++ [(2, .blk 24 [.d (.int .i64 k), .d (.int .i64 n), .d (dK ks)])]) 3 (0, acc1) ⟨by simp, rfl⟩ (weak_of rfl (by repeat ((conv => whnf); first | exact trivial | refine And.intro rfl ?_ | refine And.intro (incD (by omega)) ?_)) (by repeat ((conv => whnf); first | exact trivial | refine And.intro rfl ?_ | refine And.intro (incD (by omega)) ?_))) ?_
  rintro ⟨i, acc'⟩ ⟨hi, hx⟩
  simp only at hi hx
  conv => whnf
  simp only [mk_kids]
  refine And.intro (fun hb => ?_) (fun hb => ?_)
  · have hb := of_decide_eq_true hb
    have hil : i < ks.length := by omega
    rw [fndL_drop hil] at hx
    conv => whnf
    refine IdxC.encK i hil rfl ?_
    conv => whnf
    refine callT [0, 1] (ih ks[i] (by simp) acc' (Nat.le_trans (Nat.mul_le_mul_right _ (fndL_len kind _ _)) (by rw [← hx]; exact hl))) gf58 rfl rfl ⟨rfl, rfl, trivial⟩ rfl ?_
    rintro o' H' ⟨rfl, rfl⟩
    conv => whnf
    exact again (i + 1, fnd kind ks[i] acc') (by simp; omega) ⟨by simp; omega, hx⟩ (weak_of rfl (by repeat ((conv => whnf); first | exact trivial | refine And.intro rfl ?_ | refine And.intro (incD (by omega)) ?_)) (by repeat ((conv => whnf); first | exact trivial | refine And.intro rfl ?_ | refine And.intro (incD (by omega)) ?_)))
  · have hb := of_decide_eq_false hb
    conv => whnf
    rw [hx, List.drop_eq_nil_of_le (by omega)]
    exact ⟨rfl, rfl⟩
end Go.Proofs.Ytonhlccjfbfkcaa


/- What a type holds: found, Stamps, Metas, Gens, Closed. -/
namespace Go.Proofs.Ytonhlccjfbfkcaa
open Go.Vx Go.Vc Go.RowKit

theorem found_fn (kind : Int) (t : Tp) (hl : (fnd kind t []).length * 8 ≤ LB) : FnR Try.prog G0 44 [dT t, .int .i64 kind] (dI (fnd kind t [])) := by
  refine fnQ_of_vc txok mixed [] Try.func44 rfl rfl (by simp) fun b => ?_
  conv => whnf
  refine weakC _ (weak_nlC 1 1 3 8 1 rfl rfl) ?_
  refine callT [1, 2] (walk_tri kind t [] hl) gf58 rfl rfl ⟨rfl, rfl, trivial⟩ rfl ?_
  rintro o' H' ⟨rfl, rfl⟩
  conv => whnf

theorem metas_fn (t : Tp) (hl : (fnd 7 t []).length * 8 ≤ LB) : FnR Try.prog G0 12 [dT t] (dI (fnd 7 t [])) := by
  refine fnQ_of_vc txok mixed [] Try.func12 rfl rfl (by simp) fun b => ?_
  conv => whnf
  exact callF (found_fn 7 t hl) gf44 rfl rfl rfl
theorem gens_fn (t : Tp) (hl : (fnd 8 t []).length * 8 ≤ LB) : FnR Try.prog G0 14 [dT t] (dI (fnd 8 t [])) := by
  refine fnQ_of_vc txok mixed [] Try.func14 rfl rfl (by simp) fun b => ?_
  conv => whnf
  exact callF (found_fn 8 t hl) gf44 rfl rfl rfl
end Go.Proofs.Ytonhlccjfbfkcaa


/- How many nodes a type has. -/
namespace Go.Proofs.Ytonhlccjfbfkcaa
open Go.Vx Go.Vc Go.RowKit

def cntD (n most : Nat) : D := .tup [.int .i64 (cutN n most), .bool (decide (n ≤ most))]
theorem count_fn : ∀ (t : Tp) (most : Nat), most ≤ 1000000 → FnR Try.prog G0 54 [dT t, .int .i64 most] (cntD (szT t) most) := by
  refine Tp.ind fun k n ks ih most hm => ?_
  refine fnQ_sz fun hs => ?_
  have hl := (szOk_T (t := .mk k n ks) hs.1).1
  simp only [mk_kids, LB] at hl
  have hsz : szT (.mk k n ks) = szL ks + 1 := by simp only [szT]
  refine fnQ_of_vc txok mixed [] Try.func54 rfl rfl (by simp) fun b => ?_
  conv => whnf
  refine And.intro (fun h => ?_) (fun h => ?_)
  · have h := of_decide_eq_true h
    conv => whnf
    rw [cntD, cutN, if_neg (by omega), decide_eq_false (by omega)]
    have : (most + 1 : Nat) = 1 := by omega
    rw [this]; rfl
  · have h := of_decide_eq_false h
    conv => whnf
    refine loopH (fun i : Nat => i ≤ ks.length ∧ 1 + szL (ks.take i) ≤ most) (fun i => ks.length - i) (fun i => [(18, .d (.int .i64 i)), (6, .d (.int .i64 ((1 + szL (ks.take i) : Nat) : Int)))]) (fun _ => [(0, .blk 24 [.d (.int .i64 k), .d (.int .i64 n), .d (dK ks)])]) 1 0 ⟨by omega, by simp [szL]; omega⟩ (weak_of rfl (by repeat ((conv => whnf); first | exact trivial | refine And.intro rfl ?_ | refine And.intro (incD (by omega)) ?_)) (by repeat ((conv => whnf); first | exact trivial | refine And.intro rfl ?_ | refine And.intro (incD (by omega)) ?_))) ?_
    rintro i ⟨hi, hx⟩
    conv => whnf
    simp only [mk_kids]
    refine And.intro (fun hb => ?_) (fun hb => ?_)
    · have hb := of_decide_eq_true hb
      have hil : i < ks.length := by omega
      have ht := szL_take hil
      have hle := szL_take_le ks (i + 1)
      conv => whnf
      refine IdxC.encK i hil rfl ?_
      conv => whnf
      have e1 : IntKind.i64.wrap ((most : Int) - ((1 + szL (ks.take i) : Nat) : Int)) = ((most - (1 + szL (ks.take i)) : Nat) : Int) := by
        exact (Go.Vc.wrap_small (a := (most : Int) - ((1 + szL (ks.take i) : Nat) : Int)) (by omega) (by omega)).trans (by omega)
      rw [e1]
      refine callF (ih ks[i] (by simp) (most - (1 + szL (ks.take i))) (by omega)) gf54 rfl rfl ?_
      conv => whnf
      have hw : ∀ c : Nat, c ≤ most - (1 + szL (ks.take i)) + 1 → IntKind.i64.wrap (((1 + szL (ks.take i) : Nat) : Int) + (c : Int)) = ((1 + szL (ks.take i) + c : Nat) : Int) := fun c hc =>
        (Go.Vc.wrap_small (a := ((1 + szL (ks.take i) : Nat) : Int) + (c : Int)) (by omega) (by omega)).trans (by omega)
      refine And.intro (fun h2 => ?_) (fun h2 => ?_)
      · have h2 : ¬ szT ks[i] ≤ most - (1 + szL (ks.take i)) := by simpa using h2
        conv => whnf
        rw [cntD, cutN, if_neg h2, hw _ (Nat.le_refl _), cutN, if_neg (by omega), decide_eq_false (by omega)]
        have : 1 + szL (ks.take i) + (most - (1 + szL (ks.take i)) + 1) = most + 1 := by omega
        rw [this]
      · have h2 : szT ks[i] ≤ most - (1 + szL (ks.take i)) := by simpa using h2
        conv => whnf
        rw [cutN, if_pos h2, hw _ (by omega), show 1 + szL (ks.take i) + szT ks[i] = 1 + szL (ks.take (i + 1)) from by omega]
        exact again (i + 1) (by omega) ⟨by omega, by omega⟩ (weak_of rfl (by repeat ((conv => whnf); first | exact trivial | refine And.intro rfl ?_ | refine And.intro (incD (by omega)) ?_)) (by repeat ((conv => whnf); first | exact trivial | refine And.intro rfl ?_ | refine And.intro (incD (by omega)) ?_)))
    · have hb := of_decide_eq_false hb
      have : i = ks.length := by omega
      subst this
      rw [List.take_length] at hx ⊢
      conv => whnf
      rw [cntD, cutN, if_pos (by omega), decide_eq_true (by omega), hsz, Nat.add_comm 1]
theorem fits_fn (t : Tp) : FnR Try.prog G0 34 [dT t] (.bool (decide (szT t ≤ 1000))) := by
  refine fnQ_of_vc txok mixed [] Try.func34 rfl rfl (by simp) fun b => ?_
  conv => whnf
  refine callF (count_fn t 1000 (by omega)) gf54 rfl rfl ?_
  conv => whnf
end Go.Proofs.Ytonhlccjfbfkcaa


/- Copies; how great what replacing makes is; what it makes. -/
namespace Go.Proofs.Ytonhlccjfbfkcaa
open Go.Vx Go.Vc Go.RowKit

theorem sclone_tri (l : List Tp) : Tri Try.prog G0 57 0 1 [.d (dK l)] [] (fun o H' => o = .ret (.row 0) ∧ H' = [(0, .row 24 40 3 l.length (encK l))]) := by
  refine tri_sz fun hs => ?_
  have hl := (szOk_sl (hs (.d (dK l)) (by simp))).1
  refine triNil (args := [.d (dK l)]) (Q := fun o H' => (o = .ret (.row 0) ∧ H' = [(0, .row 24 40 3 l.length (encK l))]) ∨ (o = .ret .nl ∧ l = [])) 24 40 3 ?_ ?_
  · refine tri_of_vc (args := [.d (dK l)]) txok mixed [0] [] Try.func57 rfl rfl (by simp) fun b => ?_
    conv => whnf
    intro c hc
    conv => whnf
    refine And.intro (fun h => ?_) (fun h => ?_)
    · conv => whnf
      exact .inr ⟨rfl, List.eq_nil_of_length_eq_zero (hc h)⟩
    · conv => whnf
      refine appR (i := 0) (sz := 3) (n := 0) (m := l.length) (xs := []) (ys := encK l) txok (fun _ => false) l.length (encK l) rfl rfl rfl (by kernel_rfl) (encK_len l) (encK_scal l) (by simp) (by simp) hl ?_
      conv => whnf
      exact .inl ⟨rfl, rfl⟩
  · rintro o H' (h | ⟨rfl, rfl⟩)
    · exact .inl h
    · exact .inr ⟨rfl, rfl, rfl⟩

theorem cutN_add {a most : Nat} (s : Nat) (h : a ≤ most) : a + cutN s (most - a) = cutN (a + s) most := by
  unfold cutN; split <;> split <;> omega
theorem cutN_le (n most : Nat) : cutN n most ≤ most + 1 := by unfold cutN; split <;> omega
theorem cutN_gt {n most : Nat} (h : most < cutN n most) : most < n := by unfold cutN at h; split at h <;> omega
theorem cutN_big {n most : Nat} (h : most < n) : cutN n most = most + 1 := by unfold cutN; rw [if_neg (by omega)]
theorem cutN_small {n most : Nat} (h : n ≤ most) : cutN n most = n := by unfold cutN; rw [if_pos h]
abbrev dP (kind : Int) (fr : List Int) (to : List Tp) : D := .agg [.int .i64 kind, dI fr, dK to]
theorem psize_fn (kind : Int) (fr : List Int) (to : List Tp) (hft : fr.length = to.length) : ∀ (t : Tp) (most : Nat), most ≤ 1000000 → FnR Try.prog G0 61 [dP kind fr to, dT t, .int .i64 most] (.int .i64 (cutN (szT (sub kind (tbl fr to) t)) most)) := by
  refine Tp.ind fun k n ks ih most hm => ?_
  refine fnQ_sz fun hs => ?_
  have hl := (szOk_T (t := .mk k n ks) hs.2.1).1
  simp only [mk_kids, LB] at hl
  obtain ⟨q1, q2⟩ := tbl_idx fr to n 0 (by omega) (by omega)
  have hsub : ¬ (k = kind ∧ 0 ≤ idxFrom fr n 0) → sub kind (tbl fr to) (.mk k n ks) = .mk k n (subL kind (tbl fr to) ks) := by
    intro h
    rw [sub]
    by_cases hk : k = kind
    · rw [if_pos hk, q1 (by rcases Int.lt_or_le (idxFrom fr n 0) 0 with h' | h'; exact h'; exact absurd ⟨hk, h'⟩ h)]
    · rw [if_neg hk]
  refine fnQ_of_vc txok mixed [(100006, .done)] Try.func61 rfl rfl (by simp) fun b => ?_
  conv => whnf
  refine CutC.mk (fun st => ¬ (k = kind ∧ 0 ≤ idxFrom fr n 0) ∧ st = ⟨[(2, .d (.int .i64 most)), (3, .own 0 0), (4, .own 1 0)], [(0, .blk 81 [.d (.int .i64 kind), .d (dI fr), .d (dK to)]), (1, .blk 24 [.d (.int .i64 k), .d (.int .i64 n), .d (dK ks)])], 2⟩) ?_ ?_
  · conv => whnf
    simp only [mk_k]
    refine And.intro (fun hk => ?_) (fun hk => ?_)
    · have hk := eq_of_beq hk
      conv => whnf
      refine callF (index_fn fr n) gf56 rfl rfl ?_
      conv => whnf
      refine And.intro (fun hp => ?_) (fun hp => ?_)
      · have hp := of_decide_eq_true hp
        obtain ⟨q, q3, q4, q5⟩ := q2 (by omega)
        have hq : q < to.length := by omega
        rw [List.getElem?_eq_getElem hq] at q5
        have hsb : sub kind (tbl fr to) (.mk k n ks) = to[q] := by rw [sub, if_pos hk, q5]
        conv => whnf
        refine IdxC.encK q hq (by rw [q3]; omega) ?_
        conv => whnf
        refine callF (count_fn to[q] most hm) gf54 rfl rfl ?_
        conv => whnf
        rw [hsb]
      · have hp := of_decide_eq_false hp
        conv => whnf
        exact ⟨_, ⟨fun h => hp h.2, rfl⟩, weak_of rfl (by repeat ((conv => whnf); first | exact trivial | refine And.intro rfl ?_ | refine And.intro (incD (by omega)) ?_)) (by repeat ((conv => whnf); first | exact trivial | refine And.intro rfl ?_ | refine And.intro (incD (by omega)) ?_))⟩
    · have hk : k ≠ kind := by simpa using hk
      conv => whnf
      exact ⟨_, ⟨fun h => hk h.1, rfl⟩, weak_of rfl (by repeat ((conv => whnf); first | exact trivial | refine And.intro rfl ?_ | refine And.intro (incD (by omega)) ?_)) (by repeat ((conv => whnf); first | exact trivial | refine And.intro rfl ?_ | refine And.intro (incD (by omega)) ?_))⟩
  · rintro st' ⟨hno, rfl⟩
    have hsub := hsub hno
    have hlen : (subL kind (tbl fr to) ks).length = ks.length := by rw [subL_map, List.length_map]
    have hsz : szT (sub kind (tbl fr to) (.mk k n ks)) = szL (subL kind (tbl fr to) ks) + 1 := by rw [hsub, szT]
    generalize hks' : subL kind (tbl fr to) ks = ks' at *
    have hget : ∀ (i : Nat) (h : i < ks.length) (h' : i < ks'.length), ks'[i] = sub kind (tbl fr to) ks[i] := by
      intro i h h'; subst hks'; simp [subL_map]
    conv => whnf
    refine loopH (fun i : Nat => i ≤ ks.length) (fun i => ks.length - i) (fun i => [(39, .d (.int .i64 i)), (10, .d (.int .i64 (cutN (1 + szL (ks'.take i)) most)))]) (fun _ => [(0, .blk 81 [.d (.int .i64 kind), .d (dI fr), .d (dK to)]), (1, .blk 24 [.d (.int .i64 k), .d (.int .i64 n), .d (dK ks)])]) 2 0 (by omega) ?_ ?_
    · have h0 : cutN (1 + szL (ks'.take 0)) most = 1 := by unfold cutN; simp only [List.take_zero, szL]; split <;> omega
      exact weak_of rfl (by repeat ((conv => whnf); first | exact trivial | refine And.intro rfl ?_ | refine And.intro (show SV.d (.int .i64 1) = SV.d (.int .i64 (cutN (1 + szL (ks'.take 0)) most : Nat)) from by rw [h0]; rfl) ?_)) (by repeat ((conv => whnf); first | exact trivial | refine And.intro rfl ?_ | refine And.intro (incD (by omega)) ?_))
    intro i hi
    have hle := szL_take_le ks' i
    conv => whnf
    simp only [mk_kids]
    refine And.intro (fun hb => ?_) (fun hb => ?_)
    · have hb := of_decide_eq_true hb
      have hil : i < ks.length := by omega
      have ht := szL_take (ks := ks') (i := i) (by omega)
      rw [hget i hil (by omega)] at ht
      conv => whnf
      refine IdxC.encK i hil rfl ?_
      conv => whnf
      refine And.intro (fun h => ?_) (fun h => ?_)
      · have h := of_decide_eq_true h
        have := cutN_gt (n := 1 + szL (ks'.take i)) (most := most) (by omega)
        conv => whnf
        rw [cutN_big this, cutN_big (by omega)]
      · have h := of_decide_eq_false h
        have hx : 1 + szL (ks'.take i) ≤ most := by
          rcases Nat.lt_or_ge most (1 + szL (ks'.take i)) with h' | h'
          · rw [cutN_big h'] at h; omega
          · exact h'
        rw [cutN_small hx]
        conv => whnf
        have e1 : IntKind.i64.wrap ((most : Int) - ((1 + szL (ks'.take i) : Nat) : Int)) = ((most - (1 + szL (ks'.take i)) : Nat) : Int) :=
          (Go.Vc.wrap_small (a := (most : Int) - ((1 + szL (ks'.take i) : Nat) : Int)) (by omega) (by omega)).trans (by omega)
        rw [e1]
        refine callF (ih ks[i] (by simp) (most - (1 + szL (ks'.take i))) (by omega)) gf61 rfl rfl ?_
        conv => whnf
        have hc := cutN_le (szT (sub kind (tbl fr to) ks[i])) (most - (1 + szL (ks'.take i)))
        have e2 : IntKind.i64.wrap (((1 + szL (ks'.take i) : Nat) : Int) + ((cutN (szT (sub kind (tbl fr to) ks[i])) (most - (1 + szL (ks'.take i))) : Nat) : Int)) = ((cutN (1 + szL (ks'.take (i + 1))) most : Nat) : Int) := by
          rw [show 1 + szL (ks'.take (i + 1)) = 1 + szL (ks'.take i) + szT (sub kind (tbl fr to) ks[i]) from by omega, ← cutN_add _ hx]
          exact (Go.Vc.wrap_small (a := ((1 + szL (ks'.take i) : Nat) : Int) + ((cutN (szT (sub kind (tbl fr to) ks[i])) (most - (1 + szL (ks'.take i))) : Nat) : Int)) (by omega) (by omega)).trans (by omega)
        rw [e2]
        exact again (i + 1) (by omega) (by omega) (weak_of rfl (by repeat ((conv => whnf); first | exact trivial | refine And.intro rfl ?_ | refine And.intro (incD (by omega)) ?_)) (by repeat ((conv => whnf); first | exact trivial | refine And.intro rfl ?_ | refine And.intro (incD (by omega)) ?_)))
    · have hb := of_decide_eq_false hb
      have hi : i = ks'.length := by omega
      subst hi
      rw [List.take_length]
      conv => whnf
      rw [hsz, Nat.add_comm 1]
end Go.Proofs.Ytonhlccjfbfkcaa


/- What replacing makes. -/
namespace Go.Proofs.Ytonhlccjfbfkcaa
open Go.Vx Go.Vc Go.RowKit

theorem sub_none (kind : Int) (σ : Int → Option Tp) (h : ∀ n, σ n = none) : ∀ t, sub kind σ t = t := by
  refine Tp.ind fun k n ks ih => ?_
  rw [sub, subL_map]
  have : (if k = kind then σ n else none) = none := by split <;> simp [h]
  rw [this]
  simp only
  congr 1
  exact (List.map_congr_left ih).trans (List.map_id ks)
/-- The first ones replaced. -/
def mixL (kind : Int) (σ : Int → Option Tp) (ks : List Tp) (i : Nat) : List Tp := subL kind σ (ks.take i) ++ ks.drop i
theorem mixL_len (kind : Int) (σ : Int → Option Tp) (ks : List Tp) (i : Nat) : (mixL kind σ ks i).length = ks.length := by
  simp [mixL, subL_map]; omega
theorem mixL_get {kind : Int} {σ : Int → Option Tp} {ks : List Tp} {i : Nat} (h : i < ks.length) (h' : i < (mixL kind σ ks i).length) : (mixL kind σ ks i)[i] = ks[i] := by
  simp only [mixL, subL_map]
  rw [List.getElem_append_right (by simp; omega)]
  simp [Nat.min_eq_left (Nat.le_of_lt h)]
theorem mixL_set {kind : Int} {σ : Int → Option Tp} {ks : List Tp} {i : Nat} (h : i < ks.length) : (mixL kind σ ks i).set i (sub kind σ ks[i]) = mixL kind σ ks (i + 1) := by
  simp only [mixL, subL_map]
  rw [List.set_append_right _ _ (by simp; omega)]
  simp only [List.length_map, List.length_take, Nat.min_eq_left (Nat.le_of_lt h), Nat.sub_self]
  rw [List.drop_eq_getElem_cons h, List.set_cons_zero, List.take_succ_eq_append_getElem h, List.map_append, List.append_assoc]
  rfl
theorem mixL_zero (kind : Int) (σ : Int → Option Tp) (ks : List Tp) : mixL kind σ ks 0 = ks := by simp [mixL, subL]
theorem mixL_all (kind : Int) (σ : Int → Option Tp) (ks : List Tp) : mixL kind σ ks ks.length = subL kind σ ks := by simp [mixL]
theorem encK_set (l : List Tp) (i : Nat) (hi : i < l.length) (x : Tp) : ovl (encK l) (i * 3) (encT x) = encK (l.set i x) := by
  rw [encK_eq, encK_eq]; exact fl_set encT_len l i hi x

abbrev putH (kind : Int) (fr : List Int) (to : List Tp) (k n : Int) (ks ms : List Tp) : Hp :=
  [(0, .blk 81 [.d (.int .i64 kind), .d (dI fr), .d (dK to)]), (1, .blk 24 [.d (.int .i64 k), .d (.int .i64 n), .row 3]), (2, .blk 24 [.d (.int .i64 0), .d (.int .i64 0), .nl]), (3, .row 24 40 3 ks.length (encK ms))]
theorem put0_fn (kind : Int) (fr : List Int) (to : List Tp) (hft : fr.length = to.length) (hcl : ∀ (q : Nat) (h : q < to.length), FnR Try.prog G0 52 [dT to[q]] (dT to[q])) : ∀ t : Tp, FnR Try.prog G0 62 [dP kind fr to, dT t] (dT (sub kind (tbl fr to) t)) := by
  refine Tp.ind fun k n ks ih => ?_
  refine fnQ_sz fun hs => ?_
  have hl := (szOk_T (t := .mk k n ks) hs.2.1).1
  simp only [mk_kids, LB] at hl
  obtain ⟨q1, q2⟩ := tbl_idx fr to n 0 (by omega) (by omega)
  have hsub : ¬ (k = kind ∧ 0 ≤ idxFrom fr n 0) → sub kind (tbl fr to) (.mk k n ks) = .mk k n (subL kind (tbl fr to) ks) := by
    intro h
    rw [sub]
    by_cases hk : k = kind
    · rw [if_pos hk, q1 (by rcases Int.lt_or_le (idxFrom fr n 0) 0 with h' | h'; exact h'; exact absurd ⟨hk, h'⟩ h)]
    · rw [if_neg hk]
  refine fnQ_of_vc txok mixed ((100005, .done) :: [(9, .pure 0 (.take 1 (.pure 2 (.take 3 (.take 4 (.run 5 (.pure 6 (.fin 7 .done))))))))]) Try.func62 rfl rfl (by simp) fun b => ?_
  conv => whnf
  refine CutC.mk (fun st => ¬ (k = kind ∧ 0 ≤ idxFrom fr n 0) ∧ st = ⟨[(2, .own 0 0), (3, .own 1 0), (4, .own 2 0)], [(0, .blk 81 [.d (.int .i64 kind), .d (dI fr), .d (dK to)]), (1, .blk 24 [.d (.int .i64 k), .d (.int .i64 n), .d (dK ks)]), (2, .blk 24 [.d (.int .i64 0), .d (.int .i64 0), .nl])], 3⟩) ?_ ?_
  · conv => whnf
    simp only [mk_k]
    refine And.intro (fun hk => ?_) (fun hk => ?_)
    · have hk := eq_of_beq hk
      conv => whnf
      refine callF (index_fn fr n) gf56 rfl rfl ?_
      conv => whnf
      refine And.intro (fun hp => ?_) (fun hp => ?_)
      · have hp := of_decide_eq_true hp
        obtain ⟨q, q3, q4, q5⟩ := q2 (by omega)
        have hq : q < to.length := by omega
        rw [List.getElem?_eq_getElem hq] at q5
        have hsb : sub kind (tbl fr to) (.mk k n ks) = to[q] := by rw [sub, if_pos hk, q5]
        conv => whnf
        refine IdxC.encK q hq (by rw [q3]; omega) ?_
        conv => whnf
        refine callF (hcl q hq) gf52 rfl rfl ?_
        conv => whnf
        rw [hsb]
        rfl
      · have hp := of_decide_eq_false hp
        conv => whnf
        exact ⟨_, ⟨fun h => hp h.2, rfl⟩, weak_of rfl (by repeat ((conv => whnf); first | exact trivial | refine And.intro rfl ?_ | refine And.intro (incD (by omega)) ?_)) (by repeat ((conv => whnf); first | exact trivial | refine And.intro rfl ?_ | refine And.intro (incD (by omega)) ?_))⟩
    · have hk : k ≠ kind := by simpa using hk
      conv => whnf
      exact ⟨_, ⟨fun h => hk h.1, rfl⟩, weak_of rfl (by repeat ((conv => whnf); first | exact trivial | refine And.intro rfl ?_ | refine And.intro (incD (by omega)) ?_)) (by repeat ((conv => whnf); first | exact trivial | refine And.intro rfl ?_ | refine And.intro (incD (by omega)) ?_))⟩
  · rintro st' ⟨hno, rfl⟩
    have hsub := hsub hno
    conv => whnf
    refine callT [] (sclone_tri ks) gf57 rfl rfl trivial rfl ?_
    rintro o' H' ⟨rfl, rfl⟩
    conv => whnf
    refine loopH (fun i : Nat => i ≤ ks.length) (fun i => ks.length - i) (fun i => [(33, .d (.int .i64 i))]) (fun i => putH kind fr to k n ks (mixL kind (tbl fr to) ks i)) 4 0 (by omega) ?_ ?_
    · rw [mixL_zero]
      exact weak_of rfl (by repeat ((conv => whnf); first | exact trivial | refine And.intro rfl ?_ | refine And.intro (incD (by omega)) ?_)) (by repeat ((conv => whnf); first | exact trivial | refine And.intro rfl ?_ | refine And.intro (incD (by omega)) ?_))
    intro i hi
    conv => whnf
    refine And.intro (fun hb => ?_) (fun hb => ?_)
    · have hb := of_decide_eq_true hb
      have hil : i < ks.length := by omega
      have hml := mixL_len kind (tbl fr to) ks i
      conv => whnf
      refine ⟨i, rfl, hil, ?_⟩
      conv => whnf
      refine ⟨encT ks[i], by rw [← mixL_get (kind := kind) (σ := tbl fr to) hil (by omega)]; exact encK_at _ i (by omega), rfl, ?_⟩
      conv => whnf
      refine And.intro (by kernel_rfl) ?_
      conv => whnf
      refine callF (ih ks[i] (by simp)) gf62 rfl rfl ?_
      conv => whnf
      refine ⟨i, rfl, hil, ?_⟩
      conv => whnf
      refine ⟨encK (mixL kind (tbl fr to) ks (i + 1)), ?_, ?_, ?_⟩
      · show i * 3 + 3 ≤ (encK (mixL kind (tbl fr to) ks i)).length
        rw [encK_len, hml]; omega
      · rw [← mixL_set hil]; exact encK_set _ i (by omega) _
      conv => whnf
      exact again (i + 1) (by omega) (by omega) (weak_of rfl (by repeat ((conv => whnf); first | exact trivial | refine And.intro rfl ?_ | refine And.intro (incD (by omega)) ?_)) (by repeat ((conv => whnf); first | exact trivial | refine And.intro rfl ?_ | refine And.intro (incD (by omega)) ?_)))
    · have hb := of_decide_eq_false hb
      have hi : i = ks.length := by omega
      subst hi
      rw [mixL_all]
      conv => whnf
      rw [hsub]
      simp only [dT, encT, mk_k, mk_n, mk_kids]
      rw [show (subL kind (tbl fr to) ks).length = ks.length from by rw [subL_map, List.length_map]]
theorem clone_fn (t : Tp) : FnR Try.prog G0 52 [dT t] (dT t) := by
  refine fnQ_of_vc txok mixed [] Try.func52 rfl rfl (by simp) fun b => ?_
  conv => whnf
  refine callF (put0_fn 0 [] [] rfl (fun q h => absurd h (Nat.not_lt_zero _)) t) gf62 rfl rfl ?_
  conv => whnf
  rw [sub_none _ _ (fun n => by simp [tbl])]
  rfl
theorem put_fn (kind : Int) (fr : List Int) (to : List Tp) (hft : fr.length = to.length) (t : Tp) : FnR Try.prog G0 62 [dP kind fr to, dT t] (dT (sub kind (tbl fr to) t)) :=
  put0_fn kind fr to hft (fun q h => clone_fn to[q]) t
def tp0 : Tp := .mk 0 0 []
def repl (t : Tp) (kind : Int) (fr : List Int) (to : List Tp) : Tp × Int :=
  if fr.length = to.length then (if szT (sub kind (tbl fr to) t) ≤ 1000 then (sub kind (tbl fr to) t, 0) else (tp0, 3)) else (tp0, 1)
def replD (r : Tp × Int) : D := .tup [dT r.1, .int .i64 r.2]
theorem replace_fn (t : Tp) (kind : Int) (fr : List Int) (to : List Tp) : FnR Try.prog G0 49 [dT t, .int .i64 kind, dI fr, dK to] (replD (repl t kind fr to)) := by
  refine fnQ_of_vc txok mixed [] Try.func49 rfl rfl (by simp) fun b => ?_
  conv => whnf
  refine And.intro (fun h => ?_) (fun h => ?_)
  · have h : fr.length ≠ to.length := by intro e; rw [e] at h; simp at h
    conv => whnf
    rw [repl, if_neg h]
    rfl
  · have h : fr.length = to.length := by
      have : ((fr.length : Int) == (to.length : Int)) = true := by simpa using h
      have := eq_of_beq this; omega
    rw [repl, if_pos h]
    conv => whnf
    refine callF (psize_fn kind fr to h t 1000 (by omega)) gf61 rfl rfl ?_
    conv => whnf
    refine And.intro (fun h2 => ?_) (fun h2 => ?_)
    · have h2 := of_decide_eq_true h2
      have := cutN_gt (n := szT (sub kind (tbl fr to) t)) (most := 1000) (by omega)
      rw [if_neg (by omega)]
      conv => whnf
      rfl
    · have h2 := of_decide_eq_false h2
      have : szT (sub kind (tbl fr to) t) ≤ 1000 := by
        rcases Nat.lt_or_ge 1000 (szT (sub kind (tbl fr to) t)) with h' | h'
        · rw [cutN_big h'] at h2; omega
        · exact h'
      rw [if_pos this]
      conv => whnf
      refine callF (put_fn kind fr to h t) gf62 rfl rfl ?_
      conv => whnf
      rfl
end Go.Proofs.Ytonhlccjfbfkcaa

