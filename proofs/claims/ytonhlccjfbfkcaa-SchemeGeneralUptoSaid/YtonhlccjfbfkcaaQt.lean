/- The reference's put, Instantiate and Instance; the program's Instance. -/
import Derived.Test.YtonhlccjfbfkcaaQs
set_option linter.unusedSimpArgs false
set_option linter.unusedVariables false
namespace Go.Proofs.Ytonhlccjfbfkcaa
open Go.Vx Go.Vc Go.RowKit

theorem tbl_drop {fr : List Int} {to : List Tp} {n : Int} {i : Nat} (h : i < fr.length) (h' : i < to.length) : tbl (fr.drop i) (to.drop i) n = if n = fr[i] then some to[i] else tbl (fr.drop (i + 1)) (to.drop (i + 1)) n := by
  rw [List.drop_eq_getElem_cons h, List.drop_eq_getElem_cons h', tbl]
theorem put12_fn (kind : Int) (fr : List Int) (to : List Tp) (hft : fr.length = to.length) : ∀ t : Tp, FnR Try.prog G0 47 [dT t, .int .i64 kind, dI fr, dK to] (dT (sub kind (tbl fr to) t)) := by
  refine Tp.ind fun k n ks ih => ?_
  refine fnQ_sz fun hs => ?_
  have hl := (szOk_T (t := .mk k n ks) hs.1).1
  have hfl := (szOk_sl hs.2.2.1).1
  simp only [mk_kids, LB] at hl hfl
  have hsub : ¬ (k = kind ∧ tbl fr to n ≠ none) → sub kind (tbl fr to) (.mk k n ks) = .mk k n (subL kind (tbl fr to) ks) := by
    intro h
    rw [sub]
    by_cases hk : k = kind
    · rw [if_pos hk]
      have : tbl fr to n = none := Classical.byContradiction fun h' => h ⟨hk, h'⟩
      rw [this]
    · rw [if_neg hk]
  refine fnQ_of_vc txok mixed ((100007, .done) :: [(5, .pure 0 (.pure 1 (.pure 2 (.take 3 (.pure 4 (.take 5 (.pure 6 .done))))))), (11, .pure 0 (.take 1 (.pure 2 (.take 3 (.pure 4 (.pure 5 (.take 6 (.pure 7 (.pure 8 (.pure 9 (.run 10 (.run 11 (.fin 12 (.pure 13 (.fin 14 .done)))))))))))))))]) Try.func47 rfl rfl (by simp) fun b => ?_
  conv => whnf
  refine CutC.mk (fun st => ¬ (k = kind ∧ tbl fr to n ≠ none) ∧ st = ⟨[(1, .d (.int .i64 kind)), (2, .d (dI fr)), (3, .d (dK to)), (4, .own 0 0), (8, .own 1 0)], [(0, .blk 24 [.d (.int .i64 k), .d (.int .i64 n), .d (dK ks)]), (1, .blk 24 [.d (.int .i64 0), .d (.int .i64 0), .nl])], 2⟩) ?_ ?_
  · conv => whnf
    simp only [mk_k]
    refine And.intro (fun hk => ?_) (fun hk => ?_)
    · have hk := eq_of_beq hk
      conv => whnf
      refine loopH (fun i : Nat => i ≤ fr.length ∧ tbl fr to n = tbl (fr.drop i) (to.drop i) n) (fun i => fr.length - i) (fun i => [(9, .d (.int .i64 i))]) (fun _ => [(0, .blk 24 [.d (.int .i64 k), .d (.int .i64 n), .d (dK ks)]), (1, .blk 24 [.d (.int .i64 0), .d (.int .i64 0), .nl])]) 2 0 ⟨by omega, rfl⟩ (weak_of rfl (by repeat ((conv => whnf); first | exact trivial | refine And.intro rfl ?_ | refine And.intro (incD (by omega)) ?_)) (by repeat ((conv => whnf); first | exact trivial | refine And.intro rfl ?_ | refine And.intro (incD (by omega)) ?_))) ?_
      rintro i ⟨hi, hx⟩
      conv => whnf
      refine And.intro (fun hb => ?_) (fun hb => ?_)
      · have hb := of_decide_eq_true hb
        have hil : i < fr.length := by omega
        have hit : i < to.length := by omega
        rw [tbl_drop hil hit] at hx
        conv => whnf
        refine And.intro (by kernel_rfl) ?_
        conv => whnf
        refine IdxC.encI i hil rfl ?_
        conv => whnf
        simp only [mk_n]
        refine And.intro (fun he => ?_) (fun he => ?_)
        · have he := eq_of_beq he
          rw [if_pos he.symm] at hx
          have hsb : sub kind (tbl fr to) (.mk k n ks) = to[i] := by rw [sub, if_pos hk, hx]
          conv => whnf
          refine IdxC.encK i hit rfl ?_
          conv => whnf
          rw [hsb]
          rfl
        · have he : fr[i] ≠ n := by simpa using he
          rw [if_neg (fun h => he h.symm)] at hx
          conv => whnf
          exact again (i + 1) (by omega) ⟨by omega, hx⟩ (weak_of rfl (by repeat ((conv => whnf); first | exact trivial | refine And.intro rfl ?_ | refine And.intro (incD (by omega)) ?_)) (by repeat ((conv => whnf); first | exact trivial | refine And.intro rfl ?_ | refine And.intro (incD (by omega)) ?_)))
      · have hb := of_decide_eq_false hb
        conv => whnf
        refine ⟨_, ⟨fun h => h.2 ?_, rfl⟩, weak_of rfl (by repeat ((conv => whnf); first | exact trivial | refine And.intro rfl ?_ | refine And.intro (incD (by omega)) ?_)) (by repeat ((conv => whnf); first | exact trivial | refine And.intro rfl ?_ | refine And.intro (incD (by omega)) ?_))⟩
        rw [hx, List.drop_eq_nil_of_le (by omega)]
        simp [tbl]
    · have hk : k ≠ kind := by simpa using hk
      conv => whnf
      exact ⟨_, ⟨fun h => hk h.1, rfl⟩, weak_of rfl (by repeat ((conv => whnf); first | exact trivial | refine And.intro rfl ?_ | refine And.intro (incD (by omega)) ?_)) (by repeat ((conv => whnf); first | exact trivial | refine And.intro rfl ?_ | refine And.intro (incD (by omega)) ?_))⟩
  · rintro st' ⟨hno, rfl⟩
    have hsub := hsub hno
    conv => whnf
    refine loopH (fun i : Nat => i ≤ ks.length) (fun i => ks.length - i) (fun i => [(11, .d (.int .i64 i))]) (fun i => rputH k n ks (subL kind (tbl fr to) (ks.take i)) i) 4 0 (by omega) ?_ ?_
    · exact (weak_nlC 2 2 24 40 3 rfl rfl).trans (weak_of rfl (by repeat ((conv => whnf); first | exact trivial | refine And.intro rfl ?_ | refine And.intro (incD (by omega)) ?_)) (by repeat ((conv => whnf); first | exact trivial | refine And.intro rfl ?_ | refine And.intro (incD (by omega)) ?_)))
    intro i hi
    conv => whnf
    refine And.intro (fun hb => ?_) (fun hb => ?_)
    · have hb : (i : Int) < (ks.length : Int) := of_decide_eq_true hb
      have hil : i < ks.length := by omega
      have hxs : encK (subL kind (tbl fr to) (ks.take i)) ++ encT (sub kind (tbl fr to) ks[i]) = encK (subL kind (tbl fr to) (ks.take (i + 1))) := by
        rw [List.take_succ_eq_append_getElem hil, subL_map, subL_map, List.map_append, encK_app]
        simp only [List.map_cons, List.map_nil, Vx.encK, encT0_eq, List.append_nil]
      conv => whnf
      refine And.intro (by kernel_rfl) ?_
      conv => whnf
      refine IdxC.encK i hil rfl ?_
      conv => whnf
      refine callF (ih ks[i] (by simp)) gf47 rfl rfl ?_
      conv => whnf
      refine appR (i := 3) (sz := 3) (n := i) (m := 1) (xs := encK (subL kind (tbl fr to) (ks.take i))) (ys := encT (sub kind (tbl fr to) ks[i])) txok (fun k => Nat.blt 3 k) (i + 1) (encK (subL kind (tbl fr to) (ks.take (i + 1)))) rfl rfl rfl (by kernel_rfl) rfl (encT_scal _) rfl hxs (by simp only [LB]; omega) ?_
      conv => whnf
      exact again (i + 1) (by omega) (by omega) (weak_of rfl (by repeat ((conv => whnf); first | exact trivial | refine And.intro rfl ?_ | refine And.intro (incD (by omega)) ?_)) (by repeat ((conv => whnf); first | exact trivial | refine And.intro rfl ?_ | refine And.intro (incD (by omega)) ?_)))
    · have hb : ¬ (i : Int) < (ks.length : Int) := of_decide_eq_false hb
      have hi : i = ks.length := by omega
      subst hi
      rw [List.take_length]
      conv => whnf
      rw [hsub]
      simp only [dT, encT, mk_k, mk_n, mk_kids]
      rw [show (subL kind (tbl fr to) ks).length = ks.length from by rw [subL_map, List.length_map]]
theorem vmetaL (n : Int) (k : Nat) : Vm.metaL n (k + 1) = Vm.metaL n k ++ [.mk 7 (n + (k : Int)) []] := by
  simp only [Vm.metaL, List.range_succ, List.map_append, List.map_cons, List.map_nil]
theorem rightS_g {s : Sc} (h : Vm.rightS s = true) : s.g = ((fnd 8 s.t []).length : Int) := by
  simp only [Vm.rightS, Bool.and_eq_true, decide_eq_true_eq, vfnd] at h
  exact h.2.2.symm
theorem rinstantiate_fn (s : Sc) (next : Int) (hz : szT s.t ≤ BIG) : FnR Try.prog G0 27 [dS s, .int .i64 next] (instD s next) := by
  have hR := rrightS_fn s hz
  have hin : instD s next = if Vm.instOk s next = true then .tup [dT (Vm.instT s next), .int .i64 (next + s.g), .int .i64 0] else .tup [dT (.mk 0 0 []), .int .i64 0, .int .i64 1] := rfl
  have hok : Vm.instOk s next = (Vm.rightS s && (decide (0 ≤ next) && decide (next ≤ 2147483647))) := rfl
  refine fnQ_of_vc txok mixed [(8, .pure 0 (.take 1 (.pure 2 (.take 3 (.pure 5 (.pure 7 (.pure 8 (.take 9 (.pure 10 (.run 4 (.run 6 (.run 11 (.pure 12 (.pure 13 .done))))))))))))))] Try.func27 rfl rfl (by simp) fun b => ?_
  conv => whnf
  refine callF hR gf45 rfl rfl ?_
  rcases hr : Vm.rightS s with _ | _
  · rw [hr, Bool.false_and] at hok
    rw [hin, hok]
    conv => whnf
    refine And.intro (fun h => by simp at h) (fun _ => ?_)
    conv => whnf
    rfl
  · rw [hr, Bool.true_and] at hok
    have hg := rightS_g hr
    conv => whnf
    refine And.intro (fun _ => ?_) (fun h => by simp at h)
    conv => whnf
    rcases h0 : decide (next < 0) with _ | _
    · have h0 := of_decide_eq_false h0
      have d0 : decide (0 ≤ next) = true := decide_eq_true (by omega)
      rw [d0, Bool.true_and] at hok
      conv => whnf
      refine And.intro (fun _ => ?_) (fun h => by simp at h)
      conv => whnf
      refine And.intro (fun h1 => ?_) (fun h1 => ?_)
      · have h1 := of_decide_eq_true h1
        have d1 : decide (next ≤ 2147483647) = false := decide_eq_false (by omega)
        rw [hin, hok, d1]
        conv => whnf
        rfl
      · have h1 := of_decide_eq_false h1
        have d1 : decide (next ≤ 2147483647) = true := decide_eq_true (by omega)
        rw [hin, hok, d1, if_pos rfl]
        conv => whnf
        have hgN := fnd8 hz 8
        simp only [BIG] at hgN
        generalize hgn : (fnd 8 s.t []).length = g at hg hgN
        refine loopH (fun i : Nat => i ≤ g) (fun i => g - i) (fun i => [(8, .d (.int .i64 i)), (7, .row 2)]) (fun i => [(0, .blk 29 [.d (.int .i64 s.g), .d (.int .i64 s.t.k), .d (.int .i64 s.t.n), .d (dK s.t.kids)]), (1, .blk 24 [.d (.int .i64 0), .d (.int .i64 0), .nl]), (2, .row 24 40 3 i (encK (Vm.metaL next i)))]) 3 0 (by omega) ?_ ?_
        · exact (weak_nlT 7 24 40 3 rfl).trans (weak_of rfl (by repeat ((conv => whnf); first | exact trivial | refine And.intro rfl ?_ | refine And.intro (incD (by omega)) ?_)) (by repeat ((conv => whnf); first | exact trivial | refine And.intro rfl ?_ | refine And.intro (incD (by omega)) ?_)))
        intro i hi
        conv => whnf
        refine And.intro (fun hb => ?_) (fun hb => ?_)
        · have hb : (i : Int) < s.g := of_decide_eq_true hb
          conv => whnf
          have hw : IntKind.i64.wrap (next + (i : Int)) = next + (i : Int) := Go.Vc.wrap_small (by omega) (by omega)
          refine appR (i := 2) (sz := 3) (n := i) (m := 1) (xs := encK (Vm.metaL next i)) (ys := encT (.mk 7 (IntKind.i64.wrap (next + (i : Int))) [])) txok (fun k => Nat.blt 2 k) (i + 1) (encK (Vm.metaL next (i + 1))) rfl rfl rfl (by kernel_rfl) rfl (encT_scal _) rfl (by rw [hw, vmetaL, encK_app]; simp only [Vx.encK, encT0_eq, List.append_nil]) (by simp only [LB]; omega) ?_
          conv => whnf
          exact again (i + 1) (by omega) (by omega) (weak_of rfl (by repeat ((conv => whnf); first | exact trivial | refine And.intro rfl ?_ | refine And.intro (incD (by omega)) ?_)) (by repeat ((conv => whnf); first | exact trivial | refine And.intro rfl ?_ | refine And.intro (incD (by omega)) ?_)))
        · have hb : ¬ (i : Int) < s.g := of_decide_eq_false hb
          have hi : i = g := by omega
          subst hi
          conv => whnf
          have hfs : (fnd 8 s.t []).length * 8 ≤ LB := by rw [hgn]; simp only [LB]; omega
          have hw : IntKind.i64.wrap (next + s.g) = next + s.g := Go.Vc.wrap_small (by omega) (by omega)
          refine And.intro (by kernel_rfl) ?_
          conv => whnf
          refine callF (rgens_fn s.t hfs) gf48 rfl rfl ?_
          conv => whnf
          refine pubC (fun k => Nat.beq k 2) ?_
          conv => whnf
          have hP := put12_fn 8 (fnd 8 s.t []) (Vm.metaL next i) (by rw [hgn, Vm.metaL_length]) s.t
          simp only [dK, Vm.metaL_length] at hP
          refine callF hP gf47 rfl rfl ?_
          conv => whnf
          have e : Vm.instT s next = sub 8 (tbl (fnd 8 s.t []) (Vm.metaL next i)) s.t := by
            unfold Vm.instT
            rw [vsub, vfnd, hgn]
            congr 1
            funext n
            exact vtbl _ _ n
          rw [e, hw]
          rfl
    · have h0 := of_decide_eq_true h0
      have d0 : decide (0 ≤ next) = false := decide_eq_false (by omega)
      rw [hin, hok, d0]
      conv => whnf
      refine And.intro (fun h => by simp at h) (fun _ => ?_)
      conv => whnf
      rfl
/-- What Instance answers. -/
def instOf (s : Sc) (l : List Tp) : Tp × Int := if Vm.rightS s = true ∧ (l.length : Int) = s.g then repl s.t 8 (fnd 8 s.t []) l else (.mk 0 0 [], 1)
theorem instance_fn (s : Sc) (l : List Tp) (hz : szT s.t ≤ BIG) : FnR Try.prog G0 28 [dS s, dK l] (replD (instOf s l)) := by
  have hR := rightS_fn s hz
  have hgN := fnd8 hz 8
  have hfs : (fnd 8 s.t []).length * 8 ≤ LB := by simp only [BIG] at hgN; simp only [LB]; omega
  refine fnQ_of_vc txok mixed [(3, .pure 0 (.take 1 (.pure 2 (.take 3 (.pure 5 (.run 4 (.fin 6 (.pure 7 (.pure 8 (.fin 9 (.pure 10 .done)))))))))))] Try.func28 rfl rfl (by simp) fun b => ?_
  conv => whnf
  refine callF hR gf22 rfl rfl ?_
  rcases hr : Vm.rightS s with _ | _
  · have e : instOf s l = (.mk 0 0 [], 1) := by rw [instOf, if_neg (fun h => by rw [hr] at h; simp at h)]
    rw [e]
    conv => whnf
    refine And.intro (fun h => by simp at h) (fun _ => ?_)
    conv => whnf
    rfl
  · conv => whnf
    refine And.intro (fun _ => ?_) (fun h => by simp at h)
    conv => whnf
    refine And.intro (fun h => ?_) (fun h => ?_)
    · have h : (l.length : Int) ≠ s.g := by simpa using h
      have e : instOf s l = (.mk 0 0 [], 1) := by rw [instOf, if_neg (fun h' => h h'.2)]
      rw [e]
      conv => whnf
      rfl
    · have h : (l.length : Int) = s.g := by simpa using h
      have e : instOf s l = repl s.t 8 (fnd 8 s.t []) l := by rw [instOf, if_pos ⟨hr, h⟩]
      rw [e]
      have fA := replace_fn s.t 8 (fnd 8 s.t []) l
      generalize repl s.t 8 (fnd 8 s.t []) l = r at *
      conv => whnf
      refine And.intro (by kernel_rfl) ?_
      conv => whnf
      refine callF (gens_fn s.t hfs) gf14 rfl rfl ?_
      conv => whnf
      refine callF fA gf49 rfl rfl ?_
      conv => whnf
      rfl
theorem rinstance_fn (s : Sc) (l : List Tp) (hz : szT s.t ≤ BIG) : FnR Try.prog G0 29 [dS s, dK l] (replD (instOf s l)) := by
  have hR := rrightS_fn s hz
  have hgN := fnd8 hz 8
  have hfs : (fnd 8 s.t []).length * 8 ≤ LB := by simp only [BIG] at hgN; simp only [LB]; omega
  refine fnQ_of_vc txok mixed [(3, .pure 0 (.take 1 (.pure 2 (.take 3 (.pure 5 (.run 4 (.fin 6 (.pure 7 (.pure 8 (.fin 9 (.pure 10 .done)))))))))))] Try.func29 rfl rfl (by simp) fun b => ?_
  conv => whnf
  refine callF hR gf45 rfl rfl ?_
  rcases hr : Vm.rightS s with _ | _
  · have e : instOf s l = (.mk 0 0 [], 1) := by rw [instOf, if_neg (fun h => by rw [hr] at h; simp at h)]
    rw [e]
    conv => whnf
    refine And.intro (fun h => by simp at h) (fun _ => ?_)
    conv => whnf
    rfl
  · conv => whnf
    refine And.intro (fun _ => ?_) (fun h => by simp at h)
    conv => whnf
    refine And.intro (fun h => ?_) (fun h => ?_)
    · have h : (l.length : Int) ≠ s.g := by simpa using h
      have e : instOf s l = (.mk 0 0 [], 1) := by rw [instOf, if_neg (fun h' => h h'.2)]
      rw [e]
      conv => whnf
      rfl
    · have h : (l.length : Int) = s.g := by simpa using h
      have e : instOf s l = repl s.t 8 (fnd 8 s.t []) l := by rw [instOf, if_pos ⟨hr, h⟩]
      rw [e]
      have fA := rreplace_fn s.t 8 (fnd 8 s.t []) l
      generalize repl s.t 8 (fnd 8 s.t []) l = r at *
      conv => whnf
      refine And.intro (by kernel_rfl) ?_
      conv => whnf
      refine callF (rgens_fn s.t hfs) gf48 rfl rfl ?_
      conv => whnf
      refine callF fA gf50 rfl rfl ?_
      conv => whnf
      rfl

theorem instances_fn (s : Sc) (next : Int) (l : List Tp) (hz : szT s.t ≤ BIG) : FnR Try.prog G0 7 [dS s, .int .i64 next, dK l] (.bool true) := by
  have iA := instantiate_fn s next hz
  have iB := rinstantiate_fn s next hz
  have iC := instance_fn s l hz
  have iD := rinstance_fn s l hz
  obtain ⟨x, m, e, hx⟩ : ∃ (x : Tp) (m e : Int), instD s next = .tup [dT x, .int .i64 m, .int .i64 e] := by
    unfold instD; split
    · exact ⟨_, _, _, rfl⟩
    · exact ⟨_, _, _, rfl⟩
  rw [hx] at iA iB
  generalize instOf s l = r at *
  have sA := rsame_fn x x
  have sB := rsame_fn r.1 r.1
  rw [cmpT_refl] at sA sB
  refine fnQ_of_vc txok mixed [] Try.func7 rfl rfl (by simp) fun b => ?_
  conv => whnf
  refine callF iA gf24 rfl rfl ?_
  conv => whnf
  refine callF iB gf27 rfl rfl ?_
  conv => whnf
  refine callF iC gf28 rfl rfl ?_
  conv => whnf
  refine callF iD gf29 rfl rfl ?_
  conv => whnf
  refine callF sA gf30 rfl rfl ?_
  conv => whnf
  refine And.intro (fun _ => ?_) (fun h => by simp at h)
  conv => whnf
  refine And.intro (fun _ => ?_) (fun h => by simp at h)
  conv => whnf
  refine And.intro (fun _ => ?_) (fun h => by simp at h)
  conv => whnf
  refine callF sB gf30 rfl rfl ?_
  conv => whnf
  refine And.intro (fun _ => ?_) (fun h => by simp at h)
  conv => whnf
  refine And.intro (fun _ => ?_) (fun h => by simp at h)
  conv => whnf
  exact callF alive_fn gf10 rfl rfl rfl
end Go.Proofs.Ytonhlccjfbfkcaa
