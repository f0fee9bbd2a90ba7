/- The law SchemeKept: it tells true. -/
import Derived.Test.YtonhlccjfbfkcaaTr
namespace Go.Proofs.Ytonhlccjfbfkcaa
open Go.Vc Go.RowKit

theorem kept_calls (S : Nat → Prop) (w : World) (t : Tp) (v : Value) (A : Option Addr) (c : Nat) (keep : List Int) (ht : RepT S w t v) (hk : keep.length ≤ 1073741824) (hkeep : Cells S w A (ints keep)) (hsz : szT t ≤ 1073741824) :
    Calls Try.prog 3 #[v, .slice A keep.length c] w (fun e w' => e = .returned (.bool true) ∧ Below w.heap.size w w') := by
  have ht' := ht
  have hf7 := fnd_sz 7 t []
  have hf8 := fnd_sz 8 t []
  simp only [List.length_nil, Nat.zero_add] at hf7 hf8
  obtain ⟨B, d, rfl, b1, b2, b3⟩ := ht.opn
  refine calls_of_vc (args := [_, _]) (plans := [(4, ([0, 1], .take 0 (.pure 2 (.take 3 (.run 1 (.run 4 (.pure 5 (.pure 6 .done)))))))), (18, ([0, 1], .pure 0 (.take 1 (.pure 2 (.take 3 (.run 4 (.pure 5 (.pure 6 (.pure 7 (.pure 8 (.pure 9 (.take 10 (.pure 13 (.take 14 (.run 11 (.pure 12 (.pure 15 (.pure 16 (.pure 17 (.run 18 (.pure 19 (.pure 20 .done))))))))))))))))))))))]) tyok mixed Try.func3 rfl rfl (by simp) (fun q => S q ∧ q < w.heap.size) (fun q h => h.2) ?_
  conv => whnf
  intro g0
  conv => whnf
  refine ⟨gf9, fun w1 hw1 => scalK (rright_calls t S w1 _ (ht'.to (hw1.samev S) (fun _ h _ => h))) hw1 ?_⟩
  rcases hr : rightT t with _ | _
  · conv => whnf
    refine ⟨fun _ => ?_, nofun⟩
    conv => whnf
    refine ⟨gf10, fun w1 hw1 => scalK (alive_calls w1) hw1 ?_⟩
    conv => whnf
    intro w2 hw2
    exact ⟨rfl, hw2.bel⟩
  conv => whnf
  refine ⟨nofun, fun _ => ?_⟩
  obtain ⟨k1, k2, k3⟩ := genAll_occ (keep := keep) (right_leafy t hr)
  have hml : (openMs t keep).length ≤ (fnd 7 t []).length := List.length_filter_le _ _
  have hg : (genAll t keep).g = ((openMs t keep).length : Int) + (fnd 8 t []).length := rfl
  have hg' : (genAll t keep).g = (((openMs t keep).length + (fnd 8 t []).length : Nat) : Int) := by rw [hg]; push_cast; rfl
  have hl8 : (fnd 8 (genAll t keep).t []).length = (openMs t keep).length + (fnd 8 t []).length := len_of_range (nodup_fnd 8 _ [] List.nodup_nil) fun x => by rw [mem_fnd]; simp only [List.not_mem_nil, false_or]; rw [k2, hg']
  have hm7 : ∀ x, x ∈ fnd 7 (genAll t keep).t [] ↔ x ∈ fnd 7 t [] ∧ x ∈ keep := fun x => by rw [mem_fnd, mem_fnd]; simp only [List.not_mem_nil, false_or]; exact k1 x
  have hl7 : (fnd 7 (genAll t keep).t []).length ≤ (fnd 7 t []).length := nodup_len (nodup_fnd 7 _ [] List.nodup_nil) fun x hx => ((hm7 x).1 hx).1
  conv => whnf
  refine ⟨gf11, fun w1 hw1 => resN (generalise_calls (fun q => S q ∧ q < w.heap.size) w1 t _ A c keep (ht'.to (hw1.samev S) (fun _ h hl => ⟨h, hl⟩)) (by omega) (hkeep.to (hw1.samev S) (fun _ h hl => ⟨h, hl⟩)) (by unfold LIM; omega) (by unfold LIM; omega)) hw1 fun v1 w2 p2 hv1 st2 => ?_⟩
  have hv1 := hv1.nw st2
  have htp : RepT p2 w2 t _ := (ht'.to (Same.rfl' _ _) (fun _ h hl => (⟨h, hl⟩ : S _ ∧ _ < w.heap.size))).mv st2
  have hkp : Cells p2 w2 A (ints keep) := (hkeep.to (Same.rfl' _ _) (fun _ h hl => (⟨h, hl⟩ : S _ ∧ _ < w.heap.size))).mv st2
  obtain ⟨D, dd, rfl, d1, d2, d3⟩ := hv1
  have hs0 := RepS.typ d1 d2 d3
  conv => whnf
  intro g1
  conv => whnf
  refine ⟨by kernel_rfl, rfl, ?_⟩
  conv => whnf
  refine ⟨gf12, fun w3 hw3 => resN (metas_calls p2 w3 t _ (htp.to hw3.same (fun _ h _ => h)) (by omega)) hw3 fun v w4 p4 hv st4 => ?_⟩
  obtain ⟨W, wc, rfl, hW1, hW2⟩ := hv
  have hW := hW1.nw hW2 st4
  have hs0 := hs0.mv st4
  have htp := htp.mv st4
  have hkp := hkp.mv st4
  clear hW1 hW2
  conv => whnf
  refine ⟨⟨⟨rfl, rfl, trivial⟩, ⟨rfl, rfl, trivial⟩, st4.held⟩, ?_⟩
  conv => whnf
  refine ⟨gf12, fun w5 hw5 => resN (metas_calls p4 w5 (genAll t keep).t _ (hs0.to hw5.same (fun _ h _ => h)) (by omega)) hw5 fun v w6 p6 hv st6 => ?_⟩
  obtain ⟨O, oc, rfl, hO1, hO2⟩ := hv
  have hO := hO1.nw hO2 st6
  have hs0 := hs0.mv st6
  have htp := htp.mv st6
  have hkp := hkp.mv st6
  have hW := hW.mv st6
  clear hO1 hO2
  conv => whnf
  refine ⟨⟨⟨rfl, rfl, trivial⟩, ⟨rfl, rfl, trivial⟩, HeldW.trans (st4.held (T := []) (ρ := []) (E := []) (R := [])) st6.held⟩, ?_⟩
  conv => whnf
  refine ⟨fun m st => ∃ i : Nat, i ≤ (fnd 7 (genAll t keep).t []).length ∧ m = (fnd 7 (genAll t keep).t []).length - i ∧
      st = ⟨[(8, .v (.int .i64 i)), (7, .v (.slice O (fnd 7 (genAll t keep).t []).length oc)), (6, .v (.slice W (fnd 7 t []).length wc)), (5, .own 1 0), (2, .own 0 0), (1, .v (.slice A keep.length c))], [g0, g1],
        [(1, ([.v (.int .i64 (genAll t keep).g), .v (.int .i64 (genAll t keep).t.k), .v (.int .i64 (genAll t keep).t.n), .v (.slice D (genAll t keep).t.kids.length dd)], 29)),
         (0, ([.v (.int .i64 t.k), .v (.int .i64 t.n), .v (.slice B t.kids.length d)], 24))], [], p6, w6⟩,
    ⟨(fnd 7 (genAll t keep).t []).length, _, ⟨0, Nat.zero_le _, by simp, rfl⟩, weak_of (preP_refl _) ⟨rfl, rfl, rfl, rfl, rfl, rfl, trivial⟩ ⟨⟨rfl, rfl, rfl⟩, ⟨rfl, rfl, rfl⟩, trivial⟩ (List.Sublist.refl _) rfl rfl⟩, ?_⟩
  rintro m st ⟨i, hi, hm, rfl⟩
  conv => whnf
  refine ⟨fun hb => ?_, fun hb => ?_⟩
  · have hb := of_decide_eq_true hb
    have hil : i < (fnd 7 (genAll t keep).t []).length := by omega
    obtain ⟨hin1, hin2⟩ := (hm7 _).1 (List.getElem_mem hil)
    obtain ⟨ad, rfl, _, hld⟩ := hO.ld1 (P := Try.prog) tk3 rfl (i := i) (v := .int .i64 (fnd 7 (genAll t keep).t [])[i]) (by simp [hil])
    conv => whnf
    refine ⟨ad, rfl, by omega, hb, ?_⟩
    conv => whnf
    intro w7 hw7
    refine ⟨_, hld w7 hw7.same, ?_⟩
    conv => whnf
    refine ⟨gf13, fun w8 hw8 => scalK (lin_calls p6 w8 W wc _ _ (by omega) (hW.to hw8.same (fun _ h _ => h))) hw8 ?_⟩
    rw [decide_eq_true hin1]
    conv => whnf
    refine ⟨fun _ => ?_, nofun⟩
    conv => whnf
    refine ⟨ad, rfl, by omega, hb, ?_⟩
    conv => whnf
    intro w7 hw7
    refine ⟨_, hld w7 hw7.same, ?_⟩
    conv => whnf
    refine ⟨gf13, fun w8 hw8 => scalK (lin_calls p6 w8 A c keep _ (by omega) (hkp.to hw8.same (fun _ h _ => h))) hw8 ?_⟩
    rw [decide_eq_true hin2]
    conv => whnf
    refine ⟨nofun, fun _ => ?_⟩
    conv => whnf
    exact ⟨(fnd 7 (genAll t keep).t []).length - (i + 1), _, by omega, ⟨i + 1, hil, rfl, rfl⟩, weak_of (preP_refl _) ⟨incV (by omega), rfl, rfl, rfl, rfl, rfl, trivial⟩ ⟨⟨rfl, rfl, rfl⟩, ⟨rfl, rfl, rfl⟩, trivial⟩ (List.Sublist.refl _) rfl rfl⟩
  · clear hb hm
    conv => whnf
    refine ⟨fun m st => ∃ (i n : Nat), i ≤ (fnd 7 t []).length ∧ m = (fnd 7 t []).length - i ∧ n = (((fnd 7 t []).take i).filter fun x => !decide (x ∈ keep)).length ∧
        st = ⟨[(10, .v (.int .i64 i)), (9, .v (.int .i64 n)), (7, .v (.slice O (fnd 7 (genAll t keep).t []).length oc)), (6, .v (.slice W (fnd 7 t []).length wc)), (5, .own 1 0), (2, .own 0 0), (1, .v (.slice A keep.length c))], [g0, g1],
          [(1, ([.v (.int .i64 (genAll t keep).g), .v (.int .i64 (genAll t keep).t.k), .v (.int .i64 (genAll t keep).t.n), .v (.slice D (genAll t keep).t.kids.length dd)], 29)),
           (0, ([.v (.int .i64 t.k), .v (.int .i64 t.n), .v (.slice B t.kids.length d)], 24))], [], p6, w6⟩,
      ⟨(fnd 7 t []).length, _, ⟨0, 0, Nat.zero_le _, by simp, by simp, rfl⟩, weak_of (preP_refl _) ⟨rfl, rfl, rfl, rfl, rfl, rfl, rfl, trivial⟩ ⟨⟨rfl, rfl, rfl⟩, ⟨rfl, rfl, rfl⟩, trivial⟩ (List.Sublist.refl _) rfl rfl⟩, ?_⟩
    rintro m st ⟨i, n, hi, hm, hn, rfl⟩
    have hnl : n ≤ (fnd 7 t []).length := by rw [hn]; refine Nat.le_trans (List.length_filter_le _ _) ?_; simp; omega
    conv => whnf
    refine ⟨fun hb => ?_, fun hb => ?_⟩
    · have hb := of_decide_eq_true hb
      have hil : i < (fnd 7 t []).length := by omega
      obtain ⟨ad, rfl, _, hld⟩ := hW.ld1 (P := Try.prog) tk3 rfl (i := i) (v := .int .i64 (fnd 7 t [])[i]) (by simp [hil])
      have hts : (fnd 7 t []).take (i + 1) = (fnd 7 t []).take i ++ [(fnd 7 t [])[i]] := List.take_succ_eq_append_getElem hil
      conv => whnf
      refine ⟨ad, rfl, by omega, hb, ?_⟩
      conv => whnf
      intro w7 hw7
      refine ⟨_, hld w7 hw7.same, ?_⟩
      conv => whnf
      refine ⟨gf13, fun w8 hw8 => scalK (lin_calls p6 w8 A c keep _ (by omega) (hkp.to hw8.same (fun _ h _ => h))) hw8 ?_⟩
      conv => whnf
      refine ⟨fun hk' => ?_, fun hk' => ?_⟩
      · have hk' := of_decide_eq_true hk'
        conv => whnf
        refine ⟨ad, rfl, by omega, hb, ?_⟩
        conv => whnf
        intro w7 hw7
        refine ⟨_, hld w7 hw7.same, ?_⟩
        conv => whnf
        refine ⟨gf13, fun w8 hw8 => scalK (lin_calls p6 w8 O oc _ _ (by omega) (hO.to hw8.same (fun _ h _ => h))) hw8 ?_⟩
        rw [decide_eq_true ((hm7 _).2 ⟨List.getElem_mem hil, hk'⟩)]
        conv => whnf
        refine ⟨nofun, fun _ => ?_⟩
        conv => whnf
        refine ⟨(fnd 7 t []).length - (i + 1), _, by omega, ⟨i + 1, n, hil, rfl, ?_, rfl⟩, weak_of (preP_refl _) ⟨incV (by omega), rfl, rfl, rfl, rfl, rfl, rfl, trivial⟩ ⟨⟨rfl, rfl, rfl⟩, ⟨rfl, rfl, rfl⟩, trivial⟩ (List.Sublist.refl _) rfl rfl⟩
        rw [hn, hts, List.filter_append]; simp [hk']
      · have hk' := of_decide_eq_false hk'
        conv => whnf
        refine ⟨(fnd 7 t []).length - (i + 1), _, by omega, ⟨i + 1, n + 1, hil, rfl, ?_, rfl⟩, weak_of (preP_refl _) ⟨incV (by omega), incV (by omega), rfl, rfl, rfl, rfl, rfl, trivial⟩ ⟨⟨rfl, rfl, rfl⟩, ⟨rfl, rfl, rfl⟩, trivial⟩ (List.Sublist.refl _) rfl rfl⟩
        rw [hn, hts, List.filter_append]; simp [hk']
    · have hb := of_decide_eq_false hb
      have hil : i = (fnd 7 t []).length := by omega
      rw [hil, List.take_length] at hn
      have hn : n = (openMs t keep).length := hn
      conv => whnf
      refine ⟨by kernel_rfl, rfl, ?_⟩
      conv => whnf
      refine ⟨gf14, fun w7 hw7 => resN (gens_calls p6 w7 t _ (htp.to hw7.same (fun _ h _ => h)) (by omega)) hw7 fun v w8 p8 hv st8 => ?_⟩
      obtain ⟨G, gc, rfl, _, _⟩ := hv
      have hs0 := hs0.mv st8
      conv => whnf
      refine ⟨⟨⟨rfl, rfl, trivial⟩, ⟨rfl, rfl, trivial⟩, st8.held⟩, ?_⟩
      have e1 : ((genAll t keep).g == IntKind.i64.wrap ((n : Int) + ((fnd 8 t []).length : Int))) = true := by
        rw [Go.Vc.wrap_small (by omega) (by omega), hg, hn]; simp
      conv => whnf
      refine ⟨fun _ => ?_, fun h => by rw [e1] at h; cases h⟩
      conv => whnf
      refine ⟨gf14, fun w9 hw9 => resN (gens_calls p8 w9 (genAll t keep).t _ (hs0.to hw9.same (fun _ h _ => h)) (by omega)) hw9 fun v w10 p10 hv st10 => ?_⟩
      obtain ⟨G', gc', rfl, _, _⟩ := hv
      conv => whnf
      refine ⟨⟨⟨rfl, rfl, trivial⟩, ⟨rfl, rfl, trivial⟩, HeldW.trans (st8.held (T := []) (ρ := []) (E := []) (R := [])) st10.held⟩, ?_⟩
      have e2 : ((((fnd 8 (genAll t keep).t []).length : Nat) : Int) == (genAll t keep).g) = true := by rw [hl8, hg']; simp
      conv => whnf
      refine ⟨fun _ => ?_, fun h => by rw [e2] at h; cases h⟩
      conv => whnf
      refine ⟨gf10, fun w1 hw1 => scalK (alive_calls w1) hw1 ?_⟩
      conv => whnf
      refine ⟨⟨⟨rfl, rfl, trivial⟩, ⟨rfl, rfl, trivial⟩, HeldW.trans (st8.held (T := []) (ρ := []) (E := []) (R := [])) st10.held⟩, ?_⟩
      conv => whnf
      intro w2 hw2
      exact ⟨rfl, hw2.bel⟩
end Go.Proofs.Ytonhlccjfbfkcaa
