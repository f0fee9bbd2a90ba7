/- The law SchemeBack: it tells true. -/
import Derived.Test.YtonhlccjfbfkcaaSd
namespace Go.Proofs.Ytonhlccjfbfkcaa
open Go.Vc Go.RowKit

theorem back_calls (S : Nat → Prop) (w : World) (s : Sc) (v : Value) (hs : RepS S w s v) (hsz : szT s.t ≤ 1073741824) :
    Calls Try.prog 5 #[v] w (fun e w' => e = .returned (.bool true) ∧ Below w.heap.size w w') := by
  have hf7 := fnd_sz 7 s.t []
  have hf8 := fnd_sz 8 s.t []
  simp only [List.length_nil, Nat.zero_add] at hf7 hf8
  have hs' : RepS (fun q => S q ∧ q < w.heap.size) w s v := hs.to (Same.rfl' _ _) (fun _ h hl => ⟨h, hl⟩)
  obtain ⟨A, ca, rfl, a1, a2, a3⟩ := hs
  have ht' : RepT (fun q => S q ∧ q < w.heap.size) w s.t (.agg #[.int .i64 s.t.k, .int .i64 s.t.n, .slice A s.t.kids.length ca]) := (RepS.typ a1 a2 a3).to (Same.rfl' _ _) (fun _ h hl => ⟨h, hl⟩)
  refine calls_of_vc (args := [_]) (plans := [(7, ([0, 1], .pure 0 (.pure 1 (.pure 2 (.take 3 (.pure 4 (.pure 5 (.pure 6 (.take 7 (.run 8 (.pure 9 (.pure 10 (.pure 11 (.pure 12 (.take 13 (.pure 14 (.take 15 (.take 18 (.run 16 (.run 17 (.run 19 (.pure 20 (.pure 21 (.run 22 (.pure 23 (.pure 24 .done))))))))))))))))))))))))))]) tyok mixed Try.func5 rfl rfl (by simp) (fun q => S q ∧ q < w.heap.size) (fun q h => h.2) ?_
  conv => whnf
  intro g0
  conv => whnf
  refine ⟨gf22, fun w1 hw1 => scalK (rightScheme_calls _ w1 s _ (hs'.to hw1.same (fun _ h _ => h)) (by omega)) hw1 ?_⟩
  rcases hr : rightS s with _ | _
  · conv => whnf
    refine ⟨fun _ => ?_, nofun⟩
    conv => whnf
    refine ⟨gf10, fun w1 hw1 => scalK (alive_calls w1) hw1 ?_⟩
    conv => whnf
    intro w2 hw2
    exact ⟨rfl, hw2.bel⟩
  conv => whnf
  refine ⟨nofun, fun _ => ?_⟩
  conv => whnf
  refine ⟨gf23, fun w1 hw1 => scalK (above_calls _ w1 s.t _ (ht'.to hw1.same (fun _ h _ => h)) hsz) hw1 ?_⟩
  have hn0 := aboveL_nonneg (fnd 7 s.t [])
  have hspec := aboveL_spec (fnd 7 s.t []) 0 (by omega) (by omega)
  generalize hnx : aboveL (fnd 7 s.t []) 0 = next at *
  conv => whnf
  refine ⟨gf24, fun w1 hw1 => resN (instantiate_calls _ w1 s _ next (hs'.to hw1.same (fun _ h _ => h)) hsz) hw1 fun v w2 p2 hv st2 => ?_⟩
  have hs2 := hs'.mv st2
  have ht2 := ht'.mv st2
  rcases hv with ⟨hio, rfl⟩ | ⟨hio, v0, rfl, hv⟩
  · have hbig : next > 2147483647 := by
      simp only [instOk, hr, Bool.true_and, Bool.and_eq_false_iff, decide_eq_false_iff_not] at hio
      omega
    conv => whnf
    intro g1
    conv => whnf
    refine ⟨fun _ => ?_, nofun⟩
    conv => whnf
    refine ⟨fun _ => ?_, fun h => by rw [decide_eq_true hbig] at h; cases h⟩
    conv => whnf
    refine ⟨gf10, fun w1 hw1 => scalK (alive_calls w1) hw1 ?_⟩
    conv => whnf
    intro w2 hw2
    exact ⟨rfl, hw2.bel⟩
  have hsmall : next ≤ 2147483647 := by
    simp only [instOk, hr, Bool.true_and, Bool.and_eq_true, decide_eq_true_eq] at hio
    exact hio.2
  have hnew : ∀ x ∈ fnd 7 s.t [], x < next := by
    rcases hspec with h | h
    · omega
    · exact h.1
  obtain ⟨hb0, hb1⟩ := back_law hr hnew
  obtain ⟨g, hg, hgl, hok⟩ := rightS_gok hr
  have hv := hv.nw st2
  obtain ⟨B, cb, rfl, b1, b2, b3⟩ := hv.opn
  conv => whnf
  intro g1
  conv => whnf
  refine ⟨nofun, fun _ => ?_⟩
  conv => whnf
  refine ⟨by kernel_rfl, rfl, ?_⟩
  conv => whnf
  have e1 : (next + s.g == IntKind.i64.wrap (next + s.g)) = true := by
    rw [Go.Vc.wrap_small (by omega) (by omega)]; simp
  refine ⟨fun _ => ?_, fun h => by rw [e1] at h; cases h⟩
  conv => whnf
  refine ⟨gf14, fun w3 hw3 => resN (gens_calls _ w3 (instT s next) _ (hv.to hw3.same (fun _ h _ => h)) (by rw [hb0]; simp)) hw3 fun v w4 p4 hv4 st4 => ?_⟩
  rw [hb0] at hv4
  obtain ⟨G, gc, rfl, _, _⟩ := hv4
  have hs4 := hs2.mv st4
  have ht4 := ht2.mv st4
  have hv := hv.mv st4
  conv => whnf
  refine ⟨⟨⟨rfl, rfl, trivial⟩, ⟨rfl, rfl, trivial⟩, st4.held⟩, ?_⟩
  conv => whnf
  refine ⟨fun _ => ?_, nofun⟩
  conv => whnf
  refine ⟨gf12, fun w5 hw5 => resN (metas_calls _ w5 s.t _ (ht4.to hw5.same (fun _ h _ => h)) (by omega)) hw5 fun v w6 p6 hv6 st6 => ?_⟩
  obtain ⟨L, lc, rfl, hL1, hL2⟩ := hv6
  have hL := hL1.nw hL2 st6
  have hs6 := hs4.mv st6
  have hv := hv.mv st6
  have hm7 : (fnd 7 (instT s next) []).length ≤ szT s.t + szT s.t := by
    have h1 : (fnd 7 (instT s next) []).length ≤ (fnd 7 s.t [] ++ (fnd 8 s.t []).map (next + ·)).length := nodup_len (nodup_fnd 7 _ [] List.nodup_nil) fun x hx => by
      have hms : (fnd 7 (instT s next) []).filter (fun x => !decide (x ∈ fnd 7 s.t [])) = (fnd 8 s.t []).map (next + ·) := back_ms hr hnew
      by_cases hxk : x ∈ fnd 7 s.t []
      · exact List.mem_append_left _ hxk
      · refine List.mem_append_right _ ?_
        rw [← hms]
        simp [hx, hxk]
    rw [List.length_append, List.length_map] at h1
    omega
  conv => whnf
  refine ⟨⟨⟨rfl, rfl, trivial⟩, ⟨rfl, rfl, trivial⟩, HeldW.trans (st4.held (T := []) (ρ := []) (E := []) (R := [])) st6.held⟩, ?_⟩
  conv => whnf
  refine ⟨gf11, fun w7 hw7 => resN (generalise_calls _ w7 (instT s next) _ L lc (fnd 7 s.t []) (hv.to hw7.same (fun _ h _ => h)) (by omega) (hL.to hw7.same (fun _ h _ => h)) (by unfold LIM; omega) (by rw [hb0]; simp)) hw7 fun v w8 p8 hv8 st8 => ?_⟩
  rw [hb1] at hv8
  have hv8 := hv8.nw st8
  have hs8 := hs6.mv st8
  conv => whnf
  have hh := HeldW.trans (st4.held (T := []) (ρ := []) (E := []) (R := [])) (HeldW.trans (st6.held (T := []) (ρ := []) (E := []) (R := [])) (st8.held (T := []) (ρ := []) (E := []) (R := [])))
  refine ⟨⟨⟨rfl, rfl, trivial⟩, ⟨rfl, rfl, trivial⟩, hh⟩, ?_⟩
  conv => whnf
  refine ⟨gf25, fun w9 hw9 => scalK (sameScheme_calls p8 w9 s s _ _ (hv8.to hw9.same (fun _ h _ => h)) (hs8.to hw9.same (fun _ h _ => h))) hw9 ?_⟩
  rw [sameS_iff.2 rfl]
  conv => whnf
  refine ⟨⟨⟨rfl, rfl, trivial⟩, ⟨rfl, rfl, trivial⟩, hh⟩, ?_⟩
  conv => whnf
  refine ⟨fun _ => ?_, nofun⟩
  conv => whnf
  refine ⟨gf10, fun w1 hw1 => scalK (alive_calls w1) hw1 ?_⟩
  conv => whnf
  refine ⟨⟨⟨rfl, rfl, trivial⟩, ⟨rfl, rfl, trivial⟩, hh⟩, ?_⟩
  conv => whnf
  intro w2 hw2
  exact ⟨rfl, hw2.bel⟩
end Go.Proofs.Ytonhlccjfbfkcaa
