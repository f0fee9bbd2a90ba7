/- scheme.Generalise. -/
import Derived.Test.YtonhlccjfbfkcaaTg
import Derived.Test.YtonhlccjfbfkcaaVcm
namespace Go.Proofs.Ytonhlccjfbfkcaa
open Go.Vc Go.RowKit

/-- Behind a call that was handed row number j, and has cut it. -/
theorem cutK {N : Nat} {b : Base} {f : FuncId} {args : Array Value} {w : World} {A : Option Addr} {n c : Nat} {l' : List Int} {xs : List Value} {T : Tl} {ρ : List Nat} {E E0 : El} {R R0 : List Row} {pub pub0 : Nat → Prop} {s s0 : World} {dst : Option Tmp} {K : St → Prop}
    (hc : Calls Try.prog f args w (CutPost w A n c l')) (hw : Wd b ⟨T, ρ, E, R, pub, s⟩ w) (j : Nat) (hj : R[j]? = some ⟨.slice A n c, 3, 1, xs⟩)
    (hk : putK N dst (.v (.slice A l'.length c)) ⟨T, ρ, E, R.set j ⟨.slice A l'.length c, 3, 1, ints l'⟩, pub, s⟩ K) :
    Calls Try.prog f args w fun e w' => ∃ v, e = .returned v ∧ AfterK N b dst ⟨T, ρ, E0, R0, pub0, s0⟩ K v w' := by
  refine hc.mono ?_
  rintro e w' ⟨rfl, h1, h2⟩
  exact ⟨_, rfl, E, _, pub, s, hw.grow hj h2.grown h1 (.inr (.inl (rowB_slice _ _ _ _ _))), hk⟩

/-- A type generalised: what is open and not kept, and the generic variables that were there. -/
def openMs (t : Tp) (keep : List Int) : List Int := (fnd 7 t []).filter fun x => !decide (x ∈ keep)
def genAll (t : Tp) (keep : List Int) : Sc :=
  ⟨(openMs t keep).length + (fnd 8 t []).length, sub 7 (tbl (openMs t keep) (genL 0 (openMs t keep).length)) (sub 8 (tbl (fnd 8 t []) (genL (openMs t keep).length (fnd 8 t []).length)) t)⟩

theorem generalise_calls (S : Nat → Prop) (w : World) (t : Tp) (v : Value) (A : Option Addr) (c : Nat) (keep : List Int) (ht : RepT S w t v) (hk : keep.length ≤ 17592186044416) (hkeep : Cells S w A (ints keep))
    (h7 : (fnd 7 t []).length ≤ LIM) (h8 : (fnd 8 t []).length ≤ LIM) :
    Calls Try.prog 11 #[v, .slice A keep.length c] w (Res w fun v' w' => RepS (ext S w) w' (genAll t keep) v') := by
  have h7' := h7
  have h8' := h8
  unfold LIM at h7' h8'
  have hml : (openMs t keep).length ≤ (fnd 7 t []).length := List.length_filter_le _ _
  obtain ⟨B, d, rfl, b1, b2, b3⟩ := ht.opn
  refine calls_of_vc (args := [_, _]) (plans := [(3, ([0], .take 0 (.pure 1 (.pure 2 (.pure 3 (.pure 4 (.pure 5 (.run 6 (.fin 7 (.fin 8 .done)))))))))), (4, ([0], .pure 0 (.pure 1 (.pure 2 (.pure 3 (.pure 4 (.take 5 (.pure 6 (.pure 7 (.pure 8 (.run 9 (.fin 10 (.pure 11 (.fin 12 .done))))))))))))))]) tyok mixed Try.func11 rfl rfl (by simp) (fun q => S q ∧ q < w.heap.size) (fun q h => h.2) ?_
  conv => whnf
  intro g0
  conv => whnf
  intro g1
  conv => whnf
  intro g2
  conv => whnf
  refine ⟨gf12, fun w1 hw1 => ownK (metas_calls S w1 t _ (ht.to (hw1.samev S) (fun _ h _ => h)) (by omega)) hw1 fun M0 m0 _ => ?_⟩
  conv => whnf
  refine ⟨gf39, fun w2 hw2 => cutK (deleteFunc_calls (fun q => (S q ∧ q < w.heap.size) ∨ q = g1) w2 M0 m0 (fnd 7 t []) _ _ _ _
    (keep_pred _ w2 ⟨g1, 0, none⟩ A c keep hk (.inr rfl) (hw2.cellAt (i := 1) rfl rfl rfl) (hkeep.to (hw2.samev S) (fun q h1 h2 => .inl ⟨h1, h2⟩))) (by omega) (hw2.row _ (List.mem_singleton.2 rfl)).1 ?_) hw2 0 rfl ?_⟩
  · intro q hq
    obtain ⟨k1, k2, k3⟩ := (hw2.row _ (List.mem_singleton.2 rfl)).2 q hq
    rintro (h | rfl)
    · exact k2 h
    · exact k3 1 rfl rfl
  conv => whnf
  refine ⟨gf14, fun w3 hw3 => resN (gens_calls S w3 t _ (ht.to (hw3.samev S) (fun _ h _ => h)) (by omega)) hw3 fun v w4 p4 hv st4 => ?_⟩
  obtain ⟨G, gc, rfl, hG1, hG2⟩ := hv
  have hGc := hG1.nw hG2 st4
  have fr4 := st4.fr (S := S) (fun k h => .inl h.1)
  have up4 : ∀ q, S q → q < w.heap.size → p4 q := fun q h1 h2 => st4.up q ⟨h1, h2⟩
  clear hG1 hG2
  conv => whnf
  refine ⟨by kernel_rfl, rfl, ?_⟩
  conv => whnf
  refine ⟨gf43, fun w5 hw5 => resN (sgens_calls w5 (openMs t keep).length (fnd 8 t []).length (by omega) (by omega) (by omega)) hw5 fun v w6 p6 hv st6 => ?_⟩
  obtain ⟨D, dd, rfl, hD1, hD2⟩ := hv
  have hDk : RepKs p6 w6 (genL (openMs t keep).length (fnd 8 t []).length) D 0 := RepKs.ofCells (genC_flat (fun _ => False) w6 _ _) (hD1.nw hD2 st6) (fun q h _ => h.elim)
  have hGc := hGc.mv st6
  have fr6 := st6.fr fr4
  have up6 : ∀ q, S q → q < w.heap.size → p6 q := fun q h1 h2 => st6.up q (up4 q h1 h2)
  conv => whnf
  refine ⟨⟨⟨rfl, rfl, rfl, trivial⟩, ⟨rfl, trivial⟩, st6.held⟩, ?_⟩
  conv => whnf
  refine ⟨gf42, fun w7 hw7 => ?_⟩
  have key7 := turn_calls t p6 w7 _ 8 G gc (fnd 8 t []) D dd (genL (openMs t keep).length (fnd 8 t []).length) (ht.to (hw7.samev S) up6) (by omega) (hGc.to hw7.same (fun _ h _ => h)) (by rw [genL_length]; omega) (hDk.to hw7.same (fun _ h _ => h))
  rw [genL_length] at key7
  refine resN key7 hw7 fun r w8 p8 hr st8 => ?_
  generalize ht1 : sub 8 (tbl (fnd 8 t []) (genL (openMs t keep).length (fnd 8 t []).length)) t = t1 at hr
  have hr := hr.nw st8
  have fr8 := st8.fr fr6
  obtain ⟨H, hh, rfl, r1, r2, r3⟩ := hr.opn
  conv => whnf
  refine ⟨by kernel_rfl, rfl, ?_⟩
  conv => whnf
  refine ⟨gf43, fun w9 hw9 => resN (sgens_calls w9 0 (openMs t keep).length (by omega) (by omega) (by omega)) hw9 fun v w10 p10 hv st10 => ?_⟩
  obtain ⟨D', dd', rfl, hD1', hD2'⟩ := hv
  have hDk' : RepKs p10 w10 (genL 0 (openMs t keep).length) D' 0 := RepKs.ofCells (genC_flat (fun _ => False) w10 _ _) (hD1'.nw hD2' st10) (fun q h _ => h.elim)
  have hr := hr.mv st10
  have fr10 := st10.fr fr8
  conv => whnf
  refine ⟨⟨⟨rfl, rfl, rfl, trivial⟩, ⟨rfl, trivial⟩, st10.held⟩, ?_⟩
  conv => whnf
  refine ⟨gf42, fun w11 hw11 => ?_⟩
  obtain ⟨p12, hw12, st12, hMc⟩ := hw11.pubN (j := 0) (A := M0) (n := (openMs t keep).length) (c := m0) (e := 3) (sz := 1) (xs := ints (openMs t keep)) rfl
  have key12 := turn_calls t1 p12 w11 _ 7 M0 m0 (openMs t keep) D' dd' (genL 0 (openMs t keep).length) (hr.mv st12) (by omega) hMc (by rw [genL_length]; omega) (hDk'.mv st12)
  rw [genL_length] at key12
  refine resN key12 hw12 fun r' w13 p13 hr' st13 => ?_
  have hr' := hr'.nw st13
  have fr13 := st13.fr (st12.fr fr10)
  obtain ⟨H', hh', rfl, r1', r2', r3'⟩ := hr'.opn
  conv => whnf
  intro w14 hw14
  have hge : genAll t keep = ⟨(openMs t keep).length + (fnd 8 t []).length, sub 7 (tbl (openMs t keep) (genL 0 (openMs t keep).length)) t1⟩ := by unfold genAll; rw [ht1]
  rw [hge]
  refine ⟨_, rfl, ⟨H', hh', ?_, r1', r2', r3'.to hw14.same (fun k h1 h2 => mine0 (fr13 k h1))⟩, hw14.bel⟩
  have hwr : IntKind.i64.wrap (((openMs t keep).length : Int) + ((fnd 8 t []).length : Int)) = ((openMs t keep).length : Int) + ((fnd 8 t []).length : Int) := Go.Vc.wrap_small (by omega) (by omega)
  show Value.agg #[.int .i64 (IntKind.i64.wrap (((openMs t keep).length : Int) + ((fnd 8 t []).length : Int))), _, _, _] = _
  rw [hwr]
  rfl
end Go.Proofs.Ytonhlccjfbfkcaa
