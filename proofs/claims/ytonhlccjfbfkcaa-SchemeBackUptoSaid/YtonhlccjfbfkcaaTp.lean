/- scheme.Instantiate, scheme.Canonical. -/
import Derived.Test.YtonhlccjfbfkcaaTo
namespace Go.Proofs.Ytonhlccjfbfkcaa
open Go.Vc Go.RowKit

def leafC (k n : Int) (l : List Nat) : List Value := l.flatMap fun i : Nat => [.int .i64 k, .int .i64 (n + (i : Int)), .slice none 0 0]
def metaL (n : Int) (k : Nat) : List Tp := (List.range k).map fun i : Nat => .mk 7 (n + (i : Int)) []
theorem metaL_length (n : Int) (k : Nat) : (metaL n k).length = k := by simp [metaL]
theorem leafC_flat (S : Nat → Prop) (w : World) (k n : Int) : ∀ l : List Nat, RepFlat S w (l.map fun i : Nat => Tp.mk k (n + (i : Int)) []) (leafC k n l)
  | [] => rfl
  | i :: r => ⟨_, _, _, _, rfl, leaf_rep S w k _, leafC_flat S w k n r⟩
theorem leafC_length (k n : Int) : ∀ l : List Nat, (leafC k n l).length = l.length * 3
  | [] => rfl
  | i :: r => by have := leafC_length k n r; unfold leafC at *; simp only [List.flatMap_cons, List.length_append, List.length_cons, List.length_nil, this]; omega
theorem genC_leaf (n : Int) (k : Nat) : genC n k = leafC 8 n (List.range' 0 k) := by unfold genC leafC; rw [List.range_eq_range']

/-- A scheme with new metas for its generic variables. -/
def instT (s : Sc) (next : Int) : Tp := sub 8 (tbl (fnd 8 s.t []) (metaL next (fnd 8 s.t []).length)) s.t
def instOk (s : Sc) (next : Int) : Bool := rightS s && (decide (0 ≤ next) && decide (next ≤ 2147483647))
def InstP (S : Nat → Prop) (w : World) (s : Sc) (next : Int) (v : Value) (w' : World) : Prop :=
  (instOk s next = false ∧ v = .tuple #[.agg #[.int .i64 0, .int .i64 0, .slice none 0 0], .int .i64 0, .int .i64 1]) ∨
  (instOk s next = true ∧ ∃ v0, v = .tuple #[v0, .int .i64 (next + s.g), .int .i64 0] ∧ RepT (ext S w) w' (instT s next) v0)

theorem instantiate_calls (S : Nat → Prop) (w : World) (s : Sc) (v : Value) (next : Int) (hs : RepS S w s v) (hn : szT s.t ≤ 1073741824) :
    Calls Try.prog 24 #[v, .int .i64 next] w (Res w (InstP S w s next)) := by
  have hs' := hs
  have hf := fnd_sz 8 s.t []
  simp only [List.length_nil, Nat.zero_add] at hf
  obtain ⟨A, ca, rfl, a1, a2, a3⟩ := hs
  have ta := RepS.typ a1 a2 a3
  have bad : ∀ {w4 : World}, instOk s next = false → Below w.heap.size w w4 → Res w (InstP S w s next) (.returned (.tuple #[.agg #[.int .i64 0, .int .i64 0, .slice none 0 0], .int .i64 0, .int .i64 1])) w4 := fun h hb => ⟨_, rfl, .inl ⟨h, rfl⟩, hb⟩
  refine calls_of_vc (args := [_, _]) (plans := [(9, ([0], .pure 0 (.take 1 (.pure 2 (.take 3 (.pure 5 (.pure 7 (.pure 8 (.take 9 (.pure 10 (.run 4 (.run 6 (.run 11 (.pure 12 (.pure 13 .done)))))))))))))))]) tyok mixed Try.func24 rfl rfl (by simp) (fun q => S q ∧ q < w.heap.size) (fun q h => h.2) ?_
  conv => whnf
  intro g0
  conv => whnf
  intro g1
  conv => whnf
  refine ⟨gf22, fun w1 hw1 => scalK (rightScheme_calls S w1 s _ (hs'.to (hw1.samev S) (fun _ h _ => h)) (by omega)) hw1 ?_⟩
  rcases hra : rightS s with _ | _
  · conv => whnf
    refine ⟨nofun, fun _ => ?_⟩
    conv => whnf
    intro w2 hw2
    exact bad (by simp [instOk, hra]) hw2.bel
  conv => whnf
  refine ⟨fun _ => ?_, nofun⟩
  conv => whnf
  refine ⟨fun h0 => ?_, fun h0 => ?_⟩
  rotate_left
  · have h0 : next < 0 := by simpa using h0
    conv => whnf
    intro w2 hw2
    exact bad (by simp [instOk, hra]; omega) hw2.bel
  have h0 : 0 ≤ next := by simpa using h0
  conv => whnf
  refine ⟨fun h1 => ?_, fun h1 => ?_⟩
  · have h1 : next > 2147483647 := by simpa using h1
    conv => whnf
    intro w2 hw2
    exact bad (by simp [instOk, hra]; omega) hw2.bel
  have h1 : next ≤ 2147483647 := by simpa using h1
  have hio : instOk s next = true := by simp [instOk, hra, h0, h1]
  obtain ⟨g, hg, hgl, hok⟩ := rightS_gok hra
  rw [hg]
  conv => whnf
  refine ⟨gf43, fun w1 hw1 => ownTK (sgens_calls w1 next g h0 (by omega) (by unfold LIM; omega)) hw1 fun D d hD => ?_⟩
  rw [genC_leaf]
  conv => whnf
  refine ⟨fun m st => ∃ i : Nat, i ≤ g ∧ m = g - i ∧ st = ⟨[(27, .v (.int .i64 i)), (26, .v (.int .i64 g)), (7, .v (.slice D g d)), (2, .own 0 0), (4, .own 1 0), (1, .v (.int .i64 next))], [g0, g1],
      [(1, ([.v (.int .i64 0), .v (.int .i64 0), .v (.slice none 0 0)], 24)), (0, ([.v (.int .i64 g), .v (.int .i64 s.t.k), .v (.int .i64 s.t.n), .v (.slice A s.t.kids.length ca)], 29))],
      [⟨.slice D g d, 24, 3, leafC 7 next (List.range i) ++ leafC 8 next (List.range' i (g - i))⟩], fun q => S q ∧ q < w.heap.size, w⟩,
    ⟨g, _, ⟨0, Nat.zero_le _, by simp, rfl⟩, weak_of (preP_refl _) ⟨rfl, rfl, rfl, rfl, rfl, rfl, trivial⟩ ⟨⟨rfl, rfl, rfl⟩, ⟨rfl, rfl, rfl⟩, trivial⟩ (List.Sublist.refl _) rfl rfl⟩, ?_⟩
  rintro m st ⟨i, hi, hm, rfl⟩
  conv => whnf
  refine ⟨fun hb => ?_, fun hb => ?_⟩
  · have hb := of_decide_eq_true hb
    have hig : i < g := by omega
    obtain ⟨ad, rfl⟩ := hD (by omega)
    have hcell : leafC 8 next (List.range' i (g - i)) = .int .i64 8 :: .int .i64 (next + (i : Int)) :: .slice none 0 0 :: leafC 8 next (List.range' (i + 1) (g - (i + 1))) := by
      rw [show g - i = (g - (i + 1)) + 1 from by omega, List.range'_succ]; rfl
    have hlen : (leafC 7 next (List.range i)).length = i * 3 := by rw [leafC_length]; simp
    rw [hcell]
    conv => whnf
    refine ⟨ad, rfl, by omega, hb, ?_⟩
    conv => whnf
    refine ⟨nofun, fun w2 hw2 => storeK (b := ⟨w, fun _ => False⟩) tyok rfl hw2 0 rfl (i * 3) rfl (u := .int .i64 7) (l := [.int .i64 7]) rfl rfl rfl (by simp [hlen]) (by simp [plainV]) ?_⟩
    have hov : ovw (leafC 7 next (List.range i) ++ .int .i64 8 :: .int .i64 (next + (i : Int)) :: .slice none 0 0 :: leafC 8 next (List.range' (i + 1) (g - (i + 1)))) (i * 3) [.int .i64 7] = leafC 7 next (List.range (i + 1)) ++ leafC 8 next (List.range' (i + 1) (g - (i + 1))) := by
      rw [ovw_one hlen]
      unfold leafC
      rw [List.range_succ, List.flatMap_append, List.append_assoc]
      rfl
    rw [hov]
    conv => whnf
    exact ⟨g - (i + 1), _, by omega, ⟨i + 1, hig, rfl, rfl⟩, weak_of (preP_refl _) ⟨incV (by omega), rfl, rfl, rfl, rfl, rfl, trivial⟩ ⟨⟨rfl, rfl, rfl⟩, ⟨rfl, rfl, rfl⟩, trivial⟩ (List.Sublist.refl _) rfl rfl⟩
  · have hb := of_decide_eq_false hb
    have hig : i = g := by omega
    subst hig
    have hrow : leafC 7 next (List.range i) ++ leafC 8 next (List.range' i (i - i)) = leafC 7 next (List.range i) := by rw [Nat.sub_self]; simp [leafC]
    rw [hrow]
    conv => whnf
    refine ⟨by kernel_rfl, rfl, ?_⟩
    conv => whnf
    refine ⟨gf14, fun w3 hw3 => resN (gens_calls S w3 s.t _ (ta.to (hw3.samev S) (fun _ h _ => h)) (by omega)) hw3 fun v w4 p4 hv st4 => ?_⟩
    obtain ⟨G, gc, rfl, hG1, hG2⟩ := hv
    have hGc := hG1.nw hG2 st4
    have fr4 := st4.fr (S := S) (fun k h => .inl h.1)
    have up4 : ∀ q, S q → q < w.heap.size → p4 q := fun q h1 h2 => st4.up q ⟨h1, h2⟩
    clear hG1 hG2
    conv => whnf
    refine ⟨⟨⟨rfl, rfl, trivial⟩, ⟨rfl, trivial⟩, st4.held⟩, ?_⟩
    conv => whnf
    refine ⟨gf42, fun w5 hw5 => ?_⟩
    obtain ⟨p6, hw6, st6, hDc⟩ := hw5.pubN (j := 0) (A := D) (n := i) (c := d) (e := 24) (sz := 3) (xs := leafC 7 next (List.range i)) rfl
    have hDk : RepKs p6 w5 (metaL next i) D 0 := RepKs.ofCells (leafC_flat (fun _ => False) w5 7 next _) hDc (fun q h _ => h.elim)
    have fr6 := st6.fr fr4
    have key := turn_calls s.t p6 w5 _ 8 G gc (fnd 8 s.t []) D d (metaL next i) (ta.to (hw5.samev S) (fun q h1 h2 => st6.up q (up4 q h1 h2))) (by omega) (hGc.mv st6) (by rw [metaL_length]; omega) hDk
    rw [metaL_length] at key
    refine resN key hw6 fun r w7 p7 hr st7 => ?_
    have hr := hr.nw st7
    have fr7 := st7.fr fr6
    obtain ⟨H, hh, rfl, r1, r2, r3⟩ := hr.opn
    conv => whnf
    refine ⟨⟨⟨rfl, rfl, trivial⟩, ⟨rfl, trivial⟩, HeldW.trans (st4.held (T := []) (ρ := []) (E := []) (R := [])) (HeldW.trans (st6.held (T := []) (ρ := []) (E := []) (R := [])) st7.held)⟩, ?_⟩
    conv => whnf
    refine ⟨⟨⟨rfl, rfl, trivial⟩, ⟨rfl, trivial⟩, HeldW.trans (st4.held (T := []) (ρ := []) (E := []) (R := [])) (HeldW.trans (st6.held (T := []) (ρ := []) (E := []) (R := [])) st7.held)⟩, ?_⟩
    conv => whnf
    intro w9 hw9
    have hit : instT s next = sub 8 (tbl (fnd 8 s.t []) (metaL next i)) s.t := by unfold instT; rw [← hgl]
    refine ⟨_, rfl, .inr ⟨hio, .agg #[.int .i64 (sub 8 (tbl (fnd 8 s.t []) (metaL next i)) s.t).k, .int .i64 (sub 8 (tbl (fnd 8 s.t []) (metaL next i)) s.t).n, .slice H (sub 8 (tbl (fnd 8 s.t []) (metaL next i)) s.t).kids.length hh], ?_, by rw [hit]; exact RepT.mk' r1 r2 (r3.to hw9.same (fun k h1 h2 => mine0 (fr7 k h1)))⟩, hw9.bel⟩
    have hwr : IntKind.i64.wrap (next + (i : Int)) = next + (i : Int) := Go.Vc.wrap_small (by omega) (by omega)
    rw [hg]
    show Value.tuple #[_, .int .i64 (IntKind.i64.wrap (next + (i : Int))), _] = _
    rw [hwr]
    rfl
/-- A scheme in its canonical form. -/
def canon (s : Sc) : Sc := ⟨(fnd 8 s.t []).length, sub 8 (tbl (fnd 8 s.t []) (genL 0 (fnd 8 s.t []).length)) s.t⟩
theorem canonical_calls (S : Nat → Prop) (w : World) (s : Sc) (v : Value) (hs : RepS S w s v) (hn : szT s.t ≤ 1073741824) :
    Calls Try.prog 26 #[v] w (Res w fun v' w' => RepS (ext S w) w' (canon s) v') := by
  have hf := fnd_sz 8 s.t []
  simp only [List.length_nil, Nat.zero_add] at hf
  obtain ⟨A, ca, rfl, a1, a2, a3⟩ := hs
  have ta := RepS.typ a1 a2 a3
  refine calls_of_vc (args := [_]) (plans := [(2, ([0], .pure 0 (.pure 1 (.pure 2 (.take 3 (.pure 4 (.pure 5 (.pure 6 (.run 7 (.fin 8 (.pure 9 (.fin 10 .done))))))))))))]) tyok mixed Try.func26 rfl rfl (by simp) (fun q => S q ∧ q < w.heap.size) (fun q h => h.2) ?_
  conv => whnf
  intro g0
  conv => whnf
  intro g1
  conv => whnf
  refine ⟨gf14, fun w3 hw3 => resN (gens_calls S w3 s.t _ (ta.to (hw3.samev S) (fun _ h _ => h)) (by omega)) hw3 fun v w4 p4 hv st4 => ?_⟩
  obtain ⟨G, gc, rfl, hG1, hG2⟩ := hv
  have hGc := hG1.nw hG2 st4
  have fr4 := st4.fr (S := S) (fun k h => .inl h.1)
  have up4 : ∀ q, S q → q < w.heap.size → p4 q := fun q h1 h2 => st4.up q ⟨h1, h2⟩
  clear hG1 hG2
  conv => whnf
  refine ⟨by kernel_rfl, rfl, ?_⟩
  conv => whnf
  refine ⟨gf43, fun w5 hw5 => resN (sgens_calls w5 0 (fnd 8 s.t []).length (by omega) (by omega) (by unfold LIM; omega)) hw5 fun v w6 p6 hv st6 => ?_⟩
  obtain ⟨D, dd, rfl, hD1, hD2⟩ := hv
  have hDk : RepKs p6 w6 (genL 0 (fnd 8 s.t []).length) D 0 := RepKs.ofCells (genC_flat (fun _ => False) w6 _ _) (hD1.nw hD2 st6) (fun q h _ => h.elim)
  have hGc := hGc.mv st6
  have fr6 := st6.fr fr4
  conv => whnf
  refine ⟨⟨⟨rfl, rfl, trivial⟩, ⟨rfl, trivial⟩, st6.held⟩, ?_⟩
  conv => whnf
  refine ⟨gf42, fun w7 hw7 => ?_⟩
  have key7 := turn_calls s.t p6 w7 _ 8 G gc (fnd 8 s.t []) D dd (genL 0 (fnd 8 s.t []).length) (ta.to (hw7.samev S) (fun q h1 h2 => st6.up q (up4 q h1 h2))) (by omega) (hGc.to hw7.same (fun _ h _ => h)) (by rw [genL_length]; omega) (hDk.to hw7.same (fun _ h _ => h))
  rw [genL_length] at key7
  refine resN key7 hw7 fun r w8 p8 hr st8 => ?_
  have hr := hr.nw st8
  have fr8 := st8.fr fr6
  obtain ⟨H, hh, rfl, r1, r2, r3⟩ := hr.opn
  conv => whnf
  intro w9 hw9
  exact ⟨_, rfl, ⟨H, hh, rfl, r1, r2, r3.to hw9.same (fun k h1 h2 => mine0 (fr8 k h1))⟩, hw9.bel⟩
end Go.Proofs.Ytonhlccjfbfkcaa
