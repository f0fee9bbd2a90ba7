/- Items: slices.Values, Collect, SortFunc (texts Ki Ks Kj Kk, joined) -/
import Derived.RangeFuncBox
import Derived.RangeFuncLeaves
import Derived.RangeFuncNested
import Derived.Shelf.Abstract
import Derived.WalkKit
import Derived.OwnWalkIn
import Derived.TacticsInMore
import Derived.LoopNIn
import Derived.LoopIn
import Derived.Maps.AppendAt
import Derived.Test.YtohhchcjfebkhaaJa
import Derived.Shelf.SlSortCmp.WholeK
import Derived.Test.YtohhchcjfebkhaaProg
import Derived.KernelRfl
set_option linter.unusedVariables false
set_option linter.unusedSimpArgs false
/- slices.Values and slices.Collect, at items. -/
namespace Go.Proofs.Ytohhchcjfebkhaa
open Go.Proofs Go.RowKit Go.Shelf

attribute [local go_sem] Oper.semAt_some

def valIt (x : It) : Value := .agg #[.int .i64 x.1, .string x.2]

set_option maxRecDepth 100000 in
set_option maxHeartbeats 2000000 in
theorem values1_in (F : Fence) (n : Nat) (h46 : F.fn 46) (hro : F.round = none) (hn : 1 ≤ n) (l Bs n₀ b off cap : Nat) (zs : List It) (hreach : zs.length * 24 ≤ 140737488355328) (hb : b < n₀) (J Jx : List It → World → Prop) (W : World) (hJ : AbidesFrom W.heap.size J)
    (hY : ∀ pre x W, J pre W → pre.length < zs.length → YieldAt F (n - 1) Try.prog l #[valIt x] W fun e W' =>
      (e = .returned (.bool true) ∧ J (pre ++ [x]) W' ∧ Below n₀ W W') ∨ (e = .returned (.bool false) ∧ Jx (pre ++ [x]) W'))
    (hW : n₀ ≤ W.heap.size) (hBs : W.cell? ⟨Bs, 0, none⟩ = some (.slice (some ⟨b, off, none⟩) zs.length cap))
    (hc : ∀ j, j < zs.length → W.cell? ⟨b, off + j * 2, none⟩ = some (.int .i64 (ix zs j).1) ∧ W.cell? ⟨b, off + j * 2 + 1, none⟩ = some (.string (ix zs j).2)) (h0 : J [] W) :
    CallsIn F n Try.prog 46 #[.func (.yield l) #[] #[], .pointer (some ⟨Bs, 0, none⟩)] W fun e W' => (∃ v, e = .returned v) ∧
      ((∃ ys, ys = zs ∧ J ys W') ∨ (∃ pre, (∃ k, k ≤ zs.length ∧ pre = zs.take k) ∧ Jx pre W')) := by
  refine callsIn_of_wp Try.func46 rfl h46 ?_ hro
  simp only [Try.ntmps46, List.size_toArray, List.length_cons, List.length_nil, Nat.reduceAdd, Nat.reduceSub, Array.replicate_succ, Array.replicate_zero, List.push_toArray, List.append_toArray, List.nil_append, List.cons_append]
  gi_wp2
  gi_loopw [7] (fun i wr => ∃ k : Nat, k ≤ zs.length ∧ i = .int .i64 k ∧ J (zs.take k) wr ∧ Below n₀ W wr)
    (fun i _ => zs.length - (intOf i).toNat)
  case atStart => exact ⟨0, Nat.zero_le _, rfl, h0, Below.refl _ _⟩
  case round =>
    obtain ⟨k, hk, rfl, hJs, hnx⟩ := hrel
    by_cases hlt : k < zs.length
    · have hcx := hc k hlt
      have hc1 := (hnx.cell (p := ⟨b, off + k * 2, none⟩) hb).trans hcx.1
      have hc2 := (hnx.cell (p := ⟨b, off + k * 2 + 1, none⟩) hb).trans hcx.2
      have htk : zs.take (k + 1) = zs.take k ++ [ix zs k] := by rw [List.take_succ_eq_append_getElem hlt, ix_get hlt]
      obtain ⟨fn, tmps, assign, body, hy, hR⟩ := hY (zs.take k) (ix zs k) (wr.alloc (.cells #[.int .i64 (ix zs k).1, .string (ix zs k).2] 30)) (hJ _ wr _ none hJs (World.grownBy_alloc wr _ none) (fun r e => by cases e)) (by simp; omega)
      unfold valIt at hy
      gi_wp2
      refine hR.mono ?_
      rintro e W3 (⟨rfl, hJ3, hk3⟩ | ⟨rfl, hJx3⟩)
      · gi_wp2
        go_roundw
        case rel => exact ⟨k + 1, by omega, by simp, by rw [htk]; exact hJ3, hnx.trans (((Below.refl _ wr).alloc (Nat.le_trans hW hnx.size) _).trans hk3)⟩
        case measure => simp [intOf]; omega
      · gi_wp2
        refine bodyPost_ret (results_none rfl _ _ _) rfl ?_
        exact ⟨⟨_, rfl⟩, .inr ⟨_, ⟨k + 1, by omega, htk.symm⟩, hJx3⟩⟩
    · obtain rfl : k = zs.length := by omega
      gi_wp2
      go_end0
      exact ⟨⟨_, rfl⟩, .inl ⟨_, List.take_length.symm ▸ rfl, hJs⟩⟩
set_option maxRecDepth 100000 in
set_option maxHeartbeats 1000000 in
theorem values1_nil_in (F : Fence) (n : Nat) (h46 : F.fn 46) (hro : F.round = none) (l Bs c : Nat) (J : List It → World → Prop) (W : World) (hBs : W.cell? ⟨Bs, 0, none⟩ = some (.slice none 0 c)) (h0 : J [] W) :
    CallsIn F n Try.prog 46 #[.func (.yield l) #[] #[], .pointer (some ⟨Bs, 0, none⟩)] W fun e W' => (∃ v, e = .returned v) ∧ J [] W' := by
  refine callsIn_of_wp Try.func46 rfl h46 ?_ hro
  simp only [Try.ntmps46, List.size_toArray, List.length_cons, List.length_nil, Nat.reduceAdd, Nat.reduceSub, Array.replicate_succ, Array.replicate_zero, List.push_toArray, List.append_toArray, List.nil_append, List.cons_append]
  gi_wp2
  gi_loopw [7] (fun i wr => i = .int .i64 0 ∧ J [] wr) (fun _ _ => 0)
  case atStart => exact ⟨rfl, h0⟩
  case round =>
    obtain ⟨rfl, hJs⟩ := hrel
    gi_wp2
    go_end0
    exact ⟨⟨_, rfl⟩, hJs⟩
/-- The slice value sv holds the items zs, in a block below n₀. -/
def ItsAt (n₀ : Nat) (W : World) (sv : Value) (zs : List It) : Prop :=
  ((∃ c, sv = .slice none 0 c) ∧ zs = []) ∨ ∃ b off cap, sv = .slice (some ⟨b, off, none⟩) zs.length cap ∧ b < n₀ ∧ ∀ j, j < zs.length → W.cell? ⟨b, off + j * 2, none⟩ = some (.int .i64 (ix zs j).1) ∧ W.cell? ⟨b, off + j * 2 + 1, none⟩ = some (.string (ix zs j).2)
theorem ItsAt.below {n₀ : Nat} {A B : World} (h : Below n₀ A B) {sv : Value} {zs : List It} : ItsAt n₀ A sv zs → ItsAt n₀ B sv zs
  | .inl e => .inl e
  | .inr ⟨b, off, cap, e, hb, hc⟩ => .inr ⟨b, off, cap, e, hb, fun j hj => ⟨(h.cell (p := ⟨b, off + j * 2, none⟩) hb).trans (hc j hj).1, (h.cell (p := ⟨b, off + j * 2 + 1, none⟩) hb).trans (hc j hj).2⟩⟩
theorem values_stops (F : Fence) (n : Nat) (h46 : F.fn 46) (hro : F.round = none) (hn : 1 ≤ n) (Bs n₀ : Nat) (sv : Value) (zs : List It) (hreach : zs.length * 24 ≤ 140737488355328) (w : World) (hBs : Bs < w.heap.size) (hn₀ : n₀ ≤ w.heap.size)
    (hc : w.cell? ⟨Bs, 0, none⟩ = some sv) (hI : ItsAt n₀ w sv zs) :
    SeqStopsK F n Try.prog 46 #[.pointer (some ⟨Bs, 0, none⟩)] (fun x : It => #[valIt x]) (Below n₀) (fun ys => ys = zs) (fun pre => ∃ k, k ≤ zs.length ∧ pre = zs.take k) zs.length w := fun l J Jx W hW hJ _ hY h0 => by
  have hc' := (hW.cell (p := ⟨Bs, 0, none⟩) hBs).trans hc
  rcases hI.below (hW.mono hn₀) with ⟨⟨c, rfl⟩, rfl⟩ | ⟨b, off, cap, rfl, hb, hcs⟩
  · exact (values1_nil_in F n h46 hro l Bs c J W hc' h0).mono fun e W' ⟨he, hj⟩ => ⟨he, .inl ⟨_, rfl, hj⟩⟩
  · exact values1_in F n h46 hro hn l Bs n₀ b off cap zs hreach hb J Jx W hJ hY (Nat.le_trans hn₀ hW.size) hc' hcs h0

theorem infoIt : (Try.prog.info? 30).map (fun i => (i.zero, i.size, i.bytes)) = some (some (.agg #[.int .i64 0, .string ⟨#[]⟩]), 2, 24) := by kernel_rfl
def flatV (l : List It) : List Value := l.flatMap fun x => [.int .i64 x.1, .string x.2]
theorem flatV_app (l : List It) (x : It) : flatV (l ++ [x]) = flatV l ++ [.int .i64 x.1, .string x.2] := by simp [flatV]
/-- A block that holds an item. -/
def Box2 (W : World) (B : Nat) (x : It) : Prop := W.heap[B]? = some (.cells #[.int .i64 x.1, .string x.2] 30 (0, 0))
theorem Box2.own (B : Nat) (x : It) : Own (fun (_ : Unit) W => Box2 W B x) := fun s X Y row hs hg hrow => by
  have hlt := (Array.getElem?_eq_some_iff.1 hs).1
  exact (hg.block B hlt (fun e' => by obtain ⟨o, ho, hc⟩ := hrow B e'.symm; rw [show X.heap[B]? = _ from hs] at ho; cases ho; cases hc)).trans hs
theorem Box2.cells {W : World} {B : Nat} {x : It} (h : Box2 W B x) : W.cell? ⟨B, 0, none⟩ = some (.int .i64 x.1) ∧ W.cell? ⟨B, 1, none⟩ = some (.string x.2) := by
  unfold Box2 at h
  constructor <;> simp [World.cell?, h]
theorem cell_two_new (w : World) (x y : Value) (t : TypeId) : ∀ (j : Nat) (u : Value), [x, y][j]? = some u → (w.alloc (.cells #[x, y] t)).cell? ((⟨w.heap.size, 0, none⟩ : Addr).add j) = some u := by
  intro j u hj
  have h := World.alloc_heap_new w (.cells #[x, y] t)
  match j, hj with
  | 0, hj =>
    simp at hj; subst hj
    rw [show ((⟨w.heap.size, 0, none⟩ : Addr).add 0) = ⟨w.heap.size, 0, none⟩ from rfl]
    unfold World.cell?; rw [h]; rfl
  | 1, hj =>
    simp at hj; subst hj
    rw [show ((⟨w.heap.size, 0, none⟩ : Addr).add 1) = ⟨w.heap.size, 1, none⟩ from rfl]
    unfold World.cell?; rw [h]; rfl

set_option maxRecDepth 100000 in
set_option maxHeartbeats 4000000 in
theorem appendSeq_in (F : Fence) (n : Nat) (h54 : F.fn 54) (h46 : F.fn 46) (hro : F.round = none) (hn : 3 ≤ n) (Bs : Nat) (sv : Value) (zs : List It) (hreach : zs.length * 24 ≤ 140737488355328) (w : World) (hBs : Bs < w.heap.size)
    (hc : w.cell? ⟨Bs, 0, none⟩ = some sv) (hI : ItsAt w.heap.size w sv zs) :
    CallsIn F n Try.prog 54 #[.slice none 0 0, .func (.func 46) #[] #[.pointer (some ⟨Bs, 0, none⟩)]] w fun e W' => ∃ v, e = .returned v ∧ W'.ownsRow w.heap.size 30 2 v zs.length (flatV zs) ∧ Below w.heap.size w W' := by
  have h1 : 1 ≤ n := by omega
  obtain ⟨i0, hi, hz0, hz1, hz2⟩ := info_parts infoIt
  refine callsIn_of_wp_marks Try.func54 rfl h54 ?_ hro
  simp only [Try.ntmps54, List.size_toArray, List.length_cons, List.length_nil, Nat.reduceAdd, Nat.reduceSub, Array.replicate_succ, Array.replicate_zero, List.push_toArray, List.append_toArray, List.nil_append, List.cons_append]
  gi_wp2
  have hmax : zs.length ≤ maxLen := by unfold maxLen; omega
  have bO := Boxed.new w 25 (.slice none 0 0)
  have hB0 : Below w.heap.size w (w.alloc (.cells #[.slice none 0 0] 25)) := (Below.refl _ w).alloc (Nat.le_refl _) _
  have hsz : (w.alloc (.cells #[.slice none 0 0] 25)).heap.size = w.heap.size + 1 := by simp
  have hc0 : (w.alloc (.cells #[.slice none 0 0] 25)).cell? ⟨Bs, 0, none⟩ = some sv := (hB0.cell (p := ⟨Bs, 0, none⟩) hBs).trans hc
  have hI0 := hI.below hB0
  obtain ⟨W0, hW0⟩ : ∃ W0, w.alloc (.cells #[.slice none 0 0] 25) = W0 := ⟨_, rfl⟩
  rw [hW0] at bO hB0 hsz hc0 hI0 ⊢
  clear hW0
  refine wpIn_rangeFunc_ownH hro h1 (gf := 46) (lb := #[.pointer (some ⟨Bs, 0, none⟩)]) rfl h46 (enters_of Try.func46 (by kernel_rfl) rfl)
    (values_stops F (n - 1) h46 hro (by omega) Bs w.heap.size sv zs hreach W0 (by omega) (by omega) hc0 hI0) belowK_t (belowK_b (by omega)) (Below.refl _ _) (fun _ => rfl)
    (fun pre W => (∃ v, Boxed W w.heap.size 25 v ∧ W.ownsRow w.heap.size 30 2 v pre.length (flatV pre) ∧ True) ∧ Below w.heap.size w W)
    (fun _ _ _ => False)
    (OwnFrom.and (Own.from (holdsRow_own w.heap.size w.heap.size 25 30 2 (fun pre => pre.length) (fun pre => flatV pre) (fun _ _ => True)) _) (ownFrom_below (Nat.le_refl _) (by omega)))
    (fun _ _ _ _ _ hs _ _ => hs)
    ⟨⟨_, bO, World.ownsRow_nil _ _ _ _, trivial⟩, hB0⟩
    (fun x a' W => ∃ Bx, w.heap.size < Bx ∧ Box2 W Bx x ∧ a' = { tmps := #[.slice none 0 0, .func (.func 46) #[] #[.pointer (some ⟨Bs, 0, none⟩)], .pointer (some ⟨w.heap.size, 0, none⟩), undef, .slice none 0 0, .pointer (some ⟨Bx, 0, none⟩), .func (.func 46) #[] #[.pointer (some ⟨Bs, 0, none⟩)], .agg #[.int .i64 x.1, .string x.2], undef, undef, undef, undef, undef], defers := [] })
    (fun x a' _ X Y row hs hg hr => by obtain ⟨Bx, e1, e2, e3⟩ := hs; exact ⟨Bx, e1, Box2.own Bx x () X Y row e2 hg (fun r e => (hr r e).2), e3⟩)
    ?assign ?body ?done ?stop
  case assign =>
    rintro l pre x W K ⟨⟨v, hv, hrow, _⟩, hB1⟩ hK
    unfold valIt
    gi_wp2
    exact hK _ _ ((KeepsOthers.alloc _ _).from _) ((Below.refl _ W).alloc hB1.size _) ⟨⟨v, hv.alloc _, hrow.alloc _, trivial⟩, hB1.alloc hB1.size _⟩ ⟨W.heap.size, hv.lt, World.alloc_heap_new W _, rfl⟩
  case body =>
    rintro l pre x a' W hl ⟨r, hr⟩ ⟨⟨v, hv, hrow, _⟩, hB⟩ ⟨Bx, hBx, bX, rfl⟩ hlt
    have hc1 := hv.cell
    have hx1 := bX.cells.1
    have hx2 := bX.cells.2
    gi_wp2_with (gi_at_builtin; refine wpListIn_append_own _ rfl _ _ 25 rfl w.heap.size 30 i0 (.agg #[.int .i64 0, .string ⟨#[]⟩]) 2 24 Try.underlying25 hi hz0 hz1 hz2 rfl (by decide) _ _ _ rfl (hrow.alloc _) ⟨W.heap.size, 0, none⟩ 1 1 [.int .i64 x.1, .string x.2] rfl rfl (cell_two_new _ _ _ _) (by simp [Value.oneCell']) (by omega) (by omega) (by have := hB.size; simp; omega) ?_; intro v' w1 hown' hgrow _; obtain ⟨g', cap', rfl⟩ := ownsRow_succ hown'; obtain ⟨hv1, hv2, hr2, hk2, hb2⟩ := hv.appended (by decide) hrow hB.size (Nat.le_refl _) hown' hgrow; have hc1 := hv1.cell; have hf1 := hv1.frozen)
    exact ⟨hk2.from _, hb2, ⟨_, hv2, by rw [flatV_app, List.length_append]; exact hr2, trivial⟩, hB.trans hb2⟩
  case done =>
    rintro D ys W hD rfl ⟨⟨v, hv, hrow, _⟩, hB⟩ hK
    have hc := hv.cell
    gi_wp2
    refine ⟨by simp, .inl ⟨_, _, rfl, run_takeDeferred hK, ?_⟩⟩
    exact ⟨_, results_tmp rfl _ _ _, v, rfl, ownsRow_putObj hrow _ hK rfl, hB.trans (belowK_b (w := w) (Nat.le_refl _) W D _ _ (by omega) hK rfl rfl)⟩
  case stop =>
    rintro D c pre W _ _ h _
    exact h.elim
set_option maxHeartbeats 1000000 in
theorem collect_in (F : Fence) (n : Nat) (h44 : F.fn 44) (h54 : F.fn 54) (h46 : F.fn 46) (hro : F.round = none) (hn : 4 ≤ n) (Bs : Nat) (sv : Value) (zs : List It) (hreach : zs.length * 24 ≤ 140737488355328) (w : World) (hBs : Bs < w.heap.size)
    (hc : w.cell? ⟨Bs, 0, none⟩ = some sv) (hI : ItsAt w.heap.size w sv zs) :
    CallsIn F n Try.prog 44 #[.func (.func 46) #[] #[.pointer (some ⟨Bs, 0, none⟩)]] w fun e W' => ∃ v, e = .returned v ∧ W'.ownsRow w.heap.size 30 2 v zs.length (flatV zs) ∧ Below w.heap.size w W' := by
  have h1 : 1 ≤ n := by omega
  refine callsIn_of_wp Try.func44 rfl h44 ?_ hro
  simp only [Try.ntmps44, List.size_toArray, List.length_cons, List.length_nil, Nat.reduceAdd, Nat.reduceSub, Array.replicate_succ, Array.replicate_zero, List.push_toArray, List.append_toArray, List.nil_append, List.cons_append]
  gi_wp2_with (gi_at_call 54; refine (appendSeq_in F (n - 1) h54 h46 hro (by omega) Bs sv zs hreach w hBs hc hI).mono ?_; rintro e w' ⟨v, rfl, hrow, hb⟩)
  go_ret
  exact ⟨v, rfl, hrow, hb⟩
end Go.Proofs.Ytohhchcjfebkhaa

/- The shelf's slices.SortFunc, laid at this seat's program: printed by a program of mine out of Lean's print of the kit's laying command. -/
namespace Go.Proofs.Ytohhchcjfebkhaa
open Go.Proofs Go.Shelf Go.RowKit Go.Lib Go.Sort
def sortQ_ren : Ren :=
  { f := fun x => match x with | 6 => 45 | 15 => 56 | 14 => 55 | 28 => 67 | 29 => 68 | 20 => 59 | 21 => 60 | 22 => 61 | 23 => 62 | 24 => 63 | 25 => 64 | 26 => 65 | 27 => 66 | 46 => 69 | 47 => 70 | 48 => 71 | 49 => 72 | 50 => 73 | 57 => 74 | n => n,
    t := fun x => match x with | 22 => 25 | 24 => 30 | 25 => 65 | 3 => 3 | 39 => 92 | 0 => 0 | 53 => 104 | 55 => 106 | 4 => 4 | 46 => 98 | 45 => 97 | 50 => 68 | 5 => 5 | 9 => 9 | 66 => 107 | 70 => 111 | 76 => 113 | 77 => 114 | n => n,
    g := fun n => n }
theorem sortQ : SlLaysF0.n6 Try.prog sortQ_ren :=
  { mixed := rfl,
    f6 := ⟨ "slices.SortFunc[[]wafer/queue.Item,wafer/queue.Item]", by decide, Try.func45.trans (congrArg some rfl)⟩,
    f14 := ⟨ "slices.pdqsortCmpFunc[wafer/queue.Item]", by decide, Try.func55.trans (congrArg some rfl)⟩,
    f20 := ⟨ "slices.insertionSortCmpFunc[wafer/queue.Item]", by decide, Try.func59.trans (congrArg some rfl)⟩,
    f21 := ⟨ "slices.heapSortCmpFunc[wafer/queue.Item]", by decide, Try.func60.trans (congrArg some rfl)⟩,
    f22 := ⟨ "slices.breakPatternsCmpFunc[wafer/queue.Item]", by decide, Try.func61.trans (congrArg some rfl)⟩,
    f23 := ⟨ "slices.choosePivotCmpFunc[wafer/queue.Item]", by decide, Try.func62.trans (congrArg some rfl)⟩,
    f24 := ⟨ "slices.reverseRangeCmpFunc[wafer/queue.Item]", by decide, Try.func63.trans (congrArg some rfl)⟩,
    f25 := ⟨ "slices.partialInsertionSortCmpFunc[wafer/queue.Item]", by decide, Try.func64.trans (congrArg some rfl)⟩,
    f26 := ⟨ "slices.partitionEqualCmpFunc[wafer/queue.Item]", by decide, Try.func65.trans (congrArg some rfl)⟩,
    f27 := ⟨ "slices.partitionCmpFunc[wafer/queue.Item]", by decide, Try.func66.trans (congrArg some rfl)⟩,
    f46 := ⟨ "slices.siftDownCmpFunc[wafer/queue.Item]", by decide, Try.func69.trans (congrArg some rfl)⟩,
    f49 := ⟨ "slices.medianAdjacentCmpFunc[wafer/queue.Item]", by decide, Try.func72.trans (congrArg some rfl)⟩,
    f50 := ⟨ "slices.medianCmpFunc[wafer/queue.Item]", by decide, Try.func73.trans (congrArg some rfl)⟩,
    f57 := ⟨ "slices.order2CmpFunc[wafer/queue.Item]", by decide, Try.func74.trans (congrArg some rfl)⟩,
    f15 := Try.func56.trans (congrArg some rfl),
    f28 := Try.func67.trans (congrArg some rfl),
    f29 := Try.func68.trans (congrArg some rfl),
    f47 := Try.func70.trans (congrArg some rfl),
    f48 := Try.func71.trans (congrArg some rfl),
    t0 := Try.underlying0,
    a0 := Try.isAgg0,
    z0 := Try.sizeOf0,
    v0 := Try.zeroValue0,
    t3 := Try.underlying3,
    a3 := Try.isAgg3,
    z3 := Try.sizeOf3,
    v3 := Try.zeroValue3,
    t4 := Try.underlying4,
    a4 := Try.isAgg4,
    z4 := Try.sizeOf4,
    v4 := Try.zeroValue4,
    t5 := Try.underlying5,
    a5 := Try.isAgg5,
    z5 := Try.sizeOf5,
    v5 := Try.zeroValue5,
    t9 := Try.underlying9,
    a9 := Try.isAgg9,
    z9 := Try.sizeOf9,
    v9 := Try.zeroValue9,
    t22 := Try.underlying25,
    a22 := Try.isAgg25,
    z22 := Try.sizeOf25,
    v22 := Try.zeroValue25,
    t25 := Try.underlying65,
    a25 := Try.isAgg65,
    z25 := Try.sizeOf65,
    v25 := Try.zeroValue65,
    t39 := Try.underlying92,
    a39 := Try.isAgg92,
    z39 := Try.sizeOf92,
    v39 := Try.zeroValue92,
    t45 := Try.underlying97,
    a45 := Try.isAgg97,
    z45 := Try.sizeOf97,
    v45 := Try.zeroValue97,
    t46 := Try.underlying98,
    a46 := Try.isAgg98,
    z46 := Try.sizeOf98,
    v46 := Try.zeroValue98,
    t50 := Try.underlying68,
    a50 := Try.isAgg68,
    z50 := Try.sizeOf68,
    v50 := Try.zeroValue68,
    t53 := Try.underlying104,
    a53 := Try.isAgg104,
    z53 := Try.sizeOf104,
    v53 := Try.zeroValue104,
    t55 := Try.underlying106,
    a55 := Try.isAgg106,
    z55 := Try.sizeOf106,
    v55 := Try.zeroValue106,
    t66 := Try.underlying107,
    a66 := Try.isAgg107,
    z66 := Try.sizeOf107,
    v66 := Try.zeroValue107,
    t70 := Try.underlying111,
    a70 := Try.isAgg111,
    z70 := Try.sizeOf111,
    v70 := Try.zeroValue111,
    t76 := Try.underlying113,
    a76 := Try.isAgg113,
    z76 := Try.sizeOf113,
    v76 := Try.zeroValue113,
    t77 := Try.underlying114,
    a77 := Try.isAgg114,
    z77 := Try.sizeOf114,
    v77 := Try.zeroValue114 }
end Go.Proofs.Ytohhchcjfebkhaa

/- slices.SortedFunc, at items. -/
namespace Go.Proofs.Ytohhchcjfebkhaa
open Go.Proofs Go.RowKit Go.Shelf Go.Lib Go.Sort

attribute [local go_sem] Oper.semAt_some

set_option maxRecDepth 100000 in
set_option maxHeartbeats 1000000 in
theorem insNil_in (F : Fence) (n : Nat) (h : F.fn 59) (hro : F.round = none) (g : Value) (w : World) : CallsIn F n Try.prog 59 #[.slice none 0 0, .int .i64 0, .int .i64 0, g] w fun e w' => e = .returned (.tuple #[]) ∧ w' = w := by
  refine callsIn_of_wp Try.func59 rfl h ?_ hro
  simp only [Try.ntmps59, List.size_toArray, List.length_cons, List.length_nil, Nat.reduceAdd, Nat.reduceSub, Array.replicate_succ, Array.replicate_zero, List.push_toArray, List.append_toArray, List.nil_append, List.cons_append]
  gi_wp2
  gi_loopw [8] (fun i wr => i = .int .i64 1 ∧ wr = w) (fun _ _ => 0)
  case atStart => exact ⟨rfl, rfl⟩
  case round =>
    obtain ⟨rfl, rfl⟩ := hrel
    gi_wp2
    go_end0
    exact ⟨rfl, rfl⟩
set_option maxRecDepth 100000 in
set_option maxHeartbeats 1000000 in
theorem pdqNil_in (F : Fence) (n : Nat) (h5 : F.fn 55) (h : F.fn 59) (hro : F.round = none) (hn : 1 ≤ n) (g : Value) (k : Int) (w : World) : CallsIn F n Try.prog 55 #[.slice none 0 0, .int .i64 0, .int .i64 0, .int .i64 k, g] w fun e w' => e = .returned (.tuple #[]) ∧ w' = w := by
  refine callsIn_of_wp Try.func55 rfl h5 ?_ hro
  simp only [Try.ntmps55, List.size_toArray, List.length_cons, List.length_nil, Nat.reduceAdd, Nat.reduceSub, Array.replicate_succ, Array.replicate_zero, List.push_toArray, List.append_toArray, List.nil_append, List.cons_append]
  gi_wp2
  gi_loopw [1, 2] (fun i j wr => i = .int .i64 0 ∧ j = .int .i64 0 ∧ wr = w) (fun _ _ _ => 0)
  case atStart => exact ⟨rfl, rfl, rfl⟩
  case round =>
    obtain ⟨rfl, rfl, rfl⟩ := hrel
    gi_wp2_with (gi_at_call 59; refine (insNil_in F (n - 1) h hro _ _).mono ?_; rintro e w' ⟨rfl, rfl⟩)
    refine bodyPost_ret (results_none rfl _ _ _) rfl ?_
    exact ⟨rfl, rfl⟩
theorem bitsLen0 (w : World) : Calls Try.prog 56 #[.int .u64 0] w fun e w' => (∃ l : Int, e = .returned (.int .i64 l)) ∧ w' = w :=
  (Any.bits_Len (SlLaysF0.n15.bits (P := Try.prog) (ρ := sortQ_ren) { sortQ with }) 0 w (by omega) (by omega)).mono fun _ _ ⟨he, hw⟩ => ⟨⟨_, he⟩, hw⟩
set_option maxRecDepth 100000 in
set_option maxHeartbeats 1000000 in
theorem sortNil (g : Value) (w : World) : Calls Try.prog 45 #[.slice none 0 0, g] w fun e w' => e = .returned (.tuple #[]) ∧ w' = w := by
  have hl := bitsLen0 w
  have hp := fun k => callsIn_wide.1 (pdqNil_in Fence.wide 2 trivial trivial rfl (by omega) g k w)
  have wr : IntKind.u64.wrap (0 : Int) = 0 := rfl
  go_enter Try.func45, Try.ntmps45
  go_wp2_with (first | (go_at_call 56; refine hl.mono ?_; rintro e w' ⟨⟨l, rfl⟩, rfl⟩) | (go_at_call 55; refine (hp _).mono ?_; rintro e w' ⟨rfl, rfl⟩))
  go_end0
  exact ⟨rfl, rfl⟩
/-- What a contract over closed data says of the world. -/
theorem grow_of {w w' : World} (h : RowKit.Below w.heap.size w w') (hd : w.drawn ≤ w'.drawn) : ∃ q os', w' = grow (w.drewN q) os' := by
  refine ⟨w'.drawn - w.drawn, w'.heap.extract w.heap.size w'.heap.size, ?_⟩
  obtain ⟨heap, tape, drawn, os, output⟩ := w'
  obtain ⟨h1, h2, h3, h4, h5⟩ := h
  simp only at h1 h2 h3 h4 h5 hd ⊢
  subst h1; subst h2; subst h3
  unfold grow World.drewN
  simp only [World.mk.injEq, true_and, and_true]
  refine ⟨?_, by omega⟩
  apply Array.ext_getElem?
  intro i
  by_cases hi : i < w.heap.size
  · rw [Array.getElem?_append_left hi, h5 i hi]
  · rw [Array.getElem?_append_right (by omega), Array.getElem?_extract]
    by_cases h6 : i < heap.size
    · rw [if_pos (by omega)]; congr 1; omega
    · rw [if_neg (by omega), Array.getElem?_eq_none (by omega)]
def encIV (x : It) : List Value := [.int .i64 x.1, .string x.2]
theorem ltO (x y : It) : ltOf ord x y = decide (lt x y) := by unfold ltOf; exact ord_lt x y
theorem swoO : SWO (ltOf ord) where
  irrefl x := by rw [ltO]; simpa using lt_irrefl x
  trans x y z h1 h2 := by rw [ltO] at *; simp only [decide_eq_true_eq] at *; exact lt_trans h1 h2
  ntrans x y z h1 h2 := by rw [ltO] at *; simp only [decide_eq_false_iff_not] at *; exact le_trans h2 h1
theorem cmpLays (blk off size : Nat) (w : World) : CmpLays Try.prog 28 #[] encIV 2 ord blk off size w := by
  intro m os dk _ x y
  generalize sortWorldK encIV 2 w blk off m dk os = W
  have h := order_dn x y (fun _ => False) W [.agg #[.int .i64 x.1, .string x.2], .agg #[.int .i64 y.1, .string y.2]]
    (by
      simp only [dIt, encIt, Go.Vx.RepDs, Go.Vx.RepD]
      exact ⟨_, _, rfl, ⟨_, rfl, _, _, rfl, rfl, _, _, rfl, rfl, rfl⟩, _, _, rfl, ⟨_, rfl, _, _, rfl, rfl, _, _, rfl, rfl, rfl⟩, rfl⟩) (fun _ h => h.elim) trivial
  refine h.mono ?_
  rintro e w' ⟨o, S', ho, hok, ⟨hb, hd⟩, _⟩
  cases o with
  | pan x => exact ho.elim
  | ret d =>
    have ho : d = .int .i64 (ord x y) := ho
    subst ho
    obtain ⟨v, rfl, hv⟩ := hok
    simp only [Go.Vx.RepD] at hv
    exact ⟨by rw [hv], grow_of hb hd⟩
theorem flatV_get : ∀ (zs : List It) (j : Nat), j < zs.length * 2 → (flatV zs)[j]? = some ((encIV (zs.getD (j / 2) (0, .empty)))[j % 2]!)
  | [], j, h => by simp at h
  | x :: r, 0, h => by simp [flatV, encIV]
  | x :: r, 1, h => by simp [flatV, encIV]
  | x :: r, j + 2, h => by
    have := flatV_get r j (by simp at h; omega)
    rw [show (j + 2) / 2 = j / 2 + 1 from by omega, show (j + 2) % 2 = j % 2 from by omega]
    simpa [flatV] using this
theorem flatK_get (d : Array It) (j : Nat) (h : j < d.size * 2) : (flatK encIV 2 d)[j]! = (encIV (ix d.toList (j / 2)))[j % 2]! := by
  rw [get_flatK _ _ _ _ h]
  congr 2
  unfold ix
  have : j / 2 < d.size := by omega
  rw [List.getD_eq_getElem?_getD, Array.getElem?_toList, getElem!_pos d (j / 2) this, Array.getElem?_eq_getElem this]; rfl
theorem holdsIt {w : World} {g : Nat} {cur : Array Value} {zs : List It} (hg : w.heap[g]? = some (.cells cur 30 (0, 0))) (hc : cur.toList.take (zs.length * 2) = flatV zs) : HoldsK encIV 2 w g 0 zs.toArray := by
  intro j hj
  rw [size_flatK] at hj
  simp only [List.size_toArray] at hj
  constructor
  · rw [flatK_get _ _ (by simpa using hj)]
    have h1 := flatV_get zs j hj
    rw [← hc, List.getElem?_take_of_lt hj, Array.getElem?_toList] at h1
    simp only [World.cell?, hg, Nat.zero_add]
    simpa [ix] using h1
  · simp [World.frozen?, hg]
/-- A slice value holds these items, in a block from B on. -/
def SlAt (B : Nat) (w : World) (v : Value) (ys : List It) : Prop :=
  (v = .slice none 0 0 ∧ ys = []) ∨ ∃ g cap, v = .slice (some ⟨g, 0, none⟩) ys.length cap ∧ ys.length ≤ cap ∧ B ≤ g ∧ g < w.heap.size ∧ ∀ j, j < ys.length → w.cell? ⟨g, j * 2, none⟩ = some (.int .i64 (ix ys j).1) ∧ w.cell? ⟨g, j * 2 + 1, none⟩ = some (.string (ix ys j).2)
theorem slAt_of {w : World} {g cap B : Nat} {d : Array It} (hH : HoldsK encIV 2 w g 0 d) (hB : B ≤ g) (hg : g < w.heap.size) (hcap : d.size ≤ cap) : SlAt B w (.slice (some ⟨g, 0, none⟩) d.size cap) d.toList := by
  refine .inr ⟨g, cap, by simp, by simpa using hcap, hB, hg, fun j hj => ?_⟩
  simp only [Array.length_toList] at hj
  have h0 := (hH (j * 2) (by rw [size_flatK]; omega)).1
  have h1 := (hH (j * 2 + 1) (by rw [size_flatK]; omega)).1
  rw [flatK_get _ _ (by omega), Nat.zero_add] at h0 h1
  rw [show j * 2 / 2 = j from by omega, show j * 2 % 2 = 0 from by omega] at h0
  rw [show (j * 2 + 1) / 2 = j from by omega, show (j * 2 + 1) % 2 = 1 from by omega] at h1
  exact ⟨h0, h1⟩
theorem below_sort (w : World) (B g m : Nat) (d : Array It) (os : Array Obj) (hB : B ≤ g) (hw : B ≤ w.heap.size) : RowKit.Below B w (sortWorldK encIV 2 w g 0 m d os) := by
  refine ⟨rfl, rfl, rfl, size_sortWorldK_c _ _ _ _ _ _ _ _, fun k hk => ?_⟩
  unfold sortWorldK
  rw [heap_grow_old _ _ (by rw [size_putRowK]; exact Nat.lt_of_lt_of_le hk hw)]
  show (w.heap.modify g _)[k]? = _
  rw [Array.getElem?_modify, if_neg (by omega)]
theorem sortAny (B : Nat) (v : Value) (zs : List It) (w : World) (hz : zs.length * 24 ≤ 140737488355328) (hrow : w.ownsRow B 30 2 v zs.length (flatV zs)) (hB : B ≤ w.heap.size) :
    Calls Try.prog 45 #[v, .func (.func 28) #[] #[]] w fun e w' => e = .returned (.tuple #[]) ∧ ∃ ys, ys.Perm zs ∧ ys.Pairwise (fun a b => ¬ lt b a) ∧ RowKit.Below B w w' ∧ SlAt B w' v ys := by
  rcases hrow.2 with ⟨rfl, h0⟩ | ⟨g, cap, cur, rfl, hBg, hg, hcap, hmax, hcs, htk⟩
  · obtain rfl : zs = [] := List.eq_nil_of_length_eq_zero h0
    refine (sortNil _ w).mono ?_
    rintro e w' ⟨rfl, rfl⟩
    exact ⟨rfl, [], .refl _, .nil, RowKit.Below.refl _ _, .inl ⟨rfl, rfl⟩⟩
  · have eg : ∀ args w, (callFunc 28 args).run Try.prog w = .ok (.enter 28 args) w := enters_of Try.func28 (by kernel_rfl) rfl
    have hlt := (Array.getElem?_eq_some_iff.1 hg).1
    have hH := holdsIt hg htk
    have hcon := AnyQ.slices_SortFunc sortQ 2 Try.isAgg30 Try.sizeOf30 encIV (fun _ => rfl) (fun x v hv => by simp [encIV] at hv; rcases hv with rfl | rfl <;> rfl) ord swoO 28 #[] g 0 cap zs.toArray w eg (cmpLays g 0 zs.toArray.size w) hH hlt (by simp; omega)
    simp only [List.size_toArray] at hcon
    refine hcon.mono ?_
    rintro e w' ⟨rfl, d', m, os, hp, hs, rfl⟩
    have hsz : d'.size = zs.length := by have := hp.1; simpa using this
    have hH' := holdsK_sortWorldK_c encIV 2 w g 0 zs.toArray d' m os hH hlt (by simpa using hsz)
    refine ⟨rfl, d'.toList, ?_, ?_, below_sort w B g m d' os hBg hB, ?_⟩
    · have := hp.2.2
      rw [show (d'.extract 0 zs.length) = d' from by rw [← hsz]; simp, show (zs.toArray.extract 0 zs.length) = zs.toArray from by rw [show zs.length = zs.toArray.size from by simp]; exact Array.extract_size] at this
      exact this
    · rw [List.pairwise_iff_getElem]
      intro i j hi hj hij
      have := hs i j (Nat.zero_le _) hij (by simpa [hsz] using hj)
      rw [ltO, decide_eq_false_iff_not] at this
      simp only [Array.length_toList] at hi hj
      rw [getElem!_pos d' i hi, getElem!_pos d' j hj] at this
      simpa using this
    · rw [← hsz]
      exact slAt_of hH' hBg (Nat.lt_of_lt_of_le hlt (size_sortWorldK_c _ _ _ _ _ _ _ _)) (by omega)
set_option maxRecDepth 100000 in
set_option maxHeartbeats 1000000 in
theorem sortedFunc (Bs : Nat) (sv : Value) (zs : List It) (hreach : zs.length * 24 ≤ 140737488355328) (w : World) (hBs : Bs < w.heap.size) (hc : w.cell? ⟨Bs, 0, none⟩ = some sv) (hI : ItsAt w.heap.size w sv zs) :
    Calls Try.prog 26 #[.func (.func 46) #[] #[.pointer (some ⟨Bs, 0, none⟩)], .func (.func 28) #[] #[]] w fun e w' => ∃ v ys, e = .returned v ∧ ys.Perm zs ∧ ys.Pairwise (fun a b => ¬ lt b a) ∧ RowKit.Below w.heap.size w w' ∧ SlAt w.heap.size w' v ys := by
  have h44 := callsIn_wide.1 (collect_in Fence.wide 5 trivial trivial trivial rfl (by omega) Bs sv zs hreach w hBs hc hI)
  go_enter Try.func26, Try.ntmps26
  go_wp2_with (first | (go_at_call 44; refine h44.mono ?_; rintro e w1 ⟨v, rfl, hrow, hb⟩) | (go_at_call 45; refine (sortAny w.heap.size _ zs _ hreach hrow hb.size).mono ?_; rintro e w2 ⟨rfl, ys, hp, hs, hb2, hat⟩))
  go_ret
  exact ⟨v, ys, rfl, hp, hs, hb.trans hb2, hat⟩
end Go.Proofs.Ytohhchcjfebkhaa

/- Items. -/
namespace Go.Proofs.Ytohhchcjfebkhaa
open Go.Vx Go.Vc Go.RowKit

/-- A call that leaves what was there as it was, and returns closed data. -/
theorem tri_low {P : Program} {f : FuncId} {n : Nat} {args : List Go.Vx.SV} {H : Hp} {Q : D → Prop}
    (h : ∀ (e : Env) (w : World) (vs : List Value), e.m.length = n → RepSVs e w args vs → HpOk e w H → Calls P f vs.toArray w fun en w' => RowKit.Below w.heap.size w w' ∧ ∃ d v, Q d ∧ en = .returned v ∧ RepD (fun k => e.pub k ∨ (w.heap.size ≤ k ∧ k < w'.heap.size)) w' d v) :
    Tri P G0 f n 0 args H (fun o H' => (∃ d, Q d ∧ o = .ret (.d d)) ∧ H' = H) := by
  intro e w vs hlen hargs hH hG
  refine (h e w vs hlen hargs hH).mono ?_
  rintro en w' ⟨hb, d, v, hq, rfl, hv⟩
  have kw : Kept e w ⟨e.m, fun k => e.pub k ∨ (w.heap.size ≤ k ∧ k < w'.heap.size)⟩ w' := ⟨fun _ _ h => h, fun _ h => .inl h, same_of_below hb _, hb.size⟩
  have hlt : ∀ i k, has H i → foot e i k → k < w.heap.size := fun i k hi hk => hH.lt hi hk
  refine ⟨.ret (.d d), H, ⟨e.m, fun k => e.pub k ∨ (w.heap.size ≤ k ∧ k < w'.heap.size)⟩, ⟨⟨d, hq, rfl⟩, rfl⟩, ⟨v, rfl, by simpa only [RepSV] using hv⟩, ⟨⟨fun i o ho => ?_, hH.sep, fun i k hi hk hp => ?_, fun k hk => ?_⟩, rfl, Only.of_below hb, trivial, fun _ _ h _ => h, fun _ h => .inl h, fun k hk => hk.imp id (fun h => .inr h.1), fun i hi => ?_, fun i k hi hk => .inl ⟨i, hi, hk⟩⟩⟩
  · have hk0 : ∀ k, foot e i k → w'.heap[k]? = w.heap[k]? := fun k hk => hb.block k (hlt i k (by simp [has, ho]) hk)
    have := hH.ob i o ho
    cases o with
    | blk t cs =>
      obtain ⟨g, bs, h1, h2, h3⟩ := this
      exact ⟨g, bs, h1, (hk0 g ⟨_, h1, rfl⟩).trans h2, h3.kept kw⟩
    | row t eb sz n xs =>
      obtain ⟨A, c, cs, h1, h2, h3, h4⟩ := this
      exact ⟨A, c, cs, h1, h2.keep (fun k hk => hk0 k ⟨_, h1, by rw [footB_slice]; exact hk⟩), h3.kept kw, h4⟩
    | ab φ =>
      obtain ⟨v, g, o, h1, h2, h3, h4, h5⟩ := this
      exact ⟨v, g, o, h1, h2, h3, (hk0 g ⟨_, h1, h2⟩).trans h4, h5⟩
  · rcases hp with hp | ⟨hp, _⟩
    · exact hH.npub i k hi hk hp
    · have := hlt i k hi hk; omega
  · rcases hk with hk | ⟨_, hk⟩
    · exact Nat.lt_of_lt_of_le (hH.pubLt k hk) hb.size
    · exact hk
  · obtain ⟨o, ho⟩ := Option.isSome_iff_exists.1 hi
    have := hH.ob i o ho
    cases o with
    | blk t cs => obtain ⟨g, _, h1, _⟩ := this; exact (List.getElem?_eq_some_iff.1 h1).1
    | row t eb sz n xs => obtain ⟨A, c, _, h1, _⟩ := this; exact (List.getElem?_eq_some_iff.1 h1).1
    | ab φ => obtain ⟨v, g, o, h1, _⟩ := this; exact (List.getElem?_eq_some_iff.1 h1).1
theorem repQ_flat {S : Nat → Prop} {w : World} : ∀ {l : List It} {cs : List Value}, RepDs S w (encQ l) cs → cs = flatV l
  | [], cs, h => by
    have h : cs = [] := by simpa only [encQ, fl, RepDs] using h
    subst h; rfl
  | x :: r, cs, h => by
    rw [show encQ (x :: r) = .int .i64 x.1 :: .str x.2 :: encQ r from rfl] at h
    simp only [RepDs, RepD] at h
    obtain ⟨_, _, rfl, rfl, _, s, rfl, rfl, h⟩ := h
    rw [repQ_flat h]; rfl
theorem flat_repQ (S : Nat → Prop) (w : World) : ∀ l : List It, RepDs S w (encQ l) (flatV l)
  | [] => by simp only [encQ, fl, RepDs]; rfl
  | x :: r => by
    rw [show encQ (x :: r) = .int .i64 x.1 :: .str x.2 :: encQ r from rfl]
    simp only [RepDs, RepD]
    exact ⟨_, _, rfl, rfl, _, _, rfl, rfl, flat_repQ S w r⟩
theorem slAt_rep {S : Nat → Prop} {B : Nat} {w : World} {v : Value} {ys : List It} (h : SlAt B w v ys) (hS : ∀ k, B ≤ k → k < w.heap.size → S k) (hlb : ys.length * 24 ≤ LB) : RepD S w (dQ ys) v := by
  have hlb : ys.length * ebn 24 ys.length ≤ LB := by
    cases h : ys.length with
    | zero => simp
    | succ n => rw [← h]; show ys.length * ebn 24 ys.length ≤ LB; rw [h]; rw [h] at hlb; exact hlb
  simp only [dQ, slD, RepD]
  rcases h with ⟨rfl, rfl⟩ | ⟨g, cap, rfl, hcap, hB, hg, hc⟩
  · exact ⟨none, 0, rfl, by simp, by simp, fun h => absurd rfl h, by simp [encQ, fl, RepC]⟩
  · refine ⟨_, cap, rfl, hcap, hlb, fun _ => ⟨_, rfl⟩, RepC.of (flat_repQ S w ys) fun i u hu => ⟨_, rfl, hS g hB hg, ?_⟩⟩
    have hi : i < ys.length * 2 := by
      have := (List.getElem?_eq_some_iff.1 hu).1
      have h2 := (flat_repQ S w ys).len
      rw [encQ_len] at h2; omega
    have hf := flatV_get ys i hi
    rw [hu] at hf
    injection hf with hf
    rw [hf, show ((⟨g, 0, none⟩ : Addr).add (0 + i)) = ⟨g, i, none⟩ from by simp [Addr.add]; omega]
    obtain ⟨j, hj⟩ : ∃ j, i = j * 2 ∨ i = j * 2 + 1 := ⟨i / 2, by omega⟩
    rcases hj with rfl | rfl
    · rw [show j * 2 / 2 = j from by omega, show j * 2 % 2 = 0 from by omega]
      exact (hc j (by omega)).1
    · rw [show (j * 2 + 1) / 2 = j from by omega, show (j * 2 + 1) % 2 = 1 from by omega]
      exact (hc j (by omega)).2
theorem itsAt_row {w : World} {A : Option Addr} {c : Nat} {l : List It} {cs : List Value} (hrow : RowOk w ⟨.slice A l.length c, 30, 2, cs⟩) (hcs : cs = flatV l) : ItsAt w.heap.size w (.slice A l.length c) l := by
  subst hcs
  obtain ⟨n, hn, ⟨hv, hz⟩ | ⟨g, o, cap, cur, hv, hg, hc1, hc2, hsz, htk⟩⟩ := hrow
  · simp only at hv
    injection hv with h1 h2 h3
    have : l = [] := List.eq_nil_of_length_eq_zero h2
    subst this; subst h1
    exact .inl ⟨⟨_, rfl⟩, rfl⟩
  · simp only at hv hg htk hn
    injection hv with h1 h2 h3
    subst h1; subst h3
    refine .inr ⟨g, o, _, rfl, (Array.getElem?_eq_some_iff.1 hg).1, fun j hj => ?_⟩
    have key : ∀ i, i < l.length * 2 → w.cell? ⟨g, o + i, none⟩ = some ((encIV (ix l (i / 2)))[i % 2]!) := by
      intro i hi
      have hf := flatV_get l i hi
      rw [← htk, List.getElem?_take_of_lt (by omega), List.getElem?_drop, Array.getElem?_toList] at hf
      simp only [World.cell?, hg]
      simpa [ix] using hf
    have h0 := key (j * 2) (by omega)
    have h1 := key (j * 2 + 1) (by omega)
    rw [show j * 2 / 2 = j from by omega, show j * 2 % 2 = 0 from by omega] at h0
    rw [show (j * 2 + 1) / 2 = j from by omega, show (j * 2 + 1) % 2 = 1 from by omega] at h1
    exact ⟨h0, h1⟩
/-- Sorted: no later item stands ahead of an earlier one. -/
def Sorted (l : List It) : Prop := l.Pairwise fun a b => ¬ lt b a
theorem sorted_tri (l : List It) (mp) (hl : l.length * 24 ≤ LB) : Tri Try.prog G0 26 4 0 [.fn 46 [] [.own 3 0], .d (.fn 28 [] [])] (qH l mp ++ [(3, .blk 25 [.row 1])])
    (fun o H' => (∃ d, (∃ ys : List It, ys.Perm l ∧ Sorted ys ∧ d = dQ ys) ∧ o = .ret (.d d)) ∧ H' = qH l mp ++ [(3, .blk 25 [.row 1])]) := by
  refine tri_low fun e w vs hlen hargs hH => ?_
  simp only [RepSVs, RepSV, RepD, RepDs] at hargs
  obtain ⟨v1, s1, rfl, ⟨a1, b1, rfl, ha1, v, s, hb1, ⟨g, hm1, rfl⟩, rfl⟩, v2, s2, rfl, ⟨a2, b2, rfl, ha2, hb2⟩, rfl⟩ := hargs
  obtain rfl : a1 = #[] := by apply Array.ext'; exact ha1
  obtain rfl : a2 = #[] := by apply Array.ext'; exact ha2
  obtain rfl : b2 = #[] := by apply Array.ext'; exact hb2
  obtain rfl : b1 = #[.pointer (some ⟨g, 0, none⟩)] := by apply Array.ext'; exact hb1
  obtain ⟨A, c, cs, hm0, hrow, hcs, hlb⟩ := hH.ob 1 _ rfl
  obtain ⟨g', bs, hm1', hg, hbs⟩ := hH.ob 3 _ rfl
  rw [hm1] at hm1'; injection hm1' with hm1'; injection hm1' with hm1'; injection hm1' with hm1'; injection hm1' with hm1'
  subst hm1'
  simp only [RepSVs, RepSV] at hbs
  obtain ⟨v, s, hbs, ⟨A', n', c', rfl, hm0'⟩, rfl⟩ := hbs
  rw [hm0] at hm0'; injection hm0' with hm0'
  rw [← hm0'] at hbs
  obtain rfl : bs = #[.slice A l.length c] := by apply Array.ext'; exact hbs
  refine (sortedFunc g (.slice A l.length c) l hl w (Array.getElem?_eq_some_iff.1 hg).1 (by simp [World.cell?, hg]) (itsAt_row hrow (repQ_flat hcs))).mono ?_
  rintro en w' ⟨v, ys, rfl, hp, hs, hb, hat⟩
  exact ⟨hb, _, v, ⟨ys, hp, hs, rfl⟩, rfl, slAt_rep hat (fun k h1 h2 => .inr ⟨h1, h2⟩) (by rw [hp.length_eq]; exact hl)⟩
theorem values_tri (l : List It) (mp) : Tri Try.prog G0 27 3 1 [.row 1] (qH l mp) (fun o H' => o = .ret (.fn 46 [] [.own 3 0]) ∧ H' = qH l mp ++ [(3, .blk 25 [.row 1])]) := by
  refine tri_of_vc txok mixed [3] [] Try.func27 rfl rfl (by simp) fun b => ?_
  conv => whnf
  exact ⟨rfl, rfl⟩
theorem items_tri (l : List It) (mp) (hl : l.length * 24 ≤ LB) : Tri Try.prog G0 11 3 0 [.own 0 0] (qH l mp) (fun o H' => (∃ ys : List It, ys.Perm l ∧ Sorted ys ∧ o = .ret (.d (dQ ys))) ∧ H' = qH l mp) := by
  refine tri_of_vc txok mixed [] [] Try.func11 rfl rfl (by simp) fun b => ?_
  conv => whnf
  refine callT [0, 1, 2] (values_tri l mp) gf27 rfl rfl ⟨rfl, rfl, rfl, trivial⟩ rfl ?_
  rintro o' H' ⟨rfl, rfl⟩
  conv => whnf
  refine callT [0, 1, 2, 3] (sorted_tri l mp hl) gf26 rfl rfl ⟨rfl, rfl, rfl, rfl, trivial⟩ rfl ?_
  rintro o' H' ⟨⟨d, ⟨ys, hp, hs, rfl⟩, rfl⟩, rfl⟩
  conv => whnf
  exact ⟨⟨ys, hp, hs, rfl⟩, rfl⟩
end Go.Proofs.Ytohhchcjfebkhaa

