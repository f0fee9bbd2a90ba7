/- Texts of mine, joined: Bd Be Bf Bg. -/
import Derived.RangeFuncBox
import Derived.RangeFuncLeaves
import Derived.RangeFuncNested
import Derived.Shelf.Abstract
import Derived.WalkKit
import Derived.OwnWalkIn
import Derived.TacticsInMore
import Derived.LoopNIn
import Derived.LoopIn
import Derived.Test.YtcjkikadolnfgaaGreatPao
/- slices.Backward, and the last place of a number. -/
set_option linter.unusedSimpArgs false
set_option linter.unusedVariables false
namespace Go.Proofs.YtcjkikadolnfgaaGreat
open Go.Proofs Go.RowKit Go.Shelf
attribute [local go_sem] Oper.semAt_some
def ixI (zs : List Int) (j : Nat) : Int := zs.getD j 0
def prI (zs : List Int) : List (Int × Int) := (List.range zs.length).map fun j => (((zs.length - 1 - j : Nat) : Int), ixI zs (zs.length - 1 - j))
theorem prI_take {zs : List Int} {k : Nat} (h : k < zs.length) : (prI zs).take (k + 1) = (prI zs).take k ++ [(((zs.length - 1 - k : Nat) : Int), ixI zs (zs.length - 1 - k))] := by
  have hl : k < (prI zs).length := by simp [prI, h]
  rw [List.take_succ_eq_append_getElem hl]
  simp [prI]
def encP (x : Int × Int) : Array Value := #[.int .i64 x.1, .int .i64 x.2]
set_option maxRecDepth 100000 in
set_option maxHeartbeats 2000000 in
theorem back1_in (F : Fence) (n : Nat) (h70 : F.fn 174) (hro : F.round = none) (hn : 1 ≤ n) (l Bs n₀ b off cap : Nat) (zs : List Int) (hreach : zs.length * 8 ≤ 140737488355328) (hb : b < n₀) (J Jx : List (Int × Int) → World → Prop) (W : World) (hJ : AbidesFrom W.heap.size J)
    (hY : ∀ pre x W, J pre W → pre.length < zs.length → YieldAt F (n - 1) Tryz.prog l (encP x) W fun e W' =>
      (e = .returned (.bool true) ∧ J (pre ++ [x]) W' ∧ Below n₀ W W') ∨ (e = .returned (.bool false) ∧ Jx (pre ++ [x]) W'))
    (hW : n₀ ≤ W.heap.size) (hBl : Bs < n₀) (hBs : W.cell? ⟨Bs, 0, none⟩ = some (.slice (some ⟨b, off, none⟩) zs.length cap))
    (hc : ∀ j, j < zs.length → W.cell? ⟨b, off + j, none⟩ = some (.int .i64 (ixI zs j))) (h0 : J [] W) :
    CallsIn F n Tryz.prog 174 #[.func (.yield l) #[] #[], .pointer (some ⟨Bs, 0, none⟩)] W fun e W' => (∃ v, e = .returned v) ∧
      ((∃ ys, ys = prI zs ∧ J ys W') ∨ (∃ pre, (∃ k, k ≤ zs.length ∧ pre = (prI zs).take k) ∧ Jx pre W')) := by
  refine callsIn_of_wp Tryz.func174 rfl h70 ?_ hro
  simp only [Tryz.ntmps174, List.size_toArray, List.length_cons, List.length_nil, Nat.reduceAdd, Nat.reduceSub, Array.replicate_succ, Array.replicate_zero, List.push_toArray, List.append_toArray, List.nil_append, List.cons_append]
  gi_wp2
  gi_loopw [3] (fun i wr => ∃ k : Nat, k ≤ zs.length ∧ i = .int .i64 ((zs.length : Int) - 1 - k) ∧ J ((prI zs).take k) wr ∧ Below n₀ W wr)
    (fun i _ => (intOf i + 1).toNat)
  case atStart => exact ⟨0, Nat.zero_le _, by simp, h0, Below.refl _ _⟩
  case round =>
    obtain ⟨k, hk, rfl, hJs, hnx⟩ := hrel
    by_cases hlt : k < zs.length
    · have e : (zs.length : Int) - 1 - (k : Int) = ((zs.length - 1 - k : Nat) : Int) := by omega
      have hcx := hc (zs.length - 1 - k) (by omega)
      have hc1 := (hnx.cell (p := ⟨b, off + (zs.length - 1 - k), none⟩) hb).trans hcx
      have hBs1 := (hnx.cell (p := ⟨Bs, 0, none⟩) hBl).trans hBs
      have htk := prI_take hlt
      rw [e]
      generalize hq : zs.length - 1 - k = q at *
      obtain ⟨fn, tmps, assign, body, hy, hR⟩ := hY ((prI zs).take k) ((q : Int), ixI zs q) wr hJs (by simp [prI]; omega)
      unfold encP at hy
      gi_wp2
      refine hR.mono ?_
      rintro e W3 (⟨rfl, hJ3, hk3⟩ | ⟨rfl, hJx3⟩)
      · gi_wp2
        go_roundw
        case rel => exact ⟨k + 1, by omega, by congr 1; omega, by rw [htk]; exact hJ3, hnx.trans hk3⟩
        case measure => simp [intOf]
      · gi_wp2
        refine bodyPost_ret (results_none rfl _ _ _) rfl ?_
        exact ⟨⟨_, rfl⟩, .inr ⟨_, ⟨k + 1, by omega, htk.symm⟩, hJx3⟩⟩
    · obtain rfl : k = zs.length := by omega
      gi_wp2
      go_end0
      exact ⟨⟨_, rfl⟩, .inl ⟨_, rfl, by rw [List.take_of_length_le (by simp [prI])] at hJs; exact hJs⟩⟩
set_option maxRecDepth 100000 in
set_option maxHeartbeats 1000000 in
theorem back1_nil_in (F : Fence) (n : Nat) (h70 : F.fn 174) (hro : F.round = none) (l Bs c : Nat) (A : Option Addr) (J : List (Int × Int) → World → Prop) (W : World) (hBs : W.cell? ⟨Bs, 0, none⟩ = some (.slice A 0 c)) (h0 : J [] W) :
    CallsIn F n Tryz.prog 174 #[.func (.yield l) #[] #[], .pointer (some ⟨Bs, 0, none⟩)] W fun e W' => (∃ v, e = .returned v) ∧ J [] W' := by
  refine callsIn_of_wp Tryz.func174 rfl h70 ?_ hro
  simp only [Tryz.ntmps174, List.size_toArray, List.length_cons, List.length_nil, Nat.reduceAdd, Nat.reduceSub, Array.replicate_succ, Array.replicate_zero, List.push_toArray, List.append_toArray, List.nil_append, List.cons_append]
  gi_wp2
  gi_loopw [3] (fun i wr => i = .int .i64 (-1) ∧ J [] wr) (fun _ _ => 0)
  case atStart => exact ⟨rfl, h0⟩
  case round =>
    obtain ⟨rfl, hJs⟩ := hrel
    gi_wp2
    go_end0
    exact ⟨⟨_, rfl⟩, hJs⟩
def IntsAt (n₀ : Nat) (W : World) (sv : Value) (zs : List Int) : Prop :=
  ((∃ A c, sv = .slice A 0 c) ∧ zs = []) ∨ ∃ b off cap, sv = .slice (some ⟨b, off, none⟩) zs.length cap ∧ b < n₀ ∧ ∀ j, j < zs.length → W.cell? ⟨b, off + j, none⟩ = some (.int .i64 (ixI zs j))
theorem IntsAt.below {n₀ : Nat} {A B : World} (h : Below n₀ A B) {sv : Value} {zs : List Int} : IntsAt n₀ A sv zs → IntsAt n₀ B sv zs
  | .inl e => .inl e
  | .inr ⟨b, off, cap, e, hb, hc⟩ => .inr ⟨b, off, cap, e, hb, fun j hj => (h.cell (p := ⟨b, off + j, none⟩) hb).trans (hc j hj)⟩
theorem back_stops (F : Fence) (n : Nat) (h70 : F.fn 174) (hro : F.round = none) (hn : 1 ≤ n) (Bs n₀ : Nat) (sv : Value) (zs : List Int) (hreach : zs.length * 8 ≤ 140737488355328) (w : World) (hBs : Bs < n₀) (hn₀ : n₀ ≤ w.heap.size)
    (hc : w.cell? ⟨Bs, 0, none⟩ = some sv) (hI : IntsAt n₀ w sv zs) :
    SeqStopsK F n Tryz.prog 174 #[.pointer (some ⟨Bs, 0, none⟩)] encP (Below n₀) (fun ys => ys = prI zs) (fun pre => ∃ k, k ≤ zs.length ∧ pre = (prI zs).take k) zs.length w := fun l J Jx W hW hJ _ hY h0 => by
  have hc' := (hW.cell (p := ⟨Bs, 0, none⟩) (Nat.lt_of_lt_of_le hBs hn₀)).trans hc
  rcases hI.below (hW.mono hn₀) with ⟨⟨A, c, rfl⟩, rfl⟩ | ⟨b, off, cap, rfl, hb, hcs⟩
  · exact (back1_nil_in F n h70 hro l Bs c A J W hc' h0).mono fun e W' ⟨he, hj⟩ => ⟨he, .inl ⟨_, rfl, hj⟩⟩
  · exact back1_in F n h70 hro hn l Bs n₀ b off cap zs hreach hb J Jx W hJ hY (Nat.le_trans hn₀ hW.size) hBs hc' hcs h0
theorem IntsAt.up {n₀ n₁ : Nat} {A B : World} (h : Below n₀ A B) (hn : n₀ ≤ n₁) {sv : Value} {zs : List Int} (hI : IntsAt n₀ A sv zs) : IntsAt n₁ B sv zs := by
  rcases hI.below h with e | ⟨b, off, cap, e, hb, hc⟩
  · exact .inl e
  · exact .inr ⟨b, off, cap, e, Nat.lt_of_lt_of_le hb hn, hc⟩
theorem find_last {l : List (Int × Int)} {q : List (Int × Int)} {y : Int × Int} {x : Int} (h : ∃ r, l = q ++ [y] ++ r) (hy : y.2 = x) (hq : ∀ z ∈ q, z.2 ≠ x) : l.find? (fun p => p.2 == x) = some y := by
  obtain ⟨r, rfl⟩ := h
  rw [List.append_assoc, List.find?_append]
  have : q.find? (fun p => p.2 == x) = none := by
    rw [List.find?_eq_none]
    intro z hz
    simpa using hq z hz
  rw [this]
  simp [hy]
def lastI (zs : List Int) (x : Int) : Int := match (prI zs).find? fun p => p.2 == x with
  | some p => p.1
  | none => -1
theorem box1_own (B : Nat) (t : TypeId) (v : Value) : Own (fun (_ : List (Int × Int)) W => Boxed W B t v) := fun s X Y row hs hg hrow =>
  hs.kept hg (fun e => by obtain ⟨o, ho, hc⟩ := hrow B e.symm; rw [show X.heap[B]? = _ from hs] at ho; cases ho; cases hc)
theorem res_cell1 {fn : Func} {p : Tmp} {ty : TypeId} {ti : Go.Vx.TY} (hty : Go.Vc.lk tx ty = some ti) (hag : ti.i.agg = false) (h : fn.results = #[.cell p ty]) {tmps : Array Value} {w : World} {a : Addr} {v : Value} (hp : tmps.getD p undef = .pointer (some a)) (hc : w.cell? a = some v) :
    (results fn tmps).run Tryz.prog w = .ok v w := by
  have hp' : tmps[p]?.getD undef = .pointer (some a) := by simpa using hp
  have := Go.Vc.run_loadVar1 (P := Tryz.prog) (w := w) (txok _ _ hty).i hc hag
  simp [results, h, hp', asAddr, this]
set_option maxRecDepth 100000 in
set_option maxHeartbeats 4000000 in
theorem last_in (F : Fence) (n : Nat) (h35 : F.fn 84) (h53 : F.fn 138) (h70 : F.fn 174) (hro : F.round = none) (hn : 3 ≤ n) (A : Option Addr) (m cp : Nat) (zs : List Int) (x : Int) (hreach : zs.length * 8 ≤ 140737488355328) (w : World)
    (hI : IntsAt w.heap.size w (.slice A m cp) zs) :
    CallsIn F n Tryz.prog 84 #[.slice A m cp, .int .i64 x] w fun e W' => e = .returned (.int .i64 (lastI zs x)) ∧ Below w.heap.size w W' := by
  have h1 : 1 ≤ n := by omega
  have hback : ∀ w', CallsIn F (n - 1) Tryz.prog 138 #[.slice A m cp] w' fun e W' => e = .returned (.func (.func 174) #[] #[.pointer (some ⟨w'.heap.size, 0, none⟩)]) ∧ W' = w'.alloc (.cells #[.slice A m cp] 36) := by
    intro w'
    refine callsIn_of_wp Tryz.func138 rfl h53 ?_ hro
    simp only [Tryz.ntmps138, List.size_toArray, List.length_cons, List.length_nil, Nat.reduceAdd, Nat.reduceSub, Array.replicate_succ, Array.replicate_zero, List.push_toArray, List.append_toArray, List.nil_append, List.cons_append]
    gi_wp2
    go_ret
    exact ⟨rfl, rfl⟩
  refine callsIn_of_wp_marks Tryz.func84 rfl h35 ?_ hro
  simp only [Tryz.ntmps84, List.size_toArray, List.length_cons, List.length_nil, Nat.reduceAdd, Nat.reduceSub, Array.replicate_succ, Array.replicate_zero, List.push_toArray, List.append_toArray, List.nil_append, List.cons_append]
  gi_wp2_with (gi_at_call 138; refine (hback _).mono ?_; rintro e w' ⟨rfl, rfl⟩)
  have hB0 : Below w.heap.size w (((w.alloc (.cells #[.int .i64 x] 3)).alloc (.cells #[.int .i64 0] 3)).alloc (.cells #[.slice A m cp] 36)) := (((Below.refl _ w).alloc (Nat.le_refl _) _).alloc (by simp) _).alloc (by simp; omega) _
  have b0 := ((Boxed.new w 3 (.int .i64 x)).alloc (.cells #[.int .i64 0] 3)).alloc (.cells #[.slice A m cp] 36)
  have b1 := (Boxed.new (w.alloc (.cells #[.int .i64 x] 3)) 3 (.int .i64 0)).alloc (.cells #[.slice A m cp] 36)
  have b2 := Boxed.new ((w.alloc (.cells #[.int .i64 x] 3)).alloc (.cells #[.int .i64 0] 3)) 36 (.slice A m cp)
  have hsz : (((w.alloc (.cells #[.int .i64 x] 3)).alloc (.cells #[.int .i64 0] 3)).alloc (.cells #[.slice A m cp] 36)).heap.size = w.heap.size + 3 := by simp
  rw [show (w.alloc (.cells #[.int .i64 x] 3)).heap.size = w.heap.size + 1 from by simp] at b1
  rw [show ((w.alloc (.cells #[.int .i64 x] 3)).alloc (.cells #[.int .i64 0] 3)).heap.size = w.heap.size + 1 + 1 from by simp] at b2
  obtain ⟨W0, hW0⟩ : ∃ W0, (((w.alloc (.cells #[.int .i64 x] 3)).alloc (.cells #[.int .i64 0] 3)).alloc (.cells #[.slice A m cp] 36)) = W0 := ⟨_, rfl⟩
  rw [hW0] at hB0 b0 b1 b2 hsz ⊢
  clear hW0
  refine wpIn_rangeFunc_ownH hro h1 (gf := 174) (lb := #[.pointer (some ⟨w.heap.size + 1 + 1, 0, none⟩)]) rfl h70 (enters_of Tryz.func174 (by kernel_rfl) rfl)
    (back_stops F (n - 1) h70 hro (by omega) (w.heap.size + 1 + 1) (w.heap.size + 3) (.slice A m cp) zs hreach W0 (by omega) (by omega) b2.cell (hI.up hB0 (by omega))) belowK_t (belowK_b (by omega)) (Below.refl _ _) (fun _ => rfl)
    (fun pre W => (Boxed W w.heap.size 3 (.int .i64 x) ∧ Boxed W (w.heap.size + 1) 3 (.int .i64 0) ∧ ∀ y ∈ pre, y.2 ≠ x) ∧ Below w.heap.size w W)
    (fun c pre W => (c = .ret ∧ ∃ q y, pre = q ++ [y] ∧ y.2 = x ∧ (∀ z ∈ q, z.2 ≠ x) ∧ Boxed W (w.heap.size + 1) 3 (.int .i64 y.1)) ∧ Below w.heap.size w W)
    (OwnFrom.and (Own.from (fun s X Y row hs hg hr => ⟨box1_own _ _ _ s X Y row hs.1 hg hr, box1_own _ _ _ s X Y row hs.2.1 hg hr, hs.2.2⟩) _) (ownFrom_below (Nat.le_refl _) (by omega)))
    (fun c => OwnFrom.and (Own.from (fun s X Y row hs hg hr => by obtain ⟨rfl, q, y, e1, e2, e3, e4⟩ := hs; exact ⟨rfl, q, y, e1, e2, e3, box1_own _ _ _ s X Y row e4 hg hr⟩) _) (ownFrom_below (Nat.le_refl _) (by omega)))
    ⟨⟨b0, b1, by simp⟩, hB0⟩
    (fun p a' W => a' = { tmps := #[.slice A m cp, .int .i64 x, undef, .pointer (some ⟨w.heap.size, 0, none⟩), .pointer (some ⟨w.heap.size + 1, 0, none⟩), .int .i64 p.1, .int .i64 p.2, .slice A m cp, .func (.func 174) #[] #[.pointer (some ⟨w.heap.size + 1 + 1, 0, none⟩)], .int .i64 p.1, .int .i64 p.2, undef, undef, undef, undef], defers := [] })
    (fun x a' _ X Y row hs hg hr => hs)
    ?assign ?body ?done ?stop
  case assign =>
    rintro l pre p W K ⟨⟨h0, h1', hne⟩, hB1⟩ hK
    unfold encP
    gi_wp2
    exact hK _ _ (KeepsFrom.refl _ _) (Below.refl _ _) ⟨⟨h0, h1', hne⟩, hB1⟩ rfl
  case body =>
    rintro l pre p a' W hl ⟨r, hr⟩ ⟨⟨h0, h1', hne⟩, hB⟩ rfl hlt
    have hc0 := h0.cell
    have hc1 := h1'.cell
    have hf1 := h1'.frozen
    by_cases he : x = p.2
    · gi_wp2
      refine ⟨(KeepsOthers.setCell _ _ _).from _, ⟨rfl, pre, p, rfl, he.symm, hne, h1'.set _⟩, hB.setCell (by simp) _⟩
    · gi_wp2
      refine ⟨KeepsFrom.refl _ _, Below.refl _ _, ⟨h0, h1', fun y hy => ?_⟩, hB⟩
      rcases List.mem_append.1 hy with hy | hy
      · exact hne y hy
      · simp at hy; subst hy; exact fun h => he h.symm
  case done =>
    rintro D ys W hD rfl ⟨⟨h0, h1', hne⟩, hB⟩ hK
    have hc1 := h1'.cell
    have hf1 := h1'.frozen
    gi_wp2
    have hlt := (Array.getElem?_eq_some_iff.1 hK).1
    have h2 := h1'.set (.int .i64 (-1))
    have hK2 : (W.setCell ⟨w.heap.size + 1, 0, none⟩ (.int .i64 (-1))).heap[D]? = some (.deferred (some [])) := (Below.heap_setCell W _ _ D (by show D ≠ w.heap.size + 1; omega)).trans hK
    refine ⟨by simp, .inl ⟨_, _, rfl, run_takeDeferred hK2, ?_⟩⟩
    have h3 : Boxed ((W.setCell ⟨w.heap.size + 1, 0, none⟩ (.int .i64 (-1))).putObj D (.deferred none)) (w.heap.size + 1) 3 (.int .i64 (-1)) := (World.putObj_heap_other (by omega)).trans h2
    refine ⟨.int .i64 (-1), ?_, ?_, ?_⟩
    · exact res_cell1 (ty := 3) rfl rfl rfl (by rfl) h3.cell
    · congr 2
      unfold lastI
      have : (prI zs).find? (fun p => p.2 == x) = none := by
        rw [List.find?_eq_none]
        intro z hz
        simpa using hne z hz
      rw [this]
    · exact (hB.setCell (p := ⟨w.heap.size + 1, 0, none⟩) (by simp) _).trans (belowK_b (w := w) (Nat.le_refl _) _ D _ _ (by omega) hK2 rfl rfl)
  case stop =>
    rintro D c pre W hD hk ⟨⟨rfl, q, y, rfl, e2, e3, e4⟩, hB⟩ hK
    have hc1 := e4.cell
    gi_wp2
    refine ⟨by simp, .inl ⟨_, _, rfl, run_takeDeferred hK, ?_⟩⟩
    have h3 : Boxed (W.putObj D (.deferred none)) (w.heap.size + 1) 3 (.int .i64 y.1) := (World.putObj_heap_other (by omega)).trans e4
    refine ⟨.int .i64 y.1, ?_, ?_, ?_⟩
    · exact res_cell1 (ty := 3) rfl rfl rfl (by rfl) h3.cell
    · congr 2
      unfold lastI
      obtain ⟨k, hk, hkk⟩ := hk
      rw [find_last (q := q) (y := y) ⟨(prI zs).drop k, by rw [hkk, List.take_append_drop]⟩ e2 e3]
    · exact hB.trans (belowK_b (w := w) (Nat.le_refl _) W D _ _ (by omega) hK rfl rfl)
theorem repI_flat {S : Nat → Prop} {w : World} : ∀ {l : List Int} {cs : List Value}, Go.Vx.RepDs S w (Go.Vx.encI l) cs → cs = l.map (.int .i64)
  | [], cs, h => by simpa only [Go.Vx.encI, List.map_nil, Go.Vx.RepDs] using h
  | x :: r, cs, h => by
    rw [show Go.Vx.encI (x :: r) = .int .i64 x :: Go.Vx.encI r from rfl] at h
    simp only [Go.Vx.RepDs, Go.Vx.RepD] at h
    obtain ⟨_, _, rfl, rfl, h⟩ := h
    rw [repI_flat h]; rfl
theorem intsAt_rep {S : Nat → Prop} {w : World} {v : Value} {l : List Int} (h : Go.Vx.RepD S w (Go.Vx.dI l) v) : ∃ A c, v = .slice A l.length c ∧ IntsAt w.heap.size w (.slice A l.length c) l := by
  simp only [Go.Vx.dI, Go.Vx.slD, Go.Vx.RepD] at h
  obtain ⟨A, c, rfl, h1, h2, h3, h4⟩ := h
  refine ⟨A, c, rfl, ?_⟩
  cases l with
  | nil => exact .inl ⟨⟨A, c, rfl⟩, rfl⟩
  | cons x r =>
    obtain ⟨ad, rfl⟩ := h3 (by simp)
    obtain ⟨vs, k1, k2⟩ := h4.cells
    have hv := repI_flat k1
    have k3 : ∀ j, j < (x :: r).length → w.cell? (ad.add j) = some (.int .i64 (ixI (x :: r) j)) := by
      intro j hj
      have := (k2 j (.int .i64 (ixI (x :: r) j)) (by rw [hv, List.getElem?_map, ixI, List.getD_eq_getElem?_getD, List.getElem?_eq_getElem hj]; rfl)).2
      simpa using this
    have hs : ad.spot = none := by
      have := k3 0 (by simp)
      rw [show ad.add 0 = ad from rfl] at this
      unfold World.cell? at this
      cases hsp : ad.spot with
      | none => rfl
      | some s =>
        simp [hsp] at this
        split at this <;> cases this
    obtain ⟨bk, off, sp⟩ := ad
    simp only at hs
    subst hs
    have k0 := World.block_lt_of_cell? w _ (k3 0 (by simp))
    rw [Go.Vc.add_block] at k0
    exact .inr ⟨bk, off, c, rfl, k0, fun j hj => by
      have := k3 j hj
      rw [Go.Vc.add_own] at this
      exact this⟩
theorem last_fn (l : List Int) (x : Int) : Go.Vx.FnR Tryz.prog G0 84 [Go.Vx.dI l, .int .i64 x] (.int .i64 (lastI l x)) := by
  refine Go.Vx.fnQ_sz fun hs => ?_
  have hl := (Go.Vx.szOk_sl hs.1).1
  simp only [Go.Vx.LB] at hl
  intro S w vs hvs hlt _
  simp only [Go.Vx.RepDs] at hvs
  obtain ⟨v, s, rfl, h1, v2, s2, rfl, h2, rfl⟩ := hvs
  simp only [Go.Vx.RepD] at h2
  subst h2
  obtain ⟨A, c, rfl, hI⟩ := intsAt_rep h1
  refine (callsIn_wide.1 (last_in Fence.wide 3 trivial trivial trivial rfl (by omega) A l.length c l x hl w hI)).mono ?_
  rintro en w' ⟨rfl, hb⟩
  exact ⟨.ret (.int .i64 (lastI l x)), S, rfl, ⟨_, rfl, by simp only [Go.Vx.RepD]⟩, ⟨hb, trivial⟩, fun _ h => h, fun _ h => .inl h, fun k hk => Nat.lt_of_lt_of_le (hlt k hk) hb.size⟩
end Go.Proofs.YtcjkikadolnfgaaGreat


/- SameType. -/
set_option linter.unusedSimpArgs false
set_option linter.unusedVariables false
namespace Go.Proofs.YtcjkikadolnfgaaGreat
open Go.Vx Go.Vc Go.RowKit
mutual
def samG : TG → TG → List Int → List Int → Bool
  | .mk k n ls l, u, s, t => decide (k = u.k) && decide (l.length = u.kids.length) && decide (ls = u.ls) &&
      (if k = 6 then decide (lastI s n = lastI t u.n) && !(decide (lastI s n < 0) && !decide (n = u.n)) && samGs l u.kids s t
       else if bndG k = true then samGs l u.kids (s ++ [n]) (t ++ [u.n])
       else decide (n = u.n) && samGs l u.kids s t)
def samGs : List TG → List TG → List Int → List Int → Bool
  | [], _, _, _ => true
  | x :: r, y :: r', s, t => samG x y s t && samGs r r' s t
  | _ :: _, [], _, _ => false
end
theorem samGs_drop {l m : List TG} {i : Nat} {s t : List Int} (hl : i < l.length) (hm : i < m.length) : samGs (l.drop i) (m.drop i) s t = (samG l[i] m[i] s t && samGs (l.drop (i + 1)) (m.drop (i + 1)) s t) := by
  rw [List.drop_eq_getElem_cons hl, List.drop_eq_getElem_cons hm, samGs]
theorem samGs_nil (m : List TG) (s t : List Int) : samGs [] m s t = true := by cases m <;> rfl
theorem encI_snoc (s : List Int) (n : Int) : encI s ++ [.int .i64 n] = encI (s ++ [n]) := by simp [encI]
theorem snocI {n0 N : Nat} {b : Bs G0 n0} {kp : Bool} {o : Oper} {st : Go.Vx.St} {K : SExit → Go.Vx.St → Prop} {y : Go.Vx.SV} {eb' : Nat} (s : List Int) (n : Int) (ho : appOf st.T o.op = some (.d (.csl eb' s.length (encI s)), y, 36)) (hy : slOf st.H y = some (1, [.int .i64 n])) (hlen : s.length < 2199023255552)
    (hk : match st with
      | ⟨T, H, q⟩ => Go.Vx.putK N o.dst (.row q) ⟨T, (q, .row 3 8 1 (s ++ [n]).length (encI (s ++ [n]))) :: H, q + 1⟩ (K .normal)) : OpC Tryz.prog b N kp o st K :=
  appC (el := 3) (eb := 8) (sz := 1) txok (s ++ [n]).length (encI (s ++ [n])) ho hy (by kernel_rfl) (by decide) (by rw [encI_len, Nat.mul_one]) (encI_scal s) rfl (fun d hd => by simp at hd; subst hd; rfl) (by simp only [LB]; omega) (by simp) (encI_snoc s n) hk
theorem samG_mk (k n : Int) (ls : List ByteArray) (ks : List TG) (k' n' : Int) (ls' : List ByteArray) (ks' : List TG) (s t : List Int) : samG (.mk k n ls ks) (.mk k' n' ls' ks') s t = (decide (k = k') && decide (ks.length = ks'.length) && decide (ls = ls') &&
      (if k = 6 then decide (lastI s n = lastI t n') && !(decide (lastI s n < 0) && !decide (n = n')) && samGs ks ks' s t
       else if bndG k = true then samGs ks ks' (s ++ [n]) (t ++ [n'])
       else decide (n = n') && samGs ks ks' s t)) := by
  rw [samG]; rfl
theorem sameType_fn : ∀ (a u : TG) (s t : List Int), s.length + szG a < 1099511627776 → t.length + szG a < 1099511627776 → FnR Tryz.prog G0 47 [dG a, dG u, dI s, dI t] (.bool (samG a u s t)) := by
  refine TG.ind fun k n ls ks ih u s t hss htt => ?_
  obtain ⟨k', n', ls', ks'⟩ := u
  refine fnQ_sz fun hs => ?_
  have hl := (szOk_G (t := .mk k n ls ks) hs.1).1
  have hl' := (szOk_G (t := .mk k' n' ls' ks') hs.2.1).1
  simp only [g_kids, LB] at hl hl'
  have hsz : szG (.mk k n ls ks) = szGs ks + 1 := by simp only [szG]
  rw [hsz] at hss htt
  refine fnQ_of_vc txok mixed ((100011, .done) :: [(4, .pure 0 (.pure 1 (.take 2 (.pure 4 (.pure 5 (.take 6 (.run 3 (.fin 7 (.pure 8 (.pure 9 .done)))))))))), (8, .pure 0 (.pure 2 (.take 3 (.pure 6 (.pure 8 (.take 9 (.three 1 4 10 (.two 4 10 (.two 5 10 (.two 7 10 (.run 10 (.fin 11 (.pure 12 (.pure 13 .done)))) (.run 7 (.fin 11 (.pure 12 (.pure 13 .done))))) (.run 5 (.run 7 (.fin 11 (.pure 12 (.pure 13 .done)))))) (.run 4 (.run 5 (.run 7 (.fin 11 (.pure 12 (.pure 13 .done))))))) (.two 1 10 (.two 5 10 (.two 7 10 (.run 10 (.fin 11 (.pure 12 (.pure 13 .done)))) (.run 7 (.fin 11 (.pure 12 (.pure 13 .done))))) (.run 5 (.run 7 (.fin 11 (.pure 12 (.pure 13 .done)))))) (.run 1 (.run 5 (.run 7 (.fin 11 (.pure 12 (.pure 13 .done))))))) (.two 1 4 (.run 4 (.run 5 (.run 7 (.fin 11 (.pure 12 (.pure 13 .done)))))) (.run 1 (.run 5 (.run 7 (.fin 11 (.pure 12 (.pure 13 .done)))))))))))))), (14, .pure 0 (.take 1 (.pure 2 (.pure 3 (.take 4 (.pure 5 (.take 6 (.pure 7 (.pure 8 (.take 9 (.pure 10 (.pure 11 (.fin 12 (.pure 13 .done))))))))))))))]) Tryz.func47 rfl rfl (by simp) fun b => ?_
  conv => whnf
  have hsm := samG_mk k n ls ks k' n' ls' ks' s t
  have ff : ∀ {c : Bool}, samG (.mk k n ls ks) (.mk k' n' ls' ks') s t = c → c = false → (D.bool false = D.bool (samG (.mk k n ls ks) (.mk k' n' ls' ks') s t)) := by
    intro c h1 h2; rw [h1, h2]
  refine And.intro (fun h1 => ?_) (fun h1 => ?_)
  rotate_left
  · conv => whnf
    exact ff hsm (by simp only [g_k] at h1; simp at h1; simp [h1])
  have h1 : k = k' := by simpa [g_k] using h1
  subst h1
  conv => whnf
  refine And.intro (fun h2 => ?_) (fun h2 => ?_)
  rotate_left
  · conv => whnf
    exact ff hsm (by simp only [g_kids] at h2; have : ks.length ≠ ks'.length := by (simp at h2; omega)
                     simp [this])
  have h2' : ks.length = ks'.length := by simp only [g_kids] at h2; simp at h2; omega
  conv => whnf
  refine callF (equalS_fn ls ls') gf75 rfl rfl ?_
  conv => whnf
  refine And.intro (fun h3 => ?_) (fun h3 => ?_)
  · conv => whnf
    exact ff hsm (by simp at h3; simp [h3])
  have h3 : ls = ls' := by simpa using h3
  subst h3
  simp only [h2', eq_self, decide_true, Bool.true_and] at hsm
  refine CutC.mk (fun st => ∃ s' t', st = ⟨[(2, .d (dI s')), (3, .d (dI t')), (4, .own 0 0), (5, .own 1 0), (8, .kb false)], [(0, .blk 28 [.d (.int .i64 k), .d (.int .i64 n), .d (dL ls), .d (dGs ks)]), (1, .blk 28 [.d (.int .i64 k), .d (.int .i64 n'), .d (dL ls), .d (dGs ks')])], 2⟩ ∧ samG (.mk k n ls ks) (.mk k n' ls ks') s t = samGs ks ks' s' t' ∧ s'.length ≤ s.length + 1 ∧ t'.length ≤ t.length + 1) ?_ ?_
  · conv => whnf
    refine And.intro (fun h4 => ?_) (fun h4 => ?_)
    · have h4 : k = 6 := by simpa [g_k] using h4
      rw [if_pos h4] at hsm
      conv => whnf
      refine And.intro (by kernel_rfl) ?_
      conv => whnf
      refine callF (last_fn s n) gf84 rfl rfl ?_
      conv => whnf
      refine callF (last_fn t n') gf84 rfl rfl ?_
      conv => whnf
      refine And.intro (fun h5 => ?_) (fun h5 => ?_)
      rotate_left
      · conv => whnf
        exact ff hsm (by simp at h5; simp [h5])
      have h5 : lastI s n = lastI t n' := by simpa using h5
      conv => whnf
      refine And.intro (fun h6 => ?_) (fun h6 => ?_)
      · conv => whnf
        refine And.intro (fun h7 => ?_) (fun h7 => ?_)
        · conv => whnf
          exact ff hsm (by simp [g_n] at h6 h7; simp [h6, h7])
        · conv => whnf
          refine ⟨_, ⟨s, t, rfl, ?_, by omega, by omega⟩, weak_of rfl (by repeat ((conv => whnf); first | exact trivial | refine And.intro rfl ?_ | refine And.intro (incD (by omega)) ?_)) (by repeat ((conv => whnf); first | exact trivial | refine And.intro rfl ?_ | refine And.intro (incD (by omega)) ?_))⟩
          rw [hsm]; simp [g_n] at h6 h7; rw [h5, h7]; simp
      · conv => whnf
        refine ⟨_, ⟨s, t, rfl, ?_, by omega, by omega⟩, weak_of rfl (by repeat ((conv => whnf); first | exact trivial | refine And.intro rfl ?_ | refine And.intro (incD (by omega)) ?_)) (by repeat ((conv => whnf); first | exact trivial | refine And.intro rfl ?_ | refine And.intro (incD (by omega)) ?_))⟩
        rw [hsm]; simp at h6; have : ¬ lastI t n' < 0 := by omega
        simp [this, h5]
    · have h4 : k ≠ 6 := by simpa [g_k] using h4
      rw [if_neg h4] at hsm
      conv => whnf
      refine callF (binder_fn (.mk k n ls ks)) gf85 rfl rfl ?_
      conv => whnf
      refine And.intro (fun h5 => ?_) (fun h5 => ?_)
      · have h5 : bndG k = true := h5
        rw [if_pos h5] at hsm
        conv => whnf
        refine And.intro (by kernel_rfl) ?_
        repeat' ((conv => whnf); first
          | refine And.intro ?_ ?_
          | refine callF (clip_fn s) gf86 rfl rfl ?_
          | refine callF (clip_fn t) gf86 rfl rfl ?_
          | refine snocI s n rfl rfl (by omega) ?_
          | refine snocI t n' rfl rfl (by omega) ?_)
        all_goals (conv => whnf)
        all_goals
          refine ⟨_, ⟨s ++ [n], t ++ [n'], rfl, hsm, by simp, by simp⟩, weak_pub (fun i => Nat.ble 2 i) ?_⟩
          (conv => whnf)
          exact weak_of rfl (by repeat ((conv => whnf); first | exact trivial | refine And.intro rfl ?_ | refine And.intro (incD (by omega)) ?_)) (by repeat ((conv => whnf); first | exact trivial | refine And.intro rfl ?_ | refine And.intro (incD (by omega)) ?_))
      · have h5 : ¬ bndG k = true := by simp only [g_k] at h5; simp [h5]
        rw [if_neg h5] at hsm
        conv => whnf
        refine And.intro (fun h6 => ?_) (fun h6 => ?_)
        · conv => whnf
          exact ff hsm (by simp [g_n] at h6; simp [h6])
        · conv => whnf
          refine ⟨_, ⟨s, t, rfl, ?_, by omega, by omega⟩, weak_of rfl (by repeat ((conv => whnf); first | exact trivial | refine And.intro rfl ?_ | refine And.intro (incD (by omega)) ?_)) (by repeat ((conv => whnf); first | exact trivial | refine And.intro rfl ?_ | refine And.intro (incD (by omega)) ?_))⟩
          rw [hsm]; simp [g_n] at h6; simp [h6]
  · rintro st' ⟨s', t', rfl, e, hs', ht'⟩
    conv => whnf
    refine loopH (fun i : Nat => i ≤ ks.length ∧ samG (.mk k n ls ks) (.mk k n' ls ks') s t = samGs (ks.drop i) (ks'.drop i) s' t') (fun i => ks.length - i) (fun i => [(84, .d (.int .i64 i))]) (fun _ => [(0, .blk 28 [.d (.int .i64 k), .d (.int .i64 n), .d (dL ls), .d (dGs ks)]), (1, .blk 28 [.d (.int .i64 k), .d (.int .i64 n'), .d (dL ls), .d (dGs ks')])]) 2 0 ⟨by omega, e⟩ (weak_of rfl (by repeat ((conv => whnf); first | exact trivial | refine And.intro rfl ?_ | refine And.intro (incD (by omega)) ?_)) (by repeat ((conv => whnf); first | exact trivial | refine And.intro rfl ?_ | refine And.intro (incD (by omega)) ?_))) ?_
    rintro i ⟨hi, hx⟩
    conv => whnf
    refine And.intro (fun hb => ?_) (fun hb => ?_)
    · have hil : i < ks.length := by have := of_decide_eq_true hb; omega
      have him : i < ks'.length := by omega
      have hmem := szG_mem (List.getElem_mem hil)
      rw [samGs_drop hil him] at hx
      conv => whnf
      refine And.intro (by kernel_rfl) ?_
      conv => whnf
      refine IdxC.encGs i hil rfl ?_
      conv => whnf
      refine IdxC.encGs i him rfl ?_
      conv => whnf
      refine callF (ih ks[i] (by simp) ks'[i] s' t' (by omega) (by omega)) gf47 rfl rfl ?_
      conv => whnf
      refine And.intro (fun h5 => ?_) (fun h5 => ?_)
      · conv => whnf
        exact ff hx (by simp at h5; simp [h5])
      · conv => whnf
        simp at h5
        rw [h5, Bool.true_and] at hx
        exact again (i + 1) (by omega) ⟨by omega, hx⟩ (weak_of rfl (by repeat ((conv => whnf); first | exact trivial | refine And.intro rfl ?_ | refine And.intro (incD (by omega)) ?_)) (by repeat ((conv => whnf); first | exact trivial | refine And.intro rfl ?_ | refine And.intro (incD (by omega)) ?_)))
    · have hil : i = ks.length := by have := of_decide_eq_false hb; omega
      subst hil
      rw [List.drop_length, samGs_nil] at hx
      conv => whnf
      rw [hx]
end Go.Proofs.YtcjkikadolnfgaaGreat


/- What stands free: the walker. -/
set_option linter.unusedSimpArgs false
set_option linter.unusedVariables false
namespace Go.Proofs.YtcjkikadolnfgaaGreat
open Go.Vx Go.Vc Go.RowKit
mutual
def frG : TG → List Int → List Int
  | .mk k n _ l, s => (if k = 6 ∧ lastI s n < 0 then [n] else []) ++ frGs l (if bndG k = true then s ++ [n] else s)
def frGs : List TG → List Int → List Int
  | [], _ => []
  | t :: r, s => frG t s ++ frGs r s
end
theorem frG_mk (k n : Int) (ls : List ByteArray) (l : List TG) (s : List Int) : frG (.mk k n ls l) s = (if k = 6 ∧ lastI s n < 0 then [n] else []) ++ frGs l (if bndG k = true then s ++ [n] else s) := by rw [frG]
theorem frGs_app : ∀ (l m : List TG) (s : List Int), frGs (l ++ m) s = frGs l s ++ frGs m s
  | [], m, s => by simp [frGs]
  | t :: r, m, s => by simp only [List.cons_append, frGs, frGs_app r m, List.append_assoc]
theorem frGs_take {l : List TG} {i : Nat} (h : i < l.length) (s : List Int) : frGs (l.take (i + 1)) s = frGs (l.take i) s ++ frG l[i] s := by
  rw [List.take_succ_eq_append_getElem h, frGs_app]; simp [frGs]
mutual
theorem frG_len : ∀ (t : TG) (s : List Int), (frG t s).length ≤ szG t
  | .mk k n ls l, s => by
    rw [frG_mk, List.length_append, szG]
    have := frGs_len l (if bndG k = true then s ++ [n] else s)
    split <;> simp <;> omega
theorem frGs_len : ∀ (l : List TG) (s : List Int), (frGs l s).length ≤ szGs l
  | [], s => by simp [frGs]
  | t :: r, s => by
    have := frG_len t s
    have := frGs_len r s
    simp only [frGs, szGs, List.length_append]; omega
end
def wkr (c : Go.Vx.SV) (acc : List Int) : Hp := [(0, .blk 90 [.row 1, c]), (1, .row 3 8 1 acc.length (encI acc))]
def wkrPost (c : Go.Vx.SV) (acc : List Int) : Out → Hp → Prop := fun o H' => o = .ret (.tup []) ∧ H' = wkr c acc
theorem wtyp_tri : ∀ (t : TG) (s acc : List Int), s.length + szG t < 1099511627776 → acc.length + szG t < 8796093022208 → Tri Tryz.prog G0 68 2 0 [.own 0 0, .d (dG t), .d (dI s)] (wkr .nl acc) (wkrPost .nl (acc ++ frG t s)) := by
  refine TG.ind fun k n ls ks ih s acc hss hacc => ?_
  refine tri_sz fun hs => ?_
  have hl := (szOk_G (t := .mk k n ls ks) (hs (.d (dG (.mk k n ls ks))) (by simp))).1
  simp only [g_kids, LB] at hl
  have hsz : szG (.mk k n ls ks) = szGs ks + 1 := by simp only [szG]
  rw [hsz] at hss hacc
  rw [frG_mk]
  refine tri_of_vc txok mixed [] ((100003, .done) :: (100005, .done) :: [(2, .pure 0 (.pure 1 (.pure 2 (.pure 3 (.take 4 (.pure 5 (.take 6 (.run 7 (.fin 8 (.pure 9 (.pure 10 (.fin 11 .done)))))))))))), (4, .pure 0 (.pure 2 (.take 3 (.two 1 4 (.fin 4 (.fin 5 (.pure 6 .done))) (.run 1 (.fin 5 (.pure 6 .done)))))))]) Tryz.func68 rfl rfl (by simp) fun b => ?_
  conv => whnf
  generalize he : (if k = 6 ∧ lastI s n < 0 then [n] else [] : List Int) = e0
  have he0 : e0.length ≤ 1 := by rw [← he]; split <;> simp
  refine CutC.mk (fun st => st = ⟨[(0, .own 0 0), (2, .d (dI s)), (4, .own 2 0)], wkr .nl (acc ++ e0) ++ [(2, .blk 28 [.d (.int .i64 k), .d (.int .i64 n), .d (dL ls), .d (dGs ks)])], 3⟩) ?_ ?_
  · conv => whnf
    simp only [g_k, g_n]
    refine And.intro (fun h1 => ?_) (fun h1 => ?_)
    · have h1 : k = 6 := eq_of_beq h1
      conv => whnf
      refine callF (last_fn s n) gf84 rfl rfl ?_
      conv => whnf
      refine And.intro (fun h2 => ?_) (fun h2 => ?_)
      · have h2 := of_decide_eq_true h2
        rw [if_pos ⟨h1, h2⟩] at he
        subst he
        conv => whnf
        refine And.intro (by kernel_rfl) ?_
        conv => whnf
        refine appR (i := 1) (sz := 1) (n := acc.length) (m := 1) (xs := encI acc) (ys := [.int .i64 n]) txok (fun k => Nat.beq k 3) (acc ++ [n]).length (encI (acc ++ [n])) (by exact rfl) (by exact rfl) (by exact rfl) (by kernel_rfl) (by exact rfl) (scalDs_mem (by exact rfl)) (by simp) (by simp [encI]) (by simp only [LB, List.length_append, List.length_cons, List.length_nil]; omega) ?_
        conv => whnf
        exact ⟨_, rfl, weak_of rfl (by repeat ((conv => whnf); first | exact trivial | refine And.intro rfl ?_ | refine And.intro (incD (by omega)) ?_)) (by repeat ((conv => whnf); first | exact trivial | refine And.intro rfl ?_ | refine And.intro (incD (by omega)) ?_))⟩
      · have h2 := of_decide_eq_false h2
        rw [if_neg (fun h => h2 h.2)] at he
        subst he
        rw [List.append_nil]
        conv => whnf
        exact ⟨_, rfl, weak_of rfl (by repeat ((conv => whnf); first | exact trivial | refine And.intro rfl ?_ | refine And.intro (incD (by omega)) ?_)) (by repeat ((conv => whnf); first | exact trivial | refine And.intro rfl ?_ | refine And.intro (incD (by omega)) ?_))⟩
    · have h1 : k ≠ 6 := ne_of_beq_false h1
      rw [if_neg (fun h => h1 h.1)] at he
      subst he
      rw [List.append_nil]
      conv => whnf
      exact ⟨_, rfl, weak_of rfl (by repeat ((conv => whnf); first | exact trivial | refine And.intro rfl ?_ | refine And.intro (incD (by omega)) ?_)) (by repeat ((conv => whnf); first | exact trivial | refine And.intro rfl ?_ | refine And.intro (incD (by omega)) ?_))⟩
  rintro st' rfl
  rw [← List.append_assoc]
  generalize hacc' : acc ++ e0 = acc'
  have hal : acc'.length ≤ acc.length + 1 := by rw [← hacc']; simp; omega
  refine CutC.mk (fun st => st = ⟨[(0, .own 0 0), (2, .d (dI (if bndG k = true then s ++ [n] else s))), (4, .own 2 0)], wkr .nl acc' ++ [(2, .blk 28 [.d (.int .i64 k), .d (.int .i64 n), .d (dL ls), .d (dGs ks)])], 3⟩) ?_ ?_
  · conv => whnf
    refine callF (binder_fn (.mk k n ls ks)) gf85 rfl rfl ?_
    conv => whnf
    refine And.intro (fun h5 => ?_) (fun h5 => ?_)
    · have h5 : bndG k = true := h5
      rw [if_pos h5]
      conv => whnf
      refine And.intro (by kernel_rfl) ?_
      repeat' ((conv => whnf); first
        | refine And.intro ?_ ?_
        | refine callF (clip_fn s) gf86 rfl rfl ?_
        | refine snocI s n rfl rfl (by omega) ?_)
      all_goals (conv => whnf)
      all_goals
        refine ⟨_, rfl, weak_pub (fun i => Nat.ble 3 i) ?_⟩
        (conv => whnf)
        exact weak_of rfl (by repeat ((conv => whnf); first | exact trivial | refine And.intro rfl ?_ | refine And.intro (incD (by omega)) ?_)) (by repeat ((conv => whnf); first | exact trivial | refine And.intro rfl ?_ | refine And.intro (incD (by omega)) ?_))
    · have h5 : ¬ bndG k = true := by simpa [g_k] using h5
      rw [if_neg h5]
      conv => whnf
      exact ⟨_, rfl, weak_of rfl (by repeat ((conv => whnf); first | exact trivial | refine And.intro rfl ?_ | refine And.intro (incD (by omega)) ?_)) (by repeat ((conv => whnf); first | exact trivial | refine And.intro rfl ?_ | refine And.intro (incD (by omega)) ?_))⟩
  rintro st' rfl
  generalize hs' : (if bndG k = true then s ++ [n] else s) = s'
  have hsl : s'.length ≤ s.length + 1 := by rw [← hs']; split <;> simp
  conv => whnf
  refine loopH (fun i : Nat => i ≤ ks.length) (fun i => ks.length - i) (fun i => [(40, .d (.int .i64 i))]) (fun i => wkr .nl (acc' ++ frGs (ks.take i) s') ++ [(2, .blk 28 [.d (.int .i64 k), .d (.int .i64 n), .d (dL ls), .d (dGs ks)])]) 3 0 (by omega) ?_ ?_
  · rw [show acc' ++ frGs (ks.take 0) s' = acc' from by simp [frGs]]
    exact weak_of rfl (by repeat ((conv => whnf); first | exact trivial | refine And.intro rfl ?_ | refine And.intro (incD (by omega)) ?_)) (by repeat ((conv => whnf); first | exact trivial | refine And.intro rfl ?_ | refine And.intro (incD (by omega)) ?_))
  intro i hi
  conv => whnf
  refine And.intro (fun hb => ?_) (fun hb => ?_)
  · have hil : i < ks.length := by have := of_decide_eq_true hb; omega
    have hmem := szG_mem (List.getElem_mem hil)
    have hlen := frGs_len (ks.take i) s'
    have htk := szGs_take hil
    have htl := szGs_le ks (i + 1)
    conv => whnf
    refine IdxC.encGs i hil rfl ?_
    conv => whnf
    refine callT [0, 1] (ih ks[i] (by simp) s' (acc' ++ frGs (ks.take i) s') (by omega) (by simp; omega)) gf68 rfl rfl ⟨rfl, rfl, trivial⟩ rfl ?_
    rintro o' H' ⟨rfl, rfl⟩
    rw [List.append_assoc, ← frGs_take hil]
    conv => whnf
    rw [incD (by omega)]
    exact again (i + 1) (by omega) (by omega) (weak_of rfl (by repeat ((conv => whnf); first | exact trivial | refine And.intro rfl ?_ | refine And.intro (incD (by omega)) ?_)) (by repeat ((conv => whnf); first | exact trivial | refine And.intro rfl ?_ | refine And.intro (incD (by omega)) ?_)))
  · have hil : i = ks.length := by have := of_decide_eq_false hb; omega
    subst hil
    rw [List.take_length]
    conv => whnf
    exact ⟨rfl, rfl⟩
end Go.Proofs.YtcjkikadolnfgaaGreat


/- A number that is in no list. -/
set_option linter.unusedSimpArgs false
set_option linter.unusedVariables false
namespace Go.Proofs.YtcjkikadolnfgaaGreat
open Go.Vx Go.Vc Go.RowKit
def mexF : Nat → Nat → List Int → Nat
  | 0, n, _ => n
  | f + 1, n, l => if (n : Int) ∈ l then mexF f (n + 1) l else n
def mex (l : List Int) : Nat := mexF (l.length + 1) 0 l
theorem all_le : ∀ {n : Nat} {l : List Int}, (∀ j, j < n → ((j : Nat) : Int) ∈ l) → n ≤ l.length
  | 0, l, _ => Nat.zero_le _
  | n + 1, l, h => by
    have h1 := h n (by omega)
    have h2 : n ≤ (l.erase (n : Int)).length := all_le fun j hj => (List.mem_erase_of_ne (by omega)).2 (h j (by omega))
    rw [List.length_erase_of_mem h1] at h2
    have := List.length_pos_of_mem h1
    omega
theorem mexF_not {l : List Int} : ∀ (f n : Nat), (∀ j, j < n → ((j : Nat) : Int) ∈ l) → l.length < f + n → ((mexF f n l : Nat) : Int) ∉ l
  | 0, n, h, hf => by have := all_le h; omega
  | f + 1, n, h, hf => by
    unfold mexF
    split
    · rename_i hn
      refine mexF_not f (n + 1) (fun j hj => ?_) (by omega)
      rcases Nat.lt_or_ge j n with h' | h'
      · exact h j h'
      · obtain rfl : j = n := by omega
        exact hn
    · assumption
theorem mex_not (l : List Int) : ((mex l : Nat) : Int) ∉ l := mexF_not _ 0 (fun j hj => by omega) (by omega)
def encLs (L : List (List Int)) : List D := L.map dI
theorem encLs_at (l : List (List Int)) (i : Nat) (hi : i < l.length) : ((encLs l).drop (i * 1)).take 1 = [dI l[i]] := by
  unfold encLs
  rw [Nat.mul_one, List.drop_eq_getElem_cons (by simpa using hi)]
  simp
theorem IdxC.encLs {l : List (List Int)} {j : Int} {K : Go.Vx.SV → Prop} (i : Nat) (hi : i < l.length) (hj : j = (i : Int)) (hk : K (.d (.ptr [dI l[i]] 0))) : IdxC l.length 1 (Go.Proofs.YtcjkikadolnfgaaGreat.encLs l) j K :=
  ⟨i, hj, hi, _, encLs_at l i hi, hk⟩
abbrev dLs (L : List (List Int)) : D := slD 24 L.length (encLs L)
abbrev nH (n : Nat) : Hp := [(0, .blk 3 [.d (.int .i64 n)])]
theorem fresh1_tri (l : List Int) (n : Nat) : Tri Tryz.prog G0 186 1 0 [.d (dI l), .own 0 0] (nH n) (fun o H' => o = .ret (.d (.bool (decide ((n : Int) ∈ l)))) ∧ H' = nH n) := by
  refine tri_of_vc txok mixed [] [] Tryz.func186 rfl rfl (by simp) fun b => ?_
  conv => whnf
  refine callF (contains_fn l n) gf35 rfl rfl ?_
  conv => whnf
  exact ⟨rfl, rfl⟩
def idxL (n : Nat) : List (List Int) → Int → Int
  | [], _ => -1
  | l :: r, i => if (n : Int) ∈ l then i else idxL n r (i + 1)
theorem idxL_nonneg (n : Nat) : ∀ (L : List (List Int)) (i : Int), 0 ≤ i → (0 ≤ idxL n L i ↔ (n : Int) ∈ L.flatten)
  | [], i, h => by simp [idxL]
  | t :: r, i, h => by
    simp only [idxL, List.flatten_cons, List.mem_append]
    by_cases hp : (n : Int) ∈ t
    · rw [if_pos hp]; simp [h, hp]
    · rw [if_neg hp, idxL_nonneg n r (i + 1) (by omega)]; simp [hp]
theorem indexFuncL_tri (L : List (List Int)) (n : Nat) : Tri Tryz.prog G0 188 1 0 [.d (dLs L), .fn 186 [] [.own 0 0]] (nH n) (fun o H' => o = .ret (.d (.int .i64 (idxL n L 0))) ∧ H' = nH n) := by
  refine tri_sz fun hs => ?_
  have hl := (szOk_sl (hs (.d (dLs L)) (by simp))).1
  simp only [LB] at hl
  refine tri_of_vc txok mixed [] [] Tryz.func188 rfl rfl (by simp) fun b => ?_
  conv => whnf
  refine loopH (fun i : Nat => i ≤ L.length ∧ idxL n L 0 = idxL n (L.drop i) i) (fun i => L.length - i) (fun i => [(8, .d (.int .i64 i))]) (fun _ => nH n) 1 0 ⟨by omega, rfl⟩ (weak_of rfl (by repeat ((conv => whnf); first | exact trivial | refine And.intro rfl ?_ | refine And.intro (incD (by omega)) ?_)) (by repeat ((conv => whnf); first | exact trivial | refine And.intro rfl ?_ | refine And.intro (incD (by omega)) ?_))) ?_
  rintro i ⟨hi, hx⟩
  conv => whnf
  refine And.intro (fun hb => ?_) (fun hb => ?_)
  · have hb := of_decide_eq_true hb
    have hil : i < L.length := by omega
    rw [List.drop_eq_getElem_cons hil, idxL] at hx
    conv => whnf
    refine IdxC.encLs i hil rfl ?_
    conv => whnf
    refine callT [0] (fresh1_tri L[i] n) gf186 rfl rfl ⟨rfl, trivial⟩ rfl ?_
    rintro o' H' ⟨rfl, rfl⟩
    conv => whnf
    refine And.intro (fun he => ?_) (fun he => ?_)
    · conv => whnf
      rw [hx, if_pos (of_decide_eq_true he)]
      exact ⟨rfl, rfl⟩
    · conv => whnf
      rw [if_neg (of_decide_eq_false he)] at hx
      exact again (i + 1) (by omega) ⟨by omega, by rw [hx]; rfl⟩ (weak_of rfl (by repeat ((conv => whnf); first | exact trivial | refine And.intro rfl ?_ | refine And.intro (incD (by omega)) ?_)) (by repeat ((conv => whnf); first | exact trivial | refine And.intro rfl ?_ | refine And.intro (incD (by omega)) ?_)))
  · have hb := of_decide_eq_false hb
    conv => whnf
    rw [hx, List.drop_eq_nil_of_le (by omega)]
    exact ⟨rfl, rfl⟩
theorem containsFuncL_tri (L : List (List Int)) (n : Nat) : Tri Tryz.prog G0 185 1 0 [.d (dLs L), .fn 186 [] [.own 0 0]] (nH n) (fun o H' => o = .ret (.d (.bool (decide ((n : Int) ∈ L.flatten)))) ∧ H' = nH n) := by
  refine tri_of_vc txok mixed [] [] Tryz.func185 rfl rfl (by simp) fun b => ?_
  conv => whnf
  refine callT [0] (indexFuncL_tri L n) gf188 rfl rfl ⟨rfl, trivial⟩ rfl ?_
  rintro o' H' ⟨rfl, rfl⟩
  conv => whnf
  refine ⟨?_, rfl⟩
  rw [show (decide (idxL n L 0 ≥ 0)) = decide ((n : Int) ∈ L.flatten) from by rw [decide_eq_decide]; exact idxL_nonneg n L 0 (by omega)]
theorem fresh_fn (L : List (List Int)) (hz : L.flatten.length < 4611686018427387904) : FnR Tryz.prog G0 176 [dLs L] (.int .i64 (mex L.flatten)) := by
  refine fnQ_of_vc txok mixed [] Tryz.func176 rfl rfl (by simp) fun b => ?_
  conv => whnf
  refine loopH (fun i : Nat => (∀ j, j < i → ((j : Nat) : Int) ∈ L.flatten) ∧ mex L.flatten = mexF (L.flatten.length + 1 - i) i L.flatten) (fun i => L.flatten.length + 1 - i) (fun i => []) (fun i => nH i) 1 0 ⟨fun j hj => by omega, rfl⟩ (weak_of rfl (by repeat ((conv => whnf); first | exact trivial | refine And.intro rfl ?_ | refine And.intro (incD (by omega)) ?_)) (by repeat ((conv => whnf); first | exact trivial | refine And.intro rfl ?_ | refine And.intro (incD (by omega)) ?_))) ?_
  rintro i ⟨hall, hx⟩
  have hle := all_le hall
  conv => whnf
  refine callT [0] (containsFuncL_tri L i) gf185 rfl rfl ⟨rfl, trivial⟩ rfl ?_
  rintro o' H' ⟨rfl, rfl⟩
  have hf : L.flatten.length + 1 - i = (L.flatten.length - i) + 1 := by omega
  rw [hf, mexF] at hx
  conv => whnf
  refine And.intro (fun h => ?_) (fun h => ?_)
  · have h := of_decide_eq_true h
    rw [if_pos h] at hx
    conv => whnf
    rw [incD (by omega)]
    refine again (i + 1) (by omega) ⟨fun j hj => ?_, by rw [hx]; congr 1; omega⟩ (weak_of rfl (by repeat ((conv => whnf); first | exact trivial | refine And.intro rfl ?_ | refine And.intro (incD (by omega)) ?_)) (by repeat ((conv => whnf); first | exact trivial | refine And.intro rfl ?_ | refine And.intro (incD (by omega)) ?_)))
    rcases Nat.lt_or_ge j i with h' | h'
    · exact hall j h'
    · obtain rfl : j = i := by omega
      exact h
  · have h := of_decide_eq_false h
    rw [if_neg h] at hx
    conv => whnf
    rw [hx]
end Go.Proofs.YtcjkikadolnfgaaGreat


