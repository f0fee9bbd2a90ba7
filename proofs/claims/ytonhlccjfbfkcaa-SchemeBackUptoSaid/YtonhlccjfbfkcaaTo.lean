/- scheme.AtLeast, scheme.Alike, types.SameScheme; the law's fn, meta, gen, int0. -/
import Derived.Test.YtonhlccjfbfkcaaTn
namespace Go.Proofs.Ytonhlccjfbfkcaa
open Go.Vc Go.RowKit

theorem MatchIs.none_some {a b : Sc} {l : List Tp} (h : MatchIs a b none) (h' : MatchIs a b (some l)) : False := by
  obtain ⟨h1, h2, h3, h4⟩ := h'
  rcases h with h | h
  · exact h ⟨h1, h2⟩
  · exact h l h3 h4
/-- Is a scheme at least as general as another one? -/
def Least (a b : Sc) : Prop := ∃ l, MatchIs a b (some l)
open Classical in
noncomputable def atL (a b : Sc) : Bool := decide (Least a b)
open Classical in
theorem atL_true {a b : Sc} : atL a b = true ↔ Least a b := by unfold atL; exact @decide_eq_true_iff _ _
theorem atL_some {a b : Sc} {l : List Tp} (h : MatchIs a b (some l)) : atL a b = true := atL_true.2 ⟨l, h⟩
theorem atL_none {a b : Sc} (h : MatchIs a b none) : atL a b = false := by
  rcases e : atL a b with _ | _
  · rfl
  · obtain ⟨l, h'⟩ := atL_true.1 e
    exact (h.none_some h').elim

def LeastOk (f : FuncId) : Prop := ∀ (S : Nat → Prop) (w : World) (a b : Sc) (va vb : Value), RepS S w a va → RepS S w b vb → szT a.t ≤ 1073741824 → szT b.t ≤ 1073741824 →
  Calls Try.prog f #[va, vb] w (fun e w' => e = .returned (.bool (atL a b)) ∧ Below w.heap.size w w')
theorem atLeast_calls : LeastOk 18 := by
  intro S w a b va vb ha hb hna hnb
  have ha' := ha
  have hb' := hb
  obtain ⟨A, ca, rfl, a1, a2, a3⟩ := ha
  obtain ⟨B, cb, rfl, b1, b2, b3⟩ := hb
  refine calls0 tyok mixed [] Try.func18 rfl rfl (by simp) ?_
  conv => whnf
  intro g0
  conv => whnf
  intro g1
  conv => whnf
  refine ⟨gf15, fun w1 hw1 => resN (match_calls S w1 a b _ _ (ha'.to (hw1.samev S) (fun _ h _ => h)) (hb'.to (hw1.samev S) (fun _ h _ => h)) hna hnb) hw1 fun v w2 p2 hv st2 => ?_⟩
  obtain ⟨r, hr, hv⟩ := hv
  rcases r with _ | l
  · have hv : v = _ := hv
    subst hv
    conv => whnf
    intro w3 hw3
    exact ⟨retB (atL_none hr).symm, hw3.bel⟩
  · obtain ⟨D, d, rfl, _, _⟩ := hv
    conv => whnf
    intro w3 hw3
    exact ⟨retB (atL_some hr).symm, hw3.bel⟩

def AlikeOk (f : FuncId) : Prop := ∀ (S : Nat → Prop) (w : World) (a b : Sc) (va vb : Value), RepS S w a va → RepS S w b vb → szT a.t ≤ 1073741824 → szT b.t ≤ 1073741824 →
  Calls Try.prog f #[va, vb] w (fun e w' => e = .returned (.bool (atL a b && atL b a)) ∧ Below w.heap.size w w')
theorem alike_calls : AlikeOk 20 := by
  intro S w a b va vb ha hb hna hnb
  have ha' := ha
  have hb' := hb
  obtain ⟨A, ca, rfl, a1, a2, a3⟩ := ha
  obtain ⟨B, cb, rfl, b1, b2, b3⟩ := hb
  refine calls0 tyok mixed [] Try.func20 rfl rfl (by simp) ?_
  conv => whnf
  intro g0
  conv => whnf
  intro g1
  conv => whnf
  refine ⟨gf18, fun w1 hw1 => scalK (atLeast_calls S w1 a b _ _ (ha'.to (hw1.samev S) (fun _ h _ => h)) (hb'.to (hw1.samev S) (fun _ h _ => h)) hna hnb) hw1 ?_⟩
  rcases atL a b with _ | _
  · conv => whnf
    refine ⟨nofun, fun _ => ?_⟩
    conv => whnf
    intro w3 hw3
    exact ⟨rfl, hw3.bel⟩
  · conv => whnf
    refine ⟨fun _ => ?_, nofun⟩
    conv => whnf
    refine ⟨gf18, fun w1 hw1 => scalK (atLeast_calls S w1 b a _ _ (hb'.to (hw1.samev S) (fun _ h _ => h)) (ha'.to (hw1.samev S) (fun _ h _ => h)) hnb hna) hw1 ?_⟩
    conv => whnf
    intro w3 hw3
    exact ⟨rfl, hw3.bel⟩

def sameS (a b : Sc) : Bool := a.g == b.g && cmpT a.t b.t == 0
theorem sameS_iff {a b : Sc} : sameS a b = true ↔ a = b := by
  obtain ⟨_, _⟩ := a
  obtain ⟨_, _⟩ := b
  simp [sameS, cmpT_zero]
theorem sameScheme_calls (S : Nat → Prop) (w : World) (a b : Sc) (va vb : Value) (ha : RepS S w a va) (hb : RepS S w b vb) :
    Calls Try.prog 25 #[va, vb] w (fun e w' => e = .returned (.bool (sameS a b)) ∧ Below w.heap.size w w') := by
  obtain ⟨A, ca, rfl, a1, a2, a3⟩ := ha
  obtain ⟨B, cb, rfl, b1, b2, b3⟩ := hb
  have ta := RepS.typ a1 a2 a3
  have tb := RepS.typ b1 b2 b3
  refine calls0 tyok mixed [] Try.func25 rfl rfl (by simp) ?_
  conv => whnf
  intro g0
  conv => whnf
  intro g1
  conv => whnf
  refine ⟨fun h => ?_, fun h => ?_⟩
  · have h : a.g = b.g := eq_of_beq h
    conv => whnf
    refine ⟨gf33, fun w1 hw1 => scalK (same_calls S w1 a.t b.t _ _ (ta.to (hw1.samev S) (fun _ h _ => h)) (tb.to (hw1.samev S) (fun _ h _ => h))) hw1 ?_⟩
    conv => whnf
    intro w3 hw3
    exact ⟨retB (by simp [h, sameS]), hw3.bel⟩
  · have h : a.g ≠ b.g := by simpa using h
    conv => whnf
    intro w3 hw3
    exact ⟨retB (by simp [h, sameS]), hw3.bel⟩

/-- An own block's cells, when the call is at its end. -/
theorem ownCells {S : Nat → Prop} {w w' : World} {T : Tl} {ρ : List Nat} {E : El} {R : List Row} {pub : Nat → Prop} {s : World} (h : Wd ⟨w, fun _ => False⟩ ⟨T, ρ, E, R, pub, s⟩ w') {i g : Nat} {cs : List SV} {t : TypeId} (hg : ρ.getD i 0 = g) (hi : lk E i = some (cs, t)) : Cells (ext S w) w' (some ⟨g, 0, none⟩) (denL ρ cs) := by
  subst hg
  refine .inr ⟨_, rfl, .inr (((h.entN i cs t hi).2.1).elim (fun h => h.elim) id), fun j v hj => ?_⟩
  rw [add_own, cell_own (h.ent i cs t hi), List.getElem?_toArray, Nat.zero_add]
  exact hj

theorem fn_calls (S : Nat → Prop) (w : World) (a b : Tp) (va vb : Value) (ha : RepT S w a va) (hb : RepT S w b vb) :
    Calls Try.prog 35 #[va, vb] w (Res w fun v w' => RepT (ext S w) w' (.mk 4 0 [a, b]) v) := by
  have ha' := ha
  have hb' := hb
  obtain ⟨A, ca, rfl, a1, a2, a3⟩ := ha.opn
  obtain ⟨B, cb, rfl, b1, b2, b3⟩ := hb.opn
  refine calls0 tyok mixed [] Try.func35 rfl rfl (by simp) ?_
  conv => whnf
  intro g0
  conv => whnf
  intro g1
  conv => whnf
  intro g2
  conv => whnf
  intro g3
  conv => whnf
  intro w3 hw3
  refine ⟨_, rfl, ?_, hw3.bel⟩
  have hc := ownCells (S := S) hw3 (i := 3) rfl rfl
  have hk : RepKs (ext S w) w3 [a, b] (some ⟨g3, 0, none⟩) 0 := RepKs.ofCells (S := S) ((RepFlat.one (ha'.to (hw3.samev S) (fun _ h _ => h))).app (RepFlat.one (hb'.to (hw3.samev S) (fun _ h _ => h)))) hc (fun q h _ => .inl h)
  exact RepT.mk' (t := .mk 4 0 [a, b]) (c := 2) (by simp [Tp.kids]) (by simp [Tp.kids, LIM]) hk
theorem leaf_rep (S : Nat → Prop) (w : World) (k n : Int) : RepT S w (.mk k n []) (.agg #[.int .i64 k, .int .i64 n, .slice none 0 0]) :=
  RepT.mk' (t := .mk k n []) (S := S) (w := w) (A := none) (c := 0) (by simp [Tp.kids]) (by simp [Tp.kids]) (by simp [Tp.kids, RepKs])
theorem meta_calls (w : World) (n : Int) : Calls Try.prog 36 #[.int .i64 n] w (fun e w' => e = .returned (.agg #[.int .i64 7, .int .i64 n, .slice none 0 0]) ∧ Below w.heap.size w w') := by
  refine calls0 tyok mixed [] Try.func36 rfl rfl (by simp) ?_
  conv => whnf
  intro g0
  conv => whnf
  intro w3 hw3
  exact ⟨rfl, hw3.bel⟩
theorem gen_calls (w : World) (n : Int) : Calls Try.prog 37 #[.int .i64 n] w (fun e w' => e = .returned (.agg #[.int .i64 8, .int .i64 n, .slice none 0 0]) ∧ Below w.heap.size w w') := by
  refine calls0 tyok mixed [] Try.func37 rfl rfl (by simp) ?_
  conv => whnf
  intro g0
  conv => whnf
  intro w3 hw3
  exact ⟨rfl, hw3.bel⟩
theorem int0_calls (w : World) : Calls Try.prog 38 #[] w (fun e w' => e = .returned (.agg #[.int .i64 1, .int .i64 0, .slice none 0 0]) ∧ Below w.heap.size w w') := by
  refine calls0 (args := []) tyok mixed [] Try.func38 rfl rfl (by simp) ?_
  conv => whnf
  intro g0
  conv => whnf
  intro w3 hw3
  exact ⟨rfl, hw3.bel⟩
end Go.Proofs.Ytonhlccjfbfkcaa
