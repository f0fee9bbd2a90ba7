/- scheme.turn: a type with nodes of a kind replaced. -/
import Derived.Test.YtonhlccjfbfkcaaTd
namespace Go.Proofs.Ytonhlccjfbfkcaa
open Go.Vc Go.RowKit

mutual
/-- Nodes of a kind replaced, by a table. -/
def sub (kind : Int) (σ : Int → Option Tp) : Tp → Tp
  | .mk k n ks => match (if k = kind then σ n else none) with
    | some u => u
    | none => .mk k n (subL kind σ ks)
def subL (kind : Int) (σ : Int → Option Tp) : List Tp → List Tp
  | [] => []
  | t :: r => sub kind σ t :: subL kind σ r
end
theorem subL_map (kind : Int) (σ : Int → Option Tp) (l : List Tp) : subL kind σ l = l.map (sub kind σ) := by
  induction l with
  | nil => rfl
  | cons t r ih => simp [subL, ih]
/-- The table of two lists. -/
def tbl : List Int → List Tp → Int → Option Tp
  | f :: fs, t :: ts, n => if n = f then some t else tbl fs ts n
  | _, _, _ => none
theorem tbl_idx : ∀ (fs : List Int) (ts : List Tp) (n i : Int), fs.length ≤ ts.length → 0 ≤ i → (idxFrom fs n i < 0 → tbl fs ts n = none) ∧ (0 ≤ idxFrom fs n i → ∃ q : Nat, idxFrom fs n i = i + q ∧ q < fs.length ∧ tbl fs ts n = ts[q]?)
  | [], ts, n, i, _, h => by simp [idxFrom, tbl]
  | f :: fs, [], n, i, hl, h => by simp at hl
  | f :: fs, t :: ts, n, i, hl, h => by
    simp only [idxFrom, tbl]
    by_cases e : n = f
    · rw [if_pos e, if_pos e]
      exact ⟨fun h' => by omega, fun _ => ⟨0, by simp, by simp, by simp⟩⟩
    · rw [if_neg e, if_neg e]
      obtain ⟨h1, h2⟩ := tbl_idx fs ts n (i + 1) (by simpa using hl) (by omega)
      refine ⟨h1, fun h' => ?_⟩
      obtain ⟨q, q1, q2, q3⟩ := h2 h'
      exact ⟨q + 1, by rw [q1]; push_cast; omega, by simp; omega, by rw [q3]; simp⟩

def TurnOk (t : Tp) : Prop := ∀ (S : Nat → Prop) (w : World) (v : Value) (kind : Int) (A : Option Addr) (c : Nat) (fs : List Int) (B : Option Addr) (d : Nat) (ts : List Tp), RepT S w t v → fs.length ≤ 17592186044416 → Cells S w A (ints fs) → fs.length ≤ ts.length → RepKs S w ts B 0 →
  Calls Try.prog 42 #[v, .int .i64 kind, .slice A fs.length c, .slice B ts.length d] w (Res w fun v' w' => RepT (ext S w) w' (sub kind (tbl fs ts) t) v')

theorem turn_calls : ∀ t, TurnOk t := by
  refine Tp.ind fun k n ks ih => ?_
  intro S w v kind A c fs B d ts ht hfl hf hft hts
  obtain ⟨D, e, rfl, b1, b2, b3⟩ := ht.opn
  simp only [Tp.k, Tp.n, Tp.kids] at *
  have b2' := b2
  unfold LIM at b2'
  have hsub : sub kind (tbl fs ts) (.mk k n ks) = match (if k = kind then tbl fs ts n else none) with
    | some u => u
    | none => .mk k n (subL kind (tbl fs ts) ks) := rfl
  rw [hsub]
  refine calls_of_vc (args := [_, _, _, _]) (plans := [(9, ([0, 2], .pure 0 (.take 1 (.pure 2 (.take 3 (.pure 4 (.pure 5 (.pure 6 (.run 7 (.pure 8 (.fin 9 .done))))))))))), (100005, ([], .done))]) tyok mixed Try.func42 rfl rfl (by simp) (fun q => S q ∧ q < w.heap.size) (fun q h => h.2) ?_
  conv => whnf
  intro g0
  conv => whnf
  intro g1
  conv => whnf
  refine ⟨fun st => (if k = kind then tbl fs ts n else none) = none ∧ st = ⟨[(8, .own 1 0), (4, .own 0 0), (1, .v (.int .i64 kind)), (2, .v (.slice A fs.length c)), (3, .v (.slice B ts.length d))], [g0, g1],
    [(1, ([.v (.int .i64 0), .v (.int .i64 0), .v (.slice none 0 0)], 24)), (0, ([.v (.int .i64 k), .v (.int .i64 n), .v (.slice D ks.length e)], 24))], [], fun q => S q ∧ q < w.heap.size, w⟩, ?_, ?_⟩
  · conv => whnf
    refine ⟨fun hk => ?_, fun hk => ?_⟩
    · have hk' : k = kind := eq_of_beq hk
      rw [if_pos hk']
      conv => whnf
      refine ⟨gf56, fun w1 hw1 => scalK (index_calls S w1 A c fs n hfl (hf.to (hw1.samev S) (fun _ h _ => h))) hw1 ?_⟩
      obtain ⟨hx1, hx2⟩ := tbl_idx fs ts n 0 hft (by omega)
      conv => whnf
      refine ⟨fun hg => ?_, fun hg => ?_⟩
      · have hg' : 0 ≤ idxFrom fs n 0 := of_decide_eq_true hg
        obtain ⟨q, q1, q2, q3⟩ := hx2 hg'
        rw [q3]
        simp only [Int.zero_add] at q1
        have hqt : q < ts.length := by omega
        obtain ⟨ad, B', d', rfl, hS, hld, k1, k2, k3, k4⟩ := hts.ld (P := Try.prog) tk24 rfl rfl (i := q) (t := ts[q]) (by simp [hqt])
        conv => whnf
        refine ⟨ad, rfl, hg', by rw [q1]; omega, ?_⟩
        rw [q1]
        conv => whnf
        intro w2 hw2
        refine ⟨_, hld w2 (hw2.samev S), ?_⟩
        conv => whnf
        intro w3 hw3
        rw [List.getElem?_eq_getElem hqt]
        exact ⟨_, rfl, k4.to (hw3.samev S) (fun _ h _ => .inl h), hw3.bel⟩
      · have hg' : idxFrom fs n 0 < 0 := by have := of_decide_eq_false hg; omega
        conv => whnf
        exact ⟨_, ⟨hx1 hg', rfl⟩, weak_of (preP_refl _) ⟨rfl, rfl, rfl, rfl, rfl, trivial⟩ ⟨⟨rfl, rfl, rfl⟩, ⟨rfl, rfl, rfl⟩, trivial⟩ (List.Sublist.refl _) rfl rfl⟩
    · have hk' : k ≠ kind := by simpa using hk
      conv => whnf
      exact ⟨_, ⟨by rw [if_neg hk'], rfl⟩, weak_of (preP_refl _) ⟨rfl, rfl, rfl, rfl, rfl, trivial⟩ ⟨⟨rfl, rfl, rfl⟩, ⟨rfl, rfl, rfl⟩, trivial⟩ (List.Sublist.refl _) rfl rfl⟩
  · rintro st ⟨hno, rfl⟩
    rw [hno]
    conv => whnf
    obtain ⟨xs, hxf, hxc⟩ := b3.cells
    refine ⟨gf57, fun w1 hw1 => ownTK (clone_calls S w1 D ks.length e xs hxf.len b2 (fun u hu => (hxf.plain u hu).1) (hxc.to (hw1.samev S) (fun _ h _ => h))) hw1 fun F f hF => ?_⟩
    conv => whnf
    refine ⟨fun m st => ∃ (i : Nat) (g2 : List Nat) (ys zs : List Value) (pub : Nat → Prop) (s : World), i ≤ ks.length ∧ m = ks.length - i ∧ RepFlat pub s ((ks.take i).map (sub kind (tbl fs ts))) ys ∧ RepFlat pub s (ks.drop i) zs ∧
        (∀ q, S q → q < w.heap.size → pub q) ∧ (∀ q, pub q → ext S w q) ∧
        st = ⟨[(33, .v (.int .i64 i)), (32, .v (.int .i64 ks.length)), (31, .v (.slice F ks.length f)), (8, .own 1 0), (4, .own 0 0), (1, .v (.int .i64 kind)), (2, .v (.slice A fs.length c)), (3, .v (.slice B ts.length d))], [g0, g1],
          [(1, ([.v (.int .i64 0), .v (.int .i64 0), .v (.slice none 0 0)], 24)), (0, ([.v (.int .i64 k), .v (.int .i64 n), .v (.slice F ks.length f)], 24))], [⟨.slice F ks.length f, 24, 3, ys ++ zs⟩], pub, s⟩,
      ⟨ks.length, _, ⟨0, [], [], xs, _, _, Nat.zero_le _, by simp, by simp [RepFlat], ?_, fun q h1 h2 => ⟨h1, h2⟩, fun q h => .inl h.1, rfl⟩, weak_of (preP_refl _) ⟨rfl, rfl, rfl, rfl, rfl, rfl, rfl, rfl, trivial⟩ ⟨⟨rfl, rfl, rfl⟩, ⟨rfl, rfl, rfl⟩, trivial⟩ (List.Sublist.refl _) rfl rfl⟩, ?_⟩
    · simpa using hxf.to (Same.rfl' _ _) (fun q h1 h2 => ⟨h1, h2⟩)
    rintro m st ⟨i, g2, ys, zs, pub, s, hi, hm, hys, hzs, hp1, hp2, rfl⟩
    conv => whnf
    refine ⟨fun hb => ?_, fun hb => ?_⟩
    · have hb := of_decide_eq_true hb
      have hil : i < ks.length := by omega
      have hyl := hys.len
      simp only [List.length_map, List.length_take, Nat.min_eq_left hi] at hyl
      rw [List.drop_eq_getElem_cons hil] at hzs
      obtain ⟨v0, v1, v2, zs', rfl, hz1, hz2⟩ := hzs
      obtain ⟨G, g, e0, e1, e2, e3⟩ := hz1.opn
      injection e0 with e0
      have e' : [v0, v1, v2] = [.int .i64 ks[i].k, .int .i64 ks[i].n, .slice G ks[i].kids.length g] := congrArg Array.toList e0
      injection e' with q0 e'; injection e' with q1 e'; injection e' with q2 e'
      subst q0; subst q1; subst q2
      obtain ⟨ad, rfl⟩ := hF (by omega)
      conv => whnf
      refine ⟨ad, rfl, by omega, hb, ?_⟩
      conv => whnf
      intro w2 hw2
      refine ⟨_, ((hw2.row _ (List.mem_singleton.2 rfl)).1).ld3 tk24 rfl rfl hyl, ?_⟩
      conv => whnf
      intro g3
      conv => whnf
      refine ⟨by kernel_rfl, rfl, ?_⟩
      conv => whnf
      refine ⟨gf42, fun w3 hw3 => resK (ih ks[i] (by simp) pub w3 _ kind A c fs B d ts (hz1.to hw3.same (fun _ h _ => h)) hfl (hf.to (hw3.samev S) (fun q h1 h2 => hp1 q h1 h2)) hft (hts.to (hw3.samev S) (fun q h1 h2 => hp1 q h1 h2))) hw3 fun r w4 hr hb4 hw4 => ?_⟩
      obtain ⟨H, hh, rfl, r1, r2, r3⟩ := hr.opn
      conv => whnf
      refine ⟨⟨⟨rfl, rfl, rfl, trivial⟩, ⟨rfl, rfl, trivial⟩, hw3.heldW hb4⟩, ?_⟩
      conv => whnf
      refine ⟨ad, rfl, by omega, hb, ?_⟩
      conv => whnf
      refine ⟨nofun, fun w5 hw5 => storeK (b := ⟨w, fun _ => False⟩) tyok rfl hw5 0 rfl (i * 3) rfl rfl rfl rfl (by simp [hyl]) (by simp [plainV]) ?_⟩
      rw [ovw_at hyl]
      conv => whnf
      have hpa : Same pub s w4 := hw3.pass hb4
      refine ⟨ks.length - (i + 1), _, by omega, ⟨i + 1, [], ys ++ [.int .i64 (sub kind (tbl fs ts) ks[i]).k, .int .i64 (sub kind (tbl fs ts) ks[i]).n, .slice H (sub kind (tbl fs ts) ks[i]).kids.length hh], zs', extP pub w3 w4, w4, hil, rfl, ?_, hz2.to hpa (fun q h _ => .inl h), fun q h1 h2 => .inl (hp1 q h1 h2), fun q hq => ?_, rfl⟩, weak_of ⟨rfl, rfl, trivial⟩ ⟨incV (by omega), rfl, rfl, rfl, rfl, rfl, rfl, rfl, trivial⟩ ⟨⟨rfl, rfl, rfl⟩, ⟨rfl, rfl, rfl⟩, trivial⟩ ?_ rfl rfl⟩
      · rw [List.take_succ_eq_append_getElem hil, List.map_append]
        exact (hys.to hpa (fun q h _ => .inl h)).app (RepFlat.one (hr.to (Same.rfl' _ _) (fun q h1 h2 => h1.elim .inl (fun h => .inr ⟨h, h2⟩))))
      · rcases hq with hq | hq
        · exact hp2 q hq
        · exact .inr (Nat.le_trans (Nat.le_trans (by exact (hw3.below.size)) hq.1) (Nat.le_refl _))
      · simp
    · have hb := of_decide_eq_false hb
      have hil : i = ks.length := by omega
      subst hil
      simp only [List.take_length, List.drop_length, RepFlat] at hys hzs
      subst hzs
      conv => whnf
      intro w5 hw5
      obtain ⟨r1, r2⟩ := hw5.row _ (List.mem_singleton.2 rfl)
      rw [← subL_map] at hys
      have hl2 : (subL kind (tbl fs ts) ks).length = ks.length := by rw [subL_map]; simp
      refine ⟨_, rfl, ?_, hw5.bel⟩
      have hk5 : RepKs (ext S w) w5 (subL kind (tbl fs ts) ks) F 0 := RepKs.ofCells (S := fun q => pub q) (hys.to hw5.same (fun q h _ => h)) ?_ (fun q h _ => hp2 q h)
      · have := RepT.mk' (t := .mk k n (subL kind (tbl fs ts) ks)) (S := ext S w) (w := w5) (A := F) (c := f) (by simp only [Tp.kids]; rw [hl2]; exact r1.cap) (by simp only [Tp.kids]; rw [hl2]; exact b2) hk5
        simp only [Tp.k, Tp.n, Tp.kids, hl2] at this
        exact this
      · have := r1.cells (A := F) (n := ks.length) (c := f) rfl (ext S w) (fun q hq => .inr (((r2 q hq).1).elim (fun h => h.elim) id))
        simpa using this
end Go.Proofs.Ytonhlccjfbfkcaa
