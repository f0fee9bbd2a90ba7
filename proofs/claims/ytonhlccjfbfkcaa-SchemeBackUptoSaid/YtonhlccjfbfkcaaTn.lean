/- scheme.Match: what it comes to. -/
import Derived.Test.YtonhlccjfbfkcaaTm
namespace Go.Proofs.Ytonhlccjfbfkcaa
open Go.Vc Go.RowKit

mutual
theorem fnd_sz (kind : Int) : ∀ (t : Tp) (acc : List Int), (fnd kind t acc).length ≤ acc.length + szT t
  | .mk k n ks, acc => by
    simp only [fnd, szT]
    have := fndL_sz kind ks (if k = kind ∧ n ∉ acc then acc ++ [n] else acc)
    have h2 : (if k = kind ∧ n ∉ acc then acc ++ [n] else acc).length ≤ acc.length + 1 := by split <;> simp
    omega
theorem fndL_sz (kind : Int) : ∀ (ts : List Tp) (acc : List Int), (fndL kind ts acc).length ≤ acc.length + szL ts
  | [], acc => by simp [fndL]
  | t :: r, acc => by
    simp only [fndL, szL]
    have := fndL_sz kind r (fnd kind t acc)
    have := fnd_sz kind t acc
    omega
end
theorem mk_k (k n : Int) (l : List Tp) : (Tp.mk k n l).k = k := rfl
theorem mk_n (k n : Int) (l : List Tp) : (Tp.mk k n l).n = n := rfl
theorem mk_kids (k n : Int) (l : List Tp) : (Tp.mk k n l).kids = l := rfl
/-- A match's answer in memory. -/
def MatchR (S : Nat → Prop) (w' : World) : Option (List Tp) → Value → Prop
  | none, v => v = .tuple #[.slice none 0 0, .bool false]
  | some l, v => ∃ A c, v = .tuple #[.slice A l.length c, .bool true] ∧ l.length ≤ c ∧ RepKs S w' l A 0
def MatchP (S : Nat → Prop) (w : World) (a b : Sc) (v : Value) (w' : World) : Prop := ∃ r, MatchIs a b r ∧ MatchR (ext S w) w' r v

theorem match_calls (S : Nat → Prop) (w : World) (a b : Sc) (va vb : Value) (ha : RepS S w a va) (hb : RepS S w b vb) (hna : szT a.t ≤ 1073741824) (hnb : szT b.t ≤ 1073741824) :
    Calls Try.prog 15 #[va, vb] w (Res w (MatchP S w a b)) := by
  obtain ⟨ag, t⟩ := a
  obtain ⟨bg, u⟩ := b
  have hfa := fnd_sz 8 t []
  have hfb := fnd_sz 8 u []
  have ha' := ha
  have hb' := hb
  obtain ⟨A, ca, rfl, a1, a2, a3⟩ := ha
  obtain ⟨B, cb, rfl, b1, b2, b3⟩ := hb
  simp only [List.length_nil, Nat.zero_add] at *
  have failed : ∀ {w4 : World}, MatchIs ⟨ag, t⟩ ⟨bg, u⟩ none → Below w.heap.size w w4 → Res w (MatchP S w ⟨ag, t⟩ ⟨bg, u⟩) (.returned (.tuple #[.slice none 0 0, .bool false])) w4 := fun h hb => ⟨_, rfl, ⟨none, h, rfl⟩, hb⟩
  refine calls_of_vc (args := [_, _]) (plans := [(11, ([3], .pure 0 (.pure 1 (.pure 2 (.take 3 (.pure 4 (.run 5 (.pure 6 (.pure 7 (.pure 8 (.pure 9 (.take 10 (.pure 11 (.pure 13 (.take 14 (.run 12 (.run 15 (.pure 16 (.pure 17 .done))))))))))))))))))),
    (13, ([3], .pure 0 (.pure 1 (.pure 2 (.take 3 (.pure 4 (.pure 5 (.pure 6 (.take 7 (.pure 8 (.take 9 (.pure 10 (.run 11 (.pure 12 (.fin 13 .done))))))))))))))),
    (19, ([3, 4], .pure 0 (.take 1 (.pure 2 (.pure 3 (.take 4 (.pure 5 (.pure 6 (.take 7 (.pure 8 (.run 9 (.run 10 (.pure 11 .done)))))))))))))
    , (100013, ([], .done))]) tyok mixed Try.func15 rfl rfl (by simp) (fun q => S q ∧ q < w.heap.size) (fun q h => h.2) ?_
  conv => whnf
  intro g0
  conv => whnf
  intro g1
  conv => whnf
  refine ⟨gf22, fun w1 hw1 => scalK (rightScheme_calls S w1 ⟨ag, t⟩ _ (ha'.to (hw1.samev S) (fun _ h _ => h)) (by simp only; omega)) hw1 ?_⟩
  rcases hra : rightS ⟨ag, t⟩ with _ | _
  · conv => whnf
    refine ⟨nofun, fun _ => ?_⟩
    conv => whnf
    intro w2 hw2
    exact failed (.inl (by simp [hra])) hw2.bel
  conv => whnf
  refine ⟨fun _ => ?_, nofun⟩
  conv => whnf
  refine ⟨gf22, fun w1 hw1 => scalK (rightScheme_calls S w1 ⟨bg, u⟩ _ (hb'.to (hw1.samev S) (fun _ h _ => h)) (by simp only; omega)) hw1 ?_⟩
  rcases hrb : rightS ⟨bg, u⟩ with _ | _
  · conv => whnf
    refine ⟨fun _ => ?_, nofun⟩
    conv => whnf
    intro w2 hw2
    exact failed (.inl (by simp [hrb])) hw2.bel
  obtain ⟨g, hg, hgl, hok⟩ := rightS_gok hra
  simp only at hg hgl hok
  subst hg
  have hg30 : g ≤ 1073741824 := by omega
  conv => whnf
  refine ⟨nofun, fun _ => ?_⟩
  conv => whnf
  refine ⟨nofun, fun w2 hw2 => makeK tyok (t := 22) rfl rfl rfl hw2 (n := g) rfl rfl (by show 40 * g ≤ _; omega) (by simp only [maxLen]; omega) fun ad6 => ?_⟩
  conv => whnf
  refine ⟨nofun, fun w2 hw2 => makeK tyok (t := 59) rfl rfl rfl hw2 (n := g) rfl rfl (by show 1 * g ≤ _; omega) (by simp only [maxLen]; omega) fun ad7 => ?_⟩
  conv => whnf
  intro g2
  conv => whnf
  have hz6 : RepFlat (fun q => S q ∧ q < w.heap.size) w (List.replicate g zeroT) (madeCells #[.int .i64 0, .int .i64 0, .slice none 0 0] (g * 3)).toList := zeros_flat _ w g
  have hz7 : (madeCells #[.bool false] (g * 1)).toList = (List.replicate g false).map Value.bool := by rw [zeros_one, List.map_replicate]
  have hu0 : RepT (fun q => S q ∧ q < w.heap.size) w u (.agg #[.int .i64 u.k, .int .i64 u.n, .slice B u.kids.length cb]) := (RepS.typ (s := ⟨bg, u⟩) b1 b2 b3).to (Same.rfl' _ _) (fun _ h hl => ⟨h, hl⟩)
  have ht0 : RepT (fun q => S q ∧ q < w.heap.size) w t (.agg #[.int .i64 t.k, .int .i64 t.n, .slice A t.kids.length ca]) := (RepS.typ (s := ⟨(g : Int), t⟩) a1 a2 a3).to (Same.rfl' _ _) (fun _ h hl => ⟨h, hl⟩)
  refine ⟨fun m st => ∃ (xs : List Tp) (bs : List Bool) (todo : List (Tp × Tp)) (c6 c8 : List Value) (A8 : Option Addr) (d8 : Nat), MInv g t u xs bs todo ∧ m = szP todo ∧ szP todo ≤ szT t ∧ (todo.length ≠ 0 → ∃ ad, A8 = some ad) ∧
      RepFlat (fun q => S q ∧ q < w.heap.size) w xs c6 ∧ RepFlat (fun q => S q ∧ q < w.heap.size) w (flat2 todo) c8 ∧
      st = ⟨[(9, .kb true), (8, .v (.slice A8 todo.length d8)), (7, .v (.slice (some ad7) g g)), (6, .v (.slice (some ad6) g g))], [g0, g1, g2], [],
        [⟨.slice A8 todo.length d8, 61, 6, c8⟩, ⟨.slice (some ad7) g g, 4, 1, bs.map Value.bool⟩, ⟨.slice (some ad6) g g, 24, 3, c6⟩], fun q => S q ∧ q < w.heap.size, w⟩,
    ⟨szP [(t, u)], _, ⟨List.replicate g zeroT, List.replicate g false, [(t, u)], (madeCells #[.int .i64 0, .int .i64 0, .slice none 0 0] (g * 3)).toList, [.int .i64 t.k, .int .i64 t.n, .slice A t.kids.length ca, .int .i64 u.k, .int .i64 u.n, .slice B u.kids.length cb], some ⟨g2, 0, none⟩, 1, MInv.init hok, rfl, by simp [szP], fun _ => ⟨_, rfl⟩, hz6, ?_, rfl⟩,
      Weak.trans (weak_row (i := 2) (sz := 6) (n := 1) rfl rfl (by decide)) (weak_of (preP_refl _) ⟨rfl, rfl, rfl, rfl, trivial⟩ trivial ?_ rfl rfl)⟩, ?_⟩
  · exact (RepFlat.one ht0).app (RepFlat.one hu0)
  · rw [← hz7]
    exact List.Sublist.refl _
  rintro m st ⟨xs, bs, todo, c6, c8, A8, d8, hM, hm, hms, hA8, hc6, hc8, rfl⟩
  conv => whnf
  rcases todo with _ | ⟨⟨p, q⟩, rest⟩
  · refine ⟨fun h => (by have := of_decide_eq_true h; simp at this), fun _ => ?_⟩
    conv => whnf
    refine ⟨nofun, fun _ => ?_⟩
    conv => whnf
    intro w4 hw4
    have hxl := hM.hx
    obtain ⟨r1, r2⟩ := hw4.row ⟨.slice (some ad6) g g, 24, 3, c6⟩ (by simp)
    refine ⟨_, rfl, ⟨some xs, ⟨hra, hrb, by simp [hxl], hM.done⟩, some ad6, g, ?_, by omega, ?_⟩, hw4.bel⟩
    · rw [hxl]; rfl
    · refine RepKs.ofCells (S := ext S w) (hc6.to hw4.same (fun q h _ => .inl h.1)) (r1.cells rfl (ext S w) (fun q hq => .inr (((r2 q hq).1).elim (fun h => h.elim) id))) (fun q h _ => h)
  · refine ⟨fun _ => ?_, fun h => (by have := of_decide_eq_false h; simp at this)⟩
    conv => whnf
    obtain ⟨ad8, rfl⟩ := hA8 (by simp)
    have htl := szP_len ((p, q) :: rest)
    simp only [List.length_cons] at htl
    refine ⟨ad8, rfl, by omega, by simp, ?_⟩
    conv => whnf
    simp only [flat2] at hc8
    obtain ⟨p0, p1, p2, c8', rfl, hp, q0, q1, q2, c8, rfl, hq, hc8⟩ := hc8
    obtain ⟨PA, pc, ep, pk1, pk2, pk3⟩ := hp.opn
    injection ep with ep
    have ep' : [p0, p1, p2] = [.int .i64 p.k, .int .i64 p.n, .slice PA p.kids.length pc] := congrArg Array.toList ep
    injection ep' with e0 ep'; injection ep' with e1 ep'; injection ep' with e2 ep'
    subst e0; subst e1; subst e2
    obtain ⟨QA, qc, eq, qk1, qk2, qk3⟩ := hq.opn
    injection eq with eq
    have eq' : [q0, q1, q2] = [.int .i64 q.k, .int .i64 q.n, .slice QA q.kids.length qc] := congrArg Array.toList eq
    injection eq' with e0 eq'; injection eq' with e1 eq'; injection eq' with e2 eq'
    subst e0; subst e1; subst e2
    clear ep eq
    intro w1 hw1
    refine ⟨.agg #[.int .i64 p.k, .int .i64 p.n, .slice PA p.kids.length pc, .int .i64 q.k, .int .i64 q.n, .slice QA q.kids.length qc], (hw1.row _ (List.mem_cons_self ..)).1.ldA (k := 0) tk61 rfl (l := [.int .i64 p.k, .int .i64 p.n, .slice PA p.kids.length pc, .int .i64 q.k, .int .i64 q.n, .slice QA q.kids.length qc]) rfl ?_, ?_⟩
    · intro j v hj
      rw [Nat.zero_add]
      have : j < 6 := by
        rcases Nat.lt_or_ge j 6 with h | h
        · exact h
        · rw [List.getElem?_eq_none (by simp; omega)] at hj; cases hj
      rw [show ∀ c : List Value, (Value.int .i64 p.k :: .int .i64 p.n :: .slice PA p.kids.length pc :: .int .i64 q.k :: .int .i64 q.n :: .slice QA q.kids.length qc :: c) = [.int .i64 p.k, .int .i64 p.n, .slice PA p.kids.length pc, .int .i64 q.k, .int .i64 q.n, .slice QA q.kids.length qc] ++ c from fun c => rfl, List.getElem?_append_left (by simp; omega)]
      exact hj
    conv => whnf
    intro g3
    conv => whnf
    refine ⟨nofun, fun w2 hw2 => tailK tyok (t := 62) rfl rfl rfl hw2 0 rfl (k := .i64) (j := 1) (by simp) rfl rfl fun A9 hA9 => ?_⟩
    conv => whnf
    have failM : ∀ {w4 : World}, (∀ l : List Tp, l.length = g → gsub l t ≠ u) → Below w.heap.size w w4 → Res w (MatchP S w ⟨g, t⟩ ⟨bg, u⟩) (.returned (.tuple #[.slice none 0 0, .bool false])) w4 :=
      fun h hb => failed (.inr fun l hl => h l (by have := hl; simp only at this; omega)) hb
    have hbl := hM.hb
    have hxl := hM.hx
    refine ⟨fun h8 => ?_, fun h8 => ?_⟩
    · have h8 : p.k = 8 := eq_of_beq h8
      obtain ⟨pk, pn, pks⟩ := p
      simp only [mk_k, mk_n, mk_kids] at *
      subst h8
      obtain ⟨hn0, hn1⟩ := (hM.ok _ (List.mem_cons_self ..)).1 rfl
      obtain ⟨n, rfl⟩ : ∃ n : Nat, pn = n := ⟨pn.toNat, by omega⟩
      have hng : n < g := by omega
      obtain ⟨ys, v0, v1, v2, zs, rfl, hys, hxn, hset⟩ := hc6.atI (i := n) (by omega)
      have hbn : bs[n]? = some (bs[n]'(by omega)) := List.getElem?_eq_getElem _
      have hxn' : xs[n]? = some (xs[n]'(by omega)) := List.getElem?_eq_getElem _
      conv => whnf
      refine ⟨fun st => (bs[n]? = some true → xs[n]? = some q) ∧ st = ⟨[(10, .own 3 0), (9, .kb true), (8, .v (.slice A9 rest.length (d8 - 1))), (7, .v (.slice (some ad7) g g)), (6, .v (.slice (some ad6) g g))], [g0, g1, g2, g3],
          [(3, ([.v (.int .i64 8), .v (.int .i64 n), .v (.slice PA pks.length pc), .v (.int .i64 q.k), .v (.int .i64 q.n), .v (.slice QA q.kids.length qc)], 61))],
          [⟨.slice A9 rest.length (d8 - 1), 61, 6, c8⟩, ⟨.slice (some ad7) g g, 4, 1, bs.map Value.bool⟩, ⟨.slice (some ad6) g g, 24, 3, ys ++ v0 :: v1 :: v2 :: zs⟩], fun q => S q ∧ q < w.heap.size, w⟩, ?_, ?_⟩
      · conv => whnf
        refine ⟨by kernel_rfl, rfl, ?_⟩
        conv => whnf
        refine ⟨ad7, rfl, hn0, hn1, ?_⟩
        conv => whnf
        intro w3 hw3
        refine ⟨.bool (bs[n]'(by omega)), (hw3.row ⟨.slice (some ad7) g g, 4, 1, bs.map Value.bool⟩ (by simp)).1.ldV (k := n * 1) tk4 rfl (by simp [hbn]), ?_⟩
        conv => whnf
        refine ⟨⟨⟨rfl, rfl, rfl, rfl, trivial⟩, ⟨rfl, trivial⟩, fun k hk => ⟨hk, rfl⟩⟩, ?_⟩
        conv => whnf
        refine ⟨fun hb => ?_, fun hb => ?_⟩
        · have hb : bs[n]'(by omega) = true := hb
          conv => whnf
          refine ⟨ad6, rfl, hn0, hn1, ?_⟩
          conv => whnf
          intro w4 hw4
          refine ⟨.agg #[v0, v1, v2], ((hw4.row ⟨.slice (some ad6) g g, 24, 3, ys ++ v0 :: v1 :: v2 :: zs⟩ (by simp)).1).ld3 tk24 rfl rfl hys, ?_⟩
          conv => whnf
          refine ⟨⟨⟨rfl, rfl, rfl, rfl, trivial⟩, ⟨rfl, trivial⟩, fun k hk => ⟨hk, rfl⟩⟩, ?_⟩
          conv => whnf
          refine ⟨gf33, fun w5 hw5 => scalK (same_calls (fun q => S q ∧ q < w.heap.size) w5 (xs[n]'(by omega)) q _ _ (hxn.to hw5.same (fun _ h _ => h)) (hq.to hw5.same (fun _ h _ => h))) hw5 ?_⟩
          conv => whnf
          refine ⟨⟨⟨rfl, rfl, rfl, rfl, trivial⟩, ⟨rfl, trivial⟩, fun k hk => ⟨hk, rfl⟩⟩, ?_⟩
          conv => whnf
          refine ⟨fun hs => ?_, fun hs => ?_⟩
          · have hs : xs[n]'(by omega) ≠ q := fun h => by rw [(cmpT_zero _ _).2 h] at hs; cases hs
            conv => whnf
            refine ⟨fun _ => ?_, nofun⟩
            conv => whnf
            intro w6 hw6
            exact failM (hM.failB (n := (n : Int)) (by rw [Int.toNat_natCast, hbn, hb]) (by rw [Int.toNat_natCast]; exact hxn') hs) hw6.bel
          · have hs : xs[n]'(by omega) = q := (cmpT_zero _ _).1 (by simpa using hs)
            conv => whnf
            exact ⟨_, ⟨fun h => by rw [hxn', hs], rfl⟩, weak_of (preP_refl _) ⟨rfl, rfl, rfl, rfl, rfl, trivial⟩ ⟨⟨rfl, rfl, rfl⟩, trivial⟩ (List.Sublist.refl _) rfl rfl⟩
        · have hb : bs[n]'(by omega) = false := by simpa using hb
          conv => whnf
          refine ⟨_, ⟨fun h => ?_, rfl⟩, weak_of (preP_refl _) ⟨rfl, rfl, rfl, rfl, rfl, trivial⟩ ⟨⟨rfl, rfl, rfl⟩, trivial⟩ (List.Sublist.refl _) rfl rfl⟩
          rw [hbn, hb] at h; cases h
      · rintro st ⟨hq1, rfl⟩
        conv => whnf
        refine ⟨by kernel_rfl, rfl, ?_⟩
        conv => whnf
        refine ⟨ad6, rfl, hn0, hn1, ?_⟩
        conv => whnf
        refine ⟨nofun, fun w5 hw5 => storeK (b := ⟨w, fun _ => False⟩) tyok rfl hw5 2 rfl (n * 3) rfl (u := .agg #[.int .i64 q.k, .int .i64 q.n, .slice QA q.kids.length qc]) (l := [.int .i64 q.k, .int .i64 q.n, .slice QA q.kids.length qc]) rfl rfl rfl (by simp [hys] <;> omega) (by simp [plainV]) ?_⟩
        rw [ovw_at hys]
        conv => whnf
        refine ⟨⟨⟨rfl, rfl, rfl, rfl, trivial⟩, ⟨rfl, trivial⟩, fun k hk => ⟨hk, rfl⟩⟩, ?_⟩
        conv => whnf
        refine ⟨ad7, rfl, hn0, hn1, ?_⟩
        conv => whnf
        refine ⟨nofun, fun w5 hw5 => storeK (b := ⟨w, fun _ => False⟩) tyok rfl hw5 1 rfl (n * 1) rfl (u := .bool true) (l := [.bool true]) rfl rfl rfl (by simp <;> omega) (by simp [plainV]) ?_⟩
        rw [show ovw (bs.map Value.bool) (n * 1) [.bool true] = (bs.set n true).map Value.bool from ovw_set (by omega)]
        conv => whnf
        refine ⟨szP rest, _, ?_, ⟨xs.set n q, bs.set n true, rest, _, c8, A9, d8 - 1, MInv.bind (n := (n : Int)) hM (by simpa using hq1), rfl, ?_, hA9, hset q _ _ _ hq, hc8, rfl⟩, weak_of ⟨rfl, rfl, rfl, trivial⟩ ⟨rfl, rfl, rfl, rfl, trivial⟩ trivial (List.Sublist.refl _) rfl rfl⟩
        · rw [hm]; simp only [szP]; have := szT_pos (.mk 8 (n : Int) pks); omega
        · refine Nat.le_trans ?_ hms; simp only [szP]; omega
    · have h8 : p.k ≠ 8 := by simpa using h8
      conv => whnf
      refine ⟨fun e1 => ?_, fun e1 => ?_⟩
      rotate_left
      · have e1 : p.k ≠ q.k := by simpa using e1
        conv => whnf
        refine ⟨fun _ => ?_, nofun⟩
        conv => whnf
        intro w6 hw6
        exact failM (hM.failN h8 (.inl e1)) hw6.bel
      have e1 : p.k = q.k := by simpa using e1
      conv => whnf
      refine ⟨fun e2 => ?_, fun e2 => ?_⟩
      rotate_left
      · have e2 : p.n ≠ q.n := by simpa using e2
        conv => whnf
        refine ⟨fun _ => ?_, nofun⟩
        conv => whnf
        intro w6 hw6
        exact failM (hM.failN h8 (.inr (.inl e2))) hw6.bel
      have e2 : p.n = q.n := by simpa using e2
      conv => whnf
      refine ⟨fun e3 => ?_, fun e3 => ?_⟩
      · have e3 : p.kids.length ≠ q.kids.length := by have : ¬ ((p.kids.length : Nat) : Int) = q.kids.length := by simpa using e3
                                                      omega
        conv => whnf
        refine ⟨fun _ => ?_, nofun⟩
        conv => whnf
        intro w6 hw6
        exact failM (hM.failN h8 (.inr (.inr e3))) hw6.bel
      have e3 : p.kids.length = q.kids.length := by have : ((p.kids.length : Nat) : Int) = q.kids.length := by simpa using e3
                                                    omega
      have hM' : MInv g t u xs bs (rest ++ p.kids.zip q.kids) := by
        refine MInv.node (k := p.k) (n := p.n) (ks := p.kids) (ks' := q.kids) ?_ h8 e3
        rw [Tp.eta, e1, e2, Tp.eta]
        exact hM
      have hszp : szP ((p, q) :: rest) = szL p.kids + 1 + szP rest := by
        obtain ⟨_, _, _⟩ := p
        rfl
      have hkl := szL_len p.kids
      have hrl := szP_len rest
      conv => whnf
      refine ⟨fun m st => ∃ (i : Nat) (A8 : Option Addr) (d8 : Nat) (c8 : List Value), i ≤ p.kids.length ∧ m = p.kids.length - i ∧ ((rest ++ (p.kids.zip q.kids).take i).length ≠ 0 → ∃ ad, A8 = some ad) ∧
          RepFlat (fun q => S q ∧ q < w.heap.size) w (flat2 (rest ++ (p.kids.zip q.kids).take i)) c8 ∧
          st = ⟨[(106, .v (.int .i64 i)), (105, .v (.int .i64 p.kids.length)), (104, .v (.slice PA p.kids.length pc)), (10, .own 3 0), (9, .kb true), (8, .v (.slice A8 (rest ++ (p.kids.zip q.kids).take i).length d8)), (7, .v (.slice (some ad7) g g)), (6, .v (.slice (some ad6) g g))], [g0, g1, g2, g3],
            [(3, ([.v (.int .i64 p.k), .v (.int .i64 p.n), .v (.slice PA p.kids.length pc), .v (.int .i64 q.k), .v (.int .i64 q.n), .v (.slice QA q.kids.length qc)], 61))],
            [⟨.slice A8 (rest ++ (p.kids.zip q.kids).take i).length d8, 61, 6, c8⟩, ⟨.slice (some ad7) g g, 4, 1, bs.map Value.bool⟩, ⟨.slice (some ad6) g g, 24, 3, c6⟩], fun q => S q ∧ q < w.heap.size, w⟩,
        ⟨p.kids.length, _, ⟨0, A9, d8 - 1, c8, Nat.zero_le _, by simp, by simpa using hA9, by simpa using hc8, rfl⟩, weak_of (preP_refl _) ⟨rfl, rfl, rfl, rfl, rfl, ?_, rfl, rfl, trivial⟩ ⟨⟨rfl, rfl, rfl⟩, trivial⟩ ?_ rfl rfl⟩, ?_⟩
      · simp only [List.take_zero, List.append_nil]; rfl
      · simp only [List.take_zero, List.append_nil]; exact List.Sublist.refl _
      clear hA9 hc8 hA8
      rintro m' st ⟨i, A8, d8, c8, hi, hm', hA8, hc8, rfl⟩
      conv => whnf
      refine ⟨fun hb => ?_, fun hb => ?_⟩
      · have hb := of_decide_eq_true hb
        have hil : i < p.kids.length := by omega
        have hiq : i < q.kids.length := by omega
        obtain ⟨adp, PB, pd, rfl, _, hldp, _, _, _, k4⟩ := pk3.ld (P := Try.prog) tk24 rfl rfl (i := i) (t := p.kids[i]) (by simp [hil])
        obtain ⟨adq, QB, qd, rfl, _, hldq, _, _, _, k4'⟩ := qk3.ld (P := Try.prog) tk24 rfl rfl (i := i) (t := q.kids[i]) (by simp [hiq])
        conv => whnf
        refine ⟨adp, rfl, by omega, hb, ?_⟩
        conv => whnf
        intro w1 hw1
        refine ⟨_, hldp w1 hw1.same, ?_⟩
        conv => whnf
        intro g4
        conv => whnf
        refine ⟨by kernel_rfl, rfl, ?_⟩
        conv => whnf
        refine ⟨adq, rfl, by omega, by omega, ?_⟩
        conv => whnf
        refine ⟨_, fun w1 h1 => hldq w1 (fun k hk _ => h1.2 k hk), ?_⟩
        conv => whnf
        intro g5
        conv => whnf
        refine ⟨⟨⟨rfl, rfl, rfl, rfl, rfl, trivial⟩, ⟨rfl, rfl, trivial⟩, fun k hk => ⟨hk, rfl⟩⟩, ?_⟩
        conv => whnf
        have hlen : (rest ++ (p.kids.zip q.kids).take i).length = rest.length + i := by simp; omega
        refine ⟨nofun, fun w2 hw2 => appendK' (b := ⟨w, fun _ => False⟩) tyok (t := 62) rfl rfl rfl rfl (by decide) (by decide) hw2 0 rfl rfl (m := 1) (d := 1) (ys := [.int .i64 p.kids[i].k, .int .i64 p.kids[i].n, .slice PB p.kids[i].kids.length pd, .int .i64 q.kids[i].k, .int .i64 q.kids[i].n, .slice QB q.kids[i].kids.length qd]) rfl (S := fun _ => True) rfl (hw2.own (i := 5) rfl) (by simp [Value.oneCell']) (by rw [hlen]; show (rest.length + i + 1) * 80 ≤ _; omega) fun A' c' hA' => ?_⟩
        conv => whnf
        refine ⟨⟨⟨rfl, rfl, rfl, rfl, rfl, trivial⟩, ⟨rfl, rfl, trivial⟩, fun k hk => ⟨hk, rfl⟩⟩, ?_⟩
        conv => whnf
        have hz : (p.kids.zip q.kids).take (i + 1) = (p.kids.zip q.kids).take i ++ [(p.kids[i], q.kids[i])] := by
          rw [List.take_succ_eq_append_getElem (by simp; omega)]; simp
        have hzl : (rest ++ (p.kids.zip q.kids).take (i + 1)).length = (rest ++ (p.kids.zip q.kids).take i).length + 1 := by rw [hz]; simp; omega
        refine ⟨p.kids.length - (i + 1), _, by omega, ⟨i + 1, A', c', c8 ++ [.int .i64 p.kids[i].k, .int .i64 p.kids[i].n, .slice PB p.kids[i].kids.length pd, .int .i64 q.kids[i].k, .int .i64 q.kids[i].n, .slice QB q.kids[i].kids.length qd], hil, rfl, by rw [hzl]; exact hA', ?_, rfl⟩, weak_of ⟨rfl, rfl, rfl, rfl, trivial⟩ ⟨incV (by omega), rfl, rfl, rfl, rfl, ?_, rfl, rfl, trivial⟩ ⟨⟨rfl, rfl, rfl⟩, trivial⟩ ?_ rfl rfl⟩
        · rw [hz, ← List.append_assoc, flat2_append]
          exact hc8.app ((RepFlat.one k4).app (RepFlat.one k4'))
        · rw [hzl]; rfl
        · rw [hzl]; exact List.Sublist.refl _
      · have hb := of_decide_eq_false hb
        have hil : i = p.kids.length := by omega
        have hz : (p.kids.zip q.kids).take i = p.kids.zip q.kids := List.take_of_length_le (by simp; omega)
        rw [hz] at hA8 hc8
        conv => whnf
        refine ⟨szP (rest ++ p.kids.zip q.kids), _, ?_, ⟨xs, bs, rest ++ p.kids.zip q.kids, c6, c8, A8, d8, hM', rfl, ?_, hA8, hc6, hc8, rfl⟩, weak_of ⟨rfl, rfl, rfl, trivial⟩ ⟨rfl, ?_, rfl, rfl, trivial⟩ trivial ?_ rfl rfl⟩
        · rw [hm, hszp, szP_append, szP_zip e3]; omega
        · refine Nat.le_trans ?_ hms; rw [hszp, szP_append, szP_zip e3]; omega
        · rw [hz]; rfl
        · rw [hz]; exact List.Sublist.refl _
end Go.Proofs.Ytonhlccjfbfkcaa
