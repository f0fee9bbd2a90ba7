/- The reference's fits: the walk. -/
import Derived.Test.YtonhlccjfbfkcaaTv
namespace Go.Proofs.Ytonhlccjfbfkcaa
open Go.Vc Go.RowKit

theorem Cons.nil {xs : List Tp} {bs : List Bool} {l : List Tp} {p : Prop} : (Cons xs bs l ∧ ∀ j : Nat, j < 0 → p) ↔ Cons xs bs l := ⟨fun h => h.1, fun h => ⟨h, fun j hj => by omega⟩⟩

def FitsOk (t : Tp) : Prop := ∀ (S : Nat → Prop) (w : World) (gb : Nat) (adK adL : Addr) (g : Nat) (u : Tp) (vt vu : Value) (xs : List Tp) (bs : List Bool) (c6 : List Value), gok g t → Bd w gb adK adL g bs c6 → xs.length = g → bs.length = g → RepFlat S w xs c6 → RepT S w t vt → RepT S w u vu →
  ¬ S gb → ¬ S adK.block → ¬ S adL.block → Calls Try.prog 46 #[.pointer (some ⟨gb, 0, none⟩), vt, vu] w (FitPost S w gb adK adL g t u xs bs)

theorem fits_calls : ∀ t, FitsOk t := by
  refine Tp.ind fun k n ks ih => ?_
  intro S w gb adK adL g u vt vu xs bs c6 hgk hB hxl hbl hc6 ht hu hS0 hS1 hS2
  have ht' := ht
  have hu' := hu
  obtain ⟨A, ca, rfl, a1, a2, a3⟩ := ht.opn
  obtain ⟨B, cb, rfl, b1, b2, b3⟩ := hu.opn
  simp only [mk_k, mk_n, mk_kids] at *
  have a2' := a2
  have b2' := b2
  unfold LIM at a2' b2'
  have hM : ∀ q, S q → ¬ (q = gb ∨ rowB (.slice (some adK) g g) = some q ∨ rowB (.slice (some adL) g g) = some q) := by
    rintro q hq (rfl | h | h)
    · exact hS0 hq
    · injection h with h; subst h; exact hS1 hq
    · injection h with h; subst h; exact hS2 hq
  have hpb : ∀ {st : St} {w1 : World}, Wd ⟨w, fun k => k = gb ∨ rowB (.slice (some adK) g g) = some k ∨ rowB (.slice (some adL) g g) = some k⟩ st w1 → Same S w w1 := fun h => h.same0 S hM
  have fin : ∀ {T : Tl} {ρ : List Nat} {E : El} {pub : Nat → Prop} {s w' : World} {bs' : List Bool} {xs' : List Tp} {c6' : List Value} {res : Bool}, Wd ⟨w, fun k => k = gb ∨ rowB (.slice (some adK) g g) = some k ∨ rowB (.slice (some adL) g g) = some k⟩ ⟨T, ρ, E, [⟨.slice (some adK) g g, 4, 1, bs'.map Value.bool⟩, ⟨.slice (some adL) g g, 24, 3, c6'⟩], pub, s⟩ w' → ρ.getD 0 0 = gb →
      lk E 0 = some ([.v (.slice (some adK) g g), .v (.slice (some adL) g g)], 65) → xs'.length = g → bs'.length = g → RepFlat S w' xs' c6' → Fit g (.mk k n ks) u xs bs xs' bs' res → FitPost S w gb adK adL g (.mk k n ks) u xs bs (.returned (.bool res)) w' := by
    intro T ρ E pub s w' bs' xs' c6' res hw hρ hE h1 h2 h3 h4
    subst hρ
    exact ⟨res, xs', bs', c6', rfl, ⟨hw.ent 0 _ _ hE, (hw.row _ (List.mem_cons_self ..)).1, (hw.row _ (List.mem_cons_of_mem _ (List.mem_cons_self ..))).1, hB.n1, hB.n2, hB.n3⟩, hw.below, h1, h2, h3, h4⟩
  refine calls_of_vcM (b := ⟨w, fun k => k = gb ∨ rowB (.slice (some adK) g g) = some k ∨ rowB (.slice (some adL) g g) = some k⟩) (ρ := [gb]) (E := [(0, ([.v (.slice (some adK) g g), .v (.slice (some adL) g g)], 65))])
    (Rw := [⟨.slice (some adK) g g, 4, 1, bs.map Value.bool⟩, ⟨.slice (some adL) g g, 24, 3, c6⟩]) (pub := fun k => S k ∧ k < w.heap.size) (s := w)
    (plans := [(2, ([0, 1], .pure 0 (.pure 1 (.pure 2 (.take 3 (.pure 4 (.take 5 (.pure 6 (.run 7 .done))))))))),
      (3, ([0, 1, 2], .pure 0 (.pure 1 (.pure 2 (.take 3 (.pure 4 (.take 5 (.pure 6 (.take 8 (.run 7 (.run 9 (.pure 10 .done)))))))))))),
      (4, ([0, 1], .pure 0 (.pure 1 (.pure 2 (.take 3 (.pure 4 (.take 5 (.pure 6 (.run 7 .done))))))))),
      (5, ([0, 1, 2], .pure 0 (.pure 1 (.pure 2 (.take 3 (.pure 4 (.take 5 (.take 6 (.pure 7 (.run 8 .done)))))))))),
      (12, ([1, 2], .pure 0 (.pure 1 (.take 2 (.pure 3 (.pure 4 (.take 5 (.pure 6 (.take 7 (.pure 8 (.pure 9 (.take 10 (.run 11 (.pure 12 .done))))))))))))))]) tyok mixed
    (svs := [.own 0 0, .v (.agg #[.int .i64 k, .int .i64 n, .slice A ks.length ca]), .v (.agg #[.int .i64 u.k, .int .i64 u.n, .slice B u.kids.length cb])]) Try.func46 rfl rfl (by simp)
    (Wd.start2 hB.blk hB.rK hB.rL (fun h => hB.n1 (by injection h)) (fun h => hB.n2 (by injection h)) (fun q h1 h2 => hB.n3 (by injection h1 with h1; injection h2 with h2; exact h1.trans h2.symm)) (pub := fun k => S k ∧ k < w.heap.size) (fun k h => h.2) (fun h => hS0 h.1)
      (fun q h1 h2 => by injection h1 with h1; subst h1; exact hS1 h2.1) (fun q h1 h2 => by injection h1 with h1; subst h1; exact hS2 h2.1)) ?_
  conv => whnf
  intro g1
  conv => whnf
  intro g2
  conv => whnf
  refine ⟨fun h8 => ?_, fun h8 => ?_⟩
  · have h8 : k = 8 := eq_of_beq h8
    subst h8
    obtain ⟨hn0, hn1⟩ := hgk.1 rfl
    obtain ⟨m, rfl⟩ : ∃ m : Nat, n = m := ⟨n.toNat, by omega⟩
    have hmg : m < g := by omega
    obtain ⟨ys, v0, v1, v2, zs, rfl, hys, hxn, hset⟩ := hc6.atI (i := m) (by omega)
    have hbn : bs[m]? = some (bs[m]'(by omega)) := List.getElem?_eq_getElem _
    have hxn' : xs[m]? = some (xs[m]'(by omega)) := List.getElem?_eq_getElem _
    conv => whnf
    refine ⟨by kernel_rfl, rfl, ?_⟩
    conv => whnf
    refine ⟨adK, rfl, hn0, hn1, ?_⟩
    conv => whnf
    intro w3 hw3
    refine ⟨.bool (bs[m]'(by omega)), (hw3.row ⟨.slice (some adK) g g, 4, 1, bs.map Value.bool⟩ (by simp)).1.ldV (k := m * 1) tk4 rfl (by simp [hbn]), ?_⟩
    conv => whnf
    refine ⟨⟨⟨rfl, rfl, rfl, trivial⟩, ⟨rfl, rfl, trivial⟩, fun k hk => ⟨hk, rfl⟩⟩, ?_⟩
    conv => whnf
    refine ⟨fun hb => ?_, fun hb => ?_⟩
    · have hb : bs[m]'(by omega) = true := hb
      conv => whnf
      refine ⟨by kernel_rfl, rfl, ?_⟩
      conv => whnf
      refine ⟨adL, rfl, hn0, hn1, ?_⟩
      conv => whnf
      intro w4 hw4
      refine ⟨.agg #[v0, v1, v2], ((hw4.row ⟨.slice (some adL) g g, 24, 3, ys ++ v0 :: v1 :: v2 :: zs⟩ (by simp)).1).ld3 tk24 rfl rfl hys, ?_⟩
      conv => whnf
      refine ⟨⟨⟨rfl, rfl, rfl, trivial⟩, ⟨rfl, rfl, rfl, trivial⟩, fun k hk => ⟨hk, rfl⟩⟩, ?_⟩
      conv => whnf
      refine ⟨gf30, fun w5 hw5 => scalK (rsame_calls S w5 (xs[m]'(by omega)) u _ _ (hxn.to (hpb hw5) (fun _ h _ => h)) (hu'.to (hpb hw5) (fun _ h _ => h))) hw5 ?_⟩
      conv => whnf
      refine ⟨⟨⟨rfl, rfl, rfl, trivial⟩, ⟨rfl, rfl, rfl, trivial⟩, fun k hk => ⟨hk, rfl⟩⟩, ?_⟩
      conv => whnf
      intro w6 hw6
      exact fin hw6 rfl rfl hxl hbl (hc6.to (hpb hw6) (fun _ h _ => h)) (fit_bound hmg hxn' (by rw [hbn, hb]))
    · have hb : bs[m]'(by omega) = false := by simpa using hb
      conv => whnf
      refine ⟨by kernel_rfl, rfl, ?_⟩
      conv => whnf
      refine ⟨adK, rfl, hn0, hn1, ?_⟩
      conv => whnf
      refine ⟨nofun, fun w5 hw5 => storeK (b := ⟨w, fun k => k = gb ∨ rowB (.slice (some adK) g g) = some k ∨ rowB (.slice (some adL) g g) = some k⟩) tyok rfl hw5 0 rfl (m * 1) rfl (u := .bool true) (l := [.bool true]) rfl rfl rfl (by simp <;> omega) (by simp [plainV]) ?_⟩
      rw [show ovw (bs.map Value.bool) (m * 1) [.bool true] = (bs.set m true).map Value.bool from ovw_set (by omega)]
      conv => whnf
      refine ⟨⟨⟨rfl, rfl, rfl, trivial⟩, ⟨rfl, rfl, trivial⟩, fun k hk => ⟨hk, rfl⟩⟩, ?_⟩
      conv => whnf
      refine ⟨by kernel_rfl, rfl, ?_⟩
      conv => whnf
      refine ⟨adL, rfl, hn0, hn1, ?_⟩
      conv => whnf
      refine ⟨nofun, fun w5 hw5 => storeK (b := ⟨w, fun k => k = gb ∨ rowB (.slice (some adK) g g) = some k ∨ rowB (.slice (some adL) g g) = some k⟩) tyok rfl hw5 1 rfl (m * 3) rfl (u := .agg #[.int .i64 u.k, .int .i64 u.n, .slice B u.kids.length cb]) (l := [.int .i64 u.k, .int .i64 u.n, .slice B u.kids.length cb]) rfl rfl rfl (by simp [hys] <;> omega) (by simp [plainV]) ?_⟩
      rw [ovw_at hys]
      conv => whnf
      refine ⟨⟨⟨rfl, rfl, rfl, trivial⟩, ⟨rfl, rfl, rfl, trivial⟩, fun k hk => ⟨hk, rfl⟩⟩, ?_⟩
      conv => whnf
      intro w6 hw6
      exact fin hw6 rfl rfl (by simp [hxl]) (by simp [hbl]) ((hset u _ _ _ hu').to (hpb hw6) (fun _ h _ => h)) (fit_bind hmg hxl hbl (by rw [hbn, hb]))
  · have h8 : k ≠ 8 := by simpa using h8
    conv => whnf
    have unlike : ∀ {T : Tl} {ρ : List Nat} {E : El} {pub : Nat → Prop} {s w' : World}, Wd ⟨w, fun k => k = gb ∨ rowB (.slice (some adK) g g) = some k ∨ rowB (.slice (some adL) g g) = some k⟩ ⟨T, ρ, E, [⟨.slice (some adK) g g, 4, 1, bs.map Value.bool⟩, ⟨.slice (some adL) g g, 24, 3, c6⟩], pub, s⟩ w' → ρ.getD 0 0 = gb →
        lk E 0 = some ([.v (.slice (some adK) g g), .v (.slice (some adL) g g)], 65) → (k ≠ u.k ∨ n ≠ u.n ∨ ks.length ≠ u.kids.length) → FitPost S w gb adK adL g (.mk k n ks) u xs bs (.returned (.bool false)) w' :=
      fun hw hρ hE h => fin hw hρ hE hxl hbl (hc6.to (hpb hw) (fun _ h _ => h)) (fit_unlike (t := .mk k n ks) h8 h)
    refine ⟨fun e1 => ?_, fun e1 => ?_⟩
    rotate_left
    · have e1 : k ≠ u.k := by simpa using e1
      conv => whnf
      intro w6 hw6
      exact unlike hw6 rfl rfl (.inl e1)
    have e1 : k = u.k := by simpa using e1
    conv => whnf
    refine ⟨fun e2 => ?_, fun e2 => ?_⟩
    rotate_left
    · have e2 : n ≠ u.n := by simpa using e2
      conv => whnf
      intro w6 hw6
      exact unlike hw6 rfl rfl (.inr (.inl e2))
    have e2 : n = u.n := by simpa using e2
    conv => whnf
    refine ⟨fun e3 => ?_, fun e3 => ?_⟩
    · have e3 : ks.length ≠ u.kids.length := by have : ¬ ((ks.length : Nat) : Int) = u.kids.length := by simpa using e3
                                                omega
      conv => whnf
      intro w6 hw6
      exact unlike hw6 rfl rfl (.inr (.inr e3))
    have e3 : ks.length = u.kids.length := by have : ((ks.length : Nat) : Int) = u.kids.length := by simpa using e3
                                              omega
    conv => whnf
    have hres : ∀ l : List Tp, (gsub l (.mk k n ks) = u ↔ ks.map (gsub l) = u.kids) := by
      intro l
      rw [gsub_node h8]
      constructor
      · intro h; rw [← h]; rfl
      · intro h; rw [h, e1, e2, Tp.eta]
    refine ⟨fun mm st => ∃ (i : Nat) (xs' : List Tp) (bs' : List Bool) (c6' : List Value), i ≤ ks.length ∧ mm = ks.length - i ∧ xs'.length = g ∧ bs'.length = g ∧ RepFlat (fun k => S k ∧ k < w.heap.size) w xs' c6' ∧
        (∀ l : List Tp, l.length = g → ((Cons xs bs l ∧ (ks.take i).map (gsub l) = u.kids.take i) ↔ Cons xs' bs' l)) ∧
        st = ⟨[(7, .v (.int .i64 i)), (0, .own 0 0), (4, .own 1 0), (5, .own 2 0)], [gb, g1, g2],
          [(0, ([.v (.slice (some adK) g g), .v (.slice (some adL) g g)], 65)), (1, ([.v (.int .i64 k), .v (.int .i64 n), .v (.slice A ks.length ca)], 24)), (2, ([.v (.int .i64 u.k), .v (.int .i64 u.n), .v (.slice B u.kids.length cb)], 24))],
          [⟨.slice (some adK) g g, 4, 1, bs'.map Value.bool⟩, ⟨.slice (some adL) g g, 24, 3, c6'⟩], fun k => S k ∧ k < w.heap.size, w⟩,
      ⟨ks.length, _, ⟨0, xs, bs, c6, Nat.zero_le _, by simp, hxl, hbl, hc6.to (Same.rfl' _ _) (fun _ h hl => ⟨h, hl⟩), fun l hl => by simp, rfl⟩, weak_of (preP_refl _) ⟨rfl, rfl, rfl, rfl, trivial⟩ ⟨⟨rfl, rfl, rfl⟩, ⟨rfl, rfl, rfl⟩, ⟨rfl, rfl, rfl⟩, trivial⟩ (List.Sublist.refl _) rfl rfl⟩, ?_⟩
    rintro mm st ⟨i, xs', bs', c6', hi, hm, hx1, hb1, hc1, hiff, rfl⟩
    conv => whnf
    refine ⟨fun hb => ?_, fun hb => ?_⟩
    · have hb := of_decide_eq_true hb
      have hil : i < ks.length := by omega
      have hiu : i < u.kids.length := by omega
      obtain ⟨adp, PB, pd, rfl, _, hldp, _, _, _, k4⟩ := a3.ld (P := Try.prog) tk24 rfl rfl (i := i) (t := ks[i]) (by simp [hil])
      obtain ⟨adq, QB, qd, rfl, _, hldq, _, _, _, k4'⟩ := b3.ld (P := Try.prog) tk24 rfl rfl (i := i) (t := u.kids[i]) (by simp [hiu])
      have hgk' := gokL_mem hgk.2 ks[i] (by simp)
      conv => whnf
      refine ⟨by kernel_rfl, rfl, ?_⟩
      conv => whnf
      refine ⟨adp, rfl, by omega, hb, ?_⟩
      conv => whnf
      refine ⟨_, fun w1 h1 => hldp w1 (fun q hq hl => h1.1.block q hl (hM q hq)), ?_⟩
      conv => whnf
      refine ⟨adq, rfl, by omega, by omega, ?_⟩
      conv => whnf
      refine ⟨_, fun w1 h1 => hldq w1 (fun q hq hl => h1.1.block q hl (hM q hq)), ?_⟩
      conv => whnf
      refine ⟨gf46, fun w2 hw2 => fitK 0 (ih ks[i] (by simp) (fun k => S k ∧ k < w.heap.size) w2 gb adK adL g u.kids[i] _ _ xs' bs' c6' hgk' ⟨hw2.ent 0 _ _ rfl, (hw2.row _ (List.mem_cons_self ..)).1, (hw2.row _ (List.mem_cons_of_mem _ (List.mem_cons_self ..))).1, hB.n1, hB.n2, hB.n3⟩ hx1 hb1 (hc1.to hw2.same (fun _ h _ => h))
        (k4.to (hpb hw2) (fun _ h hl => ⟨h, hl⟩)) (k4'.to (hpb hw2) (fun _ h hl => ⟨h, hl⟩)) (fun h => hS0 h.1) (fun h => hS1 h.1) (fun h => hS2 h.1)) hw2 rfl rfl fun res xs2 bs2 c2 hx2 hb2 hc2 hfit => ?_⟩
      have hts : (ks.take (i + 1)) = ks.take i ++ [ks[i]] := List.take_succ_eq_append_getElem hil
      have htu : (u.kids.take (i + 1)) = u.kids.take i ++ [u.kids[i]] := List.take_succ_eq_append_getElem hiu
      have hstep : ∀ l : List Tp, ((ks.take (i + 1)).map (gsub l) = u.kids.take (i + 1) ↔ (ks.take i).map (gsub l) = u.kids.take i ∧ gsub l ks[i] = u.kids[i]) := by
        intro l
        rw [hts, htu, List.map_append, List.map_cons, List.map_nil]
        constructor
        · intro h
          obtain ⟨h1, h2⟩ := List.append_inj' h rfl
          exact ⟨h1, by injection h2⟩
        · rintro ⟨h1, h2⟩; rw [h1, h2]
      conv => whnf
      refine ⟨⟨⟨rfl, rfl, rfl, trivial⟩, ⟨rfl, rfl, trivial⟩, fun k hk => ⟨hk, rfl⟩⟩, ?_⟩
      rcases res with _ | _
      · conv => whnf
        refine ⟨fun _ => ?_, nofun⟩
        conv => whnf
        intro w6 hw6
        refine fin hw6 rfl rfl hx2 hb2 (hc2.to hw6.same (fun _ h _ => h.1)) fun l hl => ?_
        rintro ⟨h1, h2⟩
        have h3 := (hres l).1 h2
        refine hfit l hl ⟨(hiff l hl).1 ⟨h1, ?_⟩, ?_⟩
        · rw [List.map_take, h3]
        · have := congrArg (fun z => z[i]?) h3
          simpa [hil, hiu] using this
      · conv => whnf
        refine ⟨nofun, fun _ => ?_⟩
        conv => whnf
        refine ⟨ks.length - (i + 1), _, by omega, ⟨i + 1, xs2, bs2, c2, hil, rfl, hx2, hb2, hc2, fun l hl => ?_, rfl⟩, weak_of (preP_refl _) ⟨incV (by omega), rfl, rfl, rfl, trivial⟩ ⟨⟨rfl, rfl, rfl⟩, ⟨rfl, rfl, rfl⟩, ⟨rfl, rfl, rfl⟩, trivial⟩ (List.Sublist.refl _) rfl rfl⟩
        rw [hstep, ← hfit l hl, ← hiff l hl, and_assoc]
    · have hb := of_decide_eq_false hb
      have hil : i = ks.length := by omega
      conv => whnf
      intro w6 hw6
      refine fin hw6 rfl rfl hx1 hb1 (hc1.to hw6.same (fun _ h _ => h.1)) fun l hl => ?_
      rw [← hiff l hl, hres l, List.take_of_length_le (by omega), List.take_of_length_le (by omega)]
end Go.Proofs.Ytonhlccjfbfkcaa
