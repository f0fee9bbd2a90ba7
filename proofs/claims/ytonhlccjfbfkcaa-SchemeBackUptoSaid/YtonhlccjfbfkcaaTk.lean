/- The reference's found, Gens; RightScheme, of both. -/
import Derived.Test.YtonhlccjfbfkcaaTj
namespace Go.Proofs.Ytonhlccjfbfkcaa
open Go.Vc Go.RowKit

/-- What a call leaves that was handed a row of numbers and gives it back grown. -/
def GrowPost (w : World) (A : Option Addr) (n c : Nat) (l' : List Int) (e : Ending) (w' : World) : Prop :=
  ∃ A' c', e = .returned (.slice A' l'.length c') ∧ RowOk w' ⟨.slice A' l'.length c', 3, 1, ints l'⟩ ∧ Only (fun k => rowB (.slice A n c) = some k) w w' ∧ ∀ k, rowB (.slice A' l'.length c') = some k → rowB (.slice A n c) = some k ∨ w.heap.size ≤ k
theorem growK {N : Nat} {b : Base} {f : FuncId} {args : Array Value} {w : World} {A : Option Addr} {n c : Nat} {l' : List Int} {xs : List Value} {T : Tl} {ρ : List Nat} {E E0 : El} {R R0 : List Row} {pub pub0 : Nat → Prop} {s s0 : World} {dst : Option Tmp} {K : St → Prop}
    (hc : Calls Try.prog f args w (GrowPost w A n c l')) (hw : Wd b ⟨T, ρ, E, R, pub, s⟩ w) (j : Nat) (hj : R[j]? = some ⟨.slice A n c, 3, 1, xs⟩)
    (hk : ∀ A' c', putK N dst (.v (.slice A' l'.length c')) ⟨T, ρ, E, R.set j ⟨.slice A' l'.length c', 3, 1, ints l'⟩, pub, s⟩ K) :
    Calls Try.prog f args w fun e w' => ∃ v, e = .returned v ∧ AfterK N b dst ⟨T, ρ, E0, R0, pub0, s0⟩ K v w' := by
  refine hc.mono ?_
  rintro e w' ⟨A', c', rfl, h1, h2, h3⟩
  refine ⟨_, rfl, E, _, pub, s, hw.grow hj h2.grown h1 ?_, hk A' c'⟩
  cases hA : rowB (.slice A' l'.length c') with
  | none => exact .inl rfl
  | some k => exact (h3 k hA).elim (fun h => .inr (.inl h.symm)) (fun h => .inr (.inr ⟨k, rfl, h⟩))
theorem GrowPost.of {w w' : World} {A A' : Option Addr} {n c c' : Nat} {l' : List Int} {T : Tl} {ρ : List Nat} {E : El} {R : List Row} {pub : Nat → Prop} {s : World}
    (h : Wd ⟨w, fun k => rowB (.slice A n c) = some k⟩ ⟨T, ρ, E, R, pub, s⟩ w') (hR : ⟨.slice A' l'.length c', 3, 1, ints l'⟩ ∈ R) : GrowPost w A n c l' (.returned (.slice A' l'.length c')) w' := by
  obtain ⟨r1, r2⟩ := h.row _ hR
  exact ⟨A', c', rfl, r1, h.below, fun k hk => (r2 k hk).1⟩

def RFoundOk (t : Tp) : Prop := ∀ (S : Nat → Prop) (w : World) (v : Value) (kind : Int) (A : Option Addr) (c : Nat) (acc : List Int), RepT S w t v → RowOk w ⟨.slice A acc.length c, 3, 1, ints acc⟩ → (∀ k, rowB (.slice A acc.length c) = some k → ¬ S k) →
  (fnd kind t acc).length ≤ 8796093022208 → Calls Try.prog 60 #[v, .int .i64 kind, .slice A acc.length c] w (GrowPost w A acc.length c (fnd kind t acc))

theorem rfound_calls : ∀ t, RFoundOk t := by
  refine Tp.ind fun k n ks ih => ?_
  intro S w v kind A c acc ht hrow hS hlen
  obtain ⟨B, d, rfl, b1, b2, b3⟩ := ht.opn
  simp only [Tp.k, Tp.n, Tp.kids] at *
  have b2' := b2
  unfold LIM at b2'
  have hfd : fnd kind (.mk k n ks) acc = fndL kind ks (see1 kind (.mk k n ks) acc) := rfl
  rw [hfd] at hlen ⊢
  have hM : ∀ q, S q → ¬ (rowB (.slice A acc.length c) = some q) := fun q hq h => hS q h hq
  have hslen : (see1 kind (.mk k n ks) acc).length ≤ 8796093022208 := Nat.le_trans (fndL_len kind ks _) hlen
  refine calls_of_vcM (b := ⟨w, fun k => rowB (.slice A acc.length c) = some k⟩) (ρ := []) (E := []) (Rw := [⟨.slice A acc.length c, 3, 1, ints acc⟩]) (pub := fun k => S k ∧ k < w.heap.size) (s := w)
    (plans := [(100003, ([], .done))]) tyok mixed (svs := [.v (.agg #[.int .i64 k, .int .i64 n, .slice B ks.length d]), .v (.int .i64 kind), .v (.slice A acc.length c)]) Try.func60 rfl rfl (by simp)
    (Wd.startR hrow (pub := fun k => S k ∧ k < w.heap.size) (fun k h => h.2) (fun k hk h => hS k hk h.1)) ?_
  conv => whnf
  intro g0
  conv => whnf
  refine ⟨fun st => ∃ A1 c1, st = ⟨[(2, .v (.slice A1 (see1 kind (.mk k n ks) acc).length c1)), (1, .v (.int .i64 kind)), (3, .own 0 0)], [g0], [(0, ([.v (.int .i64 k), .v (.int .i64 n), .v (.slice B ks.length d)], 24))],
      [⟨.slice A1 (see1 kind (.mk k n ks) acc).length c1, 3, 1, ints (see1 kind (.mk k n ks) acc)⟩], fun k => S k ∧ k < w.heap.size, w⟩, ?_, ?_⟩
  · conv => whnf
    refine ⟨fun he => ?_, fun he => ?_⟩
    · have he' : k = kind := eq_of_beq he
      have hacc : acc.length ≤ 8796093022208 := by
        refine Nat.le_trans ?_ hslen
        unfold see1; split <;> simp
      conv => whnf
      refine ⟨gf69, fun w1 hw1 => scalK (rin_calls (fun _ => True) w1 A c acc n (by omega) ((hw1.row _ (List.mem_singleton.2 rfl)).1.cells rfl _ (fun _ _ => trivial))) hw1 ?_⟩
      conv => whnf
      refine ⟨fun hm => ?_, fun hm => ?_⟩
      · have hm' : n ∉ acc := by simpa using hm
        have hsee : see1 kind (.mk k n ks) acc = acc ++ [n] := by unfold see1; rw [if_pos ⟨he', hm'⟩]; rfl
        rw [hsee] at hslen ⊢
        simp only [List.length_append, List.length_singleton] at hslen ⊢
        conv => whnf
        intro g1
        conv => whnf
        refine ⟨nofun, fun w2 hw2 => appendK (b := ⟨w, fun k => rowB (.slice A acc.length c) = some k⟩) tyok (t := 25) rfl rfl rfl rfl (by decide) (by decide) hw2 0 (A := A) (n := acc.length) (c := c) (xs := ints acc) rfl rfl (ys := [.int .i64 n]) rfl (S := fun _ => True) rfl (hw2.own (i := 1) rfl) (by simp [Value.oneCell']) (by simp; omega) fun A' c' => ?_⟩
        conv => whnf
        refine ⟨_, ⟨A', c', rfl⟩, weak_of ⟨rfl, trivial⟩ ⟨rfl, rfl, rfl, trivial⟩ ⟨⟨rfl, rfl, rfl⟩, trivial⟩ ?_ rfl rfl⟩
        simp [ints]
      · have hm' : n ∈ acc := by simpa using hm
        have hsee : see1 kind (.mk k n ks) acc = acc := by unfold see1; rw [if_neg (fun h => h.2 hm')]
        rw [hsee]
        conv => whnf
        exact ⟨_, ⟨A, c, rfl⟩, weak_of (preP_refl _) ⟨rfl, rfl, rfl, trivial⟩ ⟨⟨rfl, rfl, rfl⟩, trivial⟩ (List.Sublist.refl _) rfl rfl⟩
    · have he' : k ≠ kind := by simpa using he
      have hsee : see1 kind (.mk k n ks) acc = acc := by unfold see1; rw [if_neg (fun h => he' h.1)]
      rw [hsee]
      conv => whnf
      exact ⟨_, ⟨A, c, rfl⟩, weak_of (preP_refl _) ⟨rfl, rfl, rfl, trivial⟩ ⟨⟨rfl, rfl, rfl⟩, trivial⟩ (List.Sublist.refl _) rfl rfl⟩
  · rintro st ⟨A1, c1, rfl⟩
    generalize see1 kind (.mk k n ks) acc = acc1 at *
    conv => whnf
    refine ⟨fun m st => ∃ (i : Nat) (A' : Option Addr) (c' : Nat) (acc' : List Int), i ≤ ks.length ∧ m = ks.length - i ∧ fndL kind ks acc1 = fndL kind (ks.drop i) acc' ∧
      st = ⟨[(7, .v (.int .i64 i)), (2, .v (.slice A' acc'.length c')), (1, .v (.int .i64 kind)), (3, .own 0 0)], [g0], [(0, ([.v (.int .i64 k), .v (.int .i64 n), .v (.slice B ks.length d)], 24))], [⟨.slice A' acc'.length c', 3, 1, ints acc'⟩], fun k => S k ∧ k < w.heap.size, w⟩,
      ⟨ks.length, _, ⟨0, A1, c1, _, Nat.zero_le _, by simp, by simp, rfl⟩, weak_of (preP_refl _) ⟨rfl, rfl, rfl, rfl, trivial⟩ ⟨⟨rfl, rfl, rfl⟩, trivial⟩ (List.Sublist.refl _) rfl rfl⟩, ?_⟩
    rintro m st ⟨i, A', c', acc', hi, hm, hx, rfl⟩
    conv => whnf
    refine ⟨fun hb => ?_, fun hb => ?_⟩
    · have hb := of_decide_eq_true hb
      have hil : i < ks.length := by omega
      obtain ⟨ad, B', d', rfl, _, hld, k1, k2, k3, k4⟩ := b3.ld (P := Try.prog) tk24 rfl rfl (i := i) (t := ks[i]) (by simp [hil])
      rw [fndL_drop hil] at hx
      conv => whnf
      refine ⟨ad, rfl, by omega, hb, ?_⟩
      conv => whnf
      intro w1 hw
      refine ⟨_, hld w1 (hw.same0 S hM), ?_⟩
      conv => whnf
      refine ⟨gf60, fun w2 hw2 => growK (ih ks[i] (by simp) (fun k => S k ∧ k < w.heap.size) w2 _ kind A' c' acc' (k4.to (hw2.same0 S hM) (fun _ h hl => ⟨h, hl⟩)) (hw2.row _ (List.mem_singleton.2 rfl)).1 (fun q hq => ((hw2.row _ (List.mem_singleton.2 rfl)).2 q hq).2.1) ?_) hw2 0 rfl fun A2 c2 => ?_⟩
      · refine Nat.le_trans (fndL_len kind (ks.drop (i + 1)) _) ?_
        rw [← hx]; exact hlen
      conv => whnf
      exact ⟨ks.length - (i + 1), _, by omega, ⟨i + 1, A2, c2, _, hil, rfl, hx, rfl⟩, weak_of (preP_refl _) ⟨incV (by omega), rfl, rfl, rfl, trivial⟩ ⟨⟨rfl, rfl, rfl⟩, trivial⟩ (List.Sublist.refl _) rfl rfl⟩
    · have hb := of_decide_eq_false hb
      have hil : i = ks.length := by omega
      have e1 : ks.drop i = [] := by rw [hil]; simp
      rw [e1, fndL] at hx
      conv => whnf
      intro w4 hw4
      rw [hx]
      exact GrowPost.of hw4 (by simp)

theorem rgens_calls (S : Nat → Prop) (w : World) (t : Tp) (v : Value) (ht : RepT S w t v) (hlen : (fnd 8 t []).length ≤ 8796093022208) :
    Calls Try.prog 48 #[v] w (Res w (OwnI w (fnd 8 t []))) := by
  obtain ⟨B, d, rfl, b1, b2, b3⟩ := ht.opn
  refine calls0 tyok mixed [] Try.func48 rfl rfl (by simp) ?_
  conv => whnf
  intro g0
  conv => whnf
  refine ⟨gf60, fun w1 hw1 => growK (rfound_calls t S w1 _ 8 none 0 [] (ht.to (hw1.samev S) (fun _ h _ => h)) (RowOk.nil _ _ _) (fun q hq => by cases hq) hlen) (hw1.addNil 3 1) 0 rfl fun A c => ?_⟩
  conv => whnf
  intro w2 hw2
  exact ownRet hw2 (by simp)
end Go.Proofs.Ytonhlccjfbfkcaa
