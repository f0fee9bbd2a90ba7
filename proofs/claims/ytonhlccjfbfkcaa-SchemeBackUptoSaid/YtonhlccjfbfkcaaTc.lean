/- slices.Index, slices.Contains, types.walk, types.found, types.Metas, types.Gens: what they come to. -/
import Derived.Test.YtonhlccjfbfkcaaTb
namespace Go.Proofs.Ytonhlccjfbfkcaa
open Go.Vc Go.RowKit

/-- The place of a number in a list, from i on; -1: it isn't there. -/
def idxFrom : List Int → Int → Int → Int
  | [], _, _ => -1
  | y :: r, x, i => if x = y then i else idxFrom r x (i + 1)
theorem idxFrom_nonneg : ∀ (l : List Int) (x i : Int), 0 ≤ i → (0 ≤ idxFrom l x i ↔ x ∈ l)
  | [], x, i, h => by simp [idxFrom]
  | y :: r, x, i, h => by
    simp only [idxFrom, List.mem_cons]
    by_cases e : x = y
    · rw [if_pos e]; simp [e, h]
    · rw [if_neg e, idxFrom_nonneg r x (i + 1) (by omega)]; simp [e]

theorem index_calls (S : Nat → Prop) (w : World) (A : Option Addr) (c : Nat) (l : List Int) (x : Int) (hl : l.length ≤ 17592186044416) (hr : Cells S w A (ints l)) :
    Calls Try.prog 56 #[.slice A l.length c, .int .i64 x] w (fun e w' => e = .returned (.int .i64 (idxFrom l x 0)) ∧ Below w.heap.size w w') := by
  refine calls0 tyok mixed [] Try.func56 rfl rfl (by simp) ?_
  conv => whnf
  refine ⟨fun n st => ∃ i : Nat, i ≤ l.length ∧ n = l.length - i ∧ idxFrom l x 0 = idxFrom (l.drop i) x i ∧ st = ⟨[(8, .v (.int .i64 i)), (7, .v (.int .i64 l.length)), (0, .v (.slice A l.length c)), (1, .v (.int .i64 x))], [], [], [], fun _ => False, w⟩, ⟨l.length, _, ⟨0, Nat.zero_le _, by simp, by simp, rfl⟩, weak_of (preP_refl _) ⟨rfl, rfl, rfl, rfl, trivial⟩ trivial (List.Sublist.refl _) rfl rfl⟩, ?_⟩
  rintro n st ⟨i, hi, hn, hx, rfl⟩
  conv => whnf
  refine ⟨fun h => ?_, fun h => ?_⟩
  · have h := of_decide_eq_true h
    have hil : i < l.length := by omega
    have hd : l.drop i = l[i] :: l.drop (i + 1) := by rw [List.drop_eq_getElem_cons hil]
    obtain ⟨ad, rfl, _, hld⟩ := hr.ld1 (P := Try.prog) tk3 rfl (i := i) (v := .int .i64 l[i]) (by simp [hil])
    conv => whnf
    refine ⟨ad, rfl, by omega, h, ?_⟩
    conv => whnf
    intro w1 hw
    refine ⟨_, hld w1 (hw.samev S), ?_⟩
    conv => whnf
    refine ⟨fun h => ?_, fun h => ?_⟩
    · have h := eq_of_beq h
      conv => whnf
      intro w2 hw2
      exact ⟨retI (by rw [hx, hd, idxFrom, if_pos h]), hw2.bel⟩
    · have h : x ≠ l[i] := by simpa using h
      conv => whnf
      refine ⟨l.length - (i + 1), _, by omega, ⟨i + 1, hil, rfl, ?_, rfl⟩, weak_of (preP_refl _) ⟨incV (by omega), rfl, rfl, rfl, trivial⟩ trivial (List.Sublist.refl _) rfl rfl⟩
      rw [hx, hd, idxFrom, if_neg h]; rfl
  · have h := of_decide_eq_false h
    conv => whnf
    intro w2 hw2
    have : i = l.length := by omega
    exact ⟨retI (by rw [hx, this]; simp [idxFrom]), hw2.bel⟩

theorem contains_calls (S : Nat → Prop) (w : World) (A : Option Addr) (c : Nat) (l : List Int) (x : Int) (hl : l.length ≤ 17592186044416) (hr : Cells S w A (ints l)) :
    Calls Try.prog 41 #[.slice A l.length c, .int .i64 x] w (fun e w' => e = .returned (.bool (decide (x ∈ l))) ∧ Below w.heap.size w w') := by
  refine calls0 tyok mixed [] Try.func41 rfl rfl (by simp) ?_
  conv => whnf
  refine ⟨gf56, fun w1 hw1 => scalK (index_calls S w1 A c l x hl (hr.to (hw1.samev S) (fun _ h _ => h))) hw1 ?_⟩
  conv => whnf
  intro w2 hw2
  exact ⟨retB (decide_eq_decide.2 (idxFrom_nonneg l x 0 (by omega))), hw2.bel⟩

mutual
/-- The numbers of the nodes of a kind, each once, behind others. -/
def fnd (kind : Int) : Tp → List Int → List Int
  | .mk k n ks, acc => fndL kind ks (if k = kind ∧ n ∉ acc then acc ++ [n] else acc)
def fndL (kind : Int) : List Tp → List Int → List Int
  | [], acc => acc
  | t :: r, acc => fndL kind r (fnd kind t acc)
end
mutual
theorem fnd_len (kind : Int) : ∀ (t : Tp) (acc : List Int), acc.length ≤ (fnd kind t acc).length
  | .mk k n ks, acc => by
    simp only [fnd]
    refine Nat.le_trans ?_ (fndL_len kind ks _)
    split <;> simp
theorem fndL_len (kind : Int) : ∀ (ts : List Tp) (acc : List Int), acc.length ≤ (fndL kind ts acc).length
  | [], acc => by simp [fndL]
  | t :: r, acc => by
    simp only [fndL]
    exact Nat.le_trans (fnd_len kind t acc) (fndL_len kind r _)
end
theorem fndL_drop {kind : Int} {ks : List Tp} {i : Nat} (h : i < ks.length) (acc : List Int) : fndL kind (ks.drop i) acc = fndL kind (ks.drop (i + 1)) (fnd kind ks[i] acc) := by
  rw [List.drop_eq_getElem_cons h, fndL]
def see1 (kind : Int) (t : Tp) (acc : List Int) : List Int := if t.k = kind ∧ t.n ∉ acc then acc ++ [t.n] else acc

/-- A finder at block g: its kind, what it has got. -/
structure Fdr (w : World) (g : Nat) (kind : Int) (A : Option Addr) (n c : Nat) (acc : List Int) : Prop where
  blk : w.heap[g]? = some (.cells #[.int .i64 kind, .slice A n c] 76 (0, 0))
  row : RowOk w ⟨.slice A n c, 3, 1, ints acc⟩
  ne : rowB (.slice A n c) ≠ some g
/-- What a call leaves that was handed a finder. -/
def FdrPost (w : World) (g : Nat) (kind : Int) (A : Option Addr) (n c : Nat) (acc' : List Int) (e : Ending) (w' : World) : Prop :=
  e = .returned (.tuple #[]) ∧ ∃ A' n' c', Fdr w' g kind A' n' c' acc' ∧ Only (fun k => k = g ∨ rowB (.slice A n c) = some k) w w' ∧ ∀ k, rowB (.slice A' n' c') = some k → rowB (.slice A n c) = some k ∨ w.heap.size ≤ k
theorem Fdr.len {w : World} {g : Nat} {kind : Int} {A : Option Addr} {n c : Nat} {acc : List Int} (h : Fdr w g kind A n c acc) : n = acc.length := by
  obtain ⟨A', n', c', hv, _, hl⟩ := h.row.form
  injection hv with _ e _
  simp at hl
  omega

theorem FdrPost.of {w w' : World} {g : Nat} {kind : Int} {A : Option Addr} {n c : Nat} {acc' : List Int} {T : Tl} {ρ : List Nat} {E : El} {R : List Row} {pub : Nat → Prop} {s : World} {A' : Option Addr} {n' c' : Nat}
    (h : Wd ⟨w, fun k => k = g ∨ rowB (.slice A n c) = some k⟩ ⟨T, ρ, E, R, pub, s⟩ w') (hρ : ρ.getD 0 0 = g) (hE : lk E 0 = some ([.v (.int .i64 kind), .v (.slice A' n' c')], 76)) (hR : ⟨.slice A' n' c', 3, 1, ints acc'⟩ ∈ R) :
    FdrPost w g kind A n c acc' (.returned (.tuple #[])) w' := by
  obtain ⟨r1, r2⟩ := h.row _ hR
  have hne : rowB (.slice A' n' c') ≠ some g := by
    intro hg
    exact (r2 g hg).2.2 0 (by simp only; rw [hE]; rfl) hρ
  refine ⟨rfl, A', n', c', ⟨?_, r1, hne⟩, h.below, fun k hk => ?_⟩
  · have := h.ent 0 _ _ hE
    simp only at this
    rw [hρ] at this
    exact this
  · rcases (r2 k hk).1 with (h1 | h1) | h1
    · subst h1; exact absurd hk hne
    · exact .inl h1
    · exact .inr h1

theorem see_calls (w : World) (g : Nat) (kind : Int) (A : Option Addr) (n c : Nat) (acc : List Int) (S : Nat → Prop) (t : Tp) (v : Value) (hF : Fdr w g kind A n c acc) (ht : RepT S w t v) (hS1 : ¬ S g) (hS2 : ∀ k, rowB (.slice A n c) = some k → ¬ S k)
    (hlen : (see1 kind t acc).length ≤ 8796093022208) :
    Calls Try.prog 59 #[.pointer (some ⟨g, 0, none⟩), v] w (FdrPost w g kind A n c (see1 kind t acc)) := by
  obtain ⟨B, d, rfl, b1, b2, b3⟩ := ht.opn
  have hn := hF.len
  have hacc : acc.length ≤ 8796093022208 := by
    refine Nat.le_trans ?_ hlen
    unfold see1; split <;> simp
  refine calls_of_vcM (b := ⟨w, fun k => k = g ∨ rowB (.slice A n c) = some k⟩) (ρ := [g]) (E := [(0, ([.v (.int .i64 kind), .v (.slice A n c)], 76))]) (Rw := [⟨.slice A n c, 3, 1, ints acc⟩]) (pub := fun k => S k ∧ k < w.heap.size) (s := w)
    (plans := [(1, ([0, 1], .pure 0 (.take 1 (.pure 2 (.pure 3 (.pure 4 (.take 5 (.pure 6 (.pure 7 (.pure 8 (.pure 9 (.pure 10 (.take 11 (.pure 12 (.take 13 (.run 14 (.pure 15 (.pure 16 .done)))))))))))))))))), (2, ([0, 1], .pure 0 (.pure 1 (.pure 2 (.pure 3 (.take 4 (.pure 5 (.take 6 (.run 7 (.run 8 (.pure 9 (.pure 10 (.fin 11 .done)))))))))))))]) tyok mixed (svs := [.own 0 0, .v (.agg #[.int .i64 t.k, .int .i64 t.n, .slice B t.kids.length d])]) Try.func59 rfl rfl (by simp)
    (Wd.start (cs := [.v (.int .i64 kind), .v (.slice A n c)]) (t := 76) rfl hF.blk hF.row hF.ne (pub := fun k => S k ∧ k < w.heap.size) (fun k h => h.2) (fun h => hS1 h.1) (fun k hk h => hS2 k hk h.1)) ?_
  conv => whnf
  intro g1
  conv => whnf
  refine ⟨by kernel_rfl, rfl, ?_⟩
  conv => whnf
  subst hn
  refine ⟨fun he => ?_, fun he => ?_⟩
  · have he' : t.k = kind := eq_of_beq he
    conv => whnf
    refine ⟨gf41, fun w1 hw1 => scalK (contains_calls (fun _ => True) w1 A c acc t.n (by omega) ((hw1.row _ (List.mem_singleton.2 rfl)).1.cells rfl _ (fun _ _ => trivial))) hw1 ?_⟩
    conv => whnf
    refine ⟨⟨⟨rfl, rfl, trivial⟩, ⟨rfl, rfl, trivial⟩, fun k hk => ⟨hk, rfl⟩⟩, ?_⟩
    conv => whnf
    refine ⟨fun hm => ?_, fun hm => ?_⟩
    · have hm' : t.n ∉ acc := by simpa using hm
      have hsee : see1 kind t acc = acc ++ [t.n] := by unfold see1; rw [if_pos ⟨he', hm'⟩]
      rw [hsee] at hlen ⊢
      simp only [List.length_append, List.length_singleton] at hlen
      conv => whnf
      refine ⟨by kernel_rfl, rfl, ?_⟩
      conv => whnf
      intro g2
      conv => whnf
      refine ⟨⟨⟨rfl, rfl, trivial⟩, ⟨rfl, rfl, trivial⟩, fun k hk => ⟨hk, rfl⟩⟩, ?_⟩
      conv => whnf
      refine ⟨nofun, fun w2 hw2 => appendK tyok (t := 25) rfl rfl rfl rfl (by decide) (by decide) hw2 0 (A := A) (n := acc.length) (c := c) (xs := ints acc) rfl rfl (ys := [.int .i64 t.n]) rfl (S := fun _ => True) rfl (hw2.own (i := 2) rfl) (by simp [Value.oneCell']) (by simp; omega) fun A' c' => ?_⟩
      conv => whnf
      refine ⟨⟨⟨rfl, rfl, trivial⟩, ⟨rfl, rfl, trivial⟩, fun k hk => ⟨hk, rfl⟩⟩, ?_⟩
      conv => whnf
      intro w3 hw3
      exact FdrPost.of hw3 rfl rfl (by simp [ints])
    · have hm' : t.n ∈ acc := by simpa using hm
      have hsee : see1 kind t acc = acc := by unfold see1; rw [if_neg (fun h => h.2 hm')]
      rw [hsee]
      conv => whnf
      intro w3 hw3
      exact FdrPost.of hw3 rfl rfl (by simp)
  · have he' : t.k ≠ kind := by simpa using he
    have hsee : see1 kind t acc = acc := by unfold see1; rw [if_neg (fun h => he' h.1)]
    rw [hsee]
    conv => whnf
    intro w3 hw3
    exact FdrPost.of hw3 rfl rfl (by simp)

/-- Behind a call that was handed the finder at own block i, its row being the only one. -/
theorem finderK {N : Nat} {b : Base} {f : FuncId} {args : Array Value} {w : World} (i : Nat) {g : Nat} {kind : Int} {A : Option Addr} {n c : Nat} {acc acc' : List Int} {T : Tl} {ρ : List Nat} {E E0 : El} {R0 : List Row} {pub pub0 : Nat → Prop} {s s0 : World} {dst : Option Tmp} {K : St → Prop}
    (hc : Calls Try.prog f args w (FdrPost w g kind A n c acc')) (hw : Wd b ⟨T, ρ, E, [⟨.slice A n c, 3, 1, ints acc⟩], pub, s⟩ w) (hρ : ρ.getD i 0 = g) (hE : lk E i = some ([.v (.int .i64 kind), .v (.slice A n c)], 76))
    (hk : ∀ A' n' c', n' = acc'.length → putK N dst (.v (.tuple #[])) ⟨T, ρ, (i, ([.v (.int .i64 kind), .v (.slice A' n' c')], 76)) :: E, [⟨.slice A' n' c', 3, 1, ints acc'⟩], pub, s⟩ K) :
    Calls Try.prog f args w fun e w' => ∃ v, e = .returned v ∧ AfterK N b dst ⟨T, ρ, E0, R0, pub0, s0⟩ K v w' := by
  refine hc.mono ?_
  rintro e w' ⟨rfl, A', n', c', hF, ho, hb⟩
  refine ⟨_, rfl, (i, ([.v (.int .i64 kind), .v (.slice A' n' c')], 76)) :: E, [⟨.slice A' n' c', 3, 1, ints acc'⟩], pub, s, ?_, hk A' n' c' hF.len⟩
  subst hρ
  have := Wd.handed hw hE (j := 0) (r := ⟨.slice A n c, 3, 1, ints acc⟩) (r' := ⟨.slice A' n' c', 3, 1, ints acc'⟩) (cs' := [.v (.int .i64 kind), .v (.slice A' n' c')]) rfl ho hF.blk hF.row hb
  exact this
theorem Fdr.of {b : Base} {w : World} (i : Nat) {kind : Int} {A : Option Addr} {n c : Nat} {acc : List Int} {T : Tl} {ρ : List Nat} {E : El} {R : List Row} {pub : Nat → Prop} {s : World} (h : Wd b ⟨T, ρ, E, R, pub, s⟩ w)
    (hE : lk E i = some ([.v (.int .i64 kind), .v (.slice A n c)], 76)) (hR : ⟨.slice A n c, 3, 1, ints acc⟩ ∈ R) : Fdr w (ρ.getD i 0) kind A n c acc := by
  obtain ⟨r1, r2⟩ := h.row _ hR
  exact ⟨h.ent i _ _ hE, r1, fun hg => (r2 _ hg).2.2 i (by simp only; rw [hE]; rfl) rfl⟩

def WalkOk (t : Tp) : Prop := ∀ (w : World) (g : Nat) (kind : Int) (A : Option Addr) (n c : Nat) (acc : List Int) (S : Nat → Prop) (v : Value), Fdr w g kind A n c acc → RepT S w t v → ¬ S g → (∀ k, rowB (.slice A n c) = some k → ¬ S k) →
  (fnd kind t acc).length ≤ 8796093022208 → Calls Try.prog 58 #[v, .func (.func 59) #[.pointer (some ⟨g, 0, none⟩)] #[]] w (FdrPost w g kind A n c (fnd kind t acc))

theorem walk_calls : ∀ t, WalkOk t := by
  refine Tp.ind fun k n0 ks ih => ?_
  intro w g kind A n c acc S v hF ht hS1 hS2 hlen
  obtain ⟨B, d, rfl, b1, b2, b3⟩ := ht.opn
  simp only [Tp.k, Tp.n, Tp.kids] at *
  have b2' := b2
  unfold LIM at b2'
  have hfd : fnd kind (.mk k n0 ks) acc = fndL kind ks (see1 kind (.mk k n0 ks) acc) := rfl
  rw [hfd] at hlen ⊢
  have hM : ∀ q, S q → ¬ (q = g ∨ rowB (.slice A n c) = some q) := by
    rintro q hq (h | h)
    · exact hS1 (by rw [← h]; exact hq)
    · exact hS2 q h hq
  refine calls_of_vcM (b := ⟨w, fun k => k = g ∨ rowB (.slice A n c) = some k⟩) (ρ := [g]) (E := [(0, ([.v (.int .i64 kind), .v (.slice A n c)], 76))]) (Rw := [⟨.slice A n c, 3, 1, ints acc⟩]) (pub := fun k => S k ∧ k < w.heap.size) (s := w)
    (plans := []) tyok mixed (svs := [.v (.agg #[.int .i64 k, .int .i64 n0, .slice B ks.length d]), .fn (.func 59) [.own 0 0] []]) Try.func58 rfl rfl (by simp)
    (Wd.start (cs := [.v (.int .i64 kind), .v (.slice A n c)]) (t := 76) rfl hF.blk hF.row hF.ne (pub := fun k => S k ∧ k < w.heap.size) (fun k h => h.2) (fun h => hS1 h.1) (fun k hk h => hS2 k hk h.1)) ?_
  conv => whnf
  intro g1
  conv => whnf
  refine ⟨gf59, fun w1 hw1 => finderK 0 (see_calls w1 g kind A n c acc S (.mk k n0 ks) _ (Fdr.of 0 hw1 rfl (by simp)) (ht.to (hw1.same0 S hM) (fun _ h _ => h)) hS1 hS2 (Nat.le_trans (fndL_len _ _ _) hlen)) hw1 rfl rfl fun A1 n1 c1 _ => ?_⟩
  conv => whnf
  refine ⟨fun m st => ∃ (i : Nat) (A' : Option Addr) (n' c' : Nat) (acc' : List Int), i ≤ ks.length ∧ m = ks.length - i ∧ fndL kind ks (see1 kind (.mk k n0 ks) acc) = fndL kind (ks.drop i) acc' ∧
      st = ⟨[(12, .v (.int .i64 i)), (11, .v (.int .i64 ks.length)), (10, .v (.slice B ks.length d)), (1, .fn (.func 59) [.own 0 0] [])], [g], [(0, ([.v (.int .i64 kind), .v (.slice A' n' c')], 76))], [⟨.slice A' n' c', 3, 1, ints acc'⟩], fun k => S k ∧ k < w.heap.size, w⟩,
    ⟨ks.length, _, ⟨0, A1, n1, c1, _, Nat.zero_le _, by simp, by simp, rfl⟩, weak_of ⟨rfl, trivial⟩ ⟨rfl, rfl, rfl, rfl, trivial⟩ ⟨⟨rfl, rfl, rfl⟩, trivial⟩ (List.Sublist.refl _) rfl rfl⟩, ?_⟩
  rintro m st ⟨i, A', n', c', acc', hi, hm, hx, rfl⟩
  conv => whnf
  refine ⟨fun hb => ?_, fun hb => ?_⟩
  · have hb := of_decide_eq_true hb
    have hil : i < ks.length := by omega
    obtain ⟨ad, B', d', rfl, hS, hld, k1, k2, k3, k4⟩ := b3.ld (P := Try.prog) tk24 rfl rfl (i := i) (t := ks[i]) (by simp [hil])
    rw [fndL_drop hil] at hx
    conv => whnf
    refine ⟨ad, rfl, by omega, hb, ?_⟩
    conv => whnf
    intro w1 hw
    refine ⟨_, hld w1 (hw.same0 S hM), ?_⟩
    conv => whnf
    intro g2
    conv => whnf
    refine ⟨gf58, fun w2 hw2 => finderK 0 (ih ks[i] (by simp) w2 g kind A' n' c' acc' (fun k => S k ∧ k < w.heap.size) _ (Fdr.of 0 hw2 rfl (by simp)) (k4.to (hw2.same0 S hM) (fun _ h hl => ⟨h, hl⟩)) (fun h => hS1 h.1) (fun q hq h => ?_) ?_) hw2 rfl rfl fun A2 n2 c2 _ => ?_⟩
    · exact ((hw2.row _ (List.mem_singleton.2 rfl)).2 q hq).2.1 h
    · refine Nat.le_trans (fndL_len kind (ks.drop (i + 1)) _) ?_
      rw [← hx]; exact hlen
    conv => whnf
    exact ⟨ks.length - (i + 1), _, by omega, ⟨i + 1, A2, n2, c2, _, hil, rfl, hx, rfl⟩, weak_of ⟨rfl, trivial⟩ ⟨incV (by omega), rfl, rfl, rfl, trivial⟩ ⟨⟨rfl, rfl, rfl⟩, trivial⟩ (List.Sublist.refl _) rfl rfl⟩
  · have hb := of_decide_eq_false hb
    have hil : i = ks.length := by omega
    have e1 : ks.drop i = [] := by rw [hil]; simp
    rw [e1, fndL] at hx
    conv => whnf
    intro w4 hw4
    rw [hx]
    exact FdrPost.of hw4 rfl rfl (by simp)

/-- What is owned that a call has made: a slice of numbers. -/
def OwnI (w : World) (l : List Int) (v : Value) (w' : World) : Prop := ∃ A c, v = .slice A l.length c ∧ RowOk w' ⟨.slice A l.length c, 3, 1, ints l⟩ ∧ ∀ k, rowB (.slice A l.length c) = some k → w.heap.size ≤ k

theorem found_calls (S : Nat → Prop) (w : World) (t : Tp) (v : Value) (kind : Int) (ht : RepT S w t v) (hlen : (fnd kind t []).length ≤ 8796093022208) :
    Calls Try.prog 44 #[v, .int .i64 kind] w (Res w (OwnI w (fnd kind t []))) := by
  obtain ⟨B, d, rfl, b1, b2, b3⟩ := ht.opn
  refine calls0 tyok mixed [] Try.func44 rfl rfl (by simp) ?_
  conv => whnf
  intro g0
  conv => whnf
  intro g1
  conv => whnf
  refine ⟨gf58, fun w1 hw1 => ?_⟩
  have hw2 : Wd ⟨w, fun _ => False⟩ ⟨_, _, _, [⟨.slice none 0 0, 3, 1, ints []⟩], _, _⟩ w1 := hw1.addNil 3 1
  have hge : w.heap.size ≤ g1 := ((hw1.entN 1 _ _ rfl).2.1).elim (fun h => h.elim) id
  refine finderK 1 (acc := []) (walk_calls t w1 g1 kind none 0 0 [] (fun k => S k ∧ k < w.heap.size) _ (Fdr.of 1 hw2 rfl (by simp)) (ht.to (hw1.samev S) (fun _ h hl => ⟨h, hl⟩)) (fun h => by omega) (fun q hq => by cases hq) hlen) hw2 rfl rfl fun A2 n2 c2 hn2 => ?_
  subst hn2
  conv => whnf
  intro w3 hw3
  obtain ⟨r1, r2⟩ := hw3.row _ (List.mem_singleton.2 rfl)
  exact ⟨_, rfl, ⟨_, _, rfl, r1, fun q hq => ((r2 q hq).1).elim (fun h => h.elim) id⟩, hw3.bel⟩
end Go.Proofs.Ytonhlccjfbfkcaa
