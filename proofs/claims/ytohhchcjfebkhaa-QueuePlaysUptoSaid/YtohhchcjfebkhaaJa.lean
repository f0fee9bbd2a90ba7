/- package queue and container/heap (texts Ka to Kh, joined) -/
import Derived.Test.YtohhchcjfebkhaaTx
import Derived.Test.YtohhchcjfebkhaaVxy
import Derived.Sort.Walk0
set_option linter.unusedVariables false
set_option linter.unusedSimpArgs false
/- Items and their order. -/
namespace Go.Proofs.Ytohhchcjfebkhaa
open Go.Vx Go.Vc Go.RowKit

/-- Draws are counted. -/
abbrev GD : Glob := ⟨fun _ _ => True, fun _ _ _ _ => trivial, fun w w' => w.drawn ≤ w'.drawn, Nat.le_trans, fun h => h⟩
/-- Nothing is asked. -/
abbrev G0 : Glob := ⟨fun _ _ => True, fun _ _ _ _ => trivial, fun _ _ => True, fun _ _ => trivial, fun _ => trivial⟩
theorem isNaN_fn (a : Int) : FnR Try.prog GD 57 [.int .i64 a] (.bool false) := by
  refine fnQ_of_vc txok mixed [] Try.func57 rfl rfl (by simp) fun b => ?_
  conv => whnf
  simp
theorem compare_fn (a c : Int) : FnR Try.prog GD 48 [.int .i64 a, .int .i64 c] (.int .i64 (cmpI a c)) := by
  refine fnQ_of_vc txok mixed [] Try.func48 rfl rfl (by simp) fun b => ?_
  conv => whnf
  refine callF (isNaN_fn a) gf57 rfl rfl ?_
  conv => whnf
  refine callF (isNaN_fn c) gf57 rfl rfl ?_
  (repeat' ((conv => whnf); first | refine And.intro (fun _ => ?_) (fun _ => ?_))) <;> (conv => whnf)
  all_goals try contradiction
  all_goals refine congrArg (D.int .i64) ?_
  all_goals simp_all [cmpI]
  all_goals omega
theorem or_fn (l : List Int) : FnR Try.prog GD 47 [dI l] (.int .i64 (orL l)) := by
  refine fnQ_sz fun hs => ?_
  have hl := (szOk_sl hs.1).1
  simp only [LB] at hl
  refine fnQ_of_vc txok mixed [] Try.func47 rfl rfl (by simp) fun b => ?_
  conv => whnf
  refine loopH (fun i : Nat => i ≤ l.length ∧ orL l = orL (l.drop i)) (fun i => l.length - i) (fun i => [(8, .d (.int .i64 i))]) (fun _ => []) 0 0 ⟨by omega, rfl⟩ (weak_of rfl (by repeat ((conv => whnf); first | exact trivial | refine And.intro rfl ?_ | refine And.intro (incD (by omega)) ?_)) (by repeat ((conv => whnf); first | exact trivial | refine And.intro rfl ?_ | refine And.intro (incD (by omega)) ?_))) ?_
  rintro i ⟨hi, hx⟩
  conv => whnf
  refine And.intro (fun hb => ?_) (fun hb => ?_)
  · have hb := of_decide_eq_true hb
    have hil : i < l.length := by omega
    rw [List.drop_eq_getElem_cons hil, orL] at hx
    conv => whnf
    refine IdxC.encI i hil rfl ?_
    conv => whnf
    refine And.intro (fun he => ?_) (fun he => ?_)
    · conv => whnf
      rw [hx, if_pos (by simpa using he)]
    · conv => whnf
      rw [if_neg (by simpa using he)] at hx
      exact again (i + 1) (by omega) ⟨by omega, hx⟩ (weak_of rfl (by repeat ((conv => whnf); first | exact trivial | refine And.intro rfl ?_ | refine And.intro (incD (by omega)) ?_)) (by repeat ((conv => whnf); first | exact trivial | refine And.intro rfl ?_ | refine And.intro (incD (by omega)) ?_)))
  · have hb := of_decide_eq_false hb
    conv => whnf
    rw [hx, List.drop_eq_nil_of_le (by omega)]; rfl


/-- An item: a rank and a name. -/
abbrev It := Int × ByteArray
def encIt (x : It) : List D := [.int .i64 x.1, .str x.2]
theorem encIt_len (x : It) : (encIt x).length = 2 := rfl
def encQ (l : List It) : List D := fl encIt l
theorem encQ_len (l : List It) : (encQ l).length = l.length * 2 := fl_len encIt_len l
theorem encQ_app (l m : List It) : encQ (l ++ m) = encQ l ++ encQ m := fl_app l m
theorem encQ_at (l : List It) (i : Nat) (hi : i < l.length) : ((encQ l).drop (i * 2)).take 2 = encIt l[i] := fl_at encIt_len l i hi
theorem encQ_set (l : List It) (i : Nat) (hi : i < l.length) (x : It) : ovl (encQ l) (i * 2) (encIt x) = encQ (l.set i x) := fl_set encIt_len l i hi x
theorem encIt_scal (x : It) : ∀ d ∈ encIt x, scalD d = true := by
  intro d hd
  simp only [encIt, List.mem_cons, List.not_mem_nil, or_false] at hd
  rcases hd with rfl | rfl <;> rfl
theorem encQ_scal (l : List It) : ∀ d ∈ encQ l, scalD d = true := by
  intro d hd
  obtain ⟨x, _, h⟩ := fl_mem hd
  exact encIt_scal x d h
theorem IdxC.encQ {l : List It} {j : Int} {K : Go.Vx.SV → Prop} (i : Nat) (hi : i < l.length) (hj : j = (i : Int)) (hk : K (.d (.ptr (encIt l[i]) 0))) : IdxC l.length 2 (Go.Proofs.Ytohhchcjfebkhaa.encQ l) j K :=
  IdxC.fl encIt_len i hi hj hk
abbrev dIt (x : It) : D := .agg (encIt x)
abbrev dQ (l : List It) : D := slD 24 l.length (encQ l)
def blt (a b : ByteArray) : Bool := Op.bytesLess a.toList b.toList
def cmpB (a b : ByteArray) : Int := if blt a b then -1 else if a.toList == b.toList then 0 else 1
def ord (x y : It) : Int := orL [cmpI x.1 y.1, cmpB x.2 y.2]
theorem isNaNs_fn (a : ByteArray) : FnR Try.prog GD 50 [.str a] (.bool false) := by
  refine fnQ_of_vc txok mixed [] Try.func50 rfl rfl (by simp) fun b => ?_
  conv => whnf
  simp
theorem compares_fn (a c : ByteArray) : FnR Try.prog GD 32 [.str a, .str c] (.int .i64 (cmpB a c)) := by
  refine fnQ_of_vc txok mixed [] Try.func32 rfl rfl (by simp) fun b => ?_
  conv => whnf
  refine callF (isNaNs_fn a) gf50 rfl rfl ?_
  conv => whnf
  refine callF (isNaNs_fn c) gf50 rfl rfl ?_
  (repeat' ((conv => whnf); first | refine And.intro (fun _ => ?_) (fun _ => ?_))) <;> (conv => whnf)
  all_goals try contradiction
  all_goals refine congrArg (D.int .i64) ?_
  all_goals simp_all [cmpB, blt]
theorem ncmp_fn (a c : ByteArray) : FnR Try.prog GD 15 [.str a, .str c] (.int .i64 (cmpB a c)) := by
  refine fnQ_of_vc txok mixed [] Try.func15 rfl rfl (by simp) fun b => ?_
  conv => whnf
  exact callF (compares_fn a c) gf32 rfl rfl rfl
theorem order_dn (x y : It) : FnR Try.prog GD 28 [dIt x, dIt y] (.int .i64 (ord x y)) := by
  refine fnQ_of_vc txok mixed [(1, .pure 0 (.take 1 (.pure 2 (.take 3 (.pure 5 (.take 6 (.pure 7 (.take 8 (.run 4 (.fin 9 (.fin 10 (.fin 11 (.pure 12 .done)))))))))))))] Try.func28 rfl rfl (by simp) fun b => ?_
  conv => whnf
  refine And.intro (by kernel_rfl) ?_
  conv => whnf
  refine callF (compare_fn x.1 y.1) gf48 rfl rfl ?_
  conv => whnf
  refine callF (ncmp_fn x.2 y.2) gf15 rfl rfl ?_
  conv => whnf
  refine callV (or_fn [cmpI x.1 y.1, cmpB x.2 y.2]) gf47 rfl rfl rfl rfl ?_
  conv => whnf
  rfl
theorem order_fn (x y : It) : FnR Try.prog G0 28 [dIt x, dIt y] (.int .i64 (ord x y)) := (order_dn x y).to (fun _ _ _ => trivial) (fun _ _ _ => trivial)
theorem ncmp0_fn (a c : ByteArray) : FnR Try.prog G0 15 [.str a, .str c] (.int .i64 (cmpB a c)) := (ncmp_fn a c).to (fun _ _ _ => trivial) (fun _ _ _ => trivial)
end Go.Proofs.Ytohhchcjfebkhaa

/- The order of items, and heaps: plain. -/
namespace Go.Proofs.Ytohhchcjfebkhaa
open Go.Vx Go.Vc Go.RowKit

theorem blt_iff {a b : ByteArray} : blt a b = true ↔ a.toList < b.toList := by
  unfold blt; rw [bytesLess_eq, decide_eq_true_iff]
theorem blt_irrefl (a : ByteArray) : ¬ blt a a = true := by rw [blt_iff]; exact List.lt_irrefl _
theorem blt_trans {a b c : ByteArray} (h : blt a b = true) (h' : blt b c = true) : blt a c = true := by
  rw [blt_iff] at *; exact List.lt_trans h h'
theorem blt_tri (a b : ByteArray) : blt a b = true ∨ a = b ∨ blt b a = true := by
  simp only [blt_iff]
  by_cases h : a.toList < b.toList
  · exact .inl h
  by_cases h' : b.toList < a.toList
  · exact .inr (.inr h')
  · exact .inr (.inl (toList_inj (List.le_antisymm (List.not_lt.1 h') (List.not_lt.1 h))))
/-- An item stands ahead of another one. -/
def lt (x y : It) : Prop := x.1 < y.1 ∨ (x.1 = y.1 ∧ blt x.2 y.2 = true)
instance (x y : It) : Decidable (lt x y) := by unfold lt; infer_instance
theorem lt_irrefl (x : It) : ¬ lt x x := by
  rintro (h | ⟨_, h⟩)
  · omega
  · exact blt_irrefl _ h
theorem lt_trans {x y z : It} (h : lt x y) (h' : lt y z) : lt x z := by
  rcases h with h | ⟨h, h1⟩ <;> rcases h' with h' | ⟨h', h2⟩
  · exact .inl (by omega)
  · exact .inl (by omega)
  · exact .inl (by omega)
  · exact .inr ⟨by omega, blt_trans h1 h2⟩
theorem lt_tri (x y : It) : lt x y ∨ x = y ∨ lt y x := by
  unfold lt
  rcases Int.lt_trichotomy x.1 y.1 with h | h | h
  · exact .inl (.inl h)
  · rcases blt_tri x.2 y.2 with h' | h' | h'
    · exact .inl (.inr ⟨h, h'⟩)
    · exact .inr (.inl (Prod.ext h h'))
    · exact .inr (.inr (.inr ⟨h.symm, h'⟩))
  · exact .inr (.inr (.inl h))
theorem lt_asymm {x y : It} (h : lt x y) : ¬ lt y x := fun h' => lt_irrefl _ (lt_trans h h')
/-- Not ahead, one behind the other. -/
theorem le_trans {x y z : It} (h : ¬ lt y x) (h' : ¬ lt z y) : ¬ lt z x := by
  intro hz
  rcases lt_tri x y with h1 | h1 | h1
  · exact h' (lt_trans hz h1)
  · subst h1; exact h' hz
  · exact h h1
theorem le_of_lt {x y : It} (h : lt x y) : ¬ lt y x := lt_asymm h
theorem cmpB_neg {a b : ByteArray} : cmpB a b < 0 ↔ blt a b = true := by
  unfold cmpB
  split
  · rename_i h; simp [h]
  · split <;> simp_all
theorem cmpI0 {a b : Int} : cmpI a b = 0 ↔ a = b := by unfold cmpI; split <;> (try split) <;> omega
theorem ord_neg {x y : It} : ord x y < 0 ↔ lt x y := by
  unfold ord lt
  simp only [orL]
  by_cases h1 : cmpI x.1 y.1 = 0
  · rw [if_neg (by omega)]
    have h1 := cmpI0.1 h1
    by_cases h2 : cmpB x.2 y.2 = 0
    · rw [if_neg (by omega)]
      have : ¬ blt x.2 y.2 = true := fun h => by have := cmpB_neg.2 h; omega
      constructor
      · intro h; omega
      · rintro (h | ⟨_, h⟩)
        · omega
        · exact absurd h this
    · rw [if_pos (by omega), cmpB_neg]
      constructor
      · intro h; exact .inr ⟨h1, h⟩
      · rintro (h | ⟨_, h⟩)
        · omega
        · exact h
  · rw [if_pos (by omega)]
    unfold cmpI at *
    constructor
    · intro h
      split at h
      · rename_i h'; exact .inl h'
      · split at h <;> omega
    · rintro (h | ⟨h, _⟩)
      · rw [if_pos h]; omega
      · rw [h] at h1; simp at h1
theorem ord_lt (x y : It) : decide (ord x y < 0) = decide (lt x y) := by rw [decide_eq_decide]; exact ord_neg

/-- The item at a place. -/
def ix (l : List It) (i : Nat) : It := l.getD i (0, .empty)
theorem ix_get {l : List It} {i : Nat} (h : i < l.length) : ix l i = l[i] := by
  unfold ix; rw [List.getD_eq_getElem?_getD, List.getElem?_eq_getElem h]; rfl
theorem ix_set {l : List It} {i : Nat} {x : It} (h : i < l.length) (j : Nat) : ix (l.set i x) j = if i = j then x else ix l j := by
  unfold ix
  simp only [List.getD_eq_getElem?_getD, List.getElem?_set]
  by_cases e : i = j
  · subst e; simp [h]
  · simp [e]
theorem ix_app {l m : List It} {i : Nat} (h : i < l.length) : ix (l ++ m) i = ix l i := by
  unfold ix; simp only [List.getD_eq_getElem?_getD]; rw [List.getElem?_append_left h]
theorem ix_app2 {l : List It} {x : It} : ix (l ++ [x]) l.length = x := by
  unfold ix; simp [List.getD_eq_getElem?_getD]
theorem ix_take {l : List It} {i n : Nat} (h : i < n) : ix (l.take n) i = ix l i := by
  unfold ix; simp only [List.getD_eq_getElem?_getD]; rw [List.getElem?_take_of_lt h]
theorem ix_mem {l : List It} {x : It} : x ∈ l ↔ ∃ i, i < l.length ∧ ix l i = x := by
  rw [List.mem_iff_getElem]
  constructor
  · rintro ⟨i, h, rfl⟩; exact ⟨i, h, ix_get h⟩
  · rintro ⟨i, h, rfl⟩; exact ⟨i, h, (ix_get h).symm⟩
/-- Two items change places. -/
def swp (l : List It) (i k : Nat) : List It := (l.set i (ix l k)).set k (ix l i)
theorem swp_len (l : List It) (i k : Nat) : (swp l i k).length = l.length := by simp [swp]
theorem swp_perm {l : List It} {i k : Nat} (hi : i < l.length) (hk : k < l.length) : (swp l i k).Perm l := by
  unfold swp; rw [ix_get hi, ix_get hk]; exact List.set_set_perm hi hk
theorem ix_swp {l : List It} {i k : Nat} (hi : i < l.length) (hk : k < l.length) (j : Nat) : ix (swp l i k) j = if j = k then ix l i else if j = i then ix l k else ix l j := by
  unfold swp
  rw [ix_set (by simpa using hk), ix_set hi]
  by_cases h1 : k = j
  · rw [if_pos h1, if_pos h1.symm]
  · rw [if_neg h1, if_neg (Ne.symm h1)]
    by_cases h2 : i = j
    · rw [if_pos h2, if_pos h2.symm]
    · rw [if_neg h2, if_neg (Ne.symm h2)]
theorem ix_swp1 {l : List It} {i k : Nat} (hi : i < l.length) (hk : k < l.length) : ix (swp l i k) i = ix l k := by
  rw [ix_swp hi hk]
  by_cases h : i = k
  · rw [if_pos h, h]
  · rw [if_neg h, if_pos rfl]
theorem ix_swp2 {l : List It} {i k : Nat} (hi : i < l.length) (hk : k < l.length) : ix (swp l i k) k = ix l i := by
  rw [ix_swp hi hk, if_pos rfl]
theorem ix_swp3 {l : List It} {i k j : Nat} (hi : i < l.length) (hk : k < l.length) (h : j ≠ i) (h' : j ≠ k) : ix (swp l i k) j = ix l j := by
  rw [ix_swp hi hk, if_neg h', if_neg h]

/-- A pair of a heap that stands right. -/
def pok (l : List It) (c : Nat) : Prop := ¬ lt (ix l c) (ix l ((c - 1) / 2))
def Heap (l : List It) (n : Nat) : Prop := ∀ c, 0 < c → c < n → pok l c
/-- All pairs but the one of j and its parent. -/
def UpInv (l : List It) (j n : Nat) : Prop := (∀ c, 0 < c → c < n → c ≠ j → pok l c) ∧ (0 < j → ∀ c, 0 < c → c < n → (c - 1) / 2 = j → ¬ lt (ix l c) (ix l ((j - 1) / 2)))
/-- All pairs without i. -/
def DnInv (l : List It) (i n : Nat) : Prop := (∀ c, 0 < c → c < n → c ≠ i → (c - 1) / 2 ≠ i → pok l c) ∧ (0 < i → ∀ c, 0 < c → c < n → (c - 1) / 2 = i → ¬ lt (ix l c) (ix l ((i - 1) / 2)))
theorem up_done {l : List It} {j n : Nat} (h : UpInv l j n) (hj : j = 0 ∨ pok l j) : Heap l n := by
  intro c h0 hn
  by_cases e : c = j
  · subst e; exact hj.resolve_left (by omega)
  · exact h.1 c h0 hn e
theorem up_step {l : List It} {j n : Nat} (h : UpInv l j n) (hj0 : 0 < j) (hjn : j < n) (hn : n ≤ l.length) (hl : lt (ix l j) (ix l ((j - 1) / 2))) : UpInv (swp l ((j - 1) / 2) j) ((j - 1) / 2) n := by
  have hp : (j - 1) / 2 < j := by omega
  generalize hpe : (j - 1) / 2 = p at *
  have hpl : p < l.length := by omega
  have hjl : j < l.length := by omega
  refine ⟨fun c h0 hc hne => ?_, fun hp0 c h0 hc hpar => ?_⟩
  · unfold pok
    by_cases e : c = j
    · subst e
      rw [hpe, ix_swp2 hpl hjl, ix_swp1 hpl hjl]
      exact lt_asymm hl
    rw [ix_swp3 hpl hjl hne e]
    by_cases e1 : (c - 1) / 2 = p
    · rw [e1, ix_swp1 hpl hjl]
      have := h.1 c h0 hc e
      unfold pok at this
      rw [e1] at this
      exact fun h' => this (lt_trans h' hl)
    by_cases e2 : (c - 1) / 2 = j
    · rw [e2, ix_swp2 hpl hjl]
      have := h.2 hj0 c h0 hc e2
      rwa [hpe] at this
    · rw [ix_swp3 hpl hjl e1 e2]
      exact h.1 c h0 hc e
  · have hpp : (p - 1) / 2 < p := by omega
    have h1 := h.1 p hp0 (by omega) (by omega)
    unfold pok at h1
    rw [ix_swp3 hpl hjl (j := (p - 1) / 2) (by omega) (by omega)]
    by_cases e : c = j
    · subst e; rw [ix_swp2 hpl hjl]; exact h1
    · rw [ix_swp3 hpl hjl (by omega) e]
      have h2 := h.1 c h0 hc e
      unfold pok at h2
      rw [hpar] at h2
      exact le_trans h1 h2
theorem dn_stop {l : List It} {i n : Nat} (h : DnInv l i n) (hc : ∀ c, 0 < c → c < n → (c - 1) / 2 = i → pok l c) : UpInv l i n := by
  refine ⟨fun c h0 hn hne => ?_, h.2⟩
  by_cases e : (c - 1) / 2 = i
  · exact hc c h0 hn e
  · exact h.1 c h0 hn hne e
theorem dn_step {l : List It} {i j n : Nat} (h : DnInv l i n) (hj0 : 0 < j) (hji : (j - 1) / 2 = i) (hjn : j < n) (hn : n ≤ l.length) (hmin : ∀ c, 0 < c → c < n → (c - 1) / 2 = i → ¬ lt (ix l c) (ix l j)) (hl : lt (ix l j) (ix l i)) : DnInv (swp l i j) j n ∧ pok (swp l i j) j := by
  have hij : i < j := by omega
  have hil : i < l.length := by omega
  have hjl : j < l.length := by omega
  refine ⟨⟨fun c h0 hc hne hpne => ?_, fun _ c h0 hc hpar => ?_⟩, ?_⟩
  · unfold pok
    by_cases e : c = i
    · subst e
      rw [ix_swp1 hil hjl, ix_swp3 hil hjl (by omega) hpne]
      exact h.2 h0 j hj0 hjn hji
    rw [ix_swp3 hil hjl e hne]
    by_cases e1 : (c - 1) / 2 = i
    · rw [e1, ix_swp1 hil hjl]
      exact hmin c h0 hc e1
    · rw [ix_swp3 hil hjl e1 hpne]
      exact h.1 c h0 hc e e1
  · rw [hji, ix_swp1 hil hjl, ix_swp3 hil hjl (by omega) (by omega)]
    have := h.1 c h0 hc (by omega) (by omega)
    unfold pok at this
    rwa [hpar] at this
  · unfold pok
    rw [hji, ix_swp1 hil hjl, ix_swp2 hil hjl]
    exact lt_asymm hl
theorem heap_set {l : List It} {i n : Nat} (h : Heap l n) (hi : i < n) (hn : n ≤ l.length) (x : It) : DnInv (l.set i x) i n := by
  have hil : i < l.length := by omega
  refine ⟨fun c h0 hc hne hpne => ?_, fun h0' c h0 hc hpar => ?_⟩
  · unfold pok
    rw [ix_set hil, ix_set hil, if_neg (Ne.symm hne), if_neg (Ne.symm hpne)]
    exact h c h0 hc
  · rw [ix_set hil, ix_set hil, if_neg (by omega), if_neg (by omega)]
    have h1 := h c h0 hc
    have h2 := h i h0' hi
    unfold pok at h1 h2
    rw [hpar] at h1
    exact le_trans h2 h1
theorem heap_cut {l l' : List It} {i n : Nat} (h : Heap l (n + 1)) (hi : i < n) (he : ∀ c, c < n → c ≠ i → ix l' c = ix l c) : DnInv l' i n := by
  refine ⟨fun c h0 hc hne hpne => ?_, fun h0' c h0 hc hpar => ?_⟩
  · unfold pok
    rw [he c hc hne, he _ (by omega) hpne]
    exact h c h0 (by omega)
  · rw [he c hc (by omega), he _ (by omega) (by omega)]
    have h1 := h c h0 (by omega)
    have h2 := h i h0' (by omega)
    unfold pok at h1 h2
    rw [hpar] at h1
    exact le_trans h2 h1
theorem heap_same {l l' : List It} {n : Nat} (h : Heap l n) (he : ∀ c, c < n → ix l' c = ix l c) : Heap l' n := by
  intro c h0 hc
  unfold pok
  rw [he c hc, he _ (by omega)]
  exact h c h0 hc
theorem heap_root {l : List It} {n : Nat} (h : Heap l n) : ∀ c, c < n → ¬ lt (ix l c) (ix l 0) := by
  intro c
  induction c using Nat.strongRecOn with
  | ind c ih =>
    intro hc
    by_cases e : c = 0
    · subst e; exact lt_irrefl _
    · exact le_trans (ih ((c - 1) / 2) (by omega) (by omega)) (h c (by omega) hc)
theorem heap_push {l : List It} (h : Heap l l.length) (x : It) : UpInv (l ++ [x]) l.length (l.length + 1) := by
  refine ⟨fun c h0 hc hne => ?_, fun h0' c h0 hc hpar => ?_⟩
  · unfold pok
    rw [ix_app (by omega), ix_app (by omega)]
    exact h c h0 (by omega)
  · omega
/-- The places. -/
def PlaceOk (l : List It) (mp : ByteArray → Option Int) : Prop := ∀ s (i : Int), mp s = some i ↔ ∃ k : Nat, i = (k : Int) ∧ k < l.length ∧ (ix l k).2 = s
theorem PlaceOk.inj {l : List It} {mp : ByteArray → Option Int} (h : PlaceOk l mp) {i k : Nat} (hi : i < l.length) (hk : k < l.length) (he : (ix l i).2 = (ix l k).2) : i = k := by
  have h1 := (h (ix l k).2 (i : Int)).2 ⟨i, rfl, hi, he⟩
  have h2 := (h (ix l k).2 (k : Int)).2 ⟨k, rfl, hk, rfl⟩
  rw [h1] at h2; injection h2 with h2; omega
theorem PlaceOk.nodup {l : List It} {mp : ByteArray → Option Int} (h : PlaceOk l mp) : (l.map (·.2)).Nodup := by
  rw [List.nodup_iff_pairwise_ne, List.pairwise_iff_getElem]
  intro i j hi hj hij
  simp only [List.length_map] at hi hj
  simp only [List.getElem_map]
  rw [← ix_get hi, ← ix_get hj]
  intro e
  have := h.inj hi hj e
  omega
theorem PlaceOk.none_iff {l : List It} {mp : ByteArray → Option Int} (h : PlaceOk l mp) {s : ByteArray} : mp s = none ↔ s ∉ l.map (·.2) := by
  constructor
  · intro hn hm
    obtain ⟨x, hx, rfl⟩ := List.mem_map.1 hm
    obtain ⟨i, hi, rfl⟩ := ix_mem.1 hx
    rw [(h _ (i : Int)).2 ⟨i, rfl, hi, rfl⟩] at hn; cases hn
  · intro hn
    cases hm : mp s with
    | none => rfl
    | some i =>
      obtain ⟨k, rfl, hk, rfl⟩ := (h s i).1 hm
      exact absurd (List.mem_map.2 ⟨_, ix_mem.2 ⟨k, hk, rfl⟩, rfl⟩) hn
theorem PlaceOk.nil : PlaceOk [] (fun _ => none) := by
  intro s i; constructor
  · intro h; cases h
  · rintro ⟨k, _, h, _⟩; simp at h
def swpM (l : List It) (mp : ByteArray → Option Int) (i k : Nat) : ByteArray → Option Int := updM (updM mp (ix (swp l i k) i).2 i) (ix (swp l i k) k).2 k
theorem PlaceOk.swp {l : List It} {mp : ByteArray → Option Int} (h : PlaceOk l mp) {i k : Nat} (hi : i < l.length) (hk : k < l.length) : PlaceOk (Go.Proofs.Ytohhchcjfebkhaa.swp l i k) (swpM l mp i k) := by
  intro s x
  unfold swpM updM
  rw [swp_len, ix_swp1 hi hk, ix_swp2 hi hk]
  by_cases h1 : s = (ix l i).2
  · rw [if_pos h1]
    constructor
    · intro e; injection e with e; exact ⟨k, e.symm, hk, by rw [ix_swp2 hi hk, h1]⟩
    · rintro ⟨j, rfl, hj, e⟩
      have : j = k := by
        rw [ix_swp hi hk] at e
        split at e
        · assumption
        · split at e
          · have := h.inj hk hi (e.trans h1); omega
          · have := h.inj hj hi (e.trans h1); omega
      rw [this]
  · rw [if_neg h1]
    by_cases h2 : s = (ix l k).2
    · rw [if_pos h2]
      constructor
      · intro e; injection e with e; exact ⟨i, e.symm, hi, by rw [ix_swp1 hi hk, h2]⟩
      · rintro ⟨j, rfl, hj, e⟩
        have : j = i := by
          rw [ix_swp hi hk] at e
          split at e
          · exact absurd e.symm h1
          · split at e
            · assumption
            · have := h.inj hj hk (e.trans h2); omega
        rw [this]
    · rw [if_neg h2, h s x]
      constructor
      · rintro ⟨j, rfl, hj, e⟩
        exact ⟨j, rfl, hj, by rw [ix_swp3 hi hk (by rintro rfl; exact h1 e.symm) (by rintro rfl; exact h2 e.symm), e]⟩
      · rintro ⟨j, rfl, hj, e⟩
        rw [ix_swp hi hk] at e
        split at e
        · exact absurd e.symm h1
        · split at e
          · exact absurd e.symm h2
          · exact ⟨j, rfl, hj, e⟩
theorem PlaceOk.set {l : List It} {mp : ByteArray → Option Int} (h : PlaceOk l mp) {i : Nat} {x : It} (hi : i < l.length) (hx : x.2 = (ix l i).2) : PlaceOk (l.set i x) mp := by
  intro s y
  rw [h s y, List.length_set]
  have : ∀ k, (ix (l.set i x) k).2 = (ix l k).2 := by
    intro k; rw [ix_set hi]; split
    · rename_i e; rw [hx, e]
    · rfl
  simp only [this]
theorem PlaceOk.push {l : List It} {mp : ByteArray → Option Int} (h : PlaceOk l mp) {x : It} (hx : mp x.2 = none) : PlaceOk (l ++ [x]) (updM mp x.2 l.length) := by
  intro s y
  unfold updM
  have hn := h.none_iff.1 hx
  by_cases e : s = x.2
  · subst e
    rw [if_pos rfl]
    constructor
    · intro e; injection e with e; exact ⟨l.length, e.symm, by simp, by rw [ix_app2]⟩
    · rintro ⟨k, rfl, hk, e⟩
      rw [List.length_append] at hk
      simp only [List.length_singleton] at hk
      by_cases e1 : k < l.length
      · rw [ix_app e1] at e
        exact absurd (List.mem_map.2 ⟨_, ix_mem.2 ⟨k, e1, rfl⟩, e⟩) hn
      · rw [show k = l.length from by omega]
  · rw [if_neg e, h s y]
    constructor
    · rintro ⟨k, rfl, hk, e⟩; exact ⟨k, rfl, by simp; omega, by rw [ix_app hk, e]⟩
    · rintro ⟨k, rfl, hk, e'⟩
      rw [List.length_append] at hk
      simp only [List.length_singleton] at hk
      by_cases e1 : k < l.length
      · rw [ix_app e1] at e'; exact ⟨k, rfl, e1, e'⟩
      · have : k = l.length := by omega
        subst this
        rw [ix_app2] at e'
        exact absurd e'.symm e
theorem PlaceOk.pop {l : List It} {mp : ByteArray → Option Int} (h : PlaceOk l mp) {n : Nat} (hl : l.length = n + 1) : PlaceOk (l.take n) (delM mp (ix l n).2) := by
  intro s y
  unfold delM
  have hlen : (l.take n).length = n := by simp; omega
  rw [hlen]
  by_cases e : s = (ix l n).2
  · subst e
    rw [if_pos rfl]
    constructor
    · intro e; cases e
    · rintro ⟨k, rfl, hk, e⟩
      rw [ix_take hk] at e
      have := h.inj (by omega) (by omega) e
      omega
  · rw [if_neg e, h s y]
    constructor
    · rintro ⟨k, rfl, hk, e'⟩
      have : k ≠ n := by rintro rfl; exact e e'.symm
      exact ⟨k, rfl, by omega, by rw [ix_take (by omega), e']⟩
    · rintro ⟨k, rfl, hk, e'⟩
      rw [ix_take hk] at e'
      exact ⟨k, rfl, by omega, e'⟩
end Go.Proofs.Ytohhchcjfebkhaa

/- What container/heap asks of items. -/
namespace Go.Proofs.Ytohhchcjfebkhaa
open Go.Vx Go.Vc Go.RowKit

/-- A queue's objects: its struct, the heap's row, the places. -/
abbrev qH (l : List It) (mp : ByteArray → Option Int) : Hp := [(0, .blk 60 [.row 1, .nm 2]), (1, .row 30 24 2 l.length (encQ l)), (2, .ab (MapIs mp))]
def qR (x : Go.Vx.SV) (l : List It) (mp : ByteArray → Option Int) : Out → Hp → Prop := fun o H' => o = .ret x ∧ H' = qH l mp
theorem mapTy : MapTy Try.prog 56 9 3 := ⟨by kernel_rfl, by kernel_rfl, by intro w; kernel_rfl⟩
theorem encX_at (l : List It) (i : Nat) (hi : i < l.length) : ((encQ l).drop (i * 2)).take 2 = encIt (ix l i) := by rw [ix_get hi]; exact encQ_at l i hi
theorem encX_name (l : List It) (i : Nat) (hi : i < l.length) : (encQ l)[i * 2 + 1]? = some (.str (ix l i).2) := by
  have h := encX_at l i hi
  have h2 : (((encQ l).drop (i * 2)).take 2)[1]? = some (.str (ix l i).2) := by rw [h]; rfl
  rwa [List.getElem?_take_of_lt (by omega), List.getElem?_drop] at h2
theorem encX_set (l : List It) (i : Nat) (hi : i < l.length) (x : It) : ovl (encQ l) (i * 2) (encIt x) = encQ (l.set i x) := encQ_set l i hi x
theorem encX_bd (l : List It) (i : Nat) (hi : i < l.length) : i * 2 + 2 ≤ (encQ l).length := by rw [encQ_len]; omega
theorem len_tri (l : List It) (mp) : Tri Try.prog G0 29 3 0 [.own 0 0] (qH l mp) (qR (.d (.int .i64 l.length)) l mp) := by
  refine tri_of_vc txok mixed [] [] Try.func29 rfl rfl (by simp) fun b => ?_
  conv => whnf
  exact ⟨rfl, rfl⟩
theorem less_tri (l : List It) (mp) (i k : Nat) (hi : i < l.length) (hk : k < l.length) : Tri Try.prog G0 91 3 0 [.own 0 0, .d (.int .i64 i), .d (.int .i64 k)] (qH l mp) (qR (.d (.bool (decide (ord (ix l i) (ix l k) < 0)))) l mp) := by
  refine tri_of_vc txok mixed [] [(1, .pure 0 (.pure 1 (.pure 2 (.take 3 (.pure 4 (.pure 5 (.pure 7 (.pure 8 (.pure 9 (.take 10 (.pure 11 (.pure 12 (.two 6 13 (.run 13 (.fin 14 (.pure 15 (.pure 16 .done)))) (.run 6 (.fin 14 (.pure 15 (.pure 16 .done)))))))))))))))))] Try.func91 rfl rfl (by simp) fun b => ?_
  conv => whnf
  refine And.intro (by kernel_rfl) ?_
  conv => whnf
  refine ⟨i, rfl, hi, ?_⟩
  conv => whnf
  refine ⟨k, rfl, hk, ?_⟩
  conv => whnf
  refine And.intro ?_ ?_
  · refine ⟨encIt (ix l i), encX_at l i hi, rfl, ?_⟩
    conv => whnf
    refine ⟨encIt (ix l k), encX_at l k hk, rfl, ?_⟩
    conv => whnf
    refine callF (order_fn (ix l i) (ix l k)) gf28 rfl rfl ?_
    conv => whnf
    exact ⟨rfl, rfl⟩
  · refine ⟨encIt (ix l k), encX_at l k hk, rfl, ?_⟩
    conv => whnf
    refine ⟨encIt (ix l i), encX_at l i hi, rfl, ?_⟩
    conv => whnf
    refine callF (order_fn (ix l i) (ix l k)) gf28 rfl rfl ?_
    conv => whnf
    exact ⟨rfl, rfl⟩
theorem moved_tri (l : List It) (mp) (i : Nat) (hi : i < l.length) : Tri Try.prog G0 95 3 0 [.own 0 0, .d (.int .i64 i)] (qH l mp) (qR (.tup []) l (updM mp (ix l i).2 i)) := by
  refine tri_of_vc txok mixed [] [(0, .pure 0 (.pure 1 (.pure 2 (.take 3 (.pure 4 (.pure 5 (.pure 6 (.take 7 (.pure 8 (.pure 9 (.pure 10 (.pure 12 (.run 11 (.fin 13 .done))))))))))))))] Try.func95 rfl rfl (by simp) fun b => ?_
  conv => whnf
  refine And.intro (by kernel_rfl) ?_
  conv => whnf
  refine ⟨i, rfl, hi, ?_⟩
  conv => whnf
  refine ⟨.str (ix l i).2, encX_name l i hi, ?_⟩
  conv => whnf
  refine updC mapTy _ rfl rfl rfl rfl rfl rfl ?_
  conv => whnf
  exact ⟨rfl, rfl⟩
abbrev qN (n : Nat) (l : List It) (mp : ByteArray → Option Int) : Hp := [(0, .blk 60 [.row 1, .nm 2]), (1, .row 30 24 2 n (encQ l)), (2, .ab (MapIs mp))]
theorem moved_swp (l : List It) (mp) (i k j : Nat) (hj : j < l.length) : Tri Try.prog G0 95 3 0 [.own 0 0, .d (.int .i64 j)] (qN l.length (swp l i k) mp) (fun o H' => o = .ret (.tup []) ∧ H' = qN l.length (swp l i k) (updM mp (ix (swp l i k) j).2 j)) := by
  have := moved_tri (swp l i k) mp j (by rw [swp_len]; exact hj)
  unfold qR qH at this
  simp only [swp_len] at this
  exact this
theorem swap_tri (l : List It) (mp) (i k : Nat) (hi : i < l.length) (hk : k < l.length) : Tri Try.prog G0 94 3 0 [.own 0 0, .d (.int .i64 i), .d (.int .i64 k)] (qH l mp) (qR (.tup []) (swp l i k) (swpM l mp i k)) := by
  refine tri_of_vc txok mixed [] [(0, .pure 0 (.pure 1 (.pure 2 (.take 3 (.pure 4 (.pure 5 (.pure 6 (.pure 7 (.take 8 (.pure 9 (.pure 10 (.pure 11 (.pure 12 (.take 13 (.pure 14 (.pure 15 (.pure 17 (.pure 18 (.pure 19 (.take 20 (.pure 21 (.pure 22 (.two 16 23 (.run 23 (.pure 24 (.fin 25 (.pure 26 (.fin 27 .done))))) (.run 16 (.pure 24 (.fin 25 (.pure 26 (.fin 27 .done))))))))))))))))))))))))))))] Try.func94 rfl rfl (by simp) fun b => ?_
  conv => whnf
  refine And.intro (by kernel_rfl) ?_
  conv => whnf
  refine ⟨k, rfl, hk, ?_⟩
  conv => whnf
  refine ⟨i, rfl, hi, ?_⟩
  conv => whnf
  refine And.intro ?_ ?_
  · refine ⟨encIt (ix l k), encX_at l k hk, rfl, ?_⟩
    conv => whnf
    refine ⟨encIt (ix l i), encX_at l i hi, rfl, ?_⟩
    conv => whnf
    refine ⟨i, rfl, hi, ?_⟩
    conv => whnf
    refine ⟨encQ (l.set i (ix l k)), encX_bd l i hi, encX_set l i hi (ix l k), ?_⟩
    conv => whnf
    refine ⟨k, rfl, hk, ?_⟩
    conv => whnf
    refine ⟨encQ (swp l i k), encX_bd _ k (by simpa using hk), encX_set _ k (by simpa using hk) (ix l i), ?_⟩
    conv => whnf
    refine callT [0, 1, 2] (moved_swp l mp i k i hi) gf95 rfl rfl ⟨rfl, rfl, rfl, trivial⟩ rfl ?_
    rintro o' H' ⟨rfl, rfl⟩
    conv => whnf
    refine callT [0, 1, 2] (moved_swp l _ i k k hk) gf95 rfl rfl ⟨rfl, rfl, rfl, trivial⟩ rfl ?_
    rintro o' H' ⟨rfl, rfl⟩
    conv => whnf
    exact ⟨rfl, by simp only [qH, swp_len]; rfl⟩
  · refine ⟨encIt (ix l i), encX_at l i hi, rfl, ?_⟩
    conv => whnf
    refine ⟨encIt (ix l k), encX_at l k hk, rfl, ?_⟩
    conv => whnf
    refine ⟨i, rfl, hi, ?_⟩
    conv => whnf
    refine ⟨encQ (l.set i (ix l k)), encX_bd l i hi, encX_set l i hi (ix l k), ?_⟩
    conv => whnf
    refine ⟨k, rfl, hk, ?_⟩
    conv => whnf
    refine ⟨encQ (swp l i k), encX_bd _ k (by simpa using hk), encX_set _ k (by simpa using hk) (ix l i), ?_⟩
    conv => whnf
    refine callT [0, 1, 2] (moved_swp l mp i k i hi) gf95 rfl rfl ⟨rfl, rfl, rfl, trivial⟩ rfl ?_
    rintro o' H' ⟨rfl, rfl⟩
    conv => whnf
    refine callT [0, 1, 2] (moved_swp l _ i k k hk) gf95 rfl rfl ⟨rfl, rfl, rfl, trivial⟩ rfl ?_
    rintro o' H' ⟨rfl, rfl⟩
    conv => whnf
    exact ⟨rfl, by simp only [qH, swp_len]; rfl⟩
theorem push_tri (l : List It) (mp) (x : It) (hl : (l ++ [x]).length * 24 ≤ LB) : Tri Try.prog G0 93 3 0 [.own 0 0, .d (.ifc 30 (dIt x))] (qH l mp) (qR (.tup []) (l ++ [x]) (updM mp x.2 l.length)) := by
  refine tri_of_vc txok mixed [] [(2, .pure 0 (.pure 1 (.pure 2 (.pure 3 (.take 4 (.take 5 (.run 6 (.fin 7 (.pure 8 (.pure 9 (.fin 10 .done)))))))))))] Try.func93 rfl rfl (by simp) fun b => ?_
  conv => whnf
  refine tassD (by exact rfl) (by exact rfl) (by kernel_rfl) ?_
  conv => whnf
  refine And.intro (by kernel_rfl) ?_
  conv => whnf
  refine appR (i := 1) (sz := 2) (n := l.length) (m := 1) (xs := encQ l) (ys := encIt x) txok (fun k => false) (l ++ [x]).length (encQ (l ++ [x])) (by exact rfl) (by exact rfl) (by exact rfl) (by kernel_rfl) (by exact rfl) (scalDs_mem (by exact rfl)) (by simp) (by rw [encQ_app]; rfl) hl ?_
  conv => whnf
  have e : IntKind.i64.wrap (((l ++ [x]).length : Int) - 1) = (l.length : Int) := by
    simp only [LB, List.length_append, List.length_singleton] at hl ⊢
    rw [Go.Vc.wrap_small (by omega) (by omega)]; omega
  rw [e]
  refine callT [0, 1, 2] (moved_tri (l ++ [x]) mp l.length (by simp)) gf95 rfl rfl ⟨rfl, rfl, rfl, trivial⟩ rfl ?_
  rintro o' H' ⟨rfl, rfl⟩
  conv => whnf
  exact ⟨rfl, by rw [ix_app2]; rfl⟩
theorem encQ_take (l : List It) (n : Nat) (hn : n ≤ l.length) : (encQ l).take (n * 2) = encQ (l.take n) := by
  conv => lhs; rw [← List.take_append_drop n l, encQ_app]
  rw [List.take_left']
  rw [encQ_len, List.length_take, Nat.min_eq_left hn]
theorem pop_tri (l : List It) (mp) (n : Nat) (hn : l.length = n + 1) (hsz : l.length * 24 ≤ LB) : Tri Try.prog G0 92 3 0 [.own 0 0] (qH l mp) (qR (.ifc 30 (.agg [.d (.int .i64 (ix l n).1), .d (.str (ix l n).2)])) (l.take n) (delM mp (ix l n).2)) := by
  refine tri_of_vc txok mixed [] [(4, .pure 0 (.pure 1 (.pure 2 (.take 3 (.pure 4 (.take 5 (.fin 6 .done)))))))] Try.func92 rfl rfl (by simp) fun b => ?_
  have hl : l.length * 24 ≤ LB := hsz
  have e : IntKind.i64.wrap ((l.length : Int) - 1) = (n : Int) := by
    simp only [LB] at hl
    rw [Go.Vc.wrap_small (by omega) (by omega)]; omega
  conv => whnf
  refine ⟨n, e, by omega, ?_⟩
  conv => whnf
  refine ⟨encIt (ix l n), encX_at l n (by omega), rfl, ?_⟩
  conv => whnf
  refine cutC txok (fun k => false) n (encQ (l.take n)) (by exact rfl) (by exact rfl) (by exact rfl) (by exact rfl) (by exact rfl) (by exact rfl) (by exact rfl) e (by omega) (encQ_take l n (by omega)) ?_
  conv => whnf
  refine And.intro (by kernel_rfl) ?_
  conv => whnf
  refine delC mapTy _ (by exact rfl) (by exact rfl) (by exact rfl) (by exact rfl) rfl ?_
  conv => whnf
  have hlen : (l.take n).length = n := by simp; omega
  exact ⟨rfl, by unfold qH; rw [hlen]; rfl⟩
end Go.Proofs.Ytohhchcjfebkhaa

/- container/heap: up and down. -/
namespace Go.Proofs.Ytohhchcjfebkhaa
open Go.Vx Go.Vc Go.RowKit

theorem mLen : ∀ v args w, (callMethod (.iface 67 v) "Len" args).run Try.prog w = .ok (.enter 29 (#[v] ++ args)) w := by intro v args w; kernel_rfl
theorem mLess : ∀ v args w, (callMethod (.iface 67 v) "Less" args).run Try.prog w = .ok (.enter 91 (#[v] ++ args)) w := by intro v args w; kernel_rfl
theorem mSwap : ∀ v args w, (callMethod (.iface 67 v) "Swap" args).run Try.prog w = .ok (.enter 94 (#[v] ++ args)) w := by intro v args w; kernel_rfl
theorem mPush : ∀ v args w, (callMethod (.iface 67 v) "Push" args).run Try.prog w = .ok (.enter 93 (#[v] ++ args)) w := by intro v args w; kernel_rfl
theorem mPop : ∀ v args w, (callMethod (.iface 67 v) "Pop" args).run Try.prog w = .ok (.enter 92 (#[v] ++ args)) w := by intro v args w; kernel_rfl

/-- The same items, the places right, nothing moved from n on. -/
structure Kpt (l : List It) (n : Nat) (l' : List It) (mp' : ByteArray → Option Int) : Prop where
  p : l'.Perm l
  m : PlaceOk l' mp'
  c : ∀ c, n ≤ c → ix l' c = ix l c
theorem Kpt.len {l l' : List It} {n : Nat} {mp'} (h : Kpt l n l' mp') : l'.length = l.length := h.p.length_eq
theorem Kpt.refl {l : List It} {mp} (n : Nat) (h : PlaceOk l mp) : Kpt l n l mp := ⟨.refl _, h, fun _ _ => rfl⟩
theorem Kpt.swap {l l' : List It} {n : Nat} {mp'} (h : Kpt l n l' mp') {i k : Nat} (hi : i < n) (hk : k < n) (hn : n ≤ l.length) : Kpt l n (swp l' i k) (swpM l' mp' i k) := by
  have hl := h.len
  refine ⟨(swp_perm (by omega) (by omega)).trans h.p, h.m.swp (by omega) (by omega), fun c hc => ?_⟩
  rw [ix_swp3 (by omega) (by omega) (by omega) (by omega)]
  exact h.c c hc
theorem par_eq {j : Nat} (h : j < 4611686018427387904) : IntKind.i64.wrap ((IntKind.i64.wrap ((j : Int) - 1)).tdiv 2) = (((j - 1) / 2 : Nat) : Int) := by
  by_cases h0 : j = 0
  · subst h0; rfl
  · rw [Go.Vc.wrap_small (a := (j : Int) - 1) (by omega) (by omega)]
    have : ((j : Int) - 1) = ((j - 1 : Nat) : Int) := by omega
    rw [this, show ((j - 1 : Nat) : Int).tdiv 2 = (((j - 1) / 2 : Nat) : Int) from by
      rw [Int.tdiv_eq_ediv_of_nonneg (by omega)]; rfl]
    exact Go.Vc.wrap_small (by omega) (by omega)

theorem up_tri (l : List It) (mp) (j n : Nat) (hj : j < n) (hn : n ≤ l.length) (hsz : l.length * 24 ≤ LB) (hu : UpInv l j n) (hp : PlaceOk l mp) :
    Tri Try.prog G0 51 3 0 [.ifc 67 (.own 0 0), .d (.int .i64 j)] (qH l mp) (fun o H' => o = .ret (.tup []) ∧ ∃ l' mp', H' = qH l' mp' ∧ Kpt l n l' mp' ∧ Heap l' n) := by
  refine tri_of_vc txok mixed [] [] Try.func51 rfl rfl (by simp) fun b => ?_
  conv => whnf
  refine loopH (fun x : List It × (ByteArray → Option Int) × Nat => Kpt l n x.1 x.2.1 ∧ UpInv x.1 x.2.2 n ∧ x.2.2 < n) (fun x => x.2.2) (fun x => [(1, .d (.int .i64 x.2.2))]) (fun x => qH x.1 x.2.1) 3 (l, mp, j) ⟨.refl n hp, hu, hj⟩ (weak_of rfl (by repeat ((conv => whnf); first | exact trivial | refine And.intro rfl ?_ | refine And.intro (incD (by omega)) ?_)) (by repeat ((conv => whnf); first | exact trivial | refine And.intro rfl ?_ | refine And.intro (incD (by omega)) ?_))) ?_
  rintro ⟨l', mp', j'⟩ ⟨hk, hu', hj'⟩
  simp only at hk hu' hj'
  simp only [LB] at hsz
  have hlen := hk.len
  have e := par_eq (j := j') (by omega)
  conv => whnf
  refine ⟨by decide, ?_⟩
  rw [e]
  conv => whnf
  refine And.intro (fun h1 => ?_) (fun h1 => ?_)
  · have h1 : (j' - 1) / 2 ≠ j' := by intro h; have := ne_of_beq_false h1; exact this (by rw [h])
    conv => whnf
    refine callTc [0, 1, 2] (less_tri l' mp' j' ((j' - 1) / 2) (by omega) (by omega)) (invTo rfl rfl rfl mLess) rfl ⟨rfl, rfl, rfl, trivial⟩ rfl ?_
    rintro o' H' ⟨rfl, rfl⟩
    conv => whnf
    refine And.intro (fun h2 => ?_) (fun h2 => ?_)
    · rw [ord_lt] at h2
      have h2 : ¬ lt (ix l' j') (ix l' ((j' - 1) / 2)) := by simpa using h2
      conv => whnf
      exact ⟨rfl, l', mp', rfl, hk, up_done hu' (.inr h2)⟩
    · rw [ord_lt] at h2
      have h2 : lt (ix l' j') (ix l' ((j' - 1) / 2)) := by simpa using h2
      conv => whnf
      refine callTc [0, 1, 2] (swap_tri l' mp' ((j' - 1) / 2) j' (by omega) (by omega)) (invTo rfl rfl rfl mSwap) rfl ⟨rfl, rfl, rfl, trivial⟩ rfl ?_
      rintro o' H' ⟨rfl, rfl⟩
      conv => whnf
      exact again (swp l' ((j' - 1) / 2) j', swpM l' mp' ((j' - 1) / 2) j', (j' - 1) / 2) (by simp only; omega) ⟨hk.swap (by omega) hj' hn, up_step hu' (by omega) hj' (by omega) h2, by simp only; omega⟩ (weak_of rfl (by repeat ((conv => whnf); first | exact trivial | refine And.intro rfl ?_ | refine And.intro (incD (by omega)) ?_)) (by repeat ((conv => whnf); first | exact trivial | refine And.intro rfl ?_ | refine And.intro (incD (by omega)) ?_)))
  · have h1 : (j' - 1) / 2 = j' := by have := eq_of_beq h1; simp only at this; omega
    conv => whnf
    exact ⟨rfl, l', mp', rfl, hk, up_done hu' (.inl (by omega))⟩
end Go.Proofs.Ytohhchcjfebkhaa

/- container/heap: down. -/
namespace Go.Proofs.Ytohhchcjfebkhaa
open Go.Vx Go.Vc Go.RowKit

/-- Where down ends. -/
def DnPost (l : List It) (mp : ByteArray → Option Int) (i0 n : Nat) (o : Out) (H' : Hp) : Prop :=
  ∃ l' mp' mv, o = .ret (.d (.bool mv)) ∧ H' = qH l' mp' ∧ Kpt l n l' mp' ∧ (mv = true → Heap l' n) ∧ (mv = false → l' = l ∧ mp' = mp ∧ UpInv l i0 n)
theorem dn_end {l l' : List It} {mp mp'} {i0 i' n : Nat} (hk : Kpt l n l' mp') (hu : UpInv l' i' n) (hi0 : i0 ≤ i') (hi1 : i' = i0 → l' = l ∧ mp' = mp) (hi2 : i0 < i' → 0 < i' ∧ pok l' i') :
    DnPost l mp i0 n (.ret (.d (.bool (decide ((i' : Int) > (i0 : Int)))))) (qH l' mp') := by
  refine ⟨l', mp', _, rfl, rfl, hk, fun h => ?_, fun h => ?_⟩
  · have h := of_decide_eq_true h
    exact up_done hu (.inr (hi2 (by omega)).2)
  · have h := of_decide_eq_false h
    have e : i' = i0 := by omega
    obtain ⟨h1, h2⟩ := hi1 e
    subst h1; subst e
    exact ⟨rfl, h2, hu⟩
theorem kid_eq {i : Nat} (h : i < 1152921504606846976) : IntKind.i64.wrap (IntKind.i64.wrap (2 * (i : Int)) + 1) = ((2 * i + 1 : Nat) : Int) := by
  rw [Go.Vc.wrap_small (a := 2 * (i : Int)) (by omega) (by omega), Go.Vc.wrap_small (by omega) (by omega)]; omega
theorem kid2_eq {i : Nat} (h : i < 1152921504606846976) : IntKind.i64.wrap (((2 * i + 1 : Nat) : Int) + 1) = ((2 * i + 2 : Nat) : Int) := by
  rw [Go.Vc.wrap_small (by omega) (by omega)]; omega
theorem down_tri (l : List It) (mp) (i0 n : Nat) (hi : i0 ≤ n) (hn : n ≤ l.length) (hsz : l.length * 24 ≤ LB) (hd : DnInv l i0 n) (hp : PlaceOk l mp) :
    Tri Try.prog G0 49 3 0 [.ifc 67 (.own 0 0), .d (.int .i64 i0), .d (.int .i64 n)] (qH l mp) (DnPost l mp i0 n) := by
  refine tri_of_vc txok mixed [] [] Try.func49 rfl rfl (by simp) fun b => ?_
  conv => whnf
  refine loopH (fun x : List It × (ByteArray → Option Int) × Nat => Kpt l n x.1 x.2.1 ∧ DnInv x.1 x.2.2 n ∧ x.2.2 ≤ n ∧ i0 ≤ x.2.2 ∧ (x.2.2 = i0 → x.1 = l ∧ x.2.1 = mp) ∧ (i0 < x.2.2 → 0 < x.2.2 ∧ pok x.1 x.2.2)) (fun x => n - x.2.2) (fun x => [(7, .d (.int .i64 x.2.2))]) (fun x => qH x.1 x.2.1) 3 (l, mp, i0) ⟨.refl n hp, hd, hi, by simp, fun _ => ⟨rfl, rfl⟩, fun h => by simp at h⟩ (weak_of rfl (by repeat ((conv => whnf); first | exact trivial | refine And.intro rfl ?_ | refine And.intro (incD (by omega)) ?_)) (by repeat ((conv => whnf); first | exact trivial | refine And.intro rfl ?_ | refine And.intro (incD (by omega)) ?_))) ?_
  rintro ⟨l', mp', i'⟩ ⟨hk, hd, hi', hi0, hi1, hi2⟩
  simp only at hk hd hi' hi0 hi1 hi2
  simp only [LB] at hsz
  have hlen := hk.len
  have e := kid_eq (i := i') (by omega)
  have e2 := kid2_eq (i := i') (by omega)
  conv => whnf
  rw [e]
  conv => whnf
  refine And.intro (fun h1 => ?_) (fun h1 => ?_)
  · have h1 := of_decide_eq_false h1
    try simp only at h1
    have h1 : 2 * i' + 1 < n := by omega
    conv => whnf
    refine And.intro (fun h2 => ?_) (fun h2 => ?_)
    · have h2 := of_decide_eq_true h2
      omega
    conv => whnf
    rw [e2]
    conv => whnf
    refine And.intro (fun h2 => ?_) (fun h2 => ?_)
    · have h2 := of_decide_eq_true h2
      try simp only at h2
      have h2 : 2 * i' + 2 < n := by omega
      conv => whnf
      refine callTc [0, 1, 2] (less_tri l' mp' (2 * i' + 2) (2 * i' + 1) (by omega) (by omega)) (invTo rfl rfl rfl mLess) rfl ⟨rfl, rfl, rfl, trivial⟩ rfl ?_
      rintro o' H' ⟨rfl, rfl⟩
      conv => whnf
      refine And.intro (fun h3 => ?_) (fun h3 => ?_)
      · rw [ord_lt] at h3
        have h3 := of_decide_eq_true h3
        have hmin : ∀ c, 0 < c → c < n → (c - 1) / 2 = i' → ¬ lt (ix l' c) (ix l' (2 * i' + 2)) := by
          intro c h0 hc hpar
          have : c = 2 * i' + 1 ∨ c = 2 * i' + 2 := by omega
          rcases this with rfl | rfl
          · exact lt_asymm h3
          · exact lt_irrefl _
        conv => whnf
        refine callTc [0, 1, 2] (less_tri l' mp' (2 * i' + 2) i' (by omega) (by omega)) (invTo rfl rfl rfl mLess) rfl ⟨rfl, rfl, rfl, trivial⟩ rfl ?_
        rintro o' H' ⟨rfl, rfl⟩
        conv => whnf
        refine And.intro (fun h4 => ?_) (fun h4 => ?_)
        · rw [ord_lt] at h4
          have h4 : ¬ lt (ix l' (2 * i' + 2)) (ix l' i') := by simpa using h4
          conv => whnf
          exact dn_end hk (dn_stop (i := i') hd fun c h0 hc hpar => by unfold pok; rw [hpar]; exact le_trans h4 (hmin c h0 hc hpar)) hi0 hi1 hi2
        · rw [ord_lt] at h4
          have h4 : lt (ix l' (2 * i' + 2)) (ix l' i') := by simpa using h4
          conv => whnf
          refine callTc [0, 1, 2] (swap_tri l' mp' i' (2 * i' + 2) (by omega) (by omega)) (invTo rfl rfl rfl mSwap) rfl ⟨rfl, rfl, rfl, trivial⟩ rfl ?_
          rintro o' H' ⟨rfl, rfl⟩
          conv => whnf
          have hs := dn_step hd (j := 2 * i' + 2) (by omega) (by omega) (by omega) (by omega) hmin h4
          exact again (swp l' i' (2 * i' + 2), swpM l' mp' i' (2 * i' + 2), 2 * i' + 2) (by simp only; omega) ⟨hk.swap (by omega) (by omega) hn, hs.1, by simp only; omega, by simp only; omega, fun h => by simp only at h; omega, fun _ => ⟨by simp only; omega, hs.2⟩⟩ (weak_of rfl (by repeat ((conv => whnf); first | exact trivial | refine And.intro rfl ?_ | refine And.intro (incD (by omega)) ?_)) (by repeat ((conv => whnf); first | exact trivial | refine And.intro rfl ?_ | refine And.intro (incD (by omega)) ?_)))
      · rw [ord_lt] at h3
        have h3 := of_decide_eq_false h3
        have hmin : ∀ c, 0 < c → c < n → (c - 1) / 2 = i' → ¬ lt (ix l' c) (ix l' (2 * i' + 1)) := by
          intro c h0 hc hpar
          have : c = 2 * i' + 1 ∨ c = 2 * i' + 2 := by omega
          rcases this with rfl | rfl
          · exact lt_irrefl _
          · exact h3
        conv => whnf
        refine callTc [0, 1, 2] (less_tri l' mp' (2 * i' + 1) i' (by omega) (by omega)) (invTo rfl rfl rfl mLess) rfl ⟨rfl, rfl, rfl, trivial⟩ rfl ?_
        rintro o' H' ⟨rfl, rfl⟩
        conv => whnf
        refine And.intro (fun h4 => ?_) (fun h4 => ?_)
        · rw [ord_lt] at h4
          have h4 : ¬ lt (ix l' (2 * i' + 1)) (ix l' i') := by simpa using h4
          conv => whnf
          exact dn_end hk (dn_stop (i := i') hd fun c h0 hc hpar => by unfold pok; rw [hpar]; exact le_trans h4 (hmin c h0 hc hpar)) hi0 hi1 hi2
        · rw [ord_lt] at h4
          have h4 : lt (ix l' (2 * i' + 1)) (ix l' i') := by simpa using h4
          conv => whnf
          refine callTc [0, 1, 2] (swap_tri l' mp' i' (2 * i' + 1) (by omega) (by omega)) (invTo rfl rfl rfl mSwap) rfl ⟨rfl, rfl, rfl, trivial⟩ rfl ?_
          rintro o' H' ⟨rfl, rfl⟩
          conv => whnf
          have hs := dn_step hd (j := 2 * i' + 1) (by omega) (by omega) (by omega) (by omega) hmin h4
          exact again (swp l' i' (2 * i' + 1), swpM l' mp' i' (2 * i' + 1), 2 * i' + 1) (by simp only; omega) ⟨hk.swap (by omega) (by omega) hn, hs.1, by simp only; omega, by simp only; omega, fun h => by simp only at h; omega, fun _ => ⟨by simp only; omega, hs.2⟩⟩ (weak_of rfl (by repeat ((conv => whnf); first | exact trivial | refine And.intro rfl ?_ | refine And.intro (incD (by omega)) ?_)) (by repeat ((conv => whnf); first | exact trivial | refine And.intro rfl ?_ | refine And.intro (incD (by omega)) ?_)))
    · have h2 := of_decide_eq_false h2
      try simp only at h2
      have hmin : ∀ c, 0 < c → c < n → (c - 1) / 2 = i' → ¬ lt (ix l' c) (ix l' (2 * i' + 1)) := by
        intro c h0 hc hpar
        have : c = 2 * i' + 1 := by omega
        subst this; exact lt_irrefl _
      conv => whnf
      refine callTc [0, 1, 2] (less_tri l' mp' (2 * i' + 1) i' (by omega) (by omega)) (invTo rfl rfl rfl mLess) rfl ⟨rfl, rfl, rfl, trivial⟩ rfl ?_
      rintro o' H' ⟨rfl, rfl⟩
      conv => whnf
      refine And.intro (fun h4 => ?_) (fun h4 => ?_)
      · rw [ord_lt] at h4
        have h4 : ¬ lt (ix l' (2 * i' + 1)) (ix l' i') := by simpa using h4
        conv => whnf
        exact dn_end hk (dn_stop (i := i') hd fun c h0 hc hpar => by unfold pok; rw [hpar]; exact le_trans h4 (hmin c h0 hc hpar)) hi0 hi1 hi2
      · rw [ord_lt] at h4
        have h4 : lt (ix l' (2 * i' + 1)) (ix l' i') := by simpa using h4
        conv => whnf
        refine callTc [0, 1, 2] (swap_tri l' mp' i' (2 * i' + 1) (by omega) (by omega)) (invTo rfl rfl rfl mSwap) rfl ⟨rfl, rfl, rfl, trivial⟩ rfl ?_
        rintro o' H' ⟨rfl, rfl⟩
        conv => whnf
        have hs := dn_step hd (j := 2 * i' + 1) (by omega) (by omega) (by omega) (by omega) hmin h4
        exact again (swp l' i' (2 * i' + 1), swpM l' mp' i' (2 * i' + 1), 2 * i' + 1) (by simp only; omega) ⟨hk.swap (by omega) (by omega) hn, hs.1, by simp only; omega, by simp only; omega, fun h => by simp only at h; omega, fun _ => ⟨by simp only; omega, hs.2⟩⟩ (weak_of rfl (by repeat ((conv => whnf); first | exact trivial | refine And.intro rfl ?_ | refine And.intro (incD (by omega)) ?_)) (by repeat ((conv => whnf); first | exact trivial | refine And.intro rfl ?_ | refine And.intro (incD (by omega)) ?_)))
  · have h1 := of_decide_eq_true h1
    try simp only at h1
    conv => whnf
    exact dn_end hk (dn_stop (i := i') hd fun c h0 hc hpar => by omega) hi0 hi1 hi2
end Go.Proofs.Ytohhchcjfebkhaa

/- container/heap: Push, Pop, Fix, Remove. -/
namespace Go.Proofs.Ytohhchcjfebkhaa
open Go.Vx Go.Vc Go.RowKit

/-- A queue's list and its places: as they are to be. -/
structure QOk (l : List It) (mp : ByteArray → Option Int) : Prop where
  m : PlaceOk l mp
  h : Heap l l.length
/-- A call that leaves a queue with these items. -/
def QPost (ok : Out → Prop) (m : List It → Prop) (o : Out) (H' : Hp) : Prop := ok o ∧ ∃ l' mp', H' = qH l' mp' ∧ m l' ∧ QOk l' mp'
theorem dec_eq {n : Nat} (h : n + 1 < 4611686018427387904) : IntKind.i64.wrap (((n + 1 : Nat) : Int) - 1) = (n : Int) := by
  rw [Go.Vc.wrap_small (by omega) (by omega)]; omega
theorem take_ix {l : List It} {n : Nat} (h : l.length = n + 1) : l.take n ++ [ix l n] = l := by
  rw [ix_get (by omega)]
  conv => rhs; rw [← List.take_append_drop n l]
  rw [List.drop_eq_getElem_cons (by omega), List.drop_eq_nil_of_le (by omega)]

theorem hpush_tri (l : List It) (mp) (x : It) (hl : (l ++ [x]).length * 24 ≤ LB) (hq : QOk l mp) (hx : mp x.2 = none) :
    Tri Try.prog G0 36 3 0 [.ifc 67 (.own 0 0), .d (.ifc 30 (dIt x))] (qH l mp) (QPost (· = .ret (.tup [])) (fun l' => l'.Perm (l ++ [x]))) := by
  refine tri_of_vc txok mixed [] [] Try.func36 rfl rfl (by simp) fun b => ?_
  conv => whnf
  refine callTc [0, 1, 2] (push_tri l mp x hl) (invTo rfl rfl rfl mPush) rfl ⟨rfl, rfl, rfl, trivial⟩ rfl ?_
  rintro o' H' ⟨rfl, rfl⟩
  conv => whnf
  refine callTc [0, 1, 2] (len_tri (l ++ [x]) _) (invTo rfl rfl rfl mLen) rfl ⟨rfl, rfl, rfl, trivial⟩ rfl ?_
  rintro o' H' ⟨rfl, rfl⟩
  have e0 : (l ++ [x]).length = l.length + 1 := by simp
  have e := dec_eq (n := l.length) (by simp only [LB] at hl; omega)
  rw [← e0] at e
  conv => whnf
  rw [e]
  have hu := heap_push hq.h x
  rw [← e0] at hu
  refine callT [0, 1, 2] (up_tri (l ++ [x]) (updM mp x.2 l.length) l.length _ (by omega) (Nat.le_refl _) hl hu (hq.m.push hx)) gf51 rfl rfl ⟨rfl, rfl, rfl, trivial⟩ rfl ?_
  rintro o' H' ⟨rfl, l', mp', rfl, hk, hh⟩
  conv => whnf
  exact ⟨rfl, l', mp', rfl, hk.p, hk.m, by rw [hk.len]; exact hh⟩
/-- Behind the last step of Pop and of Remove. -/
theorem cut_ok {l l1 l2 : List It} {mp2} {n : Nat} {y : It} (h0 : l.length = n + 1) (h1 : l1.Perm l) (hk : Kpt l1 n l2 mp2) (hh : Heap l2 n) (hy : ix l1 n = y) :
    (l2.take n ++ [y]).Perm l ∧ QOk (l2.take n) (delM mp2 (ix l2 n).2) := by
  have e1 : l2.length = n + 1 := by rw [hk.len, h1.length_eq, h0]
  refine ⟨?_, hk.m.pop e1, ?_⟩
  · rw [← hy, ← hk.c n (Nat.le_refl _), take_ix e1]; exact hk.p.trans h1
  · rw [show (l2.take n).length = n from by simp; omega]
    exact heap_same hh fun c hc => ix_take hc
theorem hpop_tri (l : List It) (mp) (hl : l.length * 24 ≤ LB) (hq : QOk l mp) (h0 : 0 < l.length) :
    Tri Try.prog G0 31 3 0 [.ifc 67 (.own 0 0)] (qH l mp) (QPost (fun o => ∃ x : It, o = .ret (.ifc 30 (.agg [.d (.int .i64 x.1), .d (.str x.2)]))) (fun l' => (l' ++ [ix l 0]).Perm l)) := by
  obtain ⟨n, hn⟩ : ∃ n, l.length = n + 1 := ⟨l.length - 1, by omega⟩
  refine tri_of_vc txok mixed [] [] Try.func31 rfl rfl (by simp) fun b => ?_
  conv => whnf
  refine callTc [0, 1, 2] (len_tri l mp) (invTo rfl rfl rfl mLen) rfl ⟨rfl, rfl, rfl, trivial⟩ rfl ?_
  rintro o' H' ⟨rfl, rfl⟩
  have e := dec_eq (n := n) (by simp only [LB] at hl; omega)
  rw [← hn] at e
  conv => whnf
  rw [e]
  refine callTc [0, 1, 2] (swap_tri l mp 0 n (by omega) (by omega)) (invTo rfl rfl rfl mSwap) rfl ⟨rfl, rfl, rfl, trivial⟩ rfl ?_
  rintro o' H' ⟨rfl, rfl⟩
  conv => whnf
  have hsl := swp_len l 0 n
  have hd : DnInv (swp l 0 n) 0 n := by
    refine ⟨fun c h0 hc hne hpne => ?_, fun h => by omega⟩
    unfold pok
    rw [ix_swp3 (by omega) (by omega) (by omega) (by omega), ix_swp3 (by omega) (by omega) hpne (by omega)]
    exact hq.h c h0 (by omega)
  refine callT [0, 1, 2] (down_tri (swp l 0 n) (swpM l mp 0 n) 0 n (by omega) (by omega) (by rw [hsl]; exact hl) hd (hq.m.swp (by omega) (by omega))) gf49 rfl rfl ⟨rfl, rfl, rfl, trivial⟩ rfl ?_
  rintro o' H' ⟨l2, mp2, mv, rfl, rfl, hk, ht, hf⟩
  have hh : Heap l2 n := by
    cases mv with
    | true => exact ht rfl
    | false => obtain ⟨rfl, rfl, hu⟩ := hf rfl; exact up_done hu (.inl rfl)
  conv => whnf
  have e2 : l2.length = n + 1 := by rw [hk.len, hsl, hn]
  refine callTc [0, 1, 2] (pop_tri l2 mp2 n e2 (by rw [e2, ← hn]; exact hl)) (invTo rfl rfl rfl mPop) rfl ⟨rfl, rfl, rfl, trivial⟩ rfl ?_
  rintro o' H' ⟨rfl, rfl⟩
  conv => whnf
  have hc := cut_ok (y := ix l 0) hn (swp_perm (by omega) (by omega)) hk hh (ix_swp2 (by omega) (by omega))
  exact ⟨⟨_, rfl⟩, _, _, rfl, hc.1, hc.2⟩
theorem hfix_tri (l : List It) (mp) (i : Nat) (hl : l.length * 24 ≤ LB) (hi : i < l.length) (hd : DnInv l i l.length) (hp : PlaceOk l mp) :
    Tri Try.prog G0 34 3 0 [.ifc 67 (.own 0 0), .d (.int .i64 i)] (qH l mp) (QPost (· = .ret (.tup [])) (fun l' => l'.Perm l)) := by
  refine tri_of_vc txok mixed [] [] Try.func34 rfl rfl (by simp) fun b => ?_
  conv => whnf
  refine callTc [0, 1, 2] (len_tri l mp) (invTo rfl rfl rfl mLen) rfl ⟨rfl, rfl, rfl, trivial⟩ rfl ?_
  rintro o' H' ⟨rfl, rfl⟩
  conv => whnf
  refine callT [0, 1, 2] (down_tri l mp i l.length (by omega) (Nat.le_refl _) hl hd hp) gf49 rfl rfl ⟨rfl, rfl, rfl, trivial⟩ rfl ?_
  rintro o' H' ⟨l2, mp2, mv, rfl, rfl, hk, ht, hf⟩
  conv => whnf
  refine And.intro (fun h => ?_) (fun h => ?_)
  · have h : mv = false := by simpa using h
    obtain ⟨rfl, rfl, hu⟩ := hf h
    conv => whnf
    refine callT [0, 1, 2] (up_tri l2 mp2 i l2.length hi (Nat.le_refl _) hl hu hp) gf51 rfl rfl ⟨rfl, rfl, rfl, trivial⟩ rfl ?_
    rintro o' H' ⟨rfl, l', mp', rfl, hk', hh⟩
    conv => whnf
    exact ⟨rfl, l', mp', rfl, hk'.p, hk'.m, by rw [hk'.len]; exact hh⟩
  · have h : mv = true := by simpa using h
    conv => whnf
    exact ⟨rfl, l2, mp2, rfl, hk.p, hk.m, by rw [hk.len]; exact ht h⟩
theorem hremove_tri (l : List It) (mp) (i : Nat) (hl : l.length * 24 ≤ LB) (hq : QOk l mp) (hi : i < l.length) :
    Tri Try.prog G0 35 3 0 [.ifc 67 (.own 0 0), .d (.int .i64 i)] (qH l mp) (QPost (fun o => ∃ x : It, o = .ret (.ifc 30 (.agg [.d (.int .i64 x.1), .d (.str x.2)]))) (fun l' => (l' ++ [ix l i]).Perm l)) := by
  obtain ⟨n, hn⟩ : ∃ n, l.length = n + 1 := ⟨l.length - 1, by omega⟩
  refine tri_of_vc txok mixed [] [] Try.func35 rfl rfl (by simp) fun b => ?_
  conv => whnf
  refine callTc [0, 1, 2] (len_tri l mp) (invTo rfl rfl rfl mLen) rfl ⟨rfl, rfl, rfl, trivial⟩ rfl ?_
  rintro o' H' ⟨rfl, rfl⟩
  have e := dec_eq (n := n) (by simp only [LB] at hl; omega)
  rw [← hn] at e
  conv => whnf
  rw [e]
  refine And.intro (fun h => ?_) (fun h => ?_)
  · have hne : n ≠ i := by intro h'; rw [h'] at h; simp at h
    conv => whnf
    refine callTc [0, 1, 2] (swap_tri l mp i n (by omega) (by omega)) (invTo rfl rfl rfl mSwap) rfl ⟨rfl, rfl, rfl, trivial⟩ rfl ?_
    rintro o' H' ⟨rfl, rfl⟩
    conv => whnf
    have hsl := swp_len l i n
    have hh0 := hq.h
    rw [hn] at hh0
    have hd : DnInv (swp l i n) i n := heap_cut hh0 (by omega) fun c hc hne => ix_swp3 (by omega) (by omega) hne (by omega)
    refine callT [0, 1, 2] (down_tri (swp l i n) (swpM l mp i n) i n (by omega) (by omega) (by rw [hsl]; exact hl) hd (hq.m.swp (by omega) (by omega))) gf49 rfl rfl ⟨rfl, rfl, rfl, trivial⟩ rfl ?_
    rintro o' H' ⟨l2, mp2, mv, rfl, rfl, hk, ht, hf⟩
    have e2 : l2.length = n + 1 := by rw [hk.len, hsl, hn]
    conv => whnf
    refine And.intro (fun h => ?_) (fun h => ?_)
    · have h : mv = false := by simpa using h
      obtain ⟨rfl, rfl, hu⟩ := hf h
      conv => whnf
      refine callT [0, 1, 2] (up_tri (swp l i n) (swpM l mp i n) i n (by omega) (by omega) (by rw [hsl]; exact hl) hu (hq.m.swp (by omega) (by omega))) gf51 rfl rfl ⟨rfl, rfl, rfl, trivial⟩ rfl ?_
      rintro o' H' ⟨rfl, l3, mp3, rfl, hk', hh⟩
      have e3 : l3.length = n + 1 := by rw [hk'.len, hsl, hn]
      conv => whnf
      refine callTc [0, 1, 2] (pop_tri l3 mp3 n e3 (by rw [e3, ← hn]; exact hl)) (invTo rfl rfl rfl mPop) rfl ⟨rfl, rfl, rfl, trivial⟩ rfl ?_
      rintro o' H' ⟨rfl, rfl⟩
      conv => whnf
      have hc := cut_ok (y := ix l i) hn (swp_perm (by omega) (by omega)) hk' hh (ix_swp2 (by omega) (by omega))
      exact ⟨⟨_, rfl⟩, _, _, rfl, hc.1, hc.2⟩
    · have h : mv = true := by simpa using h
      conv => whnf
      refine callTc [0, 1, 2] (pop_tri l2 mp2 n e2 (by rw [e2, ← hn]; exact hl)) (invTo rfl rfl rfl mPop) rfl ⟨rfl, rfl, rfl, trivial⟩ rfl ?_
      rintro o' H' ⟨rfl, rfl⟩
      conv => whnf
      have hc := cut_ok (y := ix l i) hn (swp_perm (by omega) (by omega)) hk (ht h) (ix_swp2 (by omega) (by omega))
      exact ⟨⟨_, rfl⟩, _, _, rfl, hc.1, hc.2⟩
  · have hne : n = i := by simp at h; omega
    subst hne
    conv => whnf
    refine callTc [0, 1, 2] (pop_tri l mp n hn hl) (invTo rfl rfl rfl mPop) rfl ⟨rfl, rfl, rfl, trivial⟩ rfl ?_
    rintro o' H' ⟨rfl, rfl⟩
    conv => whnf
    have hc := cut_ok (y := ix l n) hn (.refl l) (.refl n hq.m) (fun c h0 hc => hq.h c h0 (by omega)) rfl
    exact ⟨⟨_, rfl⟩, _, _, rfl, hc.1, hc.2⟩
end Go.Proofs.Ytohhchcjfebkhaa

/- The queue's methods. -/
namespace Go.Proofs.Ytohhchcjfebkhaa
open Go.Vx Go.Vc Go.RowKit

theorem qlen_tri (l : List It) (mp) : Tri Try.prog G0 12 3 0 [.own 0 0] (qH l mp) (qR (.d (.int .i64 l.length)) l mp) := by
  refine tri_of_vc txok mixed [] [] Try.func12 rfl rfl (by simp) fun b => ?_
  conv => whnf
  refine callT [0, 1, 2] (len_tri l mp) gf29 rfl rfl ⟨rfl, rfl, rfl, trivial⟩ rfl ?_
  rintro o' H' ⟨rfl, rfl⟩
  conv => whnf
  exact ⟨rfl, rfl⟩
abbrev svIt (x : It) : Go.Vx.SV := .agg [.d (.int .i64 x.1), .d (.str x.2)]
/-- What Peek and Pop say. -/
def PkR (l : List It) (o : Out) : Prop := (l.length = 0 ∧ o = .ret (.tup [svIt (0, .empty), .kb false])) ∨ (0 < l.length ∧ o = .ret (.tup [svIt (ix l 0), .kb true]))
theorem peek_tri (l : List It) (mp) : Tri Try.prog G0 30 3 0 [.own 0 0] (qH l mp) (fun o H' => PkR l o ∧ H' = qH l mp) := by
  refine tri_of_vc txok mixed [] [] Try.func30 rfl rfl (by simp) fun b => ?_
  conv => whnf
  refine callT [0, 1, 2] (qlen_tri l mp) gf12 rfl rfl ⟨rfl, rfl, rfl, trivial⟩ rfl ?_
  rintro o' H' ⟨rfl, rfl⟩
  conv => whnf
  refine And.intro (fun h => ?_) (fun h => ?_)
  · have h : l.length = 0 := by have := eq_of_beq h; omega
    conv => whnf
    exact ⟨.inl ⟨h, rfl⟩, rfl⟩
  · have h : l.length ≠ 0 := by have := ne_of_beq_false h; omega
    conv => whnf
    refine ⟨0, rfl, by omega, ?_⟩
    conv => whnf
    refine ⟨encIt (ix l 0), encX_at l 0 (by omega), rfl, ?_⟩
    conv => whnf
    exact ⟨.inr ⟨by omega, rfl⟩, rfl⟩
/-- What Rank says. -/
def RkR (l : List It) (mp : ByteArray → Option Int) (s : ByteArray) (o : Out) : Prop := (mp s = none ∧ o = .ret (.tup [.d (.int .i64 0), .kb false])) ∨ (∃ i : Nat, i < l.length ∧ mp s = some (i : Int) ∧ (ix l i).2 = s ∧ o = .ret (.tup [.d (.int .i64 (ix l i).1), .kb true]))
theorem encX_rank (l : List It) (i : Nat) (hi : i < l.length) : (encQ l)[i * 2]? = some (.int .i64 (ix l i).1) := by
  have h := encX_at l i hi
  have h2 : (((encQ l).drop (i * 2)).take 2)[0]? = some (.int .i64 (ix l i).1) := by rw [h]; rfl
  rwa [List.getElem?_take_of_lt (by omega), List.getElem?_drop] at h2
theorem rank_tri (l : List It) (mp) (s : ByteArray) (hp : PlaceOk l mp) : Tri Try.prog G0 33 3 0 [.own 0 0, .d (.str s)] (qH l mp) (fun o H' => RkR l mp s o ∧ H' = qH l mp) := by
  refine tri_of_vc txok mixed [] [] Try.func33 rfl rfl (by simp) fun b => ?_
  conv => whnf
  cases hm : mp s with
  | none =>
    refine lkpC mapTy 0 false (by exact rfl) (by exact rfl) (by exact rfl) (by exact rfl) (by rw [hm]; rfl) (by rw [hm]; rfl) ?_
    conv => whnf
    refine And.intro (fun h => ?_) (fun h => ?_)
    · conv => whnf
      exact ⟨.inl ⟨hm, rfl⟩, rfl⟩
    · cases h
  | some j =>
    obtain ⟨i, rfl, hi, hs⟩ := (hp s j).1 hm
    refine lkpC mapTy i true (by exact rfl) (by exact rfl) (by exact rfl) (by exact rfl) (by rw [hm]; rfl) (by rw [hm]; rfl) ?_
    conv => whnf
    refine And.intro (fun h => ?_) (fun h => ?_)
    · cases h
    · conv => whnf
      refine ⟨i, rfl, hi, ?_⟩
      conv => whnf
      refine ⟨.int .i64 (ix l i).1, encX_rank l i hi, ?_⟩
      conv => whnf
      exact ⟨.inr ⟨i, hi, hm, hs, rfl⟩, rfl⟩
theorem qpush_tri (l : List It) (mp) (x : It) (hl : (l ++ [x]).length * 24 ≤ LB) (hq : QOk l mp) : Tri Try.prog G0 19 3 0 [.own 0 0, .d (dIt x)] (qH l mp)
    (fun o H' => (x.2 ∈ l.map (·.2) ∧ o = .ret (.kb false) ∧ H' = qH l mp) ∨ (x.2 ∉ l.map (·.2) ∧ QPost (· = .ret (.kb true)) (fun l' => l'.Perm (l ++ [x])) o H')) := by
  refine tri_of_vc txok mixed [] [(3, .pure 0 (.pure 1 (.pure 2 (.pure 3 (.take 4 (.pure 5 (.take 6 (.fin 7 (.pure 8 (.pure 9 (.pure 10 (.pure 11 (.pure 12 .done))))))))))))), (6, .pure 0 (.pure 1 (.pure 2 (.pure 3 (.take 4 (.pure 5 (.fin 6 .done)))))))] Try.func19 rfl rfl (by simp) fun b => ?_
  conv => whnf
  refine And.intro (by kernel_rfl) ?_
  conv => whnf
  cases hm : mp x.2 with
  | none =>
    refine lkpC mapTy 0 false (by exact rfl) (by exact rfl) (by exact rfl) (by exact rfl) (by rw [hm]; rfl) (by rw [hm]; rfl) ?_
    conv => whnf
    refine And.intro (fun h => by cases h) (fun _ => ?_)
    conv => whnf
    refine And.intro (by kernel_rfl) ?_
    conv => whnf
    refine callT [0, 1, 2] (hpush_tri l mp x hl hq hm) gf36 rfl rfl ⟨rfl, rfl, rfl, trivial⟩ rfl ?_
    rintro o' H' ⟨rfl, l', mp', rfl, hp, hq'⟩
    conv => whnf
    exact .inr ⟨hq.m.none_iff.1 hm, rfl, l', mp', rfl, hp, hq'⟩
  | some j =>
    refine lkpC mapTy j true (by exact rfl) (by exact rfl) (by exact rfl) (by exact rfl) (by rw [hm]; rfl) (by rw [hm]; rfl) ?_
    conv => whnf
    refine And.intro (fun _ => ?_) (fun h => by cases h)
    conv => whnf
    refine .inl ⟨?_, rfl, rfl⟩
    obtain ⟨i, rfl, hi, hs⟩ := (hq.m _ j).1 hm
    exact List.mem_map.2 ⟨_, ix_mem.2 ⟨i, hi, rfl⟩, hs⟩
theorem qpop_tri (l : List It) (mp) (hl : l.length * 24 ≤ LB) (hq : QOk l mp) : Tri Try.prog G0 13 3 0 [.own 0 0] (qH l mp)
    (fun o H' => PkR l o ∧ ((l.length = 0 ∧ H' = qH l mp) ∨ (0 < l.length ∧ ∃ l' mp', H' = qH l' mp' ∧ (l' ++ [ix l 0]).Perm l ∧ QOk l' mp'))) := by
  refine tri_of_vc txok mixed [] [] Try.func13 rfl rfl (by simp) fun b => ?_
  conv => whnf
  refine callT [0, 1, 2] (peek_tri l mp) gf30 rfl rfl ⟨rfl, rfl, rfl, trivial⟩ rfl ?_
  rintro o' H' ⟨⟨h0, rfl⟩ | ⟨h0, rfl⟩, rfl⟩
  · conv => whnf
    exact ⟨.inl ⟨h0, rfl⟩, .inl ⟨h0, rfl⟩⟩
  · conv => whnf
    refine callT [0, 1, 2] (hpop_tri l mp hl hq h0) gf31 rfl rfl ⟨rfl, rfl, rfl, trivial⟩ rfl ?_
    rintro o' H' ⟨⟨x, rfl⟩, l', mp', rfl, hp, hq'⟩
    conv => whnf
    exact ⟨.inr ⟨h0, rfl⟩, .inr ⟨h0, l', mp', rfl, hp, hq'⟩⟩
theorem encX_setRank (l : List It) (i : Nat) (hi : i < l.length) (n : Int) : ovl (encQ l) (i * 2) [.int .i64 n] = encQ (l.set i (n, (ix l i).2)) := by
  rw [← encX_set l i hi]
  unfold ovl encIt
  have h2 := encX_name l i hi
  have hb := encX_bd l i hi
  simp only [List.length_cons, List.length_nil]
  rw [show i * 2 + (0 + 1) = i * 2 + 1 from by omega, show i * 2 + (0 + 1 + 1) = i * 2 + 1 + 1 from by omega, List.drop_eq_getElem_cons (show i * 2 + 1 < (encQ l).length by omega)]
  rw [List.getElem?_eq_getElem (by omega)] at h2
  injection h2 with h2
  rw [h2]
  simp
/-- What Move leaves. -/
theorem qmove_tri (l : List It) (mp) (s : ByteArray) (n : Int) (hl : l.length * 24 ≤ LB) (hq : QOk l mp) : Tri Try.prog G0 17 3 0 [.own 0 0, .d (.str s), .d (.int .i64 n)] (qH l mp)
    (fun o H' => (s ∉ l.map (·.2) ∧ o = .ret (.kb false) ∧ H' = qH l mp) ∨ (∃ i, i < l.length ∧ (ix l i).2 = s ∧ QPost (· = .ret (.kb true)) (fun l' => l'.Perm (l.set i (n, s))) o H')) := by
  refine tri_of_vc txok mixed [] [] Try.func17 rfl rfl (by simp) fun b => ?_
  conv => whnf
  refine callT [0, 1, 2] (rank_tri l mp s hq.m) gf33 rfl rfl ⟨rfl, rfl, rfl, trivial⟩ rfl ?_
  rintro o' H' ⟨⟨hm, rfl⟩ | ⟨i, hi, hm, hs, rfl⟩, rfl⟩
  · conv => whnf
    exact .inl ⟨hq.m.none_iff.1 hm, rfl, rfl⟩
  · conv => whnf
    refine lk1C mapTy i (by exact rfl) (by exact rfl) (by exact rfl) (by exact rfl) (by rw [hm]; rfl) ?_
    conv => whnf
    refine ⟨i, rfl, hi, ?_⟩
    conv => whnf
    refine ⟨encQ (l.set i (n, s)), ?_, ?_, ?_⟩
    · show i * 2 + 1 ≤ (encQ l).length
      have := encX_bd l i hi; omega
    · rw [← hs]; exact encX_setRank l i hi n
    conv => whnf
    have hd := heap_set hq.h hi (Nat.le_refl _) (n, s)
    have hset : (l.set i (n, s)).length = l.length := by simp
    have hf := hfix_tri (l.set i (n, s)) mp i (by rw [hset]; exact hl) (by rw [hset]; exact hi) (by rw [hset]; exact hd) (hq.m.set hi hs.symm)
    unfold qH at hf
    rw [hset] at hf
    refine callT [0, 1, 2] hf gf34 rfl rfl ⟨rfl, rfl, rfl, trivial⟩ rfl ?_
    rintro o' H' ⟨rfl, l', mp', rfl, hp, hq'⟩
    conv => whnf
    exact .inr ⟨i, hi, hs, rfl, l', mp', rfl, hp, hq'⟩
theorem qremove_tri (l : List It) (mp) (s : ByteArray) (hl : l.length * 24 ≤ LB) (hq : QOk l mp) : Tri Try.prog G0 18 3 0 [.own 0 0, .d (.str s)] (qH l mp)
    (fun o H' => (s ∉ l.map (·.2) ∧ o = .ret (.kb false) ∧ H' = qH l mp) ∨ (∃ i, i < l.length ∧ (ix l i).2 = s ∧ QPost (· = .ret (.kb true)) (fun l' => (l' ++ [ix l i]).Perm l) o H')) := by
  refine tri_of_vc txok mixed [] [(4, .pure 0 (.pure 1 (.pure 2 (.pure 3 (.pure 4 (.pure 5 (.pure 6 (.pure 7 (.take 8 (.pure 9 (.fin 10 (.fin 11 .done))))))))))))] Try.func18 rfl rfl (by simp) fun b => ?_
  conv => whnf
  refine callT [0, 1, 2] (rank_tri l mp s hq.m) gf33 rfl rfl ⟨rfl, rfl, rfl, trivial⟩ rfl ?_
  rintro o' H' ⟨⟨hm, rfl⟩ | ⟨i, hi, hm, hs, rfl⟩, rfl⟩
  · conv => whnf
    exact .inl ⟨hq.m.none_iff.1 hm, rfl, rfl⟩
  · conv => whnf
    refine And.intro (by kernel_rfl) ?_
    conv => whnf
    refine lk1C mapTy i (by exact rfl) (by exact rfl) (by exact rfl) (by exact rfl) (by rw [hm]; rfl) ?_
    conv => whnf
    refine callT [0, 1, 2] (hremove_tri l mp i hl hq hi) gf35 rfl rfl ⟨rfl, rfl, rfl, trivial⟩ rfl ?_
    rintro o' H' ⟨⟨x, rfl⟩, l', mp', rfl, hp, hq'⟩
    conv => whnf
    exact .inr ⟨i, hi, hs, rfl, l', mp', rfl, hp, hq'⟩
end Go.Proofs.Ytohhchcjfebkhaa

/- New, Clone. -/
namespace Go.Proofs.Ytohhchcjfebkhaa
open Go.Vx Go.Vc Go.RowKit

instance : LawfulBEq ByteArray := { eq_of_beq := fun h => beqB.1 h, rfl := beqB.2 rfl }
/-- An item put in, unless its name waits. -/
def addQ (acc : List It) (x : It) : List It := if x.2 ∈ acc.map (·.2) then acc else acc ++ [x]
def newQ (l : List It) : List It := l.foldl addQ []
theorem addQ_perm {l m : List It} (h : l.Perm m) (x : It) : (addQ l x).Perm (addQ m x) := by
  unfold addQ
  have : x.2 ∈ l.map (·.2) ↔ x.2 ∈ m.map (·.2) := (h.map _).mem_iff
  by_cases h1 : x.2 ∈ l.map (·.2)
  · rw [if_pos h1, if_pos (this.1 h1)]; exact h
  · rw [if_neg h1, if_neg (mt this.2 h1)]; exact h.append (.refl _)
theorem addQ_len (l : List It) (x : It) : (addQ l x).length ≤ l.length + 1 := by unfold addQ; split <;> simp
theorem newQ_succ {l : List It} {i : Nat} (h : i < l.length) : newQ (l.take (i + 1)) = addQ (newQ (l.take i)) l[i] := by
  unfold newQ
  rw [List.take_succ_eq_append_getElem h, List.foldl_append]; rfl
theorem newQ_len (l : List It) : (newQ l).length ≤ l.length := by
  have : ∀ (l : List It) acc, (l.foldl addQ acc).length ≤ acc.length + l.length := by
    intro l
    induction l with
    | nil => intro acc; simp
    | cons x r ih => intro acc; have h1 := ih (addQ acc x); have h2 := addQ_len acc x; simp only [List.foldl_cons, List.length_cons] at *; omega
  simpa [newQ] using this l []
theorem QOk.nil : QOk [] (fun _ => none) := ⟨.nil, fun c _ h => by simp at h⟩
theorem new_tri (l : List It) : Tri Try.prog G0 9 0 3 [.d (dQ l)] [] (QPost (· = .ret (.own 0 0)) (fun l' => l'.Perm (newQ l))) := by
  refine tri_sz fun hs => ?_
  have hl := (szOk_sl (hs (.d (dQ l)) (by simp))).1
  simp only [LB] at hl
  refine tri_of_vc txok mixed [1, 2, 0] [] Try.func9 rfl rfl (by simp) fun b => ?_
  conv => whnf
  refine mkMapC mapTy (by exact rfl) ?_
  conv => whnf
  refine loopH (fun x : List It × (ByteArray → Option Int) × Nat => x.2.2 ≤ l.length ∧ QOk x.1 x.2.1 ∧ x.1.Perm (newQ (l.take x.2.2))) (fun x => l.length - x.2.2) (fun x => [(12, .d (.int .i64 x.2.2))]) (fun x => [(1, .blk 60 [.row 2, .nm 0]), (2, .row 30 24 2 x.1.length (encQ x.1)), (0, .ab (MapIs x.2.1))]) 3 ([], fun _ => none, 0) ⟨by simp, .nil, by simp [newQ]⟩ (Weak.trans (weak_nlC 1 0 30 24 2 rfl rfl) (weak_of rfl (by repeat ((conv => whnf); first | exact trivial | refine And.intro rfl ?_ | refine And.intro (incD (by omega)) ?_)) (by repeat ((conv => whnf); first | exact trivial | refine And.intro rfl ?_ | refine And.intro (incD (by omega)) ?_)))) ?_
  rintro ⟨l', mp', i⟩ ⟨hi, hq, hp⟩
  simp only at hi hq hp
  have hbig : (l', mp', i).2.2 < 9223372036854775807 := by show i < _; omega
  conv => whnf
  refine And.intro (fun hb => ?_) (fun hb => ?_)
  · have hb : (i : Int) < (l.length : Int) := of_decide_eq_true hb
    have hil : i < l.length := by omega
    have hpl : l'.length ≤ i := by rw [hp.length_eq]; exact Nat.le_trans (newQ_len _) (by simp; omega)
    conv => whnf
    refine IdxC.encQ i hil rfl ?_
    conv => whnf
    refine callT [1, 2, 0] (qpush_tri l' mp' l[i] (by simp only [LB, List.length_append, List.length_singleton]; omega) hq) gf19 rfl rfl ⟨rfl, rfl, rfl, trivial⟩ rfl ?_
    rintro o' H' (⟨hin, rfl, rfl⟩ | ⟨hin, rfl, l2, mp2, rfl, hp2, hq2⟩)
    · have hin' : l[i].2 ∈ (newQ (l.take i)).map (·.2) := (hp.map _).mem_iff.1 hin
      conv => whnf
      exact again (l', mp', i + 1) (by simp only; omega) ⟨hil, hq, by rw [newQ_succ hil, addQ, if_pos hin']; exact hp⟩ (weak_of rfl (by repeat ((conv => whnf); first | exact trivial | refine And.intro rfl ?_ | refine And.intro (incD (by omega)) ?_)) (by repeat ((conv => whnf); first | exact trivial | refine And.intro rfl ?_ | refine And.intro (incD (by omega)) ?_)))
    · have hin' : l[i].2 ∉ (newQ (l.take i)).map (·.2) := mt (hp.map _).mem_iff.2 hin
      conv => whnf
      exact again (l2, mp2, i + 1) (by simp only; omega) ⟨hil, hq2, by rw [newQ_succ hil, addQ, if_neg hin']; exact hp2.trans (hp.append (.refl _))⟩ (weak_of rfl (by repeat ((conv => whnf); first | exact trivial | refine And.intro rfl ?_ | refine And.intro (incD (by omega)) ?_)) (by repeat ((conv => whnf); first | exact trivial | refine And.intro rfl ?_ | refine And.intro (incD (by omega)) ?_)))
  · have hb : ¬ (i : Int) < (l.length : Int) := of_decide_eq_false hb
    have e : i = l.length := by omega
    subst e
    rw [List.take_length] at hp
    conv => whnf
    exact ⟨rfl, l', mp', rfl, hp, hq⟩
/-- A queue's objects, at other numbers. -/
abbrev qA (a c d : Nat) (l : List It) (mp : ByteArray → Option Int) : Hp := [(a, .blk 60 [.row c, .nm d]), (c, .row 30 24 2 l.length (encQ l)), (d, .ab (MapIs mp))]
/-- New, of a queue's own items. -/
theorem newR_tri (l : List It) (mp) (hl : l.length * 24 ≤ LB) : Tri Try.prog G0 9 3 3 [.row 1] (qH l mp) (fun o H' => o = .ret (.own 3 0) ∧ ∃ l' mp', H' = qH l mp ++ qA 3 4 5 l' mp' ∧ l'.Perm (newQ l) ∧ QOk l' mp') := by
  simp only [LB] at hl
  refine tri_of_vc txok mixed [4, 5, 3] [] Try.func9 rfl rfl (by simp) fun b => ?_
  conv => whnf
  refine mkMapC mapTy (by exact rfl) ?_
  conv => whnf
  refine loopH (fun x : List It × (ByteArray → Option Int) × Nat => x.2.2 ≤ l.length ∧ QOk x.1 x.2.1 ∧ x.1.Perm (newQ (l.take x.2.2))) (fun x => l.length - x.2.2) (fun x => [(12, .d (.int .i64 x.2.2))]) (fun x => qH l mp ++ [(4, .blk 60 [.row 5, .nm 3]), (5, .row 30 24 2 x.1.length (encQ x.1)), (3, .ab (MapIs x.2.1))]) 6 ([], fun _ => none, 0) ⟨by simp, .nil, by simp [newQ]⟩ (Weak.trans (weak_nlC 4 0 30 24 2 rfl rfl) (weak_of rfl (by repeat ((conv => whnf); first | exact trivial | refine And.intro rfl ?_ | refine And.intro (incD (by omega)) ?_)) (by repeat ((conv => whnf); first | exact trivial | refine And.intro rfl ?_ | refine And.intro (incD (by omega)) ?_)))) ?_
  rintro ⟨l', mp', i⟩ ⟨hi, hq, hp⟩
  simp only at hi hq hp
  have hbig : (l', mp', i).2.2 < 9223372036854775807 := by show i < _; omega
  conv => whnf
  refine And.intro (fun hb => ?_) (fun hb => ?_)
  · have hb : (i : Int) < (l.length : Int) := of_decide_eq_true hb
    have hil : i < l.length := by omega
    have hpl : l'.length ≤ i := by rw [hp.length_eq]; exact Nat.le_trans (newQ_len _) (by simp; omega)
    conv => whnf
    refine ⟨i, rfl, hil, ?_⟩
    conv => whnf
    refine ⟨encIt l[i], encQ_at l i hil, rfl, ?_⟩
    conv => whnf
    refine callT [4, 5, 3] (qpush_tri l' mp' l[i] (by simp only [LB, List.length_append, List.length_singleton]; omega) hq) gf19 rfl rfl ⟨rfl, rfl, rfl, trivial⟩ rfl ?_
    rintro o' H' (⟨hin, rfl, rfl⟩ | ⟨hin, rfl, l2, mp2, rfl, hp2, hq2⟩)
    · have hin' : l[i].2 ∈ (newQ (l.take i)).map (·.2) := (hp.map _).mem_iff.1 hin
      conv => whnf
      exact again (l', mp', i + 1) (by simp only; omega) ⟨hil, hq, by rw [newQ_succ hil, addQ, if_pos hin']; exact hp⟩ (weak_of rfl (by repeat ((conv => whnf); first | exact trivial | refine And.intro rfl ?_ | refine And.intro (incD (by omega)) ?_)) (by repeat ((conv => whnf); first | exact trivial | refine And.intro rfl ?_ | refine And.intro (incD (by omega)) ?_)))
    · have hin' : l[i].2 ∉ (newQ (l.take i)).map (·.2) := mt (hp.map _).mem_iff.2 hin
      conv => whnf
      exact again (l2, mp2, i + 1) (by simp only; omega) ⟨hil, hq2, by rw [newQ_succ hil, addQ, if_neg hin']; exact hp2.trans (hp.append (.refl _))⟩ (weak_of rfl (by repeat ((conv => whnf); first | exact trivial | refine And.intro rfl ?_ | refine And.intro (incD (by omega)) ?_)) (by repeat ((conv => whnf); first | exact trivial | refine And.intro rfl ?_ | refine And.intro (incD (by omega)) ?_)))
  · have hb : ¬ (i : Int) < (l.length : Int) := of_decide_eq_false hb
    have e : i = l.length := by omega
    subst e
    rw [List.take_length] at hp
    conv => whnf
    exact ⟨rfl, l', mp', rfl, hp, hq⟩
theorem clone_tri (l : List It) (mp) (hl : l.length * 24 ≤ LB) : Tri Try.prog G0 25 3 3 [.own 0 0] (qH l mp) (fun o H' => o = .ret (.own 3 0) ∧ ∃ l' mp', H' = qH l mp ++ qA 3 4 5 l' mp' ∧ l'.Perm (newQ l) ∧ QOk l' mp') := by
  refine tri_of_vc txok mixed [3, 4, 5] [] Try.func25 rfl rfl (by simp) fun b => ?_
  conv => whnf
  refine callT [0, 1, 2] (newR_tri l mp hl) gf9 rfl rfl ⟨rfl, rfl, rfl, trivial⟩ rfl ?_
  rintro o' H' ⟨rfl, l', mp', rfl, hp, hq⟩
  conv => whnf
  exact ⟨rfl, l', mp', rfl, hp, hq⟩
end Go.Proofs.Ytohhchcjfebkhaa

