/- Queue: the reference, one (texts Ua Ub Uc Ud Ue, joined) -/
import Derived.Test.YtohhchcjfebkhaaWq
set_option linter.unusedVariables false
set_option linter.unusedSimpArgs false
/- The reference queue: its order. -/
namespace Go.Proofs.Ytohhchcjfebkhaa
open Go.Vx Go.Vc Go.RowKit

theorem cmpB_eq (a b : ByteArray) : cmpB a b = if a.toList < b.toList then -1 else if a.toList = b.toList then 0 else 1 := by
  unfold cmpB
  by_cases h : a.toList < b.toList
  · rw [if_pos h, if_pos (blt_iff.2 h)]
  · rw [if_neg h, if_neg (mt blt_iff.1 h)]
    by_cases h2 : a.toList = b.toList
    · rw [if_pos h2, if_pos (by simp [h2])]
    · rw [if_neg h2, if_neg (by simpa using h2)]
def cmpW (x y : List UInt8) : Int := if x < y then -1 else if x = y then 0 else 1
theorem cmpW_cons (x y : UInt8) (r s : List UInt8) : cmpW (x :: r) (y :: s) = if x < y then -1 else if y < x then 1 else cmpW r s := by
  have hc : (x :: r < y :: s) ↔ (x < y ∨ x = y ∧ r < s) := List.cons_lt_cons_iff
  unfold cmpW
  by_cases h1 : x < y
  · rw [if_pos (hc.2 (.inl h1)), if_pos h1]
  · rw [if_neg h1]
    by_cases h2 : y < x
    · have h3 : ¬ (x :: r < y :: s) := by
        intro h
        rcases hc.1 h with h | ⟨h, _⟩
        · exact h1 h
        · subst h; exact h1 h2
      have h4 : ¬ (x :: r = y :: s) := by
        intro h; injection h with h _; subst h; exact h1 h2
      rw [if_pos h2, if_neg h3, if_neg h4]
    · rw [if_neg h2]
      have e : x = y := UInt8.le_antisymm (UInt8.not_lt.1 h2) (UInt8.not_lt.1 h1)
      subst e
      by_cases h3 : r < s
      · rw [if_pos (hc.2 (.inr ⟨rfl, h3⟩)), if_pos h3]
      · have h4 : ¬ (x :: r < x :: s) := by
          intro h
          rcases hc.1 h with h | ⟨_, h⟩
          · exact h1 h
          · exact h3 h
        rw [if_neg h4, if_neg h3]
        by_cases h5 : r = s
        · subst h5; simp
        · rw [if_neg h5, if_neg (by intro h; injection h with _ h; exact h5 h)]
theorem cmpW_nil (s : List UInt8) : cmpW [] s = if s = [] then 0 else -1 := by
  unfold cmpW
  cases s with
  | nil => simp
  | cons y t => rw [if_pos (List.nil_lt_cons y t)]; simp
theorem cmpW_nil2 (x : UInt8) (r : List UInt8) : cmpW (x :: r) [] = 1 := by
  unfold cmpW
  rw [if_neg (List.not_lt_nil _)]; simp
theorem toList_len (a : ByteArray) : a.toList.length = a.size := by rw [ByteArray.toList_eq]; rfl
theorem byteAt {a : ByteArray} {i : Nat} (h : i < a.size) : a[i]? = some (a.toList[i]'(by rw [toList_len]; exact h)) := by
  rw [getElem?_pos a i h]
  congr 1
  simp only [ByteArray.toList_eq, Array.getElem_toList]
  rfl
theorem rcmp_fn (a c : ByteArray) (hsz : a.size < 4611686018427387904) : FnR Try.prog G0 58 [.str a, .str c] (.int .i64 (cmpB a c)) := by
  rw [show cmpB a c = cmpW a.toList c.toList from by rw [cmpB_eq]; rfl]
  have la := toList_len a
  have lc := toList_len c
  refine fnQ_of_vc txok mixed [(4, .pure 0 (.pure 1 (.pure 2 (.pure 3 (.pure 4 (.pure 5 (.pure 6 .done))))))), (6, .pure 0 (.pure 1 (.pure 2 (.pure 3 (.pure 4 (.pure 5 (.pure 6 .done)))))))] Try.func58 rfl rfl (by simp) fun b => ?_
  conv => whnf
  refine loopH (fun i : Nat => i ≤ a.size ∧ i ≤ c.size ∧ cmpW a.toList c.toList = cmpW (a.toList.drop i) (c.toList.drop i)) (fun i => a.size - i) (fun i => [(5, .d (.int .i64 i))]) (fun _ => []) 0 0 ⟨by omega, by omega, by simp⟩ (weak_of rfl (by repeat ((conv => whnf); first | exact trivial | refine And.intro rfl ?_ | refine And.intro (incD (by omega)) ?_)) (by repeat ((conv => whnf); first | exact trivial | refine And.intro rfl ?_ | refine And.intro (incD (by omega)) ?_))) ?_
  rintro i ⟨hi, hj, hx⟩
  have fin : ¬ (i < a.size ∧ i < c.size) → cmpW a.toList c.toList = if a.size < c.size then -1 else if a.size > c.size then 1 else 0 := by
    intro hn
    rw [hx]
    by_cases h1 : i < a.size
    · have h2 : i = c.size := by omega
      rw [List.drop_eq_getElem_cons (by omega), List.drop_eq_nil_of_le (by omega : c.toList.length ≤ i), cmpW_nil2, if_neg (by omega), if_pos (by omega)]
    · rw [List.drop_eq_nil_of_le (by omega : a.toList.length ≤ i), cmpW_nil]
      by_cases h2 : i < c.size
      · have h3 : i < c.toList.length := by omega
        have h4 : c.toList.drop i ≠ [] := by rw [List.drop_eq_getElem_cons h3]; exact List.cons_ne_nil _ _
        rw [if_neg h4, if_pos (by omega)]
      · rw [if_pos (List.drop_eq_nil_of_le (by omega)), if_neg (by omega), if_neg (by omega)]
  conv => whnf
  refine And.intro (fun hb => ?_) (fun hb => ?_)
  · have hb : (i : Int) < (a.size : Int) := of_decide_eq_true hb
    conv => whnf
    refine And.intro (fun hb2 => ?_) (fun hb2 => ?_)
    · have hb2 : (i : Int) < (c.size : Int) := of_decide_eq_true hb2
      have hia : i < a.toList.length := by omega
      have hic : i < c.toList.length := by omega
      rw [List.drop_eq_getElem_cons hia, List.drop_eq_getElem_cons hic, cmpW_cons] at hx
      conv => whnf
      refine And.intro (by kernel_rfl) ?_
      conv => whnf
      refine ⟨a.toList[i], by omega, byteAt (a := a) (i := i) (by omega), ?_⟩
      conv => whnf
      refine ⟨c.toList[i], by omega, byteAt (a := c) (i := i) (by omega), ?_⟩
      conv => whnf
      refine And.intro (fun h1 => ?_) (fun h1 => ?_)
      · have h1 : a.toList[i] < c.toList[i] := by
          have := of_decide_eq_true h1
          rw [UInt8.lt_iff_toNat_lt]; omega
        rw [if_pos h1] at hx
        conv => whnf
        rw [hx]
      have h1 : ¬ a.toList[i] < c.toList[i] := by
        have := of_decide_eq_false h1
        rw [UInt8.lt_iff_toNat_lt]; omega
      rw [if_neg h1] at hx
      conv => whnf
      refine And.intro (by kernel_rfl) ?_
      conv => whnf
      refine ⟨a.toList[i], by omega, byteAt (a := a) (i := i) (by omega), ?_⟩
      conv => whnf
      refine ⟨c.toList[i], by omega, byteAt (a := c) (i := i) (by omega), ?_⟩
      conv => whnf
      refine And.intro (fun h2 => ?_) (fun h2 => ?_)
      · have h2 : c.toList[i] < a.toList[i] := by
          have := of_decide_eq_true h2
          rw [UInt8.lt_iff_toNat_lt]; omega
        rw [if_pos h2] at hx
        conv => whnf
        rw [hx]
      · have h2 : ¬ c.toList[i] < a.toList[i] := by
          have := of_decide_eq_false h2
          rw [UInt8.lt_iff_toNat_lt]; omega
        rw [if_neg h2] at hx
        conv => whnf
        exact again (i + 1) (by omega) ⟨by omega, by omega, hx⟩ (weak_of rfl (by repeat ((conv => whnf); first | exact trivial | refine And.intro rfl ?_ | refine And.intro (incD (by omega)) ?_)) (by repeat ((conv => whnf); first | exact trivial | refine And.intro rfl ?_ | refine And.intro (incD (by omega)) ?_)))
    · have hb2 : ¬ (i : Int) < (c.size : Int) := of_decide_eq_false hb2
      have hf := fin (by omega)
      conv => whnf
      refine And.intro (fun h1 => ?_) (fun h1 => ?_)
      · have h1 := of_decide_eq_true h1
        rw [if_pos (by omega)] at hf
        conv => whnf
        rw [hf]
      have h1 := of_decide_eq_false h1
      rw [if_neg (by omega)] at hf
      conv => whnf
      refine And.intro (fun h2 => ?_) (fun h2 => ?_)
      · have h2 := of_decide_eq_true h2
        rw [if_pos (by omega)] at hf
        conv => whnf
        rw [hf]
      · have h2 := of_decide_eq_false h2
        rw [if_neg (by omega)] at hf
        conv => whnf
        rw [hf]
  · have hb : ¬ (i : Int) < (a.size : Int) := of_decide_eq_false hb
    have hf := fin (by omega)
    conv => whnf
    refine And.intro (fun h1 => ?_) (fun h1 => ?_)
    · have h1 := of_decide_eq_true h1
      rw [if_pos (by omega)] at hf
      conv => whnf
      rw [hf]
    have h1 := of_decide_eq_false h1
    rw [if_neg (by omega)] at hf
    conv => whnf
    refine And.intro (fun h2 => ?_) (fun h2 => ?_)
    · have h2 := of_decide_eq_true h2
      rw [if_pos (by omega)] at hf
      conv => whnf
      rw [hf]
    · have h2 := of_decide_eq_false h2
      rw [if_neg (by omega)] at hf
      conv => whnf
      rw [hf]
theorem rless_fn (x y : It) (hsz : x.2.size < 4611686018427387904) : FnR Try.prog G0 53 [dIt x, dIt y] (.bool (decide (lt x y))) := by
  refine fnQ_of_vc txok mixed [] Try.func53 rfl rfl (by simp) fun b => ?_
  conv => whnf
  refine And.intro (fun h1 => ?_) (fun h1 => ?_)
  · have h1 := of_decide_eq_false h1
    conv => whnf
    refine And.intro (fun h2 => ?_) (fun h2 => ?_)
    · have h2 := eq_of_beq h2
      conv => whnf
      refine callF (rcmp_fn x.2 y.2 hsz) gf58 rfl rfl ?_
      conv => whnf
      have e : decide (cmpB x.2 y.2 < 0) = decide (lt x y) := by
        rw [decide_eq_decide, cmpB_neg]
        unfold lt
        exact ⟨fun h => .inr ⟨h2, h⟩, fun h => h.elim (fun h => absurd h h1) (·.2)⟩
      rw [e]
    · have h2 : x.1 ≠ y.1 := by
        intro e; rw [e] at h2; simp at h2
      have e : decide (lt x y) = false := decide_eq_false fun h => h.elim h1 fun h => h2 h.1
      rw [e]
      conv => whnf
  · have h1 := of_decide_eq_true h1
    have e : decide (lt x y) = true := decide_eq_true (.inl h1)
    rw [e]
    conv => whnf
/-- The reference's queue: its list, in order. -/
abbrev rH (r : List It) : Hp := [(0, .blk 51 [.d (dQ r)])]
def rR (x : Go.Vx.SV) (r : List It) : Out → Hp → Prop := fun o H' => o = .ret x ∧ H' = rH r
/-- The place of a name. -/
def atR : List It → ByteArray → Nat → Int
  | [], _, _ => -1
  | x :: r, s, i => if x.2 = s then (i : Int) else atR r s (i + 1)
theorem at_tri (r : List It) (s : ByteArray) (hl : r.length * 24 ≤ LB) : Tri Try.prog G0 52 1 0 [.own 0 0, .d (.str s)] (rH r) (rR (.d (.int .i64 (atR r s 0))) r) := by
  simp only [LB] at hl
  refine tri_of_vc txok mixed [] [] Try.func52 rfl rfl (by simp) fun b => ?_
  conv => whnf
  refine loopH (fun i : Nat => i ≤ r.length ∧ atR r s 0 = atR (r.drop i) s i) (fun i => r.length - i) (fun i => [(5, .d (.int .i64 i))]) (fun _ => rH r) 1 0 ⟨by omega, by simp⟩ (weak_of rfl (by repeat ((conv => whnf); first | exact trivial | refine And.intro rfl ?_ | refine And.intro (incD (by omega)) ?_)) (by repeat ((conv => whnf); first | exact trivial | refine And.intro rfl ?_ | refine And.intro (incD (by omega)) ?_))) ?_
  rintro i ⟨hi, hx⟩
  conv => whnf
  refine And.intro (fun hb => ?_) (fun hb => ?_)
  · have hb : (i : Int) < (r.length : Int) := of_decide_eq_true hb
    have hil : i < r.length := by omega
    rw [List.drop_eq_getElem_cons hil, atR] at hx
    conv => whnf
    refine IdxC.encQ i hil rfl ?_
    conv => whnf
    refine And.intro (fun he => ?_) (fun he => ?_)
    · have he : r[i].2 = s := toList_inj (eq_of_beq he)
      rw [if_pos he] at hx
      conv => whnf
      exact ⟨by rw [hx], rfl⟩
    · have he : r[i].2 ≠ s := by
        intro e; rw [e] at he; simp at he
      rw [if_neg he] at hx
      conv => whnf
      exact again (i + 1) (by omega) ⟨by omega, hx⟩ (weak_of rfl (by repeat ((conv => whnf); first | exact trivial | refine And.intro rfl ?_ | refine And.intro (incD (by omega)) ?_)) (by repeat ((conv => whnf); first | exact trivial | refine And.intro rfl ?_ | refine And.intro (incD (by omega)) ?_)))
  · have hb : ¬ (i : Int) < (r.length : Int) := of_decide_eq_false hb
    rw [List.drop_eq_nil_of_le (by omega)] at hx
    conv => whnf
    exact ⟨by rw [hx]; rfl, rfl⟩
end Go.Proofs.Ytohhchcjfebkhaa

/- The reference queue: Push, Peek, Remove, Pop, Rank, Move, New, Items. -/
namespace Go.Proofs.Ytohhchcjfebkhaa
open Go.Vx Go.Vc Go.RowKit

theorem atR_spec : ∀ (r : List It) (s : ByteArray) (k : Nat), (s ∉ nms r ∧ atR r s k = -1) ∨ ∃ i, i < r.length ∧ (ix r i).2 = s ∧ atR r s k = ((k + i : Nat) : Int)
  | [], s, k => .inl ⟨by simp, rfl⟩
  | x :: r, s, k => by
    unfold atR
    by_cases h : x.2 = s
    · rw [if_pos h]; exact .inr ⟨0, by simp, by simp [ix, h], by simp⟩
    · rw [if_neg h]
      rcases atR_spec r s (k + 1) with ⟨h1, h2⟩ | ⟨i, h1, h2, h3⟩
      · exact .inl ⟨by simp only [nms, List.map_cons, List.mem_cons, not_or]; exact ⟨Ne.symm h, h1⟩, h2⟩
      · exact .inr ⟨i + 1, by simp; omega, by simpa [ix] using h2, by rw [h3]; congr 1; omega⟩
theorem ins_app_not {x : It} : ∀ {l m : List It}, (∀ z ∈ l, ¬ lt x z) → ins x (l ++ m) = l ++ ins x m
  | [], m, _ => rfl
  | y :: r, m, h => by
    simp only [List.cons_append, ins]
    rw [if_neg (h y (by simp)), ins_app_not fun z hz => h z (by simp [hz])]
theorem ins_app_done {x : It} : ∀ {l m : List It}, (∃ z ∈ l, lt x z) → ins x (l ++ m) = ins x l ++ m
  | [], m, h => by obtain ⟨z, hz, _⟩ := h; simp at hz
  | y :: r, m, h => by
    simp only [List.cons_append, ins]
    by_cases hy : lt x y
    · rw [if_pos hy, if_pos hy]; rfl
    · rw [if_neg hy, if_neg hy]
      rw [ins_app_done (l := r) (by
        obtain ⟨z, hz, hl⟩ := h
        rcases List.mem_cons.1 hz with rfl | hz
        · exact absurd hl hy
        · exact ⟨z, hz, hl⟩)]
      rfl
/-- What is there of the new list. -/
def outP (x : It) (r : List It) (dn : Bool) (i : Nat) : List It := match dn with
  | true => ins x (r.take i)
  | false => r.take i
def invP (x : It) (r : List It) (dn : Bool) (i : Nat) : Prop := match dn with
  | true => ∃ z ∈ r.take i, lt x z
  | false => ∀ z ∈ r.take i, ¬ lt x z
theorem outP_len (x : It) (r : List It) (dn : Bool) (i : Nat) : (outP x r dn i).length ≤ r.length + 1 := by
  cases dn <;> simp only [outP, ins_len, List.length_take] <;> omega
theorem rpush_tri (r : List It) (x : It) (hl : (r.length + 1) * 24 ≤ LB) (hsz : x.2.size < 4611686018427387904) : Tri Try.prog G0 37 1 0 [.own 0 0, .d (dIt x)] (rH r)
    (fun o H' => (x.2 ∈ nms r ∧ o = .ret (.kb false) ∧ H' = rH r) ∨ (x.2 ∉ nms r ∧ o = .ret (.kb true) ∧ H' = rH (ins x r))) := by
  have hl' := hl
  simp only [LB] at hl'
  refine tri_of_vc txok mixed [] [(8, .pure 0 (.pure 1 (.pure 2 (.take 3 (.pure 4 (.pure 5 (.pure 6 (.take 7 (.pure 8 (.pure 9 (.take 10 (.fin 11 (.pure 12 .done)))))))))))))] Try.func37 rfl rfl (by simp) fun b => ?_
  conv => whnf
  refine callT [0] (at_tri r x.2 (by simp only [LB]; omega)) gf52 rfl rfl ⟨rfl, trivial⟩ rfl ?_
  rintro o' H' ⟨rfl, rfl⟩
  conv => whnf
  rcases atR_spec r x.2 0 with ⟨hn, hat⟩ | ⟨i, hi, hix, hat⟩
  rotate_left
  · rw [hat]
    refine And.intro (fun _ => ?_) (fun h => absurd (of_decide_eq_false h) (by omega))
    conv => whnf
    exact .inl ⟨List.mem_map.2 ⟨_, ix_mem.2 ⟨i, hi, rfl⟩, hix⟩, rfl, rfl⟩
  rw [hat]
  refine And.intro (fun h => absurd (of_decide_eq_true h) (by decide)) (fun _ => ?_)
  conv => whnf
  refine loopH (fun y : Bool × Nat => y.2 ≤ r.length ∧ invP x r y.1 y.2) (fun y => r.length - y.2) (fun y => [(7, .d (.int .i64 y.2)), (6, .d (.bool y.1)), (5, .row 2)]) (fun y => rH r ++ [(1, .blk 35 [.d (.int .i64 x.1), .d (.str x.2)]), (2, .row 35 24 2 (outP x r y.1 y.2).length (encQ (outP x r y.1 y.2)))]) 3 (false, 0) ⟨by simp, by simp [invP]⟩ (((weak_kbT 6 false rfl).trans (weak_nlT 5 35 24 2 rfl)).trans (weak_of rfl (by repeat ((conv => whnf); first | exact trivial | refine And.intro rfl ?_ | refine And.intro (incD (by omega)) ?_)) (by repeat ((conv => whnf); first | exact trivial | refine And.intro rfl ?_ | refine And.intro (incD (by omega)) ?_)))) ?_
  rintro ⟨dn, i⟩ ⟨hi, hv⟩
  simp only at hi hv
  have hbig : (dn, i).2 < 9223372036854775807 := by show i < _; omega
  have hol := outP_len x r dn i
  conv => whnf
  refine And.intro (fun hb => ?_) (fun hb => ?_)
  · have hb : (i : Int) < (r.length : Int) := of_decide_eq_true hb
    have hil : i < r.length := by omega
    conv => whnf
    refine And.intro (by kernel_rfl) ?_
    conv => whnf
    have htk : r.take (i + 1) = r.take i ++ [r[i]] := List.take_succ_eq_append_getElem hil
    refine And.intro (fun hd => ?_) (fun hd => ?_)
    · obtain rfl : dn = false := by cases dn <;> simp_all
      have hv : ∀ z ∈ r.take i, ¬ lt x z := hv
      conv => whnf
      refine IdxC.encQ i hil rfl ?_
      conv => whnf
      refine callF (rless_fn x r[i] hsz) gf53 rfl rfl ?_
      conv => whnf
      refine And.intro (fun hlt => ?_) (fun hlt => ?_)
      · have hlt := of_decide_eq_true hlt
        have hins : ins x (r.take (i + 1)) = r.take i ++ [x] ++ [r[i]] := by
          rw [htk, ins_app_not hv, List.append_assoc]
          simp [ins, hlt]
        have hl1 : (r.take i ++ [x]).length = (r.take i).length + 1 := by simp
        have hl2 : (ins x (r.take (i + 1))).length = (r.take i ++ [x]).length + 1 := by rw [hins]; simp
        have hl3 : (r.take i).length ≤ i := by simp; omega
        conv => whnf
        refine appR (i := 2) (sz := 2) (n := (r.take i).length) (m := 1) (xs := encQ (r.take i)) (ys := encIt x) txok (fun k => Nat.blt 2 k) (r.take i ++ [x]).length (encQ (r.take i ++ [x])) (by exact rfl) (by exact rfl) (by exact rfl) (by kernel_rfl) (by exact rfl) (scalDs_mem (by exact rfl)) hl1.symm (by rw [encQ_app]; rfl) (by simp only [LB]; omega) ?_
        conv => whnf
        refine IdxC.encQ i hil rfl ?_
        conv => whnf
        refine appR (i := 2) (sz := 2) (n := (r.take i ++ [x]).length) (m := 1) (xs := encQ (r.take i ++ [x])) (ys := encIt r[i]) txok (fun k => Nat.blt 2 k) (ins x (r.take (i + 1))).length (encQ (ins x (r.take (i + 1)))) (by exact rfl) (by exact rfl) (by exact rfl) (by kernel_rfl) (by exact rfl) (scalDs_mem (by exact rfl)) hl2.symm (by rw [hins, encQ_app _ [r[i]]]; rfl) (by simp only [LB]; omega) ?_
        conv => whnf
        exact again (true, i + 1) (by simp only; omega) ⟨hil, r[i], by rw [htk]; exact List.mem_append_right _ (List.mem_singleton.2 rfl), hlt⟩ ((weak_kbT 6 true rfl).trans (weak_of rfl (by repeat ((conv => whnf); first | exact trivial | refine And.intro rfl ?_ | refine And.intro (incD (by omega)) ?_)) (by repeat ((conv => whnf); first | exact trivial | refine And.intro rfl ?_ | refine And.intro (incD (by omega)) ?_))))
      · have hlt := of_decide_eq_false hlt
        have hl2 : (r.take (i + 1)).length = (r.take i).length + 1 := by rw [htk, List.length_append]; rfl
        have hl3 : (r.take i).length ≤ i := by simp; omega
        conv => whnf
        refine IdxC.encQ i hil rfl ?_
        conv => whnf
        refine appR (i := 2) (sz := 2) (n := (r.take i).length) (m := 1) (xs := encQ (r.take i)) (ys := encIt r[i]) txok (fun k => Nat.blt 2 k) (r.take (i + 1)).length (encQ (r.take (i + 1))) (by exact rfl) (by exact rfl) (by exact rfl) (by kernel_rfl) (by exact rfl) (scalDs_mem (by exact rfl)) hl2.symm (by rw [htk, encQ_app _ [r[i]]]; rfl) (by simp only [LB]; omega) ?_
        conv => whnf
        refine again (false, i + 1) (by simp only; omega) ⟨hil, ?_⟩ (weak_of rfl (by repeat ((conv => whnf); first | exact trivial | refine And.intro rfl ?_ | refine And.intro (incD (by omega)) ?_)) (by repeat ((conv => whnf); first | exact trivial | refine And.intro rfl ?_ | refine And.intro (incD (by omega)) ?_)))
        intro z hz
        rw [htk] at hz
        rcases List.mem_append.1 hz with hz | hz
        · exact hv z hz
        · rw [List.mem_singleton] at hz; subst hz; exact hlt
    · obtain rfl : dn = true := by cases dn <;> simp_all
      have hv : ∃ z ∈ r.take i, lt x z := hv
      have hins : ins x (r.take (i + 1)) = ins x (r.take i) ++ [r[i]] := by rw [htk, ins_app_done hv]
      have hl2 : (ins x (r.take (i + 1))).length = (ins x (r.take i)).length + 1 := by rw [hins]; simp
      have hl3 : (ins x (r.take i)).length ≤ i + 1 := by rw [ins_len]; simp; omega
      conv => whnf
      refine IdxC.encQ i hil rfl ?_
      conv => whnf
      refine appR (i := 2) (sz := 2) (n := (ins x (r.take i)).length) (m := 1) (xs := encQ (ins x (r.take i))) (ys := encIt r[i]) txok (fun k => Nat.blt 2 k) (ins x (r.take (i + 1))).length (encQ (ins x (r.take (i + 1)))) (by exact rfl) (by exact rfl) (by exact rfl) (by kernel_rfl) (by exact rfl) (scalDs_mem (by exact rfl)) hl2.symm (by rw [hins, encQ_app _ [r[i]]]; rfl) (by simp only [LB]; omega) ?_
      conv => whnf
      obtain ⟨z, hz, hlz⟩ := hv
      exact again (true, i + 1) (by simp only; omega) ⟨hil, z, by rw [htk]; exact List.mem_append_left _ hz, hlz⟩ (weak_of rfl (by repeat ((conv => whnf); first | exact trivial | refine And.intro rfl ?_ | refine And.intro (incD (by omega)) ?_)) (by repeat ((conv => whnf); first | exact trivial | refine And.intro rfl ?_ | refine And.intro (incD (by omega)) ?_)))
  · have hb : ¬ (i : Int) < (r.length : Int) := of_decide_eq_false hb
    have e : i = r.length := by omega
    subst e
    conv => whnf
    refine And.intro (fun hd => ?_) (fun hd => ?_)
    · obtain rfl : dn = false := by cases dn <;> simp_all
      have hv : ∀ z ∈ r.take r.length, ¬ lt x z := hv
      rw [List.take_length] at hv
      have hins : ins x r = r ++ [x] := by
        have := ins_app_not (m := []) hv
        simpa [ins] using this
      have htl : (r.take r.length).length = r.length := by simp
      have hl2 := ins_len x r
      conv => whnf
      refine appR (i := 2) (sz := 2) (n := (r.take r.length).length) (m := 1) (xs := encQ (r.take r.length)) (ys := encIt x) txok (fun k => Nat.blt 2 k) (ins x r).length (encQ (ins x r)) (by exact rfl) (by exact rfl) (by exact rfl) (by kernel_rfl) (by exact rfl) (scalDs_mem (by exact rfl)) (by rw [htl, hl2]) (by rw [hins, encQ_app, List.take_length]; rfl) (by simp only [LB]; omega) ?_
      conv => whnf
      exact .inr ⟨hn, rfl, rfl⟩
    · obtain rfl : dn = true := by cases dn <;> simp_all
      conv => whnf
      refine .inr ⟨hn, rfl, ?_⟩
      simp only [outP, List.take_length]
      rfl
end Go.Proofs.Ytohhchcjfebkhaa

/- The reference queue: Peek, Remove, Pop, Rank, Move, New, Items. -/
namespace Go.Proofs.Ytohhchcjfebkhaa
open Go.Vx Go.Vc Go.RowKit

theorem ritems_tri (r : List It) : Tri Try.prog G0 24 1 0 [.own 0 0] (rH r) (rR (.d (dQ r)) r) := by
  refine tri_of_vc txok mixed [] [] Try.func24 rfl rfl (by simp) fun b => ?_
  conv => whnf
  exact ⟨rfl, rfl⟩
theorem rpeek_tri (r : List It) : Tri Try.prog G0 38 1 0 [.own 0 0] (rH r)
    (fun o H' => ((r = [] ∧ o = .ret (.tup [svIt (0, .empty), .kb false])) ∨ (∃ y t, r = y :: t ∧ o = .ret (.tup [svIt y, .kb true]))) ∧ H' = rH r) := by
  refine tri_of_vc txok mixed [] [] Try.func38 rfl rfl (by simp) fun b => ?_
  conv => whnf
  refine And.intro (fun h => ?_) (fun h => ?_)
  · have h : r = [] := List.eq_nil_of_length_eq_zero (by have := eq_of_beq h; omega)
    conv => whnf
    exact ⟨.inl ⟨h, rfl⟩, rfl⟩
  · have h0 : 0 < r.length := by have := ne_of_beq_false h; omega
    conv => whnf
    refine IdxC.encQ 0 h0 rfl ?_
    conv => whnf
    refine ⟨.inr ⟨r[0], r.tail, ?_, rfl⟩, rfl⟩
    cases r with
    | nil => simp at h0
    | cons y t => rfl
theorem rrank_tri (r : List It) (s : ByteArray) (hl : r.length * 24 ≤ LB) : Tri Try.prog G0 40 1 0 [.own 0 0, .d (.str s)] (rH r)
    (fun o H' => ((s ∉ nms r ∧ o = .ret (.tup [.d (.int .i64 0), .kb false])) ∨ (∃ n, (n, s) ∈ r ∧ o = .ret (.tup [.d (.int .i64 n), .kb true]))) ∧ H' = rH r) := by
  refine tri_of_vc txok mixed [] [] Try.func40 rfl rfl (by simp) fun b => ?_
  conv => whnf
  refine callT [0] (at_tri r s hl) gf52 rfl rfl ⟨rfl, trivial⟩ rfl ?_
  rintro o' H' ⟨rfl, rfl⟩
  conv => whnf
  rcases atR_spec r s 0 with ⟨hn, hat⟩ | ⟨i, hi, hix, hat⟩
  · rw [hat]
    refine And.intro (fun _ => ?_) (fun h => absurd (of_decide_eq_false h) (by decide))
    conv => whnf
    exact ⟨.inl ⟨hn, rfl⟩, rfl⟩
  · rw [hat]
    refine And.intro (fun h => absurd (of_decide_eq_true h) (by omega)) (fun _ => ?_)
    conv => whnf
    refine IdxC.encQ i hi (by omega) ?_
    conv => whnf
    refine ⟨.inr ⟨r[i].1, ?_, rfl⟩, rfl⟩
    rw [← hix, ix_get hi]
    exact List.getElem_mem hi
theorem rem_snoc (s : ByteArray) (l : List It) (x : It) : rem s (l ++ [x]) = rem s l ++ (if x.2 ≠ s then [x] else []) := by
  rw [rem_app]
  congr 1
  unfold rem
  by_cases h : x.2 = s
  · simp [h]
  · simp [h]
theorem name_inj {r : List It} (hn : (nms r).Nodup) {i k : Nat} (hi : i < r.length) (hk : k < r.length) (e : r[i].2 = r[k].2) : i = k := by
  have key : ∀ (i k : Nat) (hi : i < r.length) (hk : k < r.length), i < k → r[i].2 ≠ r[k].2 := by
    intro i k hi hk h
    have := List.pairwise_iff_getElem.1 (List.nodup_iff_pairwise_ne.1 hn) i k (by simpa using hi) (by simpa using hk) h
    simpa [nms] using this
  rcases Nat.lt_trichotomy i k with h3 | h3 | h3
  · exact absurd e (key i k hi hk h3)
  · exact h3
  · exact absurd e.symm (key k i hk hi h3)
theorem rremove_tri (r : List It) (s : ByteArray) (hl : r.length * 24 ≤ LB) (hnd : (nms r).Nodup) : Tri Try.prog G0 42 1 0 [.own 0 0, .d (.str s)] (rH r)
    (fun o H' => (s ∉ nms r ∧ o = .ret (.kb false) ∧ H' = rH r) ∨ (s ∈ nms r ∧ o = .ret (.kb true) ∧ H' = rH (rem s r))) := by
  have hl' := hl
  simp only [LB] at hl'
  refine tri_of_vc txok mixed [] [] Try.func42 rfl rfl (by simp) fun b => ?_
  conv => whnf
  refine callT [0] (at_tri r s hl) gf52 rfl rfl ⟨rfl, trivial⟩ rfl ?_
  rintro o' H' ⟨rfl, rfl⟩
  conv => whnf
  rcases atR_spec r s 0 with ⟨hn, hat⟩ | ⟨k, hk, hix, hat⟩
  · rw [hat]
    refine And.intro (fun _ => ?_) (fun h => absurd (of_decide_eq_false h) (by decide))
    conv => whnf
    exact .inl ⟨hn, rfl, rfl⟩
  rw [hat, Nat.zero_add]
  have hs : s ∈ nms r := List.mem_map.2 ⟨_, ix_mem.2 ⟨k, hk, rfl⟩, hix⟩
  rw [ix_get hk] at hix
  refine And.intro (fun h => absurd (of_decide_eq_true h) (by omega)) (fun _ => ?_)
  conv => whnf
  refine loopH (fun i : Nat => i ≤ r.length) (fun i => r.length - i) (fun i => [(7, .d (.int .i64 i)), (6, .row 1)]) (fun i => rH r ++ [(1, .row 35 24 2 (rem s (r.take i)).length (encQ (rem s (r.take i))))]) 2 0 (Nat.zero_le _) ((weak_nlT 6 35 24 2 rfl).trans (weak_of rfl (by repeat ((conv => whnf); first | exact trivial | refine And.intro rfl ?_ | refine And.intro (incD (by omega)) ?_)) (by repeat ((conv => whnf); first | exact trivial | refine And.intro rfl ?_ | refine And.intro (incD (by omega)) ?_)))) ?_
  intro i hi
  conv => whnf
  refine And.intro (fun hb => ?_) (fun hb => ?_)
  · have hb : (i : Int) < (r.length : Int) := of_decide_eq_true hb
    have hil : i < r.length := by omega
    have htk : r.take (i + 1) = r.take i ++ [r[i]] := List.take_succ_eq_append_getElem hil
    have hle : (rem s (r.take i)).length ≤ i := by
      have h1 : (rem s (r.take i)).length ≤ (r.take i).length := List.length_filter_le _ _
      have h2 : (r.take i).length = i := by simp; omega
      omega
    conv => whnf
    refine And.intro (fun he => ?_) (fun he => ?_)
    · have he : r[i].2 ≠ s := by
        intro e
        have h2 := name_inj hnd hil hk (e.trans hix.symm)
        rw [h2] at he; simp at he
      have hrs : rem s (r.take (i + 1)) = rem s (r.take i) ++ [r[i]] := by rw [htk, rem_snoc, if_pos he]
      have hl2 : (rem s (r.take (i + 1))).length = (rem s (r.take i)).length + 1 := by rw [hrs, List.length_append]; rfl
      conv => whnf
      refine IdxC.encQ i hil rfl ?_
      conv => whnf
      refine appR (i := 1) (sz := 2) (n := (rem s (r.take i)).length) (m := 1) (xs := encQ (rem s (r.take i))) (ys := encIt r[i]) txok (fun k => Nat.blt 1 k) (rem s (r.take (i + 1))).length (encQ (rem s (r.take (i + 1)))) (by exact rfl) (by exact rfl) (by exact rfl) (by kernel_rfl) (by exact rfl) (scalDs_mem (by exact rfl)) hl2.symm (by rw [hrs, encQ_app _ [r[i]]]; rfl) (by simp only [LB]; omega) ?_
      conv => whnf
      exact again (i + 1) (by omega) hil (weak_of rfl (by repeat ((conv => whnf); first | exact trivial | refine And.intro rfl ?_ | refine And.intro (incD (by omega)) ?_)) (by repeat ((conv => whnf); first | exact trivial | refine And.intro rfl ?_ | refine And.intro (incD (by omega)) ?_)))
    · have he : i = k := by simp at he; omega
      subst he
      have hrs : rem s (r.take (i + 1)) = rem s (r.take i) := by rw [htk, rem_snoc, if_neg (by simpa using hix), List.append_nil]
      conv => whnf
      refine again (i + 1) (by omega) hil (weak_of rfl (by repeat ((conv => whnf); first | exact trivial | refine And.intro rfl ?_ | refine And.intro (incD (by omega)) ?_)) ?_)
      rw [hrs]
      repeat ((conv => whnf); first | exact trivial | refine And.intro rfl ?_ | refine And.intro (incD (by omega)) ?_)
  · have hb : ¬ (i : Int) < (r.length : Int) := of_decide_eq_false hb
    have e : i = r.length := by omega
    subst e
    conv => whnf
    refine .inr ⟨hs, rfl, ?_⟩
    simp only [List.take_length]
    rfl
theorem rem_head {y : It} {t : List It} (hn : (nms (y :: t)).Nodup) : rem y.2 (y :: t) = t := by
  have h : y.2 ∉ nms t := by
    simp only [nms, List.map_cons, List.nodup_cons] at hn
    exact hn.1
  have h2 := rem_self h
  unfold rem at h2 ⊢
  rw [List.filter_cons_of_neg (by simp)]
  exact h2
theorem rpop_tri (r : List It) (hl : r.length * 24 ≤ LB) (hnd : (nms r).Nodup) : Tri Try.prog G0 39 1 0 [.own 0 0] (rH r)
    (fun o H' => (r = [] ∧ o = .ret (.tup [svIt (0, .empty), .kb false]) ∧ H' = rH []) ∨ (∃ y t, r = y :: t ∧ o = .ret (.tup [svIt y, .kb true]) ∧ H' = rH t)) := by
  refine tri_of_vc txok mixed [] [] Try.func39 rfl rfl (by simp) fun b => ?_
  conv => whnf
  refine callT [0] (rpeek_tri r) gf38 rfl rfl ⟨rfl, trivial⟩ rfl ?_
  rintro o' H' ⟨⟨rfl, rfl⟩ | ⟨y, t, rfl, rfl⟩, rfl⟩
  · conv => whnf
    exact .inl ⟨rfl, rfl, rfl⟩
  · conv => whnf
    refine callT [0] (rremove_tri (y :: t) y.2 hl hnd) gf42 rfl rfl ⟨rfl, trivial⟩ rfl ?_
    rintro o' H' (⟨hn, _⟩ | ⟨_, rfl, rfl⟩)
    · exact absurd (by simp) hn
    rw [rem_head hnd]
    conv => whnf
    exact .inr ⟨y, t, rfl, rfl, rfl⟩
theorem rmove_tri (r : List It) (s : ByteArray) (n : Int) (hl : r.length * 24 ≤ LB) (hnd : (nms r).Nodup) (hsz : s.size < 4611686018427387904) : Tri Try.prog G0 41 1 0 [.own 0 0, .d (.str s), .d (.int .i64 n)] (rH r)
    (fun o H' => (s ∉ nms r ∧ o = .ret (.kb false) ∧ H' = rH r) ∨ (s ∈ nms r ∧ o = .ret (.kb true) ∧ H' = rH (ins (n, s) (rem s r)))) := by
  refine tri_of_vc txok mixed [] [] Try.func41 rfl rfl (by simp) fun b => ?_
  conv => whnf
  refine callT [0] (rremove_tri r s hl hnd) gf42 rfl rfl ⟨rfl, trivial⟩ rfl ?_
  rintro o' H' (⟨hn, rfl, rfl⟩ | ⟨hs, rfl, rfl⟩)
  · conv => whnf
    exact .inl ⟨hn, rfl, rfl⟩
  · have hrl := rem_len' hnd hs
    conv => whnf
    refine callT [0] (rpush_tri (rem s r) (n, s) (by rw [hrl]; exact hl) hsz) gf37 rfl rfl ⟨rfl, trivial⟩ rfl ?_
    rintro o' H' (⟨hm', _⟩ | ⟨_, rfl, rfl⟩)
    · exact absurd hm' (rem_notin s _)
    conv => whnf
    exact .inr ⟨hs, rfl, rfl⟩
theorem newS_succ {l : List It} {i : Nat} (h : i < l.length) : newS (l.take (i + 1)) = if l[i].2 ∈ nms (newS (l.take i)) then newS (l.take i) else ins l[i] (newS (l.take i)) := by
  unfold newS
  rw [newQ_succ h]
  have hm : l[i].2 ∈ nms (srt (newQ (l.take i))) ↔ l[i].2 ∈ nms (newQ (l.take i)) := ((srt_perm _).map (·.2)).mem_iff
  by_cases hin : l[i].2 ∈ nms (newQ (l.take i))
  · rw [if_pos (hm.2 hin), addQ, if_pos hin]
  · rw [if_neg (mt hm.1 hin), addQ, if_neg hin]
    exact sorted_eq ((srt_perm _).trans (((srt_perm _).symm.append_right _).trans (ins_perm _ _).symm)) (srt_sorted _) (ins_sorted (srt_sorted _))
theorem rnew_tri (l : List It) (hsz : ∀ x ∈ l, x.2.size < 4611686018427387904) : Tri Try.prog G0 21 0 1 [.d (dQ l)] [] (fun o H' => o = .ret (.own 0 0) ∧ H' = rH (newS l)) := by
  refine tri_sz fun hs => ?_
  have hl := (szOk_sl (hs (.d (dQ l)) (by simp))).1
  simp only [LB] at hl
  refine tri_of_vc txok mixed [0] [] Try.func21 rfl rfl (by simp) fun b => ?_
  conv => whnf
  refine loopH (fun i : Nat => i ≤ l.length) (fun i => l.length - i) (fun i => [(4, .d (.int .i64 i))]) (fun i => [(0, .blk 51 [.d (dQ (newS (l.take i)))])]) 1 0 (Nat.zero_le _) ?_ ?_
  · exact (weak_cell 0 0 (.d (slD 24 0 [])) rfl rfl nl_data).trans (weak_of rfl (by repeat ((conv => whnf); first | exact trivial | refine And.intro rfl ?_ | refine And.intro (incD (by omega)) ?_)) (by repeat ((conv => whnf); first | exact trivial | refine And.intro rfl ?_ | refine And.intro (incD (by omega)) ?_)))
  intro i hi
  have hnl : (newS (l.take i)).length ≤ i := Nat.le_trans (newS_len _) (by simp; omega)
  conv => whnf
  refine And.intro (fun hb => ?_) (fun hb => ?_)
  · have hb : (i : Int) < (l.length : Int) := of_decide_eq_true hb
    have hil : i < l.length := by omega
    have hns := newS_succ hil
    conv => whnf
    refine IdxC.encQ i hil rfl ?_
    conv => whnf
    refine callT [0] (rpush_tri (newS (l.take i)) l[i] (by simp only [LB]; omega) (hsz _ (by simp))) gf37 rfl rfl ⟨rfl, trivial⟩ rfl ?_
    rintro o' H' (⟨hin, rfl, rfl⟩ | ⟨hin, rfl, rfl⟩)
    · rw [if_pos hin] at hns
      conv => whnf
      refine again (i + 1) (by omega) hil (weak_of rfl (by repeat ((conv => whnf); first | exact trivial | refine And.intro rfl ?_ | refine And.intro (incD (by omega)) ?_)) ?_)
      rw [hns]
      repeat ((conv => whnf); first | exact trivial | refine And.intro rfl ?_ | refine And.intro (incD (by omega)) ?_)
    · rw [if_neg hin] at hns
      conv => whnf
      refine again (i + 1) (by omega) hil (weak_of rfl (by repeat ((conv => whnf); first | exact trivial | refine And.intro rfl ?_ | refine And.intro (incD (by omega)) ?_)) ?_)
      rw [hns]
      repeat ((conv => whnf); first | exact trivial | refine And.intro rfl ?_ | refine And.intro (incD (by omega)) ?_)
  · have hb : ¬ (i : Int) < (l.length : Int) := of_decide_eq_false hb
    have e : i = l.length := by omega
    subst e
    rw [List.take_length]
    conv => whnf
    exact ⟨rfl, rfl⟩
end Go.Proofs.Ytohhchcjfebkhaa

/- The reference queue: Merge. -/
namespace Go.Proofs.Ytohhchcjfebkhaa
open Go.Vx Go.Vc Go.RowKit

abbrev rH2 (r s : List It) : Hp := rH r ++ [(1, .blk 51 [.d (dQ s)])]
theorem mrg_nodup {r s : List It} (hn : (nms r).Nodup) (hs : Sorted r) : (nms (mergeR r s)).Nodup := (Mrg.start hn hs).fold.nd
theorem rmerge_tri (r s : List It) (hb : (r.length + s.length) * 24 ≤ LB) (hn : (nms r).Nodup) (hs : Sorted r) (hsz : ∀ x ∈ s, x.2.size < 4611686018427387904) :
    Tri Try.prog G0 43 2 0 [.own 0 0, .own 1 0] (rH2 r s)
      (fun o H' => o = .ret (.d (.int .i64 ((mergeR r s).length - r.length : Nat))) ∧ H' = rH2 (mergeR r s) s) := by
  simp only [LB] at hb
  refine tri_of_vc txok mixed [] [(13, .pure 0 (.pure 1 (.pure 2 (.pure 3 (.pure 4 (.take 5 (.pure 6 (.pure 7 (.pure 8 (.pure 9 (.take 10 (.fin 11 .done))))))))))))] Try.func43 rfl rfl (by simp) fun b => ?_
  conv => whnf
  refine loopH (fun i : Nat => i ≤ s.length ∧ r.length ≤ (mergeR r (s.take i)).length ∧ (mergeR r (s.take i)).length ≤ r.length + i) (fun i => s.length - i) (fun i => [(7, .d (.int .i64 i)), (5, .d (.int .i64 ((mergeR r (s.take i)).length - r.length : Nat)))]) (fun i => rH2 (mergeR r (s.take i)) s) 2 0 ⟨by simp, by simp [mergeR], by simp [mergeR]⟩ ?_ ?_
  · have e : (mergeR r (s.take 0)).length - r.length = 0 := by simp [mergeR]
    have e2 : mergeR r (s.take 0) = r := by simp [mergeR]
    simp only [e2, Nat.sub_self]
    exact weak_of rfl (by repeat ((conv => whnf); first | exact trivial | refine And.intro rfl ?_ | refine And.intro (incD (by omega)) ?_)) (by repeat ((conv => whnf); first | exact trivial | refine And.intro rfl ?_ | refine And.intro (incD (by omega)) ?_))
  rintro i ⟨hi, h3, h4⟩
  have hnd : (nms (mergeR r (s.take i))).Nodup := mrg_nodup hn hs
  conv => whnf
  refine And.intro (fun hc => ?_) (fun hc => ?_)
  · have hc : (i : Int) < (s.length : Int) := of_decide_eq_true hc
    have hil : i < s.length := by omega
    have hms := merge_succ (r := r) hil
    have hml := mstep_len hnd s[i]
    conv => whnf
    refine IdxC.encQ i hil rfl ?_
    conv => whnf
    refine callT [0] (rrank_tri (mergeR r (s.take i)) s[i].2 (by simp only [LB]; omega)) gf40 rfl rfl ⟨rfl, trivial⟩ rfl ?_
    rintro o' H' ⟨⟨hin, rfl⟩ | ⟨n, hmem, rfl⟩, rfl⟩
    · rw [if_neg hin] at hml
      have hst : mstep (mergeR r (s.take i)) s[i] = ins s[i] (mergeR r (s.take i)) := by
        unfold mstep; rw [if_neg hin]
      conv => whnf
      refine IdxC.encQ i hil rfl ?_
      conv => whnf
      refine callT [0] (rpush_tri (mergeR r (s.take i)) s[i] (by simp only [LB]; omega) (hsz _ (by simp))) gf37 rfl rfl ⟨rfl, trivial⟩ rfl ?_
      rintro o' H' (⟨hin', _⟩ | ⟨_, rfl, rfl⟩)
      · exact absurd hin' hin
      conv => whnf
      have e5 : (mergeR r (s.take i)).length + 1 - r.length = (mergeR r (s.take i)).length - r.length + 1 := by omega
      refine again (i + 1) (by omega) ⟨hil, by rw [hms, hml]; omega, by rw [hms, hml]; omega⟩ (weak_of rfl ?_ ?_)
      · simp only [hms, hml, e5]
        repeat ((conv => whnf); first | exact trivial | refine And.intro rfl ?_ | refine And.intro (incD (by omega)) ?_)
      · simp only [hms, hst]
        repeat ((conv => whnf); first | exact trivial | refine And.intro rfl ?_ | refine And.intro (incD (by omega)) ?_)
    · have hin : s[i].2 ∈ nms (mergeR r (s.take i)) := List.mem_map.2 ⟨_, hmem, rfl⟩
      rw [if_pos hin, Nat.add_zero] at hml
      have hrk := rkOf_eq hnd hmem
      conv => whnf
      refine IdxC.encQ i hil rfl ?_
      conv => whnf
      refine And.intro (fun hlt => ?_) (fun hlt => ?_)
      · have hlt := of_decide_eq_true hlt
        have hst : mstep (mergeR r (s.take i)) s[i] = ins (s[i].1, s[i].2) (rem s[i].2 (mergeR r (s.take i))) := by
          unfold mstep; rw [if_pos hin, hrk, if_pos hlt]
        conv => whnf
        refine And.intro (by kernel_rfl) ?_
        conv => whnf
        refine IdxC.encQ i hil rfl ?_
        conv => whnf
        refine IdxC.encQ i hil rfl ?_
        conv => whnf
        refine callT [0] (rmove_tri (mergeR r (s.take i)) s[i].2 s[i].1 (by simp only [LB]; omega) hnd (hsz _ (by simp))) gf41 rfl rfl ⟨rfl, trivial⟩ rfl ?_
        rintro o' H' (⟨hin', _⟩ | ⟨_, rfl, rfl⟩)
        · exact absurd hin hin'
        conv => whnf
        refine again (i + 1) (by omega) ⟨hil, by rw [hms, hml]; omega, by rw [hms, hml]; omega⟩ (weak_of rfl ?_ ?_)
        · simp only [hms, hml]
          repeat ((conv => whnf); first | exact trivial | refine And.intro rfl ?_ | refine And.intro (incD (by omega)) ?_)
        · simp only [hms, hst]
          repeat ((conv => whnf); first | exact trivial | refine And.intro rfl ?_ | refine And.intro (incD (by omega)) ?_)
      · have hlt := of_decide_eq_false hlt
        have hst : mstep (mergeR r (s.take i)) s[i] = mergeR r (s.take i) := by
          unfold mstep; rw [if_pos hin, hrk, if_neg hlt]
        conv => whnf
        refine again (i + 1) (by omega) ⟨hil, by rw [hms, hml]; omega, by rw [hms, hml]; omega⟩ (weak_of rfl ?_ ?_)
        · simp only [hms, hml]
          repeat ((conv => whnf); first | exact trivial | refine And.intro rfl ?_ | refine And.intro (incD (by omega)) ?_)
        · simp only [hms, hst]
          repeat ((conv => whnf); first | exact trivial | refine And.intro rfl ?_ | refine And.intro (incD (by omega)) ?_)
  · have hc : ¬ (i : Int) < (s.length : Int) := of_decide_eq_false hc
    have e : i = s.length := by omega
    subst e
    rw [List.take_length]
    conv => whnf
    exact ⟨rfl, rfl⟩
end Go.Proofs.Ytohhchcjfebkhaa

/- The law's one: an operation on both queues. -/
namespace Go.Proofs.Ytohhchcjfebkhaa
open Go.Vx Go.Vc Go.RowKit

/-- What an operation leaves. -/
def opR (r : List It) (o : OpT) : List It :=
  if o.k = 1 then (if o.n ∈ nms r then r else ins (o.r, o.n) r)
  else if o.k = 2 then r.tail
  else if o.k = 5 then (if o.n ∈ nms r then ins (o.r, o.n) (rem o.n r) else r)
  else if o.k = 6 then rem o.n r
  else if o.k = 7 then mergeR r (newS o.l)
  else r
def OkB (o : Out) : Prop := o = .ret (.d (.bool true)) ∨ o = .ret (.kb true)
abbrev pH (l : List It) (mp : ByteArray → Option Int) (r : List It) : Hp := qH l mp ++ [(3, .blk 51 [.d (dQ r)])]
structure SmOp (o : OpT) : Prop where
  n : o.n.size < 4611686018427387904
  l : ∀ x ∈ o.l, x.2.size < 4611686018427387904
theorem rem_not {s : ByteArray} {r : List It} (h : s ∉ nms r) : rem s r = r := by
  unfold rem
  rw [List.filter_eq_self]
  intro x hx
  simp only [ne_eq, decide_eq_true_eq]
  rintro rfl
  exact h (List.mem_map_of_mem hx)
theorem rank_one {r : List It} (hn : (nms r).Nodup) {n n' : Int} {s : ByteArray} (h : (n, s) ∈ r) (h' : (n', s) ∈ r) : n = n' := by
  obtain ⟨i, hi, e1⟩ := List.mem_iff_getElem.1 h
  obtain ⟨k, hk, e2⟩ := List.mem_iff_getElem.1 h'
  have := name_inj hn hi hk (by rw [e1, e2])
  subst this
  rw [e1] at e2
  injection e2
theorem newQ_sub {l : List It} {x : It} (h : x ∈ newQ l) : x ∈ l := by
  have key : ∀ (l acc : List It) (x : It), x ∈ l.foldl addQ acc → x ∈ acc ∨ x ∈ l := by
    intro l
    induction l with
    | nil => intro acc x h; exact .inl h
    | cons y l ih =>
      intro acc x h
      rcases ih _ _ h with h | h
      · unfold addQ at h
        split at h
        · exact .inl h
        · rcases List.mem_append.1 h with h | h
          · exact .inl h
          · exact .inr (by simp at h; simp [h])
      · exact .inr (by simp [h])
  rcases key l [] x h with h | h
  · simp at h
  · exact h
theorem newS_sub {l : List It} {x : It} (h : x ∈ newS l) : x ∈ l := newQ_sub ((srt_perm _).mem_iff.1 h)
theorem rem_le (s : ByteArray) (r : List It) : (rem s r).length ≤ r.length := List.length_filter_le _ _
theorem opR_len (r : List It) (o : OpT) (hn : (nms r).Nodup) (hs : Sorted r) : (opR r o).length ≤ r.length + 1 + o.l.length := by
  unfold opR
  split
  · split
    · omega
    · rw [ins_len]; omega
  split
  · have : r.tail.length ≤ r.length := by simp
    omega
  split
  · split
    · have := rem_le o.n r; rw [ins_len]; omega
    · omega
  split
  · have := rem_le o.n r; omega
  split
  · have := merge_len (s := newS o.l) hn hs; have := newS_len o.l; omega
  · omega
theorem one_tri (l : List It) (mp) (r : List It) (o : OpT) (hb : (r.length + 1 + o.l.length) * 24 ≤ LB) (ho : SmOp o) (h : QR l mp r) :
    Tri Try.prog G0 22 4 0 [.own 0 0, .own 3 0, .d (.agg (encOp o))] (pH l mp r) (fun out H' => OkB out ∧ ∃ l' mp', H' = pH l' mp' (opR r o) ∧ QR l' mp' (opR r o)) := by
  simp only [LB] at hb
  have hnd := h.nodup
  have hso := h.s
  refine tri_of_vc txok mixed [] ((100002, .done) :: (200003, .done) :: (200017, .done) :: (200019, .done) :: [(3, .pure 0 (.pure 1 (.take 2 (.pure 3 (.take 4 (.pure 5 (.pure 7 (.pure 8 (.take 9 (.pure 10 (.take 11 (.pure 12 (.run 6 (.fin 13 (.pure 14 (.pure 15 .done)))))))))))))))), (17, .pure 0 (.pure 1 (.take 2 (.pure 3 (.take 4 (.pure 6 (.pure 7 (.take 8 (.pure 9 (.take 10 (.run 5 (.fin 11 (.pure 12 (.pure 13 .done)))))))))))))), (19, .pure 0 (.pure 1 (.take 2 (.pure 4 (.pure 5 (.take 6 (.run 3 (.fin 7 (.pure 8 (.pure 9 .done))))))))))]) Try.func22 rfl rfl (by simp) fun b => ?_
  conv => whnf
  refine CutC.mk (fun st => st = ⟨[(0, .own 0 0), (1, .own 3 0), (5, .d (.ptr (encOp o) 0)), (18, .d (.int .i64 o.k))], pH l mp r, 5⟩) ?_ ?_
  · conv => whnf
    refine ⟨_, rfl, weak_pub (fun i => Nat.beq i 4) ?_⟩
    (conv => whnf)
    exact weak_of rfl (by repeat ((conv => whnf); first | exact trivial | refine And.intro rfl ?_ | refine And.intro (incD (by omega)) ?_)) (by repeat ((conv => whnf); first | exact trivial | refine And.intro rfl ?_ | refine And.intro (incD (by omega)) ?_))
  rintro st' rfl
  conv => whnf
  refine And.intro (fun h1 => ?_) (fun h1 => ?_)
  · have h1 : o.k = 1 := eq_of_beq h1
    have e : opR r o = if o.n ∈ nms r then r else ins (o.r, o.n) r := by unfold opR; rw [if_pos h1]
    rw [e]
    conv => whnf
    refine And.intro (by kernel_rfl) ?_
    conv => whnf
    refine callT [0, 1, 2] (pushR_tri l mp r (o.r, o.n) (by simp only [LB]; omega) h) gf19 rfl rfl ⟨rfl, rfl, rfl, trivial⟩ rfl ?_
    rintro o' H' (⟨hin, rfl, l2, mp2, rfl, h2⟩ | ⟨hin, rfl, l2, mp2, rfl, h2⟩)
    · conv => whnf
      refine callT [3] (rpush_tri r (o.r, o.n) (by simp only [LB]; omega) ho.n) gf37 rfl rfl ⟨rfl, trivial⟩ rfl ?_
      rintro o' H' (⟨_, rfl, rfl⟩ | ⟨hin', _⟩)
      rotate_left
      · exact absurd hin hin'
      rw [if_pos hin]
      conv => whnf
      exact ⟨.inl rfl, l2, mp2, rfl, h2⟩
    · conv => whnf
      refine callT [3] (rpush_tri r (o.r, o.n) (by simp only [LB]; omega) ho.n) gf37 rfl rfl ⟨rfl, trivial⟩ rfl ?_
      rintro o' H' (⟨hin', _⟩ | ⟨_, rfl, rfl⟩)
      · exact absurd hin' hin
      rw [if_neg hin]
      conv => whnf
      exact ⟨.inl rfl, l2, mp2, rfl, h2⟩
  have h1 : o.k ≠ 1 := by have := ne_of_beq_false h1; exact this
  conv => whnf
  refine And.intro (fun h2 => ?_) (fun h2 => ?_)
  · have h2 : o.k = 2 := eq_of_beq h2
    have e : opR r o = r.tail := by unfold opR; rw [if_neg h1, if_pos h2]
    rw [e]
    conv => whnf
    refine callT [0, 1, 2] (peekR_tri l mp r h) gf30 rfl rfl ⟨rfl, rfl, rfl, trivial⟩ rfl ?_
    rintro o' H' ⟨hp, rfl⟩
    rcases hp with ⟨rfl, rfl⟩ | ⟨y, t, rfl, rfl⟩
    · conv => whnf
      refine callT [3] (rpeek_tri []) gf38 rfl rfl ⟨rfl, trivial⟩ rfl ?_
      rintro o' H' ⟨hp, rfl⟩
      rcases hp with ⟨_, rfl⟩ | ⟨y, t, hx, _⟩
      rotate_left
      · cases hx
      conv => whnf
      refine And.intro (fun _ => ?_) (fun h' => absurd h' (by simp [h2]))
      conv => whnf
      refine callT [0, 1, 2] (popR_tri l mp _ (by simp only [LB]; simp at hb ⊢; try omega) h) gf13 rfl rfl ⟨rfl, rfl, rfl, trivial⟩ rfl ?_
      rintro o' H' (⟨_, rfl, l2, mp2, rfl, h3⟩ | ⟨y, t, hx, _⟩)
      rotate_left
      · cases hx
      conv => whnf
      refine callT [3] (rpop_tri _ (by simp only [LB]; simp at hb ⊢; try omega) hnd) gf39 rfl rfl ⟨rfl, trivial⟩ rfl ?_
      rintro o' H' (⟨_, rfl, rfl⟩ | ⟨y, t, hx, _⟩)
      rotate_left
      · cases hx
      conv => whnf
      refine And.intro (fun _ => ?_) (fun h' => absurd h' (by simp))
      conv => whnf
      refine And.intro (fun _ => ?_) (fun h' => absurd h' (by simp))
      conv => whnf
      exact ⟨.inl rfl, l2, mp2, rfl, h3⟩
    · conv => whnf
      refine callT [3] (rpeek_tri (y :: t)) gf38 rfl rfl ⟨rfl, trivial⟩ rfl ?_
      rintro o' H' ⟨hp, rfl⟩
      rcases hp with ⟨hx, _⟩ | ⟨y', t', hx, rfl⟩
      · cases hx
      injection hx with hx1 hx2
      subst hx1; subst hx2
      conv => whnf
      refine And.intro (fun _ => ?_) (fun h' => absurd h' (by simp [h2]))
      conv => whnf
      refine callT [0, 1, 2] (popR_tri l mp _ (by simp only [LB]; simp at hb ⊢; try omega) h) gf13 rfl rfl ⟨rfl, rfl, rfl, trivial⟩ rfl ?_
      rintro o' H' (⟨hx, _⟩ | ⟨y', t', hx, rfl, l2, mp2, rfl, h3⟩)
      · cases hx
      injection hx with hx1 hx2
      subst hx1; subst hx2
      conv => whnf
      refine callT [3] (rpop_tri _ (by simp only [LB]; simp at hb ⊢; try omega) hnd) gf39 rfl rfl ⟨rfl, trivial⟩ rfl ?_
      rintro o' H' (⟨hx, _⟩ | ⟨y', t', hx, rfl, rfl⟩)
      · cases hx
      injection hx with hx1 hx2
      subst hx1; subst hx2
      conv => whnf
      refine And.intro (fun _ => ?_) (fun h' => absurd h' (by simp))
      conv => whnf
      refine And.intro (fun _ => ?_) (fun h' => absurd h' (by simp))
      conv => whnf
      exact ⟨.inl rfl, l2, mp2, rfl, h3⟩
  have h2 : o.k ≠ 2 := by have := ne_of_beq_false h2; exact this
  conv => whnf
  refine And.intro (fun h3 => ?_) (fun h3 => ?_)
  · have h3 : o.k = 3 := eq_of_beq h3
    have e : opR r o = r := by unfold opR; rw [if_neg h1, if_neg h2, if_neg (by omega), if_neg (by omega), if_neg (by omega)]
    rw [e]
    conv => whnf
    refine callT [0, 1, 2] (peekR_tri l mp r h) gf30 rfl rfl ⟨rfl, rfl, rfl, trivial⟩ rfl ?_
    rintro o' H' ⟨hp, rfl⟩
    rcases hp with ⟨rfl, rfl⟩ | ⟨y, t, rfl, rfl⟩
    · conv => whnf
      refine callT [3] (rpeek_tri []) gf38 rfl rfl ⟨rfl, trivial⟩ rfl ?_
      rintro o' H' ⟨hp, rfl⟩
      rcases hp with ⟨_, rfl⟩ | ⟨y, t, hx, _⟩
      rotate_left
      · cases hx
      conv => whnf
      refine And.intro (fun h' => absurd h' (by simp [h2])) (fun _ => ?_)
      conv => whnf
      refine And.intro (fun _ => ?_) (fun h' => absurd h' (by simp))
      conv => whnf
      refine And.intro (fun _ => ?_) (fun h' => absurd h' (by simp))
      conv => whnf
      exact ⟨.inl rfl, l, mp, rfl, h⟩
    · conv => whnf
      refine callT [3] (rpeek_tri (y :: t)) gf38 rfl rfl ⟨rfl, trivial⟩ rfl ?_
      rintro o' H' ⟨hp, rfl⟩
      rcases hp with ⟨hx, _⟩ | ⟨y', t', hx, rfl⟩
      · cases hx
      injection hx with hx1 hx2
      subst hx1; subst hx2
      conv => whnf
      refine And.intro (fun h' => absurd h' (by simp [h2])) (fun _ => ?_)
      conv => whnf
      refine And.intro (fun _ => ?_) (fun h' => absurd h' (by simp))
      conv => whnf
      refine And.intro (fun _ => ?_) (fun h' => absurd h' (by simp))
      conv => whnf
      exact ⟨.inl rfl, l, mp, rfl, h⟩
  have h3 : o.k ≠ 3 := by have := ne_of_beq_false h3; exact this
  conv => whnf
  refine And.intro (fun h4 => ?_) (fun h4 => ?_)
  · have h4 : o.k = 4 := eq_of_beq h4
    have e : opR r o = r := by unfold opR; rw [if_neg h1, if_neg h2, if_neg (by omega), if_neg (by omega), if_neg (by omega)]
    rw [e]
    conv => whnf
    refine callT [0, 1, 2] (rankR_tri l mp r o.n h) gf33 rfl rfl ⟨rfl, rfl, rfl, trivial⟩ rfl ?_
    rintro o' H' ⟨⟨hn, rfl⟩ | ⟨n, hn, rfl⟩, rfl⟩
    · conv => whnf
      refine callT [3] (rrank_tri r o.n (by simp only [LB]; omega)) gf40 rfl rfl ⟨rfl, trivial⟩ rfl ?_
      rintro o' H' ⟨⟨_, rfl⟩ | ⟨n, hn', _⟩, rfl⟩
      rotate_left
      · exact absurd (List.mem_map_of_mem (f := (·.2)) hn') hn
      conv => whnf
      refine And.intro (fun _ => ?_) (fun h' => absurd h' (by simp))
      conv => whnf
      exact ⟨.inl rfl, l, mp, rfl, h⟩
    · conv => whnf
      refine callT [3] (rrank_tri r o.n (by simp only [LB]; omega)) gf40 rfl rfl ⟨rfl, trivial⟩ rfl ?_
      rintro o' H' ⟨⟨hn', _⟩ | ⟨n', hn', rfl⟩, rfl⟩
      · exact absurd (List.mem_map_of_mem (f := (·.2)) hn) hn'
      obtain rfl : n = n' := rank_one hnd hn hn'
      conv => whnf
      refine And.intro (fun _ => ?_) (fun h' => absurd h' (by simp))
      conv => whnf
      exact ⟨.inl rfl, l, mp, rfl, h⟩
  have h4 : o.k ≠ 4 := by have := ne_of_beq_false h4; exact this
  conv => whnf
  refine And.intro (fun h5 => ?_) (fun h5 => ?_)
  · have h5 : o.k = 5 := eq_of_beq h5
    have e : opR r o = if o.n ∈ nms r then ins (o.r, o.n) (rem o.n r) else r := by unfold opR; rw [if_neg h1, if_neg h2, if_pos h5]
    rw [e]
    conv => whnf
    refine And.intro (by kernel_rfl) ?_
    conv => whnf
    refine callT [0, 1, 2] (moveR_tri l mp r o.n o.r (by simp only [LB]; omega) h) gf17 rfl rfl ⟨rfl, rfl, rfl, trivial⟩ rfl ?_
    rintro o' H' (⟨hin, rfl, l2, mp2, rfl, h2'⟩ | ⟨hin, rfl, l2, mp2, rfl, h2'⟩)
    · conv => whnf
      refine callT [3] (rmove_tri r o.n o.r (by simp only [LB]; omega) hnd ho.n) gf41 rfl rfl ⟨rfl, trivial⟩ rfl ?_
      rintro o' H' (⟨_, rfl, rfl⟩ | ⟨hin', _⟩)
      rotate_left
      · exact absurd hin' hin
      rw [if_neg hin]
      conv => whnf
      exact ⟨.inl rfl, l2, mp2, rfl, h2'⟩
    · conv => whnf
      refine callT [3] (rmove_tri r o.n o.r (by simp only [LB]; omega) hnd ho.n) gf41 rfl rfl ⟨rfl, trivial⟩ rfl ?_
      rintro o' H' (⟨hin', _⟩ | ⟨_, rfl, rfl⟩)
      · exact absurd hin hin'
      rw [if_pos hin]
      conv => whnf
      exact ⟨.inl rfl, l2, mp2, rfl, h2'⟩
  have h5 : o.k ≠ 5 := by have := ne_of_beq_false h5; exact this
  conv => whnf
  refine And.intro (fun h6 => ?_) (fun h6 => ?_)
  · have h6 : o.k = 6 := eq_of_beq h6
    have e : opR r o = rem o.n r := by unfold opR; rw [if_neg h1, if_neg h2, if_neg h5, if_pos h6]
    rw [e]
    conv => whnf
    refine And.intro (by kernel_rfl) ?_
    conv => whnf
    refine callT [0, 1, 2] (removeR_tri l mp r o.n (by simp only [LB]; omega) h) gf18 rfl rfl ⟨rfl, rfl, rfl, trivial⟩ rfl ?_
    rintro o' H' (⟨hin, rfl, l2, mp2, rfl, h2'⟩ | ⟨hin, rfl, l2, mp2, rfl, h2'⟩)
    · conv => whnf
      refine callT [3] (rremove_tri r o.n (by simp only [LB]; omega) hnd) gf42 rfl rfl ⟨rfl, trivial⟩ rfl ?_
      rintro o' H' (⟨_, rfl, rfl⟩ | ⟨hin', _⟩)
      rotate_left
      · exact absurd hin' hin
      rw [rem_not hin]
      conv => whnf
      exact ⟨.inl rfl, l2, mp2, rfl, h2'⟩
    · conv => whnf
      refine callT [3] (rremove_tri r o.n (by simp only [LB]; omega) hnd) gf42 rfl rfl ⟨rfl, trivial⟩ rfl ?_
      rintro o' H' (⟨hin', _⟩ | ⟨_, rfl, rfl⟩)
      · exact absurd hin hin'
      conv => whnf
      exact ⟨.inl rfl, l2, mp2, rfl, h2'⟩
  have h6 : o.k ≠ 6 := by have := ne_of_beq_false h6; exact this
  conv => whnf
  refine And.intro (fun h7 => ?_) (fun h7 => ?_)
  · have h7 : o.k = 7 := eq_of_beq h7
    have e : opR r o = mergeR r (newS o.l) := by unfold opR; rw [if_neg h1, if_neg h2, if_neg h5, if_neg h6, if_pos h7]
    rw [e]
    have hs := newS_len o.l
    conv => whnf
    refine callF (mine_fn o.l) gf10 rfl rfl ?_
    conv => whnf
    refine callT [] (newR_new o.l) gf9 rfl rfl trivial rfl ?_
    rintro o' H' ⟨rfl, l3, mp3, rfl, h3'⟩
    conv => whnf
    refine callT [] (rnew_tri o.l ho.l) gf21 rfl rfl trivial rfl ?_
    rintro o' H' ⟨rfl, rfl⟩
    conv => whnf
    refine callT [0, 1, 2, 5, 6, 7] (merge_tri l mp l3 mp3 _ _ (by simp only [LB]; omega) h h3') gf20 rfl rfl ⟨rfl, rfl, rfl, rfl, rfl, rfl, trivial⟩ rfl ?_
    rintro o' H' ⟨hge, rfl, l2, mp2, rfl, h2'⟩
    conv => whnf
    refine callT [3, 8] (rmerge_tri r (newS o.l) (by simp only [LB]; omega) hnd hso (fun x hx => ho.l x (newS_sub hx))) gf43 rfl rfl ⟨rfl, rfl, trivial⟩ rfl ?_
    rintro o' H' ⟨rfl, rfl⟩
    conv => whnf
    refine And.intro (fun _ => ?_) (fun h' => absurd h' (by simp))
    conv => whnf
    refine callT [5, 6, 7] (itemsR_tri l3 mp3 _ (by simp only [LB]; omega) h3') gf11 rfl rfl ⟨rfl, rfl, rfl, trivial⟩ rfl ?_
    rintro o' H' ⟨rfl, rfl⟩
    conv => whnf
    refine callT [8] (ritems_tri (newS o.l)) gf24 rfl rfl ⟨rfl, trivial⟩ rfl ?_
    rintro o' H' ⟨rfl, rfl⟩
    conv => whnf
    refine callF (same_fn _ _) gf23 rfl rfl ?_
    conv => whnf
    exact ⟨.inl (by simp), l2, mp2, rfl, h2'⟩
  · have h7 : o.k ≠ 7 := by have := ne_of_beq_false h7; exact this
    have e : opR r o = r := by unfold opR; rw [if_neg h1, if_neg h2, if_neg h5, if_neg h6, if_neg h7]
    rw [e]
    conv => whnf
    exact ⟨.inr rfl, l, mp, rfl, h⟩
end Go.Proofs.Ytohhchcjfebkhaa

