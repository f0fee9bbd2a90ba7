/- the methods over sorted lists, the law's helpers (texts Kl to Ko, joined) -/
import Derived.Test.YtohhchcjfebkhaaJi
set_option linter.unusedVariables false
set_option linter.unusedSimpArgs false
/- Sorted lists of items: plain; mine, equal, same. -/
namespace Go.Proofs.Ytohhchcjfebkhaa
open Go.Vx Go.Vc Go.RowKit

/-- An item put in where it belongs. -/
def ins (x : It) : List It → List It
  | [] => [x]
  | y :: r => if lt x y then x :: y :: r else y :: ins x r
theorem ins_perm (x : It) : ∀ l, (ins x l).Perm (l ++ [x])
  | [] => .refl _
  | y :: r => by
    unfold ins
    split
    · exact (List.perm_append_comm (l₁ := [x]) (l₂ := y :: r))
    · exact (ins_perm x r).cons y
theorem ins_sorted {x : It} : ∀ {l : List It}, Sorted l → Sorted (ins x l)
  | [], _ => by simp [ins, Sorted]
  | y :: r, h => by
    unfold Sorted at h
    rw [List.pairwise_cons] at h
    unfold ins
    split
    · rename_i hxy
      refine List.pairwise_cons.2 ⟨fun z hz => ?_, List.pairwise_cons.2 h⟩
      rcases List.mem_cons.1 hz with rfl | hz
      · exact lt_asymm hxy
      · exact le_trans (lt_asymm hxy) (h.1 z hz)
    · rename_i hxy
      refine List.pairwise_cons.2 ⟨fun z hz => ?_, ins_sorted h.2⟩
      rcases List.mem_append.1 ((ins_perm x r).mem_iff.1 hz) with hz | hz
      · exact h.1 z hz
      · rw [List.mem_singleton] at hz; subst hz; exact hxy
def srt (l : List It) : List It := l.foldl (fun r x => ins x r) []
theorem srt_spec (l : List It) : (srt l).Perm l ∧ Sorted (srt l) := by
  have : ∀ (l acc : List It), Sorted acc → (l.foldl (fun r x => ins x r) acc).Perm (acc ++ l) ∧ Sorted (l.foldl (fun r x => ins x r) acc) := by
    intro l
    induction l with
    | nil => intro acc h; exact ⟨by simp, h⟩
    | cons x r ih =>
      intro acc h
      obtain ⟨h1, h2⟩ := ih (ins x acc) (ins_sorted h)
      refine ⟨h1.trans (((ins_perm x acc).append_right r).trans ?_), h2⟩
      simp
  simpa [srt] using this l [] .nil
theorem srt_perm (l : List It) : (srt l).Perm l := (srt_spec l).1
theorem srt_sorted (l : List It) : Sorted (srt l) := (srt_spec l).2
/-- There is one sorted list. -/
theorem sorted_eq {l m : List It} (h : l.Perm m) (hl : Sorted l) (hm : Sorted m) : l = m :=
  h.eq_of_pairwise (fun a b _ _ h1 h2 => by
    rcases lt_tri a b with h3 | h3 | h3
    · exact absurd h3 h2
    · exact h3
    · exact absurd h3 h1) hl hm
theorem srt_eq {l m : List It} (h : l.Perm m) : srt l = srt m := sorted_eq ((srt_perm l).trans (h.trans (srt_perm m).symm)) (srt_sorted l) (srt_sorted m)
theorem srt_self {l : List It} (h : Sorted l) : srt l = l := sorted_eq (srt_perm l) (srt_sorted l) h
theorem srt_len (l : List It) : (srt l).length = l.length := (srt_perm l).length_eq
theorem itemsS_tri (l : List It) (mp) (hl : l.length * 24 ≤ LB) : Tri Try.prog G0 11 3 0 [.own 0 0] (qH l mp) (qR (.d (dQ (srt l))) l mp) := by
  intro e w vs h1 h2 h3 h4
  refine (items_tri l mp hl e w vs h1 h2 h3 h4).mono ?_
  rintro en w' ⟨o, H', e', ⟨⟨ys, hp, hs, rfl⟩, rfl⟩, q2, q3⟩
  obtain rfl : ys = srt l := sorted_eq (hp.trans (srt_perm l).symm) hs (srt_sorted l)
  exact ⟨_, _, e', ⟨rfl, rfl⟩, q2, q3⟩

theorem twoF {α β : Type} {f : α → β} {l : List α} {a b : β} (h : l.map f = [a, b]) : ∃ x y, l = [x, y] ∧ f x = a ∧ f y = b := by
  rcases l with _ | ⟨x, _ | ⟨y, _ | ⟨z, r⟩⟩⟩
  · simp at h
  · simp at h
  · simp only [List.map_cons, List.map_nil, List.cons.injEq, and_true] at h
    exact ⟨x, y, rfl, h.1, h.2⟩
  · simp at h
theorem itTy : ItTy Try.prog 30 := by
  refine ⟨by kernel_rfl, by kernel_rfl, by kernel_rfl, fun a b s u w => ?_⟩
  have hf : (Try.prog.fieldsOf 30).toList.map (fun f => (f.name, f.type, f.offset)) = [("Rank", 3, 0), ("Name", 9, 1)] := by kernel_rfl
  obtain ⟨f1, f2, hl, h1, h2⟩ := twoF hf
  rw [hl]
  simp only [Prod.mk.injEq] at h1 h2
  obtain ⟨n1, t1, o1⟩ := h1
  obtain ⟨n2, t2, o2⟩ := h2
  have p1 : ∀ (x y : Value), (part 3 #[x, y] 0).run Try.prog w = .ok x w := fun x y => by kernel_rfl
  have p2 : ∀ (x y : Value), (part 9 #[x, y] 1).run Try.prog w = .ok y w := fun x y => by kernel_rfl
  unfold Op.eqFields
  rw [n1, t1, o1, if_pos (by decide)]
  rw [Sem.run_bind, p1]
  simp only [Result.andThen_ok]
  rw [Sem.run_bind, p1]
  simp only [Result.andThen_ok]
  rw [Sem.run_bind, show (9999 : Nat) = 9998 + 1 from rfl, run_equalIn_int _ _ _ _ .i64 _ _ Try.underlying3]
  simp only [Result.andThen_ok]
  cases hab : (a == b)
  · simp [go_sem]
  · simp only [Bool.not_true, Bool.false_eq_true, if_false, Bool.true_and]
    unfold Op.eqFields
    rw [n2, t2, o2, if_pos (by decide)]
    rw [Sem.run_bind, p2]
    simp only [Result.andThen_ok]
    rw [Sem.run_bind, p2]
    simp only [Result.andThen_ok]
    rw [Sem.run_bind, run_equalIn_string _ _ _ _ _ Try.underlying9]
    simp only [Result.andThen_ok]
    cases hsu : (s.toList == u.toList)
    · simp [go_sem]
    · simp [go_sem, Op.eqFields]
theorem mine_fn (l : List It) : FnR Try.prog G0 10 [dQ l] (dQ l) := by
  refine fnQ_sz fun hs => ?_
  have hl := (szOk_sl hs.1).1
  simp only [LB] at hl
  refine fnQ_of_vc txok mixed [(5, .pure 0 (.pure 1 (.pure 2 (.pure 3 (.pure 4 (.take 5 (.pure 6 (.pure 7 (.pure 8 (.pure 9 (.take 10 (.pure 11 (.fin 12 (.fin 13 (.pure 14 .done)))))))))))))))] Try.func10 rfl rfl (by simp) fun b => ?_
  conv => whnf
  refine loopH (fun i : Nat => i ≤ l.length) (fun i => l.length - i) (fun i => [(4, .d (.int .i64 i)), (3, .row 0)]) (fun i => [(0, .row 30 24 2 i (encQ (l.take i)))]) 1 0 (by omega) ((weak_nlT 3 30 24 2 rfl).trans (weak_of rfl (by repeat ((conv => whnf); first | exact trivial | refine And.intro rfl ?_ | refine And.intro (incD (by omega)) ?_)) (by repeat ((conv => whnf); first | exact trivial | refine And.intro rfl ?_ | refine And.intro (incD (by omega)) ?_)))) ?_
  intro i hi
  conv => whnf
  refine And.intro (fun hb => ?_) (fun hb => ?_)
  · have hb : (i : Int) < (l.length : Int) := of_decide_eq_true hb
    have hil : i < l.length := by omega
    conv => whnf
    refine And.intro (by kernel_rfl) ?_
    conv => whnf
    refine IdxC.encQ i hil rfl ?_
    conv => whnf
    refine IdxC.encQ i hil rfl ?_
    conv => whnf
    refine appR (i := 0) (sz := 2) (n := i) (m := 1) (xs := encQ (l.take i)) (ys := encIt l[i]) txok (fun k => Nat.blt 0 k) (i + 1) (encQ (l.take (i + 1))) (by exact rfl) (by exact rfl) (by exact rfl) (by kernel_rfl) (by exact rfl) (scalDs_mem (by exact rfl)) rfl (by rw [List.take_succ_eq_append_getElem hil, encQ_app]; rfl) (by simp only [LB]; omega) ?_
    conv => whnf
    exact again (i + 1) (by omega) (by omega) (weak_of rfl (by repeat ((conv => whnf); first | exact trivial | refine And.intro rfl ?_ | refine And.intro (incD (by omega)) ?_)) (by repeat ((conv => whnf); first | exact trivial | refine And.intro rfl ?_ | refine And.intro (incD (by omega)) ?_)))
  · have hb : ¬ (i : Int) < (l.length : Int) := of_decide_eq_false hb
    have e : i = l.length := by omega
    subst e
    rw [List.take_length]
    conv => whnf
end Go.Proofs.Ytohhchcjfebkhaa

/- equal, same. -/
namespace Go.Proofs.Ytohhchcjfebkhaa
open Go.Vx Go.Vc Go.RowKit

theorem it_eq {x y : It} : (x.1 == y.1 && x.2.toList == y.2.toList) = true ↔ x = y := by
  rw [Bool.and_eq_true, beq_iff_eq, beq_iff_eq]
  exact ⟨fun h => Prod.ext h.1 (toList_inj h.2), fun h => by rw [h]; exact ⟨rfl, rfl⟩⟩
theorem take_step {a b : List It} {i : Nat} (ha : i < a.length) (hb : i < b.length) (h : a.take i = b.take i) (he : a[i] = b[i]) : a.take (i + 1) = b.take (i + 1) := by
  rw [List.take_succ_eq_append_getElem ha, List.take_succ_eq_append_getElem hb, h, he]
theorem equal_fn (x y : List It) : FnR Try.prog G0 14 [dQ x, dQ y] (.bool (decide (x = y))) := by
  refine fnQ_sz fun hs => ?_
  have hl := (szOk_sl hs.1).1
  simp only [LB] at hl
  refine fnQ_of_vc txok mixed [(6, .pure 0 (.pure 1 (.pure 2 (.take 3 (.pure 4 (.pure 5 (.pure 6 (.take 7 (.fin 8 .done)))))))))] Try.func14 rfl rfl (by simp) fun b => ?_
  conv => whnf
  refine And.intro (fun h => ?_) (fun h => ?_)
  · have hne : x ≠ y := by rintro rfl; simp at h
    rw [decide_eq_false hne]
    conv => whnf
  have hlen : x.length = y.length := by simp at h; omega
  conv => whnf
  refine loopH (fun i : Nat => i ≤ x.length ∧ x.take i = y.take i) (fun i => x.length - i) (fun i => [(5, .d (.int .i64 i))]) (fun _ => []) 0 0 ⟨by omega, rfl⟩ (weak_of rfl (by repeat ((conv => whnf); first | exact trivial | refine And.intro rfl ?_ | refine And.intro (incD (by omega)) ?_)) (by repeat ((conv => whnf); first | exact trivial | refine And.intro rfl ?_ | refine And.intro (incD (by omega)) ?_))) ?_
  rintro i ⟨hi, hx⟩
  conv => whnf
  refine And.intro (fun hb => ?_) (fun hb => ?_)
  · have hb : (i : Int) < (x.length : Int) := of_decide_eq_true hb
    have hil : i < x.length := by omega
    have hil' : i < y.length := by omega
    conv => whnf
    refine And.intro (by kernel_rfl) ?_
    conv => whnf
    refine IdxC.encQ i hil rfl ?_
    conv => whnf
    refine IdxC.encQ i hil' rfl ?_
    conv => whnf
    refine neqItC itTy (by exact rfl) (by exact rfl) (by exact rfl) (isIt1 _ _) (isIt1 _ _) rfl ?_
    conv => whnf
    refine And.intro (fun he => ?_) (fun he => ?_)
    · have hne : x ≠ y := by
        rintro rfl
        rw [it_eq.2 rfl] at he; cases he
      rw [decide_eq_false hne]
      conv => whnf
    · have he : x[i] = y[i] := it_eq.1 (by simpa using he)
      conv => whnf
      exact again (i + 1) (by omega) ⟨by omega, take_step hil hil' hx he⟩ (weak_of rfl (by repeat ((conv => whnf); first | exact trivial | refine And.intro rfl ?_ | refine And.intro (incD (by omega)) ?_)) (by repeat ((conv => whnf); first | exact trivial | refine And.intro rfl ?_ | refine And.intro (incD (by omega)) ?_)))
  · have hb : ¬ (i : Int) < (x.length : Int) := of_decide_eq_false hb
    rw [List.take_of_length_le (by omega), List.take_of_length_le (by omega)] at hx
    rw [decide_eq_true hx]
    conv => whnf
theorem same_fn (x y : List It) : FnR Try.prog G0 23 [dQ x, dQ y] (.bool (decide (x = y))) := by
  refine fnQ_sz fun hs => ?_
  have hl := (szOk_sl hs.1).1
  simp only [LB] at hl
  refine fnQ_of_vc txok mixed [(6, .pure 0 (.pure 1 (.pure 2 (.pure 3 (.take 4 (.pure 5 (.pure 6 (.pure 7 (.pure 8 (.take 9 (.pure 10 (.pure 11 (.pure 12 (.pure 13 (.pure 14 (.pure 15 (.take 16 (.pure 17 (.pure 18 (.pure 19 (.pure 20 (.take 21 (.pure 22 (.pure 23 .done))))))))))))))))))))))))] Try.func23 rfl rfl (by simp) fun b => ?_
  conv => whnf
  refine And.intro (fun h => ?_) (fun h => ?_)
  · have hne : x ≠ y := by rintro rfl; simp at h
    rw [decide_eq_false hne]
    conv => whnf
  have hlen : x.length = y.length := by simp at h; omega
  conv => whnf
  refine loopH (fun i : Nat => i ≤ x.length ∧ x.take i = y.take i) (fun i => x.length - i) (fun i => [(5, .d (.int .i64 i))]) (fun _ => []) 0 0 ⟨by omega, rfl⟩ (weak_of rfl (by repeat ((conv => whnf); first | exact trivial | refine And.intro rfl ?_ | refine And.intro (incD (by omega)) ?_)) (by repeat ((conv => whnf); first | exact trivial | refine And.intro rfl ?_ | refine And.intro (incD (by omega)) ?_))) ?_
  rintro i ⟨hi, hx⟩
  conv => whnf
  refine And.intro (fun hb => ?_) (fun hb => ?_)
  · have hb : (i : Int) < (x.length : Int) := of_decide_eq_true hb
    have hil : i < x.length := by omega
    have hil' : i < y.length := by omega
    conv => whnf
    refine And.intro (by kernel_rfl) ?_
    conv => whnf
    refine IdxC.encQ i hil rfl ?_
    conv => whnf
    refine IdxC.encQ i hil' rfl ?_
    conv => whnf
    refine And.intro (fun h1 => ?_) (fun h1 => ?_)
    · have h1 : x[i].1 = y[i].1 := by simpa using h1
      conv => whnf
      refine IdxC.encQ i hil rfl ?_
      conv => whnf
      refine IdxC.encQ i hil' rfl ?_
      conv => whnf
      refine And.intro (fun h2 => ?_) (fun h2 => ?_)
      · have hne : x ≠ y := by
          rintro rfl
          simp at h2
        rw [decide_eq_false hne]
        conv => whnf
      · have h2 : x[i].2.toList = y[i].2.toList := by simpa using h2
        conv => whnf
        exact again (i + 1) (by omega) ⟨by omega, take_step hil hil' hx (Prod.ext h1 (toList_inj h2))⟩ (weak_of rfl (by repeat ((conv => whnf); first | exact trivial | refine And.intro rfl ?_ | refine And.intro (incD (by omega)) ?_)) (by repeat ((conv => whnf); first | exact trivial | refine And.intro rfl ?_ | refine And.intro (incD (by omega)) ?_)))
    · have hne : x ≠ y := by
        rintro rfl
        simp at h1
      rw [decide_eq_false hne]
      conv => whnf
  · have hb : ¬ (i : Int) < (x.length : Int) := of_decide_eq_false hb
    rw [List.take_of_length_le (by omega), List.take_of_length_le (by omega)] at hx
    rw [decide_eq_true hx]
    conv => whnf
end Go.Proofs.Ytohhchcjfebkhaa

/- The queue's methods, over sorted lists. -/
namespace Go.Proofs.Ytohhchcjfebkhaa
open Go.Vx Go.Vc Go.RowKit

abbrev nms (l : List It) : List ByteArray := l.map (·.2)
/-- The items of other names. -/
def rem (s : ByteArray) (l : List It) : List It := l.filter fun x => decide (x.2 ≠ s)
theorem rem_perm {l m : List It} (h : l.Perm m) (s : ByteArray) : (rem s l).Perm (rem s m) := h.filter _
theorem rem_sorted {l : List It} (h : Sorted l) (s : ByteArray) : Sorted (rem s l) := List.Pairwise.filter _ h
theorem rem_self {l : List It} {s : ByteArray} (h : s ∉ nms l) : rem s l = l := by
  unfold rem
  rw [List.filter_eq_self]
  intro x hx
  simp only [decide_eq_true_eq]
  rintro rfl
  exact h (List.mem_map.2 ⟨x, hx, rfl⟩)
theorem rem_app (s : ByteArray) (l m : List It) : rem s (l ++ m) = rem s l ++ rem s m := by simp [rem]
/-- An item taken out. -/
theorem out_perm {l l' : List It} {x : It} (hp : (l' ++ [x]).Perm l) (hn : (nms l).Nodup) : l'.Perm (rem x.2 l) := by
  have h1 := rem_perm hp x.2
  rw [rem_app] at h1
  have hn' : (nms (l' ++ [x])).Nodup := (hp.map (·.2)).nodup_iff.2 hn
  have hx : x.2 ∉ nms l' := by
    simp only [nms, List.map_append, List.map_cons, List.map_nil, List.nodup_append] at hn'
    intro hm
    exact hn'.2.2 x.2 hm x.2 (by simp) rfl
  rw [rem_self hx, show rem x.2 [x] = [] from by simp [rem], List.append_nil] at h1
  exact h1
theorem erase_perm {l : List It} {i : Nat} (h : i < l.length) : (l[i] :: l.eraseIdx i).Perm l := by
  rw [List.eraseIdx_eq_take_drop_succ]
  conv => rhs; rw [← List.take_append_drop i l, List.drop_eq_getElem_cons h]
  exact List.perm_middle.symm
theorem set_perm {l : List It} {i : Nat} (hi : i < l.length) (hn : (nms l).Nodup) (n : Int) : (l.set i (n, (ix l i).2)).Perm (rem (ix l i).2 l ++ [(n, (ix l i).2)]) := by
  have h1 : (l.eraseIdx i ++ [ix l i]).Perm l := by
    rw [ix_get hi]
    have := erase_perm hi
    exact (List.perm_append_comm (l₁ := l.eraseIdx i) (l₂ := [l[i]])).trans this
  have h2 := out_perm h1 hn
  refine List.Perm.trans ?_ (h2.append_right _)
  have h3 := erase_perm (l := l.set i (n, (ix l i).2)) (i := i) (by simpa using hi)
  simp only [List.getElem_set_self, List.eraseIdx_set_eq] at h3
  exact h3.symm.trans (List.perm_append_comm (l₁ := [_]))
/-- The least item. -/
theorem root_head {l r : List It} {y : It} {t : List It} (hh : Heap l l.length) (hp : l.Perm r) (hs : Sorted r) (hr : r = y :: t) : 0 < l.length ∧ ix l 0 = y := by
  subst hr
  have h0 : 0 < l.length := by rw [hp.length_eq]; simp
  refine ⟨h0, ?_⟩
  have hy : y ∈ l := hp.mem_iff.2 (by simp)
  obtain ⟨i, hi, rfl⟩ := ix_mem.1 hy
  have h1 := heap_root hh i hi
  have hm : ix l 0 ∈ ix l i :: t := hp.mem_iff.1 (ix_mem.2 ⟨0, h0, rfl⟩)
  unfold Sorted at hs
  rw [List.pairwise_cons] at hs
  rcases List.mem_cons.1 hm with h2 | h2
  · exact h2
  · have h3 := hs.1 _ h2
    rcases lt_tri (ix l 0) (ix l i) with h4 | h4 | h4
    · exact absurd h4 h3
    · exact h4
    · exact absurd h4 h1
/-- A queue whose items, in order, are r. -/
structure QR (l : List It) (mp : ByteArray → Option Int) (r : List It) : Prop where
  q : QOk l mp
  p : l.Perm r
  s : Sorted r
theorem QR.nodup {l mp r} (h : QR l mp r) : (nms r).Nodup := (h.p.map (·.2)).nodup_iff.1 h.q.m.nodup
theorem QR.len {l mp r} (h : QR l mp r) : l.length = r.length := h.p.length_eq
theorem QR.srt {l mp r} (h : QR l mp r) : Go.Proofs.Ytohhchcjfebkhaa.srt l = r := by rw [srt_eq h.p, srt_self h.s]
theorem QR.mem {l mp r} (h : QR l mp r) (s : ByteArray) : s ∈ l.map (·.2) ↔ s ∈ nms r := (h.p.map _).mem_iff
abbrev QTo (r : List It) (H' : Hp) : Prop := ∃ l' mp', H' = qH l' mp' ∧ QR l' mp' r

theorem pushR_tri (l : List It) (mp) (r : List It) (x : It) (hl : (r.length + 1) * 24 ≤ LB) (h : QR l mp r) : Tri Try.prog G0 19 3 0 [.own 0 0, .d (dIt x)] (qH l mp)
    (fun o H' => (x.2 ∈ nms r ∧ o = .ret (.kb false) ∧ QTo r H') ∨ (x.2 ∉ nms r ∧ o = .ret (.kb true) ∧ QTo (ins x r) H')) := by
  intro e w vs h1 h2 h3 h4
  refine (qpush_tri l mp x (by simp [h.len]; exact hl) h.q e w vs h1 h2 h3 h4).mono ?_
  rintro en w' ⟨o, H', e', hQ, q2, q3⟩
  refine ⟨o, H', e', ?_, q2, q3⟩
  rcases hQ with ⟨hm, rfl, rfl⟩ | ⟨hm, rfl, l', mp', rfl, hp, hq⟩
  · exact .inl ⟨(h.mem _).1 hm, rfl, l, mp, rfl, h⟩
  · exact .inr ⟨mt (h.mem _).2 hm, rfl, l', mp', rfl, hq, hp.trans ((h.p.append_right _).trans (ins_perm x r).symm), ins_sorted h.s⟩
theorem popR_tri (l : List It) (mp) (r : List It) (hl : r.length * 24 ≤ LB) (h : QR l mp r) : Tri Try.prog G0 13 3 0 [.own 0 0] (qH l mp)
    (fun o H' => (r = [] ∧ o = .ret (.tup [svIt (0, .empty), .kb false]) ∧ QTo [] H') ∨ (∃ y t, r = y :: t ∧ o = .ret (.tup [svIt y, .kb true]) ∧ QTo t H')) := by
  intro e w vs h1 h2 h3 h4
  refine (qpop_tri l mp (by rw [h.len]; exact hl) h.q e w vs h1 h2 h3 h4).mono ?_
  rintro en w' ⟨o, H', e', ⟨hp, hQ⟩, q2, q3⟩
  refine ⟨o, H', e', ?_, q2, q3⟩
  cases r with
  | nil =>
    have h0 : l.length = 0 := h.len
    rcases hp with ⟨_, rfl⟩ | ⟨hp, _⟩
    · rcases hQ with ⟨_, rfl⟩ | ⟨hQ, _⟩
      · exact .inl ⟨rfl, rfl, l, mp, rfl, h⟩
      · omega
    · omega
  | cons y t =>
    obtain ⟨h0, hy⟩ := root_head h.q.h h.p h.s rfl
    rcases hp with ⟨hp, _⟩ | ⟨_, rfl⟩
    · omega
    · rcases hQ with ⟨hQ, _⟩ | ⟨_, l', mp', rfl, hp', hq'⟩
      · omega
      · rw [hy] at hp' ⊢
        refine .inr ⟨y, t, rfl, rfl, l', mp', rfl, hq', ?_, (List.pairwise_cons.1 h.s).2⟩
        have h5 := (List.perm_append_comm (l₁ := [y]) (l₂ := l')).trans (hp'.trans h.p)
        exact h5.cons_inv
theorem peekR_tri (l : List It) (mp) (r : List It) (h : QR l mp r) : Tri Try.prog G0 30 3 0 [.own 0 0] (qH l mp)
    (fun o H' => ((r = [] ∧ o = .ret (.tup [svIt (0, .empty), .kb false])) ∨ (∃ y t, r = y :: t ∧ o = .ret (.tup [svIt y, .kb true]))) ∧ H' = qH l mp) := by
  intro e w vs h1 h2 h3 h4
  refine (peek_tri l mp e w vs h1 h2 h3 h4).mono ?_
  rintro en w' ⟨o, H', e', ⟨hp, rfl⟩, q2, q3⟩
  refine ⟨o, _, e', ⟨?_, rfl⟩, q2, q3⟩
  cases r with
  | nil =>
    have h0 : l.length = 0 := h.len
    rcases hp with ⟨_, rfl⟩ | ⟨hp, _⟩
    · exact .inl ⟨rfl, rfl⟩
    · omega
  | cons y t =>
    obtain ⟨h0, hy⟩ := root_head h.q.h h.p h.s rfl
    rcases hp with ⟨hp, _⟩ | ⟨_, rfl⟩
    · omega
    · rw [hy]; exact .inr ⟨y, t, rfl, rfl⟩
theorem rankR_tri (l : List It) (mp) (r : List It) (s : ByteArray) (h : QR l mp r) : Tri Try.prog G0 33 3 0 [.own 0 0, .d (.str s)] (qH l mp)
    (fun o H' => ((s ∉ nms r ∧ o = .ret (.tup [.d (.int .i64 0), .kb false])) ∨ (∃ n, (n, s) ∈ r ∧ o = .ret (.tup [.d (.int .i64 n), .kb true]))) ∧ H' = qH l mp) := by
  intro e w vs h1 h2 h3 h4
  refine (rank_tri l mp s h.q.m e w vs h1 h2 h3 h4).mono ?_
  rintro en w' ⟨o, H', e', ⟨hp, rfl⟩, q2, q3⟩
  refine ⟨o, _, e', ⟨?_, rfl⟩, q2, q3⟩
  rcases hp with ⟨hm, rfl⟩ | ⟨i, hi, hm, rfl, rfl⟩
  · exact .inl ⟨mt (h.mem s).2 (h.q.m.none_iff.1 hm), rfl⟩
  · exact .inr ⟨(ix l i).1, h.p.mem_iff.1 (ix_mem.2 ⟨i, hi, rfl⟩), rfl⟩
theorem moveR_tri (l : List It) (mp) (r : List It) (s : ByteArray) (n : Int) (hl : r.length * 24 ≤ LB) (h : QR l mp r) : Tri Try.prog G0 17 3 0 [.own 0 0, .d (.str s), .d (.int .i64 n)] (qH l mp)
    (fun o H' => (s ∉ nms r ∧ o = .ret (.kb false) ∧ QTo r H') ∨ (s ∈ nms r ∧ o = .ret (.kb true) ∧ QTo (ins (n, s) (rem s r)) H')) := by
  intro e w vs h1 h2 h3 h4
  refine (qmove_tri l mp s n (by rw [h.len]; exact hl) h.q e w vs h1 h2 h3 h4).mono ?_
  rintro en w' ⟨o, H', e', hQ, q2, q3⟩
  refine ⟨o, H', e', ?_, q2, q3⟩
  rcases hQ with ⟨hm, rfl, rfl⟩ | ⟨i, hi, rfl, rfl, l', mp', rfl, hp, hq⟩
  · exact .inl ⟨mt (h.mem _).2 hm, rfl, l, mp, rfl, h⟩
  · refine .inr ⟨(h.mem _).1 (List.mem_map.2 ⟨_, ix_mem.2 ⟨i, hi, rfl⟩, rfl⟩), rfl, l', mp', rfl, hq, ?_, ins_sorted (rem_sorted h.s _)⟩
    exact hp.trans ((set_perm hi h.q.m.nodup n).trans (((rem_perm h.p _).append_right _).trans (ins_perm _ _).symm))
theorem removeR_tri (l : List It) (mp) (r : List It) (s : ByteArray) (hl : r.length * 24 ≤ LB) (h : QR l mp r) : Tri Try.prog G0 18 3 0 [.own 0 0, .d (.str s)] (qH l mp)
    (fun o H' => (s ∉ nms r ∧ o = .ret (.kb false) ∧ QTo r H') ∨ (s ∈ nms r ∧ o = .ret (.kb true) ∧ QTo (rem s r) H')) := by
  intro e w vs h1 h2 h3 h4
  refine (qremove_tri l mp s (by rw [h.len]; exact hl) h.q e w vs h1 h2 h3 h4).mono ?_
  rintro en w' ⟨o, H', e', hQ, q2, q3⟩
  refine ⟨o, H', e', ?_, q2, q3⟩
  rcases hQ with ⟨hm, rfl, rfl⟩ | ⟨i, hi, rfl, rfl, l', mp', rfl, hp, hq⟩
  · exact .inl ⟨mt (h.mem _).2 hm, rfl, l, mp, rfl, h⟩
  · refine .inr ⟨(h.mem _).1 (List.mem_map.2 ⟨_, ix_mem.2 ⟨i, hi, rfl⟩, rfl⟩), rfl, l', mp', rfl, hq, ?_, rem_sorted h.s _⟩
    exact (out_perm hp h.q.m.nodup).trans (rem_perm h.p _)
theorem lenR_tri (l : List It) (mp) (r : List It) (h : QR l mp r) : Tri Try.prog G0 12 3 0 [.own 0 0] (qH l mp) (qR (.d (.int .i64 r.length)) l mp) := by
  rw [← h.len]; exact qlen_tri l mp
theorem itemsR_tri (l : List It) (mp) (r : List It) (hl : r.length * 24 ≤ LB) (h : QR l mp r) : Tri Try.prog G0 11 3 0 [.own 0 0] (qH l mp) (qR (.d (dQ r)) l mp) := by
  have := itemsS_tri l mp (by rw [h.len]; exact hl)
  rwa [h.srt] at this
/-- The items of a new queue, in order. -/
def newS (l : List It) : List It := srt (newQ l)
theorem newR_new (l : List It) : Tri Try.prog G0 9 0 3 [.d (dQ l)] [] (fun o H' => o = .ret (.own 0 0) ∧ QTo (newS l) H') := by
  intro e w vs h1 h2 h3 h4
  refine (new_tri l e w vs h1 h2 h3 h4).mono ?_
  rintro en w' ⟨o, H', e', ⟨rfl, l', mp', rfl, hp, hq⟩, q2, q3⟩
  exact ⟨_, _, e', ⟨rfl, l', mp', rfl, hq, hp.trans (srt_perm _).symm, srt_sorted _⟩, q2, q3⟩
theorem newS_len (l : List It) : (newS l).length ≤ l.length := by unfold newS; rw [srt_len]; exact newQ_len l
end Go.Proofs.Ytohhchcjfebkhaa

/- alive. -/
namespace Go.Proofs.Ytohhchcjfebkhaa
open Go.Vx Go.Vc Go.RowKit

abbrev bA : ByteArray := ⟨#[97]⟩
abbrev bB : ByteArray := ⟨#[98]⟩
abbrev bC : ByteArray := ⟨#[99]⟩
abbrev bZ : ByteArray := ⟨#[122]⟩
theorem t1 : newS [(2, bB), (1, bC), (1, bA), (0, bB)] = [(1, bA), (1, bC), (2, bB)] := by kernel_rfl
theorem t2 : ins (0, bB) (rem bB [(1, bA), (1, bC), (2, bB)]) = [(0, bB), (1, bA), (1, bC)] := by kernel_rfl
theorem ncz : bZ ∉ nms [(1, bA), (1, bC)] := by
  have h : (decide (bZ ∈ nms [(1, bA), (1, bC)])) = false := by kernel_rfl
  exact of_decide_eq_false h
theorem alive_fn : FnR Try.prog G0 16 [] (.bool true) := by
  refine fnQ_of_vc txok mixed [] Try.func16 rfl rfl (by simp) fun b => ?_
  conv => whnf
  refine pubC (fun k => Nat.beq k 0) ?_
  conv => whnf
  refine callT [] (newR_new [(2, bB), (1, bC), (1, bA), (0, bB)]) gf9 rfl rfl trivial rfl ?_
  rintro o' H' ⟨rfl, l1, mp1, rfl, h1⟩
  rw [t1] at h1
  conv => whnf
  refine callT [1, 2, 3] (lenR_tri l1 mp1 _ h1) gf12 rfl rfl ⟨rfl, rfl, rfl, trivial⟩ rfl ?_
  rintro o' H' ⟨rfl, rfl⟩
  conv => whnf
  refine And.intro (fun _ => ?_) (fun h => by simp at h)
  conv => whnf
  refine callT [1, 2, 3] (pushR_tri l1 mp1 _ (0, bC) (by simp [LB]) h1) gf19 rfl rfl ⟨rfl, rfl, rfl, trivial⟩ rfl ?_
  rintro o' H' (⟨hin, rfl, l2, mp2, rfl, h2⟩ | ⟨hin, _⟩)
  rotate_left
  · exact absurd (by simp) hin
  conv => whnf
  refine callT [1, 2, 3] (moveR_tri l2 mp2 _ bB 0 (by simp [LB]) h2) gf17 rfl rfl ⟨rfl, rfl, rfl, trivial⟩ rfl ?_
  rintro o' H' (⟨hin, _⟩ | ⟨hin, rfl, l3, mp3, rfl, h3⟩)
  · exact absurd (by simp) hin
  rw [t2] at h3
  conv => whnf
  refine callT [1, 2, 3] (popR_tri l3 mp3 _ (by simp [LB]) h3) gf13 rfl rfl ⟨rfl, rfl, rfl, trivial⟩ rfl ?_
  rintro o' H' (⟨hin, _⟩ | ⟨y, t, hin, rfl, l4, mp4, rfl, h4⟩)
  · cases hin
  injection hin with e1 e2
  subst e1; subst e2
  conv => whnf
  refine And.intro (fun _ => ?_) (fun h => absurd ((beq_self_eq_true _).symm.trans h) (by decide))
  conv => whnf
  refine And.intro (fun _ => ?_) (fun h => absurd ((beq_self_eq_true _).symm.trans h) (by decide))
  conv => whnf
  refine callT [1, 2, 3] (removeR_tri l4 mp4 _ bZ (by simp [LB]) h4) gf18 rfl rfl ⟨rfl, rfl, rfl, trivial⟩ rfl ?_
  rintro o' H' (⟨hin, rfl, l5, mp5, rfl, h5⟩ | ⟨hin, _⟩)
  rotate_left
  · exact absurd hin ncz
  conv => whnf
  refine callT [1, 2, 3] (lenR_tri l5 mp5 _ h5) gf12 rfl rfl ⟨rfl, rfl, rfl, trivial⟩ rfl ?_
  rintro o' H' ⟨rfl, rfl⟩
  conv => whnf
  rfl
end Go.Proofs.Ytohhchcjfebkhaa

