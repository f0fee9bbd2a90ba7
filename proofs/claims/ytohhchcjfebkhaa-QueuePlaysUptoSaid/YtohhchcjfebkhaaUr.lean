/- Queue: nil queues, QueueClones, QueuePlays (texts Uf Ug Uh, joined) -/
import Derived.Test.YtohhchcjfebkhaaUq
import Derived.Test.YtohhchcjfebkhaaWq
set_option linter.unusedVariables false
set_option linter.unusedSimpArgs false
/- Queues that are nil; one on these; Clone; Merge with nil and with itself. -/
namespace Go.Proofs.Ytohhchcjfebkhaa
open Go.Vx Go.Vc Go.RowKit

abbrev nilP : D := .val (.pointer none)
theorem len_nil : FnR Try.prog G0 12 [nilP] (.int .i64 0) := by
  refine fnQ_of_vc txok mixed [] Try.func12 rfl rfl (by simp) fun b => ?_
  conv => whnf
  try exact rfl
theorem push_nil (x : It) : FnR Try.prog G0 19 [nilP, dIt x] (.bool false) := by
  refine fnQ_of_vc txok mixed [] Try.func19 rfl rfl (by simp) fun b => ?_
  conv => whnf
  try exact rfl
theorem peek_nil : FnR Try.prog G0 30 [nilP] (.tup [dIt (0, .empty), .bool false]) := by
  refine fnQ_of_vc txok mixed [] Try.func30 rfl rfl (by simp) fun b => ?_
  conv => whnf
  refine callF len_nil gf12 rfl rfl ?_
  conv => whnf
  refine And.intro (fun _ => ?_) (fun h => absurd h (by simp))
  conv => whnf
  try exact rfl
theorem pop_nil : FnR Try.prog G0 13 [nilP] (.tup [dIt (0, .empty), .bool false]) := by
  refine fnQ_of_vc txok mixed [] Try.func13 rfl rfl (by simp) fun b => ?_
  conv => whnf
  refine callF peek_nil gf30 rfl rfl ?_
  conv => whnf
  refine And.intro (fun h => absurd h (by simp)) (fun _ => ?_)
  conv => whnf
  try exact rfl
theorem rank_nil (s : ByteArray) : FnR Try.prog G0 33 [nilP, .str s] (.tup [.int .i64 0, .bool false]) := by
  refine fnQ_of_vc txok mixed [] Try.func33 rfl rfl (by simp) fun b => ?_
  conv => whnf
  try exact rfl
theorem move_nil (s : ByteArray) (n : Int) : FnR Try.prog G0 17 [nilP, .str s, .int .i64 n] (.bool false) := by
  refine fnQ_of_vc txok mixed [] Try.func17 rfl rfl (by simp) fun b => ?_
  conv => whnf
  refine callF (rank_nil s) gf33 rfl rfl ?_
  conv => whnf
  refine And.intro (fun _ => ?_) (fun h => absurd h (by simp))
  conv => whnf
  try exact rfl
theorem remove_nil (s : ByteArray) : FnR Try.prog G0 18 [nilP, .str s] (.bool false) := by
  refine fnQ_of_vc txok mixed [] Try.func18 rfl rfl (by simp) fun b => ?_
  conv => whnf
  refine callF (rank_nil s) gf33 rfl rfl ?_
  conv => whnf
  refine And.intro (fun _ => ?_) (fun h => absurd h (by simp))
  conv => whnf
  try exact rfl
theorem items_nil : FnR Try.prog G0 11 [nilP] (dQ []) := by
  refine fnQ_of_vc txok mixed [] Try.func11 rfl rfl (by simp) fun b => ?_
  conv => whnf
  exact rfl
theorem clone_nil : FnR Try.prog G0 25 [nilP] nilP := by
  refine fnQ_of_vc txok mixed [] Try.func25 rfl rfl (by simp) fun b => ?_
  conv => whnf
  try exact rfl
theorem mergeN_tri (l' : List It) (mp') (s : List It) : Tri Try.prog G0 20 3 0 [.d nilP, .own 0 0] (qH l' mp') (fun o H' => o = .ret (.d (.int .i64 0)) ∧ H' = qH l' mp') := by
  refine tri_of_vc txok mixed [] [] Try.func20 rfl rfl (by simp) fun b => ?_
  conv => whnf
  exact ⟨rfl, rfl⟩
theorem merge_nil (l : List It) (mp) : Tri Try.prog G0 20 3 0 [.own 0 0, .d nilP] (qH l mp) (fun o H' => o = .ret (.d (.int .i64 0)) ∧ H' = qH l mp) := by
  refine tri_of_vc txok mixed [] [] Try.func20 rfl rfl (by simp) fun b => ?_
  conv => whnf
  refine callF items_nil gf11 rfl rfl ?_
  conv => whnf
  refine loopH (fun _ : Unit => True) (fun _ => 0) (fun _ => [(20, .d (.int .i64 0)), (5, .d (.int .i64 0))]) (fun _ => qH l mp) 3 () trivial (weak_of rfl ?_ (by repeat ((conv => whnf); first | exact trivial | refine And.intro rfl ?_ | refine And.intro (incD (by omega)) ?_))) ?_
  · repeat ((conv => whnf); first | exact trivial | refine And.intro rfl ?_ | refine And.intro (incD (by omega)) ?_)
  rintro ⟨⟩ _
  conv => whnf
  refine And.intro (fun h => absurd h (by simp)) (fun _ => ?_)
  conv => whnf
  exact ⟨rfl, rfl⟩
theorem merge_self (l : List It) (mp) : Tri Try.prog G0 20 3 0 [.own 0 0, .own 0 0] (qH l mp) (fun o H' => o = .ret (.d (.int .i64 0)) ∧ H' = qH l mp) := by
  refine tri_of_vc txok mixed [] [] Try.func20 rfl rfl (by simp) fun b => ?_
  conv => whnf
  refine ptrC (i := 0) (j := 0) txok true (by exact rfl) Try.underlying23 (by exact rfl) (by exact rfl) (by exact rfl) (by decide) (by exact rfl) (by exact rfl) ?_
  conv => whnf
  exact ⟨rfl, rfl⟩
-- the reference's
theorem rat_nil (s : ByteArray) : FnR Try.prog G0 52 [nilP, .str s] (.int .i64 (-1)) := by
  refine fnQ_of_vc txok mixed [] Try.func52 rfl rfl (by simp) fun b => ?_
  conv => whnf
  try exact rfl
theorem rpush_nil (x : It) : FnR Try.prog G0 37 [nilP, dIt x] (.bool false) := by
  refine fnQ_of_vc txok mixed [(8, .pure 0 (.pure 1 (.pure 2 (.take 3 (.pure 4 (.pure 5 (.pure 6 (.take 7 (.pure 8 (.pure 9 (.take 10 (.fin 11 (.pure 12 .done)))))))))))))] Try.func37 rfl rfl (by simp) fun b => ?_
  conv => whnf
  try exact rfl
theorem rpeek_nil : FnR Try.prog G0 38 [nilP] (.tup [dIt (0, .empty), .bool false]) := by
  refine fnQ_of_vc txok mixed [] Try.func38 rfl rfl (by simp) fun b => ?_
  conv => whnf
  try exact rfl
theorem rpop_nil : FnR Try.prog G0 39 [nilP] (.tup [dIt (0, .empty), .bool false]) := by
  refine fnQ_of_vc txok mixed [] Try.func39 rfl rfl (by simp) fun b => ?_
  conv => whnf
  refine callF rpeek_nil gf38 rfl rfl ?_
  conv => whnf
  refine And.intro (fun h => absurd h (by simp)) (fun _ => ?_)
  conv => whnf
  try exact rfl
theorem rrank_nil (s : ByteArray) : FnR Try.prog G0 40 [nilP, .str s] (.tup [.int .i64 0, .bool false]) := by
  refine fnQ_of_vc txok mixed [] Try.func40 rfl rfl (by simp) fun b => ?_
  conv => whnf
  refine callF (rat_nil s) gf52 rfl rfl ?_
  conv => whnf
  refine And.intro (fun _ => ?_) (fun h => absurd h (by decide))
  conv => whnf
  try exact rfl
theorem rremove_nil (s : ByteArray) : FnR Try.prog G0 42 [nilP, .str s] (.bool false) := by
  refine fnQ_of_vc txok mixed [] Try.func42 rfl rfl (by simp) fun b => ?_
  conv => whnf
  refine callF (rat_nil s) gf52 rfl rfl ?_
  conv => whnf
  refine And.intro (fun _ => ?_) (fun h => absurd h (by decide))
  conv => whnf
  try exact rfl
theorem rmove_nil (s : ByteArray) (n : Int) : FnR Try.prog G0 41 [nilP, .str s, .int .i64 n] (.bool false) := by
  refine fnQ_of_vc txok mixed [] Try.func41 rfl rfl (by simp) fun b => ?_
  conv => whnf
  refine callF (rremove_nil s) gf42 rfl rfl ?_
  conv => whnf
  refine And.intro (fun _ => ?_) (fun h => absurd h (by simp))
  conv => whnf
  try exact rfl
theorem rmergeN_tri (s : List It) : Tri Try.prog G0 43 1 0 [.d nilP, .own 0 0] (rH s) (fun o H' => o = .ret (.d (.int .i64 0)) ∧ H' = rH s) := by
  refine tri_of_vc txok mixed [] [(13, .pure 0 (.pure 1 (.pure 2 (.pure 3 (.pure 4 (.take 5 (.pure 6 (.pure 7 (.pure 8 (.pure 9 (.take 10 (.fin 11 .done))))))))))))] Try.func43 rfl rfl (by simp) fun b => ?_
  conv => whnf
  exact ⟨rfl, rfl⟩
theorem one_nil (o : OpT) (ho : SmOp o) (hb : o.l.length * 24 ≤ LB) : FnR Try.prog G0 22 [nilP, nilP, .agg (encOp o)] (.bool true) := by
  refine fnQ_of_vc txok mixed ((100002, .done) :: (200003, .done) :: (200017, .done) :: (200019, .done) :: [(3, .pure 0 (.pure 1 (.take 2 (.pure 3 (.take 4 (.pure 5 (.pure 7 (.pure 8 (.take 9 (.pure 10 (.take 11 (.pure 12 (.run 6 (.fin 13 (.pure 14 (.pure 15 .done)))))))))))))))), (17, .pure 0 (.pure 1 (.take 2 (.pure 3 (.take 4 (.pure 6 (.pure 7 (.take 8 (.pure 9 (.take 10 (.run 5 (.fin 11 (.pure 12 (.pure 13 .done)))))))))))))), (19, .pure 0 (.pure 1 (.take 2 (.pure 4 (.pure 5 (.take 6 (.run 3 (.fin 7 (.pure 8 (.pure 9 .done))))))))))]) Try.func22 rfl rfl (by simp) fun b => ?_
  conv => whnf
  refine CutC.mk (fun st => st = ⟨[(0, .d nilP), (1, .d nilP), (5, .d (.ptr (encOp o) 0)), (18, .d (.int .i64 o.k))], [], 1⟩) ?_ ?_
  · conv => whnf
    refine ⟨_, rfl, weak_pub (fun i => Nat.beq i 0) ?_⟩
    (conv => whnf)
    exact weak_of rfl (by repeat ((conv => whnf); first | exact trivial | refine And.intro rfl ?_ | refine And.intro (incD (by omega)) ?_)) (by repeat ((conv => whnf); first | exact trivial | refine And.intro rfl ?_ | refine And.intro (incD (by omega)) ?_))
  rintro st' rfl
  conv => whnf
  refine And.intro (fun h1 => ?_) (fun h1 => ?_)
  · conv => whnf
    refine And.intro (by kernel_rfl) ?_
    conv => whnf
    refine callF (push_nil (o.r, o.n)) gf19 rfl rfl ?_
    conv => whnf
    refine callF (rpush_nil (o.r, o.n)) gf37 rfl rfl ?_
    conv => whnf
    try exact rfl
  have h1 : o.k ≠ 1 := by have := ne_of_beq_false h1; exact this
  conv => whnf
  refine And.intro (fun h2 => ?_) (fun h2 => ?_)
  · have h2 : o.k = 2 := eq_of_beq h2
    conv => whnf
    refine callF peek_nil gf30 rfl rfl ?_
    conv => whnf
    refine callF rpeek_nil gf38 rfl rfl ?_
    conv => whnf
    refine And.intro (fun _ => ?_) (fun h' => absurd h' (by simp [h2]))
    conv => whnf
    refine callF pop_nil gf13 rfl rfl ?_
    conv => whnf
    refine callF rpop_nil gf39 rfl rfl ?_
    conv => whnf
    refine And.intro (fun _ => ?_) (fun h' => absurd h' (by simp))
    conv => whnf
    refine And.intro (fun _ => ?_) (fun h' => absurd h' (by simp))
    conv => whnf
    try exact rfl
  have h2 : o.k ≠ 2 := by have := ne_of_beq_false h2; exact this
  conv => whnf
  refine And.intro (fun h3 => ?_) (fun h3 => ?_)
  · conv => whnf
    refine callF peek_nil gf30 rfl rfl ?_
    conv => whnf
    refine callF rpeek_nil gf38 rfl rfl ?_
    conv => whnf
    refine And.intro (fun h' => absurd h' (by simp [h2])) (fun _ => ?_)
    conv => whnf
    refine And.intro (fun _ => ?_) (fun h' => absurd h' (by simp))
    conv => whnf
    refine And.intro (fun _ => ?_) (fun h' => absurd h' (by simp))
    conv => whnf
    try exact rfl
  conv => whnf
  refine And.intro (fun h4 => ?_) (fun h4 => ?_)
  · conv => whnf
    refine callF (rank_nil o.n) gf33 rfl rfl ?_
    conv => whnf
    refine callF (rrank_nil o.n) gf40 rfl rfl ?_
    conv => whnf
    refine And.intro (fun _ => ?_) (fun h' => absurd h' (by simp))
    conv => whnf
    try exact rfl
  conv => whnf
  refine And.intro (fun h5 => ?_) (fun h5 => ?_)
  · conv => whnf
    refine And.intro (by kernel_rfl) ?_
    conv => whnf
    refine callF (move_nil o.n o.r) gf17 rfl rfl ?_
    conv => whnf
    refine callF (rmove_nil o.n o.r) gf41 rfl rfl ?_
    conv => whnf
    try exact rfl
  conv => whnf
  refine And.intro (fun h6 => ?_) (fun h6 => ?_)
  · conv => whnf
    refine And.intro (by kernel_rfl) ?_
    conv => whnf
    refine callF (remove_nil o.n) gf18 rfl rfl ?_
    conv => whnf
    refine callF (rremove_nil o.n) gf42 rfl rfl ?_
    conv => whnf
    try exact rfl
  conv => whnf
  refine And.intro (fun h7 => ?_) (fun h7 => ?_)
  · have hs := newS_len o.l
    simp only [LB] at hb
    conv => whnf
    refine callF (mine_fn o.l) gf10 rfl rfl ?_
    conv => whnf
    refine callT [] (newR_new o.l) gf9 rfl rfl trivial rfl ?_
    rintro o' H' ⟨rfl, l3, mp3, rfl, h3'⟩
    conv => whnf
    refine callT [] (rnew_tri o.l ho.l) gf21 rfl rfl trivial rfl ?_
    rintro o' H' ⟨rfl, rfl⟩
    conv => whnf
    refine callT [1, 2, 3] (mergeN_tri l3 mp3 (newS o.l)) gf20 rfl rfl ⟨rfl, rfl, rfl, trivial⟩ rfl ?_
    rintro o' H' ⟨rfl, rfl⟩
    conv => whnf
    refine callT [4] (rmergeN_tri (newS o.l)) gf43 rfl rfl ⟨rfl, trivial⟩ rfl ?_
    rintro o' H' ⟨rfl, rfl⟩
    conv => whnf
    refine And.intro (fun _ => ?_) (fun h' => absurd h' (by simp))
    conv => whnf
    refine callT [1, 2, 3] (itemsR_tri l3 mp3 _ (by simp only [LB]; omega) h3') gf11 rfl rfl ⟨rfl, rfl, rfl, trivial⟩ rfl ?_
    rintro o' H' ⟨rfl, rfl⟩
    conv => whnf
    refine callT [4] (ritems_tri (newS o.l)) gf24 rfl rfl ⟨rfl, trivial⟩ rfl ?_
    rintro o' H' ⟨rfl, rfl⟩
    conv => whnf
    refine callF (same_fn _ _) gf23 rfl rfl ?_
    conv => whnf
    simp [retD]
  · conv => whnf
    try exact rfl
theorem newQ_self {l : List It} (h : (nms l).Nodup) : newQ l = l := by
  have key : ∀ (l acc : List It), (nms (acc ++ l)).Nodup → l.foldl addQ acc = acc ++ l := by
    intro l
    induction l with
    | nil => intro acc _; simp
    | cons x l ih =>
      intro acc hn
      have e : addQ acc x = acc ++ [x] := by
        unfold addQ
        rw [if_neg]
        intro hx
        simp only [nms, List.map_append, List.map_cons, List.nodup_append] at hn
        exact hn.2.2 _ hx _ (by simp) rfl
      rw [List.foldl_cons, e, ih _ (by simpa using hn)]
      simp
  have := key l [] (by simpa using h)
  rw [List.nil_append] at this
  exact this
theorem cloneR_tri (l : List It) (mp) (r : List It) (hl : r.length * 24 ≤ LB) (h : QR l mp r) : Tri Try.prog G0 25 3 3 [.own 0 0] (qH l mp) (fun o H' => o = .ret (.own 3 0) ∧ ∃ l' mp', H' = qH l mp ++ qA 3 4 5 l' mp' ∧ QR l' mp' r) := by
  intro e w vs h1 h2 h3 h4
  refine (clone_tri l mp (by rw [h.len]; exact hl) e w vs h1 h2 h3 h4).mono ?_
  rintro en w' ⟨o, H', e', ⟨rfl, l', mp', rfl, hp, hq⟩, q2, q3⟩
  refine ⟨_, _, e', ⟨rfl, l', mp', rfl, hq, ?_, h.s⟩, q2, q3⟩
  rw [newQ_self ((h.p.map (·.2)).nodup_iff.2 h.nodup)] at hp
  exact hp.trans h.p
end Go.Proofs.Ytohhchcjfebkhaa

/- QueueClones. -/
namespace Go.Proofs.Ytohhchcjfebkhaa
open Go.Vx Go.Vc Go.RowKit

/-- Sizes: of the operations' lists, all through. -/
def opsN (l : List OpT) : Nat := (l.map fun o => 1 + o.l.length).sum
def playR (r : List It) (l : List OpT) : List It := l.foldl opR r
theorem playR_succ {r : List It} {l : List OpT} {i : Nat} (h : i < l.length) : playR r (l.take (i + 1)) = opR (playR r (l.take i)) l[i] := by
  unfold playR
  rw [List.take_succ_eq_append_getElem h, List.foldl_append]
  rfl
theorem opsN_succ {l : List OpT} {i : Nat} (h : i < l.length) : opsN (l.take (i + 1)) = opsN (l.take i) + (1 + l[i].l.length) := by
  unfold opsN
  rw [List.take_succ_eq_append_getElem h, List.map_append, List.sum_append]
  simp only [List.map_cons, List.map_nil, List.sum_cons, List.sum_nil, Nat.add_zero]
theorem opsN_take_le (l : List OpT) (i : Nat) : opsN (l.take i) ≤ opsN l := by
  unfold opsN
  conv => rhs; rw [← List.take_append_drop i l, List.map_append, List.sum_append]
  omega
theorem IdxC.encOp {l : List OpT} {j : Int} {K : Go.Vx.SV → Prop} (i : Nat) (hi : i < l.length) (hj : j = (i : Int)) (hk : K (.d (.ptr (encOp l[i]) 0))) : IdxC l.length 4 (encOps l) j K := IdxC.fl encOp_len i hi hj hk
structure SmOps (l : List It) (os : List OpT) : Prop where
  o : ∀ x ∈ os, SmOp x
  s : ∀ x ∈ l, x.2.size < 4611686018427387904
  n : l.length + opsN os ≤ 2097152
  k : os.length ≤ 2097152
theorem it_len : ∀ l : List It, l.length ≤ muL itMu l
  | [] => by simp [muL]
  | y :: l => by have := it_len l; simp only [muL, List.length_cons, itMu]; omega
theorem op_len : ∀ l : List OpT, l.length ≤ muL opMz l
  | [] => by simp [muL]
  | y :: l => by have := op_len l; simp only [muL, List.length_cons, opMz]; omega
theorem mu_mem {α : Type} {μ : α → Nat} {x : α} : ∀ {l : List α}, x ∈ l → μ x ≤ muL μ l
  | [], h => by simp at h
  | y :: l, h => by
    simp only [muL]
    rcases List.mem_cons.1 h with rfl | h
    · omega
    · have := mu_mem (μ := μ) h; omega
theorem opsN_le : ∀ l : List OpT, opsN l ≤ muL opMz l
  | [] => by simp [opsN, muL]
  | y :: l => by
    have h1 := opsN_le l
    have h2 := it_len y.l
    unfold opsN at h1 ⊢
    simp only [muL, List.map_cons, List.sum_cons, opMz]
    omega
theorem smOps_of {l : List It} {os : List OpT} (h : muL itMu l + muL opMz os ≤ 1048576) : SmOps l os where
  o x hx := by
    have h1 := mu_mem (μ := opMz) hx
    have e1 : opMz x = 1 + x.n.size + muL itMu x.l := rfl
    refine ⟨by omega, fun y hy => ?_⟩
    have h2 := mu_mem (μ := itMu) hy
    have e2 : itMu y = 1 + y.2.size := rfl
    omega
  s x hx := by
    have h1 := mu_mem (μ := itMu) hx
    have e2 : itMu x = 1 + x.2.size := rfl
    omega
  n := by
    have h1 := it_len l
    have h2 := opsN_le os
    omega
  k := by
    have h1 := op_len os
    omega
theorem queueClones_fn (l : List It) (ops : List OpT) (hz : SmOps l ops) : FnR Try.prog G0 8 [dQ l, dOps ops] (.bool true) := by
  have hr := newS_len l
  have hzn := hz.n
  have hzk := hz.k
  refine fnQ_of_vc txok mixed [] Try.func8 rfl rfl (by simp) fun b => ?_
  conv => whnf
  refine callF (mine_fn l) gf10 rfl rfl ?_
  conv => whnf
  refine callT [] (newR_new l) gf9 rfl rfl trivial rfl ?_
  rintro o' H' ⟨rfl, l1, mp1, rfl, h1⟩
  conv => whnf
  refine callT [0, 1, 2] (itemsR_tri l1 mp1 _ (by simp only [LB]; omega) h1) gf11 rfl rfl ⟨rfl, rfl, rfl, trivial⟩ rfl ?_
  rintro o' H' ⟨rfl, rfl⟩
  conv => whnf
  refine callT [0, 1, 2] (cloneR_tri l1 mp1 _ (by simp only [LB]; omega) h1) gf25 rfl rfl ⟨rfl, rfl, rfl, trivial⟩ rfl ?_
  rintro o' H' ⟨rfl, l2, mp2, rfl, h2⟩
  conv => whnf
  refine callT [] (rnew_tri l hz.s) gf21 rfl rfl trivial rfl ?_
  rintro o' H' ⟨rfl, rfl⟩
  conv => whnf
  refine loopH (fun x : Nat × List It × (ByteArray → Option Int) => x.1 ≤ ops.length ∧ QR x.2.1 x.2.2 (playR (newS l) (ops.take x.1)) ∧ (playR (newS l) (ops.take x.1)).length ≤ l.length + opsN (ops.take x.1)) (fun x => ops.length - x.1) (fun x => [(9, .d (.int .i64 x.1))])
    (fun x => qH l1 mp1 ++ qA 3 4 5 x.2.1 x.2.2 ++ [(6, .blk 51 [.d (dQ (playR (newS l) (ops.take x.1)))])]) 7 (0, l2, mp2) ⟨by simp, by simpa [playR] using h2, by simpa [playR, opsN] using hr⟩ (weak_of rfl (by repeat ((conv => whnf); first | exact trivial | refine And.intro rfl ?_ | refine And.intro (incD (by omega)) ?_)) (by repeat ((conv => whnf); first | exact trivial | refine And.intro rfl ?_ | refine And.intro (incD (by omega)) ?_))) ?_
  rintro ⟨i, l3, mp3⟩ ⟨hi, h3, hlen⟩
  simp only at hi h3 hlen ⊢
  have hti := opsN_take_le ops i
  conv => whnf
  refine And.intro (fun hb => ?_) (fun hb => ?_)
  · have hb : i < ops.length := by have := of_decide_eq_true hb; omega
    have hs := opsN_succ hb
    have hts := opsN_take_le ops (i + 1)
    have hol := opR_len (playR (newS l) (ops.take i)) ops[i] h3.nodup h3.s
    conv => whnf
    refine IdxC.encOp i hb rfl ?_
    conv => whnf
    refine callT [3, 4, 5, 6] (one_tri l3 mp3 (playR (newS l) (ops.take i)) ops[i] (by simp only [LB]; omega) (hz.o _ (List.getElem_mem hb)) h3) gf22 rfl rfl ⟨rfl, rfl, rfl, rfl, trivial⟩ rfl ?_
    rintro o' H' ⟨ho, l4, mp4, rfl, h4⟩
    rw [← playR_succ hb] at h4 hol ⊢
    rcases ho with rfl | rfl
    · conv => whnf
      rw [incD (by omega)]
      exact again (i + 1, l4, mp4) (by simp only; omega) ⟨by simp only; omega, h4, by simp only; omega⟩ (weak_of rfl (by repeat ((conv => whnf); first | exact trivial | refine And.intro rfl ?_ | refine And.intro (incD (by omega)) ?_)) (by repeat ((conv => whnf); first | exact trivial | refine And.intro rfl ?_ | refine And.intro (incD (by omega)) ?_)))
    · conv => whnf
      rw [incD (by omega)]
      exact again (i + 1, l4, mp4) (by simp only; omega) ⟨by simp only; omega, h4, by simp only; omega⟩ (weak_of rfl (by repeat ((conv => whnf); first | exact trivial | refine And.intro rfl ?_ | refine And.intro (incD (by omega)) ?_)) (by repeat ((conv => whnf); first | exact trivial | refine And.intro rfl ?_ | refine And.intro (incD (by omega)) ?_)))
  · have hb : ¬ i < ops.length := by have := of_decide_eq_false hb; omega
    obtain rfl : i = ops.length := by omega
    rw [List.take_length] at h3 hlen ⊢
    conv => whnf
    refine callT [0, 1, 2] (itemsR_tri l1 mp1 _ (by simp only [LB]; omega) h1) gf11 rfl rfl ⟨rfl, rfl, rfl, trivial⟩ rfl ?_
    rintro o' H' ⟨rfl, rfl⟩
    conv => whnf
    refine callF (equal_fn _ _) gf14 rfl rfl ?_
    conv => whnf
    refine And.intro (fun _ => ?_) (fun h => by simp at h)
    conv => whnf
    refine callT [3, 4, 5] (itemsR_tri l3 mp3 _ (by simp only [LB]; omega) h3) gf11 rfl rfl ⟨rfl, rfl, rfl, trivial⟩ rfl ?_
    rintro o' H' ⟨rfl, rfl⟩
    conv => whnf
    refine callT [6] (ritems_tri _) gf24 rfl rfl ⟨rfl, trivial⟩ rfl ?_
    rintro o' H' ⟨rfl, rfl⟩
    conv => whnf
    refine callF (same_fn _ _) gf23 rfl rfl ?_
    conv => whnf
    refine And.intro (fun _ => ?_) (fun h => by simp at h)
    conv => whnf
    refine callF alive_fn gf16 rfl rfl ?_
    conv => whnf
    try exact rfl
end Go.Proofs.Ytohhchcjfebkhaa

/- QueuePlays. -/
namespace Go.Proofs.Ytohhchcjfebkhaa
open Go.Vx Go.Vc Go.RowKit

theorem one_tri' (l : List It) (mp) (r : List It) (o : OpT) (hb : (r.length + 1 + o.l.length) * 24 ≤ LB) (ho : SmOp o) (h : QR l mp r) :
    Tri Try.prog G0 22 4 0 [.own 0 0, .own 3 0, .d (.agg (encOp o))] (pH l mp r) (fun out H' => out = .ret (.d (.bool true)) ∧ ∃ l' mp', H' = pH l' mp' (opR r o) ∧ QR l' mp' (opR r o)) := by
  intro e w vs h1 h2 h3 h4
  refine (one_tri l mp r o hb ho h e w vs h1 h2 h3 h4).mono ?_
  rintro en w' ⟨o', H', e', ⟨ho', hr⟩, q2, q3⟩
  refine ⟨.ret (.d (.bool true)), H', e', ⟨rfl, hr⟩, ?_, q3⟩
  rcases ho' with rfl | rfl
  · exact q2
  · obtain ⟨v, rfl, hv⟩ := q2
    refine ⟨v, rfl, ?_⟩
    simp only [RepSV, RepD] at hv ⊢
    exact hv
set_option maxRecDepth 4000 in
theorem queuePlays_fn (l : List It) (ops : List OpT) (hz : SmOps l ops) : FnR Try.prog G0 7 [dQ l, dOps ops] (.bool true) := by
  have hr := newS_len l
  have hzn := hz.n
  have hzk := hz.k
  refine fnQ_of_vc txok mixed [(200008, .done), (8, .pure 0 (.pure 1 (.pure 2 (.pure 3 (.pure 4 (.take 5 (.run 6 (.pure 7 (.pure 8 (.pure 9 (.pure 10 (.pure 11 (.take 12 (.run 13 (.pure 14 (.pure 15 (.pure 16 (.pure 17 (.pure 19 (.pure 20 (.pure 21 (.two 18 22 (.run 22 (.pure 23 (.pure 24 (.pure 25 (.pure 26 (.pure 27 (.pure 29 (.run 28 (.run 30 (.run 31 (.pure 32 (.pure 33 (.pure 34 (.pure 35 (.pure 38 (.run 36 (.run 37 (.run 39 (.run 40 (.pure 41 (.pure 42 .done))))))))))))))))))))) (.pure 23 (.run 18 (.pure 24 (.pure 25 (.pure 26 (.pure 27 (.pure 29 (.run 28 (.run 30 (.run 31 (.pure 32 (.pure 33 (.pure 34 (.pure 35 (.pure 38 (.run 36 (.run 37 (.run 39 (.run 40 (.pure 41 (.pure 42 .done)))))))))))))))))))))))))))))))))))))))))))] Try.func7 rfl rfl (by simp) fun b => ?_
  conv => whnf
  refine callF (mine_fn l) gf10 rfl rfl ?_
  conv => whnf
  refine callT [] (newR_new l) gf9 rfl rfl trivial rfl ?_
  rintro o' H' ⟨rfl, l1, mp1, rfl, h1⟩
  conv => whnf
  refine callT [] (rnew_tri l hz.s) gf21 rfl rfl trivial rfl ?_
  rintro o' H' ⟨rfl, rfl⟩
  conv => whnf
  refine callF alive_fn gf16 rfl rfl ?_
  conv => whnf
  refine And.intro (fun h => absurd h (by simp)) (fun _ => ?_)
  conv => whnf
  refine loopH (fun x : Nat × List It × (ByteArray → Option Int) => x.1 ≤ ops.length ∧ QR x.2.1 x.2.2 (playR (newS l) (ops.take x.1)) ∧ (playR (newS l) (ops.take x.1)).length ≤ l.length + opsN (ops.take x.1)) (fun x => ops.length - x.1) (fun x => [(7, .d (.int .i64 x.1))])
    (fun x => pH x.2.1 x.2.2 (playR (newS l) (ops.take x.1))) 4 (0, l1, mp1) ⟨by simp, by simpa [playR] using h1, by simpa [playR, opsN] using hr⟩ (weak_of rfl (by repeat ((conv => whnf); first | exact trivial | refine And.intro rfl ?_ | refine And.intro (incD (by omega)) ?_)) (by repeat ((conv => whnf); first | exact trivial | refine And.intro rfl ?_ | refine And.intro (incD (by omega)) ?_))) ?_
  rintro ⟨i, l3, mp3⟩ ⟨hi, h3, hlen⟩
  simp only at hi h3 hlen ⊢
  have hti := opsN_take_le ops i
  conv => whnf
  refine And.intro (fun hb => ?_) (fun hb => ?_)
  · have hb : i < ops.length := by have := of_decide_eq_true hb; omega
    have hs := opsN_succ hb
    have hts := opsN_take_le ops (i + 1)
    have hol := opR_len (playR (newS l) (ops.take i)) ops[i] h3.nodup h3.s
    have hsm := hz.o _ (List.getElem_mem hb)
    conv => whnf
    refine And.intro (by kernel_rfl) ?_
    conv => whnf
    refine IdxC.encOp i hb rfl ?_
    conv => whnf
    refine callT [0, 1, 2, 3] (one_tri' l3 mp3 (playR (newS l) (ops.take i)) ops[i] (by simp only [LB]; omega) hsm h3) gf22 rfl rfl ⟨rfl, rfl, rfl, rfl, trivial⟩ rfl ?_
    rintro o' H' ⟨ho, l4, mp4, rfl, h4⟩
    rw [← playR_succ hb] at h4 hol ⊢
    generalize hR : playR (newS l) (ops.take (i + 1)) = R at h4 hol ⊢
    subst ho
    conv => whnf
    refine And.intro (fun _ => ?_) (fun h' => absurd h' (by simp))
    conv => whnf
    refine IdxC.encOp i hb rfl ?_
    conv => whnf
    refine callF (one_nil ops[i] hsm (by simp only [LB]; omega)) gf22 rfl rfl ?_
    conv => whnf
    refine And.intro (fun _ => ?_) (fun h' => absurd h' (by simp))
    conv => whnf
    refine And.intro ?_ ?_
    · conv => whnf
      refine callT [0, 1, 2] (lenR_tri l4 mp4 _ h4) gf12 rfl rfl ⟨rfl, rfl, rfl, trivial⟩ rfl ?_
      rintro o' H' ⟨rfl, rfl⟩
      conv => whnf
      refine And.intro (fun _ => ?_) (fun h' => absurd h' (by simp))
      conv => whnf
      refine callT [0, 1, 2] (itemsR_tri l4 mp4 _ (by simp only [LB]; omega) h4) gf11 rfl rfl ⟨rfl, rfl, rfl, trivial⟩ rfl ?_
      rintro o' H' ⟨rfl, rfl⟩
      conv => whnf
      refine callT [3] (ritems_tri R) gf24 rfl rfl ⟨rfl, trivial⟩ rfl ?_
      rintro o' H' ⟨rfl, rfl⟩
      conv => whnf
      refine callF (same_fn _ _) gf23 rfl rfl ?_
      conv => whnf
      refine And.intro (fun _ => ?_) (fun h' => absurd h' (by simp))
      conv => whnf
      refine callT [0, 1, 2] (cloneR_tri l4 mp4 _ (by simp only [LB]; omega) h4) gf25 rfl rfl ⟨rfl, rfl, rfl, trivial⟩ rfl ?_
      rintro o' H' ⟨rfl, l5, mp5, rfl, h5⟩
      conv => whnf
      refine callT [4, 5, 6] (itemsR_tri l5 mp5 _ (by simp only [LB]; omega) h5) gf11 rfl rfl ⟨rfl, rfl, rfl, trivial⟩ rfl ?_
      rintro o' H' ⟨rfl, rfl⟩
      conv => whnf
      refine callT [3] (ritems_tri R) gf24 rfl rfl ⟨rfl, trivial⟩ rfl ?_
      rintro o' H' ⟨rfl, rfl⟩
      conv => whnf
      refine callF (same_fn _ _) gf23 rfl rfl ?_
      conv => whnf
      refine And.intro (fun h' => absurd h' (by simp)) (fun _ => ?_)
      conv => whnf
      rw [← hR]
      rw [incD (by omega)]
      rw [← hR] at h4 hol
      exact again (i + 1, l4, mp4) (by simp only; omega) ⟨by simp only; omega, h4, by simp only; omega⟩ (weak_of rfl (by repeat ((conv => whnf); first | exact trivial | refine And.intro rfl ?_ | refine And.intro (incD (by omega)) ?_)) (by repeat ((conv => whnf); first | exact trivial | refine And.intro rfl ?_ | refine And.intro (incD (by omega)) ?_)))
    · conv => whnf
      refine callT [0, 1, 2] (lenR_tri l4 mp4 _ h4) gf12 rfl rfl ⟨rfl, rfl, rfl, trivial⟩ rfl ?_
      rintro o' H' ⟨rfl, rfl⟩
      conv => whnf
      refine And.intro (fun _ => ?_) (fun h' => absurd h' (by simp))
      conv => whnf
      refine callT [0, 1, 2] (itemsR_tri l4 mp4 _ (by simp only [LB]; omega) h4) gf11 rfl rfl ⟨rfl, rfl, rfl, trivial⟩ rfl ?_
      rintro o' H' ⟨rfl, rfl⟩
      conv => whnf
      refine callT [3] (ritems_tri R) gf24 rfl rfl ⟨rfl, trivial⟩ rfl ?_
      rintro o' H' ⟨rfl, rfl⟩
      conv => whnf
      refine callF (same_fn _ _) gf23 rfl rfl ?_
      conv => whnf
      refine And.intro (fun _ => ?_) (fun h' => absurd h' (by simp))
      conv => whnf
      refine callT [0, 1, 2] (cloneR_tri l4 mp4 _ (by simp only [LB]; omega) h4) gf25 rfl rfl ⟨rfl, rfl, rfl, trivial⟩ rfl ?_
      rintro o' H' ⟨rfl, l5, mp5, rfl, h5⟩
      conv => whnf
      refine callT [4, 5, 6] (itemsR_tri l5 mp5 _ (by simp only [LB]; omega) h5) gf11 rfl rfl ⟨rfl, rfl, rfl, trivial⟩ rfl ?_
      rintro o' H' ⟨rfl, rfl⟩
      conv => whnf
      refine callT [3] (ritems_tri R) gf24 rfl rfl ⟨rfl, trivial⟩ rfl ?_
      rintro o' H' ⟨rfl, rfl⟩
      conv => whnf
      refine callF (same_fn _ _) gf23 rfl rfl ?_
      conv => whnf
      refine And.intro (fun h' => absurd h' (by simp)) (fun _ => ?_)
      conv => whnf
      rw [← hR]
      rw [incD (by omega)]
      rw [← hR] at h4 hol
      exact again (i + 1, l4, mp4) (by simp only; omega) ⟨by simp only; omega, h4, by simp only; omega⟩ (weak_of rfl (by repeat ((conv => whnf); first | exact trivial | refine And.intro rfl ?_ | refine And.intro (incD (by omega)) ?_)) (by repeat ((conv => whnf); first | exact trivial | refine And.intro rfl ?_ | refine And.intro (incD (by omega)) ?_)))
  · have hb : ¬ i < ops.length := by have := of_decide_eq_false hb; omega
    obtain rfl : i = ops.length := by omega
    rw [List.take_length] at h3 hlen ⊢
    conv => whnf
    refine callF len_nil gf12 rfl rfl ?_
    conv => whnf
    refine And.intro (fun _ => ?_) (fun h' => absurd h' (by simp))
    conv => whnf
    refine callF items_nil gf11 rfl rfl ?_
    conv => whnf
    refine And.intro (fun _ => ?_) (fun h' => absurd h' (by simp))
    conv => whnf
    refine callF clone_nil gf25 rfl rfl ?_
    conv => whnf
    refine callT [0, 1, 2] (merge_nil l3 mp3) gf20 rfl rfl ⟨rfl, rfl, rfl, trivial⟩ rfl ?_
    rintro o' H' ⟨rfl, rfl⟩
    conv => whnf
    refine And.intro (fun _ => ?_) (fun h' => absurd h' (by simp))
    conv => whnf
    refine callT [0, 1, 2] (merge_self l3 mp3) gf20 rfl rfl ⟨rfl, rfl, rfl, trivial⟩ rfl ?_
    rintro o' H' ⟨rfl, rfl⟩
    conv => whnf
    refine And.intro (fun _ => ?_) (fun h' => absurd h' (by simp))
    conv => whnf
    refine callT [0, 1, 2] (itemsR_tri l3 mp3 _ (by simp only [LB]; omega) h3) gf11 rfl rfl ⟨rfl, rfl, rfl, trivial⟩ rfl ?_
    rintro o' H' ⟨rfl, rfl⟩
    conv => whnf
    refine callT [3] (ritems_tri _) gf24 rfl rfl ⟨rfl, trivial⟩ rfl ?_
    rintro o' H' ⟨rfl, rfl⟩
    conv => whnf
    refine callF (same_fn _ _) gf23 rfl rfl ?_
    conv => whnf
    simp [retD]
end Go.Proofs.Ytohhchcjfebkhaa

