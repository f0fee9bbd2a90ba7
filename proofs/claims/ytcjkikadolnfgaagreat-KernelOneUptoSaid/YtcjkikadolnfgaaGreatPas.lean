/- Texts of mine, joined: Zg Zh Zi Zj Zk Zn Zo Zr Zq Zs Zt Zu Zv Bk Bl. -/
import Derived.Test.YtcjkikadolnfgaaGreatPar
import Derived.Test.YtcjkikadolnfgaaGreatPaj
import Derived.Test.YtcjkikadolnfgaaGreatPaq
import Derived.Test.YtcjkikadolnfgaaGreatPai
import Derived.Test.YtcjkikadolnfgaaGreatPah
import Derived.Test.YtcjkikadolnfgaaGreatPap
/- The kernel's putSize: how great a type is with another one put in. -/
set_option linter.unusedSimpArgs false
set_option linter.unusedVariables false
namespace Go.Proofs.YtcjkikadolnfgaaGreat
open Go.Vx Go.Vc Go.RowKit
mutual
def wG (x : Int) (c : Nat) : TG → Nat
  | .mk k n ls l => if k = 6 ∧ n = x then c else if bndG k = true ∧ n = x then szG (.mk k n ls l) else wGs x c l + 1
def wGs (x : Int) (c : Nat) : List TG → Nat
  | [] => 0
  | t :: r => wG x c t + wGs x c r
end
theorem wG_mk (x : Int) (c : Nat) (k n : Int) (ls : List ByteArray) (l : List TG) : wG x c (.mk k n ls l) = if k = 6 ∧ n = x then c else if bndG k = true ∧ n = x then szG (.mk k n ls l) else wGs x c l + 1 := by rw [wG]
theorem wGs_app (x : Int) (c : Nat) : ∀ l m : List TG, wGs x c (l ++ m) = wGs x c l + wGs x c m
  | [], m => by simp [wGs]
  | t :: r, m => by rw [List.cons_append, wGs, wGs, wGs_app x c r m]; omega
theorem wGs_take {l : List TG} {i : Nat} (h : i < l.length) (x : Int) (c : Nat) : wGs x c (l.take (i + 1)) = wGs x c (l.take i) + wG x c l[i] := by
  rw [List.take_succ_eq_append_getElem h, wGs_app]; simp [wGs]
theorem wGs_le (l : List TG) (i : Nat) (x : Int) (c : Nat) : wGs x c (l.take i) ≤ wGs x c l := by
  conv => rhs; rw [← List.take_append_drop i l, wGs_app]
  omega
theorem wG_cnt : ∀ (t : TG) (x : Int) (c : Nat), okV t = true → wG x c t + cntG x t = szG t + cntG x t * c := by
  refine TG.ind fun k n ls l ih x c hv => ?_
  obtain ⟨hv6, hvl⟩ := (okV_mk ..).1 hv
  rw [wG_mk, cntG]
  by_cases h1 : k = 6 ∧ n = x
  · obtain ⟨rfl, rfl⟩ := hv6 h1.1
    rw [if_pos h1, if_pos h1]; simp [szG, szGs]; omega
  rw [if_neg h1, if_neg h1]
  by_cases h2 : bndG k = true ∧ n = x
  · rw [if_pos h2, if_pos h2]; omega
  rw [if_neg h2, if_neg h2, szG]
  have : ∀ m : List TG, (∀ u ∈ m, u ∈ l) → wGs x c m + cntGs x m = szGs m + cntGs x m * c := by
    intro m
    induction m with
    | nil => intro _; simp [wGs, szGs, cntGs]
    | cons u r ihr =>
      intro hm
      have h1 := ih u (hm u (by simp)) x c (hvl u (hm u (by simp)))
      have h2 := ihr fun w hw => hm w (by simp [hw])
      rw [wGs, szGs, cntGs, Nat.add_mul]
      omega
  have := this l fun _ h => h
  omega
theorem tri_kb {P : Program} {G : Glob} {f : FuncId} {n q : Nat} {args : List Go.Vx.SV} {H : Hp} {c : Bool} {R : Hp → Prop} (h : Tri P G f n q args H (fun o H' => (o = .ret (.d (.bool c)) ∨ o = .ret (.kb c)) ∧ R H')) : Tri P G f n q args H (fun o H' => o = .ret (.d (.bool c)) ∧ R H') := by
  intro e w vs hlen hargs hH hG
  refine (h e w vs hlen hargs hH hG).mono ?_
  rintro en w' ⟨o, H', e', ⟨h1, h2⟩, h3, h4⟩
  refine ⟨.ret (.d (.bool c)), H', e', ⟨rfl, h2⟩, ?_, h4⟩
  rcases h1 with rfl | rfl
  · exact h3
  · obtain ⟨v, rfl, hv⟩ := h3
    exact ⟨v, rfl, by simpa only [RepSV, RepD] using hv⟩
abbrev wH (x : Int) (c tot : Nat) : Hp := [(0, .blk 3 [.d (.int .i64 x)]), (1, .blk 3 [.d (.int .i64 tot)]), (2, .blk 3 [.d (.int .i64 c)]), (3, .blk 82 [.fn 101 [] [.own 0 0, .own 1 0, .own 2 0, .own 3 0]])]
set_option maxRecDepth 20000 in
theorem walk_tri : ∀ (t : TG) (x : Int) (c tot : Nat), okV t = true → szG t < 1099511627776 → 1 ≤ c → c ≤ 1048577 → tot ≤ 1048576 → Tri Tryz.prog G0 101 4 0 [.d (dG t), .own 0 0, .own 1 0, .own 2 0, .own 3 0] (wH x c tot) (fun o H' => o = .ret (.d (.bool (decide (tot + wG x c t ≤ 1048576)))) ∧ ∃ tot', H' = wH x c tot' ∧ (tot + wG x c t ≤ 1048576 → tot' = tot + wG x c t)) := by
  refine TG.ind fun k n ls l ih x c tot hv hz hc1 hc ht => ?_
  refine tri_sz fun hs => ?_
  have hl := (szOk_G (t := .mk k n ls l) (hs (.d (dG (.mk k n ls l))) (by simp))).1
  simp only [g_kids, LB] at hl
  obtain ⟨hv6, hvl⟩ := (okV_mk ..).1 hv
  refine tri_kb (R := fun H' => ∃ tot', H' = wH x c tot' ∧ (tot + wG x c (.mk k n ls l) ≤ 1048576 → tot' = tot + wG x c (.mk k n ls l))) ?_
  refine tri_of_wk (N := 63) txok mixed [] Tryz.func101 rfl rfl (by simp) fun b => ?_
  refine wk_seq ⟨[(1, .own 0 0), (2, .own 1 0), (3, .own 2 0), (4, .own 3 0), (5, .own 4 0)], wH x c tot ++ [(4, .blk 28 [.d (.int .i64 k), .d (.int .i64 n), .d (dL ls), .d (dGs l)])], 5⟩ (wk_vc txok mixed [] ?_) ?_
  · conv => whnf
    exact weak_of rfl (by repeat ((conv => whnf); first | exact trivial | refine And.intro rfl ?_ | refine And.intro (incD (by omega)) ?_)) (by repeat ((conv => whnf); first | exact trivial | refine And.intro rfl ?_ | refine And.intro (incD (by omega)) ?_))
  have hst : ∃ tot1 : Nat, (tot1 = if k = 6 ∧ n = x then tot + c else tot + 1) := ⟨_, rfl⟩
  obtain ⟨tot1, hst⟩ := hst
  refine wk_seq ⟨[(1, .own 0 0), (2, .own 1 0), (3, .own 2 0), (4, .own 3 0), (5, .own 4 0)], wH x c tot1 ++ [(4, .blk 28 [.d (.int .i64 k), .d (.int .i64 n), .d (dL ls), .d (dGs l)])], 5⟩ (wk_vc txok mixed [] ?_) ?_
  · conv => whnf
    refine And.intro (fun h => ?_) (fun h => ?_)
    · have h : k = 6 := eq_of_beq h
      conv => whnf
      refine And.intro (fun h2 => ?_) (fun h2 => ?_)
      · rw [if_pos ⟨h, eq_of_beq h2⟩] at hst
        conv => whnf
        rw [Go.Vc.wrap_small (a := (tot : Int) + (c : Int)) (by omega) (by omega), show (tot : Int) + (c : Int) = (tot1 : Int) by omega]
        exact weak_of rfl (by repeat ((conv => whnf); first | exact trivial | refine And.intro rfl ?_ | refine And.intro (incD (by omega)) ?_)) (by repeat ((conv => whnf); first | exact trivial | refine And.intro rfl ?_ | refine And.intro (incD (by omega)) ?_))
      · rw [if_neg (fun h3 => by rw [h3.2] at h2; simp at h2)] at hst
        conv => whnf
        rw [Go.Vc.wrap_small (a := (tot : Int) + 1) (by omega) (by omega), show (tot : Int) + 1 = (tot1 : Int) by omega]
        exact weak_of rfl (by repeat ((conv => whnf); first | exact trivial | refine And.intro rfl ?_ | refine And.intro (incD (by omega)) ?_)) (by repeat ((conv => whnf); first | exact trivial | refine And.intro rfl ?_ | refine And.intro (incD (by omega)) ?_))
    · have h : k ≠ 6 := by simpa using h
      rw [if_neg (fun h3 => h h3.1)] at hst
      conv => whnf
      rw [Go.Vc.wrap_small (a := (tot : Int) + 1) (by omega) (by omega), show (tot : Int) + 1 = (tot1 : Int) by omega]
      exact weak_of rfl (by repeat ((conv => whnf); first | exact trivial | refine And.intro rfl ?_ | refine And.intro (incD (by omega)) ?_)) (by repeat ((conv => whnf); first | exact trivial | refine And.intro rfl ?_ | refine And.intro (incD (by omega)) ?_))
  have hW1 : tot1 ≤ tot + wG x c (.mk k n ls l) := by
    rw [hst, wG_mk]
    by_cases h1 : k = 6 ∧ n = x
    · rw [if_pos h1, if_pos h1]; exact Nat.le_refl _
    · rw [if_neg h1, if_neg h1]
      split
      · have := szG_pos (.mk k n ls l); omega
      · omega
  have ht1 : tot1 ≤ 2097153 := by rw [hst]; split <;> omega
  by_cases hbig : 1048576 < tot1
  · refine wk_seqR (wk_vc txok mixed [] ?_)
    conv => whnf
    refine And.intro (fun h => ?_) (fun h => absurd (of_decide_eq_false h) (by omega))
    conv => whnf
    refine ⟨.inr ?_, _, rfl, fun h => by omega⟩
    rw [decide_eq_false (by omega)]
  refine wk_seq ⟨[(1, .own 0 0), (2, .own 1 0), (3, .own 2 0), (4, .own 3 0), (5, .own 4 0)], wH x c tot1 ++ [(4, .blk 28 [.d (.int .i64 k), .d (.int .i64 n), .d (dL ls), .d (dGs l)])], 5⟩ (wk_vc txok mixed [] ?_) ?_
  · conv => whnf
    refine And.intro (fun h => absurd (of_decide_eq_true h) (by omega)) (fun h => ?_)
    conv => whnf
    exact weak_of rfl (by repeat ((conv => whnf); first | exact trivial | refine And.intro rfl ?_ | refine And.intro (incD (by omega)) ?_)) (by repeat ((conv => whnf); first | exact trivial | refine And.intro rfl ?_ | refine And.intro (incD (by omega)) ?_))
  by_cases h2 : bndG k = true ∧ n = x
  · have h6 : ¬ (k = 6 ∧ n = x) := fun h => bnd_ne6 h2.1 h.1
    rw [if_neg h6] at hst
    have hW : wG x c (.mk k n ls l) = szG (.mk k n ls l) := by rw [wG_mk, if_neg h6, if_pos h2]
    rw [hW]
    have hS := size_fn (.mk k n ls l) 1048576 (by omega) (by decide)
    have hp := szG_pos (.mk k n ls l)
    have hsG : sizeG (.mk k n ls l) 1048576 = (if (szG (.mk k n ls l) : Int) ≤ 1048576 then (szG (.mk k n ls l) : Int) else 1048577) := by unfold sizeG; rw [if_neg (by decide)]; rfl
    generalize szG (.mk k n ls l) = z at *
    generalize sizeG (.mk k n ls l) 1048576 = q at *
    have hq : 1 ≤ q ∧ q ≤ 1048577 ∧ ((z : Int) ≤ 1048576 → q = z) ∧ (¬ (z : Int) ≤ 1048576 → q = 1048577) := by
      rw [hsG]; split <;> omega
    have e1 : IntKind.i64.wrap ((tot1 : Int) + IntKind.i64.wrap (q - 1)) = (tot1 : Int) + (q - 1) := by
      rw [Go.Vc.wrap_small (a := q - 1) (by omega) (by omega), Go.Vc.wrap_small (by omega) (by omega)]
    obtain ⟨tot2, ht2⟩ : ∃ m : Nat, (m : Int) = (tot1 : Int) + (q - 1) := ⟨(tot1 + (q - 1)).toNat, by omega⟩
    rw [← ht2] at e1
    have hk : k = 9 ∨ k = 10 ∨ k = 11 := by
      have := h2.1; unfold bndG at this
      simp only [Bool.or_eq_true, beq_iff_eq] at this; omega
    have h9 : (n == x) = true := by rw [h2.2]; simp
    refine wk_seqR ?_
    refine wk_seq ⟨[(43, .d (.bool true)), (1, .own 0 0), (2, .own 1 0), (3, .own 2 0), (4, .own 3 0), (5, .own 4 0)], wH x c tot1 ++ [(4, .blk 28 [.d (.int .i64 k), .d (.int .i64 n), .d (dL ls), .d (dGs l)])], 5⟩ (wk_vc txok mixed [] ?_) ?_
    · rcases hk with rfl | rfl | rfl
      all_goals
        repeat' ((conv => whnf); first
          | (refine And.intro (fun hf => ?_) (fun hf => ?_) <;> first | exact Bool.noConfusion hf | (rw [h9] at hf; exact Bool.noConfusion hf) | skip))
        (conv => whnf)
        first
          | (refine (weak_kbT 43 true (by exact rfl)).trans (weak_of rfl (by repeat ((conv => whnf); first | exact trivial | refine And.intro rfl ?_ | refine And.intro (incD (by omega)) ?_)) (by repeat ((conv => whnf); first | exact trivial | refine And.intro rfl ?_ | refine And.intro (incD (by omega)) ?_))))
          | (rw [h9]; exact weak_of rfl (by repeat ((conv => whnf); first | exact trivial | refine And.intro rfl ?_ | refine And.intro (incD (by omega)) ?_)) (by repeat ((conv => whnf); first | exact trivial | refine And.intro rfl ?_ | refine And.intro (incD (by omega)) ?_)))
    refine wk_true rfl ?_
    refine wk_seq ⟨[(1, .own 0 0), (2, .own 1 0), (3, .own 2 0), (4, .own 3 0), (5, .own 4 0)], wH x c tot2 ++ [(4, .blk 28 [.d (.int .i64 k), .d (.int .i64 n), .d (dL ls), .d (dGs l)])], 5⟩ (wk_vc txok mixed [(7, .take 0 (.take 1 (.run 2 (.pure 3 (.pure 4 (.fin 5 .done))))))] ?_) ?_
    · conv => whnf
      refine And.intro (by kernel_rfl) ?_
      repeat' ((conv => whnf); first
        | refine And.intro ?_ ?_
        | refine callF hS gf100 rfl rfl ?_)
      all_goals (conv => whnf)
      all_goals rw [e1]
      all_goals exact weak_of rfl (by repeat ((conv => whnf); first | exact trivial | refine And.intro rfl ?_ | refine And.intro (incD (by omega)) ?_)) (by repeat ((conv => whnf); first | exact trivial | refine And.intro rfl ?_ | refine And.intro (incD (by omega)) ?_))
    refine wk_vc txok mixed [] ?_
    conv => whnf
    refine ⟨.inl (congrArg (fun z => Go.Vx.Out.ret (.d (.bool z))) ?_), tot2, rfl, fun h => by omega⟩
    rw [decide_eq_decide]; omega
  have hW : tot + wG x c (.mk k n ls l) = tot1 + wGs x c l := by
    rw [hst, wG_mk]
    by_cases h1 : k = 6 ∧ n = x
    · obtain ⟨rfl, rfl⟩ := hv6 h1.1
      rw [if_pos h1, if_pos h1]; simp [wGs]
    · rw [if_neg h1, if_neg h1, if_neg h2]; omega
  rw [hW]
  clear hst hW hW1
  refine wk_seq ⟨[(1, .own 0 0), (2, .own 1 0), (3, .own 2 0), (4, .own 3 0), (5, .own 4 0)], wH x c tot1 ++ [(4, .blk 28 [.d (.int .i64 k), .d (.int .i64 n), .d (dL ls), .d (dGs l)])], 5⟩ (wk_vc txok mixed [] ?_) ?_
  · repeat' ((conv => whnf); first
      | (refine And.intro (fun hf => ?_) (fun hf => ?_)))
    all_goals (conv => whnf)
    all_goals first
      | exact weak_of rfl (by repeat ((conv => whnf); first | exact trivial | refine And.intro rfl ?_ | refine And.intro (incD (by omega)) ?_)) (by repeat ((conv => whnf); first | exact trivial | refine And.intro rfl ?_ | refine And.intro (incD (by omega)) ?_))
      | (exfalso; simp_all [bndG]; done)
  refine wk_vc txok mixed [] ?_
  conv => whnf
  refine loopH (fun i : Nat => i ≤ l.length ∧ tot1 + wGs x c (l.take i) ≤ 1048576) (fun i => l.length - i) (fun i => [(54, .d (.int .i64 i))]) (fun i => wH x c (tot1 + wGs x c (l.take i)) ++ [(4, .blk 28 [.d (.int .i64 k), .d (.int .i64 n), .d (dL ls), .d (dGs l)])]) 5 0 ⟨by omega, by simp [wGs]; omega⟩ ?_ ?_
  · rw [show tot1 + wGs x c (l.take 0) = tot1 from by simp [wGs]]
    exact weak_of rfl (by repeat ((conv => whnf); first | exact trivial | refine And.intro rfl ?_ | refine And.intro (incD (by omega)) ?_)) (by repeat ((conv => whnf); first | exact trivial | refine And.intro rfl ?_ | refine And.intro (incD (by omega)) ?_))
  rintro i ⟨hi, hti⟩
  conv => whnf
  refine And.intro (fun hb => ?_) (fun hb => ?_)
  · have hil : i < l.length := by have := of_decide_eq_true hb; omega
    have hmem := szG_mem (List.getElem_mem hil)
    have hsz : szG (.mk k n ls l) = szGs l + 1 := by simp only [szG]
    have htk := wGs_take hil x c
    have hle := wGs_le l (i + 1) x c
    conv => whnf
    refine IdxC.encGs i hil rfl ?_
    conv => whnf
    refine callT [0, 1, 2, 3] (ih l[i] (List.getElem_mem hil) x c (tot1 + wGs x c (l.take i)) (hvl _ (List.getElem_mem hil)) (by omega) hc1 hc hti) gf101 rfl rfl ⟨rfl, rfl, rfl, rfl, trivial⟩ rfl ?_
    rintro o' H' ⟨rfl, tot', rfl, htt⟩
    conv => whnf
    refine And.intro (fun he => ?_) (fun he => ?_)
    · have he : ¬ (tot1 + wGs x c (l.take i) + wG x c l[i] ≤ 1048576) := by simpa using he
      conv => whnf
      refine ⟨.inr ?_, _, rfl, fun h => by omega⟩
      rw [decide_eq_false (by omega)]
    · have he : tot1 + wGs x c (l.take i) + wG x c l[i] ≤ 1048576 := by simpa using he
      obtain rfl := htt he
      rw [show tot1 + wGs x c (l.take i) + wG x c l[i] = tot1 + wGs x c (l.take (i + 1)) by omega]
      conv => whnf
      rw [incD (by omega)]
      exact again (i + 1) (by omega) ⟨by omega, by omega⟩ (weak_of rfl (by repeat ((conv => whnf); first | exact trivial | refine And.intro rfl ?_ | refine And.intro (incD (by omega)) ?_)) (by repeat ((conv => whnf); first | exact trivial | refine And.intro rfl ?_ | refine And.intro (incD (by omega)) ?_)))
  · have hil : i = l.length := by have := of_decide_eq_false hb; omega
    subst hil
    rw [List.take_length] at hti ⊢
    conv => whnf
    refine ⟨.inr ?_, _, rfl, fun _ => rfl⟩
    rw [decide_eq_true hti]
end Go.Proofs.YtcjkikadolnfgaaGreat


/- The kernel: putSize, put, fit, ask, same, node; what gives up. -/
set_option linter.unusedSimpArgs false
set_option linter.unusedVariables false
namespace Go.Proofs.YtcjkikadolnfgaaGreat
open Go.Vx Go.Vc Go.RowKit
def badW (e : Int) : D := .ifc 83 (.int .i64 e)
def resO : Except Int TG → DOut
  | .ok t => .ret (dG t)
  | .error e => .pan (badW e)
def fitR (t : TG) : Except Int TG := if szG t ≤ 1048576 then .ok t else .error 3
def putR (t : TG) (n : Int) (y : TG) : Except Int TG := if szG t + cntG n t * (szG y - 1) ≤ 1048576 then .ok (putF (szG t) t n y (freeS y)) else .error 3
def askO (c : Bool) : DOut := if c = true then .ret (.tup []) else .pan (badW 30)
theorem fit_fn (t : TG) (hz : szG t < 4611686018427387904) : FnQ Tryz.prog G0 82 [dG t] (fun o => o = resO (fitR t)) := by
  have hS := size_fn t 1048576 hz (by decide)
  have hsG : sizeG t 1048576 = (if (szG t : Int) ≤ 1048576 then (szG t : Int) else 1048577) := by unfold sizeG; rw [if_neg (by decide)]; rfl
  refine fnQ_of_vc txok mixed [] Tryz.func82 rfl rfl (by simp) fun b => ?_
  conv => whnf
  refine callF hS gf100 rfl rfl ?_
  conv => whnf
  unfold fitR
  by_cases h : szG t ≤ 1048576
  · rw [if_pos h]
    refine And.intro (fun h2 => ?_) (fun h2 => ?_)
    · exfalso
      have := of_decide_eq_true h2
      rw [hsG] at this
      split at this <;> omega
    · conv => whnf
      try exact rfl
  · rw [if_neg h]
    refine And.intro (fun h2 => ?_) (fun h2 => ?_)
    · conv => whnf
      try exact rfl
    · exfalso
      have := of_decide_eq_false h2
      rw [hsG] at this
      split at this <;> omega
theorem ask_fn (c : Bool) : FnQ Tryz.prog G0 167 [.bool c] (fun o => o = askO c) := by
  cases c
  · refine fnQ_of_vc txok mixed [] Tryz.func167 rfl rfl (by simp) fun b => ?_
    conv => whnf
    refine And.intro (fun _ => ?_) (fun h => by cases h)
    conv => whnf
    try exact rfl
  · refine fnQ_of_vc txok mixed [] Tryz.func167 rfl rfl (by simp) fun b => ?_
    conv => whnf
    refine And.intro (fun h => by cases h) (fun _ => ?_)
    conv => whnf
    try exact rfl
theorem same_fn (a u : TG) (hz : szG a < 1099511627776) : FnQ Tryz.prog G0 170 [dG a, dG u] (fun o => o = askO (samG a u [] [])) := by
  refine fnQ_of_vc txok mixed [] Tryz.func170 rfl rfl (by simp) fun b => ?_
  conv => whnf
  refine callF (sameTop_fn a u hz) gf19 rfl rfl ?_
  conv => whnf
  refine callQ rfl rfl gf167 (ask_fn (samG a u [] [])) ?_
  rintro o rfl
  unfold askO
  cases samG a u [] []
  · conv => whnf
    try exact rfl
  · conv => whnf
    try exact rfl
theorem node_fn (k : Int) (l : List TG) : FnR Tryz.prog G0 165 [.int .i64 k, dGs l] (dG (.mk k 0 [] l)) := by
  refine fnQ_of_vc txok mixed [] Tryz.func165 rfl rfl (by simp) fun b => ?_
  conv => whnf
  rfl
theorem putSize_fn (t : TG) (n : Int) (y : TG) (hv : okV t = true) (hz : szG t < 1099511627776) (hy : szG y < 4611686018427387904) : FnR Tryz.prog G0 60 [dG t, .int .i64 n, dG y] (.int .i64 (if szG t + cntG n t * (szG y - 1) ≤ 1048576 then ((szG t + cntG n t * (szG y - 1) : Nat) : Int) else 1048577)) := by
  have hS := size_fn y 1048576 hy (by decide)
  have hyp := szG_pos y
  have hsG : sizeG y 1048576 = (if (szG y : Int) ≤ 1048576 then (szG y : Int) else 1048577) := by unfold sizeG; rw [if_neg (by decide)]; rfl
  obtain ⟨c, hc⟩ : ∃ c : Nat, (c : Int) = sizeG y 1048576 := ⟨(sizeG y 1048576).toNat, by rw [hsG]; split <;> omega⟩
  have hc1 : 1 ≤ c ∧ c ≤ 1048577 := by rw [hsG] at hc; split at hc <;> omega
  have hw := wG_cnt t n c hv
  have hcl := cnt_le t n
  have htp := szG_pos t
  have hcond : (0 + wG n c t ≤ 1048576 ↔ szG t + cntG n t * (szG y - 1) ≤ 1048576) ∧ (0 + wG n c t ≤ 1048576 → 0 + wG n c t = szG t + cntG n t * (szG y - 1)) := by
    have hm : cntG n t * (szG y - 1) + cntG n t = cntG n t * szG y := by
      conv => lhs; rw [← Nat.mul_succ]
      congr 1; omega
    by_cases hle : szG y ≤ 1048576
    · have e : c = szG y := by rw [hsG, if_pos (by omega)] at hc; omega
      subst e
      omega
    · have e : c = 1048577 := by rw [hsG, if_neg (by omega)] at hc; omega
      subst e
      rcases Nat.eq_zero_or_pos (cntG n t) with h0 | h0
      · rw [h0] at hw hm ⊢; omega
      · have h1 : 1048577 ≤ cntG n t * 1048577 := Nat.le_mul_of_pos_left _ h0
        have h2 : szG y ≤ cntG n t * szG y := Nat.le_mul_of_pos_left _ h0
        have h3 : cntG n t * 1048576 + cntG n t = cntG n t * 1048577 := by omega
        have h4 : 1048576 ≤ cntG n t * 1048576 := Nat.le_mul_of_pos_left _ h0
        have h5 : 1048576 ≤ cntG n t * (szG y - 1) := Nat.le_trans (by omega) (Nat.le_mul_of_pos_left _ h0)
        omega
  rw [← hc] at hS
  refine fnQ_of_vc txok mixed [] Tryz.func60 rfl rfl (by simp) fun b => ?_
  conv => whnf
  refine callF hS gf100 rfl rfl ?_
  conv => whnf
  refine callT [1, 4, 3, 5] (walk_tri t n c 0 hv hz hc1.1 hc1.2 (by omega)) gf101 rfl rfl ⟨rfl, rfl, rfl, rfl, trivial⟩ rfl ?_
  rintro o' H' ⟨rfl, tot', rfl, htt⟩
  conv => whnf
  refine And.intro (fun he => ?_) (fun he => ?_)
  · have he : ¬ (0 + wG n c t ≤ 1048576) := by simpa using he
    conv => whnf
    rw [if_neg (fun h => he (hcond.1.2 h))]
  · have he : 0 + wG n c t ≤ 1048576 := by simpa using he
    rw [if_pos (hcond.1.1 he), htt he, hcond.2 he]
    conv => whnf
    try exact rfl
theorem kput_fn (t : TG) (n : Int) (y : TG) (hv : okV t = true) (hz : szG t < 1099511627776) (hy : szG y < 1099511627776) : FnQ Tryz.prog G0 29 [dG t, .int .i64 n, dG y] (fun o => o = resO (putR t n y)) := by
  have hS := putSize_fn t n y hv hz (by omega)
  have hP := putTop_fn t hz n y hy
  unfold putR
  by_cases h : szG t + cntG n t * (szG y - 1) ≤ 1048576
  · rw [if_pos h] at hS ⊢
    refine fnQ_of_vc txok mixed [] Tryz.func29 rfl rfl (by simp) fun b => ?_
    conv => whnf
    refine callF hS gf60 rfl rfl ?_
    conv => whnf
    refine And.intro (fun he => absurd (of_decide_eq_true he) (by omega)) (fun he => ?_)
    conv => whnf
    refine callF hP gf61 rfl rfl ?_
    conv => whnf
    try exact rfl
  · rw [if_neg h] at hS ⊢
    refine fnQ_of_vc txok mixed [] Tryz.func29 rfl rfl (by simp) fun b => ?_
    conv => whnf
    refine callF hS gf60 rfl rfl ?_
    conv => whnf
    refine And.intro (fun he => ?_) (fun he => absurd (of_decide_eq_false he) (by decide))
    conv => whnf
    try exact rfl
end Go.Proofs.YtcjkikadolnfgaaGreat


/- Target terms as data; scopes. -/
set_option linter.unusedSimpArgs false
set_option linter.unusedVariables false
namespace Go.Proofs.YtcjkikadolnfgaaGreat
open Go.Vx Go.Vc Go.RowKit
inductive MG where
  | mk (k n i : Int) (nm : ByteArray) (ls : List ByteArray) (ts : List TG) (ks : List MG)
def MG.k : MG → Int | .mk k _ _ _ _ _ _ => k
def MG.n : MG → Int | .mk _ n _ _ _ _ _ => n
def MG.i : MG → Int | .mk _ _ i _ _ _ _ => i
def MG.nm : MG → ByteArray | .mk _ _ _ m _ _ _ => m
def MG.ls : MG → List ByteArray | .mk _ _ _ _ l _ _ => l
def MG.ts : MG → List TG | .mk _ _ _ _ _ t _ => t
def MG.ks : MG → List MG | .mk _ _ _ _ _ _ l => l
mutual
def encM0 : MG → List D
  | .mk k n i nm ls ts ks => [.int .i64 k, .int .i64 n, .int .i64 i, .str nm, slD 16 ls.length (encS ls), slD 64 ts.length (encGs ts), slD 112 ks.length (encMs ks)]
def encMs : List MG → List D
  | [] => []
  | m :: r => encM0 m ++ encMs r
end
def encM (m : MG) : List D := [.int .i64 m.k, .int .i64 m.n, .int .i64 m.i, .str m.nm, slD 16 m.ls.length (encS m.ls), slD 64 m.ts.length (encGs m.ts), slD 112 m.ks.length (encMs m.ks)]
theorem encM0_eq (m : MG) : encM0 m = encM m := by cases m; rfl
theorem encMs_eq : ∀ l : List MG, encMs l = fl encM l
  | [] => rfl
  | t :: r => by simp only [encMs, fl, encMs_eq r, encM0_eq]
theorem encM_len (m : MG) : (encM m).length = 7 := rfl
theorem encMs_at (l : List MG) (i : Nat) (hi : i < l.length) : ((encMs l).drop (i * 7)).take 7 = encM l[i] := by rw [encMs_eq]; exact fl_at encM_len l i hi
theorem IdxC.encMs {l : List MG} {j : Int} {K : Go.Vx.SV → Prop} (i : Nat) (hi : i < l.length) (hj : j = (i : Int)) (hk : K (.d (.ptr (encM l[i]) 0))) : IdxC l.length 7 (Go.Proofs.YtcjkikadolnfgaaGreat.encMs l) j K :=
  ⟨i, hj, hi, _, encMs_at l i hi, hk⟩
abbrev dM (m : MG) : D := .agg (encM m)
abbrev dMs (l : List MG) : D := slD 112 l.length (encMs l)
theorem szOk_M {m : MG} (h : szOk (dM m)) : m.ks.length * 112 ≤ LB ∧ szOks (encMs m.ks) ∧ m.ts.length * 64 ≤ LB ∧ m.ls.length * 16 ≤ LB := by
  simp only [dM, encM, szOk, szOks] at h
  have h1 := szOk_sl h.2.2.2.2.2.2.1
  exact ⟨h1.1, h1.2, (szOk_sl h.2.2.2.2.2.1).1, (szOk_sl h.2.2.2.2.1).1⟩
theorem MG.ind {P : MG → Prop} (h : ∀ k n i nm ls ts ks, (∀ m ∈ ks, P m) → P (.mk k n i nm ls ts ks)) : ∀ m, P m
  | .mk k n i nm ls ts ks => h k n i nm ls ts ks (MG.indL h ks)
where MG.indL {P : MG → Prop} (h : ∀ k n i nm ls ts ks, (∀ m ∈ ks, P m) → P (.mk k n i nm ls ts ks)) : ∀ l : List MG, ∀ m ∈ l, P m
  | [], _, ht => by cases ht
  | x :: r, t, ht => by
    rcases List.mem_cons.1 ht with e | ht
    · rw [e]; exact MG.ind h x
    · exact MG.indL h r t ht
mutual
def szM : MG → Nat
  | .mk _ _ _ _ _ ts ks => szMs ks + szGs ts + 1
def szMs : List MG → Nat
  | [] => 0
  | t :: r => szM t + szMs r
end
theorem szM_mem {l : List MG} {t : MG} (h : t ∈ l) : szM t ≤ szMs l := by
  induction l with
  | nil => cases h
  | cons x r ih =>
    simp only [szMs]
    rcases List.mem_cons.1 h with rfl | h
    · omega
    · have := ih h; omega
theorem szM_eq (m : MG) : szM m = szMs m.ks + szGs m.ts + 1 := by cases m; simp only [szM, MG.ks, MG.ts]
abbrev Bd := ByteArray × TG
def encB1 (x : Bd) : List D := .str x.1 :: encG x.2
def encBds : List Bd → List D := fl encB1
theorem encB1_len (x : Bd) : (encB1 x).length = 5 := rfl
theorem encBds_len (l : List Bd) : (encBds l).length = l.length * 5 := fl_len encB1_len l
theorem encBds_at (l : List Bd) (i : Nat) (hi : i < l.length) : ((encBds l).drop (i * 5)).take 5 = encB1 l[i] := fl_at encB1_len l i hi
theorem encBds_app (l m : List Bd) : encBds (l ++ m) = encBds l ++ encBds m := fl_app l m
theorem encB1_scal (t : Bd) : ∀ d ∈ encB1 t, scalD d = true := by
  intro d hd
  simp only [encB1, List.mem_cons] at hd
  rcases hd with rfl | hd
  · rfl
  · exact encG_scal t.2 d hd
theorem encBds_scal (l : List Bd) : ∀ d ∈ encBds l, scalD d = true := by
  intro d hd
  obtain ⟨t, _, h⟩ := fl_mem hd
  exact encB1_scal t d h
theorem IdxC.encBds {l : List Bd} {j : Int} {K : Go.Vx.SV → Prop} (i : Nat) (hi : i < l.length) (hj : j = (i : Int)) (hk : K (.d (.ptr (encB1 l[i]) 0))) : IdxC l.length 5 (Go.Proofs.YtcjkikadolnfgaaGreat.encBds l) j K :=
  ⟨i, hj, hi, _, encBds_at l i hi, hk⟩
abbrev dBs (l : List Bd) : D := slD 80 l.length (encBds l)
abbrev dSc (vars : List Int) (l : List Bd) : D := .agg [dI vars, dBs l]
end Go.Proofs.YtcjkikadolnfgaaGreat


/- slices.Backward over names with their types. -/
set_option linter.unusedSimpArgs false
set_option linter.unusedVariables false
namespace Go.Proofs.YtcjkikadolnfgaaGreat
open Go.Proofs Go.RowKit Go.Shelf
attribute [local go_sem] Oper.semAt_some
def elN (cl : Nat → Nat → Value) (j : Nat) : Value := .agg #[cl j 0, cl j 1, cl j 2, cl j 3, cl j 4]
def encN (cl : Nat → Nat → Value) (x : Nat) : Array Value := #[.int .i64 (x : Int), .agg #[cl x 0, cl x 1, cl x 2, cl x 3, cl x 4]]
def prN (n : Nat) : List Nat := (List.range n).map fun j => n - 1 - j
theorem prN_take {n k : Nat} (h : k < n) : (prN n).take (k + 1) = (prN n).take k ++ [n - 1 - k] := by
  have hl : k < (prN n).length := by simp [prN, h]
  rw [List.take_succ_eq_append_getElem hl]
  simp [prN]
theorem kpCell {S : Nat → Prop} {A B : World} (h : Go.Vx.KpP S A B) {p : Addr} (hp : S p.block) : B.cell? p = A.cell? p := by
  unfold World.cell?
  rw [h.2 _ hp]
theorem kpTrans {S : Nat → Prop} {A B C : World} (h : Go.Vx.KpP S A B) (h' : Go.Vx.KpP S B C) : Go.Vx.KpP S A C := ⟨Nat.le_trans h.1 h'.1, fun k hk => (h'.2 k hk).trans (h.2 k hk)⟩
set_option maxRecDepth 100000 in
set_option maxHeartbeats 2000000 in
theorem backB_in (F : Fence) (n : Nat) (h70 : F.fn 183) (hro : F.round = none) (hn : 1 ≤ n) (l Bs so b off cap : Nat) (N : Nat) (cl : Nat → Nat → Value) (hreach : N * 80 ≤ 140737488355328) (Sx : Nat → Prop) (hb : Sx b) (hBl : Sx Bs) (J Jx : List Nat → World → Prop) (W : World) (hJ : AbidesFrom W.heap.size J)
    (hY : ∀ pre x W, J pre W → x < N → pre.length < N → YieldAt F (n - 1) Tryz.prog l (encN cl x) W fun e W' =>
      (e = .returned (.bool true) ∧ J (pre ++ [x]) W' ∧ Go.Vx.KpP Sx W W') ∨ (e = .returned (.bool false) ∧ Jx (pre ++ [x]) W'))
    (hBs : W.cell? ⟨Bs, so, none⟩ = some (.slice (some ⟨b, off, none⟩) N cap))
    (hc : ∀ j, j < N → ∀ i, i < 5 → W.cell? ⟨b, off + j * 5 + i, none⟩ = some (cl j i)) (h0 : J [] W) :
    CallsIn F n Tryz.prog 183 #[.func (.yield l) #[] #[], .pointer (some ⟨Bs, so, none⟩)] W fun e W' => (∃ v, e = .returned v) ∧
      ((∃ ys, ys = prN N ∧ J ys W') ∨ (∃ pre, (∃ k, k ≤ N ∧ pre = (prN N).take k) ∧ Jx pre W')) := by
  refine callsIn_of_wp Tryz.func183 rfl h70 ?_ hro
  simp only [Tryz.ntmps183, List.size_toArray, List.length_cons, List.length_nil, Nat.reduceAdd, Nat.reduceSub, Array.replicate_succ, Array.replicate_zero, List.push_toArray, List.append_toArray, List.nil_append, List.cons_append]
  gi_wp2
  gi_loopw [3] (fun i wr => ∃ k : Nat, k ≤ N ∧ i = .int .i64 ((N : Int) - 1 - k) ∧ J ((prN N).take k) wr ∧ Go.Vx.KpP Sx W wr)
    (fun i _ => (intOf i + 1).toNat)
  case atStart => exact ⟨0, Nat.zero_le _, by simp, h0, ⟨Nat.le_refl _, fun _ _ => rfl⟩⟩
  case round =>
    obtain ⟨k, hk, rfl, hJs, hnx⟩ := hrel
    by_cases hlt : k < N
    · have e : (N : Int) - 1 - (k : Int) = ((N - 1 - k : Nat) : Int) := by omega
      have hc0 := (kpCell hnx (p := ⟨b, off + (N - 1 - k) * 5 + 0, none⟩) hb).trans (hc (N - 1 - k) (by omega) 0 (by omega))
      have hc1 := (kpCell hnx (p := ⟨b, off + (N - 1 - k) * 5 + 1, none⟩) hb).trans (hc (N - 1 - k) (by omega) 1 (by omega))
      have hc2 := (kpCell hnx (p := ⟨b, off + (N - 1 - k) * 5 + 2, none⟩) hb).trans (hc (N - 1 - k) (by omega) 2 (by omega))
      have hc3 := (kpCell hnx (p := ⟨b, off + (N - 1 - k) * 5 + 3, none⟩) hb).trans (hc (N - 1 - k) (by omega) 3 (by omega))
      have hc4 := (kpCell hnx (p := ⟨b, off + (N - 1 - k) * 5 + 4, none⟩) hb).trans (hc (N - 1 - k) (by omega) 4 (by omega))
      have hBs1 := (kpCell hnx (p := ⟨Bs, so, none⟩) hBl).trans hBs
      have htk := prN_take hlt
      rw [e]
      generalize hq : N - 1 - k = q at *
      rw [Nat.add_zero] at hc0
      obtain ⟨fn, tmps, assign, body, hy, hR⟩ := hY ((prN N).take k) q wr hJs (by omega) (by simp [prN]; omega)
      unfold encN at hy
      gi_wp2
      refine hR.mono ?_
      rintro e W3 (⟨rfl, hJ3, hk3⟩ | ⟨rfl, hJx3⟩)
      · gi_wp2
        go_roundw
        case rel => exact ⟨k + 1, by omega, by congr 1; omega, by rw [htk]; exact hJ3, kpTrans hnx hk3⟩
        case measure => simp [intOf]
      · gi_wp2
        refine bodyPost_ret (results_none rfl _ _ _) rfl ?_
        exact ⟨⟨_, rfl⟩, .inr ⟨_, ⟨k + 1, by omega, htk.symm⟩, hJx3⟩⟩
    · obtain rfl : k = N := by omega
      gi_wp2
      go_end0
      exact ⟨⟨_, rfl⟩, .inl ⟨_, rfl, by rw [List.take_of_length_le (by simp [prN])] at hJs; exact hJs⟩⟩
end Go.Proofs.YtcjkikadolnfgaaGreat


/- slices.Backward over names with their types: what it is promised. -/
set_option linter.unusedSimpArgs false
set_option linter.unusedVariables false
namespace Go.Proofs.YtcjkikadolnfgaaGreat
open Go.Proofs Go.RowKit Go.Shelf
attribute [local go_sem] Oper.semAt_some
set_option maxRecDepth 100000 in
set_option maxHeartbeats 1000000 in
theorem backB_nil_in (F : Fence) (n : Nat) (h70 : F.fn 183) (hro : F.round = none) (l Bs so c : Nat) (A : Option Addr) (J : List Nat → World → Prop) (W : World) (hBs : W.cell? ⟨Bs, so, none⟩ = some (.slice A 0 c)) (h0 : J [] W) :
    CallsIn F n Tryz.prog 183 #[.func (.yield l) #[] #[], .pointer (some ⟨Bs, so, none⟩)] W fun e W' => (∃ v, e = .returned v) ∧ J [] W' := by
  refine callsIn_of_wp Tryz.func183 rfl h70 ?_ hro
  simp only [Tryz.ntmps183, List.size_toArray, List.length_cons, List.length_nil, Nat.reduceAdd, Nat.reduceSub, Array.replicate_succ, Array.replicate_zero, List.push_toArray, List.append_toArray, List.nil_append, List.cons_append]
  gi_wp2
  gi_loopw [3] (fun i wr => i = .int .i64 (-1) ∧ J [] wr) (fun _ _ => 0)
  case atStart => exact ⟨rfl, h0⟩
  case round =>
    obtain ⟨rfl, hJs⟩ := hrel
    gi_wp2
    go_end0
    exact ⟨⟨_, rfl⟩, hJs⟩
theorem spotNone {w : World} {ad : Addr} {v : Value} (h : w.cell? ad = some v) : ad.spot = none := by
  unfold World.cell? at h
  split at h
  · cases hs : ad.spot with
    | none => rfl
    | some s => simp [hs] at h
  · cases h
theorem repDs5 {S : Nat → Prop} {w : World} {a0 a1 a2 a3 a4 : Go.Vx.D} {vs : List Value} (h : Go.Vx.RepDs S w [a0, a1, a2, a3, a4] vs) : ∃ v0 v1 v2 v3 v4, vs = [v0, v1, v2, v3, v4] := by
  simp only [Go.Vx.RepDs] at h
  obtain ⟨v0, s0, rfl, _, v1, s1, rfl, _, v2, s2, rfl, _, v3, s3, rfl, _, v4, s4, rfl, _, rfl⟩ := h
  exact ⟨v0, v1, v2, v3, v4, rfl⟩
theorem backB_of {S : Nat → Prop} {w : World} {l : List Bd} (hl : l.length * 80 ≤ 140737488355328) {ad : Addr} (hr : Go.Vx.RepC S w [dBs l] (some ad) 0) (hlt : ∀ k, S k → k < w.heap.size) :
    ∃ cl : Nat → Nat → Value, (∀ j (h : j < l.length), Go.Vx.RepDs S w (encB1 l[j]) [cl j 0, cl j 1, cl j 2, cl j 3, cl j 4]) ∧
    SeqStopsK Fence.wide 9 Tryz.prog 183 #[.pointer (some ad)] (fun j : Fin l.length => encN cl j.val) (Go.Vx.KpP S) (fun ys => ys.map (·.val) = prN l.length) (fun pre => ∃ k, k ≤ l.length ∧ pre.map (·.val) = (prN l.length).take k) l.length w := by
  simp only [Go.Vx.RepC] at hr
  obtain ⟨⟨ad', v, e, h1, h2, h3⟩, _⟩ := hr
  injection e with e; subst e
  rw [show ad.add 0 = ad from rfl] at h2
  have hs := spotNone h2
  obtain ⟨Bs, so, sp⟩ := ad
  simp only at hs; subst hs
  simp only [Go.Vx.slD, Go.Vx.RepD] at h3
  obtain ⟨A, c, rfl, g1, g2, g3, g4⟩ := h3
  rcases Nat.eq_zero_or_pos l.length with hz | hz
  · have hl0 : l = [] := List.length_eq_zero_iff.1 hz
    subst hl0
    refine ⟨fun _ _ => undef, And.intro (fun j (h : j < 0) => absurd h (Nat.not_lt_zero j)) ?_⟩
    intro q J Jx W hW hJ _ hY h0
    have h2' : W.cell? ⟨Bs, so, none⟩ = some (.slice A 0 c) := (hW.cell (p := ⟨Bs, so, none⟩) (hlt _ h1)).trans h2
    exact (backB_nil_in Fence.wide 9 trivial rfl q Bs so c A (fun p W => p = [] ∧ J [] W) W h2' ⟨rfl, h0⟩).mono fun e W' ⟨he, hj⟩ => ⟨he, .inl ⟨[], rfl, hj.2⟩⟩
  · obtain ⟨ad2, rfl⟩ := g3 (by omega)
    obtain ⟨vs, k1, k2⟩ := g4.cells
    have hvl : vs.length = l.length * 5 := by rw [k1.len, encBds_len]
    have k3 : ∀ j, j < l.length → ∀ i, i < 5 → S ad2.block ∧ w.cell? (ad2.add (j * 5 + i)) = some (vs.getD (j * 5 + i) undef) := by
      intro j hj i hi
      have := k2 (j * 5 + i) (vs.getD (j * 5 + i) undef) (by rw [List.getD_eq_getElem?_getD, List.getElem?_eq_getElem (by omega)]; rfl)
      simpa using this
    have hs2 := spotNone (k3 0 hz 0 (by omega)).2
    obtain ⟨bk, off, sp⟩ := ad2
    have hs2 : sp = none := hs2
    subst hs2
    refine ⟨fun j i => vs.getD (j * 5 + i) undef, fun j h => ?_, ?_⟩
    · have hd := (k1.drop (j * 5)).take 5
      rw [encBds_at l j h] at hd
      obtain ⟨v0, v1, v2, v3, v4, he⟩ := repDs5 (show Go.Vx.RepDs S w [_, _, _, _, _] _ from hd)
      have gt : ∀ i, i < 5 → vs.getD (j * 5 + i) undef = ([v0, v1, v2, v3, v4] : List Value).getD i undef := by
        intro i hi
        rw [← he, List.getD_eq_getElem?_getD, List.getD_eq_getElem?_getD, List.getElem?_take_of_lt hi, List.getElem?_drop]
      rw [he] at hd
      show Go.Vx.RepDs S w (encB1 l[j]) [vs.getD (j * 5 + 0) undef, vs.getD (j * 5 + 1) undef, vs.getD (j * 5 + 2) undef, vs.getD (j * 5 + 3) undef, vs.getD (j * 5 + 4) undef]
      rw [gt 0 (by omega), gt 1 (by omega), gt 2 (by omega), gt 3 (by omega), gt 4 (by omega)]
      exact hd
    · intro q J Jx W hW hJ hJx hY h0
      have h2' : W.cell? ⟨Bs, so, none⟩ = some (.slice (some ⟨bk, off, none⟩) l.length c) := (hW.cell (p := ⟨Bs, so, none⟩) (hlt _ h1)).trans h2
      refine (backB_in Fence.wide 9 trivial rfl (by omega) q Bs so bk off c l.length (fun j i => vs.getD (j * 5 + i) undef) hl S (k3 0 hz 0 (by omega)).1 h1 (fun p W => ∃ p' : List (Fin l.length), p'.map (·.val) = p ∧ J p' W) (fun p W => ∃ p' : List (Fin l.length), p'.map (·.val) = p ∧ Jx p' W) W ?_ ?_ h2' (fun j hj i hi => ?_) ⟨[], rfl, h0⟩).mono ?_
      · rintro s X Y row ⟨p', e, hp⟩ hg hr
        exact ⟨p', e, hJ p' X Y row hp hg hr⟩
      · rintro pre x W1 ⟨p', rfl, hp⟩ hx hpl
        obtain ⟨fn, tmps, assign, body, hy, hR⟩ := hY p' ⟨x, hx⟩ W1 hp (by simpa using hpl)
        refine ⟨fn, tmps, assign, body, hy, hR.mono ?_⟩
        rintro e W' (⟨h1, h2, h3⟩ | ⟨h1, h2⟩)
        · exact .inl ⟨h1, ⟨p' ++ [⟨x, hx⟩], by simp, h2⟩, h3⟩
        · exact .inr ⟨h1, p' ++ [⟨x, hx⟩], by simp, h2⟩
      · have := (k3 j hj i hi).2
        rw [Go.Vc.add_own] at this
        rw [Nat.add_assoc]
        exact (hW.cell (p := ⟨bk, off + (j * 5 + i), none⟩) (hlt _ (k3 0 hz 0 (by omega)).1)).trans this
      · rintro e W' ⟨hv, ⟨ys, rfl, p', e1, hj⟩ | ⟨pre, ⟨k, hk, rfl⟩, p', e1, hj⟩⟩
        · exact ⟨hv, .inl ⟨p', e1, hj⟩⟩
        · exact ⟨hv, .inr ⟨p', ⟨k, hk, e1⟩, hj⟩⟩
end Go.Proofs.YtcjkikadolnfgaaGreat


/- The rule of names. -/
set_option linter.unusedSimpArgs false
set_option linter.unusedVariables false
namespace Go.Proofs.YtcjkikadolnfgaaGreat
open Go.Vx Go.Vc Go.RowKit
theorem backwardB_fn (l : List Bd) : FnR Tryz.prog G0 166 [dBs l] (.fn 183 [] [.ptr [dBs l] 0]) := by
  refine fnQ_of_vc txok mixed [] Tryz.func166 rfl rfl (by simp) fun b => ?_
  conv => whnf
  try exact rfl
def lookR (l : List Bd) (nm : ByteArray) : Except Int TG := match l.reverse.find? (fun b => decide (b.1 = nm)) with
  | some b => .ok b.2
  | none => .error 30
theorem rev_prN (l : List Bd) : l.reverse = (prN l.length).map fun j => l.getD j (ByteArray.empty, .mk 0 0 [] []) := by
  unfold prN
  rw [List.map_map]
  apply List.ext_getElem?
  intro i
  rcases Nat.lt_or_ge i l.length with hi | hi
  · rw [List.getElem?_reverse (by simpa using hi), List.getElem?_map, List.getElem?_range (by omega)]
    simp only [Option.map_some, Function.comp_apply]
    rw [List.getD_eq_getElem?_getD, List.getElem?_eq_getElem (by omega)]
    rfl
  · rw [List.getElem?_eq_none (by simpa using hi), List.getElem?_eq_none (by simpa using hi)]
theorem getD_fin (l : List Bd) (j : Fin l.length) (d : Bd) : l.getD j.val d = l[j.val] := by
  rw [List.getD_eq_getElem?_getD, List.getElem?_eq_getElem j.isLt]; rfl
theorem look_none (l : List Bd) (nm : ByteArray) (xs : List (Fin l.length)) (h : xs.map (·.val) = prN l.length) (hn : ∀ i ∈ xs, l[i.val].1 ≠ nm) : lookR l nm = .error 30 := by
  unfold lookR
  have : l.reverse.find? (fun b => decide (b.1 = nm)) = none := by
    rw [List.find?_eq_none]
    intro x hx
    rw [rev_prN, ← h, List.map_map] at hx
    obtain ⟨i, hi, rfl⟩ := List.mem_map.1 hx
    have := hn i hi
    simp only [Function.comp_apply]
    intro he
    have he := of_decide_eq_true he
    rw [getD_fin] at he
    exact this he
  rw [this]
theorem look_some (l : List Bd) (nm : ByteArray) (p : List (Fin l.length)) (j : Fin l.length) (h : ∃ k, k ≤ l.length ∧ (p ++ [j]).map (·.val) = (prN l.length).take k) (hn : ∀ i ∈ p, l[i.val].1 ≠ nm) (hj : l[j.val].1 = nm) : lookR l nm = .ok l[j.val].2 := by
  unfold lookR
  obtain ⟨k, hk, h⟩ := h
  have h2 : prN l.length = (p ++ [j]).map (·.val) ++ (prN l.length).drop k := by rw [h, List.take_append_drop]
  have : l.reverse.find? (fun b => decide (b.1 = nm)) = some l[j.val] := by
    rw [rev_prN, h2, List.map_append, List.map_append, List.map_append, List.find?_append, List.find?_append]
    have h3 : (List.map (fun j => l.getD j (ByteArray.empty, .mk 0 0 [] [])) (List.map (·.val) p)).find? (fun b => decide (b.1 = nm)) = none := by
      rw [List.find?_eq_none]
      intro x hx
      rw [List.map_map] at hx
      obtain ⟨i, hi, rfl⟩ := List.mem_map.1 hx
      have := hn i hi
      simp only [Function.comp_apply]
      intro he
      have he := of_decide_eq_true he
      rw [getD_fin] at he
      exact this he
    rw [h3]
    simp only [List.map_cons, List.map_nil, Option.none_or]
    rw [getD_fin, List.find?_cons_of_pos (by simpa using hj)]
    rfl
  rw [this]
abbrev mcS (m : MG) : List Vx.SV := [.d (.int .i64 m.k), .d (.int .i64 m.n), .d (.int .i64 m.i), .d (.str m.nm), .d (slD 16 m.ls.length (encS m.ls)), .d (slD 64 m.ts.length (encGs m.ts)), .d (slD 112 m.ks.length (encMs m.ks))]
abbrev tcS (t : TG) : List Vx.SV := [.d (.int .i64 t.k), .d (.int .i64 t.n), .d (slD 16 t.ls.length (encS t.ls)), .d (slD 64 t.kids.length (encGs t.kids))]
abbrev nmH0 (vars : List Int) (l : List Bd) (m : MG) (r : List Vx.SV) : Hp := [(0, .blk 71 [.d (dI vars), .d (dBs l)]), (1, .blk 26 (mcS m)), (2, .blk 28 r)]
abbrev zS : List Vx.SV := [.d (.int .i64 0), .d (.int .i64 0), .nl, .nl]
def nmR (l : List Bd) (pre : List (Fin l.length)) : List Vx.SV := match pre.getLast? with | some j => tcS l[j.val].2 | none => zS
theorem nmR_snoc (l : List Bd) (pre : List (Fin l.length)) (j : Fin l.length) : nmR l (pre ++ [j]) = tcS l[j.val].2 := by simp only [nmR, List.getLast?_concat]
abbrev nmHX (vars : List Int) (l : List Bd) (m : MG) (pre : List (Fin l.length)) : Hp := nmH0 vars l m (nmR l pre)
abbrev nmHA (vars : List Int) (l : List Bd) (m : MG) (x : Bd) : Hp := [(0, .blk 71 [.d (dI vars), .d (dBs l)]), (1, .blk 26 (mcS m)), (2, .blk 28 zS), (3, .blk 66 (.d (.str x.1) :: tcS x.2))]
theorem nmH0_plain (vars : List Int) (l : List Bd) (m : MG) (r : List Vx.SV) : plainH (nmH0 vars l m r) := by
  intro i o h φ
  simp only [lk] at h
  repeat' (split at h)
  all_goals first | (injection h with h; subst h; nofun) | cases h
theorem nmHA_plain (vars : List Int) (l : List Bd) (m : MG) (x : Bd) : plainH (nmHA vars l m x) := by
  intro i o h φ
  simp only [lk] at h
  repeat' (split at h)
  all_goals first | (injection h with h; subst h; nofun) | cases h
set_option maxRecDepth 100000 in
theorem name_fn (vars : List Int) (l : List Bd) (m : MG) : FnQ Tryz.prog G0 117 [dSc vars l, dM m] (fun o => o = resO (lookR l m.nm)) := by
  refine fnQ_sz fun hs => ?_
  have hl : l.length * 80 ≤ 140737488355328 := by
    have := hs.1
    simp only [dSc, szOk, szOks] at this
    have := (szOk_sl this.2.1).1
    simp only [LB] at this
    omega
  refine fnQ_of_tri fun e w vs hlen hargs hH hG => ?_
  have ok0 := tri_start (G := G0) (fn := Tryz.f117) (N := 21) (args := [.d (dSc vars l), .d (dM m)]) (f := 0) rfl (by simp) hlen hargs hH hG
  refine (callsIn_wide (n := 12)).1 (callsIn_of_wp_marks Tryz.func117 rfl trivial ?_ rfl)
  refine wpIn_wide.2 ?_
  refine wp_seq (vc_piece (plans := []) txok mixed ⟨[(2, .own 0 0), (3, .own 1 0), (4, .own 2 0)], nmH0 vars l m zS, 3⟩ ok0 ?_ fun e1 a1 w1 ok1 => ?_)
  · conv => whnf
    exact weak_of rfl (by repeat ((conv => whnf); first | exact trivial | refine And.intro rfl ?_ | refine And.intro (incD (by omega)) ?_)) (by repeat ((conv => whnf); first | exact trivial | refine And.intro rfl ?_ | refine And.intro (incD (by omega)) ?_))
  simp only [Exit.then]
  refine wp_seq (wp_seq (vc_piece (plans := []) txok mixed ⟨[(9, .d (.fn 183 [] [.ptr [dBs l] 0])), (2, .own 0 0), (3, .own 1 0), (4, .own 2 0)], nmH0 vars l m zS, 3⟩ ok1 ?_ fun e2 a2 w2 ok2 => ?_))
  · conv => whnf
    refine callF (backwardB_fn l) gf166 rfl rfl ?_
    conv => whnf
    exact weak_of rfl (by repeat ((conv => whnf); first | exact trivial | refine And.intro rfl ?_ | refine And.intro (incD (by omega)) ?_)) (by repeat ((conv => whnf); first | exact trivial | refine And.intro rfl ?_ | refine And.intro (incD (by omega)) ?_))
  simp only [Exit.then]
  have hdf := ok2.df
  simp only at hdf
  have tg := ok2.tm 9 _ rfl
  simp only [RepSV, RepD, RepDs] at tg
  obtain ⟨a', b', tg, ha', ⟨v2, s2, hb', ⟨ad, rfl, hcap⟩, rfl⟩⟩ := tg
  have ha' : a' = #[] := by apply Array.ext'; simpa using ha'
  subst ha'
  have hb' : b' = #[.pointer (some ad)] := by apply Array.ext'; rw [hb']; rfl
  subst hb'
  have hsz2 := ok2.sz
  obtain ⟨cl, hcl, hseq⟩ := backB_of hl hcap ok2.hp.pubLt
  refine wp_block ?_
  refine range_okC (encs := fun j : Fin l.length => encN cl j.val) (fun _ _ => trivial) (fun _ _ => trivial) (nmH0 vars l m zS) (nmHX vars l m) (fun pre => ∃ p j, pre = p ++ [j] ∧ l[j.val].1 = m.nm ∧ ∀ i ∈ p, l[i.val].1 ≠ m.nm) (fun pre => ∀ i ∈ pre, l[i.val].1 ≠ m.nm) (by simp) (nmH0_plain _ _ _ _) (fun _ => nmH0_plain _ _ _ _) ok2 (by simpa [Act.eval] using tg) gf183
    hseq (fun _ => rfl)
    (fun x => { tmps := ((a2.tmps.setIfInBounds 10 (.int .i64 (x.val : Int))).setIfInBounds 11 (.agg #[cl x.val 0, cl x.val 1, cl x.val 2, cl x.val 3, cl x.val 4])), defers := [] }) (fun x => by simp [encN]) (fun x => by simp [hsz2])
    (fun x => [(11, .d (.agg (encB1 l[x.val])))]) ?tx ?t rfl
    (fun x => [(6, .own 3 0), (3, .own 1 0), (4, .own 2 0)]) (fun x => nmHA vars l m l[x.val]) 4 (fun _ => nmHA_plain _ _ _ _) ?assign ?body (fun _ => weak_of rfl (by repeat ((conv => whnf); first | exact trivial | refine And.intro rfl ?_ | refine And.intro (incD (by omega)) ?_)) (by repeat ((conv => whnf); first | exact trivial | refine And.intro rfl ?_ | refine And.intro (incD (by omega)) ?_))) (fun _ pre => by unfold nmHX nmR; cases pre.getLast? <;> exact weak_of rfl (by repeat ((conv => whnf); first | exact trivial | refine And.intro rfl ?_ | refine And.intro (incD (by omega)) ?_)) (by repeat ((conv => whnf); first | exact trivial | refine And.intro rfl ?_ | refine And.intro (incD (by omega)) ?_))) ?done ?stop
  case tx =>
    intro x m S' W hS hW hle t sv ht
    simp only [lk] at ht
    split at ht
    · rename_i h; obtain rfl := nbeq.1 h
      injection ht with ht; subst ht
      have := (hcl x.val x.isLt).to hW fun k hk _ => hS k hk
      simp only [RepSV, RepD]
      exact ⟨_, by simp [hsz2], this⟩
    · cases ht
  case t =>
    intro x t sv ht hn
    simp only [lk] at ht
    repeat' (split at ht)
    all_goals first | (rename_i h; obtain rfl := nbeq.1 h; simp [Array.getElem?_setIfInBounds]; done) | (cases ht; done)
  case assign =>
    intro q b' x e' W
    refine wki_region txok (by rfl) ?_ e' _ W
    show Vx.vcSeq _ _ _ _ _ _ ⟨[(11, .d (.agg (encB1 l[x.val]))), (9, .d (.fn 183 [] [.ptr [dBs l] 0])), (2, .own 0 0), (3, .own 1 0), (4, .own 2 0)], nmH0 vars l m zS, 3⟩ _
    conv => whnf
    exact ⟨weak_of rfl (by repeat ((conv => whnf); first | exact trivial | refine And.intro rfl ?_ | refine And.intro (incD (by omega)) ?_)) (by repeat ((conv => whnf); first | exact trivial | refine And.intro rfl ?_ | refine And.intro (incD (by omega)) ?_)), weak_of rfl (by repeat ((conv => whnf); first | exact trivial | refine And.intro rfl ?_ | refine And.intro (incD (by omega)) ?_)) (by repeat ((conv => whnf); first | exact trivial | refine And.intro rfl ?_ | refine And.intro (incD (by omega)) ?_))⟩
  case body =>
    intro q b' pre x e' a' W hM hR hOk
    revert hOk
    by_cases h : l[x.val].1 = m.nm
    · refine wki_block (by rintro j s h; exact h) (wki_seq ⟨[(16, .d (.bool true)), (6, .own 3 0), (3, .own 1 0), (4, .own 2 0)], nmHA vars l m l[x.val], 4⟩ (wki_region txok (by rfl) ?_) (wki_true rfl (wki_seq ⟨[], nmH0 vars l m (tcS l[x.val].2) ++ [(3, .blk 66 (.d (.str l[x.val].1) :: tcS l[x.val].2))], 4⟩ (wki_region txok (by rfl) ?_) (wki_ret ?_)))) e' a' W
      · conv => whnf
        rw [beqB', decide_eq_true h]
        exact weak_of rfl (by repeat ((conv => whnf); first | exact trivial | refine And.intro rfl ?_ | refine And.intro (incD (by omega)) ?_)) (by repeat ((conv => whnf); first | exact trivial | refine And.intro rfl ?_ | refine And.intro (incD (by omega)) ?_))
      · conv => whnf
        exact weak_of rfl (by repeat ((conv => whnf); first | exact trivial | refine And.intro rfl ?_ | refine And.intro (incD (by omega)) ?_)) (by repeat ((conv => whnf); first | exact trivial | refine And.intro rfl ?_ | refine And.intro (incD (by omega)) ?_))
      · refine ⟨⟨pre, x, rfl, h, hR⟩, ?_⟩
        unfold nmHX
        rw [nmR_snoc]
        exact weak_of rfl (by repeat ((conv => whnf); first | exact trivial | refine And.intro rfl ?_ | refine And.intro (incD (by omega)) ?_)) (by repeat ((conv => whnf); first | exact trivial | refine And.intro rfl ?_ | refine And.intro (incD (by omega)) ?_))
    · refine wki_block (by rintro j s h; exact h) (wki_seq ⟨[(16, .d (.bool false)), (6, .own 3 0), (3, .own 1 0), (4, .own 2 0)], nmHA vars l m l[x.val], 4⟩ (wki_region txok (by rfl) ?_) (wki_false rfl (wki_skip ?_))) e' a' W
      · conv => whnf
        rw [beqB', decide_eq_false h]
        exact weak_of rfl (by repeat ((conv => whnf); first | exact trivial | refine And.intro rfl ?_ | refine And.intro (incD (by omega)) ?_)) (by repeat ((conv => whnf); first | exact trivial | refine And.intro rfl ?_ | refine And.intro (incD (by omega)) ?_))
      · refine ⟨fun i hi => ?_, weak_of rfl (by repeat ((conv => whnf); first | exact trivial | refine And.intro rfl ?_ | refine And.intro (incD (by omega)) ?_)) (by repeat ((conv => whnf); first | exact trivial | refine And.intro rfl ?_ | refine And.intro (incD (by omega)) ?_))⟩
        rcases List.mem_append.1 hi with hi | hi
        · exact hR i hi
        · rw [List.mem_singleton.1 hi]; exact h
  case done =>
    rintro D xs e' W hx hR okD hD hK hp
    have hlt2 : w.heap.size ≤ w2.heap.size := ok2.below.size
    have okE := ok2.rebase okD
    simp only [Exit.inBlock, Exit.then]
    rw [hdf] at okE ⊢
    refine marks_end (fn := Tryz.f117) (kp := []) (plans := []) txok mixed (fun _ _ => trivial) hlen okE (nmH0_plain _ _ _ _) hK (Nat.le_trans hlt2 hD) hp fun b => ?_
    rw [look_none l m.nm xs hx hR]
    conv => whnf
    refine callQ rfl rfl gf167 (ask_fn false) ?_
    rintro o rfl
    conv => whnf
    try exact rfl
  case stop =>
    rintro D xs e' W hx ⟨p, j, rfl, hj, hR⟩ okD hD hK hp
    have hlt2 : w.heap.size ≤ w2.heap.size := ok2.below.size
    have okE := ok2.rebase okD
    simp only [Exit.inBlock, Exit.then]
    rw [hdf] at okE ⊢
    rw [look_some l m.nm p j hx hR hj]
    have hm := Nat.le_trans hlt2 hD
    refine marks_fin (fn := Tryz.f117) (kp := []) txok (fun _ _ => trivial) hlen okE hK hm hp ?_ ?_
    · intro i hi hf
      obtain ⟨o, h1, h2⟩ := foot_cells okE.hp (nmH0_plain _ _ _ _) hi hf
      rw [hK] at h1; injection h1 with h1; subst h1; cases h2
    · unfold nmHX
      rw [nmR_snoc]
      conv => whnf
      try exact rfl
end Go.Proofs.YtcjkikadolnfgaaGreat


/- Scopes: here, with, open. -/
set_option linter.unusedSimpArgs false
set_option linter.unusedVariables false
namespace Go.Proofs.YtcjkikadolnfgaaGreat
open Go.Vx Go.Vc Go.RowKit
def hereR (t : TG) (vars : List Int) : Except Int TG := if insG t vars = true then .ok t else .error 30
theorem here_fn (vars : List Int) (l : List Bd) (t : TG) (hz : szG t < 1099511627776) : FnQ Tryz.prog G0 168 [dSc vars l, dG t] (fun o => o = resO (hereR t vars)) := by
  have hI := inScope_fn t vars hz
  refine fnQ_of_vc txok mixed [] Tryz.func168 rfl rfl (by simp) fun b => ?_
  conv => whnf
  refine callF hI gf14 rfl rfl ?_
  conv => whnf
  refine callQ rfl rfl gf167 (ask_fn (insG t vars)) ?_
  rintro o rfl
  unfold askO hereR
  cases insG t vars
  · conv => whnf
    try exact rfl
  · conv => whnf
    try exact rfl
theorem clipB_fn (l : List Bd) : FnR Tryz.prog G0 184 [dBs l] (.csl (ebn 80 l.length) l.length (encBds l)) := by
  refine fnQ_of_vc txok mixed [] Tryz.func184 rfl rfl (by simp) fun b => ?_
  conv => whnf
  refine clipC (el := 66) txok rfl rfl rfl rfl rfl rfl rfl ?_
  conv => whnf
  try exact rfl
theorem encBds_snoc (s : List Bd) (x : Bd) : encBds s ++ encB1 x = encBds (s ++ [x]) := by
  rw [encBds_app]; rfl
theorem snocB {n0 N : Nat} {b : Bs G0 n0} {kp : Bool} {o : Oper} {st : Go.Vx.St} {K : SExit → Go.Vx.St → Prop} {y : Go.Vx.SV} {eb' : Nat} (s : List Bd) (x : Bd) (ho : appOf st.T o.op = some (.d (.csl eb' s.length (encBds s)), y, 62)) (hy : slOf st.H y = some (1, encB1 x)) (hlen : s.length < 1099511627776)
    (hk : match st with
      | ⟨T, H, q⟩ => Go.Vx.putK N o.dst (.row q) ⟨T, (q, .row 66 80 5 (s ++ [x]).length (encBds (s ++ [x]))) :: H, q + 1⟩ (K .normal)) : OpC Tryz.prog b N kp o st K :=
  appC (el := 66) (eb := 80) (sz := 5) txok (s ++ [x]).length (encBds (s ++ [x])) ho hy (by kernel_rfl) (by decide) (by rw [encBds_len]) (encBds_scal s) rfl (encB1_scal x) (by simp only [LB]; omega) (by simp) (encBds_snoc s x) hk
theorem with_fn (vars : List Int) (l : List Bd) (nm : ByteArray) (t : TG) (hl : l.length < 1099511627776) : FnR Tryz.prog G0 169 [dSc vars l, .str nm, dG t] (dSc vars (l ++ [(nm, t)])) := by
  refine fnQ_of_vc txok mixed [(1, .pure 0 (.take 1 (.pure 3 (.take 4 (.pure 5 (.two 2 6 (.run 6 (.fin 7 (.pure 8 (.fin 9 .done)))) (.run 2 (.fin 7 (.pure 8 (.fin 9 .done))))))))))] Tryz.func169 rfl rfl (by simp) fun b => ?_
  conv => whnf
  refine And.intro (by kernel_rfl) ?_
  repeat' ((conv => whnf); first
    | refine And.intro ?_ ?_
    | refine callF (clipB_fn l) gf184 rfl rfl ?_
    | refine snocB l (nm, t) rfl rfl hl ?_)
  all_goals (conv => whnf)
  all_goals
    refine pubC (fun i => Nat.ble 1 i) ?_
    (conv => whnf)
    try exact rfl
theorem open_fn (vars : List Int) (l : List Bd) (n : Int) (hl : vars.length < 1099511627776) : FnQ Tryz.prog G0 173 [dSc vars l, .int .i64 n] (fun o => o = (if n ∈ vars then .pan (badW 30) else .ret (dSc (vars ++ [n]) l))) := by
  refine fnQ_of_vc txok mixed [] Tryz.func173 rfl rfl (by simp) fun b => ?_
  conv => whnf
  refine callF (contains_fn vars n) gf35 rfl rfl ?_
  conv => whnf
  refine callQ rfl rfl gf167 (ask_fn (!decide (n ∈ vars))) ?_
  rintro o rfl
  unfold askO
  by_cases h : n ∈ vars
  · rw [if_pos h, decide_eq_true h]
    conv => whnf
    try exact rfl
  · rw [if_neg h, decide_eq_false h]
    conv => whnf
    refine callF (clip_fn vars) gf86 rfl rfl ?_
    conv => whnf
    refine snocI vars n rfl rfl (by omega) ?_
    conv => whnf
    all_goals (try exact rfl)
end Go.Proofs.YtcjkikadolnfgaaGreat


/- The reference: count. -/
set_option linter.unusedSimpArgs false
set_option linter.unusedVariables false
namespace Go.Proofs.YtcjkikadolnfgaaGreat
open Go.Vx Go.Vc Go.RowKit
mutual
def rcnt (x : Int) (most : Nat) : TG → Nat
  | .mk k n _ l => if k = 6 ∧ n = x then 1 else if bndG k = true ∧ n = x then 0 else rcnts x most 0 l
def rcnts (x : Int) (most : Nat) : Nat → List TG → Nat
  | a, [] => a
  | a, t :: r => if a ≤ most then rcnts x most (a + rcnt x most t) r else a
end
end Go.Proofs.YtcjkikadolnfgaaGreat


/- kernel.caught: what something makes, or the error that it gives up with. -/
set_option linter.unusedSimpArgs false
set_option linter.unusedVariables false
namespace Go.Proofs.YtcjkikadolnfgaaGreat
open Go.Vx Go.Vc Go.RowKit
abbrev caughtH (er : Int) : Hp := [(0, .blk 28 [.d (.int .i64 0), .d (.int .i64 0), .nl, .nl]), (1, .blk 29 [.d (.int .i64 er)])]
abbrev caughtH0 : Hp := [(1, .blk 29 [.d (.int .i64 0)]), (0, .blk 28 [.d (.int .i64 0), .d (.int .i64 0), .nl, .nl])]
set_option maxRecDepth 100000 in
theorem caughtCatch (er : Int) (e : Env) (w : World) (hlen : e.m.length = 2) (g0 g1 : Nat) (hp : e.m[0]? = some (.pointer (some ⟨g0, 0, none⟩))) (hq : e.m[1]? = some (.pointer (some ⟨g1, 0, none⟩))) (hH : HpOk e w caughtH0) :
    CallsD Tryz.prog 59 #[.pointer (some ⟨g0, 0, none⟩), .pointer (some ⟨g1, 0, none⟩)] (.panicking [{ v := .iface 83 (.int .i64 er), recovered := false }]) w fun en u' w' => en = .returned (.tuple #[]) ∧ u' = .panicking [{ v := .iface 83 (.int .i64 er), recovered := true }] ∧
      ∃ e', Vx.Left G0 0 e w caughtH0 e' w' (caughtH er) := by
  refine callsD_of_wpS Tryz.func59 rfl fun c₀ cs hu => ?_
  apply wpS_seq
  apply wpS_region
  simp [wpOpsS, go_sem, recoverD, hu, Tryz.ntmps59, Exit.thenS]
  apply wpS_seq
  apply wpS_region
  simp [wpOpsS, go_sem, Exit.thenS]
  refine wpS_cond (t := true) (by simp [Act.eval, Array.replicate]) ?_
  simp only [if_true]
  refine wpS_of_wp ?_
  let b : Bs G0 2 := ⟨w, e.pub, feet e caughtH0, e.m, hlen, []⟩
  refine wp_mono (vcCode_sound (b := b) (N := 18) (plans := []) txok mixed _ e ⟨[(0, .own 0 0), (1, .own 1 0), (2, .ifc 83 (.d (.int .i64 er)))], caughtH0, 2⟩ (fun x st => match x with
    | .normal => match st with
      | ⟨T, H, n⟩ => leftK 2 [] H [0, 1] fun H' => H' = caughtH er
    | _ => False) _ _ ⟨?_, ?_, hlen, ?_, hH, Only.refl _ _, trivial, fun i k hi hk => .inl ⟨i, hi, hk⟩, fun k hk => .inl hk, ⟨fun i v h _ => h, Nat.le_refl _, fun k hk => hk⟩, trivial⟩ ?_) ?_
  · simp
  · rfl
  · intro t sv ht
    simp only [lk] at ht
    split at ht
    · rename_i h; obtain rfl := nbeq.1 h
      injection ht with ht; subst ht
      simp only [RepSV]
      exact ⟨g0, hp, by simp [Array.replicate]⟩
    split at ht
    · rename_i h; obtain rfl := nbeq.1 h
      injection ht with ht; subst ht
      simp only [RepSV]
      exact ⟨g1, hq, by simp [Array.replicate]⟩
    split at ht
    · rename_i h; obtain rfl := nbeq.1 h
      injection ht with ht; subst ht
      simp only [RepSV, RepD]
      exact ⟨_, by simp [Array.replicate], rfl⟩
    · cases ht
  · conv => whnf
    refine tassC rfl rfl Tryz.underlying83 (by intro m h; cases h) ?_
    conv => whnf
    try exact rfl
  · intro ex a w' hq'
    cases ex with
    | normal =>
      obtain ⟨e', ⟨T, H, n⟩, h1, h2⟩ := hq'
      simp only at h2
      obtain ⟨H', rfl, k2⟩ := leftK_get _ _ h2
      obtain ⟨e2, _, f2⟩ := left_of h1 hlen rfl hlen k2
      refine ⟨h1.df, _, rfl, .tuple #[], ?_, rfl, ?_, e2, f2⟩
      · simp [results, Tryz.results59, go_sem]
      · rfl
    | panic c => obtain ⟨_, _, _, _, _, _, _, h⟩ := hq'; exact h.elim
    | outgrown => exact hq'.elim
    | ret => obtain ⟨_, _, _, h⟩ := hq'; exact h.elim
    | exit id => obtain ⟨_, _, _, h⟩ := hq'; exact h.elim
    | goto l => obtain ⟨_, _, _, h⟩ := hq'; exact h.elim
def caughtOut : DOut → D
  | .ret x => .tup [x, .int .i64 0]
  | .pan (.ifc _ (.int _ er)) => .tup [dG (.mk 0 0 [] []), .int .i64 er]
  | .pan _ => .tup []
set_option maxRecDepth 100000 in
theorem caught_out {g : FuncId} {caps : List D} {o0 : DOut} (hgo : Goes Tryz.prog g) (hf : FnQ Tryz.prog G0 g caps (fun o => o = o0)) (h0 : (∃ t : TG, o0 = .ret (dG t)) ∨ ∃ er, o0 = .pan (.ifc 83 (.int .i64 er))) :
    FnR Tryz.prog G0 27 [.fn g [] caps] (caughtOut o0) := by
  refine fnQ_of_tri fun e w vs hlen hargs hH hG => ?_
  have ok0 := tri_start (G := G0) (fn := Tryz.f27) (N := 7) (args := [.d (.fn g [] caps)]) (f := 0) rfl (by simp) hlen hargs hH hG
  refine calls_of_wp_defers Tryz.func27 rfl ?_
  refine wp_seq (wp_mono (vcCode_sound (plans := []) txok mixed _ e _ (fun x st => match x with
    | .normal => st = ⟨[(3, .own 1 0), (2, .own 0 0), (0, .d (.fn g [] caps))], [(1, .blk 29 [.d (.int .i64 0)]), (0, .blk 28 [.d (.int .i64 0), .d (.int .i64 0), .nl, .nl])], 2⟩
    | _ => False) _ _ ok0 ?_) ?_)
  · conv => whnf
    try exact rfl
  rintro ex a1 w1 hq
  cases ex with
  | panic c => obtain ⟨_, _, _, _, _, _, _, h⟩ := hq; exact h.elim
  | outgrown => exact hq.elim
  | ret => obtain ⟨_, _, _, h⟩ := hq; exact h.elim
  | exit id => obtain ⟨_, _, _, h⟩ := hq; exact h.elim
  | goto l => obtain ⟨_, _, _, h⟩ := hq; exact h.elim
  | normal =>
  obtain ⟨e1, st1, ok1, rfl⟩ := hq
  have hz1 := ok1.sz
  have t2 := ok1.tm 2 _ rfl
  have t3 := ok1.tm 3 _ rfl
  simp only [RepSV] at t2 t3
  obtain ⟨g0, m0, t2⟩ := t2
  obtain ⟨g1, m1, t3⟩ := t3
  have ok2 := (ok1.put (d := 4) (sv := .any) (v := .func (.func 59) #[] (#[Operand.tmp 2, Operand.tmp 3].map a1.eval)) (by decide) (by simp only [RepSV])).defers' [{ target := .fn (.func 59) (#[Operand.tmp 2, Operand.tmp 3].map a1.eval), args := #[] }]
  have ev2 : #[Operand.tmp 2, Operand.tmp 3].map a1.eval = #[.pointer (some ⟨g0, 0, none⟩), .pointer (some ⟨g1, 0, none⟩)] := by
    simp only [List.map_toArray, List.map_cons, List.map_nil, Act.eval]
    rw [t2, t3]
  refine wp_seq (wp_defer2 (by rw [hz1]; decide) ?_)
  have df1 := ok1.df
  simp only at df1
  rw [df1]
  simp only [Exit.then]
  generalize hb2 : Bs.mk _ _ _ _ _ _ = b2 at ok2
  generalize ha2 : Act.mk _ _ = a2 at ok2 ⊢
  have hbb : b2 = ⟨w, e.pub, feet e [], e.m, hlen, [{ target := .fn (.func 59) #[.pointer (some ⟨g0, 0, none⟩), .pointer (some ⟨g1, 0, none⟩)], args := #[] }]⟩ := by
    rw [← hb2, ev2]
  clear hb2 ha2
  have tm0 := ok2.tm 0 _ rfl
  refine wp_seq (wp_region_list ?_)
  refine wpList_go (v := a2.tmps.getD 0 undef) (w' := w1) (by rfl) (by simp only [execOp]; rfl) ?_
  have ok3 := ok2.put (d := 5) (sv := .d (.fn g [] caps)) (v := a2.tmps.getD 0 undef) (by decide) tm0
  generalize ha3 : a2.put _ _ = a3 at ok3 ⊢
  obtain ⟨vs2, hvs2, hrun⟩ := callOf_run (o := { dst := some 6, op := .call { callee := .value (.tmp 5), args := #[], argTypes := #[] }, type := 28, pos := "kernel.go:95", after := #[{ on := 0, ground := Ground.data }], guard := none }) ok3.tmok rfl hgo
  refine wpList_call (by rfl) hrun ?_
  refine (hf e1.pub w1 vs2 (dOfs_rep (by simpa [Vx.dL] using dOfs_dL caps) hvs2) ok3.hp.pubLt trivial).mono ?_
  rintro en w2 ⟨o', S', rfl, ho, ⟨hb, hdr⟩, hup, hfr, hlt⟩
  obtain ⟨ok4, kw, _⟩ := ok3.below' hb hdr hup hfr hlt
  rcases h0 with ⟨⟨k, n, l, m⟩, rfl⟩ | ⟨er, rfl⟩
  · obtain ⟨v, rfl, hv⟩ := ho
    simp only
    have hv' : RepSV ⟨e1.m, S'⟩ w2 (.agg [.d (.int .i64 k), .d (.int .i64 n), .d (slD 16 l.length (encS l)), .d (slD 64 m.length (encGs m))]) v := by
      obtain ⟨y, hy, hr⟩ := nrm_eq (e := ⟨e1.m, S'⟩) (svD (dG (.mk k n l m))) (fun y => y = .agg [.d (.int .i64 k), .d (.int .i64 n), .d (slD 16 l.length (encS l)), .d (slD 64 m.length (encGs m))]) (by rfl) (svD_rep hv)
      subst hy; exact hr
    have ok5 := ok4.put (d := 6) (by decide) hv'
    refine wpList_mono ?_ _ _ _ (vcSeq_sound (K := fun x st => match x with
      | .normal => endK tx 0 [] Tryz.f27.results.toList (closeQ (retD (caughtOut (.ret (dG (.mk k n l m)))))) st
      | _ => False) txok _ _ _ _ _ ok5 ?_)
    · rintro ex a5 w5 hq
      cases ex with
      | exit id => obtain ⟨_, _, _, h⟩ := hq; exact h.elim
      | goto l => obtain ⟨_, _, _, h⟩ := hq; exact h.elim
      | ret => obtain ⟨_, _, _, h⟩ := hq; exact h.elim
      | outgrown => exact hq.elim
      | panic c => obtain ⟨_, _, _, _, _, _, _, h⟩ := hq; exact h.elim
      | normal =>
        obtain ⟨e6, st6, ok6, hk⟩ := hq
        simp only [Exit.then]
        refine wp_ret ?_
        obtain ⟨v', hv6, hR⟩ := tri_fin (fn := Tryz.f27) (kp := []) txok hlen hbb ok6 hk
        have df6 := ok6.df
        rw [hbb] at df6
        simp only at df6
        simp only [bodyPostD]
        rw [df6]
        refine leaves_cons (f := 59) (args := #[.pointer (some ⟨g0, 0, none⟩), .pointer (some ⟨g1, 0, none⟩)]) (by simp) (by simp [go_sem]) ?_
        refine (caughtIdle ⟨g0, 0, none⟩ ⟨g1, 0, none⟩ _).mono ?_
        rintro en u' w' ⟨rfl, rfl, rfl⟩
        exact ⟨v', hv6, hR⟩
    · conv => whnf
      try exact rfl
  · obtain ⟨v, rfl, hv⟩ := ho
    simp only [RepD] at hv
    obtain ⟨y, rfl, rfl⟩ := hv
    simp only [Exit.then, bodyPostD]
    have df4 := ok4.df
    rw [hbb] at df4
    simp only at df4
    rw [df4]
    refine leaves_cons (f := 59) (args := #[.pointer (some ⟨g0, 0, none⟩), .pointer (some ⟨g1, 0, none⟩)]) (by simp) (by simp [go_sem]) ?_
    refine (caughtCatch er ⟨e1.m, S'⟩ w2 ok4.len g0 g1 m0 m1 ok4.hp).mono ?_
    rintro en u' w' ⟨rfl, rfl, e5, hl⟩
    have ok5 := Ok.left (st := ⟨[(5, .d (.fn g [] caps)), (4, .any), (3, .own 1 0), (2, .own 0 0), (0, .d (.fn g [] caps))], caughtH0, 2⟩) ok4 hl
    have hk5 : endK tx 0 [] Tryz.f27.results.toList (closeQ (retD (caughtOut (.pan (.ifc 83 (.int .i64 er)))))) ⟨scrubT (fun _ => true) [(5, .d (.fn g [] caps)), (4, .any), (3, .own 1 0), (2, .own 0 0), (0, .d (.fn g [] caps))], caughtH er, 2⟩ := by
      conv => whnf
      try exact rfl
    obtain ⟨v, hv, hR⟩ := tri_fin (fn := Tryz.f27) (kp := []) txok hlen hbb ok5 hk5
    exact ⟨v, hv, hR⟩
end Go.Proofs.YtcjkikadolnfgaaGreat


/- The reference's put and Unfold; the program's Unfold. -/
set_option linter.unusedSimpArgs false
set_option linter.unusedVariables false
namespace Go.Proofs.YtcjkikadolnfgaaGreat
open Go.Vx Go.Vc Go.RowKit
abbrev zG : TG := .mk 0 0 [] []
def outE : Except Int TG → D
  | .ok t => .tup [dG t, .int .i64 0]
  | .error e => .tup [dG zG, .int .i64 e]
def rputR (t : TG) (n : Int) (y : TG) : Except Int TG := if szG t + cntG n t * (szG y - 1) ≤ 1048576 then .ok (rputF (szG t) t n y) else .error 3
def unfR (t : TG) : Except Int TG := if t.k = 9 ∧ rightG t = 0 then (match t.kids with
  | u :: _ => putR u t.n t
  | [] => .error 30) else .error 30
def runfR (t : TG) : Except Int TG := if t.k = 9 ∧ rightG t = 0 then (match t.kids with
  | u :: _ => rputR u t.n t
  | [] => .error 30) else .error 30
theorem caughtOut_res (r : Except Int TG) : caughtOut (resO r) = outE r := by cases r <;> rfl
end Go.Proofs.YtcjkikadolnfgaaGreat


/- rules: an array of functions. -/
set_option linter.unusedSimpArgs false
set_option linter.unusedVariables false
namespace Go.Proofs.YtcjkikadolnfgaaGreat
open Go.Vx Go.Vc Go.RowKit
def rulesD : List D := [.val .nilFunc, .fn 116 [] [], .fn 116 [] [], .fn 116 [] [], .fn 117 [] [], .fn 118 [] [], .fn 119 [] [], .fn 120 [] [], .fn 121 [] [], .fn 122 [] [], .fn 123 [] [], .fn 123 [] [], .fn 124 [] [], .fn 125 [] [], .fn 126 [] [], .fn 127 [] [], .fn 128 [] [], .fn 129 [] [], .fn 130 [] [], .fn 131 [] [], .fn 132 [] [], .fn 133 [] [], .fn 134 [] [], .fn 135 [] [], .fn 136 [] [], .fn 137 [] []]
def rulesV : Value := .agg #[.nilFunc, .func (.func 116) #[] #[], .func (.func 116) #[] #[], .func (.func 116) #[] #[], .func (.func 117) #[] #[], .func (.func 118) #[] #[], .func (.func 119) #[] #[], .func (.func 120) #[] #[], .func (.func 121) #[] #[], .func (.func 122) #[] #[], .func (.func 123) #[] #[], .func (.func 123) #[] #[], .func (.func 124) #[] #[], .func (.func 125) #[] #[], .func (.func 126) #[] #[], .func (.func 127) #[] #[], .func (.func 128) #[] #[], .func (.func 129) #[] #[], .func (.func 130) #[] #[], .func (.func 131) #[] #[], .func (.func 132) #[] #[], .func (.func 133) #[] #[], .func (.func 134) #[] #[], .func (.func 135) #[] #[], .func (.func 136) #[] #[], .func (.func 137) #[] #[]]
theorem rules_rep {S : Nat → Prop} {w : World} : RepD S w (.agg rulesD) rulesV := by
  simp only [rulesD, rulesV, RepD, RepDs]
  simp
theorem bldRules {dst : Option Tmp} {ty : TypeId} {pos : String} {after : Array Edge} {gd : Option (Nat × Bool)} (a : Act) (w : World) : (execOp a.eval { dst := dst, op := .build 102 #[(1, .func 116), (2, .func 116), (3, .func 116), (4, .func 117), (5, .func 118), (6, .func 119), (7, .func 120), (8, .func 121), (9, .func 122), (10, .func 123), (11, .func 123), (12, .func 124), (13, .func 125), (14, .func 126), (15, .func 127), (16, .func 128), (17, .func 129), (18, .func 130), (19, .func 131), (20, .func 132), (21, .func 133), (22, .func 134), (23, .func 135), (24, .func 136), (25, .func 137)], type := ty, pos := pos, after := after, guard := gd }).run Tryz.prog w = .ok (.value rulesV) w := by
  simp only [execOp]
  exact run_val (run_build w 102 _ _ (by kernel_rfl))
theorem rules_fn : FnR Tryz.prog G0 83 [] (.agg rulesD) := by
  refine fnQ_of_vc txok mixed [] Tryz.func83 rfl rfl (by simp) fun b => ?_
  conv => whnf
  refine valC (.agg (Vx.dL rulesD)) (fun e a w hok => ⟨rulesV, ?_, bldRules a w⟩) ?_
  · have h := rules_rep (S := e.pub) (w := w)
    simp only [RepD] at h
    obtain ⟨l', h1, h2⟩ := h
    simp only [RepSV]
    exact ⟨l', h1, by rw [dL_map]; exact RepSVs.ofD.1 h2⟩
  unfold rulesD
  conv => whnf
  try exact rfl
end Go.Proofs.YtcjkikadolnfgaaGreat


/- of: a term's type, where its rule is known. -/
set_option linter.unusedSimpArgs false
set_option linter.unusedVariables false
namespace Go.Proofs.YtcjkikadolnfgaaGreat
open Go.Vx Go.Vc Go.RowKit
def fitE : Except Int TG → Except Int TG
  | .ok t => fitR t
  | .error e => .error e
set_option maxRecDepth 20000 in
theorem of_fn (vars : List Int) (l : List Bd) (m : MG) (r : Except Int TG) (j : Nat) (f : FuncId) (hk : m.k = (j : Int)) (hj : rulesD[j]? = some (.fn f [] [])) (hg : Goes Tryz.prog f) (hr : FnQ Tryz.prog G0 f [dSc vars l, dM m] (fun o => o = resO r)) (hz : ∀ t, r = .ok t → szG t < 4611686018427387904) : FnQ Tryz.prog G0 46 [dSc vars l, dM m] (fun o => o = resO (fitE r)) := by
  obtain ⟨k, n, i, nm, ls, ts, ks⟩ := m
  have hk : k = (j : Int) := hk
  subst hk
  have hlt : j < 26 := by
    have := (List.getElem?_eq_some_iff.1 hj).1
    exact this
  have hget : (Vx.dL rulesD)[j]? = some (.d (.fn f [] [])) := by rw [dL_map, List.getElem?_map, hj]; rfl
  have hf : ∀ t, r = .ok t → FnQ Tryz.prog G0 82 [dG t] (fun o => o = resO (fitR t)) := fun t ht => fit_fn t (hz t ht)
  refine fnQ_of_vc txok mixed [(1, .pure 1 (.take 2 (.take 4 (.take 5 (.run 0 (.run 3 (.fin 6 (.fin 7 (.fin 8 .done)))))))))] Tryz.func46 rfl rfl (by simp) fun b => ?_
  cases r with
  | error e =>
    conv => whnf
    refine And.intro (by kernel_rfl) ?_
    repeat' ((conv => whnf); first
      | refine And.intro ?_ ?_
      | refine callF rules_fn gf83 rfl rfl ?_
      | refine idxAC (ye := ⟨⟨.nilFunc, 1, 8, false, [], none, false, false⟩, .fn⟩) (len := 26) (el := 101) txok j (.d (.fn f [] [])) rfl rfl rfl (by kernel_rfl) hlt rfl rfl rfl hget ?_
      | (refine callQ rfl rfl hg hr ?_; rintro o rfl))
    all_goals (conv => whnf)
    all_goals (try exact rfl)
  | ok t =>
    have hf := hf t rfl
    unfold fitE
    cases hq : fitR t with
    | ok t2 =>
      rw [hq] at hf
      conv => whnf
      refine And.intro (by kernel_rfl) ?_
      repeat' ((conv => whnf); first
        | refine And.intro ?_ ?_
        | refine callF rules_fn gf83 rfl rfl ?_
        | refine idxAC (ye := ⟨⟨.nilFunc, 1, 8, false, [], none, false, false⟩, .fn⟩) (len := 26) (el := 101) txok j (.d (.fn f [] [])) rfl rfl rfl (by kernel_rfl) hlt rfl rfl rfl hget ?_
        | (refine callQ rfl rfl hg hr ?_; rintro o rfl)
        | (refine callQ rfl rfl gf82 hf ?_; rintro o rfl))
      all_goals (conv => whnf)
      all_goals (simp only [hq]; rfl)
    | error e =>
      rw [hq] at hf
      conv => whnf
      refine And.intro (by kernel_rfl) ?_
      repeat' ((conv => whnf); first
        | refine And.intro ?_ ?_
        | refine callF rules_fn gf83 rfl rfl ?_
        | refine idxAC (ye := ⟨⟨.nilFunc, 1, 8, false, [], none, false, false⟩, .fn⟩) (len := 26) (el := 101) txok j (.d (.fn f [] [])) rfl rfl rfl (by kernel_rfl) hlt rfl rfl rfl hget ?_
        | (refine callQ rfl rfl hg hr ?_; rintro o rfl)
        | (refine callQ rfl rfl gf82 hf ?_; rintro o rfl))
      all_goals (conv => whnf)
      all_goals (simp only [hq]; rfl)
end Go.Proofs.YtcjkikadolnfgaaGreat


/- The rules, as plain functions; right shapes stay right. -/
set_option linter.unusedSimpArgs false
set_option linter.unusedVariables false
namespace Go.Proofs.YtcjkikadolnfgaaGreat
open Go.Vx Go.Vc Go.RowKit
abbrev Chk := List Int → List Bd → Except Int TG
def bE (r : Except Int TG) (f : TG → Except Int TG) : Except Int TG := match r with
  | .ok t => f t
  | .error e => .error e
def askE (c : Bool) (r : Except Int TG) : Except Int TG := match c with
  | true => r
  | false => .error 30
def kidG (t : TG) (i : Nat) : TG := t.kids.getD i zG
abbrev Putt := TG → Int → TG → Except Int TG
def plainR (k : Int) : Chk := fun _ _ => .ok (if k = 1 then .mk 1 0 [] [] else if k = 2 then .mk 2 0 [] [] else .mk 3 0 [] [])
def lamR (nm : ByteArray) (a : TG) (c : Chk) : Chk := fun vars l => askE (insG a vars) (bE (c vars (l ++ [(nm, a)])) fun t => .ok (.mk 4 0 [] [a, t]))
def appRl (c d : Chk) : Chk := fun vars l => bE (c vars l) fun f => bE (d vars l) fun x => askE (f.k == 4) (askE (samG (kidG f 0) x [] []) (.ok (kidG f 1)))
def fixR (nm lb : ByteArray) (a b : TG) (c : Chk) : Chk := fun vars l => askE (insG a vars) (askE (insG b vars) (bE (fitR (.mk 4 0 [] [a, b])) fun f => bE (c vars ((l ++ [(nm, f)]) ++ [(lb, a)])) fun t => askE (samG t b [] []) (.ok f)))
def letR (nm : ByteArray) (c d : Chk) : Chk := fun vars l => bE (c vars l) fun t => d vars (l ++ [(nm, t)])
def pairR (c d : Chk) : Chk := fun vars l => bE (c vars l) fun a => bE (d vars l) fun b => .ok (.mk 5 0 [] [a, b])
def halfR (i : Nat) (c : Chk) : Chk := fun vars l => bE (c vars l) fun t => askE (t.k == 5) (.ok (kidG t i))
def chooseR (c d e : Chk) : Chk := fun vars l => bE (c vars l) fun x => bE (d vars l) fun a => bE (e vars l) fun b => askE (x.k == 2) (askE (samG a b [] []) (.ok a))
def binR (n : Int) (c d : Chk) : Chk := fun vars l => bE (c vars l) fun a => bE (d vars l) fun b => askE (a.k == 1 && b.k == 1) (.ok (if n ≥ 5 then .mk 2 0 [] [] else .mk 1 0 [] []))
def foldR (P : Putt) (a : TG) (c : Chk) : Chk := fun vars l => askE (insG a vars) (bE (c vars l) fun k => askE (a.k == 9) (bE (P (kidG a 0) a.n a) fun w => askE (samG k w [] []) (.ok a)))
def unfoldR (P : Putt) (c : Chk) : Chk := fun vars l => bE (c vars l) fun t => askE (t.k == 9) (P (kidG t 0) t.n t)
def allR (n : Int) (c : Chk) : Chk := fun vars l => if n ∈ vars then .error 30 else bE (c (vars ++ [n]) l) fun t => .ok (.mk 10 n [] [t])
def instR (P : Putt) (a : TG) (c : Chk) : Chk := fun vars l => askE (insG a vars) (bE (c vars l) fun t => askE (t.k == 10) (P (kidG t 0) t.n a))
def packR (P : Putt) (a b : TG) (c : Chk) : Chk := fun vars l => askE (insG a vars) (askE (insG b vars) (bE (c vars l) fun k => askE (b.k == 11) (bE (P (kidG b 0) b.n a) fun w => askE (samG k w [] []) (.ok b))))
def openR (P : Putt) (n : Int) (nm : ByteArray) (c d : Chk) : Chk := fun vars l => bE (c vars l) fun t => askE (t.k == 11) (if n ∈ vars then .error 30 else bE (P (kidG t 0) t.n (varG n)) fun w => bE (d (vars ++ [n]) (l ++ [(nm, w)])) fun u => askE (!decide (n ∈ freeS u)) (.ok u))
def failR (a : TG) : Chk := fun vars _ => askE (insG a vars) (.ok a)
def Bnd (l : List Bd) : Prop := ∀ x ∈ l, allG x.2 = true ∧ szG x.2 ≤ 1073741824
def Good (r : Except Int TG) : Prop := ∀ t, r = .ok t → allG t = true ∧ szG t ≤ 1048576
def KidOk (u : MG) (c : Chk) : Prop := ∀ vars l, vars.length + szM u ≤ 549755813888 → l.length + 2 * szM u ≤ 549755813888 → Bnd l → FnQ Tryz.prog G0 46 [dSc vars l, dM u] (fun o => o = resO (c vars l)) ∧ Good (c vars l)
theorem Bnd.snoc {l : List Bd} (h : Bnd l) {nm : ByteArray} {t : TG} (ht : allG t = true) (hz : szG t ≤ 1073741824) : Bnd (l ++ [(nm, t)]) := by
  intro x hx
  rcases List.mem_append.1 hx with hx | hx
  · exact h x hx
  · rw [List.mem_singleton.1 hx]; exact ⟨ht, hz⟩
theorem allGs_iff (l : List TG) : allGs l = true ↔ ∀ u ∈ l, allG u = true := by
  induction l with
  | nil => simp [allGs]
  | cons t r ih => simp [allGs, ih]
theorem allG_mk (k n : Int) (ls : List ByteArray) (l : List TG) : allG (.mk k n ls l) = true ↔ shpG (.mk k n ls l) = true ∧ ∀ u ∈ l, allG u = true := by
  rw [allG, Bool.and_eq_true, allGs_iff]
theorem allG_okV {t : TG} (h : allG t = true) : okV t = true := okV_right t (by rw [all_right]; exact h)
theorem shpG_mk (k n : Int) (ls : List ByteArray) (l : List TG) : shpG (.mk k n ls l) = (if k = 1 ∨ k = 2 ∨ k = 3 then n == 0 && (ls.length : Int) == 0 && (l.length : Int) == 0
  else if k = 4 ∨ k = 5 then n == 0 && (ls.length : Int) == 0 && (l.length : Int) == 2
  else if k = 6 then (ls.length : Int) == 0 && (l.length : Int) == 0
  else if k = 7 then n == 0 && ordS ls && (ls.length : Int) == (l.length : Int)
  else if k = 8 then n == 0 && (ls.length : Int) == 0
  else if k = 9 ∨ k = 10 ∨ k = 11 then (ls.length : Int) == 0 && (l.length : Int) == 1
  else false) := rfl
theorem shp2 {k n : Int} {ls : List ByteArray} {l : List TG} (hk : k = 4 ∨ k = 5) (h : shpG (.mk k n ls l) = true) : n = 0 ∧ ls = [] ∧ ∃ a b, l = [a, b] := by
  rw [shpG_mk] at h
  rw [if_neg (by omega), if_pos hk] at h
  simp only [Bool.and_eq_true, beq_iff_eq] at h
  obtain ⟨⟨h1, h2⟩, h3⟩ := h
  refine ⟨h1, List.length_eq_zero_iff.1 (by exact Int.ofNat.inj h2), ?_⟩
  have h4 : l.length = 2 := Int.ofNat.inj h3
  match l, h4 with
  | [a, b], _ => exact ⟨a, b, rfl⟩
theorem shp1 {k n : Int} {ls : List ByteArray} {l : List TG} (hk : k = 9 ∨ k = 10 ∨ k = 11) (h : shpG (.mk k n ls l) = true) : ls = [] ∧ ∃ a, l = [a] := by
  rw [shpG_mk] at h
  rw [if_neg (by omega), if_neg (by omega), if_neg (by omega), if_neg (by omega), if_neg (by omega), if_pos hk] at h
  simp only [Bool.and_eq_true, beq_iff_eq] at h
  obtain ⟨h2, h3⟩ := h
  exact ⟨List.length_eq_zero_iff.1 (by exact Int.ofNat.inj h2), List.length_eq_one_iff.1 (by exact Int.ofNat.inj h3)⟩
theorem shpG_congr {k n n' : Int} {ls : List ByteArray} {l l' : List TG} (hb : bndG k = true) (hl : l.length = l'.length) (h : shpG (.mk k n ls l) = true) : shpG (.mk k n' ls l') = true := by
  simp only [bndG, Bool.or_eq_true, beq_iff_eq] at hb
  rw [shpG_mk] at h ⊢
  rw [if_neg (by omega), if_neg (by omega), if_neg (by omega), if_neg (by omega), if_neg (by omega), if_pos (by omega)] at h ⊢
  rw [← hl]; exact h
theorem shpG_kids {k n : Int} {ls : List ByteArray} {l l' : List TG} (hl : l.length = l'.length) (h : shpG (.mk k n ls l) = true) : shpG (.mk k n ls l') = true := by
  rw [shpG_mk] at h ⊢
  rw [← hl]
  exact h
theorem allG_var (m : Int) : allG (varG m) = true := by rw [varG, allG_mk]; exact ⟨rfl, nofun⟩
theorem allG_put : ∀ (f : Nat) (t : TG) (x : Int) (y : TG) (fr : List Int), allG y = true → allG t = true → allG (putF f t x y fr) = true
  | 0, t, _, _, _, _, h => h
  | f + 1, .mk k n ls l, x, y, fr, hy, h => by
    rw [putF_mk]
    obtain ⟨h1, h2⟩ := (allG_mk k n ls l).1 h
    split
    · exact hy
    split
    · exact h
    split
    · rename_i hb
      refine (allG_mk _ _ _ _).2 ⟨shpG_congr hb.1 (by simp) h1, fun u hu => ?_⟩
      rw [List.mem_map] at hu
      obtain ⟨v, hv, rfl⟩ := hu
      rw [List.mem_map] at hv
      obtain ⟨w, hw, rfl⟩ := hv
      exact allG_put f _ x y fr hy (allG_put f w _ _ _ (allG_var _) (h2 w hw))
    · refine (allG_mk _ _ _ _).2 ⟨shpG_kids (by simp) h1, fun u hu => ?_⟩
      rw [List.mem_map] at hu
      obtain ⟨v, hv, rfl⟩ := hu
      exact allG_put f v x y fr hy (h2 v hv)
theorem right_all {t : TG} (h : rightG t = 0) : allG t = true := by
  unfold rightG at h
  split at h
  · cases h
  · split at h
    · assumption
    · cases h
theorem ins_all {t : TG} {vars : List Int} (h : insG t vars = true) : allG t = true := by
  unfold insG at h
  rw [Bool.and_eq_true] at h
  exact right_all (eq_of_beq h.1)
theorem putR_good {t y : TG} {x : Int} {w : TG} (ht : allG t = true) (hy : allG y = true) (h : putR t x y = .ok w) : allG w = true ∧ szG w ≤ 1048576 := by
  unfold putR at h
  split at h
  · rename_i hc
    injection h with h; subst h
    refine ⟨allG_put _ _ _ _ _ hy ht, ?_⟩
    have h1 := sz_putF (szG t) t x y (freeS y) (Nat.le_refl _) (allG_okV ht) (allG_okV hy) (fun z => mem_freeS y z)
    have h2 := cnt_le t x
    have h3 := szG_pos y
    have h4 : cntG x t * szG y = cntG x t * (szG y - 1) + cntG x t := by
      conv => rhs; rw [← Nat.mul_succ]
      congr 1; omega
    omega
  · cases h
end Go.Proofs.YtcjkikadolnfgaaGreat


/- target.shapes: an array of structs (printed by gba.py). -/
set_option linter.unusedSimpArgs false
set_option linter.unusedVariables false
namespace Go.Proofs.YtcjkikadolnfgaaGreat
open Go.Vx Go.Vc Go.RowKit
structure Shp where
  (n i nm : Bool)
  (ls ts ks : Int)
def shpTab : List Shp := [⟨false, false, false, 0, 0, 0⟩, ⟨false, true, false, 0, 0, 0⟩, ⟨false, true, false, 0, 0, 0⟩, ⟨false, false, false, 0, 0, 0⟩, ⟨false, false, true, 0, 0, 0⟩, ⟨false, false, true, 0, 1, 1⟩, ⟨false, false, false, 0, 0, 2⟩, ⟨false, false, true, 1, 2, 1⟩, ⟨false, false, true, 0, 0, 2⟩, ⟨false, false, false, 0, 0, 2⟩, ⟨false, false, false, 0, 0, 1⟩, ⟨false, false, false, 0, 0, 1⟩, ⟨false, false, false, 0, 0, 3⟩, ⟨true, false, false, 0, 0, 2⟩, ⟨false, false, false, (-3), 0, (-1)⟩, ⟨false, false, true, 0, 0, 1⟩, ⟨true, false, false, 0, 1, 1⟩, ⟨false, false, false, (-2), 0, (-1)⟩, ⟨false, false, false, 0, 1, 1⟩, ⟨false, false, false, 0, 0, 1⟩, ⟨true, false, false, 0, 0, 1⟩, ⟨false, false, false, 0, 1, 1⟩, ⟨false, false, false, 0, 2, 1⟩, ⟨true, false, true, 0, 0, 2⟩, ⟨false, false, false, 0, 1, 0⟩, ⟨false, false, false, 0, 0, 1⟩]
def shpC (s : Shp) : List D := [.bool s.n, .bool s.i, .bool s.nm, .int .i64 s.ls, .int .i64 s.ts, .int .i64 s.ks]
def shapesD : List D := fl shpC shpTab
def shapesV : Value := .agg #[.bool false, .bool false, .bool false, .int .i64 0, .int .i64 0, .int .i64 0, .bool false, .bool true, .bool false, .int .i64 0, .int .i64 0, .int .i64 0, .bool false, .bool true, .bool false, .int .i64 0, .int .i64 0, .int .i64 0, .bool false, .bool false, .bool false, .int .i64 0, .int .i64 0, .int .i64 0, .bool false, .bool false, .bool true, .int .i64 0, .int .i64 0, .int .i64 0, .bool false, .bool false, .bool true, .int .i64 0, .int .i64 1, .int .i64 1, .bool false, .bool false, .bool false, .int .i64 0, .int .i64 0, .int .i64 2, .bool false, .bool false, .bool true, .int .i64 1, .int .i64 2, .int .i64 1, .bool false, .bool false, .bool true, .int .i64 0, .int .i64 0, .int .i64 2, .bool false, .bool false, .bool false, .int .i64 0, .int .i64 0, .int .i64 2, .bool false, .bool false, .bool false, .int .i64 0, .int .i64 0, .int .i64 1, .bool false, .bool false, .bool false, .int .i64 0, .int .i64 0, .int .i64 1, .bool false, .bool false, .bool false, .int .i64 0, .int .i64 0, .int .i64 3, .bool true, .bool false, .bool false, .int .i64 0, .int .i64 0, .int .i64 2, .bool false, .bool false, .bool false, .int .i64 (-3), .int .i64 0, .int .i64 (-1), .bool false, .bool false, .bool true, .int .i64 0, .int .i64 0, .int .i64 1, .bool true, .bool false, .bool false, .int .i64 0, .int .i64 1, .int .i64 1, .bool false, .bool false, .bool false, .int .i64 (-2), .int .i64 0, .int .i64 (-1), .bool false, .bool false, .bool false, .int .i64 0, .int .i64 1, .int .i64 1, .bool false, .bool false, .bool false, .int .i64 0, .int .i64 0, .int .i64 1, .bool true, .bool false, .bool false, .int .i64 0, .int .i64 0, .int .i64 1, .bool false, .bool false, .bool false, .int .i64 0, .int .i64 1, .int .i64 1, .bool false, .bool false, .bool false, .int .i64 0, .int .i64 2, .int .i64 1, .bool true, .bool false, .bool true, .int .i64 0, .int .i64 0, .int .i64 2, .bool false, .bool false, .bool false, .int .i64 0, .int .i64 1, .int .i64 0, .bool false, .bool false, .bool false, .int .i64 0, .int .i64 0, .int .i64 1]
def dv : D → Value
  | .bool b => .bool b
  | .int k n => .int k n
  | _ => .nilFunc
def isBI : D → Bool
  | .bool _ => true
  | .int _ _ => true
  | _ => false
theorem rep_dv {S : Nat → Prop} {w : World} : ∀ l : List D, l.all isBI = true → RepDs S w l (l.map dv)
  | [], _ => by simp [RepDs]
  | x :: r, h => by
    rw [List.all_cons, Bool.and_eq_true] at h
    have hr := rep_dv (S := S) (w := w) r h.2
    simp only [RepDs, List.map_cons]
    refine ⟨dv x, _, rfl, ?_, hr⟩
    cases x with
    | bool b => simp only [RepD, dv]
    | int k n => simp only [RepD, dv]
    | _ => cases h.1
set_option maxRecDepth 20000 in
theorem shapes_rep {S : Nat → Prop} {w : World} : RepD S w (.agg shapesD) shapesV := by
  simp only [RepD]
  exact ⟨_, rfl, rep_dv (S := S) (w := w) shapesD (by rfl)⟩
theorem shp6 {e : Env} {w : World} {v : Value} {a b c : Go.Vx.SV} {x y z : Int} {p q r : Bool} (h : RepSV e w (.agg [a, b, c, .d (.int .i64 x), .d (.int .i64 y), .d (.int .i64 z)]) v)
    (ha : ∀ u, RepSV e w a u → u = .bool p) (hb : ∀ u, RepSV e w b u → u = .bool q) (hc : ∀ u, RepSV e w c u → u = .bool r) : v = .agg #[.bool p, .bool q, .bool r, .int .i64 x, .int .i64 y, .int .i64 z] := by
  simp only [RepSV, RepSVs, RepD] at h
  obtain ⟨l, rfl, v1, s1, e1, h1, v2, s2, rfl, h2, v3, s3, rfl, h3, v4, s4, rfl, h4, v5, s5, rfl, h5, v6, s6, rfl, h6, rfl⟩ := h
  subst h4; subst h5; subst h6
  obtain rfl := ha _ h1
  obtain rfl := hb _ h2
  obtain rfl := hc _ h3
  refine congrArg Value.agg ?_
  apply Array.ext'
  rw [e1]
theorem shpF {e : Env} {w : World} (u : Value) (h : RepSV e w (.d (.bool false)) u) : u = .bool false := by simpa only [RepSV, RepD] using h
theorem shpT {e : Env} {w : World} (u : Value) (h : RepSV e w (.kb true) u) : u = .bool true := by simpa only [RepSV] using h
set_option maxRecDepth 20000 in
theorem bldShapes {e : Env} {w : World} {a : Act} (h1 : a.eval (.tmp 1) = .agg #[.bool false, .bool true, .bool false, .int .i64 0, .int .i64 0, .int .i64 0]) (h2 : a.eval (.tmp 2) = .agg #[.bool false, .bool true, .bool false, .int .i64 0, .int .i64 0, .int .i64 0]) (h3 : a.eval (.tmp 3) = .agg #[.bool false, .bool false, .bool false, .int .i64 0, .int .i64 0, .int .i64 0]) (h4 : a.eval (.tmp 4) = .agg #[.bool false, .bool false, .bool true, .int .i64 0, .int .i64 0, .int .i64 0]) (h5 : a.eval (.tmp 5) = .agg #[.bool false, .bool false, .bool true, .int .i64 0, .int .i64 1, .int .i64 1]) (h6 : a.eval (.tmp 6) = .agg #[.bool false, .bool false, .bool false, .int .i64 0, .int .i64 0, .int .i64 2]) (h7 : a.eval (.tmp 7) = .agg #[.bool false, .bool false, .bool true, .int .i64 1, .int .i64 2, .int .i64 1]) (h8 : a.eval (.tmp 8) = .agg #[.bool false, .bool false, .bool true, .int .i64 0, .int .i64 0, .int .i64 2]) (h9 : a.eval (.tmp 9) = .agg #[.bool false, .bool false, .bool false, .int .i64 0, .int .i64 0, .int .i64 2]) (h10 : a.eval (.tmp 10) = .agg #[.bool false, .bool false, .bool false, .int .i64 0, .int .i64 0, .int .i64 1]) (h11 : a.eval (.tmp 11) = .agg #[.bool false, .bool false, .bool false, .int .i64 0, .int .i64 0, .int .i64 1]) (h12 : a.eval (.tmp 12) = .agg #[.bool false, .bool false, .bool false, .int .i64 0, .int .i64 0, .int .i64 3]) (h13 : a.eval (.tmp 13) = .agg #[.bool true, .bool false, .bool false, .int .i64 0, .int .i64 0, .int .i64 2]) (h14 : a.eval (.tmp 14) = .agg #[.bool false, .bool false, .bool false, .int .i64 (-3), .int .i64 0, .int .i64 (-1)]) (h15 : a.eval (.tmp 15) = .agg #[.bool false, .bool false, .bool true, .int .i64 0, .int .i64 0, .int .i64 1]) (h16 : a.eval (.tmp 16) = .agg #[.bool true, .bool false, .bool false, .int .i64 0, .int .i64 1, .int .i64 1]) (h17 : a.eval (.tmp 17) = .agg #[.bool false, .bool false, .bool false, .int .i64 (-2), .int .i64 0, .int .i64 (-1)]) (h18 : a.eval (.tmp 18) = .agg #[.bool false, .bool false, .bool false, .int .i64 0, .int .i64 1, .int .i64 1]) (h19 : a.eval (.tmp 19) = .agg #[.bool false, .bool false, .bool false, .int .i64 0, .int .i64 0, .int .i64 1]) (h20 : a.eval (.tmp 20) = .agg #[.bool true, .bool false, .bool false, .int .i64 0, .int .i64 0, .int .i64 1]) (h21 : a.eval (.tmp 21) = .agg #[.bool false, .bool false, .bool false, .int .i64 0, .int .i64 1, .int .i64 1]) (h22 : a.eval (.tmp 22) = .agg #[.bool false, .bool false, .bool false, .int .i64 0, .int .i64 2, .int .i64 1]) (h23 : a.eval (.tmp 23) = .agg #[.bool true, .bool false, .bool true, .int .i64 0, .int .i64 0, .int .i64 2]) (h24 : a.eval (.tmp 24) = .agg #[.bool false, .bool false, .bool false, .int .i64 0, .int .i64 1, .int .i64 0]) (h25 : a.eval (.tmp 25) = .agg #[.bool false, .bool false, .bool false, .int .i64 0, .int .i64 0, .int .i64 1]) {dst : Option Tmp} {ty : TypeId} {pos : String} {after : Array Edge} {gd : Option (Nat × Bool)} : (execOp a.eval { dst := dst, op := .build 148 #[(1, .tmp 1), (2, .tmp 2), (3, .tmp 3), (4, .tmp 4), (5, .tmp 5), (6, .tmp 6), (7, .tmp 7), (8, .tmp 8), (9, .tmp 9), (10, .tmp 10), (11, .tmp 11), (12, .tmp 12), (13, .tmp 13), (14, .tmp 14), (15, .tmp 15), (16, .tmp 16), (17, .tmp 17), (18, .tmp 18), (19, .tmp 19), (20, .tmp 20), (21, .tmp 21), (22, .tmp 22), (23, .tmp 23), (24, .tmp 24), (25, .tmp 25)], type := ty, pos := pos, after := after, guard := gd }).run Tryz.prog w = .ok (.value shapesV) w := by
  simp only [execOp, List.map_toArray, List.map_cons, List.map_nil, h1, h2, h3, h4, h5, h6, h7, h8, h9, h10, h11, h12, h13, h14, h15, h16, h17, h18, h19, h20, h21, h22, h23, h24, h25]
  exact run_val (run_build w 148 _ _ (by kernel_rfl))
set_option maxRecDepth 20000 in
theorem shapes_fn : FnR Tryz.prog G0 163 [] (.agg shapesD) := by
  refine fnQ_of_vc txok mixed [] Tryz.func163 rfl rfl (by simp) fun b => ?_
  conv => whnf
  refine valC (.agg (Vx.dL shapesD)) (fun e a w hok => ⟨shapesV, ?_, ?_⟩) ?_
  · have h := shapes_rep (S := e.pub) (w := w)
    simp only [RepD] at h
    obtain ⟨l', h1, h2⟩ := h
    simp only [RepSV]
    exact ⟨l', h1, by rw [dL_map]; exact RepSVs.ofD.1 h2⟩
  · have hv := hok.tmok
    exact bldShapes (e := e) (shp6 (hv (.tmp 1) _ rfl) shpF shpT shpF) (shp6 (hv (.tmp 2) _ rfl) shpF shpT shpF) (shp6 (hv (.tmp 3) _ rfl) shpF shpF shpF) (shp6 (hv (.tmp 4) _ rfl) shpF shpF shpT) (shp6 (hv (.tmp 5) _ rfl) shpF shpF shpT) (shp6 (hv (.tmp 6) _ rfl) shpF shpF shpF) (shp6 (hv (.tmp 7) _ rfl) shpF shpF shpT) (shp6 (hv (.tmp 8) _ rfl) shpF shpF shpT) (shp6 (hv (.tmp 9) _ rfl) shpF shpF shpF) (shp6 (hv (.tmp 10) _ rfl) shpF shpF shpF) (shp6 (hv (.tmp 11) _ rfl) shpF shpF shpF) (shp6 (hv (.tmp 12) _ rfl) shpF shpF shpF) (shp6 (hv (.tmp 13) _ rfl) shpT shpF shpF) (shp6 (hv (.tmp 14) _ rfl) shpF shpF shpF) (shp6 (hv (.tmp 15) _ rfl) shpF shpF shpT) (shp6 (hv (.tmp 16) _ rfl) shpT shpF shpF) (shp6 (hv (.tmp 17) _ rfl) shpF shpF shpF) (shp6 (hv (.tmp 18) _ rfl) shpF shpF shpF) (shp6 (hv (.tmp 19) _ rfl) shpF shpF shpF) (shp6 (hv (.tmp 20) _ rfl) shpT shpF shpF) (shp6 (hv (.tmp 21) _ rfl) shpF shpF shpF) (shp6 (hv (.tmp 22) _ rfl) shpF shpF shpF) (shp6 (hv (.tmp 23) _ rfl) shpT shpF shpT) (shp6 (hv (.tmp 24) _ rfl) shpF shpF shpF) (shp6 (hv (.tmp 25) _ rfl) shpF shpF shpF)
  unfold shapesD shpTab
  conv => whnf
  try exact rfl
end Go.Proofs.YtcjkikadolnfgaaGreat


/- Which terms have the right shape. -/
set_option linter.unusedSimpArgs false
set_option linter.unusedVariables false
namespace Go.Proofs.YtcjkikadolnfgaaGreat
open Go.Vx Go.Vc Go.RowKit
def badM (s : Shp) (m : MG) : Bool := (!s.n && m.n != 0) || (!s.i && m.i != 0) || (!s.nm && !(m.nm.toList == (⟨#[]⟩ : ByteArray).toList)) || ((m.ts.length : Int) != s.ts) || (decide (s.ks ≥ 0) && (m.ks.length : Int) != s.ks)
def endM (s : Shp) (m : MG) : Bool :=
  if s.ls = -3 then (m.ls.length : Int) == (m.ks.length : Int) && ordS m.ls
  else if s.ls = -2 then (m.ks.length : Int) == (m.ls.length : Int) + 1
  else if (m.ls.length : Int) ≠ s.ls then false
  else if m.k = 2 then m.i == 0 || m.i == 1
  else if m.k = 13 then decide (m.n ≥ 1) && decide (m.n ≤ 6)
  else if m.k = 16 then decide (m.n ≥ 0)
  else true
def shpOf (k : Int) : Shp := shpTab.getD k.toNat ⟨false, false, false, 0, 0, 0⟩
def shpM (m : MG) : Bool := if m.k < 1 ∨ m.k > 25 then false else if badM (shpOf m.k) m = true then false else endM (shpOf m.k) m
abbrev tmS (m : MG) : List Vx.SV := [.d (.int .i64 m.k), .d (.int .i64 m.n), .d (.int .i64 m.i), .d (.str m.nm), .d (dL m.ls), .d (dGs m.ts), .d (dMs m.ks)]
abbrev shS (s : Shp) : List Vx.SV := [.d (.bool s.n), .d (.bool s.i), .d (.bool s.nm), .d (.int .i64 s.ls), .d (.int .i64 s.ts), .d (.int .i64 s.ks)]
theorem shpTab_get (j : Nat) (hj : j < 26) : ((Vx.dL shapesD).drop (j * 6)).take 6 = shS (shpOf (j : Int)) := by
  have hl : j < shpTab.length := hj
  have h := fl_at (f := shpC) (w := 6) (fun _ => rfl) shpTab j hl
  have e : shpOf (j : Int) = shpTab[j] := by
    unfold shpOf
    rw [Int.toNat_natCast, List.getD_eq_getElem?_getD, List.getElem?_eq_getElem hl]; rfl
  rw [e, dL_map, ← List.map_drop, ← List.map_take]
  exact congrArg (List.map Vx.SV.d) h
theorem shpM_mk (k n i : Int) (nm : ByteArray) (ls : List ByteArray) (ts : List TG) (ks : List MG) : shpM (.mk k n i nm ls ts ks) = (if k < 1 ∨ k > 25 then false else if badM (shpOf k) (.mk k n i nm ls ts ks) = true then false else endM (shpOf k) (.mk k n i nm ls ts ks)) := rfl
set_option maxRecDepth 20000 in
theorem termShape_fn (m : MG) : FnR Tryz.prog G0 112 [dM m] (.bool (shpM m)) := by
  obtain ⟨k, n, i, nm, ls, ts, ks⟩ := m
  refine fnQ_sz fun hs0 => ?_
  have hls := (szOk_M hs0.1).2.2.2
  simp only [MG.ls, LB] at hls
  have hw : IntKind.i64.wrap ((ls.length : Int) + 1) = (ls.length : Int) + 1 := Go.Vc.wrap_small (by omega) (by omega)
  clear hs0
  refine fnQ_of_wk (N := 124) txok mixed Tryz.func112 rfl rfl (by simp) fun b => ?_
  refine wk_seq ⟨[(1, .own 0 0)], [(0, .blk 26 (tmS (.mk k n i nm ls ts ks)))], 1⟩ (wk_vc txok mixed [] ?_) ?_
  · conv => whnf
    exact weak_of rfl (by repeat ((conv => whnf); first | exact trivial | refine And.intro rfl ?_ | refine And.intro (incD (by omega)) ?_)) (by repeat ((conv => whnf); first | exact trivial | refine And.intro rfl ?_ | refine And.intro (incD (by omega)) ?_))
  by_cases hr : k < 1 ∨ k > 25
  · rw [shpM_mk, if_pos hr]
    refine wk_seqR (wk_vc txok mixed [] ?_)
    conv => whnf
    refine And.intro (fun h => ?_) (fun h => ?_)
    · have h : ¬ k < 1 := of_decide_eq_false h
      conv => whnf
      refine And.intro (fun h2 => ?_) (fun h2 => ?_)
      · conv => whnf
        try exact rfl
      · exfalso
        have h2 : ¬ k > 25 := by simpa [MG.k] using h2
        omega
    · conv => whnf
      try exact rfl
  rw [shpM_mk, if_neg hr]
  refine wk_seq ⟨[(1, .own 0 0)], [(0, .blk 26 (tmS (.mk k n i nm ls ts ks)))], 1⟩ (wk_vc txok mixed [] ?_) ?_
  · conv => whnf
    refine And.intro (fun h => ?_) (fun h => ?_)
    · conv => whnf
      refine And.intro (fun h2 => ?_) (fun h2 => ?_)
      · exfalso
        have h2 : k > 25 := by simpa [MG.k] using h2
        omega
      · conv => whnf
        exact weak_of rfl (by repeat ((conv => whnf); first | exact trivial | refine And.intro rfl ?_ | refine And.intro (incD (by omega)) ?_)) (by repeat ((conv => whnf); first | exact trivial | refine And.intro rfl ?_ | refine And.intro (incD (by omega)) ?_))
    · exfalso
      have h : k < 1 := of_decide_eq_true h
      omega
  obtain ⟨j, rfl⟩ : ∃ j : Nat, k = (j : Int) := ⟨k.toNat, by omega⟩
  have hj : j < 26 := by omega
  have hget := shpTab_get j hj
  generalize hs : shpOf (j : Int) = s at *
  obtain ⟨s1, s2, s3, s4, s5, s6⟩ := s
  refine wk_seq ⟨[(1, .own 0 0), (3, .own 1 0)], [(0, .blk 26 (tmS (.mk (j : Int) n i nm ls ts ks))), (1, .blk 147 (shS ⟨s1, s2, s3, s4, s5, s6⟩))], 2⟩ (wk_vc txok mixed [(3, .pure 1 (.take 2 (.two 0 4 (.two 3 4 (.run 4 (.fin 5 .done)) (.run 3 (.fin 5 .done))) (.run 0 (.run 3 (.fin 5 .done))))))] ?_) ?_
  · repeat' ((conv => whnf); first
      | refine And.intro (by kernel_rfl) ?_
      | refine And.intro ?_ ?_
      | refine callF shapes_fn gf163 rfl rfl ?_
      | refine idxAA (len := 26) (el := 147) (sz := 6) txok j rfl rfl rfl (by kernel_rfl) hj rfl rfl rfl hget ?_)
    all_goals (try (conv => whnf))
    all_goals exact weak_of rfl (by repeat ((conv => whnf); first | exact trivial | refine And.intro rfl ?_ | refine And.intro (incD (by omega)) ?_)) (by repeat ((conv => whnf); first | exact trivial | refine And.intro rfl ?_ | refine And.intro (incD (by omega)) ?_))
  by_cases hbad : badM ⟨s1, s2, s3, s4, s5, s6⟩ (.mk (j : Int) n i nm ls ts ks) = true
  · rw [if_pos hbad]
    refine wk_seqR (wk_vc txok mixed [] ?_)
    repeat' ((conv => whnf); first | refine And.intro (fun _ => ?_) (fun _ => ?_))
    all_goals (try (conv => whnf))
    all_goals first | exact rfl | (exfalso; clear hget hs; simp_all [badM, MG.n, MG.i, MG.nm, MG.ts, MG.ks]; done)
  rw [if_neg hbad]
  refine wk_seq ⟨[(1, .own 0 0), (3, .own 1 0)], [(0, .blk 26 (tmS (.mk (j : Int) n i nm ls ts ks))), (1, .blk 147 (shS ⟨s1, s2, s3, s4, s5, s6⟩))], 2⟩ (wk_vc txok mixed [] ?_) ?_
  · repeat' ((conv => whnf); first | refine And.intro (fun _ => ?_) (fun _ => ?_))
    all_goals (try (conv => whnf))
    all_goals first | (exact weak_of rfl (by repeat ((conv => whnf); first | exact trivial | refine And.intro rfl ?_ | refine And.intro (incD (by omega)) ?_)) (by repeat ((conv => whnf); first | exact trivial | refine And.intro rfl ?_ | refine And.intro (incD (by omega)) ?_))) | (exfalso; clear hget hs; simp_all [badM, MG.n, MG.i, MG.nm, MG.ts, MG.ks]; done)
  refine wk_vc txok mixed [] ?_
  repeat' ((conv => whnf); first
    | refine And.intro (fun _ => ?_) (fun _ => ?_)
    | refine callF (ordered_fn ls) gf99 rfl rfl ?_)
  all_goals (try (conv => whnf))
  all_goals refine congrArg D.bool ?_
  all_goals (clear hget hs hbad; simp only [MG.k, MG.n, MG.i, MG.nm, MG.ls, MG.ts, MG.ks, beq_iff_eq, beq_eq_false_iff_ne, bne_iff_ne, ne_eq, bne_eq_false_iff_eq, decide_eq_true_eq, decide_eq_false_iff_not, Bool.not_false, Bool.not_true] at *)
  all_goals (unfold endM; first | (simp_all [MG.k, MG.n, MG.i, MG.nm, MG.ls, MG.ts, MG.ks]; done) | (simp_all [MG.k, MG.n, MG.i, MG.nm, MG.ls, MG.ts, MG.ks]; intro h; omega))
def idxM (p : MG → Bool) : List MG → Int → Int
  | [], _ => -1
  | t :: r, i => if p t then i else idxM p r (i + 1)
theorem idxM_nonneg (p : MG → Bool) : ∀ (l : List MG) (i : Int), 0 ≤ i → (0 ≤ idxM p l i ↔ l.any p = true)
  | [], i, h => by simp [idxM]
  | t :: r, i, h => by
    simp only [idxM, List.any_cons]
    by_cases hp : p t = true
    · rw [if_pos hp, hp]; simp [h]
    · rw [if_neg hp, idxM_nonneg p r (i + 1) (by omega)]; simp [hp]
theorem indexFuncM_fn (f : FuncId) (p : MG → Bool) (l : List MG) (hg : Goes Tryz.prog f) (ih : ∀ t ∈ l, FnR Tryz.prog G0 f [dM t] (.bool (p t))) : FnR Tryz.prog G0 164 [dMs l, .fn f [] []] (.int .i64 (idxM p l 0)) := by
  refine fnQ_sz fun hs => ?_
  have hl := (szOk_sl hs.1).1
  simp only [LB] at hl
  refine fnQ_of_vc txok mixed [] Tryz.func164 rfl rfl (by simp) fun b => ?_
  conv => whnf
  refine loopH (fun i : Nat => i ≤ l.length ∧ idxM p l 0 = idxM p (l.drop i) i) (fun i => l.length - i) (fun i => [(8, .d (.int .i64 i))]) (fun _ => []) 0 0 ⟨by omega, rfl⟩ (weak_of rfl (by repeat ((conv => whnf); first | exact trivial | refine And.intro rfl ?_ | refine And.intro (incD (by omega)) ?_)) (by repeat ((conv => whnf); first | exact trivial | refine And.intro rfl ?_ | refine And.intro (incD (by omega)) ?_))) ?_
  rintro i ⟨hi, hx⟩
  conv => whnf
  refine And.intro (fun hb => ?_) (fun hb => ?_)
  · have hb := of_decide_eq_true hb
    have hil : i < l.length := by omega
    rw [List.drop_eq_getElem_cons hil, idxM] at hx
    conv => whnf
    refine IdxC.encMs i hil rfl ?_
    conv => whnf
    refine callF (ih l[i] (by simp)) hg rfl rfl ?_
    conv => whnf
    refine And.intro (fun he => ?_) (fun he => ?_)
    · conv => whnf
      rw [hx, if_pos he]
    · conv => whnf
      rw [if_neg (by simp [he])] at hx
      exact again (i + 1) (by omega) ⟨by omega, by rw [hx]; rfl⟩ (weak_of rfl (by repeat ((conv => whnf); first | exact trivial | refine And.intro rfl ?_ | refine And.intro (incD (by omega)) ?_)) (by repeat ((conv => whnf); first | exact trivial | refine And.intro rfl ?_ | refine And.intro (incD (by omega)) ?_)))
  · have hb := of_decide_eq_false hb
    conv => whnf
    rw [hx, List.drop_eq_nil_of_le (by omega)]; rfl
theorem containsFuncM_fn (f : FuncId) (p : MG → Bool) (l : List MG) (hg : Goes Tryz.prog f) (ih : ∀ t ∈ l, FnR Tryz.prog G0 f [dM t] (.bool (p t))) : FnR Tryz.prog G0 114 [dMs l, .fn f [] []] (.bool (l.any p)) := by
  refine fnQ_of_vc txok mixed [] Tryz.func114 rfl rfl (by simp) fun b => ?_
  conv => whnf
  refine callF (indexFuncM_fn f p l hg ih) gf164 rfl rfl ?_
  conv => whnf
  refine congrArg D.bool ?_
  rw [Bool.eq_iff_iff, decide_eq_true_iff]
  exact idxM_nonneg p l 0 (by omega)
theorem indexFuncG0_fn (f : FuncId) (p : TG → Bool) (l : List TG) (hg : Goes Tryz.prog f) (ih : ∀ t ∈ l, FnR Tryz.prog G0 f [dG t] (.bool (p t))) : FnR Tryz.prog G0 146 [dGs l, .fn f [] []] (.int .i64 (idxG p l 0)) := by
  refine fnQ_sz fun hs => ?_
  have hl := (szOk_sl hs.1).1
  simp only [LB] at hl
  refine fnQ_of_vc txok mixed [] Tryz.func146 rfl rfl (by simp) fun b => ?_
  conv => whnf
  refine loopH (fun i : Nat => i ≤ l.length ∧ idxG p l 0 = idxG p (l.drop i) i) (fun i => l.length - i) (fun i => [(8, .d (.int .i64 i))]) (fun _ => []) 0 0 ⟨by omega, rfl⟩ (weak_of rfl (by repeat ((conv => whnf); first | exact trivial | refine And.intro rfl ?_ | refine And.intro (incD (by omega)) ?_)) (by repeat ((conv => whnf); first | exact trivial | refine And.intro rfl ?_ | refine And.intro (incD (by omega)) ?_))) ?_
  rintro i ⟨hi, hx⟩
  conv => whnf
  refine And.intro (fun hb => ?_) (fun hb => ?_)
  · have hb := of_decide_eq_true hb
    have hil : i < l.length := by omega
    rw [List.drop_eq_getElem_cons hil, idxG] at hx
    conv => whnf
    refine IdxC.encGs i hil rfl ?_
    conv => whnf
    refine callF (ih l[i] (by simp)) hg rfl rfl ?_
    conv => whnf
    refine And.intro (fun he => ?_) (fun he => ?_)
    · conv => whnf
      rw [hx, if_pos he]
    · conv => whnf
      rw [if_neg (by simp [he])] at hx
      exact again (i + 1) (by omega) ⟨by omega, by rw [hx]; rfl⟩ (weak_of rfl (by repeat ((conv => whnf); first | exact trivial | refine And.intro rfl ?_ | refine And.intro (incD (by omega)) ?_)) (by repeat ((conv => whnf); first | exact trivial | refine And.intro rfl ?_ | refine And.intro (incD (by omega)) ?_)))
  · have hb := of_decide_eq_false hb
    conv => whnf
    rw [hx, List.drop_eq_nil_of_le (by omega)]; rfl
theorem containsFuncG0_fn (f : FuncId) (p : TG → Bool) (l : List TG) (hg : Goes Tryz.prog f) (ih : ∀ t ∈ l, FnR Tryz.prog G0 f [dG t] (.bool (p t))) : FnR Tryz.prog G0 97 [dGs l, .fn f [] []] (.bool (l.any p)) := by
  refine fnQ_of_vc txok mixed [] Tryz.func97 rfl rfl (by simp) fun b => ?_
  conv => whnf
  refine callF (indexFuncG0_fn f p l hg ih) gf146 rfl rfl ?_
  conv => whnf
  refine congrArg D.bool ?_
  rw [Bool.eq_iff_iff, decide_eq_true_iff]
  exact idxG_nonneg p l 0 (by omega)
mutual
def allM : MG → Bool
  | .mk k n i nm ls ts ks => shpM (.mk k n i nm ls ts ks) && allGs ts && allMs ks
def allMs : List MG → Bool
  | [] => true
  | t :: r => allM t && allMs r
end
theorem allMs_any : ∀ l : List MG, allMs l = !l.any fun t => !allM t
  | [] => rfl
  | t :: r => by simp only [allMs, List.any_cons, allMs_any r, Bool.not_or, Bool.not_not]
theorem every1_fn (t : TG) : FnR Tryz.prog G0 113 [dG t] (.bool (!allG t)) := by
  refine fnQ_of_vc txok mixed [] Tryz.func113 rfl rfl (by simp) fun b => ?_
  conv => whnf
  refine callF (everyType_fn t) gf57 rfl rfl ?_
  conv => whnf
  try exact rfl
theorem everyTerm_fn : ∀ m : MG, FnR Tryz.prog G0 80 [dM m] (.bool (allM m)) := by
  refine MG.ind fun k n i nm ls ts ks ih => ?_
  have hc : ∀ t ∈ ks, FnR Tryz.prog G0 115 [dM t] (.bool (!allM t)) := by
    intro t ht
    refine fnQ_of_vc txok mixed [] Tryz.func115 rfl rfl (by simp) fun b => ?_
    conv => whnf
    refine callF (ih t ht) gf80 rfl rfl ?_
    conv => whnf
    try exact rfl
  have e : allM (.mk k n i nm ls ts ks) = (shpM (.mk k n i nm ls ts ks) && !(ts.any fun t => !allG t) && !(ks.any fun t => !allM t)) := by rw [allM, allGs_any, allMs_any]
  rw [e]
  refine fnQ_of_vc txok mixed [] Tryz.func80 rfl rfl (by simp) fun b => ?_
  conv => whnf
  refine callF (termShape_fn (.mk k n i nm ls ts ks)) gf112 rfl rfl ?_
  cases shpM (.mk k n i nm ls ts ks)
  · conv => whnf
    refine And.intro (fun h => Bool.noConfusion h) (fun h => ?_)
    conv => whnf
    try rfl
  · conv => whnf
    refine And.intro (fun h => ?_) (fun h => Bool.noConfusion h)
    conv => whnf
    refine callF (containsFuncG0_fn 113 (fun t => !allG t) ts gf113 (fun t _ => every1_fn t)) gf97 rfl rfl ?_
    cases (ts.any fun t => !allG t)
    · conv => whnf
      refine And.intro (fun h => ?_) (fun h => Bool.noConfusion h)
      conv => whnf
      refine callF (containsFuncM_fn 115 (fun t => !allM t) ks gf115 hc) gf114 rfl rfl ?_
      conv => whnf
      try exact rfl
    · conv => whnf
      refine And.intro (fun h => Bool.noConfusion h) (fun h => ?_)
      conv => whnf
      try exact rfl
end Go.Proofs.YtcjkikadolnfgaaGreat


