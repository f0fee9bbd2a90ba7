/- Texts of mine, joined: Zs Zt Zu Zv Bk Bl Bm Bn Zw Bo Bp Bq Bs. -/
import Derived.Test.YtcjkikadolnfgaaGreatPap
import Derived.Test.YtcjkikadolnfgaaGreatPan
import Derived.Test.YtcjkikadolnfgaaGreatPah
/- The reference's put and Unfold; the program's Unfold. -/
set_option linter.unusedSimpArgs false
set_option linter.unusedVariables false
namespace Go.Proofs.YtcjkikadolnfgaaGreat
open Go.Vx Go.Vc Go.RowKit

abbrev zG : TG := .mk 0 0 [] []
def outE : Except Int TG → D
  | .ok t => .tup [dG t, .int .i64 0]
  | .error e => .tup [dG zG, .int .i64 e]
def rputR (t : TG) (n : Int) (y : TG) : Except Int TG := if szG t + cntG n t * (szG y - 1) ≤ 1048576 then .ok (rputF (szG t) t n y) else .error 3
theorem quo_le {a b m : Nat} (hb : 0 < b) : (a : Int) > ((m / b : Nat) : Int) ↔ m < b * a := by
  have : m / b < a ↔ m < a * b := Nat.div_lt_iff_lt_mul hb
  rw [Nat.mul_comm]
  omega
theorem rputt_fn (t : TG) (n : Int) (y : TG) (hz : szG t < 549755800000) (hy : szG y < 549755800000) : FnR Tryz.prog G0 31 [dG t, .int .i64 n, dG y] (outE (rputR t n y)) := by
  have hS := rsize_fn t 1048576 (by omega) (by decide) (by decide)
  have hY := rsize_fn y 1048576 (by omega) (by decide) (by decide)
  have hC := rcount_fn n 1048576 (by decide) (by decide) t (by omega)
  have hcf := rcnt_facts n 1048576 (by decide) t
  have hcl := cnt_le t n
  have hP := rput_fn (szG t) t (Nat.le_refl _) n y (by omega)
  have htp := szG_pos t
  have hyp := szG_pos y
  rw [sizeG_pos (by decide)] at hS hY
  generalize hc : rcnt n 1048576 t = c at *
  unfold rputR
  obtain ⟨o, ho⟩ : ∃ o : Nat, (o : Int) = cutN 1048576 (szG t) := ⟨(cutN 1048576 (szG t)).toNat, by unfold cutN; split <;> omega⟩
  obtain ⟨q, hq⟩ : ∃ q : Nat, (q : Int) = cutN 1048576 (szG y) := ⟨(cutN 1048576 (szG y)).toNat, by unfold cutN; split <;> omega⟩
  rw [← ho] at hS
  rw [← hq] at hY
  unfold cutN at ho hq
  have ho1 : szG t ≤ 1048576 → o = szG t := by intro h; rw [if_pos (by omega)] at ho; omega
  have ho2 : ¬ szG t ≤ 1048576 → o = 1048577 := by intro h; rw [if_neg (by omega)] at ho; omega
  have hq1 : szG y ≤ 1048576 → q = szG y := by intro h; rw [if_pos (by omega)] at hq; omega
  have hq2 : ¬ szG y ≤ 1048576 → q = 1048577 := by intro h; rw [if_neg (by omega)] at hq; omega
  clear ho hq
  refine fnQ_of_vc txok mixed [] Tryz.func31 rfl rfl (by simp) fun b => ?_
  conv => whnf
  refine callF hS gf64 rfl rfl ?_
  conv => whnf
  refine callF hY gf64 rfl rfl ?_
  conv => whnf
  refine callF hC gf65 rfl rfl ?_
  conv => whnf
  by_cases h : szG t ≤ 1048576
  · have ho := ho1 h
    subst ho
    refine And.intro (fun h2 => ?_) (fun h2 => absurd (of_decide_eq_true h2) (by omega))
    conv => whnf
    have hc0 : c = cntG n t := by
      rcases Nat.lt_or_ge 1048576 (cntG n t) with h3 | h3
      · omega
      · exact hcf.2.1 h3
    rcases Nat.eq_zero_or_pos c with h0 | h0
    · rw [if_pos (by rw [← hc0, h0, Nat.zero_mul]; omega)]
      refine And.intro (fun h3 => absurd (of_decide_eq_true h3) (by omega)) (fun h3 => ?_)
      conv => whnf
      refine callF hP gf66 rfl rfl ?_
      conv => whnf
      try exact rfl
    · refine And.intro (fun h3 => ?_) (fun h3 => absurd (of_decide_eq_false h3) (by omega))
      conv => whnf
      refine And.intro (by omega) ?_
      conv => whnf
      have e1 : IntKind.i64.wrap (1048576 - (szG t : Int)) = ((1048576 - szG t : Nat) : Int) := by rw [Go.Vc.wrap_small (by omega) (by omega)]; omega
      have hdl : (1048576 - szG t) / c ≤ 1048576 - szG t := Nat.div_le_self _ _
      have e2 : IntKind.i64.wrap (Int.tdiv ((1048576 - szG t : Nat) : Int) (c : Int)) = (((1048576 - szG t) / c : Nat) : Int) := by
        rw [show Int.tdiv ((1048576 - szG t : Nat) : Int) (c : Int) = (((1048576 - szG t) / c : Nat) : Int) from rfl]
        generalize (1048576 - szG t) / c = dd at *
        rw [Go.Vc.wrap_small (by omega) (by omega)]
      have e3 : IntKind.i64.wrap ((q : Int) - 1) = ((q - 1 : Nat) : Int) := by rw [Go.Vc.wrap_small (by omega) (by omega)]; omega
      have key : (((q - 1 : Nat) : Int) > (((1048576 - szG t) / c : Nat) : Int)) ↔ ¬ szG t + cntG n t * (szG y - 1) ≤ 1048576 := by
        rw [quo_le h0, ← hc0]
        by_cases hq3 : szG y ≤ 1048576
        · have := hq1 hq3
          subst this
          omega
        · have := hq2 hq3
          subst this
          have h5 : c * 1048576 ≤ c * (szG y - 1) := Nat.mul_le_mul_left _ (by omega)
          have h6 : 1048576 ≤ c * 1048576 := Nat.le_mul_of_pos_left _ h0
          have h7 : c * (1048577 - 1) = c * 1048576 := rfl
          omega
      rw [e3, e1, e2]
      by_cases hk : szG t + cntG n t * (szG y - 1) ≤ 1048576
      · rw [if_pos hk]
        refine And.intro (fun h4 => absurd hk (key.1 (of_decide_eq_true h4))) (fun h4 => ?_)
        conv => whnf
        refine callF hP gf66 rfl rfl ?_
        conv => whnf
        try exact rfl
      · rw [if_neg hk]
        refine And.intro (fun h4 => ?_) (fun h4 => absurd (key.2 hk) (of_decide_eq_false h4))
        conv => whnf
        try exact rfl
  · rw [if_neg (by omega)]
    have ho := ho2 h
    subst ho
    refine And.intro (fun h2 => absurd (of_decide_eq_false h2) (by decide)) (fun h2 => ?_)
    conv => whnf
    try exact rfl
theorem right_okV {t : TG} (h : rightG t = 0) : okV t = true := by
  unfold rightG at h
  refine okV_right t ?_
  rw [all_right]
  split at h
  · cases h
  · split at h
    · assumption
    · cases h
def unfR (t : TG) : Except Int TG := if t.k = 9 ∧ rightG t = 0 then (match t.kids with
  | u :: _ => putR u t.n t
  | [] => .error 30) else .error 30
def runfR (t : TG) : Except Int TG := if t.k = 9 ∧ rightG t = 0 then (match t.kids with
  | u :: _ => rputR u t.n t
  | [] => .error 30) else .error 30
theorem right_mu {k n : Int} {ls : List ByteArray} {l : List TG} (hk : k = 9) (h : rightG (.mk k n ls l) = 0) : ∃ u, l = [u] := by
  unfold rightG at h
  split at h
  · cases h
  split at h
  · rename_i ha
    rw [allG, Bool.and_eq_true] at ha
    have := ha.1
    subst hk
    simp only [shpG, g_k] at this
    rw [if_neg (by decide), if_neg (by decide), if_neg (by decide), if_neg (by decide), if_neg (by decide), if_pos (by decide), Bool.and_eq_true] at this
    have h3 : (l.length : Int) = 1 := eq_of_beq this.2
    exact List.length_eq_one_iff.1 (by omega)
  · cases h
theorem unf1_fn (k n : Int) (ls : List ByteArray) (u : TG) (hv : okV u = true) (hz : szG (.mk k n ls [u]) < 1099511627776) : FnQ Tryz.prog G0 28 [.ptr (encG (.mk k n ls [u])) 0] (fun o => o = resO (putR u n (.mk k n ls [u]))) := by
  have hs : szG (.mk k n ls [u]) = szG u + 0 + 1 := by simp only [szG, szGs]
  have hP := kput_fn u n (.mk k n ls [u]) hv (by omega) hz
  refine fnQ_of_vc txok mixed [(1, .pure 0 (.take 1 (.pure 2 (.take 3 (.pure 4 (.take 5 (.take 6 (.fin 7 (.fin 8 .done)))))))))] Tryz.func28 rfl rfl (by simp) fun b => ?_
  cases hr : putR u n (.mk k n ls [u]) with
  | ok w =>
    rw [hr] at hP
    conv => whnf
    refine And.intro (by kernel_rfl) ?_
    repeat' ((conv => whnf); first
      | refine And.intro ?_ ?_
      | refine IdxC.encGs (l := [u]) 0 (by simp) rfl ?_
      | (refine callQ rfl rfl gf29 hP ?_; rintro o rfl))
    all_goals (conv => whnf)
    all_goals (try exact rfl)
  | error e =>
    rw [hr] at hP
    conv => whnf
    refine And.intro (by kernel_rfl) ?_
    repeat' ((conv => whnf); first
      | refine And.intro ?_ ?_
      | refine IdxC.encGs (l := [u]) 0 (by simp) rfl ?_
      | (refine callQ rfl rfl gf29 hP ?_; rintro o rfl))
    all_goals (conv => whnf)
    all_goals (try exact rfl)
theorem caughtOut_res (r : Except Int TG) : caughtOut (resO r) = outE r := by cases r <;> rfl
theorem unfR_mu (n : Int) (ls : List ByteArray) (u : TG) (h : rightG (.mk 9 n ls [u]) = 0) : unfR (.mk 9 n ls [u]) = putR u n (.mk 9 n ls [u]) := by
  unfold unfR; rw [if_pos ⟨rfl, h⟩]; rfl
theorem unfR_no {t : TG} (h : ¬ (t.k = 9 ∧ rightG t = 0)) : unfR t = .error 30 := by unfold unfR; rw [if_neg h]
theorem runfR_mu (n : Int) (ls : List ByteArray) (u : TG) (h : rightG (.mk 9 n ls [u]) = 0) : runfR (.mk 9 n ls [u]) = rputR u n (.mk 9 n ls [u]) := by
  unfold runfR; rw [if_pos ⟨rfl, h⟩]; rfl
theorem runfR_no {t : TG} (h : ¬ (t.k = 9 ∧ rightG t = 0)) : runfR t = .error 30 := by unfold runfR; rw [if_neg h]
theorem unfold_fn (t : TG) (hz : szG t < 1099511627776) : FnR Tryz.prog G0 12 [dG t] (outE (unfR t)) := by
  obtain ⟨k, n, ls, l⟩ := t
  have hR := rightType_fn (.mk k n ls l)
  by_cases h1 : k = 9 ∧ rightG (.mk k n ls l) = 0
  · obtain ⟨rfl, h2⟩ := h1
    obtain ⟨u, rfl⟩ := right_mu rfl h2
    rw [unfR_mu n ls u h2]
    have hok := (okV_mk ..).1 (right_okV h2)
    have hU := caught_out gf28 (unf1_fn 9 n ls u (hok.2 u (by simp)) hz) (by
      cases putR u n (.mk 9 n ls [u]) with
      | ok w => exact .inl ⟨w, rfl⟩
      | error e => exact .inr ⟨e, rfl⟩)
    rw [caughtOut_res] at hU
    rw [h2] at hR
    cases hr : putR u n (.mk 9 n ls [u]) with
    | ok w =>
      rw [hr] at hU
      obtain ⟨k1, n1, l1, m1⟩ := w
      refine fnQ_of_vc txok mixed [] Tryz.func12 rfl rfl (by simp) fun b => ?_
      conv => whnf
      refine And.intro (fun h => ?_) (fun h => by first | (exact absurd h (by decide)) | (exact absurd h (by simp [g_k])))
      conv => whnf
      refine callF hR gf26 rfl rfl ?_
      conv => whnf
      refine And.intro (fun h => by first | (exact absurd h (by decide)) | (exact absurd h (by simp [g_k]))) (fun h => ?_)
      conv => whnf
      refine pubC (fun i => Nat.beq i 0) ?_
      conv => whnf
      refine callF hU gf27 rfl rfl ?_
      conv => whnf
      try exact rfl
    | error e =>
      rw [hr] at hU
      refine fnQ_of_vc txok mixed [] Tryz.func12 rfl rfl (by simp) fun b => ?_
      conv => whnf
      refine And.intro (fun h => ?_) (fun h => by first | (exact absurd h (by decide)) | (exact absurd h (by simp [g_k])))
      conv => whnf
      refine callF hR gf26 rfl rfl ?_
      conv => whnf
      refine And.intro (fun h => by first | (exact absurd h (by decide)) | (exact absurd h (by simp [g_k]))) (fun h => ?_)
      conv => whnf
      refine pubC (fun i => Nat.beq i 0) ?_
      conv => whnf
      refine callF hU gf27 rfl rfl ?_
      conv => whnf
      try exact rfl
  · rw [unfR_no (t := .mk k n ls l) h1]
    refine fnQ_of_vc txok mixed [] Tryz.func12 rfl rfl (by simp) fun b => ?_
    conv => whnf
    refine And.intro (fun h => ?_) (fun h => ?_)
    · have h : k = 9 := by simpa [g_k] using h
      conv => whnf
      refine callF hR gf26 rfl rfl ?_
      conv => whnf
      refine And.intro (fun h3 => ?_) (fun h3 => absurd ⟨h, by simpa using h3⟩ h1)
      conv => whnf
      try exact rfl
    · conv => whnf
      try exact rfl
theorem runfold_fn (t : TG) (hz : szG t < 549755800000) : FnR Tryz.prog G0 13 [dG t] (outE (runfR t)) := by
  obtain ⟨k, n, ls, l⟩ := t
  have hR := rtR_fn (.mk k n ls l)
  rw [rtR_right] at hR
  by_cases h1 : k = 9 ∧ rightG (.mk k n ls l) = 0
  · obtain ⟨rfl, h2⟩ := h1
    obtain ⟨u, rfl⟩ := right_mu rfl h2
    rw [runfR_mu n ls u h2]
    rw [h2] at hR
    have hs : szG (.mk 9 n ls [u]) = szG u + 0 + 1 := by simp only [szG, szGs]
    have hU := rputt_fn u n (.mk 9 n ls [u]) (by omega) hz
    cases hr : rputR u n (.mk 9 n ls [u]) with
    | ok w =>
      rw [hr] at hU
      obtain ⟨k1, n1, l1, m1⟩ := w
      refine fnQ_of_vc txok mixed [(3, .pure 0 (.take 1 (.pure 2 (.take 3 (.pure 4 (.take 5 (.take 6 (.fin 7 (.pure 8 (.pure 9 (.fin 10 (.pure 11 .done))))))))))))] Tryz.func13 rfl rfl (by simp) fun b => ?_
      conv => whnf
      refine callF hR gf30 rfl rfl ?_
      conv => whnf
      refine And.intro (fun h => ?_) (fun h => by first | (exact absurd h (by decide)) | (exact absurd h (by simp [g_k])))
      conv => whnf
      refine And.intro (fun h => by first | (exact absurd h (by decide)) | (exact absurd h (by simp [g_k]))) (fun h => ?_)
      conv => whnf
      refine And.intro (by kernel_rfl) ?_
      repeat' ((conv => whnf); first
        | refine And.intro ?_ ?_
        | refine IdxC.encGs (l := [u]) 0 (by simp) rfl ?_
        | refine callF hU gf31 rfl rfl ?_)
      all_goals (conv => whnf)
      all_goals (try exact rfl)
    | error e =>
      rw [hr] at hU
      refine fnQ_of_vc txok mixed [(3, .pure 0 (.take 1 (.pure 2 (.take 3 (.pure 4 (.take 5 (.take 6 (.fin 7 (.pure 8 (.pure 9 (.fin 10 (.pure 11 .done))))))))))))] Tryz.func13 rfl rfl (by simp) fun b => ?_
      conv => whnf
      refine callF hR gf30 rfl rfl ?_
      conv => whnf
      refine And.intro (fun h => ?_) (fun h => by first | (exact absurd h (by decide)) | (exact absurd h (by simp [g_k])))
      conv => whnf
      refine And.intro (fun h => by first | (exact absurd h (by decide)) | (exact absurd h (by simp [g_k]))) (fun h => ?_)
      conv => whnf
      refine And.intro (by kernel_rfl) ?_
      repeat' ((conv => whnf); first
        | refine And.intro ?_ ?_
        | refine IdxC.encGs (l := [u]) 0 (by simp) rfl ?_
        | refine callF hU gf31 rfl rfl ?_)
      all_goals (conv => whnf)
      all_goals (try exact rfl)
  · rw [runfR_no (t := .mk k n ls l) h1]
    refine fnQ_of_vc txok mixed [] Tryz.func13 rfl rfl (by simp) fun b => ?_
    conv => whnf
    refine callF hR gf30 rfl rfl ?_
    conv => whnf
    refine And.intro (fun h => ?_) (fun h => ?_)
    · have h : rightG (.mk k n ls l) = 0 := by simpa using h
      conv => whnf
      refine And.intro (fun h3 => ?_) (fun h3 => absurd ⟨by simpa [g_k] using h3, h⟩ h1)
      conv => whnf
      try exact rfl
    · conv => whnf
      try exact rfl
end Go.Proofs.YtcjkikadolnfgaaGreat

/- rules: an array of functions. -/
set_option linter.unusedSimpArgs false
set_option linter.unusedVariables false
namespace Go.Proofs.YtcjkikadolnfgaaGreat
open Go.Vx Go.Vc Go.RowKit

def rulesD : List D := [.val .nilFunc, .fn 116 [] [], .fn 116 [] [], .fn 116 [] [], .fn 117 [] [], .fn 118 [] [], .fn 119 [] [], .fn 120 [] [], .fn 121 [] [], .fn 122 [] [], .fn 123 [] [], .fn 123 [] [], .fn 124 [] [], .fn 125 [] [], .fn 126 [] [], .fn 127 [] [], .fn 128 [] [], .fn 129 [] [], .fn 130 [] [], .fn 131 [] [], .fn 132 [] [], .fn 133 [] [], .fn 134 [] [], .fn 135 [] [], .fn 136 [] [], .fn 137 [] []]
def rulesV : Value := .agg #[.nilFunc, .func (.func 116) #[] #[], .func (.func 116) #[] #[], .func (.func 116) #[] #[], .func (.func 117) #[] #[], .func (.func 118) #[] #[], .func (.func 119) #[] #[], .func (.func 120) #[] #[], .func (.func 121) #[] #[], .func (.func 122) #[] #[], .func (.func 123) #[] #[], .func (.func 123) #[] #[], .func (.func 124) #[] #[], .func (.func 125) #[] #[], .func (.func 126) #[] #[], .func (.func 127) #[] #[], .func (.func 128) #[] #[], .func (.func 129) #[] #[], .func (.func 130) #[] #[], .func (.func 131) #[] #[], .func (.func 132) #[] #[], .func (.func 133) #[] #[], .func (.func 134) #[] #[], .func (.func 135) #[] #[], .func (.func 136) #[] #[], .func (.func 137) #[] #[]]
theorem rules_rep {S : Nat → Prop} {w : World} : RepD S w (.agg rulesD) rulesV := by
  simp only [rulesD, rulesV, RepD, RepDs]
  simp
theorem bldRules {dst : Option Tmp} {ty : TypeId} {pos : String} {after : Array Edge} {gd : Option (Nat × Bool)} (a : Act) (w : World) : (execOp a.eval { dst := dst, op := .build 102 #[(1, .func 116), (2, .func 116), (3, .func 116), (4, .func 117), (5, .func 118), (6, .func 119), (7, .func 120), (8, .func 121), (9, .func 122), (10, .func 123), (11, .func 123), (12, .func 124), (13, .func 125), (14, .func 126), (15, .func 127), (16, .func 128), (17, .func 129), (18, .func 130), (19, .func 131), (20, .func 132), (21, .func 133), (22, .func 134), (23, .func 135), (24, .func 136), (25, .func 137)], type := ty, pos := pos, after := after, guard := gd }).run Tryz.prog w = .ok (.value rulesV) w := by
  simp only [execOp]
  exact run_val (run_build w 102 _ _ (by kernel_rfl))
theorem rules_fn : FnR Tryz.prog G0 83 [] (.agg rulesD) := by
  refine fnQ_of_vc txok mixed [] Tryz.func83 rfl rfl (by simp) fun b => ?_
  conv => whnf
  refine valC (.agg (Vx.dL rulesD)) (fun e a w hok => ⟨rulesV, ?_, bldRules a w⟩) ?_
  · have h := rules_rep (S := e.pub) (w := w)
    simp only [RepD] at h
    obtain ⟨l', h1, h2⟩ := h
    simp only [RepSV]
    exact ⟨l', h1, by rw [dL_map]; exact RepSVs.ofD.1 h2⟩
  unfold rulesD
  conv => whnf
  try exact rfl
end Go.Proofs.YtcjkikadolnfgaaGreat

/- of: a term's type, where its rule is known. -/
set_option linter.unusedSimpArgs false
set_option linter.unusedVariables false
namespace Go.Proofs.YtcjkikadolnfgaaGreat
open Go.Vx Go.Vc Go.RowKit

def fitE : Except Int TG → Except Int TG
  | .ok t => fitR t
  | .error e => .error e
set_option maxRecDepth 20000 in
theorem of_fn (vars : List Int) (l : List Bd) (m : MG) (r : Except Int TG) (j : Nat) (f : FuncId) (hk : m.k = (j : Int)) (hj : rulesD[j]? = some (.fn f [] [])) (hg : Goes Tryz.prog f) (hr : FnQ Tryz.prog G0 f [dSc vars l, dM m] (fun o => o = resO r)) (hz : ∀ t, r = .ok t → szG t < 4611686018427387904) : FnQ Tryz.prog G0 46 [dSc vars l, dM m] (fun o => o = resO (fitE r)) := by
  obtain ⟨k, n, i, nm, ls, ts, ks⟩ := m
  have hk : k = (j : Int) := hk
  subst hk
  have hlt : j < 26 := by
    have := (List.getElem?_eq_some_iff.1 hj).1
    exact this
  have hget : (Vx.dL rulesD)[j]? = some (.d (.fn f [] [])) := by rw [dL_map, List.getElem?_map, hj]; rfl
  have hf : ∀ t, r = .ok t → FnQ Tryz.prog G0 82 [dG t] (fun o => o = resO (fitR t)) := fun t ht => fit_fn t (hz t ht)
  refine fnQ_of_vc txok mixed [(1, .pure 1 (.take 2 (.take 4 (.take 5 (.run 0 (.run 3 (.fin 6 (.fin 7 (.fin 8 .done)))))))))] Tryz.func46 rfl rfl (by simp) fun b => ?_
  cases r with
  | error e =>
    conv => whnf
    refine And.intro (by kernel_rfl) ?_
    repeat' ((conv => whnf); first
      | refine And.intro ?_ ?_
      | refine callF rules_fn gf83 rfl rfl ?_
      | refine idxAC (ye := ⟨⟨.nilFunc, 1, 8, false, [], none, false, false⟩, .fn⟩) (len := 26) (el := 101) txok j (.d (.fn f [] [])) rfl rfl rfl (by kernel_rfl) hlt rfl rfl rfl hget ?_
      | (refine callQ rfl rfl hg hr ?_; rintro o rfl))
    all_goals (conv => whnf)
    all_goals (try exact rfl)
  | ok t =>
    have hf := hf t rfl
    unfold fitE
    cases hq : fitR t with
    | ok t2 =>
      rw [hq] at hf
      conv => whnf
      refine And.intro (by kernel_rfl) ?_
      repeat' ((conv => whnf); first
        | refine And.intro ?_ ?_
        | refine callF rules_fn gf83 rfl rfl ?_
        | refine idxAC (ye := ⟨⟨.nilFunc, 1, 8, false, [], none, false, false⟩, .fn⟩) (len := 26) (el := 101) txok j (.d (.fn f [] [])) rfl rfl rfl (by kernel_rfl) hlt rfl rfl rfl hget ?_
        | (refine callQ rfl rfl hg hr ?_; rintro o rfl)
        | (refine callQ rfl rfl gf82 hf ?_; rintro o rfl))
      all_goals (conv => whnf)
      all_goals (simp only [hq]; rfl)
    | error e =>
      rw [hq] at hf
      conv => whnf
      refine And.intro (by kernel_rfl) ?_
      repeat' ((conv => whnf); first
        | refine And.intro ?_ ?_
        | refine callF rules_fn gf83 rfl rfl ?_
        | refine idxAC (ye := ⟨⟨.nilFunc, 1, 8, false, [], none, false, false⟩, .fn⟩) (len := 26) (el := 101) txok j (.d (.fn f [] [])) rfl rfl rfl (by kernel_rfl) hlt rfl rfl rfl hget ?_
        | (refine callQ rfl rfl hg hr ?_; rintro o rfl)
        | (refine callQ rfl rfl gf82 hf ?_; rintro o rfl))
      all_goals (conv => whnf)
      all_goals (simp only [hq]; rfl)
end Go.Proofs.YtcjkikadolnfgaaGreat

/- The rules, as plain functions; right shapes stay right. -/
set_option linter.unusedSimpArgs false
set_option linter.unusedVariables false
namespace Go.Proofs.YtcjkikadolnfgaaGreat
open Go.Vx Go.Vc Go.RowKit

abbrev Chk := List Int → List Bd → Except Int TG
def bE (r : Except Int TG) (f : TG → Except Int TG) : Except Int TG := match r with
  | .ok t => f t
  | .error e => .error e
def askE (c : Bool) (r : Except Int TG) : Except Int TG := match c with
  | true => r
  | false => .error 30
def kidG (t : TG) (i : Nat) : TG := t.kids.getD i zG
abbrev Putt := TG → Int → TG → Except Int TG
def plainR (k : Int) : Chk := fun _ _ => .ok (if k = 1 then .mk 1 0 [] [] else if k = 2 then .mk 2 0 [] [] else .mk 3 0 [] [])
def lamR (nm : ByteArray) (a : TG) (c : Chk) : Chk := fun vars l => askE (insG a vars) (bE (c vars (l ++ [(nm, a)])) fun t => .ok (.mk 4 0 [] [a, t]))
def appRl (c d : Chk) : Chk := fun vars l => bE (c vars l) fun f => bE (d vars l) fun x => askE (f.k == 4) (askE (samG (kidG f 0) x [] []) (.ok (kidG f 1)))
def fixR (nm lb : ByteArray) (a b : TG) (c : Chk) : Chk := fun vars l => askE (insG a vars) (askE (insG b vars) (bE (fitR (.mk 4 0 [] [a, b])) fun f => bE (c vars ((l ++ [(nm, f)]) ++ [(lb, a)])) fun t => askE (samG t b [] []) (.ok f)))
def letR (nm : ByteArray) (c d : Chk) : Chk := fun vars l => bE (c vars l) fun t => d vars (l ++ [(nm, t)])
def pairR (c d : Chk) : Chk := fun vars l => bE (c vars l) fun a => bE (d vars l) fun b => .ok (.mk 5 0 [] [a, b])
def halfR (i : Nat) (c : Chk) : Chk := fun vars l => bE (c vars l) fun t => askE (t.k == 5) (.ok (kidG t i))
def chooseR (c d e : Chk) : Chk := fun vars l => bE (c vars l) fun x => bE (d vars l) fun a => bE (e vars l) fun b => askE (x.k == 2) (askE (samG a b [] []) (.ok a))
def binR (n : Int) (c d : Chk) : Chk := fun vars l => bE (c vars l) fun a => bE (d vars l) fun b => askE (a.k == 1 && b.k == 1) (.ok (if n ≥ 5 then .mk 2 0 [] [] else .mk 1 0 [] []))
def foldR (P : Putt) (a : TG) (c : Chk) : Chk := fun vars l => askE (insG a vars) (bE (c vars l) fun k => askE (a.k == 9) (bE (P (kidG a 0) a.n a) fun w => askE (samG k w [] []) (.ok a)))
def unfoldR (P : Putt) (c : Chk) : Chk := fun vars l => bE (c vars l) fun t => askE (t.k == 9) (P (kidG t 0) t.n t)
def allR (n : Int) (c : Chk) : Chk := fun vars l => if n ∈ vars then .error 30 else bE (c (vars ++ [n]) l) fun t => .ok (.mk 10 n [] [t])
def instR (P : Putt) (a : TG) (c : Chk) : Chk := fun vars l => askE (insG a vars) (bE (c vars l) fun t => askE (t.k == 10) (P (kidG t 0) t.n a))
def packR (P : Putt) (a b : TG) (c : Chk) : Chk := fun vars l => askE (insG a vars) (askE (insG b vars) (bE (c vars l) fun k => askE (b.k == 11) (bE (P (kidG b 0) b.n a) fun w => askE (samG k w [] []) (.ok b))))
def openR (P : Putt) (n : Int) (nm : ByteArray) (c d : Chk) : Chk := fun vars l => bE (c vars l) fun t => askE (t.k == 11) (if n ∈ vars then .error 30 else bE (P (kidG t 0) t.n (varG n)) fun w => bE (d (vars ++ [n]) (l ++ [(nm, w)])) fun u => askE (!decide (n ∈ freeS u)) (.ok u))
def failR (a : TG) : Chk := fun vars _ => askE (insG a vars) (.ok a)
/-- Names with right types that are not too great. -/
def Bnd (l : List Bd) : Prop := ∀ x ∈ l, allG x.2 = true ∧ szG x.2 ≤ 1073741824
def Good (r : Except Int TG) : Prop := ∀ t, r = .ok t → allG t = true ∧ szG t ≤ 1048576
/-- What is asked of a term's part: its contract, in each scope. -/
def KidOk (u : MG) (c : Chk) : Prop := ∀ vars l, vars.length + szM u ≤ 549755813888 → l.length + 2 * szM u ≤ 549755813888 → Bnd l → FnQ Tryz.prog G0 46 [dSc vars l, dM u] (fun o => o = resO (c vars l)) ∧ Good (c vars l)
theorem Bnd.snoc {l : List Bd} (h : Bnd l) {nm : ByteArray} {t : TG} (ht : allG t = true) (hz : szG t ≤ 1073741824) : Bnd (l ++ [(nm, t)]) := by
  intro x hx
  rcases List.mem_append.1 hx with hx | hx
  · exact h x hx
  · rw [List.mem_singleton.1 hx]; exact ⟨ht, hz⟩
theorem allGs_iff (l : List TG) : allGs l = true ↔ ∀ u ∈ l, allG u = true := by
  induction l with
  | nil => simp [allGs]
  | cons t r ih => simp [allGs, ih]
theorem allG_mk (k n : Int) (ls : List ByteArray) (l : List TG) : allG (.mk k n ls l) = true ↔ shpG (.mk k n ls l) = true ∧ ∀ u ∈ l, allG u = true := by
  rw [allG, Bool.and_eq_true, allGs_iff]
theorem allG_okV {t : TG} (h : allG t = true) : okV t = true := okV_right t (by rw [all_right]; exact h)
theorem shpG_mk (k n : Int) (ls : List ByteArray) (l : List TG) : shpG (.mk k n ls l) = (if k = 1 ∨ k = 2 ∨ k = 3 then n == 0 && (ls.length : Int) == 0 && (l.length : Int) == 0
  else if k = 4 ∨ k = 5 then n == 0 && (ls.length : Int) == 0 && (l.length : Int) == 2
  else if k = 6 then (ls.length : Int) == 0 && (l.length : Int) == 0
  else if k = 7 then n == 0 && ordS ls && (ls.length : Int) == (l.length : Int)
  else if k = 8 then n == 0 && (ls.length : Int) == 0
  else if k = 9 ∨ k = 10 ∨ k = 11 then (ls.length : Int) == 0 && (l.length : Int) == 1
  else false) := rfl
theorem shp2 {k n : Int} {ls : List ByteArray} {l : List TG} (hk : k = 4 ∨ k = 5) (h : shpG (.mk k n ls l) = true) : n = 0 ∧ ls = [] ∧ ∃ a b, l = [a, b] := by
  rw [shpG_mk] at h
  rw [if_neg (by omega), if_pos hk] at h
  simp only [Bool.and_eq_true, beq_iff_eq] at h
  obtain ⟨⟨h1, h2⟩, h3⟩ := h
  refine ⟨h1, List.length_eq_zero_iff.1 (by exact Int.ofNat.inj h2), ?_⟩
  have h4 : l.length = 2 := Int.ofNat.inj h3
  match l, h4 with
  | [a, b], _ => exact ⟨a, b, rfl⟩
theorem shp1 {k n : Int} {ls : List ByteArray} {l : List TG} (hk : k = 9 ∨ k = 10 ∨ k = 11) (h : shpG (.mk k n ls l) = true) : ls = [] ∧ ∃ a, l = [a] := by
  rw [shpG_mk] at h
  rw [if_neg (by omega), if_neg (by omega), if_neg (by omega), if_neg (by omega), if_neg (by omega), if_pos hk] at h
  simp only [Bool.and_eq_true, beq_iff_eq] at h
  obtain ⟨h2, h3⟩ := h
  exact ⟨List.length_eq_zero_iff.1 (by exact Int.ofNat.inj h2), List.length_eq_one_iff.1 (by exact Int.ofNat.inj h3)⟩
theorem shpG_congr {k n n' : Int} {ls : List ByteArray} {l l' : List TG} (hb : bndG k = true) (hl : l.length = l'.length) (h : shpG (.mk k n ls l) = true) : shpG (.mk k n' ls l') = true := by
  simp only [bndG, Bool.or_eq_true, beq_iff_eq] at hb
  rw [shpG_mk] at h ⊢
  rw [if_neg (by omega), if_neg (by omega), if_neg (by omega), if_neg (by omega), if_neg (by omega), if_pos (by omega)] at h ⊢
  rw [← hl]; exact h
theorem shpG_kids {k n : Int} {ls : List ByteArray} {l l' : List TG} (hl : l.length = l'.length) (h : shpG (.mk k n ls l) = true) : shpG (.mk k n ls l') = true := by
  rw [shpG_mk] at h ⊢
  rw [← hl]
  exact h
theorem allG_var (m : Int) : allG (varG m) = true := by rw [varG, allG_mk]; exact ⟨rfl, nofun⟩
theorem allG_put : ∀ (f : Nat) (t : TG) (x : Int) (y : TG) (fr : List Int), allG y = true → allG t = true → allG (putF f t x y fr) = true
  | 0, t, _, _, _, _, h => h
  | f + 1, .mk k n ls l, x, y, fr, hy, h => by
    rw [putF_mk]
    obtain ⟨h1, h2⟩ := (allG_mk k n ls l).1 h
    split
    · exact hy
    split
    · exact h
    split
    · rename_i hb
      refine (allG_mk _ _ _ _).2 ⟨shpG_congr hb.1 (by simp) h1, fun u hu => ?_⟩
      rw [List.mem_map] at hu
      obtain ⟨v, hv, rfl⟩ := hu
      rw [List.mem_map] at hv
      obtain ⟨w, hw, rfl⟩ := hv
      exact allG_put f _ x y fr hy (allG_put f w _ _ _ (allG_var _) (h2 w hw))
    · refine (allG_mk _ _ _ _).2 ⟨shpG_kids (by simp) h1, fun u hu => ?_⟩
      rw [List.mem_map] at hu
      obtain ⟨v, hv, rfl⟩ := hu
      exact allG_put f v x y fr hy (h2 v hv)
theorem allG_rput : ∀ (f : Nat) (t : TG) (x : Int) (y : TG), allG y = true → allG t = true → allG (rputF f t x y) = true
  | 0, _, _, _, _, h => h
  | f + 1, .mk k n ls l, x, y, hy, h => by
    obtain ⟨h1, h2⟩ := (allG_mk k n ls l).1 h
    rw [rputF_mk]
    split
    · exact hy
    split
    · exact h
    split
    · rename_i hb
      refine (allG_mk ..).2 ⟨shpG_congr hb.1 (by simp) h1, fun u hu => ?_⟩
      obtain ⟨w, hw, rfl⟩ := List.mem_map.1 hu
      exact allG_rput f _ x y hy (allG_rput f w n _ (allG_var _) (h2 w hw))
    · refine (allG_mk ..).2 ⟨shpG_kids (by simp) h1, fun u hu => ?_⟩
      obtain ⟨w, hw, rfl⟩ := List.mem_map.1 hu
      exact allG_rput f w x y hy (h2 w hw)
theorem right_all {t : TG} (h : rightG t = 0) : allG t = true := by
  unfold rightG at h
  split at h
  · cases h
  · split at h
    · assumption
    · cases h
theorem ins_all {t : TG} {vars : List Int} (h : insG t vars = true) : allG t = true := by
  unfold insG at h
  rw [Bool.and_eq_true] at h
  exact right_all (eq_of_beq h.1)
theorem putR_good {t y : TG} {x : Int} {w : TG} (ht : allG t = true) (hy : allG y = true) (h : putR t x y = .ok w) : allG w = true ∧ szG w ≤ 1048576 := by
  unfold putR at h
  split at h
  · rename_i hc
    injection h with h; subst h
    refine ⟨allG_put _ _ _ _ _ hy ht, ?_⟩
    have h1 := sz_putF (szG t) t x y (freeS y) (Nat.le_refl _) (allG_okV ht) (allG_okV hy) (fun z => mem_freeS y z)
    have h2 := cnt_le t x
    have h3 := szG_pos y
    have h4 : cntG x t * szG y = cntG x t * (szG y - 1) + cntG x t := by
      conv => rhs; rw [← Nat.mul_succ]
      congr 1; omega
    omega
  · cases h
end Go.Proofs.YtcjkikadolnfgaaGreat

/- target.shapes: an array of structs (printed by gba.py). -/
set_option linter.unusedSimpArgs false
set_option linter.unusedVariables false
namespace Go.Proofs.YtcjkikadolnfgaaGreat
open Go.Vx Go.Vc Go.RowKit

/-- What each kind of term has: a number n, a number i, a name; how many labels, types, terms. -/
structure Shp where
  (n i nm : Bool)
  (ls ts ks : Int)
def shpTab : List Shp := [⟨false, false, false, 0, 0, 0⟩, ⟨false, true, false, 0, 0, 0⟩, ⟨false, true, false, 0, 0, 0⟩, ⟨false, false, false, 0, 0, 0⟩, ⟨false, false, true, 0, 0, 0⟩, ⟨false, false, true, 0, 1, 1⟩, ⟨false, false, false, 0, 0, 2⟩, ⟨false, false, true, 1, 2, 1⟩, ⟨false, false, true, 0, 0, 2⟩, ⟨false, false, false, 0, 0, 2⟩, ⟨false, false, false, 0, 0, 1⟩, ⟨false, false, false, 0, 0, 1⟩, ⟨false, false, false, 0, 0, 3⟩, ⟨true, false, false, 0, 0, 2⟩, ⟨false, false, false, (-3), 0, (-1)⟩, ⟨false, false, true, 0, 0, 1⟩, ⟨true, false, false, 0, 1, 1⟩, ⟨false, false, false, (-2), 0, (-1)⟩, ⟨false, false, false, 0, 1, 1⟩, ⟨false, false, false, 0, 0, 1⟩, ⟨true, false, false, 0, 0, 1⟩, ⟨false, false, false, 0, 1, 1⟩, ⟨false, false, false, 0, 2, 1⟩, ⟨true, false, true, 0, 0, 2⟩, ⟨false, false, false, 0, 1, 0⟩, ⟨false, false, false, 0, 0, 1⟩]
def shpC (s : Shp) : List D := [.bool s.n, .bool s.i, .bool s.nm, .int .i64 s.ls, .int .i64 s.ts, .int .i64 s.ks]
def shapesD : List D := fl shpC shpTab
def shapesV : Value := .agg #[.bool false, .bool false, .bool false, .int .i64 0, .int .i64 0, .int .i64 0, .bool false, .bool true, .bool false, .int .i64 0, .int .i64 0, .int .i64 0, .bool false, .bool true, .bool false, .int .i64 0, .int .i64 0, .int .i64 0, .bool false, .bool false, .bool false, .int .i64 0, .int .i64 0, .int .i64 0, .bool false, .bool false, .bool true, .int .i64 0, .int .i64 0, .int .i64 0, .bool false, .bool false, .bool true, .int .i64 0, .int .i64 1, .int .i64 1, .bool false, .bool false, .bool false, .int .i64 0, .int .i64 0, .int .i64 2, .bool false, .bool false, .bool true, .int .i64 1, .int .i64 2, .int .i64 1, .bool false, .bool false, .bool true, .int .i64 0, .int .i64 0, .int .i64 2, .bool false, .bool false, .bool false, .int .i64 0, .int .i64 0, .int .i64 2, .bool false, .bool false, .bool false, .int .i64 0, .int .i64 0, .int .i64 1, .bool false, .bool false, .bool false, .int .i64 0, .int .i64 0, .int .i64 1, .bool false, .bool false, .bool false, .int .i64 0, .int .i64 0, .int .i64 3, .bool true, .bool false, .bool false, .int .i64 0, .int .i64 0, .int .i64 2, .bool false, .bool false, .bool false, .int .i64 (-3), .int .i64 0, .int .i64 (-1), .bool false, .bool false, .bool true, .int .i64 0, .int .i64 0, .int .i64 1, .bool true, .bool false, .bool false, .int .i64 0, .int .i64 1, .int .i64 1, .bool false, .bool false, .bool false, .int .i64 (-2), .int .i64 0, .int .i64 (-1), .bool false, .bool false, .bool false, .int .i64 0, .int .i64 1, .int .i64 1, .bool false, .bool false, .bool false, .int .i64 0, .int .i64 0, .int .i64 1, .bool true, .bool false, .bool false, .int .i64 0, .int .i64 0, .int .i64 1, .bool false, .bool false, .bool false, .int .i64 0, .int .i64 1, .int .i64 1, .bool false, .bool false, .bool false, .int .i64 0, .int .i64 2, .int .i64 1, .bool true, .bool false, .bool true, .int .i64 0, .int .i64 0, .int .i64 2, .bool false, .bool false, .bool false, .int .i64 0, .int .i64 1, .int .i64 0, .bool false, .bool false, .bool false, .int .i64 0, .int .i64 0, .int .i64 1]
def dv : D → Value
  | .bool b => .bool b
  | .int k n => .int k n
  | _ => .nilFunc
def isBI : D → Bool
  | .bool _ => true
  | .int _ _ => true
  | _ => false
theorem rep_dv {S : Nat → Prop} {w : World} : ∀ l : List D, l.all isBI = true → RepDs S w l (l.map dv)
  | [], _ => by simp [RepDs]
  | x :: r, h => by
    rw [List.all_cons, Bool.and_eq_true] at h
    have hr := rep_dv (S := S) (w := w) r h.2
    simp only [RepDs, List.map_cons]
    refine ⟨dv x, _, rfl, ?_, hr⟩
    cases x with
    | bool b => simp only [RepD, dv]
    | int k n => simp only [RepD, dv]
    | _ => cases h.1
set_option maxRecDepth 20000 in
theorem shapes_rep {S : Nat → Prop} {w : World} : RepD S w (.agg shapesD) shapesV := by
  simp only [RepD]
  exact ⟨_, rfl, rep_dv (S := S) (w := w) shapesD (by rfl)⟩
theorem shp6 {e : Env} {w : World} {v : Value} {a b c : Go.Vx.SV} {x y z : Int} {p q r : Bool} (h : RepSV e w (.agg [a, b, c, .d (.int .i64 x), .d (.int .i64 y), .d (.int .i64 z)]) v)
    (ha : ∀ u, RepSV e w a u → u = .bool p) (hb : ∀ u, RepSV e w b u → u = .bool q) (hc : ∀ u, RepSV e w c u → u = .bool r) : v = .agg #[.bool p, .bool q, .bool r, .int .i64 x, .int .i64 y, .int .i64 z] := by
  simp only [RepSV, RepSVs, RepD] at h
  obtain ⟨l, rfl, v1, s1, e1, h1, v2, s2, rfl, h2, v3, s3, rfl, h3, v4, s4, rfl, h4, v5, s5, rfl, h5, v6, s6, rfl, h6, rfl⟩ := h
  subst h4; subst h5; subst h6
  obtain rfl := ha _ h1
  obtain rfl := hb _ h2
  obtain rfl := hc _ h3
  refine congrArg Value.agg ?_
  apply Array.ext'
  rw [e1]
theorem shpF {e : Env} {w : World} (u : Value) (h : RepSV e w (.d (.bool false)) u) : u = .bool false := by simpa only [RepSV, RepD] using h
theorem shpT {e : Env} {w : World} (u : Value) (h : RepSV e w (.kb true) u) : u = .bool true := by simpa only [RepSV] using h
set_option maxRecDepth 20000 in
theorem bldShapes {e : Env} {w : World} {a : Act} (h1 : a.eval (.tmp 1) = .agg #[.bool false, .bool true, .bool false, .int .i64 0, .int .i64 0, .int .i64 0]) (h2 : a.eval (.tmp 2) = .agg #[.bool false, .bool true, .bool false, .int .i64 0, .int .i64 0, .int .i64 0]) (h3 : a.eval (.tmp 3) = .agg #[.bool false, .bool false, .bool false, .int .i64 0, .int .i64 0, .int .i64 0]) (h4 : a.eval (.tmp 4) = .agg #[.bool false, .bool false, .bool true, .int .i64 0, .int .i64 0, .int .i64 0]) (h5 : a.eval (.tmp 5) = .agg #[.bool false, .bool false, .bool true, .int .i64 0, .int .i64 1, .int .i64 1]) (h6 : a.eval (.tmp 6) = .agg #[.bool false, .bool false, .bool false, .int .i64 0, .int .i64 0, .int .i64 2]) (h7 : a.eval (.tmp 7) = .agg #[.bool false, .bool false, .bool true, .int .i64 1, .int .i64 2, .int .i64 1]) (h8 : a.eval (.tmp 8) = .agg #[.bool false, .bool false, .bool true, .int .i64 0, .int .i64 0, .int .i64 2]) (h9 : a.eval (.tmp 9) = .agg #[.bool false, .bool false, .bool false, .int .i64 0, .int .i64 0, .int .i64 2]) (h10 : a.eval (.tmp 10) = .agg #[.bool false, .bool false, .bool false, .int .i64 0, .int .i64 0, .int .i64 1]) (h11 : a.eval (.tmp 11) = .agg #[.bool false, .bool false, .bool false, .int .i64 0, .int .i64 0, .int .i64 1]) (h12 : a.eval (.tmp 12) = .agg #[.bool false, .bool false, .bool false, .int .i64 0, .int .i64 0, .int .i64 3]) (h13 : a.eval (.tmp 13) = .agg #[.bool true, .bool false, .bool false, .int .i64 0, .int .i64 0, .int .i64 2]) (h14 : a.eval (.tmp 14) = .agg #[.bool false, .bool false, .bool false, .int .i64 (-3), .int .i64 0, .int .i64 (-1)]) (h15 : a.eval (.tmp 15) = .agg #[.bool false, .bool false, .bool true, .int .i64 0, .int .i64 0, .int .i64 1]) (h16 : a.eval (.tmp 16) = .agg #[.bool true, .bool false, .bool false, .int .i64 0, .int .i64 1, .int .i64 1]) (h17 : a.eval (.tmp 17) = .agg #[.bool false, .bool false, .bool false, .int .i64 (-2), .int .i64 0, .int .i64 (-1)]) (h18 : a.eval (.tmp 18) = .agg #[.bool false, .bool false, .bool false, .int .i64 0, .int .i64 1, .int .i64 1]) (h19 : a.eval (.tmp 19) = .agg #[.bool false, .bool false, .bool false, .int .i64 0, .int .i64 0, .int .i64 1]) (h20 : a.eval (.tmp 20) = .agg #[.bool true, .bool false, .bool false, .int .i64 0, .int .i64 0, .int .i64 1]) (h21 : a.eval (.tmp 21) = .agg #[.bool false, .bool false, .bool false, .int .i64 0, .int .i64 1, .int .i64 1]) (h22 : a.eval (.tmp 22) = .agg #[.bool false, .bool false, .bool false, .int .i64 0, .int .i64 2, .int .i64 1]) (h23 : a.eval (.tmp 23) = .agg #[.bool true, .bool false, .bool true, .int .i64 0, .int .i64 0, .int .i64 2]) (h24 : a.eval (.tmp 24) = .agg #[.bool false, .bool false, .bool false, .int .i64 0, .int .i64 1, .int .i64 0]) (h25 : a.eval (.tmp 25) = .agg #[.bool false, .bool false, .bool false, .int .i64 0, .int .i64 0, .int .i64 1]) {dst : Option Tmp} {ty : TypeId} {pos : String} {after : Array Edge} {gd : Option (Nat × Bool)} : (execOp a.eval { dst := dst, op := .build 148 #[(1, .tmp 1), (2, .tmp 2), (3, .tmp 3), (4, .tmp 4), (5, .tmp 5), (6, .tmp 6), (7, .tmp 7), (8, .tmp 8), (9, .tmp 9), (10, .tmp 10), (11, .tmp 11), (12, .tmp 12), (13, .tmp 13), (14, .tmp 14), (15, .tmp 15), (16, .tmp 16), (17, .tmp 17), (18, .tmp 18), (19, .tmp 19), (20, .tmp 20), (21, .tmp 21), (22, .tmp 22), (23, .tmp 23), (24, .tmp 24), (25, .tmp 25)], type := ty, pos := pos, after := after, guard := gd }).run Tryz.prog w = .ok (.value shapesV) w := by
  simp only [execOp, List.map_toArray, List.map_cons, List.map_nil, h1, h2, h3, h4, h5, h6, h7, h8, h9, h10, h11, h12, h13, h14, h15, h16, h17, h18, h19, h20, h21, h22, h23, h24, h25]
  exact run_val (run_build w 148 _ _ (by kernel_rfl))
set_option maxRecDepth 20000 in
theorem shapes_fn : FnR Tryz.prog G0 163 [] (.agg shapesD) := by
  refine fnQ_of_vc txok mixed [] Tryz.func163 rfl rfl (by simp) fun b => ?_
  conv => whnf
  refine valC (.agg (Vx.dL shapesD)) (fun e a w hok => ⟨shapesV, ?_, ?_⟩) ?_
  · have h := shapes_rep (S := e.pub) (w := w)
    simp only [RepD] at h
    obtain ⟨l', h1, h2⟩ := h
    simp only [RepSV]
    exact ⟨l', h1, by rw [dL_map]; exact RepSVs.ofD.1 h2⟩
  · have hv := hok.tmok
    exact bldShapes (e := e) (shp6 (hv (.tmp 1) _ rfl) shpF shpT shpF) (shp6 (hv (.tmp 2) _ rfl) shpF shpT shpF) (shp6 (hv (.tmp 3) _ rfl) shpF shpF shpF) (shp6 (hv (.tmp 4) _ rfl) shpF shpF shpT) (shp6 (hv (.tmp 5) _ rfl) shpF shpF shpT) (shp6 (hv (.tmp 6) _ rfl) shpF shpF shpF) (shp6 (hv (.tmp 7) _ rfl) shpF shpF shpT) (shp6 (hv (.tmp 8) _ rfl) shpF shpF shpT) (shp6 (hv (.tmp 9) _ rfl) shpF shpF shpF) (shp6 (hv (.tmp 10) _ rfl) shpF shpF shpF) (shp6 (hv (.tmp 11) _ rfl) shpF shpF shpF) (shp6 (hv (.tmp 12) _ rfl) shpF shpF shpF) (shp6 (hv (.tmp 13) _ rfl) shpT shpF shpF) (shp6 (hv (.tmp 14) _ rfl) shpF shpF shpF) (shp6 (hv (.tmp 15) _ rfl) shpF shpF shpT) (shp6 (hv (.tmp 16) _ rfl) shpT shpF shpF) (shp6 (hv (.tmp 17) _ rfl) shpF shpF shpF) (shp6 (hv (.tmp 18) _ rfl) shpF shpF shpF) (shp6 (hv (.tmp 19) _ rfl) shpF shpF shpF) (shp6 (hv (.tmp 20) _ rfl) shpT shpF shpF) (shp6 (hv (.tmp 21) _ rfl) shpF shpF shpF) (shp6 (hv (.tmp 22) _ rfl) shpF shpF shpF) (shp6 (hv (.tmp 23) _ rfl) shpT shpF shpT) (shp6 (hv (.tmp 24) _ rfl) shpF shpF shpF) (shp6 (hv (.tmp 25) _ rfl) shpF shpF shpF)
  unfold shapesD shpTab
  conv => whnf
  try exact rfl
end Go.Proofs.YtcjkikadolnfgaaGreat

/- Which terms have the right shape. -/
set_option linter.unusedSimpArgs false
set_option linter.unusedVariables false
namespace Go.Proofs.YtcjkikadolnfgaaGreat
open Go.Vx Go.Vc Go.RowKit

/-- What a node has beside its kind's shape. -/
def badM (s : Shp) (m : MG) : Bool := (!s.n && m.n != 0) || (!s.i && m.i != 0) || (!s.nm && !(m.nm.toList == (⟨#[]⟩ : ByteArray).toList)) || ((m.ts.length : Int) != s.ts) || (decide (s.ks ≥ 0) && (m.ks.length : Int) != s.ks)
def endM (s : Shp) (m : MG) : Bool :=
  if s.ls = -3 then (m.ls.length : Int) == (m.ks.length : Int) && ordS m.ls
  else if s.ls = -2 then (m.ks.length : Int) == (m.ls.length : Int) + 1
  else if (m.ls.length : Int) ≠ s.ls then false
  else if m.k = 2 then m.i == 0 || m.i == 1
  else if m.k = 13 then decide (m.n ≥ 1) && decide (m.n ≤ 6)
  else if m.k = 16 then decide (m.n ≥ 0)
  else true
def shpOf (k : Int) : Shp := shpTab.getD k.toNat ⟨false, false, false, 0, 0, 0⟩
def shpM (m : MG) : Bool := if m.k < 1 ∨ m.k > 25 then false else if badM (shpOf m.k) m = true then false else endM (shpOf m.k) m
abbrev tmS (m : MG) : List Vx.SV := [.d (.int .i64 m.k), .d (.int .i64 m.n), .d (.int .i64 m.i), .d (.str m.nm), .d (dL m.ls), .d (dGs m.ts), .d (dMs m.ks)]
abbrev shS (s : Shp) : List Vx.SV := [.d (.bool s.n), .d (.bool s.i), .d (.bool s.nm), .d (.int .i64 s.ls), .d (.int .i64 s.ts), .d (.int .i64 s.ks)]
theorem shpTab_get (j : Nat) (hj : j < 26) : ((Vx.dL shapesD).drop (j * 6)).take 6 = shS (shpOf (j : Int)) := by
  have hl : j < shpTab.length := hj
  have h := fl_at (f := shpC) (w := 6) (fun _ => rfl) shpTab j hl
  have e : shpOf (j : Int) = shpTab[j] := by
    unfold shpOf
    rw [Int.toNat_natCast, List.getD_eq_getElem?_getD, List.getElem?_eq_getElem hl]; rfl
  rw [e, dL_map, ← List.map_drop, ← List.map_take]
  exact congrArg (List.map Vx.SV.d) h
theorem shpM_mk (k n i : Int) (nm : ByteArray) (ls : List ByteArray) (ts : List TG) (ks : List MG) : shpM (.mk k n i nm ls ts ks) = (if k < 1 ∨ k > 25 then false else if badM (shpOf k) (.mk k n i nm ls ts ks) = true then false else endM (shpOf k) (.mk k n i nm ls ts ks)) := rfl
set_option maxRecDepth 20000 in
theorem termShape_fn (m : MG) : FnR Tryz.prog G0 112 [dM m] (.bool (shpM m)) := by
  obtain ⟨k, n, i, nm, ls, ts, ks⟩ := m
  refine fnQ_sz fun hs0 => ?_
  have hls := (szOk_M hs0.1).2.2.2
  simp only [MG.ls, LB] at hls
  have hw : IntKind.i64.wrap ((ls.length : Int) + 1) = (ls.length : Int) + 1 := Go.Vc.wrap_small (by omega) (by omega)
  clear hs0
  refine fnQ_of_wk (N := 124) txok mixed Tryz.func112 rfl rfl (by simp) fun b => ?_
  refine wk_seq ⟨[(1, .own 0 0)], [(0, .blk 26 (tmS (.mk k n i nm ls ts ks)))], 1⟩ (wk_vc txok mixed [] ?_) ?_
  · conv => whnf
    exact weak_of rfl (by repeat ((conv => whnf); first | exact trivial | refine And.intro rfl ?_ | refine And.intro (incD (by omega)) ?_)) (by repeat ((conv => whnf); first | exact trivial | refine And.intro rfl ?_ | refine And.intro (incD (by omega)) ?_))
  by_cases hr : k < 1 ∨ k > 25
  · rw [shpM_mk, if_pos hr]
    refine wk_seqR (wk_vc txok mixed [] ?_)
    conv => whnf
    refine And.intro (fun h => ?_) (fun h => ?_)
    · have h : ¬ k < 1 := of_decide_eq_false h
      conv => whnf
      refine And.intro (fun h2 => ?_) (fun h2 => ?_)
      · conv => whnf
        try exact rfl
      · exfalso
        have h2 : ¬ k > 25 := by simpa [MG.k] using h2
        omega
    · conv => whnf
      try exact rfl
  rw [shpM_mk, if_neg hr]
  refine wk_seq ⟨[(1, .own 0 0)], [(0, .blk 26 (tmS (.mk k n i nm ls ts ks)))], 1⟩ (wk_vc txok mixed [] ?_) ?_
  · conv => whnf
    refine And.intro (fun h => ?_) (fun h => ?_)
    · conv => whnf
      refine And.intro (fun h2 => ?_) (fun h2 => ?_)
      · exfalso
        have h2 : k > 25 := by simpa [MG.k] using h2
        omega
      · conv => whnf
        exact weak_of rfl (by repeat ((conv => whnf); first | exact trivial | refine And.intro rfl ?_ | refine And.intro (incD (by omega)) ?_)) (by repeat ((conv => whnf); first | exact trivial | refine And.intro rfl ?_ | refine And.intro (incD (by omega)) ?_))
    · exfalso
      have h : k < 1 := of_decide_eq_true h
      omega
  obtain ⟨j, rfl⟩ : ∃ j : Nat, k = (j : Int) := ⟨k.toNat, by omega⟩
  have hj : j < 26 := by omega
  have hget := shpTab_get j hj
  generalize hs : shpOf (j : Int) = s at *
  obtain ⟨s1, s2, s3, s4, s5, s6⟩ := s
  refine wk_seq ⟨[(1, .own 0 0), (3, .own 1 0)], [(0, .blk 26 (tmS (.mk (j : Int) n i nm ls ts ks))), (1, .blk 147 (shS ⟨s1, s2, s3, s4, s5, s6⟩))], 2⟩ (wk_vc txok mixed [(3, .pure 1 (.take 2 (.two 0 4 (.two 3 4 (.run 4 (.fin 5 .done)) (.run 3 (.fin 5 .done))) (.run 0 (.run 3 (.fin 5 .done))))))] ?_) ?_
  · repeat' ((conv => whnf); first
      | refine And.intro (by kernel_rfl) ?_
      | refine And.intro ?_ ?_
      | refine callF shapes_fn gf163 rfl rfl ?_
      | refine idxAA (len := 26) (el := 147) (sz := 6) txok j rfl rfl rfl (by kernel_rfl) hj rfl rfl rfl hget ?_)
    all_goals (try (conv => whnf))
    all_goals exact weak_of rfl (by repeat ((conv => whnf); first | exact trivial | refine And.intro rfl ?_ | refine And.intro (incD (by omega)) ?_)) (by repeat ((conv => whnf); first | exact trivial | refine And.intro rfl ?_ | refine And.intro (incD (by omega)) ?_))
  by_cases hbad : badM ⟨s1, s2, s3, s4, s5, s6⟩ (.mk (j : Int) n i nm ls ts ks) = true
  · rw [if_pos hbad]
    refine wk_seqR (wk_vc txok mixed [] ?_)
    repeat' ((conv => whnf); first | refine And.intro (fun _ => ?_) (fun _ => ?_))
    all_goals (try (conv => whnf))
    all_goals first | exact rfl | (exfalso; clear hget hs; simp_all [badM, MG.n, MG.i, MG.nm, MG.ts, MG.ks]; done)
  rw [if_neg hbad]
  refine wk_seq ⟨[(1, .own 0 0), (3, .own 1 0)], [(0, .blk 26 (tmS (.mk (j : Int) n i nm ls ts ks))), (1, .blk 147 (shS ⟨s1, s2, s3, s4, s5, s6⟩))], 2⟩ (wk_vc txok mixed [] ?_) ?_
  · repeat' ((conv => whnf); first | refine And.intro (fun _ => ?_) (fun _ => ?_))
    all_goals (try (conv => whnf))
    all_goals first | (exact weak_of rfl (by repeat ((conv => whnf); first | exact trivial | refine And.intro rfl ?_ | refine And.intro (incD (by omega)) ?_)) (by repeat ((conv => whnf); first | exact trivial | refine And.intro rfl ?_ | refine And.intro (incD (by omega)) ?_))) | (exfalso; clear hget hs; simp_all [badM, MG.n, MG.i, MG.nm, MG.ts, MG.ks]; done)
  refine wk_vc txok mixed [] ?_
  repeat' ((conv => whnf); first
    | refine And.intro (fun _ => ?_) (fun _ => ?_)
    | refine callF (ordered_fn ls) gf99 rfl rfl ?_)
  all_goals (try (conv => whnf))
  all_goals refine congrArg D.bool ?_
  all_goals (clear hget hs hbad; simp only [MG.k, MG.n, MG.i, MG.nm, MG.ls, MG.ts, MG.ks, beq_iff_eq, beq_eq_false_iff_ne, bne_iff_ne, ne_eq, bne_eq_false_iff_eq, decide_eq_true_eq, decide_eq_false_iff_not, Bool.not_false, Bool.not_true] at *)
  all_goals (unfold endM; first | (simp_all [MG.k, MG.n, MG.i, MG.nm, MG.ls, MG.ts, MG.ks]; done) | (simp_all [MG.k, MG.n, MG.i, MG.nm, MG.ls, MG.ts, MG.ks]; intro h; omega))
/-! ### Everywhere -/
def idxM (p : MG → Bool) : List MG → Int → Int
  | [], _ => -1
  | t :: r, i => if p t then i else idxM p r (i + 1)
theorem idxM_nonneg (p : MG → Bool) : ∀ (l : List MG) (i : Int), 0 ≤ i → (0 ≤ idxM p l i ↔ l.any p = true)
  | [], i, h => by simp [idxM]
  | t :: r, i, h => by
    simp only [idxM, List.any_cons]
    by_cases hp : p t = true
    · rw [if_pos hp, hp]; simp [h]
    · rw [if_neg hp, idxM_nonneg p r (i + 1) (by omega)]; simp [hp]
theorem indexFuncM_fn (f : FuncId) (p : MG → Bool) (l : List MG) (hg : Goes Tryz.prog f) (ih : ∀ t ∈ l, FnR Tryz.prog G0 f [dM t] (.bool (p t))) : FnR Tryz.prog G0 164 [dMs l, .fn f [] []] (.int .i64 (idxM p l 0)) := by
  refine fnQ_sz fun hs => ?_
  have hl := (szOk_sl hs.1).1
  simp only [LB] at hl
  refine fnQ_of_vc txok mixed [] Tryz.func164 rfl rfl (by simp) fun b => ?_
  conv => whnf
  refine loopH (fun i : Nat => i ≤ l.length ∧ idxM p l 0 = idxM p (l.drop i) i) (fun i => l.length - i) (fun i => [(8, .d (.int .i64 i))]) (fun _ => []) 0 0 ⟨by omega, rfl⟩ (weak_of rfl (by repeat ((conv => whnf); first | exact trivial | refine And.intro rfl ?_ | refine And.intro (incD (by omega)) ?_)) (by repeat ((conv => whnf); first | exact trivial | refine And.intro rfl ?_ | refine And.intro (incD (by omega)) ?_))) ?_
  rintro i ⟨hi, hx⟩
  conv => whnf
  refine And.intro (fun hb => ?_) (fun hb => ?_)
  · have hb := of_decide_eq_true hb
    have hil : i < l.length := by omega
    rw [List.drop_eq_getElem_cons hil, idxM] at hx
    conv => whnf
    refine IdxC.encMs i hil rfl ?_
    conv => whnf
    refine callF (ih l[i] (by simp)) hg rfl rfl ?_
    conv => whnf
    refine And.intro (fun he => ?_) (fun he => ?_)
    · conv => whnf
      rw [hx, if_pos he]
    · conv => whnf
      rw [if_neg (by simp [he])] at hx
      exact again (i + 1) (by omega) ⟨by omega, by rw [hx]; rfl⟩ (weak_of rfl (by repeat ((conv => whnf); first | exact trivial | refine And.intro rfl ?_ | refine And.intro (incD (by omega)) ?_)) (by repeat ((conv => whnf); first | exact trivial | refine And.intro rfl ?_ | refine And.intro (incD (by omega)) ?_)))
  · have hb := of_decide_eq_false hb
    conv => whnf
    rw [hx, List.drop_eq_nil_of_le (by omega)]; rfl
theorem containsFuncM_fn (f : FuncId) (p : MG → Bool) (l : List MG) (hg : Goes Tryz.prog f) (ih : ∀ t ∈ l, FnR Tryz.prog G0 f [dM t] (.bool (p t))) : FnR Tryz.prog G0 114 [dMs l, .fn f [] []] (.bool (l.any p)) := by
  refine fnQ_of_vc txok mixed [] Tryz.func114 rfl rfl (by simp) fun b => ?_
  conv => whnf
  refine callF (indexFuncM_fn f p l hg ih) gf164 rfl rfl ?_
  conv => whnf
  refine congrArg D.bool ?_
  rw [Bool.eq_iff_iff, decide_eq_true_iff]
  exact idxM_nonneg p l 0 (by omega)
theorem indexFuncG0_fn (f : FuncId) (p : TG → Bool) (l : List TG) (hg : Goes Tryz.prog f) (ih : ∀ t ∈ l, FnR Tryz.prog G0 f [dG t] (.bool (p t))) : FnR Tryz.prog G0 146 [dGs l, .fn f [] []] (.int .i64 (idxG p l 0)) := by
  refine fnQ_sz fun hs => ?_
  have hl := (szOk_sl hs.1).1
  simp only [LB] at hl
  refine fnQ_of_vc txok mixed [] Tryz.func146 rfl rfl (by simp) fun b => ?_
  conv => whnf
  refine loopH (fun i : Nat => i ≤ l.length ∧ idxG p l 0 = idxG p (l.drop i) i) (fun i => l.length - i) (fun i => [(8, .d (.int .i64 i))]) (fun _ => []) 0 0 ⟨by omega, rfl⟩ (weak_of rfl (by repeat ((conv => whnf); first | exact trivial | refine And.intro rfl ?_ | refine And.intro (incD (by omega)) ?_)) (by repeat ((conv => whnf); first | exact trivial | refine And.intro rfl ?_ | refine And.intro (incD (by omega)) ?_))) ?_
  rintro i ⟨hi, hx⟩
  conv => whnf
  refine And.intro (fun hb => ?_) (fun hb => ?_)
  · have hb := of_decide_eq_true hb
    have hil : i < l.length := by omega
    rw [List.drop_eq_getElem_cons hil, idxG] at hx
    conv => whnf
    refine IdxC.encGs i hil rfl ?_
    conv => whnf
    refine callF (ih l[i] (by simp)) hg rfl rfl ?_
    conv => whnf
    refine And.intro (fun he => ?_) (fun he => ?_)
    · conv => whnf
      rw [hx, if_pos he]
    · conv => whnf
      rw [if_neg (by simp [he])] at hx
      exact again (i + 1) (by omega) ⟨by omega, by rw [hx]; rfl⟩ (weak_of rfl (by repeat ((conv => whnf); first | exact trivial | refine And.intro rfl ?_ | refine And.intro (incD (by omega)) ?_)) (by repeat ((conv => whnf); first | exact trivial | refine And.intro rfl ?_ | refine And.intro (incD (by omega)) ?_)))
  · have hb := of_decide_eq_false hb
    conv => whnf
    rw [hx, List.drop_eq_nil_of_le (by omega)]; rfl
theorem containsFuncG0_fn (f : FuncId) (p : TG → Bool) (l : List TG) (hg : Goes Tryz.prog f) (ih : ∀ t ∈ l, FnR Tryz.prog G0 f [dG t] (.bool (p t))) : FnR Tryz.prog G0 97 [dGs l, .fn f [] []] (.bool (l.any p)) := by
  refine fnQ_of_vc txok mixed [] Tryz.func97 rfl rfl (by simp) fun b => ?_
  conv => whnf
  refine callF (indexFuncG0_fn f p l hg ih) gf146 rfl rfl ?_
  conv => whnf
  refine congrArg D.bool ?_
  rw [Bool.eq_iff_iff, decide_eq_true_iff]
  exact idxG_nonneg p l 0 (by omega)
mutual
/-- Are all nodes, and all types, such as they should be? -/
def allM : MG → Bool
  | .mk k n i nm ls ts ks => shpM (.mk k n i nm ls ts ks) && allGs ts && allMs ks
def allMs : List MG → Bool
  | [] => true
  | t :: r => allM t && allMs r
end
theorem allMs_any : ∀ l : List MG, allMs l = !l.any fun t => !allM t
  | [] => rfl
  | t :: r => by simp only [allMs, List.any_cons, allMs_any r, Bool.not_or, Bool.not_not]
theorem every1_fn (t : TG) : FnR Tryz.prog G0 113 [dG t] (.bool (!allG t)) := by
  refine fnQ_of_vc txok mixed [] Tryz.func113 rfl rfl (by simp) fun b => ?_
  conv => whnf
  refine callF (everyType_fn t) gf57 rfl rfl ?_
  conv => whnf
  try exact rfl
theorem everyTerm_fn : ∀ m : MG, FnR Tryz.prog G0 80 [dM m] (.bool (allM m)) := by
  refine MG.ind fun k n i nm ls ts ks ih => ?_
  have hc : ∀ t ∈ ks, FnR Tryz.prog G0 115 [dM t] (.bool (!allM t)) := by
    intro t ht
    refine fnQ_of_vc txok mixed [] Tryz.func115 rfl rfl (by simp) fun b => ?_
    conv => whnf
    refine callF (ih t ht) gf80 rfl rfl ?_
    conv => whnf
    try exact rfl
  have e : allM (.mk k n i nm ls ts ks) = (shpM (.mk k n i nm ls ts ks) && !(ts.any fun t => !allG t) && !(ks.any fun t => !allM t)) := by rw [allM, allGs_any, allMs_any]
  rw [e]
  refine fnQ_of_vc txok mixed [] Tryz.func80 rfl rfl (by simp) fun b => ?_
  conv => whnf
  refine callF (termShape_fn (.mk k n i nm ls ts ks)) gf112 rfl rfl ?_
  cases shpM (.mk k n i nm ls ts ks)
  · conv => whnf
    refine And.intro (fun h => Bool.noConfusion h) (fun h => ?_)
    conv => whnf
    try rfl
  · conv => whnf
    refine And.intro (fun h => ?_) (fun h => Bool.noConfusion h)
    conv => whnf
    refine callF (containsFuncG0_fn 113 (fun t => !allG t) ts gf113 (fun t _ => every1_fn t)) gf97 rfl rfl ?_
    cases (ts.any fun t => !allG t)
    · conv => whnf
      refine And.intro (fun h => ?_) (fun h => Bool.noConfusion h)
      conv => whnf
      refine callF (containsFuncM_fn 115 (fun t => !allM t) ks gf115 hc) gf114 rfl rfl ?_
      conv => whnf
      try exact rfl
    · conv => whnf
      refine And.intro (fun h => Bool.noConfusion h) (fun h => ?_)
      conv => whnf
      try exact rfl
end Go.Proofs.YtcjkikadolnfgaaGreat

/- How deep a term is; RightTerm. -/
set_option linter.unusedSimpArgs false
set_option linter.unusedVariables false
namespace Go.Proofs.YtcjkikadolnfgaaGreat
open Go.Vx Go.Vc Go.RowKit

mutual
def depM : MG → Nat
  | .mk _ _ _ _ _ ts ks => max (depGs ts) (depMs ks) + 1
def depMs : List MG → Nat
  | [] => 0
  | t :: r => max (depM t) (depMs r)
end
theorem depMs_app : ∀ l m : List MG, depMs (l ++ m) = max (depMs l) (depMs m)
  | [], m => by simp [depMs]
  | t :: r, m => by simp only [List.cons_append, depMs, depMs_app r m]; omega
theorem depMs_take {l : List MG} {i : Nat} (h : i < l.length) : depMs (l.take (i + 1)) = max (depMs (l.take i)) (depM l[i]) := by
  rw [List.take_succ_eq_append_getElem h, depMs_app]; simp [depMs]
set_option maxRecDepth 20000 in
theorem depthTerm_fn : ∀ (m : MG) (at' : Nat), 1 ≤ at' → at' ≤ 100001 → FnR Tryz.prog G0 79 [dM m, .int .i64 at'] (.int .i64 (min (at' + depM m - 1) 100001 : Nat)) := by
  refine MG.ind fun k n i nm ls ts ks ih q hq0 hq => ?_
  refine fnQ_sz fun hs => ?_
  have hl := (szOk_M hs.1).1
  have hl2 := (szOk_M hs.1).2.2.1
  simp only [MG.ks, MG.ts, LB] at hl hl2
  have hd : depM (.mk k n i nm ls ts ks) = max (depGs ts) (depMs ks) + 1 := by simp only [depM]
  rw [hd]
  refine fnQ_of_wk (N := 43) txok mixed Tryz.func79 rfl rfl (by simp) fun b => ?_
  refine wk_seq ⟨[(1, .d (.int .i64 (q : Int))), (2, .own 0 0)], [(0, .blk 26 (tmS (.mk k n i nm ls ts ks)))], 1⟩ (wk_vc txok mixed [] ?_) ?_
  · conv => whnf
    exact weak_of rfl (by repeat ((conv => whnf); first | exact trivial | refine And.intro rfl ?_ | refine And.intro (incD (by omega)) ?_)) (by repeat ((conv => whnf); first | exact trivial | refine And.intro rfl ?_ | refine And.intro (incD (by omega)) ?_))
  by_cases h : q > 100000
  · refine wk_seqR (wk_vc txok mixed [] ?_)
    conv => whnf
    refine And.intro (fun h => ?_) (fun h2 => absurd (of_decide_eq_false h2) (by omega))
    conv => whnf
    rw [show min (q + (max (depGs ts) (depMs ks) + 1) - 1) 100001 = q from by omega]
  refine wk_seq ⟨[(1, .d (.int .i64 (q : Int))), (2, .own 0 0)], [(0, .blk 26 (tmS (.mk k n i nm ls ts ks)))], 1⟩ (wk_vc txok mixed [] ?_) ?_
  · conv => whnf
    refine And.intro (fun h2 => absurd (of_decide_eq_true h2) (by omega)) (fun h => ?_)
    conv => whnf
    exact weak_of rfl (by repeat ((conv => whnf); first | exact trivial | refine And.intro rfl ?_ | refine And.intro (incD (by omega)) ?_)) (by repeat ((conv => whnf); first | exact trivial | refine And.intro rfl ?_ | refine And.intro (incD (by omega)) ?_))
  refine wk_seq ⟨[(5, .d (.int .i64 (q : Int))), (1, .d (.int .i64 (q : Int))), (2, .own 0 0)], [(0, .blk 26 (tmS (.mk k n i nm ls ts ks)))], 1⟩ (wk_vc txok mixed [] ?_) ?_
  · conv => whnf
    exact weak_of rfl (by repeat ((conv => whnf); first | exact trivial | refine And.intro rfl ?_ | refine And.intro (incD (by omega)) ?_)) (by repeat ((conv => whnf); first | exact trivial | refine And.intro rfl ?_ | refine And.intro (incD (by omega)) ?_))
  refine wk_seq ⟨[(5, .d (.int .i64 (min (q + depGs ts) 100001 : Nat))), (1, .d (.int .i64 (q : Int))), (2, .own 0 0)], [(0, .blk 26 (tmS (.mk k n i nm ls ts ks)))], 1⟩ (wk_vc txok mixed [] ?_) ?_
  · conv => whnf
    refine loopH (fun j : Nat => j ≤ ts.length) (fun j => ts.length - j) (fun j => [(17, .d (.int .i64 j)), (5, .d (.int .i64 (min (q + depGs (ts.take j)) 100001 : Nat)))]) (fun _ => [(0, .blk 26 (tmS (.mk k n i nm ls ts ks)))]) 1 0 (by omega) ?_ ?_
    · rw [show min (q + depGs (ts.take 0)) 100001 = q from by simp [depGs]; omega]
      exact weak_of rfl (by repeat ((conv => whnf); first | exact trivial | refine And.intro rfl ?_ | refine And.intro (incD (by omega)) ?_)) (by repeat ((conv => whnf); first | exact trivial | refine And.intro rfl ?_ | refine And.intro (incD (by omega)) ?_))
    intro j hj
    conv => whnf
    refine And.intro (fun hb => ?_) (fun hb => ?_)
    · have hil : j < ts.length := by have := of_decide_eq_true hb; simp only [MG.ts, MG.ks] at this; omega
      have ht := depGs_take hil
      conv => whnf
      refine IdxC.encGs j hil rfl ?_
      conv => whnf
      rw [incD (by omega)]
      refine callF (depthType_fn ts[j] (q + 1) (by omega) (by omega)) gf56 rfl rfl ?_
      conv => whnf
      refine maxC rfl rfl rfl ?_
      conv => whnf
      rw [incD (by omega)]
      refine again (j + 1) (by omega) (by omega) ?_
      rw [ht, show (max ((min (q + depGs (ts.take j)) 100001 : Nat) : Int) ((min (q + 1 + depG ts[j] - 1) 100001 : Nat) : Int)) = ((min (q + max (depGs (ts.take j)) (depG ts[j])) 100001 : Nat) : Int) from by omega]
      exact weak_of rfl (by repeat ((conv => whnf); first | exact trivial | refine And.intro rfl ?_ | refine And.intro (incD (by omega)) ?_)) (by repeat ((conv => whnf); first | exact trivial | refine And.intro rfl ?_ | refine And.intro (incD (by omega)) ?_))
    · have hil : j = ts.length := by have := of_decide_eq_false hb; simp only [MG.ts, MG.ks] at this; omega
      subst hil
      rw [List.take_length]
      conv => whnf
      exact weak_of rfl (by repeat ((conv => whnf); first | exact trivial | refine And.intro rfl ?_ | refine And.intro (incD (by omega)) ?_)) (by repeat ((conv => whnf); first | exact trivial | refine And.intro rfl ?_ | refine And.intro (incD (by omega)) ?_))
  refine wk_seq ⟨[(5, .d (.int .i64 (min (q + max (depGs ts) (depMs ks)) 100001 : Nat))), (1, .d (.int .i64 (q : Int))), (2, .own 0 0)], [(0, .blk 26 (tmS (.mk k n i nm ls ts ks)))], 1⟩ (wk_vc txok mixed [] ?_) ?_
  rotate_left
  · refine wk_vc txok mixed [] ?_
    conv => whnf
    rw [show min (q + (max (depGs ts) (depMs ks) + 1) - 1) 100001 = min (q + max (depGs ts) (depMs ks)) 100001 from by omega]
  conv => whnf
  refine loopH (fun j : Nat => j ≤ ks.length) (fun j => ks.length - j) (fun j => [(31, .d (.int .i64 j)), (5, .d (.int .i64 (min (q + max (depGs ts) (depMs (ks.take j))) 100001 : Nat)))]) (fun _ => [(0, .blk 26 (tmS (.mk k n i nm ls ts ks)))]) 1 0 (by omega) ?_ ?_
  · rw [show max (depGs ts) (depMs (ks.take 0)) = depGs ts from by simp [depMs]]
    exact weak_of rfl (by repeat ((conv => whnf); first | exact trivial | refine And.intro rfl ?_ | refine And.intro (incD (by omega)) ?_)) (by repeat ((conv => whnf); first | exact trivial | refine And.intro rfl ?_ | refine And.intro (incD (by omega)) ?_))
  intro j hj
  conv => whnf
  refine And.intro (fun hb => ?_) (fun hb => ?_)
  · have hil : j < ks.length := by have := of_decide_eq_true hb; simp only [MG.ts, MG.ks] at this; omega
    have ht := depMs_take hil
    conv => whnf
    refine IdxC.encMs j hil rfl ?_
    conv => whnf
    rw [incD (by omega)]
    refine callF (ih ks[j] (by simp) (q + 1) (by omega) (by omega)) gf79 rfl rfl ?_
    conv => whnf
    refine maxC rfl rfl rfl ?_
    conv => whnf
    rw [incD (by omega)]
    refine again (j + 1) (by omega) (by omega) ?_
    rw [ht, show (max ((min (q + max (depGs ts) (depMs (ks.take j))) 100001 : Nat) : Int) ((min (q + 1 + depM ks[j] - 1) 100001 : Nat) : Int)) = ((min (q + max (depGs ts) (max (depMs (ks.take j)) (depM ks[j]))) 100001 : Nat) : Int) from by omega]
    exact weak_of rfl (by repeat ((conv => whnf); first | exact trivial | refine And.intro rfl ?_ | refine And.intro (incD (by omega)) ?_)) (by repeat ((conv => whnf); first | exact trivial | refine And.intro rfl ?_ | refine And.intro (incD (by omega)) ?_))
  · have hil : j = ks.length := by have := of_decide_eq_false hb; simp only [MG.ts, MG.ks] at this; omega
    subst hil
    rw [List.take_length]
    conv => whnf
    exact weak_of rfl (by repeat ((conv => whnf); first | exact trivial | refine And.intro rfl ?_ | refine And.intro (incD (by omega)) ?_)) (by repeat ((conv => whnf); first | exact trivial | refine And.intro rfl ?_ | refine And.intro (incD (by omega)) ?_))
def rightM (m : MG) : Int := if depM m > 100000 then 4 else if allM m then 0 else 1
theorem rightTerm_fn (m : MG) : FnR Tryz.prog G0 40 [dM m] (.int .i64 (rightM m)) := by
  refine fnQ_of_vc txok mixed [] Tryz.func40 rfl rfl (by simp) fun b => ?_
  conv => whnf
  refine callF (depthTerm_fn m 1 (by omega) (by omega)) gf79 rfl rfl ?_
  conv => whnf
  refine And.intro (fun h => ?_) (fun h => ?_)
  · have h : depM m > 100000 := by have := of_decide_eq_true h; omega
    conv => whnf
    rw [rightM, if_pos h]
  have h : ¬ depM m > 100000 := by have := of_decide_eq_false h; omega
  conv => whnf
  refine callF (everyTerm_fn m) gf80 rfl rfl ?_
  conv => whnf
  refine And.intro (fun h2 => ?_) (fun h2 => ?_)
  · conv => whnf
    rw [rightM, if_neg h, if_neg (by simpa using h2)]
  · conv => whnf
    rw [rightM, if_neg h, if_pos (by simpa using h2)]
end Go.Proofs.YtcjkikadolnfgaaGreat

/- Check, Closed, Has, in an empty scope. -/
set_option linter.unusedSimpArgs false
set_option linter.unusedVariables false
namespace Go.Proofs.YtcjkikadolnfgaaGreat
open Go.Vx Go.Vc Go.RowKit

theorem cloneI0_fn : FnR Tryz.prog G0 44 [dI []] (dI []) := by
  refine fnQ_of_vc txok mixed [] Tryz.func44 rfl rfl (by simp) fun b => ?_
  conv => whnf
  intro c hc
  conv => whnf
  refine And.intro (fun h => ?_) (fun h => ?_)
  · conv => whnf
    try exact rfl
  · conv => whnf
    refine appR (i := 0) (sz := 1) (n := 0) (m := 0) (xs := []) (ys := []) txok (fun _ => false) 0 [] rfl rfl rfl (by kernel_rfl) rfl nofun rfl rfl (by decide) ?_
    conv => whnf
    try exact rfl
theorem cloneB0_fn : FnR Tryz.prog G0 45 [dBs []] (dBs []) := by
  refine fnQ_of_vc txok mixed [] Tryz.func45 rfl rfl (by simp) fun b => ?_
  conv => whnf
  intro c hc
  conv => whnf
  refine And.intro (fun h => ?_) (fun h => ?_)
  · conv => whnf
    try exact rfl
  · conv => whnf
    refine appR (i := 0) (sz := 5) (n := 0) (m := 0) (xs := []) (ys := []) txok (fun _ => false) 0 [] rfl rfl rfl (by kernel_rfl) rfl nofun rfl rfl (by decide) ?_
    conv => whnf
    try exact rfl
theorem index0_fn (f : FuncId) : FnR Tryz.prog G0 81 [dBs [], .fn f [] []] (.int .i64 (-1)) := by
  refine fnQ_of_vc txok mixed [] Tryz.func81 rfl rfl (by simp) fun b => ?_
  conv => whnf
  refine loopH (fun i : Nat => i = 0) (fun _ => 0) (fun i => [(8, .d (.int .i64 0))]) (fun _ => []) 0 0 rfl (weak_of rfl (by repeat ((conv => whnf); first | exact trivial | refine And.intro rfl ?_ | refine And.intro (incD (by omega)) ?_)) (by repeat ((conv => whnf); first | exact trivial | refine And.intro rfl ?_ | refine And.intro (incD (by omega)) ?_))) ?_
  rintro i rfl
  conv => whnf
  refine And.intro (fun hb => absurd (of_decide_eq_true hb) (by simp)) (fun hb => ?_)
  conv => whnf
  try exact rfl
theorem contains0_fn (f : FuncId) : FnR Tryz.prog G0 41 [dBs [], .fn f [] []] (.bool false) := by
  refine fnQ_of_vc txok mixed [] Tryz.func41 rfl rfl (by simp) fun b => ?_
  conv => whnf
  refine callF (index0_fn f) gf81 rfl rfl ?_
  conv => whnf
  try exact rfl
theorem check2_fn (m : MG) (c : Chk) (hc : KidOk m c) (hz : szM m ≤ 1073741824) : FnQ Tryz.prog G0 43 [.ptr [dI []] 0, .ptr [dBs []] 0, .ptr (encM m) 0] (fun o => o = resO (c [] [])) := by
  have hK := (hc [] [] (by simp only [List.length_nil]; omega) (by simp only [List.length_nil]; omega) nofun).1
  cases hr : c [] [] with
  | error e =>
    rw [hr] at hK
    refine fnQ_of_vc txok mixed [(1, .take 0 (.take 2 (.take 5 (.run 1 (.run 3 (.pure 4 (.fin 6 (.fin 7 .done))))))))] Tryz.func43 rfl rfl (by simp) fun bb => ?_
    repeat' ((conv => whnf); first
      | refine And.intro (by kernel_rfl) ?_
      | refine And.intro ?_ ?_
      | refine callF cloneI0_fn gf44 rfl rfl ?_
      | refine callF cloneB0_fn gf45 rfl rfl ?_
      | (refine callQ rfl rfl gf46 hK ?_; rintro o rfl))
    all_goals (try (conv => whnf))
    all_goals (try exact rfl)
  | ok t =>
    rw [hr] at hK
    refine fnQ_of_vc txok mixed [(1, .take 0 (.take 2 (.take 5 (.run 1 (.run 3 (.pure 4 (.fin 6 (.fin 7 .done))))))))] Tryz.func43 rfl rfl (by simp) fun bb => ?_
    repeat' ((conv => whnf); first
      | refine And.intro (by kernel_rfl) ?_
      | refine And.intro ?_ ?_
      | refine callF cloneI0_fn gf44 rfl rfl ?_
      | refine callF cloneB0_fn gf45 rfl rfl ?_
      | (refine callQ rfl rfl gf46 hK ?_; rintro o rfl))
    all_goals (try (conv => whnf))
    all_goals (try exact rfl)
/-- A closed term's type. -/
def closedR (m : MG) (c : Chk) : Except Int TG := if rightM m = 0 then c [] [] else .error (rightM m)
theorem check_fn (m : MG) (c : Chk) (hc : rightM m = 0 → KidOk m c) (hz : szM m ≤ 1073741824) : FnR Tryz.prog G0 18 [dM m, dI [], dBs []] (outE (closedR m c)) := by
  have hR := rightTerm_fn m
  unfold closedR
  by_cases h : rightM m = 0
  · rw [if_pos h]
    rw [h] at hR
    have hU := caught_out gf43 (check2_fn m c (hc h) hz) (by
      cases c [] [] with
      | ok w => exact .inl ⟨w, rfl⟩
      | error e => exact .inr ⟨e, rfl⟩)
    rw [caughtOut_res] at hU
    cases hr : c [] [] with
    | ok w =>
      rw [hr] at hU
      obtain ⟨k1, n1, l1, m1⟩ := w
      refine fnQ_of_vc txok mixed [] Tryz.func18 rfl rfl (by simp) fun b => ?_
      conv => whnf
      refine callF hR gf40 rfl rfl ?_
      conv => whnf
      refine And.intro (fun h => absurd h (by decide)) (fun h => ?_)
      conv => whnf
      refine callF (contains0_fn 42) gf41 rfl rfl ?_
      conv => whnf
      refine And.intro (fun h => Bool.noConfusion h) (fun h => ?_)
      conv => whnf
      refine pubC (fun i => Nat.ble i 2) ?_
      conv => whnf
      refine callF hU gf27 rfl rfl ?_
      conv => whnf
      try exact rfl
    | error e =>
      rw [hr] at hU
      refine fnQ_of_vc txok mixed [] Tryz.func18 rfl rfl (by simp) fun b => ?_
      conv => whnf
      refine callF hR gf40 rfl rfl ?_
      conv => whnf
      refine And.intro (fun h => absurd h (by decide)) (fun h => ?_)
      conv => whnf
      refine callF (contains0_fn 42) gf41 rfl rfl ?_
      conv => whnf
      refine And.intro (fun h => Bool.noConfusion h) (fun h => ?_)
      conv => whnf
      refine pubC (fun i => Nat.ble i 2) ?_
      conv => whnf
      refine callF hU gf27 rfl rfl ?_
      conv => whnf
      try exact rfl
  · rw [if_neg h]
    refine fnQ_of_vc txok mixed [] Tryz.func18 rfl rfl (by simp) fun b => ?_
    conv => whnf
    refine callF hR gf40 rfl rfl ?_
    conv => whnf
    refine And.intro (fun h2 => ?_) (fun h2 => absurd (by simpa using h2) h)
    conv => whnf
    try exact rfl
theorem closed_fn (m : MG) (c : Chk) (hc : rightM m = 0 → KidOk m c) (hz : szM m ≤ 1073741824) : FnR Tryz.prog G0 6 [dM m] (outE (closedR m c)) := by
  have hC := check_fn m c hc hz
  cases hr : closedR m c with
  | ok w =>
    rw [hr] at hC
    obtain ⟨k1, n1, l1, m1⟩ := w
    refine fnQ_of_vc txok mixed [] Tryz.func6 rfl rfl (by simp) fun b => ?_
    conv => whnf
    refine callF hC gf18 rfl rfl ?_
    conv => whnf
    try exact rfl
  | error e =>
    rw [hr] at hC
    refine fnQ_of_vc txok mixed [] Tryz.func6 rfl rfl (by simp) fun b => ?_
    conv => whnf
    refine callF hC gf18 rfl rfl ?_
    conv => whnf
    try exact rfl
/-- Has a closed term a type? -/
def hasR (r : Except Int TG) (t : TG) : Int := match r with
  | .ok u => if samG u t [] [] = true then 0 else 30
  | .error e => e
theorem has_fn (m : MG) (c : Chk) (t : TG) (hc : rightM m = 0 → KidOk m c) (hz : szM m ≤ 1073741824) (hg : ∀ u, closedR m c = .ok u → szG u ≤ 1048576) (he : ∀ e, closedR m c = .error e → e ≠ 0) : FnR Tryz.prog G0 8 [dM m, dG t] (.int .i64 (hasR (closedR m c) t)) := by
  have hC := closed_fn m c hc hz
  cases hr : closedR m c with
  | ok w =>
    rw [hr] at hC
    have hS := sameTop_fn w t (by have := hg w hr; omega)
    unfold hasR
    simp only
    cases hs : samG w t [] []
    · rw [hs] at hS
      obtain ⟨k1, n1, l1, m1⟩ := w
      refine fnQ_of_vc txok mixed [] Tryz.func8 rfl rfl (by simp) fun b => ?_
      conv => whnf
      refine callF hC gf6 rfl rfl ?_
      conv => whnf
      refine And.intro (fun h => ?_) (fun h => absurd h (by decide))
      conv => whnf
      refine callF hS gf19 rfl rfl ?_
      conv => whnf
      refine And.intro (fun h => ?_) (fun h => absurd h (by decide))
      conv => whnf
      try exact rfl
    · rw [hs] at hS
      obtain ⟨k1, n1, l1, m1⟩ := w
      refine fnQ_of_vc txok mixed [] Tryz.func8 rfl rfl (by simp) fun b => ?_
      conv => whnf
      refine callF hC gf6 rfl rfl ?_
      conv => whnf
      refine And.intro (fun h => ?_) (fun h => absurd h (by decide))
      conv => whnf
      refine callF hS gf19 rfl rfl ?_
      conv => whnf
      refine And.intro (fun h => absurd h (by decide)) (fun h => ?_)
      conv => whnf
      try exact rfl
  | error e =>
    rw [hr] at hC
    have he := he e hr
    refine fnQ_of_vc txok mixed [] Tryz.func8 rfl rfl (by simp) fun b => ?_
    conv => whnf
    refine callF hC gf6 rfl rfl ?_
    conv => whnf
    refine And.intro (fun h => absurd (by simpa using h) he) (fun h => ?_)
    conv => whnf
    try rfl
end Go.Proofs.YtcjkikadolnfgaaGreat

/- Rules: lam all (printed by gzw.py). -/
set_option linter.unusedSimpArgs false
set_option linter.unusedVariables false
namespace Go.Proofs.YtcjkikadolnfgaaGreat
open Go.Vx Go.Vc Go.RowKit

set_option maxRecDepth 20000 in
set_option maxHeartbeats 2000000 in
theorem lamW_fn (vars : List Int) (l : List Bd) (n i : Int) (nm : ByteArray) (ls : List ByteArray) (a : TG) (u : MG) (cu : Chk) (hcu : KidOk u cu) (hv : vars.length + szM (.mk 5 n i nm ls [a] [u]) ≤ 549755813888) (hl : l.length + 2 * szM (.mk 5 n i nm ls [a] [u]) ≤ 549755813888) (hz : szM (.mk 5 n i nm ls [a] [u]) ≤ 1073741824) (hb : Bnd l) : FnQ Tryz.prog G0 118 [dSc vars l, dM (.mk 5 n i nm ls [a] [u])] (fun o => o = resO ((lamR nm a cu) vars l)) := by
  simp only [szM, szMs, szGs] at hv hl hz
  unfold lamR
  try simp only []
  have hH0 := here_fn vars l a (by omega)
  unfold hereR at hH0
  cases hi0 : insG a vars with
  | false =>
    rw [hi0] at hH0
    refine fnQ_of_vc txok mixed [(1, .take 0 (.pure 1 (.take 2 (.pure 3 (.take 4 (.two 5 6 (.run 6 (.fin 7 .done)) (.fin 5 (.fin 7 .done)))))))), (2, .take 0 (.take 1 (.pure 2 (.take 3 (.take 4 (.pure 6 (.take 7 (.pure 8 (.take 9 (.run 5 (.run 10 (.fin 11 (.fin 12 (.fin 13 .done))))))))))))))] Tryz.func118 rfl rfl (by simp) fun b => ?_
    repeat' ((conv => whnf); first
      | refine And.intro (by kernel_rfl) ?_
      | refine And.intro ?_ ?_
      | refine IdxC.encGs (l := [a]) 0 (by simp) rfl ?_
      | refine IdxC.encMs (l := [u]) 0 (by simp) rfl ?_
      | (refine callQ rfl rfl gf168 hH0 ?_; rintro o rfl)
      | intro _)
    all_goals (try (conv => whnf))
    all_goals (try exact rfl)
    all_goals (exfalso; simp_all; done)
  | true =>
  rw [hi0] at hH0
  have haa := ins_all hi0
  have hW2 := with_fn (vars) (l) nm a (by (try simp only [List.length_append, List.length_cons, List.length_nil]); omega)
  have hK4 := hcu (vars) (l ++ [(nm, a)]) (by (try simp only [List.length_append, List.length_cons, List.length_nil]); omega) (by (try simp only [List.length_append, List.length_cons, List.length_nil]); omega) (hb.snoc haa (by omega))
  obtain ⟨hK4, hK4G⟩ := hK4
  cases hr4 : cu (vars) (l ++ [(nm, a)]) with
  | error e =>
    rw [hr4] at hK4
    refine fnQ_of_vc txok mixed [(1, .take 0 (.pure 1 (.take 2 (.pure 3 (.take 4 (.two 5 6 (.run 6 (.fin 7 .done)) (.fin 5 (.fin 7 .done)))))))), (2, .take 0 (.take 1 (.pure 2 (.take 3 (.take 4 (.pure 6 (.take 7 (.pure 8 (.take 9 (.run 5 (.run 10 (.fin 11 (.fin 12 (.fin 13 .done))))))))))))))] Tryz.func118 rfl rfl (by simp) fun b => ?_
    repeat' ((conv => whnf); first
      | refine And.intro (by kernel_rfl) ?_
      | refine And.intro ?_ ?_
      | refine IdxC.encGs (l := [a]) 0 (by simp) rfl ?_
      | refine IdxC.encMs (l := [u]) 0 (by simp) rfl ?_
      | (refine callQ rfl rfl gf168 hH0 ?_; rintro o rfl)
      | refine callF hW2 gf169 rfl rfl ?_
      | (refine callQ rfl rfl gf46 hK4 ?_; rintro o rfl)
      | intro _)
    all_goals (try (conv => whnf))
    all_goals (try exact rfl)
    all_goals (exfalso; simp_all; done)
  | ok t =>
  rw [hr4] at hK4
  obtain ⟨hat, hzt⟩ := hK4G t hr4
  obtain ⟨ka, na, lsa, la⟩ := a
  obtain ⟨kt, nt, lst, lt⟩ := t
  refine fnQ_of_vc txok mixed [(1, .take 0 (.pure 1 (.take 2 (.pure 3 (.take 4 (.two 5 6 (.run 6 (.fin 7 .done)) (.fin 5 (.fin 7 .done)))))))), (2, .take 0 (.take 1 (.pure 2 (.take 3 (.take 4 (.pure 6 (.take 7 (.pure 8 (.take 9 (.run 5 (.run 10 (.fin 11 (.fin 12 (.fin 13 .done))))))))))))))] Tryz.func118 rfl rfl (by simp) fun b => ?_
  repeat' ((conv => whnf); first
    | refine And.intro (by kernel_rfl) ?_
    | refine And.intro ?_ ?_
    | refine IdxC.encGs (l := [(.mk ka na lsa la)]) 0 (by simp) rfl ?_
    | refine IdxC.encMs (l := [u]) 0 (by simp) rfl ?_
    | (refine callQ rfl rfl gf168 hH0 ?_; rintro o rfl)
    | refine callF hW2 gf169 rfl rfl ?_
    | (refine callQ rfl rfl gf46 hK4 ?_; rintro o rfl)
    | (refine pubC (fun i => Nat.beq i 4) ?_; (conv => whnf); refine callF (node_fn 4 [.mk ka na lsa la, .mk kt nt lst lt]) gf165 rfl rfl ?_)
    | intro _)
  all_goals (try (conv => whnf))
  all_goals (try exact rfl)
  all_goals (exfalso; simp_all; done)
set_option maxRecDepth 20000 in
set_option maxHeartbeats 2000000 in
theorem allW_fn (vars : List Int) (l : List Bd) (n i : Int) (nm : ByteArray) (ls : List ByteArray) (u : MG) (cu : Chk) (hcu : KidOk u cu) (hv : vars.length + szM (.mk 20 n i nm ls [] [u]) ≤ 549755813888) (hl : l.length + 2 * szM (.mk 20 n i nm ls [] [u]) ≤ 549755813888) (hz : szM (.mk 20 n i nm ls [] [u]) ≤ 1073741824) (hb : Bnd l) : FnQ Tryz.prog G0 132 [dSc vars l, dM (.mk 20 n i nm ls [] [u])] (fun o => o = resO ((allR n cu) vars l)) := by
  simp only [szM, szMs, szGs] at hv hl hz
  unfold allR
  try simp only []
  have hO0 := open_fn (vars) (l) n (by omega)
  by_cases hm0 : n ∈ vars
  · rw [if_pos hm0] at hO0 ⊢
    refine fnQ_of_vc txok mixed [(1, .pure 0 (.take 1 (.take 2 (.pure 3 (.take 4 (.pure 6 (.take 7 (.pure 8 (.take 9 (.run 5 (.run 10 (.run 11 (.run 12 (.fin 13 .done))))))))))))))] Tryz.func132 rfl rfl (by simp) fun b => ?_
    repeat' ((conv => whnf); first
      | refine And.intro (by kernel_rfl) ?_
      | refine And.intro ?_ ?_
      | refine IdxC.encMs (l := [u]) 0 (by simp) rfl ?_
      | (refine callQ rfl rfl gf173 hO0 ?_; rintro o rfl)
      | intro _)
    all_goals (try (conv => whnf))
    all_goals (try exact rfl)
    all_goals (exfalso; simp_all; done)
  rw [if_neg hm0] at hO0 ⊢
  have hK2 := hcu (vars ++ [n]) (l) (by (try simp only [List.length_append, List.length_cons, List.length_nil]); omega) (by (try simp only [List.length_append, List.length_cons, List.length_nil]); omega) (hb)
  obtain ⟨hK2, hK2G⟩ := hK2
  cases hr2 : cu (vars ++ [n]) (l) with
  | error e =>
    rw [hr2] at hK2
    refine fnQ_of_vc txok mixed [(1, .pure 0 (.take 1 (.take 2 (.pure 3 (.take 4 (.pure 6 (.take 7 (.pure 8 (.take 9 (.run 5 (.run 10 (.run 11 (.run 12 (.fin 13 .done))))))))))))))] Tryz.func132 rfl rfl (by simp) fun b => ?_
    repeat' ((conv => whnf); first
      | refine And.intro (by kernel_rfl) ?_
      | refine And.intro ?_ ?_
      | refine IdxC.encMs (l := [u]) 0 (by simp) rfl ?_
      | (refine callQ rfl rfl gf173 hO0 ?_; rintro o rfl)
      | (refine callQ rfl rfl gf46 hK2 ?_; rintro o rfl)
      | intro _)
    all_goals (try (conv => whnf))
    all_goals (try exact rfl)
    all_goals (exfalso; simp_all; done)
  | ok t =>
  rw [hr2] at hK2
  obtain ⟨hat, hzt⟩ := hK2G t hr2
  obtain ⟨kt, nt, lst, lt⟩ := t
  refine fnQ_of_vc txok mixed [(1, .pure 0 (.take 1 (.take 2 (.pure 3 (.take 4 (.pure 6 (.take 7 (.pure 8 (.take 9 (.run 5 (.run 10 (.run 11 (.run 12 (.fin 13 .done))))))))))))))] Tryz.func132 rfl rfl (by simp) fun b => ?_
  repeat' ((conv => whnf); first
    | refine And.intro (by kernel_rfl) ?_
    | refine And.intro ?_ ?_
    | refine IdxC.encMs (l := [u]) 0 (by simp) rfl ?_
    | (refine callQ rfl rfl gf173 hO0 ?_; rintro o rfl)
    | (refine callQ rfl rfl gf46 hK2 ?_; rintro o rfl)
    | intro _)
  all_goals (try (conv => whnf))
  all_goals (try exact rfl)
  all_goals (exfalso; simp_all; done)
end Go.Proofs.YtcjkikadolnfgaaGreat

/- Parts of terms: names, functions, alls. -/
set_option linter.unusedSimpArgs false
set_option linter.unusedVariables false
namespace Go.Proofs.YtcjkikadolnfgaaGreat
open Go.Vx Go.Vc Go.RowKit

theorem good_fit {r : Except Int TG} (h : ∀ t, r = .ok t → allG t = true) : Good (fitE r) := by
  intro t ht
  cases r with
  | error e => cases ht
  | ok u =>
    have ht : fitR u = .ok t := ht
    unfold fitR at ht
    split at ht
    · injection ht with ht; subst ht
      exact ⟨h u rfl, by assumption⟩
    · cases ht
/-- A term whose rule is known. -/
theorem kid_of (m : MG) (c : Chk) (j : Nat) (f : FuncId) (hk : m.k = (j : Int)) (hj : rulesD[j]? = some (.fn f [] [])) (hg : Goes Tryz.prog f)
    (h : ∀ vars l, vars.length + szM m ≤ 549755813888 → l.length + 2 * szM m ≤ 549755813888 → Bnd l → FnQ Tryz.prog G0 f [dSc vars l, dM m] (fun o => o = resO (c vars l)) ∧ ∀ t, c vars l = .ok t → allG t = true ∧ szG t ≤ 2147483648) : KidOk m (fun vars l => fitE (c vars l)) := by
  intro vars l hv hl hb
  obtain ⟨h1, h2⟩ := h vars l hv hl hb
  exact ⟨of_fn vars l m (c vars l) j f hk hj hg h1 (fun t ht => by have := (h2 t ht).2; omega), good_fit fun t ht => (h2 t ht).1⟩
theorem look_ok {l : List Bd} {nm : ByteArray} {t : TG} (h : lookR l nm = .ok t) : ∃ x ∈ l, x.2 = t := by
  unfold lookR at h
  split at h
  · rename_i b hb
    injection h with h
    exact ⟨b, by have := List.mem_of_find?_eq_some hb; simpa using this, h⟩
  · cases h
theorem kid_var (n i : Int) (nm : ByteArray) (ls : List ByteArray) (ts : List TG) (ks : List MG) : KidOk (.mk 4 n i nm ls ts ks) (fun _ l => fitE (lookR l nm)) :=
  kid_of (.mk 4 n i nm ls ts ks) (fun _ l => lookR l nm) 4 117 rfl rfl gf117 fun vars l _ _ hb => ⟨name_fn vars l _, fun t ht => by
    obtain ⟨x, hx, rfl⟩ := look_ok ht
    have := hb x hx
    exact ⟨this.1, by omega⟩⟩
theorem kid_lam (n i : Int) (nm : ByteArray) (ls : List ByteArray) (a : TG) (u : MG) (c : Chk) (hc : KidOk u c) (hz : szM (.mk 5 n i nm ls [a] [u]) ≤ 1073741824) : KidOk (.mk 5 n i nm ls [a] [u]) (fun vars l => fitE (lamR nm a c vars l)) :=
  kid_of _ (lamR nm a c) 5 118 rfl rfl gf118 fun vars l hv hl hb => ⟨lamW_fn vars l n i nm ls a u c hc hv hl hz hb, fun t ht => by
    unfold lamR at ht
    cases hi : insG a vars with
    | false => rw [hi] at ht; cases ht
    | true =>
      rw [hi] at ht
      have ha := ins_all hi
      simp only [szM, szMs, szGs] at hv hl hz
      have hG := (hc vars (l ++ [(nm, a)]) (by omega) (by simp only [List.length_append, List.length_cons, List.length_nil]; omega) (hb.snoc ha (by omega))).2
      cases hr : c vars (l ++ [(nm, a)]) with
      | error e => rw [hr] at ht; cases ht
      | ok v =>
        rw [hr] at ht
        obtain ⟨h1, h2⟩ := hG v hr
        have ht : Except.ok (TG.mk 4 0 [] [a, v]) = .ok t := ht
        injection ht with ht; subst ht
        refine ⟨(allG_mk ..).2 ⟨rfl, ?_⟩, ?_⟩
        · intro x hx
          simp only [List.mem_cons, List.not_mem_nil, or_false] at hx
          rcases hx with rfl | rfl <;> assumption
        · simp only [szG, szGs]; omega⟩
theorem kid_all (n i : Int) (nm : ByteArray) (ls : List ByteArray) (u : MG) (c : Chk) (hc : KidOk u c) (hz : szM (.mk 20 n i nm ls [] [u]) ≤ 1073741824) : KidOk (.mk 20 n i nm ls [] [u]) (fun vars l => fitE (allR n c vars l)) :=
  kid_of _ (allR n c) 20 132 rfl rfl gf132 fun vars l hv hl hb => ⟨allW_fn vars l n i nm ls u c hc hv hl hz hb, fun t ht => by
    unfold allR at ht
    split at ht
    · cases ht
    · simp only [szM, szMs, szGs] at hv hl hz
      have hG := (hc (vars ++ [n]) l (by simp only [List.length_append, List.length_cons, List.length_nil]; omega) (by omega) hb).2
      cases hr : c (vars ++ [n]) l with
      | error e => rw [hr] at ht; cases ht
      | ok v =>
        rw [hr] at ht
        obtain ⟨h1, h2⟩ := hG v hr
        have ht : Except.ok (TG.mk 10 n [] [v]) = .ok t := ht
        injection ht with ht; subst ht
        refine ⟨(allG_mk ..).2 ⟨rfl, ?_⟩, ?_⟩
        · intro x hx
          simp only [List.mem_cons, List.not_mem_nil, or_false] at hx
          rcases hx with rfl; assumption
        · simp only [szG, szGs]; omega⟩
end Go.Proofs.YtcjkikadolnfgaaGreat

/- alive. -/
set_option linter.unusedSimpArgs false
set_option linter.unusedVariables false
namespace Go.Proofs.YtcjkikadolnfgaaGreat
open Go.Vx Go.Vc Go.RowKit

abbrev nx : ByteArray := ⟨#[120]⟩
abbrev nz : ByteArray := ⟨#[122]⟩
abbrev n0 : ByteArray := ⟨#[]⟩
abbrev xM : MG := .mk 4 0 0 nx [] [] []
abbrev zM : MG := .mk 4 0 0 nz [] [] []
abbrev lamM : MG := .mk 5 0 0 nx [] [varG 1] [xM]
abbrev idM : MG := .mk 20 1 0 n0 [] [] [lamM]
abbrev fnT : TG := .mk 4 0 [] [varG 1, varG 1]
abbrev wantT : TG := .mk 10 1 [] [fnT]
abbrev cX : Chk := fun _ l => fitE (lookR l nx)
abbrev cZ : Chk := fun _ l => fitE (lookR l nz)
abbrev cL : Chk := fun vars l => fitE (lamR nx (varG 1) cX vars l)
abbrev cI : Chk := fun vars l => fitE (allR 1 cL vars l)
theorem rightX : rightM zM = 0 := by rfl
theorem rightI : rightM idM = 0 := by
  have h1 : shpM idM = true := by simp [shpM_mk, badM, endM, shpOf, shpTab, MG.k, MG.n, MG.i, MG.nm, MG.ls, MG.ts, MG.ks]
  have h2 : shpM lamM = true := rfl
  have h3 : shpM xM = true := rfl
  unfold rightM
  have e3 : allM (.mk 4 0 0 nx [] [] []) = true := by rw [allM, allGs, allMs, h3]; rfl
  have e2 : allM (.mk 5 0 0 nx [] [varG 1] [xM]) = true := by rw [allM, allGs, allMs, h2, e3, allG_var, allGs, allMs]; rfl
  have e1 : allM (.mk 20 1 0 n0 [] [] [lamM]) = true := by rw [allM, allGs, allMs, h1, e2, allMs]; rfl
  rw [if_neg (by simp [depM, depMs, depGs, depG, varG]), if_pos e1]
theorem rightV (m : Int) : rightG (varG m) = 0 := by
  unfold rightG
  rw [if_neg (by simp [depG, depGs, varG]), if_pos (allG_var m)]
theorem freeV (m x : Int) : x ∈ freeS (varG m) ↔ x = m := by rw [mem_freeS, fv_var]
theorem ins1 : insG (varG 1) [1] = true := by
  unfold insG
  rw [rightV]
  have : ((freeS (varG 1)).any fun n => !decide (n ∈ [1])) = false := by
    rw [List.any_eq_false]
    intro x hx
    rw [freeV] at hx
    subst hx
    decide
  rw [this]
  rfl
theorem ins0 : insG (varG 1) [] = false := by
  unfold insG
  have : ((freeS (varG 1)).any fun n => !decide (n ∈ ([] : List Int))) = true := by
    rw [List.any_eq_true]
    exact ⟨1, (freeV 1 1).2 rfl, by decide⟩
  rw [this, Bool.not_true, Bool.and_false]
theorem closedZ : closedR zM cZ = .error 30 := by unfold closedR; rw [if_pos rightX]; rfl
theorem closedI : closedR idM cI = .ok wantT := by
  unfold closedR
  rw [if_pos rightI]
  show fitE (allR 1 cL [] []) = _
  unfold allR
  rw [if_neg nofun]
  have e : cL ([] ++ [1]) [] = .ok fnT := by
    show fitE (lamR nx (varG 1) cX [1] []) = _
    unfold lamR
    rw [ins1]
    rfl
  rw [e]
  rfl
theorem samW : samG wantT wantT [] [] = true := by rfl
theorem samV : samG wantT (varG 1) [] [] = false := by rfl
theorem kidI : KidOk idM cI := kid_all 1 0 n0 [] lamM cL (kid_lam 0 0 nx [] (varG 1) xM cX (kid_var 0 0 nx [] [] []) (by decide)) (by decide)
theorem kidZ : KidOk zM cZ := kid_var 0 0 nz [] [] []
theorem v_fn (n : Int) : FnR Tryz.prog G0 23 [.int .i64 n] (dG (varG n)) := by
  refine fnQ_of_vc txok mixed [] Tryz.func23 rfl rfl (by simp) fun b => ?_
  conv => whnf
  try exact rfl
theorem lfn_fn (a c : TG) : FnR Tryz.prog G0 25 [dG a, dG c] (dG (.mk 4 0 [] [a, c])) := by
  obtain ⟨k1, n1, l1, m1⟩ := a
  obtain ⟨k2, n2, l2, m2⟩ := c
  refine fnQ_of_vc txok mixed [] Tryz.func25 rfl rfl (by simp) fun b => ?_
  conv => whnf
  try exact rfl
theorem variable_fn (nm : ByteArray) : FnR Tryz.prog G0 24 [.str nm] (dM (.mk 4 0 0 nm [] [] [])) := by
  refine fnQ_of_vc txok mixed [] Tryz.func24 rfl rfl (by simp) fun b => ?_
  conv => whnf
  try exact rfl
theorem llam_fn (nm : ByteArray) (a : TG) (u : MG) : FnR Tryz.prog G0 22 [.str nm, dG a, dM u] (dM (.mk 5 0 0 nm [] [a] [u])) := by
  obtain ⟨k1, n1, l1, m1⟩ := a
  obtain ⟨k, n, i, nm2, ls, ts, ks⟩ := u
  refine fnQ_of_vc txok mixed [] Tryz.func22 rfl rfl (by simp) fun b => ?_
  conv => whnf
  try exact rfl
end Go.Proofs.YtcjkikadolnfgaaGreat

/- alive: walked. -/
set_option linter.unusedSimpArgs false
set_option linter.unusedVariables false
namespace Go.Proofs.YtcjkikadolnfgaaGreat
open Go.Vx Go.Vc Go.RowKit

set_option maxRecDepth 20000 in
set_option maxHeartbeats 2000000 in
theorem alive_fn : FnR Tryz.prog G0 11 [] (.bool true) := by
  have hg : ∀ u, closedR idM cI = .ok u → szG u ≤ 1048576 := fun u h => by
    rw [closedI] at h; injection h with h; subst h; simp [szG, szGs, varG]
  have he : ∀ e, closedR idM cI = .error e → e ≠ 0 := fun e h => by rw [closedI] at h; cases h
  have hC := closed_fn idM cI (fun _ => kidI) (by decide)
  have hZ := closed_fn zM cZ (fun _ => kidZ) (by decide)
  have hH1 := has_fn idM cI wantT (fun _ => kidI) (by decide) hg he
  have hH2 := has_fn idM cI (varG 1) (fun _ => kidI) (by decide) hg he
  rw [closedI] at hC hH1 hH2
  rw [closedZ] at hZ
  unfold hasR at hH1 hH2
  simp only at hH1 hH2
  rw [samW, if_pos rfl] at hH1
  rw [samV, if_neg (by decide)] at hH2
  have hS := rsameTop_fn wantT wantT (by decide)
  rw [samW] at hS
  have hI1 := inScope_fn (varG 1) [1] (by decide)
  have hI0 := inScope_fn (varG 1) [] (by decide)
  rw [ins1] at hI1
  rw [ins0] at hI0
  have hV := v_fn 1
  refine fnQ_of_vc txok mixed [(5, .pure 0 (.pure 1 (.pure 2 (.take 3 (.take 4 (.run 5 (.pure 6 (.pure 7 (.pure 8 (.pure 9 (.pure 10 (.pure 11 (.take 12 (.take 13 (.run 14 (.pure 15 (.pure 16 (.pure 17 (.take 18 (.run 19 (.run 20 (.pure 21 (.pure 22 (.pure 23 (.two 24 25 (.run 25 (.run 26 (.pure 27 (.pure 28 (.run 29 (.run 30 (.pure 31 (.pure 32 (.pure 33 .done))))))))) (.run 24 (.run 26 (.pure 27 (.pure 28 (.run 29 (.run 30 (.pure 31 (.pure 32 (.pure 33 .done))))))))))))))))))))))))))))))))))] Tryz.func11 rfl rfl (by simp) fun b => ?_
  repeat' ((conv => whnf); first
    | refine And.intro (by kernel_rfl) ?_
    | refine And.intro (fun h => ?_) (fun h => absurd h (by decide))
    | refine And.intro (fun h => absurd h (by decide)) (fun h => ?_)
    | refine And.intro ?_ ?_
    | refine callF hV gf23 rfl rfl ?_
    | refine callF (variable_fn nx) gf24 rfl rfl ?_
    | refine callF (variable_fn nz) gf24 rfl rfl ?_
    | refine callF (llam_fn nx (varG 1) xM) gf22 rfl rfl ?_
    | refine callF (lfn_fn (varG 1) (varG 1)) gf25 rfl rfl ?_
    | (refine pubC (fun i => Nat.beq i 0) ?_; (conv => whnf); refine callF hC gf6 rfl rfl ?_)
    | (refine pubC (fun i => Nat.beq i 3) ?_; (conv => whnf); refine callF hZ gf6 rfl rfl ?_)
    | refine callF hS gf10 rfl rfl ?_
    | refine callF hH1 gf8 rfl rfl ?_
    | refine callF hH2 gf8 rfl rfl ?_
    | refine callF hI0 gf14 rfl rfl ?_
    | (refine pubC (fun i => Nat.beq i 6) ?_; (conv => whnf); refine callF hI1 gf14 rfl rfl ?_))
  all_goals (try (conv => whnf))
  all_goals (try exact rfl)
  all_goals trace_state
end Go.Proofs.YtcjkikadolnfgaaGreat

/- The law KernelTypes. -/
set_option linter.unusedSimpArgs false
set_option linter.unusedVariables false
namespace Go.Proofs.YtcjkikadolnfgaaGreat
open Go.Vx Go.Vc Go.RowKit

def errR : Except Int TG → Int
  | .ok _ => 0
  | .error e => e
def valR : Except Int TG → TG
  | .ok t => t
  | .error _ => zG
theorem outE_eq (r : Except Int TG) : outE r = .tup [dG (valR r), .int .i64 (errR r)] := by cases r <;> rfl
/-- Two answers that are one, but for the names that their types bind. -/
def SameR : Except Int TG → Except Int TG → Prop
  | .ok a, .ok b => samG a b [] [] = true
  | .error e, .error f => e = f
  | _, _ => False
theorem SameR.err {r q : Except Int TG} (h : SameR r q) : errR r = errR q := by
  cases r <;> cases q <;> first | exact h.elim | rfl | exact h
theorem SameR.val {r q : Except Int TG} (h : SameR r q) : samG (valR r) (valR q) [] [] = true := by
  cases r <;> cases q <;> first | exact h.elim | exact h | rfl
theorem put_same (u : TG) (n : Int) (y : TG) (hu : okV u = true) (hy : okV y = true) : SameR (putR u n y) (rputR u n y) := by
  unfold putR rputR
  split
  · refine (sam_ev _ _ [] [] rfl (okV_put _ _ _ _ _ hy hu) (okV_rput _ _ _ _ hy hu)).2 ?_
    rw [ev_put _ _ _ _ _ (Nat.le_refl _) hu (fun z => mem_freeS y z), ev_rput _ _ _ _ (Nat.le_refl _) hu]
  · rfl
theorem unf_same (t : TG) : SameR (unfR t) (runfR t) := by
  obtain ⟨k, n, ls, l⟩ := t
  by_cases h1 : k = 9 ∧ rightG (.mk k n ls l) = 0
  · obtain ⟨rfl, h2⟩ := h1
    obtain ⟨u, rfl⟩ := right_mu rfl h2
    rw [unfR_mu n ls u h2, runfR_mu n ls u h2]
    have hok := right_okV h2
    exact put_same u n _ (((okV_mk ..).1 hok).2 u (by simp)) hok
  · rw [unfR_no (t := .mk k n ls l) h1, runfR_no (t := .mk k n ls l) h1]
    rfl
theorem unf_sz (t : TG) : szG (valR (unfR t)) ≤ 1048576 := by
  obtain ⟨k, n, ls, l⟩ := t
  by_cases h1 : k = 9 ∧ rightG (.mk k n ls l) = 0
  · obtain ⟨rfl, h2⟩ := h1
    obtain ⟨u, rfl⟩ := right_mu rfl h2
    rw [unfR_mu n ls u h2]
    cases hr : putR u n (.mk 9 n ls [u]) with
    | ok w =>
      have ha := right_all h2
      exact (putR_good (((allG_mk ..).1 ha).2 u (by simp)) ha hr).2
    | error e => simp [valR, szG, szGs]
  · rw [unfR_no (t := .mk k n ls l) h1]
    simp [valR, szG, szGs]
theorem types_law_fn (t : TG) (vars : List Int) (hz : szG t ≤ 1048576) : FnR Tryz.prog G0 4 [dG t, dI vars] (.bool true) := by
  have h1 := unfold_fn t (by omega)
  have h2 := runfold_fn t (by omega)
  have h3 := inScope_fn t vars (by omega)
  have h4 := rinScope_fn t vars (by omega)
  have hsz := unf_sz t
  have h5 := rsameTop_fn (valR (unfR t)) (valR (runfR t)) (by omega)
  have hs := unf_same t
  rw [hs.val] at h5
  have he := hs.err
  rw [outE_eq] at h1 h2
  rw [← he] at h2
  have hal := alive_fn
  generalize errR (unfR t) = e at *
  generalize valR (unfR t) = a at *
  generalize valR (runfR t) = c at *
  clear he hs
  generalize insG t vars = g at *
  obtain ⟨k1, n1, l1, m1⟩ := a
  obtain ⟨k2, n2, l2, m2⟩ := c
  obtain ⟨k, n, ls, l⟩ := t
  refine fnQ_of_vc txok mixed [(3, .take 0 (.pure 1 (.take 3 (.pure 4 (.run 2 (.run 5 (.pure 6 (.pure 7 (.pure 8 (.pure 9 (.pure 10 (.pure 11 (.pure 12 (.take 13 (.take 14 (.fin 15 (.pure 16 (.pure 17 (.fin 18 (.pure 19 (.pure 20 .done)))))))))))))))))))))] Tryz.func4 rfl rfl (by simp) fun b => ?_
  cases g
  all_goals
    repeat' ((conv => whnf); first
      | refine And.intro (by kernel_rfl) ?_
      | refine And.intro (fun h => ?_) (fun h => by first | exact absurd h (by decide) | exact absurd h (by simp))
      | refine And.intro ?_ ?_
      | refine callF h1 gf12 rfl rfl ?_
      | refine callF h2 gf13 rfl rfl ?_
      | refine callF h3 gf14 rfl rfl ?_
      | refine callF h4 gf15 rfl rfl ?_
      | refine callF h5 gf10 rfl rfl ?_
      | refine callF hal gf11 rfl rfl ?_)
    all_goals (try (conv => whnf))
    all_goals (try exact rfl)
end Go.Proofs.YtcjkikadolnfgaaGreat

