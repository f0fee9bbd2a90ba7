/- Texts of mine, joined: Zn Zo Zr Zq Zs Zt Zu Zv Bk Bl Bm Bn Zw Bo. -/
import Derived.Test.YtcjkikadolnfgaaGreatPaj
import Derived.Test.YtcjkikadolnfgaaGreatPas
import Derived.Test.YtcjkikadolnfgaaGreatPai
import Derived.Test.YtcjkikadolnfgaaGreatPah
import Derived.Test.YtcjkikadolnfgaaGreatPap
/- The rule of names. -/
set_option linter.unusedSimpArgs false
set_option linter.unusedVariables false
namespace Go.Proofs.YtcjkikadolnfgaaGreat
open Go.Vx Go.Vc Go.RowKit
theorem backwardB_fn (l : List Bd) : FnR Tryz.prog G0 166 [dBs l] (.fn 183 [] [.ptr [dBs l] 0]) := by
  refine fnQ_of_vc txok mixed [] Tryz.func166 rfl rfl (by simp) fun b => ?_
  conv => whnf
  try exact rfl
def lookR (l : List Bd) (nm : ByteArray) : Except Int TG := match l.reverse.find? (fun b => decide (b.1 = nm)) with
  | some b => .ok b.2
  | none => .error 30
theorem rev_prN (l : List Bd) : l.reverse = (prN l.length).map fun j => l.getD j (ByteArray.empty, .mk 0 0 [] []) := by
  unfold prN
  rw [List.map_map]
  apply List.ext_getElem?
  intro i
  rcases Nat.lt_or_ge i l.length with hi | hi
  · rw [List.getElem?_reverse (by simpa using hi), List.getElem?_map, List.getElem?_range (by omega)]
    simp only [Option.map_some, Function.comp_apply]
    rw [List.getD_eq_getElem?_getD, List.getElem?_eq_getElem (by omega)]
    rfl
  · rw [List.getElem?_eq_none (by simpa using hi), List.getElem?_eq_none (by simpa using hi)]
theorem getD_fin (l : List Bd) (j : Fin l.length) (d : Bd) : l.getD j.val d = l[j.val] := by
  rw [List.getD_eq_getElem?_getD, List.getElem?_eq_getElem j.isLt]; rfl
theorem look_none (l : List Bd) (nm : ByteArray) (xs : List (Fin l.length)) (h : xs.map (·.val) = prN l.length) (hn : ∀ i ∈ xs, l[i.val].1 ≠ nm) : lookR l nm = .error 30 := by
  unfold lookR
  have : l.reverse.find? (fun b => decide (b.1 = nm)) = none := by
    rw [List.find?_eq_none]
    intro x hx
    rw [rev_prN, ← h, List.map_map] at hx
    obtain ⟨i, hi, rfl⟩ := List.mem_map.1 hx
    have := hn i hi
    simp only [Function.comp_apply]
    intro he
    have he := of_decide_eq_true he
    rw [getD_fin] at he
    exact this he
  rw [this]
theorem look_some (l : List Bd) (nm : ByteArray) (p : List (Fin l.length)) (j : Fin l.length) (h : ∃ k, k ≤ l.length ∧ (p ++ [j]).map (·.val) = (prN l.length).take k) (hn : ∀ i ∈ p, l[i.val].1 ≠ nm) (hj : l[j.val].1 = nm) : lookR l nm = .ok l[j.val].2 := by
  unfold lookR
  obtain ⟨k, hk, h⟩ := h
  have h2 : prN l.length = (p ++ [j]).map (·.val) ++ (prN l.length).drop k := by rw [h, List.take_append_drop]
  have : l.reverse.find? (fun b => decide (b.1 = nm)) = some l[j.val] := by
    rw [rev_prN, h2, List.map_append, List.map_append, List.map_append, List.find?_append, List.find?_append]
    have h3 : (List.map (fun j => l.getD j (ByteArray.empty, .mk 0 0 [] [])) (List.map (·.val) p)).find? (fun b => decide (b.1 = nm)) = none := by
      rw [List.find?_eq_none]
      intro x hx
      rw [List.map_map] at hx
      obtain ⟨i, hi, rfl⟩ := List.mem_map.1 hx
      have := hn i hi
      simp only [Function.comp_apply]
      intro he
      have he := of_decide_eq_true he
      rw [getD_fin] at he
      exact this he
    rw [h3]
    simp only [List.map_cons, List.map_nil, Option.none_or]
    rw [getD_fin, List.find?_cons_of_pos (by simpa using hj)]
    rfl
  rw [this]
abbrev mcS (m : MG) : List Vx.SV := [.d (.int .i64 m.k), .d (.int .i64 m.n), .d (.int .i64 m.i), .d (.str m.nm), .d (slD 16 m.ls.length (encS m.ls)), .d (slD 64 m.ts.length (encGs m.ts)), .d (slD 112 m.ks.length (encMs m.ks))]
abbrev tcS (t : TG) : List Vx.SV := [.d (.int .i64 t.k), .d (.int .i64 t.n), .d (slD 16 t.ls.length (encS t.ls)), .d (slD 64 t.kids.length (encGs t.kids))]
abbrev nmH0 (vars : List Int) (l : List Bd) (m : MG) (r : List Vx.SV) : Hp := [(0, .blk 71 [.d (dI vars), .d (dBs l)]), (1, .blk 26 (mcS m)), (2, .blk 28 r)]
abbrev zS : List Vx.SV := [.d (.int .i64 0), .d (.int .i64 0), .nl, .nl]
def nmR (l : List Bd) (pre : List (Fin l.length)) : List Vx.SV := match pre.getLast? with | some j => tcS l[j.val].2 | none => zS
theorem nmR_snoc (l : List Bd) (pre : List (Fin l.length)) (j : Fin l.length) : nmR l (pre ++ [j]) = tcS l[j.val].2 := by simp only [nmR, List.getLast?_concat]
abbrev nmHX (vars : List Int) (l : List Bd) (m : MG) (pre : List (Fin l.length)) : Hp := nmH0 vars l m (nmR l pre)
abbrev nmHA (vars : List Int) (l : List Bd) (m : MG) (x : Bd) : Hp := [(0, .blk 71 [.d (dI vars), .d (dBs l)]), (1, .blk 26 (mcS m)), (2, .blk 28 zS), (3, .blk 66 (.d (.str x.1) :: tcS x.2))]
theorem nmH0_plain (vars : List Int) (l : List Bd) (m : MG) (r : List Vx.SV) : plainH (nmH0 vars l m r) := by
  intro i o h φ
  simp only [lk] at h
  repeat' (split at h)
  all_goals first | (injection h with h; subst h; nofun) | cases h
theorem nmHA_plain (vars : List Int) (l : List Bd) (m : MG) (x : Bd) : plainH (nmHA vars l m x) := by
  intro i o h φ
  simp only [lk] at h
  repeat' (split at h)
  all_goals first | (injection h with h; subst h; nofun) | cases h
set_option maxRecDepth 100000 in
theorem name_fn (vars : List Int) (l : List Bd) (m : MG) : FnQ Tryz.prog G0 117 [dSc vars l, dM m] (fun o => o = resO (lookR l m.nm)) := by
  refine fnQ_sz fun hs => ?_
  have hl : l.length * 80 ≤ 140737488355328 := by
    have := hs.1
    simp only [dSc, szOk, szOks] at this
    have := (szOk_sl this.2.1).1
    simp only [LB] at this
    omega
  refine fnQ_of_tri fun e w vs hlen hargs hH hG => ?_
  have ok0 := tri_start (G := G0) (fn := Tryz.f117) (N := 21) (args := [.d (dSc vars l), .d (dM m)]) (f := 0) rfl (by simp) hlen hargs hH hG
  refine (callsIn_wide (n := 12)).1 (callsIn_of_wp_marks Tryz.func117 rfl trivial ?_ rfl)
  refine wpIn_wide.2 ?_
  refine wp_seq (vc_piece (plans := []) txok mixed ⟨[(2, .own 0 0), (3, .own 1 0), (4, .own 2 0)], nmH0 vars l m zS, 3⟩ ok0 ?_ fun e1 a1 w1 ok1 => ?_)
  · conv => whnf
    exact weak_of rfl (by repeat ((conv => whnf); first | exact trivial | refine And.intro rfl ?_ | refine And.intro (incD (by omega)) ?_)) (by repeat ((conv => whnf); first | exact trivial | refine And.intro rfl ?_ | refine And.intro (incD (by omega)) ?_))
  simp only [Exit.then]
  refine wp_seq (wp_seq (vc_piece (plans := []) txok mixed ⟨[(9, .d (.fn 183 [] [.ptr [dBs l] 0])), (2, .own 0 0), (3, .own 1 0), (4, .own 2 0)], nmH0 vars l m zS, 3⟩ ok1 ?_ fun e2 a2 w2 ok2 => ?_))
  · conv => whnf
    refine callF (backwardB_fn l) gf166 rfl rfl ?_
    conv => whnf
    exact weak_of rfl (by repeat ((conv => whnf); first | exact trivial | refine And.intro rfl ?_ | refine And.intro (incD (by omega)) ?_)) (by repeat ((conv => whnf); first | exact trivial | refine And.intro rfl ?_ | refine And.intro (incD (by omega)) ?_))
  simp only [Exit.then]
  have hdf := ok2.df
  simp only at hdf
  have tg := ok2.tm 9 _ rfl
  simp only [RepSV, RepD, RepDs] at tg
  obtain ⟨a', b', tg, ha', ⟨v2, s2, hb', ⟨ad, rfl, hcap⟩, rfl⟩⟩ := tg
  have ha' : a' = #[] := by apply Array.ext'; simpa using ha'
  subst ha'
  have hb' : b' = #[.pointer (some ad)] := by apply Array.ext'; rw [hb']; rfl
  subst hb'
  have hsz2 := ok2.sz
  obtain ⟨cl, hcl, hseq⟩ := backB_of hl hcap ok2.hp.pubLt
  refine wp_block ?_
  refine range_okC (encs := fun j : Fin l.length => encN cl j.val) (fun _ _ => trivial) (fun _ _ => trivial) (nmH0 vars l m zS) (nmHX vars l m) (fun pre => ∃ p j, pre = p ++ [j] ∧ l[j.val].1 = m.nm ∧ ∀ i ∈ p, l[i.val].1 ≠ m.nm) (fun pre => ∀ i ∈ pre, l[i.val].1 ≠ m.nm) (by simp) (nmH0_plain _ _ _ _) (fun _ => nmH0_plain _ _ _ _) ok2 (by simpa [Act.eval] using tg) gf183
    hseq (fun _ => rfl)
    (fun x => { tmps := ((a2.tmps.setIfInBounds 10 (.int .i64 (x.val : Int))).setIfInBounds 11 (.agg #[cl x.val 0, cl x.val 1, cl x.val 2, cl x.val 3, cl x.val 4])), defers := [] }) (fun x => by simp [encN]) (fun x => by simp [hsz2])
    (fun x => [(11, .d (.agg (encB1 l[x.val])))]) ?tx ?t rfl
    (fun x => [(6, .own 3 0), (3, .own 1 0), (4, .own 2 0)]) (fun x => nmHA vars l m l[x.val]) 4 (fun _ => nmHA_plain _ _ _ _) ?assign ?body (fun _ => weak_of rfl (by repeat ((conv => whnf); first | exact trivial | refine And.intro rfl ?_ | refine And.intro (incD (by omega)) ?_)) (by repeat ((conv => whnf); first | exact trivial | refine And.intro rfl ?_ | refine And.intro (incD (by omega)) ?_))) (fun _ pre => by unfold nmHX nmR; cases pre.getLast? <;> exact weak_of rfl (by repeat ((conv => whnf); first | exact trivial | refine And.intro rfl ?_ | refine And.intro (incD (by omega)) ?_)) (by repeat ((conv => whnf); first | exact trivial | refine And.intro rfl ?_ | refine And.intro (incD (by omega)) ?_))) ?done ?stop
  case tx =>
    intro x m S' W hS hW hle t sv ht
    simp only [lk] at ht
    split at ht
    · rename_i h; obtain rfl := nbeq.1 h
      injection ht with ht; subst ht
      have := (hcl x.val x.isLt).to hW fun k hk _ => hS k hk
      simp only [RepSV, RepD]
      exact ⟨_, by simp [hsz2], this⟩
    · cases ht
  case t =>
    intro x t sv ht hn
    simp only [lk] at ht
    repeat' (split at ht)
    all_goals first | (rename_i h; obtain rfl := nbeq.1 h; simp [Array.getElem?_setIfInBounds]; done) | (cases ht; done)
  case assign =>
    intro q b' x e' W
    refine wki_region txok (by rfl) ?_ e' _ W
    show Vx.vcSeq _ _ _ _ _ _ ⟨[(11, .d (.agg (encB1 l[x.val]))), (9, .d (.fn 183 [] [.ptr [dBs l] 0])), (2, .own 0 0), (3, .own 1 0), (4, .own 2 0)], nmH0 vars l m zS, 3⟩ _
    conv => whnf
    exact ⟨weak_of rfl (by repeat ((conv => whnf); first | exact trivial | refine And.intro rfl ?_ | refine And.intro (incD (by omega)) ?_)) (by repeat ((conv => whnf); first | exact trivial | refine And.intro rfl ?_ | refine And.intro (incD (by omega)) ?_)), weak_of rfl (by repeat ((conv => whnf); first | exact trivial | refine And.intro rfl ?_ | refine And.intro (incD (by omega)) ?_)) (by repeat ((conv => whnf); first | exact trivial | refine And.intro rfl ?_ | refine And.intro (incD (by omega)) ?_))⟩
  case body =>
    intro q b' pre x e' a' W hM hR hOk
    revert hOk
    by_cases h : l[x.val].1 = m.nm
    · refine wki_block (by rintro j s h; exact h) (wki_seq ⟨[(16, .d (.bool true)), (6, .own 3 0), (3, .own 1 0), (4, .own 2 0)], nmHA vars l m l[x.val], 4⟩ (wki_region txok (by rfl) ?_) (wki_true rfl (wki_seq ⟨[], nmH0 vars l m (tcS l[x.val].2) ++ [(3, .blk 66 (.d (.str l[x.val].1) :: tcS l[x.val].2))], 4⟩ (wki_region txok (by rfl) ?_) (wki_ret ?_)))) e' a' W
      · conv => whnf
        rw [beqB', decide_eq_true h]
        exact weak_of rfl (by repeat ((conv => whnf); first | exact trivial | refine And.intro rfl ?_ | refine And.intro (incD (by omega)) ?_)) (by repeat ((conv => whnf); first | exact trivial | refine And.intro rfl ?_ | refine And.intro (incD (by omega)) ?_))
      · conv => whnf
        exact weak_of rfl (by repeat ((conv => whnf); first | exact trivial | refine And.intro rfl ?_ | refine And.intro (incD (by omega)) ?_)) (by repeat ((conv => whnf); first | exact trivial | refine And.intro rfl ?_ | refine And.intro (incD (by omega)) ?_))
      · refine ⟨⟨pre, x, rfl, h, hR⟩, ?_⟩
        unfold nmHX
        rw [nmR_snoc]
        exact weak_of rfl (by repeat ((conv => whnf); first | exact trivial | refine And.intro rfl ?_ | refine And.intro (incD (by omega)) ?_)) (by repeat ((conv => whnf); first | exact trivial | refine And.intro rfl ?_ | refine And.intro (incD (by omega)) ?_))
    · refine wki_block (by rintro j s h; exact h) (wki_seq ⟨[(16, .d (.bool false)), (6, .own 3 0), (3, .own 1 0), (4, .own 2 0)], nmHA vars l m l[x.val], 4⟩ (wki_region txok (by rfl) ?_) (wki_false rfl (wki_skip ?_))) e' a' W
      · conv => whnf
        rw [beqB', decide_eq_false h]
        exact weak_of rfl (by repeat ((conv => whnf); first | exact trivial | refine And.intro rfl ?_ | refine And.intro (incD (by omega)) ?_)) (by repeat ((conv => whnf); first | exact trivial | refine And.intro rfl ?_ | refine And.intro (incD (by omega)) ?_))
      · refine ⟨fun i hi => ?_, weak_of rfl (by repeat ((conv => whnf); first | exact trivial | refine And.intro rfl ?_ | refine And.intro (incD (by omega)) ?_)) (by repeat ((conv => whnf); first | exact trivial | refine And.intro rfl ?_ | refine And.intro (incD (by omega)) ?_))⟩
        rcases List.mem_append.1 hi with hi | hi
        · exact hR i hi
        · rw [List.mem_singleton.1 hi]; exact h
  case done =>
    rintro D xs e' W hx hR okD hD hK hp
    have hlt2 : w.heap.size ≤ w2.heap.size := ok2.below.size
    have okE := ok2.rebase okD
    simp only [Exit.inBlock, Exit.then]
    rw [hdf] at okE ⊢
    refine marks_end (fn := Tryz.f117) (kp := []) (plans := []) txok mixed (fun _ _ => trivial) hlen okE (nmH0_plain _ _ _ _) hK (Nat.le_trans hlt2 hD) hp fun b => ?_
    rw [look_none l m.nm xs hx hR]
    conv => whnf
    refine callQ rfl rfl gf167 (ask_fn false) ?_
    rintro o rfl
    conv => whnf
    try exact rfl
  case stop =>
    rintro D xs e' W hx ⟨p, j, rfl, hj, hR⟩ okD hD hK hp
    have hlt2 : w.heap.size ≤ w2.heap.size := ok2.below.size
    have okE := ok2.rebase okD
    simp only [Exit.inBlock, Exit.then]
    rw [hdf] at okE ⊢
    rw [look_some l m.nm p j hx hR hj]
    have hm := Nat.le_trans hlt2 hD
    refine marks_fin (fn := Tryz.f117) (kp := []) txok (fun _ _ => trivial) hlen okE hK hm hp ?_ ?_
    · intro i hi hf
      obtain ⟨o, h1, h2⟩ := foot_cells okE.hp (nmH0_plain _ _ _ _) hi hf
      rw [hK] at h1; injection h1 with h1; subst h1; cases h2
    · unfold nmHX
      rw [nmR_snoc]
      conv => whnf
      try exact rfl
end Go.Proofs.YtcjkikadolnfgaaGreat


/- Scopes: here, with, open. -/
set_option linter.unusedSimpArgs false
set_option linter.unusedVariables false
namespace Go.Proofs.YtcjkikadolnfgaaGreat
open Go.Vx Go.Vc Go.RowKit
def hereR (t : TG) (vars : List Int) : Except Int TG := if insG t vars = true then .ok t else .error 30
theorem here_fn (vars : List Int) (l : List Bd) (t : TG) (hz : szG t < 1099511627776) : FnQ Tryz.prog G0 168 [dSc vars l, dG t] (fun o => o = resO (hereR t vars)) := by
  have hI := inScope_fn t vars hz
  refine fnQ_of_vc txok mixed [] Tryz.func168 rfl rfl (by simp) fun b => ?_
  conv => whnf
  refine callF hI gf14 rfl rfl ?_
  conv => whnf
  refine callQ rfl rfl gf167 (ask_fn (insG t vars)) ?_
  rintro o rfl
  unfold askO hereR
  cases insG t vars
  · conv => whnf
    try exact rfl
  · conv => whnf
    try exact rfl
theorem clipB_fn (l : List Bd) : FnR Tryz.prog G0 184 [dBs l] (.csl (ebn 80 l.length) l.length (encBds l)) := by
  refine fnQ_of_vc txok mixed [] Tryz.func184 rfl rfl (by simp) fun b => ?_
  conv => whnf
  refine clipC (el := 66) txok rfl rfl rfl rfl rfl rfl rfl ?_
  conv => whnf
  try exact rfl
theorem encBds_snoc (s : List Bd) (x : Bd) : encBds s ++ encB1 x = encBds (s ++ [x]) := by
  rw [encBds_app]; rfl
theorem snocB {n0 N : Nat} {b : Bs G0 n0} {kp : Bool} {o : Oper} {st : Go.Vx.St} {K : SExit → Go.Vx.St → Prop} {y : Go.Vx.SV} {eb' : Nat} (s : List Bd) (x : Bd) (ho : appOf st.T o.op = some (.d (.csl eb' s.length (encBds s)), y, 62)) (hy : slOf st.H y = some (1, encB1 x)) (hlen : s.length < 1099511627776)
    (hk : match st with
      | ⟨T, H, q⟩ => Go.Vx.putK N o.dst (.row q) ⟨T, (q, .row 66 80 5 (s ++ [x]).length (encBds (s ++ [x]))) :: H, q + 1⟩ (K .normal)) : OpC Tryz.prog b N kp o st K :=
  appC (el := 66) (eb := 80) (sz := 5) txok (s ++ [x]).length (encBds (s ++ [x])) ho hy (by kernel_rfl) (by decide) (by rw [encBds_len]) (encBds_scal s) rfl (encB1_scal x) (by simp only [LB]; omega) (by simp) (encBds_snoc s x) hk
theorem with_fn (vars : List Int) (l : List Bd) (nm : ByteArray) (t : TG) (hl : l.length < 1099511627776) : FnR Tryz.prog G0 169 [dSc vars l, .str nm, dG t] (dSc vars (l ++ [(nm, t)])) := by
  refine fnQ_of_vc txok mixed [(1, .pure 0 (.take 1 (.pure 3 (.take 4 (.pure 5 (.two 2 6 (.run 6 (.fin 7 (.pure 8 (.fin 9 .done)))) (.run 2 (.fin 7 (.pure 8 (.fin 9 .done))))))))))] Tryz.func169 rfl rfl (by simp) fun b => ?_
  conv => whnf
  refine And.intro (by kernel_rfl) ?_
  repeat' ((conv => whnf); first
    | refine And.intro ?_ ?_
    | refine callF (clipB_fn l) gf184 rfl rfl ?_
    | refine snocB l (nm, t) rfl rfl hl ?_)
  all_goals (conv => whnf)
  all_goals
    refine pubC (fun i => Nat.ble 1 i) ?_
    (conv => whnf)
    try exact rfl
theorem open_fn (vars : List Int) (l : List Bd) (n : Int) (hl : vars.length < 1099511627776) : FnQ Tryz.prog G0 173 [dSc vars l, .int .i64 n] (fun o => o = (if n ∈ vars then .pan (badW 30) else .ret (dSc (vars ++ [n]) l))) := by
  refine fnQ_of_vc txok mixed [] Tryz.func173 rfl rfl (by simp) fun b => ?_
  conv => whnf
  refine callF (contains_fn vars n) gf35 rfl rfl ?_
  conv => whnf
  refine callQ rfl rfl gf167 (ask_fn (!decide (n ∈ vars))) ?_
  rintro o rfl
  unfold askO
  by_cases h : n ∈ vars
  · rw [if_pos h, decide_eq_true h]
    conv => whnf
    try exact rfl
  · rw [if_neg h, decide_eq_false h]
    conv => whnf
    refine callF (clip_fn vars) gf86 rfl rfl ?_
    conv => whnf
    refine snocI vars n rfl rfl (by omega) ?_
    conv => whnf
    all_goals (try exact rfl)
end Go.Proofs.YtcjkikadolnfgaaGreat


/- The reference: count. -/
set_option linter.unusedSimpArgs false
set_option linter.unusedVariables false
namespace Go.Proofs.YtcjkikadolnfgaaGreat
open Go.Vx Go.Vc Go.RowKit
mutual
def rcnt (x : Int) (most : Nat) : TG → Nat
  | .mk k n _ l => if k = 6 ∧ n = x then 1 else if bndG k = true ∧ n = x then 0 else rcnts x most 0 l
def rcnts (x : Int) (most : Nat) : Nat → List TG → Nat
  | a, [] => a
  | a, t :: r => if a ≤ most then rcnts x most (a + rcnt x most t) r else a
end
theorem rcnts_facts (x : Int) (most : Nat) : ∀ (l : List TG), (∀ u ∈ l, rcnt x most u ≤ cntG x u ∧ (cntG x u ≤ most → rcnt x most u = cntG x u) ∧ (most < cntG x u → most < rcnt x most u)) → ∀ a, rcnts x most a l ≤ a + cntGs x l ∧ (a + cntGs x l ≤ most → rcnts x most a l = a + cntGs x l) ∧ (most < a + cntGs x l → most < rcnts x most a l)
  | [], _, a => by simp [rcnts, cntGs]
  | t :: r, ih, a => by
    obtain ⟨h1, h2, h3⟩ := ih t (by simp)
    have hr := rcnts_facts x most r (fun u hu => ih u (by simp [hu])) (a + rcnt x most t)
    rw [rcnts, cntGs]
    by_cases ha : a ≤ most
    · rw [if_pos ha]
      refine ⟨by omega, fun h => by rw [hr.2.1 (by omega), h2 (by omega)]; omega, fun h => ?_⟩
      by_cases hc : cntG x t ≤ most
      · have := h2 hc
        exact hr.2.2 (by omega)
      · exact hr.2.2 (by have := h3 (by omega); omega)
    · rw [if_neg ha]; omega
theorem rcnt_facts (x : Int) (most : Nat) (h1 : 1 ≤ most) : ∀ t : TG, rcnt x most t ≤ cntG x t ∧ (cntG x t ≤ most → rcnt x most t = cntG x t) ∧ (most < cntG x t → most < rcnt x most t) := by
  refine TG.ind fun k n ls l ih => ?_
  have := rcnts_facts x most l ih 0
  rw [rcnt, cntG]
  split
  · omega
  split
  · omega
  · omega
theorem rcount_fn (x : Int) (most : Nat) (h1 : 1 ≤ most) (hm : most < 1099511627776) : ∀ (t : TG), szG t < 1099511627776 → FnR Tryz.prog G0 65 [dG t, .int .i64 x, .int .i64 (most : Int)] (.int .i64 (rcnt x most t : Int)) := by
  refine TG.ind fun k n ls l ih hz => ?_
  refine fnQ_sz fun hs => ?_
  have hl := (szOk_G (t := .mk k n ls l) hs.1).1
  simp only [g_kids, LB] at hl
  have hsz : szG (.mk k n ls l) = szGs l + 1 := by simp only [szG]
  rw [hsz] at hz
  refine fnQ_of_wk (N := 60) txok mixed Tryz.func65 rfl rfl (by simp) fun b => ?_
  refine wk_seq ⟨[(1, .d (.int .i64 x)), (2, .d (.int .i64 (most : Int))), (3, .own 0 0)], [(0, .blk 28 [.d (.int .i64 k), .d (.int .i64 n), .d (dL ls), .d (dGs l)])], 1⟩ (wk_vc txok mixed [] ?_) ?_
  · conv => whnf
    exact weak_of rfl (by repeat ((conv => whnf); first | exact trivial | refine And.intro rfl ?_ | refine And.intro (incD (by omega)) ?_)) (by repeat ((conv => whnf); first | exact trivial | refine And.intro rfl ?_ | refine And.intro (incD (by omega)) ?_))
  by_cases h1 : k = 6 ∧ n = x
  · rw [rcnt, if_pos h1]
    obtain ⟨rfl, rfl⟩ := h1
    refine wk_seqR (wk_vc txok mixed [] ?_)
    conv => whnf
    refine And.intro (fun h => ?_) (fun h => Bool.noConfusion h)
    conv => whnf
    refine And.intro (fun h => ?_) (fun h => absurd h (by simp))
    conv => whnf
    try exact rfl
  refine wk_seq ⟨[(1, .d (.int .i64 x)), (2, .d (.int .i64 (most : Int))), (3, .own 0 0)], [(0, .blk 28 [.d (.int .i64 k), .d (.int .i64 n), .d (dL ls), .d (dGs l)])], 1⟩ (wk_vc txok mixed [] ?_) ?_
  · conv => whnf
    refine And.intro (fun h => ?_) (fun h => ?_)
    · have h : k = 6 := eq_of_beq h
      conv => whnf
      refine And.intro (fun h2 => absurd ⟨h, eq_of_beq h2⟩ h1) (fun h2 => ?_)
      conv => whnf
      exact weak_of rfl (by repeat ((conv => whnf); first | exact trivial | refine And.intro rfl ?_ | refine And.intro (incD (by omega)) ?_)) (by repeat ((conv => whnf); first | exact trivial | refine And.intro rfl ?_ | refine And.intro (incD (by omega)) ?_))
    · conv => whnf
      exact weak_of rfl (by repeat ((conv => whnf); first | exact trivial | refine And.intro rfl ?_ | refine And.intro (incD (by omega)) ?_)) (by repeat ((conv => whnf); first | exact trivial | refine And.intro rfl ?_ | refine And.intro (incD (by omega)) ?_))
  by_cases h2 : bndG k = true ∧ n = x
  · rw [rcnt, if_neg h1, if_pos h2]
    obtain ⟨h2, rfl⟩ := h2
    refine wk_seqR (wk_vc txok mixed [] ?_)
    repeat' ((conv => whnf); first | refine And.intro (fun _ => ?_) (fun _ => ?_))
    all_goals (try (conv => whnf))
    all_goals first | exact rfl | (simp_all [bndG]; done)
  refine wk_seq ⟨[(1, .d (.int .i64 x)), (2, .d (.int .i64 (most : Int))), (3, .own 0 0)], [(0, .blk 28 [.d (.int .i64 k), .d (.int .i64 n), .d (dL ls), .d (dGs l)])], 1⟩ (wk_vc txok mixed [] ?_) ?_
  · repeat' ((conv => whnf); first | refine And.intro (fun _ => ?_) (fun _ => ?_))
    all_goals (try (conv => whnf))
    all_goals first | (exact weak_of rfl (by repeat ((conv => whnf); first | exact trivial | refine And.intro rfl ?_ | refine And.intro (incD (by omega)) ?_)) (by repeat ((conv => whnf); first | exact trivial | refine And.intro rfl ?_ | refine And.intro (incD (by omega)) ?_))) | (exfalso; simp_all [bndG]; done)
  rw [rcnt, if_neg h1, if_neg h2]
  refine wk_vc txok mixed [] ?_
  conv => whnf
  refine loopH (fun p : Nat × Nat => p.1 ≤ l.length ∧ p.2 ≤ szGs (l.take p.1) ∧ rcnts x most 0 l = rcnts x most p.2 (l.drop p.1)) (fun p => l.length - p.1) (fun p => [(8, .d (.int .i64 (p.1 : Int))), (7, .d (.int .i64 (p.2 : Int)))]) (fun _ => [(0, .blk 28 [.d (.int .i64 k), .d (.int .i64 n), .d (dL ls), .d (dGs l)])]) 1 (0, 0) ⟨by simp, by simp, rfl⟩ (weak_of rfl (by repeat ((conv => whnf); first | exact trivial | refine And.intro rfl ?_ | refine And.intro (incD (by omega)) ?_)) (by repeat ((conv => whnf); first | exact trivial | refine And.intro rfl ?_ | refine And.intro (incD (by omega)) ?_))) ?_
  rintro ⟨i, a⟩ ⟨hi, ha, hx⟩
  simp only at hi ha hx
  have htl := szGs_le l i
  conv => whnf
  refine And.intro (fun hb => ?_) (fun hb => ?_)
  · have hil : i < l.length := by have := of_decide_eq_true hb; simp only at this; omega
    rw [List.drop_eq_getElem_cons hil, rcnts] at hx
    have hmem := szG_mem (List.getElem_mem hil)
    have htk := szGs_take hil
    have htl2 := szGs_le l (i + 1)
    have hc := (rcnt_facts x most (by omega) l[i]).1
    have hc2 := cnt_le l[i] x
    have hN := ih l[i] (by simp) (by omega)
    have e2 : IntKind.i64.wrap ((a : Int) + (rcnt x most l[i] : Int)) = ((a + rcnt x most l[i] : Nat) : Int) := by rw [Go.Vc.wrap_small (by omega) (by omega)]; omega
    conv => whnf
    refine And.intro (fun hb2 => ?_) (fun hb2 => ?_)
    · have hb2 : a ≤ most := by have := of_decide_eq_true hb2; simp only at this; omega
      rw [if_pos hb2] at hx
      conv => whnf
      refine IdxC.encGs i hil rfl ?_
      conv => whnf
      refine callF hN gf65 rfl rfl ?_
      conv => whnf
      rw [e2, incD (by omega)]
      exact again (i + 1, a + rcnt x most l[i]) (by simp only; omega) ⟨by simp only; omega, by simp only; omega, hx⟩ (weak_of rfl (by repeat ((conv => whnf); first | exact trivial | refine And.intro rfl ?_ | refine And.intro (incD (by omega)) ?_)) (by repeat ((conv => whnf); first | exact trivial | refine And.intro rfl ?_ | refine And.intro (incD (by omega)) ?_)))
    · have hb2 : ¬ a ≤ most := by have := of_decide_eq_false hb2; simp only at this; omega
      rw [if_neg hb2] at hx
      conv => whnf
      rw [hx]
  · have hil : i = l.length := by have := of_decide_eq_false hb; simp only at this; omega
    subst hil
    rw [List.drop_length, rcnts] at hx
    conv => whnf
    rw [hx]
end Go.Proofs.YtcjkikadolnfgaaGreat


/- kernel.caught: what something makes, or the error that it gives up with. -/
set_option linter.unusedSimpArgs false
set_option linter.unusedVariables false
namespace Go.Proofs.YtcjkikadolnfgaaGreat
open Go.Vx Go.Vc Go.RowKit
abbrev caughtH (er : Int) : Hp := [(0, .blk 28 [.d (.int .i64 0), .d (.int .i64 0), .nl, .nl]), (1, .blk 29 [.d (.int .i64 er)])]
abbrev caughtH0 : Hp := [(1, .blk 29 [.d (.int .i64 0)]), (0, .blk 28 [.d (.int .i64 0), .d (.int .i64 0), .nl, .nl])]
set_option maxRecDepth 100000 in
theorem caughtCatch (er : Int) (e : Env) (w : World) (hlen : e.m.length = 2) (g0 g1 : Nat) (hp : e.m[0]? = some (.pointer (some ⟨g0, 0, none⟩))) (hq : e.m[1]? = some (.pointer (some ⟨g1, 0, none⟩))) (hH : HpOk e w caughtH0) :
    CallsD Tryz.prog 59 #[.pointer (some ⟨g0, 0, none⟩), .pointer (some ⟨g1, 0, none⟩)] (.panicking [{ v := .iface 83 (.int .i64 er), recovered := false }]) w fun en u' w' => en = .returned (.tuple #[]) ∧ u' = .panicking [{ v := .iface 83 (.int .i64 er), recovered := true }] ∧
      ∃ e', Vx.Left G0 0 e w caughtH0 e' w' (caughtH er) := by
  refine callsD_of_wpS Tryz.func59 rfl fun c₀ cs hu => ?_
  apply wpS_seq
  apply wpS_region
  simp [wpOpsS, go_sem, recoverD, hu, Tryz.ntmps59, Exit.thenS]
  apply wpS_seq
  apply wpS_region
  simp [wpOpsS, go_sem, Exit.thenS]
  refine wpS_cond (t := true) (by simp [Act.eval, Array.replicate]) ?_
  simp only [if_true]
  refine wpS_of_wp ?_
  let b : Bs G0 2 := ⟨w, e.pub, feet e caughtH0, e.m, hlen, []⟩
  refine wp_mono (vcCode_sound (b := b) (N := 18) (plans := []) txok mixed _ e ⟨[(0, .own 0 0), (1, .own 1 0), (2, .ifc 83 (.d (.int .i64 er)))], caughtH0, 2⟩ (fun x st => match x with
    | .normal => match st with
      | ⟨T, H, n⟩ => leftK 2 [] H [0, 1] fun H' => H' = caughtH er
    | _ => False) _ _ ⟨?_, ?_, hlen, ?_, hH, Only.refl _ _, trivial, fun i k hi hk => .inl ⟨i, hi, hk⟩, fun k hk => .inl hk, ⟨fun i v h _ => h, Nat.le_refl _, fun k hk => hk⟩, trivial⟩ ?_) ?_
  · simp
  · rfl
  · intro t sv ht
    simp only [lk] at ht
    split at ht
    · rename_i h; obtain rfl := nbeq.1 h
      injection ht with ht; subst ht
      simp only [RepSV]
      exact ⟨g0, hp, by simp [Array.replicate]⟩
    split at ht
    · rename_i h; obtain rfl := nbeq.1 h
      injection ht with ht; subst ht
      simp only [RepSV]
      exact ⟨g1, hq, by simp [Array.replicate]⟩
    split at ht
    · rename_i h; obtain rfl := nbeq.1 h
      injection ht with ht; subst ht
      simp only [RepSV, RepD]
      exact ⟨_, by simp [Array.replicate], rfl⟩
    · cases ht
  · conv => whnf
    refine tassC rfl rfl Tryz.underlying83 (by intro m h; cases h) ?_
    conv => whnf
    try exact rfl
  · intro ex a w' hq'
    cases ex with
    | normal =>
      obtain ⟨e', ⟨T, H, n⟩, h1, h2⟩ := hq'
      simp only at h2
      obtain ⟨H', rfl, k2⟩ := leftK_get _ _ h2
      obtain ⟨e2, _, f2⟩ := left_of h1 hlen rfl hlen k2
      refine ⟨h1.df, _, rfl, .tuple #[], ?_, rfl, ?_, e2, f2⟩
      · simp [results, Tryz.results59, go_sem]
      · rfl
    | panic c => obtain ⟨_, _, _, _, _, _, _, h⟩ := hq'; exact h.elim
    | outgrown => exact hq'.elim
    | ret => obtain ⟨_, _, _, h⟩ := hq'; exact h.elim
    | exit id => obtain ⟨_, _, _, h⟩ := hq'; exact h.elim
    | goto l => obtain ⟨_, _, _, h⟩ := hq'; exact h.elim
def caughtOut : DOut → D
  | .ret x => .tup [x, .int .i64 0]
  | .pan (.ifc _ (.int _ er)) => .tup [dG (.mk 0 0 [] []), .int .i64 er]
  | .pan _ => .tup []
set_option maxRecDepth 100000 in
theorem caught_out {g : FuncId} {caps : List D} {o0 : DOut} (hgo : Goes Tryz.prog g) (hf : FnQ Tryz.prog G0 g caps (fun o => o = o0)) (h0 : (∃ t : TG, o0 = .ret (dG t)) ∨ ∃ er, o0 = .pan (.ifc 83 (.int .i64 er))) :
    FnR Tryz.prog G0 27 [.fn g [] caps] (caughtOut o0) := by
  refine fnQ_of_tri fun e w vs hlen hargs hH hG => ?_
  have ok0 := tri_start (G := G0) (fn := Tryz.f27) (N := 7) (args := [.d (.fn g [] caps)]) (f := 0) rfl (by simp) hlen hargs hH hG
  refine calls_of_wp_defers Tryz.func27 rfl ?_
  refine wp_seq (wp_mono (vcCode_sound (plans := []) txok mixed _ e _ (fun x st => match x with
    | .normal => st = ⟨[(3, .own 1 0), (2, .own 0 0), (0, .d (.fn g [] caps))], [(1, .blk 29 [.d (.int .i64 0)]), (0, .blk 28 [.d (.int .i64 0), .d (.int .i64 0), .nl, .nl])], 2⟩
    | _ => False) _ _ ok0 ?_) ?_)
  · conv => whnf
    try exact rfl
  rintro ex a1 w1 hq
  cases ex with
  | panic c => obtain ⟨_, _, _, _, _, _, _, h⟩ := hq; exact h.elim
  | outgrown => exact hq.elim
  | ret => obtain ⟨_, _, _, h⟩ := hq; exact h.elim
  | exit id => obtain ⟨_, _, _, h⟩ := hq; exact h.elim
  | goto l => obtain ⟨_, _, _, h⟩ := hq; exact h.elim
  | normal =>
  obtain ⟨e1, st1, ok1, rfl⟩ := hq
  have hz1 := ok1.sz
  have t2 := ok1.tm 2 _ rfl
  have t3 := ok1.tm 3 _ rfl
  simp only [RepSV] at t2 t3
  obtain ⟨g0, m0, t2⟩ := t2
  obtain ⟨g1, m1, t3⟩ := t3
  have ok2 := (ok1.put (d := 4) (sv := .any) (v := .func (.func 59) #[] (#[Operand.tmp 2, Operand.tmp 3].map a1.eval)) (by decide) (by simp only [RepSV])).defers' [{ target := .fn (.func 59) (#[Operand.tmp 2, Operand.tmp 3].map a1.eval), args := #[] }]
  have ev2 : #[Operand.tmp 2, Operand.tmp 3].map a1.eval = #[.pointer (some ⟨g0, 0, none⟩), .pointer (some ⟨g1, 0, none⟩)] := by
    simp only [List.map_toArray, List.map_cons, List.map_nil, Act.eval]
    rw [t2, t3]
  refine wp_seq (wp_defer2 (by rw [hz1]; decide) ?_)
  have df1 := ok1.df
  simp only at df1
  rw [df1]
  simp only [Exit.then]
  generalize hb2 : Bs.mk _ _ _ _ _ _ = b2 at ok2
  generalize ha2 : Act.mk _ _ = a2 at ok2 ⊢
  have hbb : b2 = ⟨w, e.pub, feet e [], e.m, hlen, [{ target := .fn (.func 59) #[.pointer (some ⟨g0, 0, none⟩), .pointer (some ⟨g1, 0, none⟩)], args := #[] }]⟩ := by
    rw [← hb2, ev2]
  clear hb2 ha2
  have tm0 := ok2.tm 0 _ rfl
  refine wp_seq (wp_region_list ?_)
  refine wpList_go (v := a2.tmps.getD 0 undef) (w' := w1) (by rfl) (by simp only [execOp]; rfl) ?_
  have ok3 := ok2.put (d := 5) (sv := .d (.fn g [] caps)) (v := a2.tmps.getD 0 undef) (by decide) tm0
  generalize ha3 : a2.put _ _ = a3 at ok3 ⊢
  obtain ⟨vs2, hvs2, hrun⟩ := callOf_run (o := { dst := some 6, op := .call { callee := .value (.tmp 5), args := #[], argTypes := #[] }, type := 28, pos := "kernel.go:95", after := #[{ on := 0, ground := Ground.data }], guard := none }) ok3.tmok rfl hgo
  refine wpList_call (by rfl) hrun ?_
  refine (hf e1.pub w1 vs2 (dOfs_rep (by simpa [Vx.dL] using dOfs_dL caps) hvs2) ok3.hp.pubLt trivial).mono ?_
  rintro en w2 ⟨o', S', rfl, ho, ⟨hb, hdr⟩, hup, hfr, hlt⟩
  obtain ⟨ok4, kw, _⟩ := ok3.below' hb hdr hup hfr hlt
  rcases h0 with ⟨⟨k, n, l, m⟩, rfl⟩ | ⟨er, rfl⟩
  · obtain ⟨v, rfl, hv⟩ := ho
    simp only
    have hv' : RepSV ⟨e1.m, S'⟩ w2 (.agg [.d (.int .i64 k), .d (.int .i64 n), .d (slD 16 l.length (encS l)), .d (slD 64 m.length (encGs m))]) v := by
      obtain ⟨y, hy, hr⟩ := nrm_eq (e := ⟨e1.m, S'⟩) (svD (dG (.mk k n l m))) (fun y => y = .agg [.d (.int .i64 k), .d (.int .i64 n), .d (slD 16 l.length (encS l)), .d (slD 64 m.length (encGs m))]) (by rfl) (svD_rep hv)
      subst hy; exact hr
    have ok5 := ok4.put (d := 6) (by decide) hv'
    refine wpList_mono ?_ _ _ _ (vcSeq_sound (K := fun x st => match x with
      | .normal => endK tx 0 [] Tryz.f27.results.toList (closeQ (retD (caughtOut (.ret (dG (.mk k n l m)))))) st
      | _ => False) txok _ _ _ _ _ ok5 ?_)
    · rintro ex a5 w5 hq
      cases ex with
      | exit id => obtain ⟨_, _, _, h⟩ := hq; exact h.elim
      | goto l => obtain ⟨_, _, _, h⟩ := hq; exact h.elim
      | ret => obtain ⟨_, _, _, h⟩ := hq; exact h.elim
      | outgrown => exact hq.elim
      | panic c => obtain ⟨_, _, _, _, _, _, _, h⟩ := hq; exact h.elim
      | normal =>
        obtain ⟨e6, st6, ok6, hk⟩ := hq
        simp only [Exit.then]
        refine wp_ret ?_
        obtain ⟨v', hv6, hR⟩ := tri_fin (fn := Tryz.f27) (kp := []) txok hlen hbb ok6 hk
        have df6 := ok6.df
        rw [hbb] at df6
        simp only at df6
        simp only [bodyPostD]
        rw [df6]
        refine leaves_cons (f := 59) (args := #[.pointer (some ⟨g0, 0, none⟩), .pointer (some ⟨g1, 0, none⟩)]) (by simp) (by simp [go_sem]) ?_
        refine (caughtIdle ⟨g0, 0, none⟩ ⟨g1, 0, none⟩ _).mono ?_
        rintro en u' w' ⟨rfl, rfl, rfl⟩
        exact ⟨v', hv6, hR⟩
    · conv => whnf
      try exact rfl
  · obtain ⟨v, rfl, hv⟩ := ho
    simp only [RepD] at hv
    obtain ⟨y, rfl, rfl⟩ := hv
    simp only [Exit.then, bodyPostD]
    have df4 := ok4.df
    rw [hbb] at df4
    simp only at df4
    rw [df4]
    refine leaves_cons (f := 59) (args := #[.pointer (some ⟨g0, 0, none⟩), .pointer (some ⟨g1, 0, none⟩)]) (by simp) (by simp [go_sem]) ?_
    refine (caughtCatch er ⟨e1.m, S'⟩ w2 ok4.len g0 g1 m0 m1 ok4.hp).mono ?_
    rintro en u' w' ⟨rfl, rfl, e5, hl⟩
    have ok5 := Ok.left (st := ⟨[(5, .d (.fn g [] caps)), (4, .any), (3, .own 1 0), (2, .own 0 0), (0, .d (.fn g [] caps))], caughtH0, 2⟩) ok4 hl
    have hk5 : endK tx 0 [] Tryz.f27.results.toList (closeQ (retD (caughtOut (.pan (.ifc 83 (.int .i64 er)))))) ⟨scrubT (fun _ => true) [(5, .d (.fn g [] caps)), (4, .any), (3, .own 1 0), (2, .own 0 0), (0, .d (.fn g [] caps))], caughtH er, 2⟩ := by
      conv => whnf
      try exact rfl
    obtain ⟨v, hv, hR⟩ := tri_fin (fn := Tryz.f27) (kp := []) txok hlen hbb ok5 hk5
    exact ⟨v, hv, hR⟩
end Go.Proofs.YtcjkikadolnfgaaGreat


/- The reference's put and Unfold; the program's Unfold. -/
set_option linter.unusedSimpArgs false
set_option linter.unusedVariables false
namespace Go.Proofs.YtcjkikadolnfgaaGreat
open Go.Vx Go.Vc Go.RowKit
abbrev zG : TG := .mk 0 0 [] []
def outE : Except Int TG → D
  | .ok t => .tup [dG t, .int .i64 0]
  | .error e => .tup [dG zG, .int .i64 e]
def rputR (t : TG) (n : Int) (y : TG) : Except Int TG := if szG t + cntG n t * (szG y - 1) ≤ 1048576 then .ok (rputF (szG t) t n y) else .error 3
theorem quo_le {a b m : Nat} (hb : 0 < b) : (a : Int) > ((m / b : Nat) : Int) ↔ m < b * a := by
  have : m / b < a ↔ m < a * b := Nat.div_lt_iff_lt_mul hb
  rw [Nat.mul_comm]
  omega
theorem rputt_fn (t : TG) (n : Int) (y : TG) (hz : szG t < 549755800000) (hy : szG y < 549755800000) : FnR Tryz.prog G0 31 [dG t, .int .i64 n, dG y] (outE (rputR t n y)) := by
  have hS := rsize_fn t 1048576 (by omega) (by decide) (by decide)
  have hY := rsize_fn y 1048576 (by omega) (by decide) (by decide)
  have hC := rcount_fn n 1048576 (by decide) (by decide) t (by omega)
  have hcf := rcnt_facts n 1048576 (by decide) t
  have hcl := cnt_le t n
  have hP := rput_fn (szG t) t (Nat.le_refl _) n y (by omega)
  have htp := szG_pos t
  have hyp := szG_pos y
  rw [sizeG_pos (by decide)] at hS hY
  generalize hc : rcnt n 1048576 t = c at *
  unfold rputR
  obtain ⟨o, ho⟩ : ∃ o : Nat, (o : Int) = cutN 1048576 (szG t) := ⟨(cutN 1048576 (szG t)).toNat, by unfold cutN; split <;> omega⟩
  obtain ⟨q, hq⟩ : ∃ q : Nat, (q : Int) = cutN 1048576 (szG y) := ⟨(cutN 1048576 (szG y)).toNat, by unfold cutN; split <;> omega⟩
  rw [← ho] at hS
  rw [← hq] at hY
  unfold cutN at ho hq
  have ho1 : szG t ≤ 1048576 → o = szG t := by intro h; rw [if_pos (by omega)] at ho; omega
  have ho2 : ¬ szG t ≤ 1048576 → o = 1048577 := by intro h; rw [if_neg (by omega)] at ho; omega
  have hq1 : szG y ≤ 1048576 → q = szG y := by intro h; rw [if_pos (by omega)] at hq; omega
  have hq2 : ¬ szG y ≤ 1048576 → q = 1048577 := by intro h; rw [if_neg (by omega)] at hq; omega
  clear ho hq
  refine fnQ_of_vc txok mixed [] Tryz.func31 rfl rfl (by simp) fun b => ?_
  conv => whnf
  refine callF hS gf64 rfl rfl ?_
  conv => whnf
  refine callF hY gf64 rfl rfl ?_
  conv => whnf
  refine callF hC gf65 rfl rfl ?_
  conv => whnf
  by_cases h : szG t ≤ 1048576
  · have ho := ho1 h
    subst ho
    refine And.intro (fun h2 => ?_) (fun h2 => absurd (of_decide_eq_true h2) (by omega))
    conv => whnf
    have hc0 : c = cntG n t := by
      rcases Nat.lt_or_ge 1048576 (cntG n t) with h3 | h3
      · omega
      · exact hcf.2.1 h3
    rcases Nat.eq_zero_or_pos c with h0 | h0
    · rw [if_pos (by rw [← hc0, h0, Nat.zero_mul]; omega)]
      refine And.intro (fun h3 => absurd (of_decide_eq_true h3) (by omega)) (fun h3 => ?_)
      conv => whnf
      refine callF hP gf66 rfl rfl ?_
      conv => whnf
      try exact rfl
    · refine And.intro (fun h3 => ?_) (fun h3 => absurd (of_decide_eq_false h3) (by omega))
      conv => whnf
      refine And.intro (by omega) ?_
      conv => whnf
      have e1 : IntKind.i64.wrap (1048576 - (szG t : Int)) = ((1048576 - szG t : Nat) : Int) := by rw [Go.Vc.wrap_small (by omega) (by omega)]; omega
      have hdl : (1048576 - szG t) / c ≤ 1048576 - szG t := Nat.div_le_self _ _
      have e2 : IntKind.i64.wrap (Int.tdiv ((1048576 - szG t : Nat) : Int) (c : Int)) = (((1048576 - szG t) / c : Nat) : Int) := by
        rw [show Int.tdiv ((1048576 - szG t : Nat) : Int) (c : Int) = (((1048576 - szG t) / c : Nat) : Int) from rfl]
        generalize (1048576 - szG t) / c = dd at *
        rw [Go.Vc.wrap_small (by omega) (by omega)]
      have e3 : IntKind.i64.wrap ((q : Int) - 1) = ((q - 1 : Nat) : Int) := by rw [Go.Vc.wrap_small (by omega) (by omega)]; omega
      have key : (((q - 1 : Nat) : Int) > (((1048576 - szG t) / c : Nat) : Int)) ↔ ¬ szG t + cntG n t * (szG y - 1) ≤ 1048576 := by
        rw [quo_le h0, ← hc0]
        by_cases hq3 : szG y ≤ 1048576
        · have := hq1 hq3
          subst this
          omega
        · have := hq2 hq3
          subst this
          have h5 : c * 1048576 ≤ c * (szG y - 1) := Nat.mul_le_mul_left _ (by omega)
          have h6 : 1048576 ≤ c * 1048576 := Nat.le_mul_of_pos_left _ h0
          have h7 : c * (1048577 - 1) = c * 1048576 := rfl
          omega
      rw [e3, e1, e2]
      by_cases hk : szG t + cntG n t * (szG y - 1) ≤ 1048576
      · rw [if_pos hk]
        refine And.intro (fun h4 => absurd hk (key.1 (of_decide_eq_true h4))) (fun h4 => ?_)
        conv => whnf
        refine callF hP gf66 rfl rfl ?_
        conv => whnf
        try exact rfl
      · rw [if_neg hk]
        refine And.intro (fun h4 => ?_) (fun h4 => absurd (key.2 hk) (of_decide_eq_false h4))
        conv => whnf
        try exact rfl
  · rw [if_neg (by omega)]
    have ho := ho2 h
    subst ho
    refine And.intro (fun h2 => absurd (of_decide_eq_false h2) (by decide)) (fun h2 => ?_)
    conv => whnf
    try exact rfl
def unfR (t : TG) : Except Int TG := if t.k = 9 ∧ rightG t = 0 then (match t.kids with
  | u :: _ => putR u t.n t
  | [] => .error 30) else .error 30
def runfR (t : TG) : Except Int TG := if t.k = 9 ∧ rightG t = 0 then (match t.kids with
  | u :: _ => rputR u t.n t
  | [] => .error 30) else .error 30
theorem caughtOut_res (r : Except Int TG) : caughtOut (resO r) = outE r := by cases r <;> rfl
end Go.Proofs.YtcjkikadolnfgaaGreat


/- rules: an array of functions. -/
set_option linter.unusedSimpArgs false
set_option linter.unusedVariables false
namespace Go.Proofs.YtcjkikadolnfgaaGreat
open Go.Vx Go.Vc Go.RowKit
def rulesD : List D := [.val .nilFunc, .fn 116 [] [], .fn 116 [] [], .fn 116 [] [], .fn 117 [] [], .fn 118 [] [], .fn 119 [] [], .fn 120 [] [], .fn 121 [] [], .fn 122 [] [], .fn 123 [] [], .fn 123 [] [], .fn 124 [] [], .fn 125 [] [], .fn 126 [] [], .fn 127 [] [], .fn 128 [] [], .fn 129 [] [], .fn 130 [] [], .fn 131 [] [], .fn 132 [] [], .fn 133 [] [], .fn 134 [] [], .fn 135 [] [], .fn 136 [] [], .fn 137 [] []]
def rulesV : Value := .agg #[.nilFunc, .func (.func 116) #[] #[], .func (.func 116) #[] #[], .func (.func 116) #[] #[], .func (.func 117) #[] #[], .func (.func 118) #[] #[], .func (.func 119) #[] #[], .func (.func 120) #[] #[], .func (.func 121) #[] #[], .func (.func 122) #[] #[], .func (.func 123) #[] #[], .func (.func 123) #[] #[], .func (.func 124) #[] #[], .func (.func 125) #[] #[], .func (.func 126) #[] #[], .func (.func 127) #[] #[], .func (.func 128) #[] #[], .func (.func 129) #[] #[], .func (.func 130) #[] #[], .func (.func 131) #[] #[], .func (.func 132) #[] #[], .func (.func 133) #[] #[], .func (.func 134) #[] #[], .func (.func 135) #[] #[], .func (.func 136) #[] #[], .func (.func 137) #[] #[]]
theorem rules_rep {S : Nat → Prop} {w : World} : RepD S w (.agg rulesD) rulesV := by
  simp only [rulesD, rulesV, RepD, RepDs]
  simp
theorem bldRules {dst : Option Tmp} {ty : TypeId} {pos : String} {after : Array Edge} {gd : Option (Nat × Bool)} (a : Act) (w : World) : (execOp a.eval { dst := dst, op := .build 102 #[(1, .func 116), (2, .func 116), (3, .func 116), (4, .func 117), (5, .func 118), (6, .func 119), (7, .func 120), (8, .func 121), (9, .func 122), (10, .func 123), (11, .func 123), (12, .func 124), (13, .func 125), (14, .func 126), (15, .func 127), (16, .func 128), (17, .func 129), (18, .func 130), (19, .func 131), (20, .func 132), (21, .func 133), (22, .func 134), (23, .func 135), (24, .func 136), (25, .func 137)], type := ty, pos := pos, after := after, guard := gd }).run Tryz.prog w = .ok (.value rulesV) w := by
  simp only [execOp]
  exact run_val (run_build w 102 _ _ (by kernel_rfl))
theorem rules_fn : FnR Tryz.prog G0 83 [] (.agg rulesD) := by
  refine fnQ_of_vc txok mixed [] Tryz.func83 rfl rfl (by simp) fun b => ?_
  conv => whnf
  refine valC (.agg (Vx.dL rulesD)) (fun e a w hok => ⟨rulesV, ?_, bldRules a w⟩) ?_
  · have h := rules_rep (S := e.pub) (w := w)
    simp only [RepD] at h
    obtain ⟨l', h1, h2⟩ := h
    simp only [RepSV]
    exact ⟨l', h1, by rw [dL_map]; exact RepSVs.ofD.1 h2⟩
  unfold rulesD
  conv => whnf
  try exact rfl
end Go.Proofs.YtcjkikadolnfgaaGreat


/- of: a term's type, where its rule is known. -/
set_option linter.unusedSimpArgs false
set_option linter.unusedVariables false
namespace Go.Proofs.YtcjkikadolnfgaaGreat
open Go.Vx Go.Vc Go.RowKit
def fitE : Except Int TG → Except Int TG
  | .ok t => fitR t
  | .error e => .error e
set_option maxRecDepth 20000 in
theorem of_fn (vars : List Int) (l : List Bd) (m : MG) (r : Except Int TG) (j : Nat) (f : FuncId) (hk : m.k = (j : Int)) (hj : rulesD[j]? = some (.fn f [] [])) (hg : Goes Tryz.prog f) (hr : FnQ Tryz.prog G0 f [dSc vars l, dM m] (fun o => o = resO r)) (hz : ∀ t, r = .ok t → szG t < 4611686018427387904) : FnQ Tryz.prog G0 46 [dSc vars l, dM m] (fun o => o = resO (fitE r)) := by
  obtain ⟨k, n, i, nm, ls, ts, ks⟩ := m
  have hk : k = (j : Int) := hk
  subst hk
  have hlt : j < 26 := by
    have := (List.getElem?_eq_some_iff.1 hj).1
    exact this
  have hget : (Vx.dL rulesD)[j]? = some (.d (.fn f [] [])) := by rw [dL_map, List.getElem?_map, hj]; rfl
  have hf : ∀ t, r = .ok t → FnQ Tryz.prog G0 82 [dG t] (fun o => o = resO (fitR t)) := fun t ht => fit_fn t (hz t ht)
  refine fnQ_of_vc txok mixed [(1, .pure 1 (.take 2 (.take 4 (.take 5 (.run 0 (.run 3 (.fin 6 (.fin 7 (.fin 8 .done)))))))))] Tryz.func46 rfl rfl (by simp) fun b => ?_
  cases r with
  | error e =>
    conv => whnf
    refine And.intro (by kernel_rfl) ?_
    repeat' ((conv => whnf); first
      | refine And.intro ?_ ?_
      | refine callF rules_fn gf83 rfl rfl ?_
      | refine idxAC (ye := ⟨⟨.nilFunc, 1, 8, false, [], none, false, false⟩, .fn⟩) (len := 26) (el := 101) txok j (.d (.fn f [] [])) rfl rfl rfl (by kernel_rfl) hlt rfl rfl rfl hget ?_
      | (refine callQ rfl rfl hg hr ?_; rintro o rfl))
    all_goals (conv => whnf)
    all_goals (try exact rfl)
  | ok t =>
    have hf := hf t rfl
    unfold fitE
    cases hq : fitR t with
    | ok t2 =>
      rw [hq] at hf
      conv => whnf
      refine And.intro (by kernel_rfl) ?_
      repeat' ((conv => whnf); first
        | refine And.intro ?_ ?_
        | refine callF rules_fn gf83 rfl rfl ?_
        | refine idxAC (ye := ⟨⟨.nilFunc, 1, 8, false, [], none, false, false⟩, .fn⟩) (len := 26) (el := 101) txok j (.d (.fn f [] [])) rfl rfl rfl (by kernel_rfl) hlt rfl rfl rfl hget ?_
        | (refine callQ rfl rfl hg hr ?_; rintro o rfl)
        | (refine callQ rfl rfl gf82 hf ?_; rintro o rfl))
      all_goals (conv => whnf)
      all_goals (simp only [hq]; rfl)
    | error e =>
      rw [hq] at hf
      conv => whnf
      refine And.intro (by kernel_rfl) ?_
      repeat' ((conv => whnf); first
        | refine And.intro ?_ ?_
        | refine callF rules_fn gf83 rfl rfl ?_
        | refine idxAC (ye := ⟨⟨.nilFunc, 1, 8, false, [], none, false, false⟩, .fn⟩) (len := 26) (el := 101) txok j (.d (.fn f [] [])) rfl rfl rfl (by kernel_rfl) hlt rfl rfl rfl hget ?_
        | (refine callQ rfl rfl hg hr ?_; rintro o rfl)
        | (refine callQ rfl rfl gf82 hf ?_; rintro o rfl))
      all_goals (conv => whnf)
      all_goals (simp only [hq]; rfl)
end Go.Proofs.YtcjkikadolnfgaaGreat


/- The rules, as plain functions; right shapes stay right. -/
set_option linter.unusedSimpArgs false
set_option linter.unusedVariables false
namespace Go.Proofs.YtcjkikadolnfgaaGreat
open Go.Vx Go.Vc Go.RowKit
abbrev Chk := List Int → List Bd → Except Int TG
def bE (r : Except Int TG) (f : TG → Except Int TG) : Except Int TG := match r with
  | .ok t => f t
  | .error e => .error e
def askE (c : Bool) (r : Except Int TG) : Except Int TG := match c with
  | true => r
  | false => .error 30
def kidG (t : TG) (i : Nat) : TG := t.kids.getD i zG
abbrev Putt := TG → Int → TG → Except Int TG
def plainR (k : Int) : Chk := fun _ _ => .ok (if k = 1 then .mk 1 0 [] [] else if k = 2 then .mk 2 0 [] [] else .mk 3 0 [] [])
def lamR (nm : ByteArray) (a : TG) (c : Chk) : Chk := fun vars l => askE (insG a vars) (bE (c vars (l ++ [(nm, a)])) fun t => .ok (.mk 4 0 [] [a, t]))
def appRl (c d : Chk) : Chk := fun vars l => bE (c vars l) fun f => bE (d vars l) fun x => askE (f.k == 4) (askE (samG (kidG f 0) x [] []) (.ok (kidG f 1)))
def fixR (nm lb : ByteArray) (a b : TG) (c : Chk) : Chk := fun vars l => askE (insG a vars) (askE (insG b vars) (bE (fitR (.mk 4 0 [] [a, b])) fun f => bE (c vars ((l ++ [(nm, f)]) ++ [(lb, a)])) fun t => askE (samG t b [] []) (.ok f)))
def letR (nm : ByteArray) (c d : Chk) : Chk := fun vars l => bE (c vars l) fun t => d vars (l ++ [(nm, t)])
def pairR (c d : Chk) : Chk := fun vars l => bE (c vars l) fun a => bE (d vars l) fun b => .ok (.mk 5 0 [] [a, b])
def halfR (i : Nat) (c : Chk) : Chk := fun vars l => bE (c vars l) fun t => askE (t.k == 5) (.ok (kidG t i))
def chooseR (c d e : Chk) : Chk := fun vars l => bE (c vars l) fun x => bE (d vars l) fun a => bE (e vars l) fun b => askE (x.k == 2) (askE (samG a b [] []) (.ok a))
def binR (n : Int) (c d : Chk) : Chk := fun vars l => bE (c vars l) fun a => bE (d vars l) fun b => askE (a.k == 1 && b.k == 1) (.ok (if n ≥ 5 then .mk 2 0 [] [] else .mk 1 0 [] []))
def foldR (P : Putt) (a : TG) (c : Chk) : Chk := fun vars l => askE (insG a vars) (bE (c vars l) fun k => askE (a.k == 9) (bE (P (kidG a 0) a.n a) fun w => askE (samG k w [] []) (.ok a)))
def unfoldR (P : Putt) (c : Chk) : Chk := fun vars l => bE (c vars l) fun t => askE (t.k == 9) (P (kidG t 0) t.n t)
def allR (n : Int) (c : Chk) : Chk := fun vars l => if n ∈ vars then .error 30 else bE (c (vars ++ [n]) l) fun t => .ok (.mk 10 n [] [t])
def instR (P : Putt) (a : TG) (c : Chk) : Chk := fun vars l => askE (insG a vars) (bE (c vars l) fun t => askE (t.k == 10) (P (kidG t 0) t.n a))
def packR (P : Putt) (a b : TG) (c : Chk) : Chk := fun vars l => askE (insG a vars) (askE (insG b vars) (bE (c vars l) fun k => askE (b.k == 11) (bE (P (kidG b 0) b.n a) fun w => askE (samG k w [] []) (.ok b))))
def openR (P : Putt) (n : Int) (nm : ByteArray) (c d : Chk) : Chk := fun vars l => bE (c vars l) fun t => askE (t.k == 11) (if n ∈ vars then .error 30 else bE (P (kidG t 0) t.n (varG n)) fun w => bE (d (vars ++ [n]) (l ++ [(nm, w)])) fun u => askE (!decide (n ∈ freeS u)) (.ok u))
def failR (a : TG) : Chk := fun vars _ => askE (insG a vars) (.ok a)
def Bnd (l : List Bd) : Prop := ∀ x ∈ l, allG x.2 = true ∧ szG x.2 ≤ 1073741824
def Good (r : Except Int TG) : Prop := ∀ t, r = .ok t → allG t = true ∧ szG t ≤ 1048576
def KidOk (u : MG) (c : Chk) : Prop := ∀ vars l, vars.length + szM u ≤ 549755813888 → l.length + 2 * szM u ≤ 549755813888 → Bnd l → FnQ Tryz.prog G0 46 [dSc vars l, dM u] (fun o => o = resO (c vars l)) ∧ Good (c vars l)
theorem Bnd.snoc {l : List Bd} (h : Bnd l) {nm : ByteArray} {t : TG} (ht : allG t = true) (hz : szG t ≤ 1073741824) : Bnd (l ++ [(nm, t)]) := by
  intro x hx
  rcases List.mem_append.1 hx with hx | hx
  · exact h x hx
  · rw [List.mem_singleton.1 hx]; exact ⟨ht, hz⟩
theorem allGs_iff (l : List TG) : allGs l = true ↔ ∀ u ∈ l, allG u = true := by
  induction l with
  | nil => simp [allGs]
  | cons t r ih => simp [allGs, ih]
theorem allG_mk (k n : Int) (ls : List ByteArray) (l : List TG) : allG (.mk k n ls l) = true ↔ shpG (.mk k n ls l) = true ∧ ∀ u ∈ l, allG u = true := by
  rw [allG, Bool.and_eq_true, allGs_iff]
theorem allG_okV {t : TG} (h : allG t = true) : okV t = true := okV_right t (by rw [all_right]; exact h)
theorem shpG_mk (k n : Int) (ls : List ByteArray) (l : List TG) : shpG (.mk k n ls l) = (if k = 1 ∨ k = 2 ∨ k = 3 then n == 0 && (ls.length : Int) == 0 && (l.length : Int) == 0
  else if k = 4 ∨ k = 5 then n == 0 && (ls.length : Int) == 0 && (l.length : Int) == 2
  else if k = 6 then (ls.length : Int) == 0 && (l.length : Int) == 0
  else if k = 7 then n == 0 && ordS ls && (ls.length : Int) == (l.length : Int)
  else if k = 8 then n == 0 && (ls.length : Int) == 0
  else if k = 9 ∨ k = 10 ∨ k = 11 then (ls.length : Int) == 0 && (l.length : Int) == 1
  else false) := rfl
theorem shp2 {k n : Int} {ls : List ByteArray} {l : List TG} (hk : k = 4 ∨ k = 5) (h : shpG (.mk k n ls l) = true) : n = 0 ∧ ls = [] ∧ ∃ a b, l = [a, b] := by
  rw [shpG_mk] at h
  rw [if_neg (by omega), if_pos hk] at h
  simp only [Bool.and_eq_true, beq_iff_eq] at h
  obtain ⟨⟨h1, h2⟩, h3⟩ := h
  refine ⟨h1, List.length_eq_zero_iff.1 (by exact Int.ofNat.inj h2), ?_⟩
  have h4 : l.length = 2 := Int.ofNat.inj h3
  match l, h4 with
  | [a, b], _ => exact ⟨a, b, rfl⟩
theorem shp1 {k n : Int} {ls : List ByteArray} {l : List TG} (hk : k = 9 ∨ k = 10 ∨ k = 11) (h : shpG (.mk k n ls l) = true) : ls = [] ∧ ∃ a, l = [a] := by
  rw [shpG_mk] at h
  rw [if_neg (by omega), if_neg (by omega), if_neg (by omega), if_neg (by omega), if_neg (by omega), if_pos hk] at h
  simp only [Bool.and_eq_true, beq_iff_eq] at h
  obtain ⟨h2, h3⟩ := h
  exact ⟨List.length_eq_zero_iff.1 (by exact Int.ofNat.inj h2), List.length_eq_one_iff.1 (by exact Int.ofNat.inj h3)⟩
theorem shpG_congr {k n n' : Int} {ls : List ByteArray} {l l' : List TG} (hb : bndG k = true) (hl : l.length = l'.length) (h : shpG (.mk k n ls l) = true) : shpG (.mk k n' ls l') = true := by
  simp only [bndG, Bool.or_eq_true, beq_iff_eq] at hb
  rw [shpG_mk] at h ⊢
  rw [if_neg (by omega), if_neg (by omega), if_neg (by omega), if_neg (by omega), if_neg (by omega), if_pos (by omega)] at h ⊢
  rw [← hl]; exact h
theorem shpG_kids {k n : Int} {ls : List ByteArray} {l l' : List TG} (hl : l.length = l'.length) (h : shpG (.mk k n ls l) = true) : shpG (.mk k n ls l') = true := by
  rw [shpG_mk] at h ⊢
  rw [← hl]
  exact h
theorem allG_var (m : Int) : allG (varG m) = true := by rw [varG, allG_mk]; exact ⟨rfl, nofun⟩
theorem allG_put : ∀ (f : Nat) (t : TG) (x : Int) (y : TG) (fr : List Int), allG y = true → allG t = true → allG (putF f t x y fr) = true
  | 0, t, _, _, _, _, h => h
  | f + 1, .mk k n ls l, x, y, fr, hy, h => by
    rw [putF_mk]
    obtain ⟨h1, h2⟩ := (allG_mk k n ls l).1 h
    split
    · exact hy
    split
    · exact h
    split
    · rename_i hb
      refine (allG_mk _ _ _ _).2 ⟨shpG_congr hb.1 (by simp) h1, fun u hu => ?_⟩
      rw [List.mem_map] at hu
      obtain ⟨v, hv, rfl⟩ := hu
      rw [List.mem_map] at hv
      obtain ⟨w, hw, rfl⟩ := hv
      exact allG_put f _ x y fr hy (allG_put f w _ _ _ (allG_var _) (h2 w hw))
    · refine (allG_mk _ _ _ _).2 ⟨shpG_kids (by simp) h1, fun u hu => ?_⟩
      rw [List.mem_map] at hu
      obtain ⟨v, hv, rfl⟩ := hu
      exact allG_put f v x y fr hy (h2 v hv)
theorem allG_rput : ∀ (f : Nat) (t : TG) (x : Int) (y : TG), allG y = true → allG t = true → allG (rputF f t x y) = true
  | 0, _, _, _, _, h => h
  | f + 1, .mk k n ls l, x, y, hy, h => by
    obtain ⟨h1, h2⟩ := (allG_mk k n ls l).1 h
    rw [rputF_mk]
    split
    · exact hy
    split
    · exact h
    split
    · rename_i hb
      refine (allG_mk ..).2 ⟨shpG_congr hb.1 (by simp) h1, fun u hu => ?_⟩
      obtain ⟨w, hw, rfl⟩ := List.mem_map.1 hu
      exact allG_rput f _ x y hy (allG_rput f w n _ (allG_var _) (h2 w hw))
    · refine (allG_mk ..).2 ⟨shpG_kids (by simp) h1, fun u hu => ?_⟩
      obtain ⟨w, hw, rfl⟩ := List.mem_map.1 hu
      exact allG_rput f w x y hy (h2 w hw)
theorem right_all {t : TG} (h : rightG t = 0) : allG t = true := by
  unfold rightG at h
  split at h
  · cases h
  · split at h
    · assumption
    · cases h
theorem ins_all {t : TG} {vars : List Int} (h : insG t vars = true) : allG t = true := by
  unfold insG at h
  rw [Bool.and_eq_true] at h
  exact right_all (eq_of_beq h.1)
theorem putR_good {t y : TG} {x : Int} {w : TG} (ht : allG t = true) (hy : allG y = true) (h : putR t x y = .ok w) : allG w = true ∧ szG w ≤ 1048576 := by
  unfold putR at h
  split at h
  · rename_i hc
    injection h with h; subst h
    refine ⟨allG_put _ _ _ _ _ hy ht, ?_⟩
    have h1 := sz_putF (szG t) t x y (freeS y) (Nat.le_refl _) (allG_okV ht) (allG_okV hy) (fun z => mem_freeS y z)
    have h2 := cnt_le t x
    have h3 := szG_pos y
    have h4 : cntG x t * szG y = cntG x t * (szG y - 1) + cntG x t := by
      conv => rhs; rw [← Nat.mul_succ]
      congr 1; omega
    omega
  · cases h
end Go.Proofs.YtcjkikadolnfgaaGreat


/- target.shapes: an array of structs (printed by gba.py). -/
set_option linter.unusedSimpArgs false
set_option linter.unusedVariables false
namespace Go.Proofs.YtcjkikadolnfgaaGreat
open Go.Vx Go.Vc Go.RowKit
structure Shp where
  (n i nm : Bool)
  (ls ts ks : Int)
def shpTab : List Shp := [⟨false, false, false, 0, 0, 0⟩, ⟨false, true, false, 0, 0, 0⟩, ⟨false, true, false, 0, 0, 0⟩, ⟨false, false, false, 0, 0, 0⟩, ⟨false, false, true, 0, 0, 0⟩, ⟨false, false, true, 0, 1, 1⟩, ⟨false, false, false, 0, 0, 2⟩, ⟨false, false, true, 1, 2, 1⟩, ⟨false, false, true, 0, 0, 2⟩, ⟨false, false, false, 0, 0, 2⟩, ⟨false, false, false, 0, 0, 1⟩, ⟨false, false, false, 0, 0, 1⟩, ⟨false, false, false, 0, 0, 3⟩, ⟨true, false, false, 0, 0, 2⟩, ⟨false, false, false, (-3), 0, (-1)⟩, ⟨false, false, true, 0, 0, 1⟩, ⟨true, false, false, 0, 1, 1⟩, ⟨false, false, false, (-2), 0, (-1)⟩, ⟨false, false, false, 0, 1, 1⟩, ⟨false, false, false, 0, 0, 1⟩, ⟨true, false, false, 0, 0, 1⟩, ⟨false, false, false, 0, 1, 1⟩, ⟨false, false, false, 0, 2, 1⟩, ⟨true, false, true, 0, 0, 2⟩, ⟨false, false, false, 0, 1, 0⟩, ⟨false, false, false, 0, 0, 1⟩]
def shpC (s : Shp) : List D := [.bool s.n, .bool s.i, .bool s.nm, .int .i64 s.ls, .int .i64 s.ts, .int .i64 s.ks]
def shapesD : List D := fl shpC shpTab
def shapesV : Value := .agg #[.bool false, .bool false, .bool false, .int .i64 0, .int .i64 0, .int .i64 0, .bool false, .bool true, .bool false, .int .i64 0, .int .i64 0, .int .i64 0, .bool false, .bool true, .bool false, .int .i64 0, .int .i64 0, .int .i64 0, .bool false, .bool false, .bool false, .int .i64 0, .int .i64 0, .int .i64 0, .bool false, .bool false, .bool true, .int .i64 0, .int .i64 0, .int .i64 0, .bool false, .bool false, .bool true, .int .i64 0, .int .i64 1, .int .i64 1, .bool false, .bool false, .bool false, .int .i64 0, .int .i64 0, .int .i64 2, .bool false, .bool false, .bool true, .int .i64 1, .int .i64 2, .int .i64 1, .bool false, .bool false, .bool true, .int .i64 0, .int .i64 0, .int .i64 2, .bool false, .bool false, .bool false, .int .i64 0, .int .i64 0, .int .i64 2, .bool false, .bool false, .bool false, .int .i64 0, .int .i64 0, .int .i64 1, .bool false, .bool false, .bool false, .int .i64 0, .int .i64 0, .int .i64 1, .bool false, .bool false, .bool false, .int .i64 0, .int .i64 0, .int .i64 3, .bool true, .bool false, .bool false, .int .i64 0, .int .i64 0, .int .i64 2, .bool false, .bool false, .bool false, .int .i64 (-3), .int .i64 0, .int .i64 (-1), .bool false, .bool false, .bool true, .int .i64 0, .int .i64 0, .int .i64 1, .bool true, .bool false, .bool false, .int .i64 0, .int .i64 1, .int .i64 1, .bool false, .bool false, .bool false, .int .i64 (-2), .int .i64 0, .int .i64 (-1), .bool false, .bool false, .bool false, .int .i64 0, .int .i64 1, .int .i64 1, .bool false, .bool false, .bool false, .int .i64 0, .int .i64 0, .int .i64 1, .bool true, .bool false, .bool false, .int .i64 0, .int .i64 0, .int .i64 1, .bool false, .bool false, .bool false, .int .i64 0, .int .i64 1, .int .i64 1, .bool false, .bool false, .bool false, .int .i64 0, .int .i64 2, .int .i64 1, .bool true, .bool false, .bool true, .int .i64 0, .int .i64 0, .int .i64 2, .bool false, .bool false, .bool false, .int .i64 0, .int .i64 1, .int .i64 0, .bool false, .bool false, .bool false, .int .i64 0, .int .i64 0, .int .i64 1]
def dv : D → Value
  | .bool b => .bool b
  | .int k n => .int k n
  | _ => .nilFunc
def isBI : D → Bool
  | .bool _ => true
  | .int _ _ => true
  | _ => false
theorem rep_dv {S : Nat → Prop} {w : World} : ∀ l : List D, l.all isBI = true → RepDs S w l (l.map dv)
  | [], _ => by simp [RepDs]
  | x :: r, h => by
    rw [List.all_cons, Bool.and_eq_true] at h
    have hr := rep_dv (S := S) (w := w) r h.2
    simp only [RepDs, List.map_cons]
    refine ⟨dv x, _, rfl, ?_, hr⟩
    cases x with
    | bool b => simp only [RepD, dv]
    | int k n => simp only [RepD, dv]
    | _ => cases h.1
set_option maxRecDepth 20000 in
theorem shapes_rep {S : Nat → Prop} {w : World} : RepD S w (.agg shapesD) shapesV := by
  simp only [RepD]
  exact ⟨_, rfl, rep_dv (S := S) (w := w) shapesD (by rfl)⟩
theorem shp6 {e : Env} {w : World} {v : Value} {a b c : Go.Vx.SV} {x y z : Int} {p q r : Bool} (h : RepSV e w (.agg [a, b, c, .d (.int .i64 x), .d (.int .i64 y), .d (.int .i64 z)]) v)
    (ha : ∀ u, RepSV e w a u → u = .bool p) (hb : ∀ u, RepSV e w b u → u = .bool q) (hc : ∀ u, RepSV e w c u → u = .bool r) : v = .agg #[.bool p, .bool q, .bool r, .int .i64 x, .int .i64 y, .int .i64 z] := by
  simp only [RepSV, RepSVs, RepD] at h
  obtain ⟨l, rfl, v1, s1, e1, h1, v2, s2, rfl, h2, v3, s3, rfl, h3, v4, s4, rfl, h4, v5, s5, rfl, h5, v6, s6, rfl, h6, rfl⟩ := h
  subst h4; subst h5; subst h6
  obtain rfl := ha _ h1
  obtain rfl := hb _ h2
  obtain rfl := hc _ h3
  refine congrArg Value.agg ?_
  apply Array.ext'
  rw [e1]
theorem shpF {e : Env} {w : World} (u : Value) (h : RepSV e w (.d (.bool false)) u) : u = .bool false := by simpa only [RepSV, RepD] using h
theorem shpT {e : Env} {w : World} (u : Value) (h : RepSV e w (.kb true) u) : u = .bool true := by simpa only [RepSV] using h
set_option maxRecDepth 20000 in
theorem bldShapes {e : Env} {w : World} {a : Act} (h1 : a.eval (.tmp 1) = .agg #[.bool false, .bool true, .bool false, .int .i64 0, .int .i64 0, .int .i64 0]) (h2 : a.eval (.tmp 2) = .agg #[.bool false, .bool true, .bool false, .int .i64 0, .int .i64 0, .int .i64 0]) (h3 : a.eval (.tmp 3) = .agg #[.bool false, .bool false, .bool false, .int .i64 0, .int .i64 0, .int .i64 0]) (h4 : a.eval (.tmp 4) = .agg #[.bool false, .bool false, .bool true, .int .i64 0, .int .i64 0, .int .i64 0]) (h5 : a.eval (.tmp 5) = .agg #[.bool false, .bool false, .bool true, .int .i64 0, .int .i64 1, .int .i64 1]) (h6 : a.eval (.tmp 6) = .agg #[.bool false, .bool false, .bool false, .int .i64 0, .int .i64 0, .int .i64 2]) (h7 : a.eval (.tmp 7) = .agg #[.bool false, .bool false, .bool true, .int .i64 1, .int .i64 2, .int .i64 1]) (h8 : a.eval (.tmp 8) = .agg #[.bool false, .bool false, .bool true, .int .i64 0, .int .i64 0, .int .i64 2]) (h9 : a.eval (.tmp 9) = .agg #[.bool false, .bool false, .bool false, .int .i64 0, .int .i64 0, .int .i64 2]) (h10 : a.eval (.tmp 10) = .agg #[.bool false, .bool false, .bool false, .int .i64 0, .int .i64 0, .int .i64 1]) (h11 : a.eval (.tmp 11) = .agg #[.bool false, .bool false, .bool false, .int .i64 0, .int .i64 0, .int .i64 1]) (h12 : a.eval (.tmp 12) = .agg #[.bool false, .bool false, .bool false, .int .i64 0, .int .i64 0, .int .i64 3]) (h13 : a.eval (.tmp 13) = .agg #[.bool true, .bool false, .bool false, .int .i64 0, .int .i64 0, .int .i64 2]) (h14 : a.eval (.tmp 14) = .agg #[.bool false, .bool false, .bool false, .int .i64 (-3), .int .i64 0, .int .i64 (-1)]) (h15 : a.eval (.tmp 15) = .agg #[.bool false, .bool false, .bool true, .int .i64 0, .int .i64 0, .int .i64 1]) (h16 : a.eval (.tmp 16) = .agg #[.bool true, .bool false, .bool false, .int .i64 0, .int .i64 1, .int .i64 1]) (h17 : a.eval (.tmp 17) = .agg #[.bool false, .bool false, .bool false, .int .i64 (-2), .int .i64 0, .int .i64 (-1)]) (h18 : a.eval (.tmp 18) = .agg #[.bool false, .bool false, .bool false, .int .i64 0, .int .i64 1, .int .i64 1]) (h19 : a.eval (.tmp 19) = .agg #[.bool false, .bool false, .bool false, .int .i64 0, .int .i64 0, .int .i64 1]) (h20 : a.eval (.tmp 20) = .agg #[.bool true, .bool false, .bool false, .int .i64 0, .int .i64 0, .int .i64 1]) (h21 : a.eval (.tmp 21) = .agg #[.bool false, .bool false, .bool false, .int .i64 0, .int .i64 1, .int .i64 1]) (h22 : a.eval (.tmp 22) = .agg #[.bool false, .bool false, .bool false, .int .i64 0, .int .i64 2, .int .i64 1]) (h23 : a.eval (.tmp 23) = .agg #[.bool true, .bool false, .bool true, .int .i64 0, .int .i64 0, .int .i64 2]) (h24 : a.eval (.tmp 24) = .agg #[.bool false, .bool false, .bool false, .int .i64 0, .int .i64 1, .int .i64 0]) (h25 : a.eval (.tmp 25) = .agg #[.bool false, .bool false, .bool false, .int .i64 0, .int .i64 0, .int .i64 1]) {dst : Option Tmp} {ty : TypeId} {pos : String} {after : Array Edge} {gd : Option (Nat × Bool)} : (execOp a.eval { dst := dst, op := .build 148 #[(1, .tmp 1), (2, .tmp 2), (3, .tmp 3), (4, .tmp 4), (5, .tmp 5), (6, .tmp 6), (7, .tmp 7), (8, .tmp 8), (9, .tmp 9), (10, .tmp 10), (11, .tmp 11), (12, .tmp 12), (13, .tmp 13), (14, .tmp 14), (15, .tmp 15), (16, .tmp 16), (17, .tmp 17), (18, .tmp 18), (19, .tmp 19), (20, .tmp 20), (21, .tmp 21), (22, .tmp 22), (23, .tmp 23), (24, .tmp 24), (25, .tmp 25)], type := ty, pos := pos, after := after, guard := gd }).run Tryz.prog w = .ok (.value shapesV) w := by
  simp only [execOp, List.map_toArray, List.map_cons, List.map_nil, h1, h2, h3, h4, h5, h6, h7, h8, h9, h10, h11, h12, h13, h14, h15, h16, h17, h18, h19, h20, h21, h22, h23, h24, h25]
  exact run_val (run_build w 148 _ _ (by kernel_rfl))
set_option maxRecDepth 20000 in
theorem shapes_fn : FnR Tryz.prog G0 163 [] (.agg shapesD) := by
  refine fnQ_of_vc txok mixed [] Tryz.func163 rfl rfl (by simp) fun b => ?_
  conv => whnf
  refine valC (.agg (Vx.dL shapesD)) (fun e a w hok => ⟨shapesV, ?_, ?_⟩) ?_
  · have h := shapes_rep (S := e.pub) (w := w)
    simp only [RepD] at h
    obtain ⟨l', h1, h2⟩ := h
    simp only [RepSV]
    exact ⟨l', h1, by rw [dL_map]; exact RepSVs.ofD.1 h2⟩
  · have hv := hok.tmok
    exact bldShapes (e := e) (shp6 (hv (.tmp 1) _ rfl) shpF shpT shpF) (shp6 (hv (.tmp 2) _ rfl) shpF shpT shpF) (shp6 (hv (.tmp 3) _ rfl) shpF shpF shpF) (shp6 (hv (.tmp 4) _ rfl) shpF shpF shpT) (shp6 (hv (.tmp 5) _ rfl) shpF shpF shpT) (shp6 (hv (.tmp 6) _ rfl) shpF shpF shpF) (shp6 (hv (.tmp 7) _ rfl) shpF shpF shpT) (shp6 (hv (.tmp 8) _ rfl) shpF shpF shpT) (shp6 (hv (.tmp 9) _ rfl) shpF shpF shpF) (shp6 (hv (.tmp 10) _ rfl) shpF shpF shpF) (shp6 (hv (.tmp 11) _ rfl) shpF shpF shpF) (shp6 (hv (.tmp 12) _ rfl) shpF shpF shpF) (shp6 (hv (.tmp 13) _ rfl) shpT shpF shpF) (shp6 (hv (.tmp 14) _ rfl) shpF shpF shpF) (shp6 (hv (.tmp 15) _ rfl) shpF shpF shpT) (shp6 (hv (.tmp 16) _ rfl) shpT shpF shpF) (shp6 (hv (.tmp 17) _ rfl) shpF shpF shpF) (shp6 (hv (.tmp 18) _ rfl) shpF shpF shpF) (shp6 (hv (.tmp 19) _ rfl) shpF shpF shpF) (shp6 (hv (.tmp 20) _ rfl) shpT shpF shpF) (shp6 (hv (.tmp 21) _ rfl) shpF shpF shpF) (shp6 (hv (.tmp 22) _ rfl) shpF shpF shpF) (shp6 (hv (.tmp 23) _ rfl) shpT shpF shpT) (shp6 (hv (.tmp 24) _ rfl) shpF shpF shpF) (shp6 (hv (.tmp 25) _ rfl) shpF shpF shpF)
  unfold shapesD shpTab
  conv => whnf
  try exact rfl
end Go.Proofs.YtcjkikadolnfgaaGreat


/- Which terms have the right shape. -/
set_option linter.unusedSimpArgs false
set_option linter.unusedVariables false
namespace Go.Proofs.YtcjkikadolnfgaaGreat
open Go.Vx Go.Vc Go.RowKit
def badM (s : Shp) (m : MG) : Bool := (!s.n && m.n != 0) || (!s.i && m.i != 0) || (!s.nm && !(m.nm.toList == (⟨#[]⟩ : ByteArray).toList)) || ((m.ts.length : Int) != s.ts) || (decide (s.ks ≥ 0) && (m.ks.length : Int) != s.ks)
def endM (s : Shp) (m : MG) : Bool :=
  if s.ls = -3 then (m.ls.length : Int) == (m.ks.length : Int) && ordS m.ls
  else if s.ls = -2 then (m.ks.length : Int) == (m.ls.length : Int) + 1
  else if (m.ls.length : Int) ≠ s.ls then false
  else if m.k = 2 then m.i == 0 || m.i == 1
  else if m.k = 13 then decide (m.n ≥ 1) && decide (m.n ≤ 6)
  else if m.k = 16 then decide (m.n ≥ 0)
  else true
def shpOf (k : Int) : Shp := shpTab.getD k.toNat ⟨false, false, false, 0, 0, 0⟩
def shpM (m : MG) : Bool := if m.k < 1 ∨ m.k > 25 then false else if badM (shpOf m.k) m = true then false else endM (shpOf m.k) m
abbrev tmS (m : MG) : List Vx.SV := [.d (.int .i64 m.k), .d (.int .i64 m.n), .d (.int .i64 m.i), .d (.str m.nm), .d (dL m.ls), .d (dGs m.ts), .d (dMs m.ks)]
abbrev shS (s : Shp) : List Vx.SV := [.d (.bool s.n), .d (.bool s.i), .d (.bool s.nm), .d (.int .i64 s.ls), .d (.int .i64 s.ts), .d (.int .i64 s.ks)]
theorem shpTab_get (j : Nat) (hj : j < 26) : ((Vx.dL shapesD).drop (j * 6)).take 6 = shS (shpOf (j : Int)) := by
  have hl : j < shpTab.length := hj
  have h := fl_at (f := shpC) (w := 6) (fun _ => rfl) shpTab j hl
  have e : shpOf (j : Int) = shpTab[j] := by
    unfold shpOf
    rw [Int.toNat_natCast, List.getD_eq_getElem?_getD, List.getElem?_eq_getElem hl]; rfl
  rw [e, dL_map, ← List.map_drop, ← List.map_take]
  exact congrArg (List.map Vx.SV.d) h
theorem shpM_mk (k n i : Int) (nm : ByteArray) (ls : List ByteArray) (ts : List TG) (ks : List MG) : shpM (.mk k n i nm ls ts ks) = (if k < 1 ∨ k > 25 then false else if badM (shpOf k) (.mk k n i nm ls ts ks) = true then false else endM (shpOf k) (.mk k n i nm ls ts ks)) := rfl
set_option maxRecDepth 20000 in
theorem termShape_fn (m : MG) : FnR Tryz.prog G0 112 [dM m] (.bool (shpM m)) := by
  obtain ⟨k, n, i, nm, ls, ts, ks⟩ := m
  refine fnQ_sz fun hs0 => ?_
  have hls := (szOk_M hs0.1).2.2.2
  simp only [MG.ls, LB] at hls
  have hw : IntKind.i64.wrap ((ls.length : Int) + 1) = (ls.length : Int) + 1 := Go.Vc.wrap_small (by omega) (by omega)
  clear hs0
  refine fnQ_of_wk (N := 124) txok mixed Tryz.func112 rfl rfl (by simp) fun b => ?_
  refine wk_seq ⟨[(1, .own 0 0)], [(0, .blk 26 (tmS (.mk k n i nm ls ts ks)))], 1⟩ (wk_vc txok mixed [] ?_) ?_
  · conv => whnf
    exact weak_of rfl (by repeat ((conv => whnf); first | exact trivial | refine And.intro rfl ?_ | refine And.intro (incD (by omega)) ?_)) (by repeat ((conv => whnf); first | exact trivial | refine And.intro rfl ?_ | refine And.intro (incD (by omega)) ?_))
  by_cases hr : k < 1 ∨ k > 25
  · rw [shpM_mk, if_pos hr]
    refine wk_seqR (wk_vc txok mixed [] ?_)
    conv => whnf
    refine And.intro (fun h => ?_) (fun h => ?_)
    · have h : ¬ k < 1 := of_decide_eq_false h
      conv => whnf
      refine And.intro (fun h2 => ?_) (fun h2 => ?_)
      · conv => whnf
        try exact rfl
      · exfalso
        have h2 : ¬ k > 25 := by simpa [MG.k] using h2
        omega
    · conv => whnf
      try exact rfl
  rw [shpM_mk, if_neg hr]
  refine wk_seq ⟨[(1, .own 0 0)], [(0, .blk 26 (tmS (.mk k n i nm ls ts ks)))], 1⟩ (wk_vc txok mixed [] ?_) ?_
  · conv => whnf
    refine And.intro (fun h => ?_) (fun h => ?_)
    · conv => whnf
      refine And.intro (fun h2 => ?_) (fun h2 => ?_)
      · exfalso
        have h2 : k > 25 := by simpa [MG.k] using h2
        omega
      · conv => whnf
        exact weak_of rfl (by repeat ((conv => whnf); first | exact trivial | refine And.intro rfl ?_ | refine And.intro (incD (by omega)) ?_)) (by repeat ((conv => whnf); first | exact trivial | refine And.intro rfl ?_ | refine And.intro (incD (by omega)) ?_))
    · exfalso
      have h : k < 1 := of_decide_eq_true h
      omega
  obtain ⟨j, rfl⟩ : ∃ j : Nat, k = (j : Int) := ⟨k.toNat, by omega⟩
  have hj : j < 26 := by omega
  have hget := shpTab_get j hj
  generalize hs : shpOf (j : Int) = s at *
  obtain ⟨s1, s2, s3, s4, s5, s6⟩ := s
  refine wk_seq ⟨[(1, .own 0 0), (3, .own 1 0)], [(0, .blk 26 (tmS (.mk (j : Int) n i nm ls ts ks))), (1, .blk 147 (shS ⟨s1, s2, s3, s4, s5, s6⟩))], 2⟩ (wk_vc txok mixed [(3, .pure 1 (.take 2 (.two 0 4 (.two 3 4 (.run 4 (.fin 5 .done)) (.run 3 (.fin 5 .done))) (.run 0 (.run 3 (.fin 5 .done))))))] ?_) ?_
  · repeat' ((conv => whnf); first
      | refine And.intro (by kernel_rfl) ?_
      | refine And.intro ?_ ?_
      | refine callF shapes_fn gf163 rfl rfl ?_
      | refine idxAA (len := 26) (el := 147) (sz := 6) txok j rfl rfl rfl (by kernel_rfl) hj rfl rfl rfl hget ?_)
    all_goals (try (conv => whnf))
    all_goals exact weak_of rfl (by repeat ((conv => whnf); first | exact trivial | refine And.intro rfl ?_ | refine And.intro (incD (by omega)) ?_)) (by repeat ((conv => whnf); first | exact trivial | refine And.intro rfl ?_ | refine And.intro (incD (by omega)) ?_))
  by_cases hbad : badM ⟨s1, s2, s3, s4, s5, s6⟩ (.mk (j : Int) n i nm ls ts ks) = true
  · rw [if_pos hbad]
    refine wk_seqR (wk_vc txok mixed [] ?_)
    repeat' ((conv => whnf); first | refine And.intro (fun _ => ?_) (fun _ => ?_))
    all_goals (try (conv => whnf))
    all_goals first | exact rfl | (exfalso; clear hget hs; simp_all [badM, MG.n, MG.i, MG.nm, MG.ts, MG.ks]; done)
  rw [if_neg hbad]
  refine wk_seq ⟨[(1, .own 0 0), (3, .own 1 0)], [(0, .blk 26 (tmS (.mk (j : Int) n i nm ls ts ks))), (1, .blk 147 (shS ⟨s1, s2, s3, s4, s5, s6⟩))], 2⟩ (wk_vc txok mixed [] ?_) ?_
  · repeat' ((conv => whnf); first | refine And.intro (fun _ => ?_) (fun _ => ?_))
    all_goals (try (conv => whnf))
    all_goals first | (exact weak_of rfl (by repeat ((conv => whnf); first | exact trivial | refine And.intro rfl ?_ | refine And.intro (incD (by omega)) ?_)) (by repeat ((conv => whnf); first | exact trivial | refine And.intro rfl ?_ | refine And.intro (incD (by omega)) ?_))) | (exfalso; clear hget hs; simp_all [badM, MG.n, MG.i, MG.nm, MG.ts, MG.ks]; done)
  refine wk_vc txok mixed [] ?_
  repeat' ((conv => whnf); first
    | refine And.intro (fun _ => ?_) (fun _ => ?_)
    | refine callF (ordered_fn ls) gf99 rfl rfl ?_)
  all_goals (try (conv => whnf))
  all_goals refine congrArg D.bool ?_
  all_goals (clear hget hs hbad; simp only [MG.k, MG.n, MG.i, MG.nm, MG.ls, MG.ts, MG.ks, beq_iff_eq, beq_eq_false_iff_ne, bne_iff_ne, ne_eq, bne_eq_false_iff_eq, decide_eq_true_eq, decide_eq_false_iff_not, Bool.not_false, Bool.not_true] at *)
  all_goals (unfold endM; first | (simp_all [MG.k, MG.n, MG.i, MG.nm, MG.ls, MG.ts, MG.ks]; done) | (simp_all [MG.k, MG.n, MG.i, MG.nm, MG.ls, MG.ts, MG.ks]; intro h; omega))
def idxM (p : MG → Bool) : List MG → Int → Int
  | [], _ => -1
  | t :: r, i => if p t then i else idxM p r (i + 1)
theorem idxM_nonneg (p : MG → Bool) : ∀ (l : List MG) (i : Int), 0 ≤ i → (0 ≤ idxM p l i ↔ l.any p = true)
  | [], i, h => by simp [idxM]
  | t :: r, i, h => by
    simp only [idxM, List.any_cons]
    by_cases hp : p t = true
    · rw [if_pos hp, hp]; simp [h]
    · rw [if_neg hp, idxM_nonneg p r (i + 1) (by omega)]; simp [hp]
theorem indexFuncM_fn (f : FuncId) (p : MG → Bool) (l : List MG) (hg : Goes Tryz.prog f) (ih : ∀ t ∈ l, FnR Tryz.prog G0 f [dM t] (.bool (p t))) : FnR Tryz.prog G0 164 [dMs l, .fn f [] []] (.int .i64 (idxM p l 0)) := by
  refine fnQ_sz fun hs => ?_
  have hl := (szOk_sl hs.1).1
  simp only [LB] at hl
  refine fnQ_of_vc txok mixed [] Tryz.func164 rfl rfl (by simp) fun b => ?_
  conv => whnf
  refine loopH (fun i : Nat => i ≤ l.length ∧ idxM p l 0 = idxM p (l.drop i) i) (fun i => l.length - i) (fun i => [(8, .d (.int .i64 i))]) (fun _ => []) 0 0 ⟨by omega, rfl⟩ (weak_of rfl (by repeat ((conv => whnf); first | exact trivial | refine And.intro rfl ?_ | refine And.intro (incD (by omega)) ?_)) (by repeat ((conv => whnf); first | exact trivial | refine And.intro rfl ?_ | refine And.intro (incD (by omega)) ?_))) ?_
  rintro i ⟨hi, hx⟩
  conv => whnf
  refine And.intro (fun hb => ?_) (fun hb => ?_)
  · have hb := of_decide_eq_true hb
    have hil : i < l.length := by omega
    rw [List.drop_eq_getElem_cons hil, idxM] at hx
    conv => whnf
    refine IdxC.encMs i hil rfl ?_
    conv => whnf
    refine callF (ih l[i] (by simp)) hg rfl rfl ?_
    conv => whnf
    refine And.intro (fun he => ?_) (fun he => ?_)
    · conv => whnf
      rw [hx, if_pos he]
    · conv => whnf
      rw [if_neg (by simp [he])] at hx
      exact again (i + 1) (by omega) ⟨by omega, by rw [hx]; rfl⟩ (weak_of rfl (by repeat ((conv => whnf); first | exact trivial | refine And.intro rfl ?_ | refine And.intro (incD (by omega)) ?_)) (by repeat ((conv => whnf); first | exact trivial | refine And.intro rfl ?_ | refine And.intro (incD (by omega)) ?_)))
  · have hb := of_decide_eq_false hb
    conv => whnf
    rw [hx, List.drop_eq_nil_of_le (by omega)]; rfl
theorem containsFuncM_fn (f : FuncId) (p : MG → Bool) (l : List MG) (hg : Goes Tryz.prog f) (ih : ∀ t ∈ l, FnR Tryz.prog G0 f [dM t] (.bool (p t))) : FnR Tryz.prog G0 114 [dMs l, .fn f [] []] (.bool (l.any p)) := by
  refine fnQ_of_vc txok mixed [] Tryz.func114 rfl rfl (by simp) fun b => ?_
  conv => whnf
  refine callF (indexFuncM_fn f p l hg ih) gf164 rfl rfl ?_
  conv => whnf
  refine congrArg D.bool ?_
  rw [Bool.eq_iff_iff, decide_eq_true_iff]
  exact idxM_nonneg p l 0 (by omega)
theorem indexFuncG0_fn (f : FuncId) (p : TG → Bool) (l : List TG) (hg : Goes Tryz.prog f) (ih : ∀ t ∈ l, FnR Tryz.prog G0 f [dG t] (.bool (p t))) : FnR Tryz.prog G0 146 [dGs l, .fn f [] []] (.int .i64 (idxG p l 0)) := by
  refine fnQ_sz fun hs => ?_
  have hl := (szOk_sl hs.1).1
  simp only [LB] at hl
  refine fnQ_of_vc txok mixed [] Tryz.func146 rfl rfl (by simp) fun b => ?_
  conv => whnf
  refine loopH (fun i : Nat => i ≤ l.length ∧ idxG p l 0 = idxG p (l.drop i) i) (fun i => l.length - i) (fun i => [(8, .d (.int .i64 i))]) (fun _ => []) 0 0 ⟨by omega, rfl⟩ (weak_of rfl (by repeat ((conv => whnf); first | exact trivial | refine And.intro rfl ?_ | refine And.intro (incD (by omega)) ?_)) (by repeat ((conv => whnf); first | exact trivial | refine And.intro rfl ?_ | refine And.intro (incD (by omega)) ?_))) ?_
  rintro i ⟨hi, hx⟩
  conv => whnf
  refine And.intro (fun hb => ?_) (fun hb => ?_)
  · have hb := of_decide_eq_true hb
    have hil : i < l.length := by omega
    rw [List.drop_eq_getElem_cons hil, idxG] at hx
    conv => whnf
    refine IdxC.encGs i hil rfl ?_
    conv => whnf
    refine callF (ih l[i] (by simp)) hg rfl rfl ?_
    conv => whnf
    refine And.intro (fun he => ?_) (fun he => ?_)
    · conv => whnf
      rw [hx, if_pos he]
    · conv => whnf
      rw [if_neg (by simp [he])] at hx
      exact again (i + 1) (by omega) ⟨by omega, by rw [hx]; rfl⟩ (weak_of rfl (by repeat ((conv => whnf); first | exact trivial | refine And.intro rfl ?_ | refine And.intro (incD (by omega)) ?_)) (by repeat ((conv => whnf); first | exact trivial | refine And.intro rfl ?_ | refine And.intro (incD (by omega)) ?_)))
  · have hb := of_decide_eq_false hb
    conv => whnf
    rw [hx, List.drop_eq_nil_of_le (by omega)]; rfl
theorem containsFuncG0_fn (f : FuncId) (p : TG → Bool) (l : List TG) (hg : Goes Tryz.prog f) (ih : ∀ t ∈ l, FnR Tryz.prog G0 f [dG t] (.bool (p t))) : FnR Tryz.prog G0 97 [dGs l, .fn f [] []] (.bool (l.any p)) := by
  refine fnQ_of_vc txok mixed [] Tryz.func97 rfl rfl (by simp) fun b => ?_
  conv => whnf
  refine callF (indexFuncG0_fn f p l hg ih) gf146 rfl rfl ?_
  conv => whnf
  refine congrArg D.bool ?_
  rw [Bool.eq_iff_iff, decide_eq_true_iff]
  exact idxG_nonneg p l 0 (by omega)
mutual
def allM : MG → Bool
  | .mk k n i nm ls ts ks => shpM (.mk k n i nm ls ts ks) && allGs ts && allMs ks
def allMs : List MG → Bool
  | [] => true
  | t :: r => allM t && allMs r
end
theorem allMs_any : ∀ l : List MG, allMs l = !l.any fun t => !allM t
  | [] => rfl
  | t :: r => by simp only [allMs, List.any_cons, allMs_any r, Bool.not_or, Bool.not_not]
theorem every1_fn (t : TG) : FnR Tryz.prog G0 113 [dG t] (.bool (!allG t)) := by
  refine fnQ_of_vc txok mixed [] Tryz.func113 rfl rfl (by simp) fun b => ?_
  conv => whnf
  refine callF (everyType_fn t) gf57 rfl rfl ?_
  conv => whnf
  try exact rfl
theorem everyTerm_fn : ∀ m : MG, FnR Tryz.prog G0 80 [dM m] (.bool (allM m)) := by
  refine MG.ind fun k n i nm ls ts ks ih => ?_
  have hc : ∀ t ∈ ks, FnR Tryz.prog G0 115 [dM t] (.bool (!allM t)) := by
    intro t ht
    refine fnQ_of_vc txok mixed [] Tryz.func115 rfl rfl (by simp) fun b => ?_
    conv => whnf
    refine callF (ih t ht) gf80 rfl rfl ?_
    conv => whnf
    try exact rfl
  have e : allM (.mk k n i nm ls ts ks) = (shpM (.mk k n i nm ls ts ks) && !(ts.any fun t => !allG t) && !(ks.any fun t => !allM t)) := by rw [allM, allGs_any, allMs_any]
  rw [e]
  refine fnQ_of_vc txok mixed [] Tryz.func80 rfl rfl (by simp) fun b => ?_
  conv => whnf
  refine callF (termShape_fn (.mk k n i nm ls ts ks)) gf112 rfl rfl ?_
  cases shpM (.mk k n i nm ls ts ks)
  · conv => whnf
    refine And.intro (fun h => Bool.noConfusion h) (fun h => ?_)
    conv => whnf
    try rfl
  · conv => whnf
    refine And.intro (fun h => ?_) (fun h => Bool.noConfusion h)
    conv => whnf
    refine callF (containsFuncG0_fn 113 (fun t => !allG t) ts gf113 (fun t _ => every1_fn t)) gf97 rfl rfl ?_
    cases (ts.any fun t => !allG t)
    · conv => whnf
      refine And.intro (fun h => ?_) (fun h => Bool.noConfusion h)
      conv => whnf
      refine callF (containsFuncM_fn 115 (fun t => !allM t) ks gf115 hc) gf114 rfl rfl ?_
      conv => whnf
      try exact rfl
    · conv => whnf
      refine And.intro (fun h => Bool.noConfusion h) (fun h => ?_)
      conv => whnf
      try exact rfl
end Go.Proofs.YtcjkikadolnfgaaGreat


/- How deep a term is; RightTerm. -/
set_option linter.unusedSimpArgs false
set_option linter.unusedVariables false
namespace Go.Proofs.YtcjkikadolnfgaaGreat
open Go.Vx Go.Vc Go.RowKit
mutual
def depM : MG → Nat
  | .mk _ _ _ _ _ ts ks => max (depGs ts) (depMs ks) + 1
def depMs : List MG → Nat
  | [] => 0
  | t :: r => max (depM t) (depMs r)
end
theorem depMs_app : ∀ l m : List MG, depMs (l ++ m) = max (depMs l) (depMs m)
  | [], m => by simp [depMs]
  | t :: r, m => by simp only [List.cons_append, depMs, depMs_app r m]; omega
theorem depMs_take {l : List MG} {i : Nat} (h : i < l.length) : depMs (l.take (i + 1)) = max (depMs (l.take i)) (depM l[i]) := by
  rw [List.take_succ_eq_append_getElem h, depMs_app]; simp [depMs]
set_option maxRecDepth 20000 in
theorem depthTerm_fn : ∀ (m : MG) (at' : Nat), 1 ≤ at' → at' ≤ 100001 → FnR Tryz.prog G0 79 [dM m, .int .i64 at'] (.int .i64 (min (at' + depM m - 1) 100001 : Nat)) := by
  refine MG.ind fun k n i nm ls ts ks ih q hq0 hq => ?_
  refine fnQ_sz fun hs => ?_
  have hl := (szOk_M hs.1).1
  have hl2 := (szOk_M hs.1).2.2.1
  simp only [MG.ks, MG.ts, LB] at hl hl2
  have hd : depM (.mk k n i nm ls ts ks) = max (depGs ts) (depMs ks) + 1 := by simp only [depM]
  rw [hd]
  refine fnQ_of_wk (N := 43) txok mixed Tryz.func79 rfl rfl (by simp) fun b => ?_
  refine wk_seq ⟨[(1, .d (.int .i64 (q : Int))), (2, .own 0 0)], [(0, .blk 26 (tmS (.mk k n i nm ls ts ks)))], 1⟩ (wk_vc txok mixed [] ?_) ?_
  · conv => whnf
    exact weak_of rfl (by repeat ((conv => whnf); first | exact trivial | refine And.intro rfl ?_ | refine And.intro (incD (by omega)) ?_)) (by repeat ((conv => whnf); first | exact trivial | refine And.intro rfl ?_ | refine And.intro (incD (by omega)) ?_))
  by_cases h : q > 100000
  · refine wk_seqR (wk_vc txok mixed [] ?_)
    conv => whnf
    refine And.intro (fun h => ?_) (fun h2 => absurd (of_decide_eq_false h2) (by omega))
    conv => whnf
    rw [show min (q + (max (depGs ts) (depMs ks) + 1) - 1) 100001 = q from by omega]
  refine wk_seq ⟨[(1, .d (.int .i64 (q : Int))), (2, .own 0 0)], [(0, .blk 26 (tmS (.mk k n i nm ls ts ks)))], 1⟩ (wk_vc txok mixed [] ?_) ?_
  · conv => whnf
    refine And.intro (fun h2 => absurd (of_decide_eq_true h2) (by omega)) (fun h => ?_)
    conv => whnf
    exact weak_of rfl (by repeat ((conv => whnf); first | exact trivial | refine And.intro rfl ?_ | refine And.intro (incD (by omega)) ?_)) (by repeat ((conv => whnf); first | exact trivial | refine And.intro rfl ?_ | refine And.intro (incD (by omega)) ?_))
  refine wk_seq ⟨[(5, .d (.int .i64 (q : Int))), (1, .d (.int .i64 (q : Int))), (2, .own 0 0)], [(0, .blk 26 (tmS (.mk k n i nm ls ts ks)))], 1⟩ (wk_vc txok mixed [] ?_) ?_
  · conv => whnf
    exact weak_of rfl (by repeat ((conv => whnf); first | exact trivial | refine And.intro rfl ?_ | refine And.intro (incD (by omega)) ?_)) (by repeat ((conv => whnf); first | exact trivial | refine And.intro rfl ?_ | refine And.intro (incD (by omega)) ?_))
  refine wk_seq ⟨[(5, .d (.int .i64 (min (q + depGs ts) 100001 : Nat))), (1, .d (.int .i64 (q : Int))), (2, .own 0 0)], [(0, .blk 26 (tmS (.mk k n i nm ls ts ks)))], 1⟩ (wk_vc txok mixed [] ?_) ?_
  · conv => whnf
    refine loopH (fun j : Nat => j ≤ ts.length) (fun j => ts.length - j) (fun j => [(17, .d (.int .i64 j)), (5, .d (.int .i64 (min (q + depGs (ts.take j)) 100001 : Nat)))]) (fun _ => [(0, .blk 26 (tmS (.mk k n i nm ls ts ks)))]) 1 0 (by omega) ?_ ?_
    · rw [show min (q + depGs (ts.take 0)) 100001 = q from by simp [depGs]; omega]
      exact weak_of rfl (by repeat ((conv => whnf); first | exact trivial | refine And.intro rfl ?_ | refine And.intro (incD (by omega)) ?_)) (by repeat ((conv => whnf); first | exact trivial | refine And.intro rfl ?_ | refine And.intro (incD (by omega)) ?_))
    intro j hj
    conv => whnf
    refine And.intro (fun hb => ?_) (fun hb => ?_)
    · have hil : j < ts.length := by have := of_decide_eq_true hb; simp only [MG.ts, MG.ks] at this; omega
      have ht := depGs_take hil
      conv => whnf
      refine IdxC.encGs j hil rfl ?_
      conv => whnf
      rw [incD (by omega)]
      refine callF (depthType_fn ts[j] (q + 1) (by omega) (by omega)) gf56 rfl rfl ?_
      conv => whnf
      refine maxC rfl rfl rfl ?_
      conv => whnf
      rw [incD (by omega)]
      refine again (j + 1) (by omega) (by omega) ?_
      rw [ht, show (max ((min (q + depGs (ts.take j)) 100001 : Nat) : Int) ((min (q + 1 + depG ts[j] - 1) 100001 : Nat) : Int)) = ((min (q + max (depGs (ts.take j)) (depG ts[j])) 100001 : Nat) : Int) from by omega]
      exact weak_of rfl (by repeat ((conv => whnf); first | exact trivial | refine And.intro rfl ?_ | refine And.intro (incD (by omega)) ?_)) (by repeat ((conv => whnf); first | exact trivial | refine And.intro rfl ?_ | refine And.intro (incD (by omega)) ?_))
    · have hil : j = ts.length := by have := of_decide_eq_false hb; simp only [MG.ts, MG.ks] at this; omega
      subst hil
      rw [List.take_length]
      conv => whnf
      exact weak_of rfl (by repeat ((conv => whnf); first | exact trivial | refine And.intro rfl ?_ | refine And.intro (incD (by omega)) ?_)) (by repeat ((conv => whnf); first | exact trivial | refine And.intro rfl ?_ | refine And.intro (incD (by omega)) ?_))
  refine wk_seq ⟨[(5, .d (.int .i64 (min (q + max (depGs ts) (depMs ks)) 100001 : Nat))), (1, .d (.int .i64 (q : Int))), (2, .own 0 0)], [(0, .blk 26 (tmS (.mk k n i nm ls ts ks)))], 1⟩ (wk_vc txok mixed [] ?_) ?_
  rotate_left
  · refine wk_vc txok mixed [] ?_
    conv => whnf
    rw [show min (q + (max (depGs ts) (depMs ks) + 1) - 1) 100001 = min (q + max (depGs ts) (depMs ks)) 100001 from by omega]
  conv => whnf
  refine loopH (fun j : Nat => j ≤ ks.length) (fun j => ks.length - j) (fun j => [(31, .d (.int .i64 j)), (5, .d (.int .i64 (min (q + max (depGs ts) (depMs (ks.take j))) 100001 : Nat)))]) (fun _ => [(0, .blk 26 (tmS (.mk k n i nm ls ts ks)))]) 1 0 (by omega) ?_ ?_
  · rw [show max (depGs ts) (depMs (ks.take 0)) = depGs ts from by simp [depMs]]
    exact weak_of rfl (by repeat ((conv => whnf); first | exact trivial | refine And.intro rfl ?_ | refine And.intro (incD (by omega)) ?_)) (by repeat ((conv => whnf); first | exact trivial | refine And.intro rfl ?_ | refine And.intro (incD (by omega)) ?_))
  intro j hj
  conv => whnf
  refine And.intro (fun hb => ?_) (fun hb => ?_)
  · have hil : j < ks.length := by have := of_decide_eq_true hb; simp only [MG.ts, MG.ks] at this; omega
    have ht := depMs_take hil
    conv => whnf
    refine IdxC.encMs j hil rfl ?_
    conv => whnf
    rw [incD (by omega)]
    refine callF (ih ks[j] (by simp) (q + 1) (by omega) (by omega)) gf79 rfl rfl ?_
    conv => whnf
    refine maxC rfl rfl rfl ?_
    conv => whnf
    rw [incD (by omega)]
    refine again (j + 1) (by omega) (by omega) ?_
    rw [ht, show (max ((min (q + max (depGs ts) (depMs (ks.take j))) 100001 : Nat) : Int) ((min (q + 1 + depM ks[j] - 1) 100001 : Nat) : Int)) = ((min (q + max (depGs ts) (max (depMs (ks.take j)) (depM ks[j]))) 100001 : Nat) : Int) from by omega]
    exact weak_of rfl (by repeat ((conv => whnf); first | exact trivial | refine And.intro rfl ?_ | refine And.intro (incD (by omega)) ?_)) (by repeat ((conv => whnf); first | exact trivial | refine And.intro rfl ?_ | refine And.intro (incD (by omega)) ?_))
  · have hil : j = ks.length := by have := of_decide_eq_false hb; simp only [MG.ts, MG.ks] at this; omega
    subst hil
    rw [List.take_length]
    conv => whnf
    exact weak_of rfl (by repeat ((conv => whnf); first | exact trivial | refine And.intro rfl ?_ | refine And.intro (incD (by omega)) ?_)) (by repeat ((conv => whnf); first | exact trivial | refine And.intro rfl ?_ | refine And.intro (incD (by omega)) ?_))
def rightM (m : MG) : Int := if depM m > 100000 then 4 else if allM m then 0 else 1
theorem rightTerm_fn (m : MG) : FnR Tryz.prog G0 40 [dM m] (.int .i64 (rightM m)) := by
  refine fnQ_of_vc txok mixed [] Tryz.func40 rfl rfl (by simp) fun b => ?_
  conv => whnf
  refine callF (depthTerm_fn m 1 (by omega) (by omega)) gf79 rfl rfl ?_
  conv => whnf
  refine And.intro (fun h => ?_) (fun h => ?_)
  · have h : depM m > 100000 := by have := of_decide_eq_true h; omega
    conv => whnf
    rw [rightM, if_pos h]
  have h : ¬ depM m > 100000 := by have := of_decide_eq_false h; omega
  conv => whnf
  refine callF (everyTerm_fn m) gf80 rfl rfl ?_
  conv => whnf
  refine And.intro (fun h2 => ?_) (fun h2 => ?_)
  · conv => whnf
    rw [rightM, if_neg h, if_neg (by simpa using h2)]
  · conv => whnf
    rw [rightM, if_neg h, if_pos (by simpa using h2)]
end Go.Proofs.YtcjkikadolnfgaaGreat


/- Check, Closed, Has, in an empty scope. -/
set_option linter.unusedSimpArgs false
set_option linter.unusedVariables false
namespace Go.Proofs.YtcjkikadolnfgaaGreat
open Go.Vx Go.Vc Go.RowKit
theorem cloneI0_fn : FnR Tryz.prog G0 44 [dI []] (dI []) := by
  refine fnQ_of_vc txok mixed [] Tryz.func44 rfl rfl (by simp) fun b => ?_
  conv => whnf
  intro c hc
  conv => whnf
  refine And.intro (fun h => ?_) (fun h => ?_)
  · conv => whnf
    try exact rfl
  · conv => whnf
    refine appR (i := 0) (sz := 1) (n := 0) (m := 0) (xs := []) (ys := []) txok (fun _ => false) 0 [] rfl rfl rfl (by kernel_rfl) rfl nofun rfl rfl (by decide) ?_
    conv => whnf
    try exact rfl
theorem cloneB0_fn : FnR Tryz.prog G0 45 [dBs []] (dBs []) := by
  refine fnQ_of_vc txok mixed [] Tryz.func45 rfl rfl (by simp) fun b => ?_
  conv => whnf
  intro c hc
  conv => whnf
  refine And.intro (fun h => ?_) (fun h => ?_)
  · conv => whnf
    try exact rfl
  · conv => whnf
    refine appR (i := 0) (sz := 5) (n := 0) (m := 0) (xs := []) (ys := []) txok (fun _ => false) 0 [] rfl rfl rfl (by kernel_rfl) rfl nofun rfl rfl (by decide) ?_
    conv => whnf
    try exact rfl
theorem index0_fn (f : FuncId) : FnR Tryz.prog G0 81 [dBs [], .fn f [] []] (.int .i64 (-1)) := by
  refine fnQ_of_vc txok mixed [] Tryz.func81 rfl rfl (by simp) fun b => ?_
  conv => whnf
  refine loopH (fun i : Nat => i = 0) (fun _ => 0) (fun i => [(8, .d (.int .i64 0))]) (fun _ => []) 0 0 rfl (weak_of rfl (by repeat ((conv => whnf); first | exact trivial | refine And.intro rfl ?_ | refine And.intro (incD (by omega)) ?_)) (by repeat ((conv => whnf); first | exact trivial | refine And.intro rfl ?_ | refine And.intro (incD (by omega)) ?_))) ?_
  rintro i rfl
  conv => whnf
  refine And.intro (fun hb => absurd (of_decide_eq_true hb) (by simp)) (fun hb => ?_)
  conv => whnf
  try exact rfl
theorem contains0_fn (f : FuncId) : FnR Tryz.prog G0 41 [dBs [], .fn f [] []] (.bool false) := by
  refine fnQ_of_vc txok mixed [] Tryz.func41 rfl rfl (by simp) fun b => ?_
  conv => whnf
  refine callF (index0_fn f) gf81 rfl rfl ?_
  conv => whnf
  try exact rfl
theorem check2_fn (m : MG) (c : Chk) (hc : KidOk m c) (hz : szM m ≤ 1073741824) : FnQ Tryz.prog G0 43 [.ptr [dI []] 0, .ptr [dBs []] 0, .ptr (encM m) 0] (fun o => o = resO (c [] [])) := by
  have hK := (hc [] [] (by simp only [List.length_nil]; omega) (by simp only [List.length_nil]; omega) nofun).1
  cases hr : c [] [] with
  | error e =>
    rw [hr] at hK
    refine fnQ_of_vc txok mixed [(1, .take 0 (.take 2 (.take 5 (.run 1 (.run 3 (.pure 4 (.fin 6 (.fin 7 .done))))))))] Tryz.func43 rfl rfl (by simp) fun bb => ?_
    repeat' ((conv => whnf); first
      | refine And.intro (by kernel_rfl) ?_
      | refine And.intro ?_ ?_
      | refine callF cloneI0_fn gf44 rfl rfl ?_
      | refine callF cloneB0_fn gf45 rfl rfl ?_
      | (refine callQ rfl rfl gf46 hK ?_; rintro o rfl))
    all_goals (try (conv => whnf))
    all_goals (try exact rfl)
  | ok t =>
    rw [hr] at hK
    refine fnQ_of_vc txok mixed [(1, .take 0 (.take 2 (.take 5 (.run 1 (.run 3 (.pure 4 (.fin 6 (.fin 7 .done))))))))] Tryz.func43 rfl rfl (by simp) fun bb => ?_
    repeat' ((conv => whnf); first
      | refine And.intro (by kernel_rfl) ?_
      | refine And.intro ?_ ?_
      | refine callF cloneI0_fn gf44 rfl rfl ?_
      | refine callF cloneB0_fn gf45 rfl rfl ?_
      | (refine callQ rfl rfl gf46 hK ?_; rintro o rfl))
    all_goals (try (conv => whnf))
    all_goals (try exact rfl)
def closedR (m : MG) (c : Chk) : Except Int TG := if rightM m = 0 then c [] [] else .error (rightM m)
theorem check_fn (m : MG) (c : Chk) (hc : rightM m = 0 → KidOk m c) (hz : szM m ≤ 1073741824) : FnR Tryz.prog G0 18 [dM m, dI [], dBs []] (outE (closedR m c)) := by
  have hR := rightTerm_fn m
  unfold closedR
  by_cases h : rightM m = 0
  · rw [if_pos h]
    rw [h] at hR
    have hU := caught_out gf43 (check2_fn m c (hc h) hz) (by
      cases c [] [] with
      | ok w => exact .inl ⟨w, rfl⟩
      | error e => exact .inr ⟨e, rfl⟩)
    rw [caughtOut_res] at hU
    cases hr : c [] [] with
    | ok w =>
      rw [hr] at hU
      obtain ⟨k1, n1, l1, m1⟩ := w
      refine fnQ_of_vc txok mixed [] Tryz.func18 rfl rfl (by simp) fun b => ?_
      conv => whnf
      refine callF hR gf40 rfl rfl ?_
      conv => whnf
      refine And.intro (fun h => absurd h (by decide)) (fun h => ?_)
      conv => whnf
      refine callF (contains0_fn 42) gf41 rfl rfl ?_
      conv => whnf
      refine And.intro (fun h => Bool.noConfusion h) (fun h => ?_)
      conv => whnf
      refine pubC (fun i => Nat.ble i 2) ?_
      conv => whnf
      refine callF hU gf27 rfl rfl ?_
      conv => whnf
      try exact rfl
    | error e =>
      rw [hr] at hU
      refine fnQ_of_vc txok mixed [] Tryz.func18 rfl rfl (by simp) fun b => ?_
      conv => whnf
      refine callF hR gf40 rfl rfl ?_
      conv => whnf
      refine And.intro (fun h => absurd h (by decide)) (fun h => ?_)
      conv => whnf
      refine callF (contains0_fn 42) gf41 rfl rfl ?_
      conv => whnf
      refine And.intro (fun h => Bool.noConfusion h) (fun h => ?_)
      conv => whnf
      refine pubC (fun i => Nat.ble i 2) ?_
      conv => whnf
      refine callF hU gf27 rfl rfl ?_
      conv => whnf
      try exact rfl
  · rw [if_neg h]
    refine fnQ_of_vc txok mixed [] Tryz.func18 rfl rfl (by simp) fun b => ?_
    conv => whnf
    refine callF hR gf40 rfl rfl ?_
    conv => whnf
    refine And.intro (fun h2 => ?_) (fun h2 => absurd (by simpa using h2) h)
    conv => whnf
    try exact rfl
theorem closed_fn (m : MG) (c : Chk) (hc : rightM m = 0 → KidOk m c) (hz : szM m ≤ 1073741824) : FnR Tryz.prog G0 6 [dM m] (outE (closedR m c)) := by
  have hC := check_fn m c hc hz
  cases hr : closedR m c with
  | ok w =>
    rw [hr] at hC
    obtain ⟨k1, n1, l1, m1⟩ := w
    refine fnQ_of_vc txok mixed [] Tryz.func6 rfl rfl (by simp) fun b => ?_
    conv => whnf
    refine callF hC gf18 rfl rfl ?_
    conv => whnf
    try exact rfl
  | error e =>
    rw [hr] at hC
    refine fnQ_of_vc txok mixed [] Tryz.func6 rfl rfl (by simp) fun b => ?_
    conv => whnf
    refine callF hC gf18 rfl rfl ?_
    conv => whnf
    try exact rfl
def hasR (r : Except Int TG) (t : TG) : Int := match r with
  | .ok u => if samG u t [] [] = true then 0 else 30
  | .error e => e
theorem has_fn (m : MG) (c : Chk) (t : TG) (hc : rightM m = 0 → KidOk m c) (hz : szM m ≤ 1073741824) (hg : ∀ u, closedR m c = .ok u → szG u ≤ 1048576) (he : ∀ e, closedR m c = .error e → e ≠ 0) : FnR Tryz.prog G0 8 [dM m, dG t] (.int .i64 (hasR (closedR m c) t)) := by
  have hC := closed_fn m c hc hz
  cases hr : closedR m c with
  | ok w =>
    rw [hr] at hC
    have hS := sameTop_fn w t (by have := hg w hr; omega)
    unfold hasR
    simp only
    cases hs : samG w t [] []
    · rw [hs] at hS
      obtain ⟨k1, n1, l1, m1⟩ := w
      refine fnQ_of_vc txok mixed [] Tryz.func8 rfl rfl (by simp) fun b => ?_
      conv => whnf
      refine callF hC gf6 rfl rfl ?_
      conv => whnf
      refine And.intro (fun h => ?_) (fun h => absurd h (by decide))
      conv => whnf
      refine callF hS gf19 rfl rfl ?_
      conv => whnf
      refine And.intro (fun h => ?_) (fun h => absurd h (by decide))
      conv => whnf
      try exact rfl
    · rw [hs] at hS
      obtain ⟨k1, n1, l1, m1⟩ := w
      refine fnQ_of_vc txok mixed [] Tryz.func8 rfl rfl (by simp) fun b => ?_
      conv => whnf
      refine callF hC gf6 rfl rfl ?_
      conv => whnf
      refine And.intro (fun h => ?_) (fun h => absurd h (by decide))
      conv => whnf
      refine callF hS gf19 rfl rfl ?_
      conv => whnf
      refine And.intro (fun h => absurd h (by decide)) (fun h => ?_)
      conv => whnf
      try exact rfl
  | error e =>
    rw [hr] at hC
    have he := he e hr
    refine fnQ_of_vc txok mixed [] Tryz.func8 rfl rfl (by simp) fun b => ?_
    conv => whnf
    refine callF hC gf6 rfl rfl ?_
    conv => whnf
    refine And.intro (fun h => absurd (by simpa using h) he) (fun h => ?_)
    conv => whnf
    try rfl
end Go.Proofs.YtcjkikadolnfgaaGreat


/- Rules: lam all (printed by gzw.py). -/
set_option linter.unusedSimpArgs false
set_option linter.unusedVariables false
namespace Go.Proofs.YtcjkikadolnfgaaGreat
open Go.Vx Go.Vc Go.RowKit
def Zwpq0 : List (Nat × Go.Vc.Pl) := [(1, .take 0 (.pure 1 (.take 2 (.pure 3 (.take 4 (.two 5 6 (.run 6 (.fin 7 .done)) (.fin 5 (.fin 7 .done)))))))), (2, .take 0 (.take 1 (.pure 2 (.take 3 (.take 4 (.pure 6 (.take 7 (.pure 8 (.take 9 (.run 5 (.run 10 (.fin 11 (.fin 12 (.fin 13 .done))))))))))))))]
def Zwpq1 : List (Nat × Go.Vc.Pl) := [(1, .pure 0 (.take 1 (.take 2 (.pure 3 (.take 4 (.pure 6 (.take 7 (.pure 8 (.take 9 (.run 5 (.run 10 (.run 11 (.run 12 (.fin 13 .done))))))))))))))]
set_option maxRecDepth 20000 in
set_option maxHeartbeats 2000000 in
theorem lamW_fn (vars : List Int) (l : List Bd) (n i : Int) (nm : ByteArray) (ls : List ByteArray) (a : TG) (u : MG) (cu : Chk) (hcu : KidOk u cu) (hv : vars.length + szM (.mk 5 n i nm ls [a] [u]) ≤ 549755813888) (hl : l.length + 2 * szM (.mk 5 n i nm ls [a] [u]) ≤ 549755813888) (hz : szM (.mk 5 n i nm ls [a] [u]) ≤ 1073741824) (hb : Bnd l) : FnQ Tryz.prog G0 118 [dSc vars l, dM (.mk 5 n i nm ls [a] [u])] (fun o => o = resO ((lamR nm a cu) vars l)) := by
  simp only [szM, szMs, szGs] at hv hl hz
  unfold lamR
  try simp only []
  have hH0 := here_fn vars l a (by omega)
  unfold hereR at hH0
  cases hi0 : insG a vars with
  | false =>
    rw [hi0] at hH0
    refine fnQ_of_vc txok mixed Zwpq0 Tryz.func118 rfl rfl (by simp) fun b => ?_
    repeat' ((conv => whnf); first
      | refine And.intro (by kernel_rfl) ?_
      | refine And.intro ?_ ?_
      | refine IdxC.encGs (l := [a]) 0 (by simp) rfl ?_
      | refine IdxC.encMs (l := [u]) 0 (by simp) rfl ?_
      | (refine callQ rfl rfl gf168 hH0 ?_; rintro o rfl)
      | intro _)
    all_goals (try (conv => whnf))
    all_goals (try exact rfl)
    all_goals (exfalso; simp_all; done)
  | true =>
  rw [hi0] at hH0
  have haa := ins_all hi0
  have hW2 := with_fn (vars) (l) nm a (by (try simp only [List.length_append, List.length_cons, List.length_nil]); omega)
  have hK4 := hcu (vars) (l ++ [(nm, a)]) (by (try simp only [List.length_append, List.length_cons, List.length_nil]); omega) (by (try simp only [List.length_append, List.length_cons, List.length_nil]); omega) (hb.snoc haa (by omega))
  obtain ⟨hK4, hK4G⟩ := hK4
  cases hr4 : cu (vars) (l ++ [(nm, a)]) with
  | error e =>
    rw [hr4] at hK4
    refine fnQ_of_vc txok mixed Zwpq0 Tryz.func118 rfl rfl (by simp) fun b => ?_
    repeat' ((conv => whnf); first
      | refine And.intro (by kernel_rfl) ?_
      | refine And.intro ?_ ?_
      | refine IdxC.encGs (l := [a]) 0 (by simp) rfl ?_
      | refine IdxC.encMs (l := [u]) 0 (by simp) rfl ?_
      | (refine callQ rfl rfl gf168 hH0 ?_; rintro o rfl)
      | refine callF hW2 gf169 rfl rfl ?_
      | (refine callQ rfl rfl gf46 hK4 ?_; rintro o rfl)
      | intro _)
    all_goals (try (conv => whnf))
    all_goals (try exact rfl)
    all_goals (exfalso; simp_all; done)
  | ok t =>
  rw [hr4] at hK4
  obtain ⟨hat, hzt⟩ := hK4G t hr4
  obtain ⟨ka, na, lsa, la⟩ := a
  obtain ⟨kt, nt, lst, lt⟩ := t
  refine fnQ_of_vc txok mixed Zwpq0 Tryz.func118 rfl rfl (by simp) fun b => ?_
  repeat' ((conv => whnf); first
    | refine And.intro (by kernel_rfl) ?_
    | refine And.intro ?_ ?_
    | refine IdxC.encGs (l := [(.mk ka na lsa la)]) 0 (by simp) rfl ?_
    | refine IdxC.encMs (l := [u]) 0 (by simp) rfl ?_
    | (refine callQ rfl rfl gf168 hH0 ?_; rintro o rfl)
    | refine callF hW2 gf169 rfl rfl ?_
    | (refine callQ rfl rfl gf46 hK4 ?_; rintro o rfl)
    | (refine pubC (fun i => Nat.beq i 4) ?_; (conv => whnf); refine callF (node_fn 4 [.mk ka na lsa la, .mk kt nt lst lt]) gf165 rfl rfl ?_)
    | intro _)
  all_goals (try (conv => whnf))
  all_goals (try exact rfl)
  all_goals (exfalso; simp_all; done)
set_option maxRecDepth 20000 in
set_option maxHeartbeats 2000000 in
theorem allW_fn (vars : List Int) (l : List Bd) (n i : Int) (nm : ByteArray) (ls : List ByteArray) (u : MG) (cu : Chk) (hcu : KidOk u cu) (hv : vars.length + szM (.mk 20 n i nm ls [] [u]) ≤ 549755813888) (hl : l.length + 2 * szM (.mk 20 n i nm ls [] [u]) ≤ 549755813888) (hz : szM (.mk 20 n i nm ls [] [u]) ≤ 1073741824) (hb : Bnd l) : FnQ Tryz.prog G0 132 [dSc vars l, dM (.mk 20 n i nm ls [] [u])] (fun o => o = resO ((allR n cu) vars l)) := by
  simp only [szM, szMs, szGs] at hv hl hz
  unfold allR
  try simp only []
  have hO0 := open_fn (vars) (l) n (by omega)
  by_cases hm0 : n ∈ vars
  · rw [if_pos hm0] at hO0 ⊢
    refine fnQ_of_vc txok mixed Zwpq1 Tryz.func132 rfl rfl (by simp) fun b => ?_
    repeat' ((conv => whnf); first
      | refine And.intro (by kernel_rfl) ?_
      | refine And.intro ?_ ?_
      | refine IdxC.encMs (l := [u]) 0 (by simp) rfl ?_
      | (refine callQ rfl rfl gf173 hO0 ?_; rintro o rfl)
      | intro _)
    all_goals (try (conv => whnf))
    all_goals (try exact rfl)
    all_goals (exfalso; simp_all; done)
  rw [if_neg hm0] at hO0 ⊢
  have hK2 := hcu (vars ++ [n]) (l) (by (try simp only [List.length_append, List.length_cons, List.length_nil]); omega) (by (try simp only [List.length_append, List.length_cons, List.length_nil]); omega) (hb)
  obtain ⟨hK2, hK2G⟩ := hK2
  cases hr2 : cu (vars ++ [n]) (l) with
  | error e =>
    rw [hr2] at hK2
    refine fnQ_of_vc txok mixed Zwpq1 Tryz.func132 rfl rfl (by simp) fun b => ?_
    repeat' ((conv => whnf); first
      | refine And.intro (by kernel_rfl) ?_
      | refine And.intro ?_ ?_
      | refine IdxC.encMs (l := [u]) 0 (by simp) rfl ?_
      | (refine callQ rfl rfl gf173 hO0 ?_; rintro o rfl)
      | (refine callQ rfl rfl gf46 hK2 ?_; rintro o rfl)
      | intro _)
    all_goals (try (conv => whnf))
    all_goals (try exact rfl)
    all_goals (exfalso; simp_all; done)
  | ok t =>
  rw [hr2] at hK2
  obtain ⟨hat, hzt⟩ := hK2G t hr2
  obtain ⟨kt, nt, lst, lt⟩ := t
  refine fnQ_of_vc txok mixed Zwpq1 Tryz.func132 rfl rfl (by simp) fun b => ?_
  repeat' ((conv => whnf); first
    | refine And.intro (by kernel_rfl) ?_
    | refine And.intro ?_ ?_
    | refine IdxC.encMs (l := [u]) 0 (by simp) rfl ?_
    | (refine callQ rfl rfl gf173 hO0 ?_; rintro o rfl)
    | (refine callQ rfl rfl gf46 hK2 ?_; rintro o rfl)
    | intro _)
  all_goals (try (conv => whnf))
  all_goals (try exact rfl)
  all_goals (exfalso; simp_all; done)
end Go.Proofs.YtcjkikadolnfgaaGreat


/- Parts of terms: names, functions, alls. -/
set_option linter.unusedSimpArgs false
set_option linter.unusedVariables false
namespace Go.Proofs.YtcjkikadolnfgaaGreat
open Go.Vx Go.Vc Go.RowKit
theorem good_fit {r : Except Int TG} (h : ∀ t, r = .ok t → allG t = true) : Good (fitE r) := by
  intro t ht
  cases r with
  | error e => cases ht
  | ok u =>
    have ht : fitR u = .ok t := ht
    unfold fitR at ht
    split at ht
    · injection ht with ht; subst ht
      exact ⟨h u rfl, by assumption⟩
    · cases ht
theorem kid_of (m : MG) (c : Chk) (j : Nat) (f : FuncId) (hk : m.k = (j : Int)) (hj : rulesD[j]? = some (.fn f [] [])) (hg : Goes Tryz.prog f)
    (h : ∀ vars l, vars.length + szM m ≤ 549755813888 → l.length + 2 * szM m ≤ 549755813888 → Bnd l → FnQ Tryz.prog G0 f [dSc vars l, dM m] (fun o => o = resO (c vars l)) ∧ ∀ t, c vars l = .ok t → allG t = true ∧ szG t ≤ 2147483648) : KidOk m (fun vars l => fitE (c vars l)) := by
  intro vars l hv hl hb
  obtain ⟨h1, h2⟩ := h vars l hv hl hb
  exact ⟨of_fn vars l m (c vars l) j f hk hj hg h1 (fun t ht => by have := (h2 t ht).2; omega), good_fit fun t ht => (h2 t ht).1⟩
theorem look_ok {l : List Bd} {nm : ByteArray} {t : TG} (h : lookR l nm = .ok t) : ∃ x ∈ l, x.2 = t := by
  unfold lookR at h
  split at h
  · rename_i b hb
    injection h with h
    exact ⟨b, by have := List.mem_of_find?_eq_some hb; simpa using this, h⟩
  · cases h
theorem kid_var (n i : Int) (nm : ByteArray) (ls : List ByteArray) (ts : List TG) (ks : List MG) : KidOk (.mk 4 n i nm ls ts ks) (fun _ l => fitE (lookR l nm)) :=
  kid_of (.mk 4 n i nm ls ts ks) (fun _ l => lookR l nm) 4 117 rfl rfl gf117 fun vars l _ _ hb => ⟨name_fn vars l _, fun t ht => by
    obtain ⟨x, hx, rfl⟩ := look_ok ht
    have := hb x hx
    exact ⟨this.1, by omega⟩⟩
theorem kid_lam (n i : Int) (nm : ByteArray) (ls : List ByteArray) (a : TG) (u : MG) (c : Chk) (hc : KidOk u c) (hz : szM (.mk 5 n i nm ls [a] [u]) ≤ 1073741824) : KidOk (.mk 5 n i nm ls [a] [u]) (fun vars l => fitE (lamR nm a c vars l)) :=
  kid_of _ (lamR nm a c) 5 118 rfl rfl gf118 fun vars l hv hl hb => ⟨lamW_fn vars l n i nm ls a u c hc hv hl hz hb, fun t ht => by
    unfold lamR at ht
    cases hi : insG a vars with
    | false => rw [hi] at ht; cases ht
    | true =>
      rw [hi] at ht
      have ha := ins_all hi
      simp only [szM, szMs, szGs] at hv hl hz
      have hG := (hc vars (l ++ [(nm, a)]) (by omega) (by simp only [List.length_append, List.length_cons, List.length_nil]; omega) (hb.snoc ha (by omega))).2
      cases hr : c vars (l ++ [(nm, a)]) with
      | error e => rw [hr] at ht; cases ht
      | ok v =>
        rw [hr] at ht
        obtain ⟨h1, h2⟩ := hG v hr
        have ht : Except.ok (TG.mk 4 0 [] [a, v]) = .ok t := ht
        injection ht with ht; subst ht
        refine ⟨(allG_mk ..).2 ⟨rfl, ?_⟩, ?_⟩
        · intro x hx
          simp only [List.mem_cons, List.not_mem_nil, or_false] at hx
          rcases hx with rfl | rfl <;> assumption
        · simp only [szG, szGs]; omega⟩
theorem kid_all (n i : Int) (nm : ByteArray) (ls : List ByteArray) (u : MG) (c : Chk) (hc : KidOk u c) (hz : szM (.mk 20 n i nm ls [] [u]) ≤ 1073741824) : KidOk (.mk 20 n i nm ls [] [u]) (fun vars l => fitE (allR n c vars l)) :=
  kid_of _ (allR n c) 20 132 rfl rfl gf132 fun vars l hv hl hb => ⟨allW_fn vars l n i nm ls u c hc hv hl hz hb, fun t ht => by
    unfold allR at ht
    split at ht
    · cases ht
    · simp only [szM, szMs, szGs] at hv hl hz
      have hG := (hc (vars ++ [n]) l (by simp only [List.length_append, List.length_cons, List.length_nil]; omega) (by omega) hb).2
      cases hr : c (vars ++ [n]) l with
      | error e => rw [hr] at ht; cases ht
      | ok v =>
        rw [hr] at ht
        obtain ⟨h1, h2⟩ := hG v hr
        have ht : Except.ok (TG.mk 10 n [] [v]) = .ok t := ht
        injection ht with ht; subst ht
        refine ⟨(allG_mk ..).2 ⟨rfl, ?_⟩, ?_⟩
        · intro x hx
          simp only [List.mem_cons, List.not_mem_nil, or_false] at hx
          rcases hx with rfl; assumption
        · simp only [szG, szGs]; omega⟩
end Go.Proofs.YtcjkikadolnfgaaGreat


