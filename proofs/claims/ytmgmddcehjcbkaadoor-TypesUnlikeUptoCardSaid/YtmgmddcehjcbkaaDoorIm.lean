/- Numbers and texts: Ia, Ib, Rg, Rh, Ri, joined. -/
import Derived.Test.YtmgmddcehjcbkaaDoorRm
import Derived.Shelf.Strconv.Itoa4
/- Numbers in decimal digits: the shelf's law, laid at this program; as a contract over plain data. -/
set_option linter.unusedSimpArgs false
set_option linter.unusedVariables false
namespace Go.Proofs.YtmgmddcehjcbkaaDoor
open Go.Vx Go.Vc Go.RowKit Go.Shelf

def lays246_ren : Ren :=
  { f := fun x => match x with | 246 => 66 | 283 => 68 | 284 => 69 | 285 => 70 | 286 => 71 | 129 => 73 | 317 => 72 | 318 => 74 | 319 => 75 | 320 => 76 | 337 => 77 | 338 => 78 | n => n,
    t := fun x => match x with | 2 => 2 | 3 => 3 | 9 => 9 | 4 => 4 | 171 => 70 | 0 => 0 | 53 => 71 | 37 => 63 | 5 => 5 | 173 => 74 | 212 => 78 | 51 => 79 | 20 => 20 | 213 => 80 | 46 => 81 | 232 => 84 | 233 => 85 | n => n,
    g := fun x => match x with | 17 => 0 | 18 => 1 | 19 => 2 | n => n }
theorem lays246 : LaysM.n246 Tryd.prog lays246_ren :=
  { mixed := rfl,
    f129 := by kernel_rfl,
    f246 := by kernel_rfl,
    f283 := by kernel_rfl,
    f284 := by kernel_rfl,
    f285 := by kernel_rfl,
    f286 := by kernel_rfl,
    f317 := by kernel_rfl,
    f318 := by kernel_rfl,
    f319 := by kernel_rfl,
    f320 := by kernel_rfl,
    f337 := by kernel_rfl,
    f338 := by kernel_rfl,
    t0 := Tryd.underlying0,
    a0 := Tryd.isAgg0,
    z0 := Tryd.sizeOf0,
    v0 := Tryd.zeroValue0,
    t2 := Tryd.underlying2,
    a2 := Tryd.isAgg2,
    z2 := Tryd.sizeOf2,
    v2 := Tryd.zeroValue2,
    t3 := Tryd.underlying3,
    a3 := Tryd.isAgg3,
    z3 := Tryd.sizeOf3,
    v3 := Tryd.zeroValue3,
    t4 := Tryd.underlying4,
    a4 := Tryd.isAgg4,
    z4 := Tryd.sizeOf4,
    v4 := Tryd.zeroValue4,
    t5 := Tryd.underlying5,
    a5 := Tryd.isAgg5,
    z5 := Tryd.sizeOf5,
    v5 := Tryd.zeroValue5,
    t9 := Tryd.underlying9,
    a9 := Tryd.isAgg9,
    z9 := Tryd.sizeOf9,
    v9 := Tryd.zeroValue9,
    t20 := Tryd.underlying20,
    a20 := Tryd.isAgg20,
    z20 := Tryd.sizeOf20,
    v20 := Tryd.zeroValue20,
    t37 := Tryd.underlying63,
    a37 := Tryd.isAgg63,
    z37 := Tryd.sizeOf63,
    v37 := Tryd.zeroValue63,
    t46 := Tryd.underlying81,
    a46 := Tryd.isAgg81,
    z46 := Tryd.sizeOf81,
    v46 := Tryd.zeroValue81,
    t51 := Tryd.underlying79,
    a51 := Tryd.isAgg79,
    z51 := Tryd.sizeOf79,
    v51 := Tryd.zeroValue79,
    t53 := Tryd.underlying71,
    a53 := Tryd.isAgg71,
    z53 := Tryd.sizeOf71,
    v53 := Tryd.zeroValue71,
    t171 := Tryd.underlying70,
    a171 := Tryd.isAgg70,
    z171 := Tryd.sizeOf70,
    v171 := Tryd.zeroValue70,
    t173 := Tryd.underlying74,
    a173 := Tryd.isAgg74,
    z173 := Tryd.sizeOf74,
    v173 := Tryd.zeroValue74,
    t212 := Tryd.underlying78,
    a212 := Tryd.isAgg78,
    z212 := Tryd.sizeOf78,
    v212 := Tryd.zeroValue78,
    t213 := Tryd.underlying80,
    a213 := Tryd.isAgg80,
    z213 := Tryd.sizeOf80,
    t232 := Tryd.underlying84,
    a232 := Tryd.isAgg84,
    z232 := Tryd.sizeOf84,
    v232 := Tryd.zeroValue84,
    t233 := Tryd.underlying85,
    a233 := Tryd.isAgg85,
    z233 := Tryd.sizeOf85,
    v233 := Tryd.zeroValue85,
    g17 := by kernel_rfl,
    g18 := by kernel_rfl,
    g19 := by kernel_rfl,
    i0 := by kernel_rfl,
    i2 := by kernel_rfl,
    i3 := by kernel_rfl,
    i4 := by kernel_rfl,
    i5 := by kernel_rfl,
    i9 := by kernel_rfl,
    i20 := by kernel_rfl,
    i37 := by kernel_rfl,
    i46 := by kernel_rfl,
    i51 := by kernel_rfl,
    i53 := by kernel_rfl,
    i171 := by kernel_rfl,
    i173 := by kernel_rfl,
    i212 := by kernel_rfl,
    i232 := by kernel_rfl,
    i233 := by kernel_rfl,
    m17 := by kernel_rfl,
    m18 := by kernel_rfl,
    m19 := by kernel_rfl }
end Go.Proofs.YtmgmddcehjcbkaaDoor

/- strconv.Itoa of every int, as a contract over plain data: the table of powers is told of. -/
namespace Go.Proofs.YtmgmddcehjcbkaaDoor
open Go.Vx Go.Vc Go.RowKit

/-- What is known under no condition is known under any. -/
theorem FnR_up {G : Glob} {f : FuncId} {ds : List D} {r : D} (h : FnR Tryd.prog G0 f ds r) : FnR Tryd.prog G f ds r := fun S w vs h1 h2 _ => h S w vs h1 h2 trivial
abbrev PowTab (w : World) : Prop := Go.Lib.TabIs Tryd.prog w "internal/strconv.uint64pow10" .u64 Go.Lib.pow10Tab
theorem pow0 : Tryd.prog.globalNamed "internal/strconv.uint64pow10" = some 0 := by kernel_rfl
theorem PowTab.to {w w' : World} (h : PowTab w) (hs : 0 < w.heap.size → w'.heap[0]? = w.heap[0]?) : PowTab w' := by
  unfold PowTab Go.Lib.TabIs World.var? at *
  rw [pow0] at *
  simp only [Option.bind_some] at *
  have hlt : 0 < w.heap.size := by
    rcases Nat.eq_zero_or_pos w.heap.size with h0 | h0
    · rw [Array.getElem?_eq_none (by omega)] at h; cases h
    · exact h0
  rw [hs hlt]; exact h
def GT : Glob := ⟨fun S w => S 0 ∧ PowTab w, fun ⟨h0, h⟩ hs hS _ => ⟨hS 0 h0, h.to fun hl => hs 0 h0 hl⟩⟩
def itA (n : Int) : ByteArray := ⟨(Go.Lib.itoa n).toArray⟩
theorem below_grow (w : World) (k : Nat) (os : Array Obj) : Below w.heap.size w (Go.Sort.grow (w.drewN k) os) :=
  ⟨rfl, rfl, rfl, by simp only [Go.Sort.grow, World.drewN, Array.size_append]; omega, fun j hj => by simp only [Go.Sort.grow, World.drewN]; exact Array.getElem?_append_left hj⟩
theorem formatIntT_fn (n : Int) (h0 : -9223372036854775808 ≤ n) (h1 : n ≤ 9223372036854775807) : FnR Tryd.prog GT 66 [.int .i64 n, .int .i64 10] (.str (itA n)) := by
  intro S w vs hds hS hG
  simp only [RepDs, RepD] at hds
  obtain ⟨_, _, rfl, rfl, _, _, rfl, rfl, rfl⟩ := hds
  refine (Any.internal_strconv_FormatInt_10 lays246 n h0 h1 w hG.2).mono ?_
  rintro en w' ⟨rfl, k, os, rfl⟩
  have bel := below_grow w k os
  refine ⟨.ret (.str (itA n)), S, rfl, ⟨_, rfl, by simp only [RepD]; rfl⟩, bel, fun _ h => h, fun _ h => .inl h, fun k hk => Nat.lt_of_lt_of_le (hS k hk) bel.size⟩
theorem itoa1T_fn (n : Int) (h0 : -9223372036854775808 ≤ n) (h1 : n ≤ 9223372036854775807) : FnR Tryd.prog GT 62 [.int .i64 n] (.str (itA n)) := by
  refine fnQ_of_vc txok mixed [] Tryd.func62 rfl rfl (by simp) fun b => ?_
  conv => whnf
  exact callF (formatIntT_fn n h0 h1) gf66 rfl rfl rfl
theorem itoaT_fn (n : Int) (h0 : -9223372036854775808 ≤ n) (h1 : n ≤ 9223372036854775807) : ItOk GT itA n := by
  refine fnQ_of_vc txok mixed [] Tryd.func47 rfl rfl (by simp) fun b => ?_
  conv => whnf
  exact callF (itoa1T_fn n h0 h1) gf62 rfl rfl rfl
end Go.Proofs.YtmgmddcehjcbkaaDoor

/- The reference: numbers in decimal digits. -/
namespace Go.Proofs.YtmgmddcehjcbkaaDoor
open Go.Vx Go.Vc Go.RowKit Go.Lib

def baL (l : List UInt8) : ByteArray := ⟨l.toArray⟩
theorem baL_size (l : List UInt8) : (baL l).size = l.length := by simp [baL, ByteArray.size]
theorem baL_app (l m : List UInt8) : baL l ++ baL m = baL (l ++ m) := by
  apply ByteArray.ext
  simp [baL, ByteArray.data_append]
theorem baL_ne (l : List UInt8) (h : 1 ≤ l.length) : ((baL l).toList == (⟨#[]⟩ : ByteArray).toList) = false := by
  rw [ByteArray.toList_eq, ByteArray.toList_eq]
  cases l with
  | nil => simp at h
  | cons x r => rfl
theorem ahead_len (n : Int) : (Vx.ahead n).length ≤ n.natAbs / 10 + 2 := by
  unfold Vx.ahead
  split
  · have := (itoa_len (n.tdiv 10)).2
    have e : (n.tdiv 10).natAbs = n.natAbs / 10 := Int.natAbs_tdiv n 10
    omega
  · split <;> simp
theorem digB : ∀ d : Nat, d < 10 → bytesOf [IntKind.u8.wrap (IntKind.i64.wrap (48 + (d : Int)))] = baL [UInt8.ofNat (48 + d)] := by
  intro d hd
  match d, hd with
  | 0, _ => rfl
  | 1, _ => rfl
  | 2, _ => rfl
  | 3, _ => rfl
  | 4, _ => rfl
  | 5, _ => rfl
  | 6, _ => rfl
  | 7, _ => rfl
  | 8, _ => rfl
  | 9, _ => rfl
theorem decimal_fn : ∀ (m : Nat) (n : Int), n.natAbs ≤ m → n.natAbs ≤ 9223372036854775808 → FnR Tryd.prog G0 54 [.int .i64 n] (.str (baL (itoa n))) := by
  intro m
  induction m using Nat.strongRecOn with
  | _ m ih =>
  intro n hm hn
  have hq : (n.tdiv 10).natAbs ≤ n.natAbs / 10 := by rw [Int.natAbs_tdiv]; exact Nat.le_refl _
  have hd : (n.tmod 10).natAbs < 10 := by rw [Int.natAbs_tmod]; exact Nat.mod_lt _ (by decide)
  have hsg : (n < 0 → n.tmod 10 ≤ 0) ∧ (0 ≤ n → 0 ≤ n.tmod 10) := ⟨fun h => by have := Int.tmod_nonneg 10 (show 0 ≤ -n by omega); rw [Int.neg_tmod] at this; omega, fun h => Int.tmod_nonneg 10 h⟩
  have hw : IntKind.i64.wrap (n.tdiv 10) = n.tdiv 10 := Go.Vc.wrap_small (by omega) (by omega)
  refine fnQ_of_vc txok mixed [(100005, .done), (100009, .done)] Tryd.func54 rfl rfl (by simp) fun b => ?_
  conv => whnf
  refine ⟨by decide, ?_⟩
  conv => whnf
  refine CutC.mk (fun st => st = ⟨[(0, .d (.int .i64 n)), (3, .d (.int .i64 (n.tmod 10))), (4, .d (.str (if n.tdiv 10 ≠ 0 then baL (itoa (n.tdiv 10)) else baL [])))], [], 0⟩) ?_ ?_
  · conv => whnf
    refine ⟨by decide, ?_⟩
    conv => whnf
    rw [hw]
    refine And.intro (fun h => ?_) (fun h => ?_)
    · have h : n.tdiv 10 ≠ 0 := by simpa using h
      rw [if_pos h]
      conv => whnf
      refine ⟨by decide, ?_⟩
      conv => whnf
      rw [hw]
      refine callF (ih (n.natAbs / 10) (by omega) (n.tdiv 10) hq (by omega)) gf54 rfl rfl ?_
      conv => whnf
      exact ⟨_, rfl, weak_of rfl (by repeat ((conv => whnf); first | exact trivial | refine And.intro rfl ?_ | refine And.intro (incD (by omega)) ?_)) (by repeat ((conv => whnf); first | exact trivial | refine And.intro rfl ?_ | refine And.intro (incD (by omega)) ?_))⟩
    · have h : n.tdiv 10 = 0 := by simpa using h
      rw [if_neg (by omega)]
      conv => whnf
      exact ⟨_, rfl, weak_of rfl (by repeat ((conv => whnf); first | exact trivial | refine And.intro rfl ?_ | refine And.intro (incD (by omega)) ?_)) (by repeat ((conv => whnf); first | exact trivial | refine And.intro rfl ?_ | refine And.intro (incD (by omega)) ?_))⟩
  · rintro st' rfl
    conv => whnf
    refine CutC.mk (fun st => st = ⟨[(3, .d (.int .i64 (n.tmod 10).natAbs)), (4, .d (.str (baL (Vx.ahead n))))], [], 0⟩) ?_ ?_
    · conv => whnf
      refine And.intro (fun h => ?_) (fun h => ?_)
      · have h := of_decide_eq_true h
        have hneg : IntKind.i64.wrap (0 - n.tmod 10) = ((n.tmod 10).natAbs : Int) := (Go.Vc.wrap_small (a := 0 - n.tmod 10) (by omega) (by omega)).trans (by have := hsg.1 h; omega)
        conv => whnf
        rw [hneg]
        by_cases hz : n.tdiv 10 = 0
        · rw [if_neg (by omega)]
          have ea : Vx.ahead n = [45] := by unfold Vx.ahead; rw [if_neg (by omega), if_pos h]
          rw [ea]
          refine And.intro (fun _ => ?_) (fun h2 => absurd (show ((⟨#[]⟩ : ByteArray).toList == (⟨#[]⟩ : ByteArray).toList) = !true from h2) (by simp))
          conv => whnf
          exact ⟨_, rfl, weak_of rfl (by repeat ((conv => whnf); first | exact trivial | refine And.intro rfl ?_ | refine And.intro (incD (by omega)) ?_)) (by repeat ((conv => whnf); first | exact trivial | refine And.intro rfl ?_ | refine And.intro (incD (by omega)) ?_))⟩
        · rw [if_pos hz]
          have ea : Vx.ahead n = itoa (n.tdiv 10) := by unfold Vx.ahead; rw [if_pos hz]
          rw [ea]
          have hlen := (itoa_len (n.tdiv 10)).1
          refine And.intro (fun h2 => ?_) (fun _ => ?_)
          · exfalso
            have h2 : ((baL (itoa (n.tdiv 10))).toList == (⟨#[]⟩ : ByteArray).toList) = true := h2
            have h3 := baL_ne _ hlen
            rw [h3] at h2; cases h2
          · conv => whnf
            exact ⟨_, rfl, weak_of rfl (by repeat ((conv => whnf); first | exact trivial | refine And.intro rfl ?_ | refine And.intro (incD (by omega)) ?_)) (by repeat ((conv => whnf); first | exact trivial | refine And.intro rfl ?_ | refine And.intro (incD (by omega)) ?_))⟩
      · have h : ¬ n < 0 := of_decide_eq_false h
        have e : n.tmod 10 = ((n.tmod 10).natAbs : Int) := by have := hsg.2 (by omega); omega
        have ea : (if n.tdiv 10 ≠ 0 then baL (itoa (n.tdiv 10)) else baL []) = baL (Vx.ahead n) := by
          unfold Vx.ahead
          split
          · rfl
          · first | rfl | rw [if_neg h]
        rw [ea, e]
        conv => whnf
        exact ⟨_, rfl, weak_of rfl (by repeat ((conv => whnf); first | exact trivial | refine And.intro rfl ?_ | refine And.intro (incD (by omega)) ?_)) (by repeat ((conv => whnf); first | exact trivial | refine And.intro rfl ?_ | refine And.intro (incD (by omega)) ?_))⟩
    · rintro st' rfl
      conv => whnf
      refine bsC (n := 1) txok [IntKind.u8.wrap (IntKind.i64.wrap (48 + ((n.tmod 10).natAbs : Int)))] rfl rfl rfl rfl rfl rfl rfl rfl rfl rfl ?_
      rw [digB _ hd]
      conv => whnf
      refine ⟨?_, ?_⟩
      · rw [baL_size, baL_size]
        have h1 := ahead_len n
        simp only [List.length_cons, List.length_nil]
        omega
      conv => whnf
      rw [itoa_step n, ← baL_app]
end Go.Proofs.YtmgmddcehjcbkaaDoor

/- The reference: texts. -/
namespace Go.Proofs.YtmgmddcehjcbkaaDoor
open Go.Vx Go.Vc Go.RowKit

def DcOk (it : Int → ByteArray) (n : Int) : Prop := FnR Tryd.prog G0 54 [.int .i64 n] (.str (it n))
theorem rgen_fn (it : Int → ByteArray) (n : Int) (hI : 26 ≤ n → DcOk it (IntKind.i64.wrap (n.tdiv 26))) (hs : (genT it n).size ≤ 9223372036854775807) : FnR Tryd.prog G0 55 [.int .i64 n] (.str (genT it n)) := by
  refine fnQ_of_vc txok mixed [] Tryd.func55 rfl rfl (by simp) fun b => ?_
  conv => whnf
  refine And.intro (fun h => ?_) (fun h => ?_)
  · have h := of_decide_eq_true h
    conv => whnf
    rw [genT, if_pos h]; rfl
  · have h := of_decide_eq_false h
    rw [genT, if_neg h] at hs ⊢
    conv => whnf
    refine ⟨by decide, ?_⟩
    conv => whnf
    refine bsC (n := 1) txok [IntKind.u8.wrap (IntKind.i64.wrap (97 + n.tmod 26))] rfl rfl rfl rfl rfl rfl rfl rfl rfl rfl ?_
    conv => whnf
    refine ⟨by (simp [bytesOf, ByteArray.size]), ?_⟩
    conv => whnf
    refine And.intro (fun h2 => ?_) (fun h2 => ?_)
    · have h2 := of_decide_eq_true h2
      rw [if_pos h2] at hs ⊢
      conv => whnf
      refine ⟨by decide, ?_⟩
      conv => whnf
      refine callF (hI h2) gf54 rfl rfl ?_
      conv => whnf
      refine ⟨by rw [ByteArray.size_append] at hs; exact hs, ?_⟩
      conv => whnf
      rfl
    · have h2 := of_decide_eq_false h2
      rw [if_neg h2]
      conv => whnf
      rfl
theorem at_fn (t : Tp) (f p : Bool) (s : ByteArray) (hs : s.size + 2 ≤ 9223372036854775807) (hT : FnR Tryd.prog G0 36 [dT t] (.str s)) : FnR Tryd.prog G0 56 [dT t, .bool f, .bool p] (.str (withT ((t.k == 4 && f) || (t.k == 5 && p)) t s)) := by
  refine fnQ_of_vc txok mixed [] Tryd.func56 rfl rfl (by simp) fun b => ?_
  conv => whnf
  refine callF hT gf36 rfl rfl ?_
  repeat' ((conv => whnf); first | refine And.intro (fun _ => ?_) (fun _ => ?_) | (refine And.intro ?_ ?_; (focus (show 1 + s.size ≤ 9223372036854775807; omega))) | (refine And.intro ?_ ?_; (focus (rw [ByteArray.size_append]; show 1 + s.size + 1 ≤ 9223372036854775807; omega))))
  all_goals (conv => whnf)
  all_goals refine congrArg D.str ?_
  all_goals unfold withT
  all_goals first
    | (rw [if_pos (by simp_all <;> omega)]; rfl)
    | (rw [if_neg (by simp_all <;> omega)])
    | (rw [if_neg (by simp_all)])
end Go.Proofs.YtmgmddcehjcbkaaDoor

/- The reference: the text of a type. -/
namespace Go.Proofs.YtmgmddcehjcbkaaDoor
open Go.Vx Go.Vc Go.RowKit

theorem rtext_fn (it : Int → ByteArray) : ∀ t : Tp, numsT (DcOk it) t → (txt it t).size ≤ 9223372036854775807 → FnR Tryd.prog G0 36 [dT t] (.str (txt it t)) := by
  refine Tp.ind fun k n ks ih hn hs => ?_
  simp only [numsT] at hn
  obtain ⟨n6, n7, n8, nk⟩ := hn
  simp only [txt, topT] at hs ⊢
  refine fnQ_of_vc txok mixed [(17, .pure 0 (.take 1 (.pure 2 (.take 3 (.pure 6 (.take 7 (.pure 8 (.take 9 (.run 4 (.pure 5 (.fin 10 (.pure 11 (.pure 12 .done))))))))))))), (18, .pure 0 (.take 1 (.pure 2 (.take 3 (.pure 6 (.take 7 (.pure 8 (.take 9 (.run 4 (.pure 5 (.fin 10 (.pure 11 (.pure 12 .done)))))))))))))] Tryd.func36 rfl rfl (by simp) fun b => ?_
  conv => whnf
  simp only [mk_k, mk_n, mk_kids]
  refine And.intro (fun h1 => ?_) (fun h1 => ?_)
  · have h1 := eq_of_beq h1
    rw [if_pos h1]
    conv => whnf
    rfl
  have h1 : k ≠ 1 := by simpa using h1
  rw [if_neg h1] at hs ⊢
  conv => whnf
  refine And.intro (fun h2 => ?_) (fun h2 => ?_)
  · have h2 := eq_of_beq h2
    rw [if_pos h2]
    conv => whnf
    rfl
  have h2 : k ≠ 2 := by simpa using h2
  rw [if_neg h2] at hs ⊢
  conv => whnf
  refine And.intro (fun h3 => ?_) (fun h3 => ?_)
  · have h3 := eq_of_beq h3
    rw [if_pos h3]
    conv => whnf
    rfl
  have h3 : k ≠ 3 := by simpa using h3
  rw [if_neg h3] at hs ⊢
  conv => whnf
  refine And.intro (fun h6 => ?_) (fun h6 => ?_)
  · have h6 := eq_of_beq h6
    rw [if_pos h6] at hs ⊢
    conv => whnf
    refine callF (n6 h6) gf54 rfl rfl ?_
    conv => whnf
    refine ⟨by rw [ByteArray.size_append] at hs; exact hs, ?_⟩
    conv => whnf
    rfl
  have h6 : k ≠ 6 := by simpa using h6
  rw [if_neg h6] at hs ⊢
  conv => whnf
  refine And.intro (fun h7 => ?_) (fun h7 => ?_)
  · have h7 := eq_of_beq h7
    rw [if_pos h7] at hs ⊢
    conv => whnf
    refine callF (n7 h7) gf54 rfl rfl ?_
    conv => whnf
    refine ⟨by rw [ByteArray.size_append] at hs; exact hs, ?_⟩
    conv => whnf
    rfl
  have h7 : k ≠ 7 := by simpa using h7
  rw [if_neg h7] at hs ⊢
  conv => whnf
  refine And.intro (fun h8 => ?_) (fun h8 => ?_)
  · have h8 := eq_of_beq h8
    rw [if_pos h8] at hs ⊢
    conv => whnf
    exact callF (rgen_fn it n (n8 h8) hs) gf55 rfl rfl rfl
  have h8 : k ≠ 8 := by simpa using h8
  rw [if_neg h8] at hs ⊢
  conv => whnf
  by_cases hl : ks.length = 2
  rotate_left
  · refine And.intro (fun h => ?_) (fun h => ?_)
    · have : ks.length = 2 := by
        have : (ks.length : Int) = 2 := by simpa using h
        omega
      exact absurd this hl
    · conv => whnf
      match ks, hl with
      | [], _ => rfl
      | [_], _ => rfl
      | [_, _], hl => simp at hl
      | _ :: _ :: _ :: _, _ => rfl
  obtain ⟨a, c, rfl⟩ : ∃ a c, ks = [a, c] := by
    match ks, hl with
    | [a, c], _ => exact ⟨a, c, rfl⟩
  simp only [numsL] at nk
  simp only [txts] at hs ⊢
  have iha := ih a (by simp) nk.1
  have ihc := ih c (by simp) nk.2.1
  generalize txt it a = x at *
  generalize txt it c = y at *
  refine And.intro (fun _ => ?_) (fun h => by simp at h)
  conv => whnf
  refine And.intro (fun h4 => ?_) (fun h4 => ?_)
  · have h4 : k ≠ 4 := by simpa using h4
    rw [if_neg h4] at hs ⊢
    conv => whnf
    refine And.intro (fun h5 => ?_) (fun h5 => ?_)
    · have h5 : k ≠ 5 := by simpa using h5
      rw [if_neg h5]
      conv => whnf
      rfl
    · have h5 : k = 5 := by simpa using h5
      rw [if_pos h5] at hs ⊢
      have hx : x.size + 3 + y.size ≤ 9223372036854775807 := by
        rw [ByteArray.size_append, ByteArray.size_append, bs_size] at hs
        have e1 : x.size ≤ (withT (a.k == 4) a x).size := by
          unfold withT; split
          · simp only [ByteArray.size_append, bs_size]; omega
          · exact Nat.le_refl _
        have e2 : y.size ≤ (withT (c.k == 4 || c.k == 5) c y).size := by
          unfold withT; split
          · simp only [ByteArray.size_append, bs_size]; omega
          · exact Nat.le_refl _
        simp only [List.length_cons, List.length_nil] at hs; omega
      have hA := at_fn a true false x (by omega) (iha (by omega))
      have hC := at_fn c true true y (by omega) (ihc (by omega))
      rw [Bool.and_true, Bool.and_false, Bool.or_false] at hA
      rw [Bool.and_true, Bool.and_true] at hC
      conv => whnf
      refine And.intro (fun h => absurd (eq_of_beq h) h4) (fun _ => ?_)
      conv => whnf
      refine And.intro (by kernel_rfl) ?_
      conv => whnf
      refine IdxC.encK 0 (by simp) rfl ?_
      conv => whnf
      refine IdxC.encK 1 (by simp) rfl ?_
      conv => whnf
      refine callF hA gf56 rfl rfl ?_
      conv => whnf
      rw [ByteArray.size_append, ByteArray.size_append] at hs
      refine ⟨Nat.le_trans (Nat.le_add_right _ _) hs, ?_⟩
      conv => whnf
      refine callF hC gf56 rfl rfl ?_
      conv => whnf
      refine ⟨by rw [ByteArray.size_append]; exact hs, ?_⟩
      conv => whnf
      rfl
  · have h4 : k = 4 := by simpa using h4
    rw [if_pos h4] at hs ⊢
    have hx : x.size + 4 + y.size ≤ 9223372036854775807 := by
      rw [ByteArray.size_append, ByteArray.size_append, bs_size] at hs
      unfold withT at hs
      split at hs
      · simp only [ByteArray.size_append, bs_size, List.length_cons, List.length_nil] at hs; omega
      · simp only [List.length_cons, List.length_nil] at hs; omega
    have hA := at_fn a true false x (by omega) (iha (by omega))
    rw [Bool.and_true, Bool.and_false, Bool.or_false] at hA
    conv => whnf
    refine And.intro (fun _ => ?_) (fun h => absurd h (by rw [h4]; decide))
    conv => whnf
    refine And.intro (by kernel_rfl) ?_
    conv => whnf
    refine IdxC.encK 0 (by simp) rfl ?_
    conv => whnf
    refine IdxC.encK 1 (by simp) rfl ?_
    conv => whnf
    refine callF hA gf56 rfl rfl ?_
    conv => whnf
    rw [ByteArray.size_append, ByteArray.size_append] at hs
    refine ⟨Nat.le_trans (Nat.le_add_right _ _) hs, ?_⟩
    conv => whnf
    refine callF (ihc (by omega)) gf36 rfl rfl ?_
    conv => whnf
    refine ⟨by rw [ByteArray.size_append]; exact hs, ?_⟩
    conv => whnf
    rfl
end Go.Proofs.YtmgmddcehjcbkaaDoor
