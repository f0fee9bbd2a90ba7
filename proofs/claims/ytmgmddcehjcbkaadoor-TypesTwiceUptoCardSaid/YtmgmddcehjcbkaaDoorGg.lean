/- The text of a type. -/
import Derived.Test.YtmgmddcehjcbkaaDoorGf
set_option linter.unusedSimpArgs false
set_option linter.unusedVariables false
namespace Go.Proofs.YtmgmddcehjcbkaaDoor
open Go.Vx Go.Vc Go.RowKit

def ItOk (it : Int → ByteArray) (n : Int) : Prop := FnR Tryd.prog G0 47 [.int .i64 n] (.str (it n))
theorem gen_fn (it : Int → ByteArray) (n : Int) (hI : 26 ≤ n → ItOk it (IntKind.i64.wrap (n.tdiv 26))) (hs : (genT it n).size ≤ 9223372036854775807) : FnR Tryd.prog G0 48 [.int .i64 n] (.str (genT it n)) := by
  refine fnQ_of_vc txok mixed [] Tryd.func48 rfl rfl (by simp) fun b => ?_
  conv => whnf
  refine And.intro (fun h => ?_) (fun h => ?_)
  · have h := of_decide_eq_true h
    conv => whnf
    rw [genT, if_pos h]; rfl
  · have h := of_decide_eq_false h
    rw [genT, if_neg h] at hs ⊢
    conv => whnf
    refine ⟨by decide, ?_⟩
    conv => whnf
    refine bsC (n := 1) txok [IntKind.u8.wrap (IntKind.i64.wrap (97 + n.tmod 26))] rfl rfl rfl rfl rfl rfl rfl rfl rfl rfl ?_
    conv => whnf
    refine ⟨by (simp [bytesOf, ByteArray.size]), ?_⟩
    conv => whnf
    refine And.intro (fun h2 => ?_) (fun h2 => ?_)
    · have h2 := of_decide_eq_true h2
      rw [if_pos h2] at hs ⊢
      conv => whnf
      refine ⟨by decide, ?_⟩
      conv => whnf
      refine callF (hI h2) gf47 rfl rfl ?_
      conv => whnf
      refine ⟨by rw [ByteArray.size_append] at hs; exact hs, ?_⟩
      conv => whnf
      rfl
    · have h2 := of_decide_eq_false h2
      rw [if_neg h2]
      conv => whnf
      rfl
theorem within_fn (it : Int → ByteArray) (t : Tp) (w : Bool) (s : ByteArray) (hs : s.size + 2 ≤ 9223372036854775807) (hT : FnR Tryd.prog G0 20 [dT t] (.str s)) : FnR Tryd.prog G0 49 [dT t, .bool w] (.str (withT w t s)) := by
  refine fnQ_of_vc txok mixed [] Tryd.func49 rfl rfl (by simp) fun b => ?_
  conv => whnf
  refine And.intro (fun h => ?_) (fun h => ?_)
  · subst h
    conv => whnf
    refine And.intro (fun h2 => ?_) (fun h2 => ?_)
    · have h2 : t.kids.length = 2 := by have := eq_of_beq h2; omega
      rw [withT, if_pos ⟨rfl, h2⟩]
      conv => whnf
      refine callF hT gf20 rfl rfl ?_
      conv => whnf
      refine ⟨by show 1 + s.size ≤ _; omega, ?_⟩
      conv => whnf
      refine ⟨by rw [ByteArray.size_append]; show 1 + s.size + 1 ≤ _; omega, ?_⟩
      conv => whnf
      rfl
    · have h2 : ¬ (true = true ∧ t.kids.length = 2) := by
        intro h; rw [h.2] at h2; simp at h2
      rw [withT, if_neg h2]
      conv => whnf
      exact callF hT gf20 rfl rfl rfl
  · have h : w = false := by simpa using h
    subst h
    rw [withT, if_neg (by simp)]
    conv => whnf
    exact callF hT gf20 rfl rfl rfl
mutual
/-- The numbers of a type, in its text. -/
def numsT (p : Int → Prop) : Tp → Prop
  | .mk k n ks => (k = 6 → p n) ∧ (k = 7 → p n) ∧ (k = 8 → 26 ≤ n → p (IntKind.i64.wrap (n.tdiv 26))) ∧ numsL p ks
def numsL (p : Int → Prop) : List Tp → Prop
  | [] => True
  | t :: r => numsT p t ∧ numsL p r
end
theorem text_fn (it : Int → ByteArray) : ∀ t : Tp, numsT (ItOk it) t → (txt it t).size ≤ 9223372036854775807 → FnR Tryd.prog G0 20 [dT t] (.str (txt it t)) := by
  refine Tp.ind fun k n ks ih hn hs => ?_
  simp only [numsT] at hn
  obtain ⟨n6, n7, n8, nk⟩ := hn
  simp only [txt, topT] at hs ⊢
  refine fnQ_of_vc txok mixed [(16, .pure 0 (.take 1 (.pure 2 (.take 3 (.pure 4 (.take 5 (.pure 6 (.take 7 (.two 8 9 (.run 9 (.run 10 (.fin 11 .done))) (.run 8 (.run 10 (.fin 11 .done)))))))))))), (19, .take 0 (.pure 1 (.take 2 (.pure 3 (.take 6 (.run 4 (.pure 5 (.fin 7 (.pure 8 (.pure 9 .done)))))))))), (21, .take 0 (.pure 1 (.take 2 (.pure 3 (.take 6 (.pure 7 (.take 8 (.pure 9 (.run 4 (.pure 5 (.pure 10 (.pure 11 (.take 12 (.pure 13 (.pure 14 (.fin 15 (.pure 16 (.pure 17 .done))))))))))))))))))] Tryd.func20 rfl rfl (by simp) fun b => ?_
  conv => whnf
  simp only [mk_k, mk_n, mk_kids]
  refine And.intro (fun h1 => ?_) (fun h1 => ?_)
  · have h1 := eq_of_beq h1
    rw [if_pos h1]
    conv => whnf
    rfl
  have h1 : k ≠ 1 := by simpa using h1
  rw [if_neg h1] at hs ⊢
  conv => whnf
  refine And.intro (fun h2 => ?_) (fun h2 => ?_)
  · have h2 := eq_of_beq h2
    rw [if_pos h2]
    conv => whnf
    rfl
  have h2 : k ≠ 2 := by simpa using h2
  rw [if_neg h2] at hs ⊢
  conv => whnf
  refine And.intro (fun h3 => ?_) (fun h3 => ?_)
  · have h3 := eq_of_beq h3
    rw [if_pos h3]
    conv => whnf
    rfl
  have h3 : k ≠ 3 := by simpa using h3
  rw [if_neg h3] at hs ⊢
  conv => whnf
  refine And.intro (fun h6 => ?_) (fun h6 => ?_)
  · have h6 := eq_of_beq h6
    rw [if_pos h6] at hs ⊢
    conv => whnf
    refine callF (n6 h6) gf47 rfl rfl ?_
    conv => whnf
    refine ⟨by rw [ByteArray.size_append] at hs; exact hs, ?_⟩
    conv => whnf
    rfl
  have h6 : k ≠ 6 := by simpa using h6
  rw [if_neg h6] at hs ⊢
  conv => whnf
  refine And.intro (fun h7 => ?_) (fun h7 => ?_)
  · have h7 := eq_of_beq h7
    rw [if_pos h7] at hs ⊢
    conv => whnf
    refine callF (n7 h7) gf47 rfl rfl ?_
    conv => whnf
    refine ⟨by rw [ByteArray.size_append] at hs; exact hs, ?_⟩
    conv => whnf
    rfl
  have h7 : k ≠ 7 := by simpa using h7
  rw [if_neg h7] at hs ⊢
  conv => whnf
  refine And.intro (fun h8 => ?_) (fun h8 => ?_)
  · have h8 := eq_of_beq h8
    rw [if_pos h8] at hs ⊢
    conv => whnf
    exact callF (gen_fn it n (n8 h8) hs) gf48 rfl rfl rfl
  have h8 : k ≠ 8 := by simpa using h8
  rw [if_neg h8] at hs ⊢
  conv => whnf
  refine And.intro (fun hl => ?_) (fun hl => ?_)
  · conv => whnf
    match ks, hl with
    | [], _ => rfl
    | [_], _ => rfl
    | [_, _], hl => simp at hl
    | _ :: _ :: _ :: _, _ => rfl
  obtain ⟨a, c, rfl⟩ : ∃ a c, ks = [a, c] := by
    match ks, hl with
    | [], hl => simp at hl
    | [_], hl => simp at hl
    | [a, c], _ => exact ⟨a, c, rfl⟩
    | _ :: _ :: _ :: _, hl => simp at hl; omega
  simp only [numsL] at nk
  simp only [txts] at hs ⊢
  have iha := ih a (by simp) nk.1
  have ihc := ih c (by simp) nk.2.1
  generalize txt it a = x at *
  generalize txt it c = y at *
  conv => whnf
  refine And.intro (by kernel_rfl) ?_
  conv => whnf
  refine IdxC.encK 0 (by simp) rfl ?_
  conv => whnf
  refine IdxC.encK 1 (by simp) rfl ?_
  conv => whnf
  refine And.intro ?_ ?_
  all_goals
    conv => whnf
    refine And.intro (fun h4 => ?_) (fun h4 => ?_)
    · have h4 := eq_of_beq h4
      rw [if_pos h4] at hs ⊢
      have hx : x.size + 4 + y.size ≤ 9223372036854775807 := by
        rw [ByteArray.size_append, ByteArray.size_append, bs_size] at hs
        unfold withT at hs
        split at hs
        · simp only [ByteArray.size_append, bs_size, List.length_cons, List.length_nil] at hs; omega
        · simp only [List.length_cons, List.length_nil] at hs; omega
      conv => whnf
      refine And.intro (by kernel_rfl) ?_
      conv => whnf
      refine callF (within_fn it a (a.k == 4) x (by omega) (iha (by omega))) gf49 rfl rfl ?_
      conv => whnf
      rw [ByteArray.size_append, ByteArray.size_append] at hs
      refine ⟨Nat.le_trans (Nat.le_add_right _ _) hs, ?_⟩
      conv => whnf
      refine callF (ihc (by omega)) gf20 rfl rfl ?_
      conv => whnf
      refine ⟨by rw [ByteArray.size_append]; exact hs, ?_⟩
      conv => whnf
      rfl
    have h4 : k ≠ 4 := by simpa using h4
    rw [if_neg h4] at hs ⊢
    conv => whnf
    refine And.intro (fun h5 => ?_) (fun h5 => ?_)
    · have h5 := eq_of_beq h5
      rw [if_pos h5] at hs ⊢
      have hx : x.size + 3 + y.size ≤ 9223372036854775807 := by
        rw [ByteArray.size_append, ByteArray.size_append, bs_size] at hs
        have e1 : x.size ≤ (withT (a.k == 4) a x).size := by
          unfold withT; split
          · simp only [ByteArray.size_append, bs_size]; omega
          · exact Nat.le_refl _
        have e2 : y.size ≤ (withT (c.k == 4 || c.k == 5) c y).size := by
          unfold withT; split
          · simp only [ByteArray.size_append, bs_size]; omega
          · exact Nat.le_refl _
        simp only [List.length_cons, List.length_nil] at hs; omega
      conv => whnf
      refine And.intro (by kernel_rfl) ?_
      conv => whnf
      refine callF (within_fn it a (a.k == 4) x (by omega) (iha (by omega))) gf49 rfl rfl ?_
      conv => whnf
      rw [ByteArray.size_append, ByteArray.size_append] at hs
      refine ⟨Nat.le_trans (Nat.le_add_right _ _) hs, ?_⟩
      conv => whnf
      refine And.intro (fun h6 => ?_) (fun h6 => ?_)
      · have h6 : (c.k == 4) = false := h6
        rw [h6, Bool.false_or] at hs ⊢
        conv => whnf
        refine callF (within_fn it c (c.k == 5) y (by omega) (ihc (by omega))) gf49 rfl rfl ?_
        conv => whnf
        refine ⟨by rw [ByteArray.size_append]; exact hs, ?_⟩
        conv => whnf
        rfl
      · have h6 : (c.k == 4) = true := h6
        rw [h6, Bool.true_or] at hs ⊢
        conv => whnf
        refine callF (within_fn it c true y (by omega) (ihc (by omega))) gf49 rfl rfl ?_
        conv => whnf
        refine ⟨by rw [ByteArray.size_append]; exact hs, ?_⟩
        conv => whnf
        rfl
    have h5 : k ≠ 5 := by simpa using h5
    rw [if_neg h5] at hs ⊢
    conv => whnf
    rfl
end Go.Proofs.YtmgmddcehjcbkaaDoor
