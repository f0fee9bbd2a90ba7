/- Texts of mine, joined: Al Ao Aq Ar As Au At Av Aw Ax Bs Fg. -/
import Derived.Test.YtcjkikadolnfgaaGreatPat
import Derived.Test.YtcjkikadolnfgaaGreatPaj
import Derived.Test.YtcjkikadolnfgaaGreatPau
/- Rules: plain1 plain2 plain3 (printed by gzw.py). -/
set_option linter.unusedSimpArgs false
set_option linter.unusedVariables false
namespace Go.Proofs.YtcjkikadolnfgaaGreat
open Go.Vx Go.Vc Go.RowKit
set_option maxRecDepth 20000 in
set_option maxHeartbeats 2000000 in
theorem plain1W_fn (vars : List Int) (l : List Bd) (n i : Int) (nm : ByteArray) (ls : List ByteArray) (hv : vars.length + szM (.mk 1 n i nm ls [] []) ≤ 549755813888) (hl : l.length + 2 * szM (.mk 1 n i nm ls [] []) ≤ 549755813888) (hz : szM (.mk 1 n i nm ls [] []) ≤ 1073741824) (hb : Bnd l) : FnQ Tryz.prog G0 116 [dSc vars l, dM (.mk 1 n i nm ls [] [])] (fun o => o = resO ((plainR 1) vars l)) ∧ ∀ t, (plainR 1) vars l = .ok t → allG t = true ∧ szG t ≤ 2147483648 := by
  simp only [szM, szMs, szGs] at hv hl hz
  unfold plainR
  try simp only []
  (try simp only [bE, askE, kidG, g_k, g_n, g_kids, gz, gs, bs, reduceIte, Int.reduceEq])
  refine And.intro ?_ (fun t ht => by injection ht with ht; subst ht; exact ⟨rfl, by simp [szG, szGs]⟩)
  rotate_left
  all_goals
    refine fnQ_of_vc txok mixed [] Tryz.func116 rfl rfl (by simp) fun bb => ?_
    repeat' ((conv => whnf); first
      | refine And.intro (by kernel_rfl) ?_
      | (refine And.intro (fun h => ?_) (fun h => ?_); rotate_left; focus (exfalso; simp_all [MG.k, MG.n, g_k]; first | done | omega))
      | (refine And.intro (fun h => ?_) (fun h => ?_); focus (exfalso; simp_all [MG.k, MG.n, g_k]; first | done | omega))
      | refine And.intro ?_ ?_
      | refine callF (node_fn 1 []) gf165 rfl rfl ?_
      | intro _)
    all_goals (try (conv => whnf))
    all_goals exact rfl
theorem kid_plain1 (n i : Int) (nm : ByteArray) (ls : List ByteArray) (hz : szM (.mk 1 n i nm ls [] []) ≤ 1073741824) : KidOk (.mk 1 n i nm ls [] []) (fun vars l => fitE ((plainR 1) vars l)) :=
  kid_of _ ((plainR 1)) 1 116 rfl rfl gf116 fun vars l hv hl hb => plain1W_fn vars l n i nm ls  hv hl hz hb
set_option maxRecDepth 20000 in
set_option maxHeartbeats 2000000 in
theorem plain2W_fn (vars : List Int) (l : List Bd) (n i : Int) (nm : ByteArray) (ls : List ByteArray) (hv : vars.length + szM (.mk 2 n i nm ls [] []) ≤ 549755813888) (hl : l.length + 2 * szM (.mk 2 n i nm ls [] []) ≤ 549755813888) (hz : szM (.mk 2 n i nm ls [] []) ≤ 1073741824) (hb : Bnd l) : FnQ Tryz.prog G0 116 [dSc vars l, dM (.mk 2 n i nm ls [] [])] (fun o => o = resO ((plainR 2) vars l)) ∧ ∀ t, (plainR 2) vars l = .ok t → allG t = true ∧ szG t ≤ 2147483648 := by
  simp only [szM, szMs, szGs] at hv hl hz
  unfold plainR
  try simp only []
  (try simp only [bE, askE, kidG, g_k, g_n, g_kids, gz, gs, bs, reduceIte, Int.reduceEq])
  refine And.intro ?_ (fun t ht => by injection ht with ht; subst ht; exact ⟨rfl, by simp [szG, szGs]⟩)
  rotate_left
  all_goals
    refine fnQ_of_vc txok mixed [] Tryz.func116 rfl rfl (by simp) fun bb => ?_
    repeat' ((conv => whnf); first
      | refine And.intro (by kernel_rfl) ?_
      | (refine And.intro (fun h => ?_) (fun h => ?_); rotate_left; focus (exfalso; simp_all [MG.k, MG.n, g_k]; first | done | omega))
      | (refine And.intro (fun h => ?_) (fun h => ?_); focus (exfalso; simp_all [MG.k, MG.n, g_k]; first | done | omega))
      | refine And.intro ?_ ?_
      | refine callF (node_fn 2 []) gf165 rfl rfl ?_
      | intro _)
    all_goals (try (conv => whnf))
    all_goals exact rfl
theorem kid_plain2 (n i : Int) (nm : ByteArray) (ls : List ByteArray) (hz : szM (.mk 2 n i nm ls [] []) ≤ 1073741824) : KidOk (.mk 2 n i nm ls [] []) (fun vars l => fitE ((plainR 2) vars l)) :=
  kid_of _ ((plainR 2)) 2 116 rfl rfl gf116 fun vars l hv hl hb => plain2W_fn vars l n i nm ls  hv hl hz hb
set_option maxRecDepth 20000 in
set_option maxHeartbeats 2000000 in
theorem plain3W_fn (vars : List Int) (l : List Bd) (n i : Int) (nm : ByteArray) (ls : List ByteArray) (hv : vars.length + szM (.mk 3 n i nm ls [] []) ≤ 549755813888) (hl : l.length + 2 * szM (.mk 3 n i nm ls [] []) ≤ 549755813888) (hz : szM (.mk 3 n i nm ls [] []) ≤ 1073741824) (hb : Bnd l) : FnQ Tryz.prog G0 116 [dSc vars l, dM (.mk 3 n i nm ls [] [])] (fun o => o = resO ((plainR 3) vars l)) ∧ ∀ t, (plainR 3) vars l = .ok t → allG t = true ∧ szG t ≤ 2147483648 := by
  simp only [szM, szMs, szGs] at hv hl hz
  unfold plainR
  try simp only []
  (try simp only [bE, askE, kidG, g_k, g_n, g_kids, gz, gs, bs, reduceIte, Int.reduceEq])
  refine And.intro ?_ (fun t ht => by injection ht with ht; subst ht; exact ⟨rfl, by simp [szG, szGs]⟩)
  rotate_left
  all_goals
    refine fnQ_of_vc txok mixed [] Tryz.func116 rfl rfl (by simp) fun bb => ?_
    repeat' ((conv => whnf); first
      | refine And.intro (by kernel_rfl) ?_
      | (refine And.intro (fun h => ?_) (fun h => ?_); rotate_left; focus (exfalso; simp_all [MG.k, MG.n, g_k]; first | done | omega))
      | (refine And.intro (fun h => ?_) (fun h => ?_); focus (exfalso; simp_all [MG.k, MG.n, g_k]; first | done | omega))
      | refine And.intro ?_ ?_
      | refine callF (node_fn 3 []) gf165 rfl rfl ?_
      | intro _)
    all_goals (try (conv => whnf))
    all_goals exact rfl
theorem kid_plain3 (n i : Int) (nm : ByteArray) (ls : List ByteArray) (hz : szM (.mk 3 n i nm ls [] []) ≤ 1073741824) : KidOk (.mk 3 n i nm ls [] []) (fun vars l => fitE ((plainR 3) vars l)) :=
  kid_of _ ((plainR 3)) 3 116 rfl rfl gf116 fun vars l hv hl hb => plain3W_fn vars l n i nm ls  hv hl hz hb
end Go.Proofs.YtcjkikadolnfgaaGreat


/- Rules: half10 half11 (printed by gzw.py). -/
set_option linter.unusedSimpArgs false
set_option linter.unusedVariables false
namespace Go.Proofs.YtcjkikadolnfgaaGreat
open Go.Vx Go.Vc Go.RowKit
set_option maxRecDepth 20000 in
set_option maxHeartbeats 2000000 in
theorem half10W_fn (vars : List Int) (l : List Bd) (n i : Int) (nm : ByteArray) (ls : List ByteArray) (u : MG) (cu : Chk) (hcu : KidOk u cu) (hv : vars.length + szM (.mk 10 n i nm ls [] [u]) ≤ 549755813888) (hl : l.length + 2 * szM (.mk 10 n i nm ls [] [u]) ≤ 549755813888) (hz : szM (.mk 10 n i nm ls [] [u]) ≤ 1073741824) (hb : Bnd l) : FnQ Tryz.prog G0 123 [dSc vars l, dM (.mk 10 n i nm ls [] [u])] (fun o => o = resO ((halfR 0 cu) vars l)) ∧ ∀ t, (halfR 0 cu) vars l = .ok t → allG t = true ∧ szG t ≤ 2147483648 := by
  simp only [szM, szMs, szGs] at hv hl hz
  unfold halfR
  try simp only []
  have hK0 := hcu (vars) (l) (by (try simp only [lA, lC, lN]); omega) (by (try simp only [lA, lC, lN]); omega) (hb)
  obtain ⟨hK0, hK0G⟩ := hK0
  refine exC (cu (vars) (l)) (fun e hr0 => ?_) (fun w hr0 => ?_)
  rw [hr0] at hK0
  (try simp only [bE, askE, kidG, g_k, g_n, g_kids, gz, gs, bs, hr0])
  first | refine And.intro ?_ nofun | refine And.intro ?_ (by simp) | skip
  rotate_left
  rw [hr0] at hK0
  obtain ⟨haw, hzw⟩ := hK0G w hr0
  obtain ⟨kw, nw, lsw, lw⟩ := w
  have hA2 := ask_fn (kw == 5)
  refine byC (P := kw = 5) (fun hk2 => ?_) (fun hk2 => ?_)
  have hkb : (kw == 5) = false := by simpa using hk2
  rw [show askO (kw == 5) = .pan (badW 30) from by rw [hkb]; rfl] at hA2
  (try simp only [bE, askE, kidG, g_k, g_n, g_kids, gz, gs, bs, hr0, hkb])
  first | refine And.intro ?_ nofun | refine And.intro ?_ (by simp) | skip
  rotate_left
  subst hk2
  obtain ⟨rfl, rfl, aw, bw, rfl⟩ := shp2 (by omega) ((allG_mk ..).1 haw).1
  (try simp only [bE, askE, kidG, g_k, g_n, g_kids, gz, gs, bs, hr0])
  refine And.intro ?_ (fun t ht => by injection ht with ht; subst ht; exact ⟨((allG_mk ..).1 haw).2 aw (by simp), by simp only [szG, szGs] at hzw; omega⟩)
  rotate_left
  all_goals
    refine fnQ_of_vc txok mixed [(1, .take 0 (.pure 1 (.take 2 (.pure 3 (.take 4 (.two 5 6 (.run 6 (.fin 7 .done)) (.fin 5 (.fin 7 .done))))))))] Tryz.func123 rfl rfl (by simp) fun bb => ?_
    repeat' ((conv => whnf); first
      | refine And.intro (by kernel_rfl) ?_
      | refine And.intro ?_ ?_
      | refine IdxC.encMs (l := [u]) 0 (by simp) rfl ?_
      | (refine callQ rfl rfl gf46 hK0 ?_; rintro o rfl)
      | (refine callQ rfl rfl gf167 hA2 ?_; rintro o rfl)
      | (refine callQ rfl rfl gf167 (ask_fn true) ?_; rintro o rfl)
      | refine IdxC.encGs (l := [aw, bw]) 0 (by simp) rfl ?_
      | refine IdxC.encGs (l := [aw, bw]) 1 (by simp) rfl ?_
      | intro _)
    all_goals (try (conv => whnf))
    all_goals exact rfl
theorem kid_half10 (n i : Int) (nm : ByteArray) (ls : List ByteArray) (u : MG) (cu : Chk) (hcu : KidOk u cu) (hz : szM (.mk 10 n i nm ls [] [u]) ≤ 1073741824) : KidOk (.mk 10 n i nm ls [] [u]) (fun vars l => fitE ((halfR 0 cu) vars l)) :=
  kid_of _ ((halfR 0 cu)) 10 123 rfl rfl gf123 fun vars l hv hl hb => half10W_fn vars l n i nm ls u cu hcu hv hl hz hb
set_option maxRecDepth 20000 in
set_option maxHeartbeats 2000000 in
theorem half11W_fn (vars : List Int) (l : List Bd) (n i : Int) (nm : ByteArray) (ls : List ByteArray) (u : MG) (cu : Chk) (hcu : KidOk u cu) (hv : vars.length + szM (.mk 11 n i nm ls [] [u]) ≤ 549755813888) (hl : l.length + 2 * szM (.mk 11 n i nm ls [] [u]) ≤ 549755813888) (hz : szM (.mk 11 n i nm ls [] [u]) ≤ 1073741824) (hb : Bnd l) : FnQ Tryz.prog G0 123 [dSc vars l, dM (.mk 11 n i nm ls [] [u])] (fun o => o = resO ((halfR 1 cu) vars l)) ∧ ∀ t, (halfR 1 cu) vars l = .ok t → allG t = true ∧ szG t ≤ 2147483648 := by
  simp only [szM, szMs, szGs] at hv hl hz
  unfold halfR
  try simp only []
  have hK0 := hcu (vars) (l) (by (try simp only [lA, lC, lN]); omega) (by (try simp only [lA, lC, lN]); omega) (hb)
  obtain ⟨hK0, hK0G⟩ := hK0
  refine exC (cu (vars) (l)) (fun e hr0 => ?_) (fun w hr0 => ?_)
  rw [hr0] at hK0
  (try simp only [bE, askE, kidG, g_k, g_n, g_kids, gz, gs, bs, hr0])
  first | refine And.intro ?_ nofun | refine And.intro ?_ (by simp) | skip
  rotate_left
  rw [hr0] at hK0
  obtain ⟨haw, hzw⟩ := hK0G w hr0
  obtain ⟨kw, nw, lsw, lw⟩ := w
  have hA2 := ask_fn (kw == 5)
  refine byC (P := kw = 5) (fun hk2 => ?_) (fun hk2 => ?_)
  have hkb : (kw == 5) = false := by simpa using hk2
  rw [show askO (kw == 5) = .pan (badW 30) from by rw [hkb]; rfl] at hA2
  (try simp only [bE, askE, kidG, g_k, g_n, g_kids, gz, gs, bs, hr0, hkb])
  first | refine And.intro ?_ nofun | refine And.intro ?_ (by simp) | skip
  rotate_left
  subst hk2
  obtain ⟨rfl, rfl, aw, bw, rfl⟩ := shp2 (by omega) ((allG_mk ..).1 haw).1
  (try simp only [bE, askE, kidG, g_k, g_n, g_kids, gz, gs, bs, hr0])
  refine And.intro ?_ (fun t ht => by injection ht with ht; subst ht; exact ⟨((allG_mk ..).1 haw).2 bw (by simp), by simp only [szG, szGs] at hzw; omega⟩)
  rotate_left
  all_goals
    refine fnQ_of_vc txok mixed [(1, .take 0 (.pure 1 (.take 2 (.pure 3 (.take 4 (.two 5 6 (.run 6 (.fin 7 .done)) (.fin 5 (.fin 7 .done))))))))] Tryz.func123 rfl rfl (by simp) fun bb => ?_
    repeat' ((conv => whnf); first
      | refine And.intro (by kernel_rfl) ?_
      | refine And.intro ?_ ?_
      | refine IdxC.encMs (l := [u]) 0 (by simp) rfl ?_
      | (refine callQ rfl rfl gf46 hK0 ?_; rintro o rfl)
      | (refine callQ rfl rfl gf167 hA2 ?_; rintro o rfl)
      | (refine callQ rfl rfl gf167 (ask_fn true) ?_; rintro o rfl)
      | refine IdxC.encGs (l := [aw, bw]) 0 (by simp) rfl ?_
      | refine IdxC.encGs (l := [aw, bw]) 1 (by simp) rfl ?_
      | intro _)
    all_goals (try (conv => whnf))
    all_goals exact rfl
theorem kid_half11 (n i : Int) (nm : ByteArray) (ls : List ByteArray) (u : MG) (cu : Chk) (hcu : KidOk u cu) (hz : szM (.mk 11 n i nm ls [] [u]) ≤ 1073741824) : KidOk (.mk 11 n i nm ls [] [u]) (fun vars l => fitE ((halfR 1 cu) vars l)) :=
  kid_of _ ((halfR 1 cu)) 11 123 rfl rfl gf123 fun vars l hv hl hb => half11W_fn vars l n i nm ls u cu hcu hv hl hz hb
end Go.Proofs.YtcjkikadolnfgaaGreat


/- Rules: bin (printed by gzw.py). -/
set_option linter.unusedSimpArgs false
set_option linter.unusedVariables false
namespace Go.Proofs.YtcjkikadolnfgaaGreat
open Go.Vx Go.Vc Go.RowKit
set_option maxRecDepth 20000 in
set_option maxHeartbeats 2000000 in
theorem binW_fn (vars : List Int) (l : List Bd) (n i : Int) (nm : ByteArray) (ls : List ByteArray) (u : MG) (v : MG) (cu : Chk) (hcu : KidOk u cu) (cv : Chk) (hcv : KidOk v cv) (hv : vars.length + szM (.mk 13 n i nm ls [] [u, v]) ≤ 549755813888) (hl : l.length + 2 * szM (.mk 13 n i nm ls [] [u, v]) ≤ 549755813888) (hz : szM (.mk 13 n i nm ls [] [u, v]) ≤ 1073741824) (hb : Bnd l) : FnQ Tryz.prog G0 125 [dSc vars l, dM (.mk 13 n i nm ls [] [u, v])] (fun o => o = resO ((binR n cu cv) vars l)) ∧ ∀ t, (binR n cu cv) vars l = .ok t → allG t = true ∧ szG t ≤ 2147483648 := by
  simp only [szM, szMs, szGs] at hv hl hz
  unfold binR
  try simp only []
  have hK0 := hcu (vars) (l) (by (try simp only [lA, lC, lN]); omega) (by (try simp only [lA, lC, lN]); omega) (hb)
  obtain ⟨hK0, hK0G⟩ := hK0
  refine exC (cu (vars) (l)) (fun e hr0 => ?_) (fun a hr0 => ?_)
  rw [hr0] at hK0
  (try simp only [bE, askE, kidG, g_k, g_n, g_kids, gz, gs, bs, hr0])
  first | refine And.intro ?_ nofun | refine And.intro ?_ (by simp) | skip
  rotate_left
  rw [hr0] at hK0
  obtain ⟨haa, hza⟩ := hK0G a hr0
  have hK2 := hcv (vars) (l) (by (try simp only [lA, lC, lN]); omega) (by (try simp only [lA, lC, lN]); omega) (hb)
  obtain ⟨hK2, hK2G⟩ := hK2
  refine exC (cv (vars) (l)) (fun e hr2 => ?_) (fun b hr2 => ?_)
  rw [hr2] at hK2
  (try simp only [bE, askE, kidG, g_k, g_n, g_kids, gz, gs, bs, hr0, hr2])
  first | refine And.intro ?_ nofun | refine And.intro ?_ (by simp) | skip
  rotate_left
  rw [hr2] at hK2
  obtain ⟨hab, hzb⟩ := hK2G b hr2
  obtain ⟨ka, na, lsa, la⟩ := a
  obtain ⟨kb, nb, lsb, lb⟩ := b
  refine byC (P := ka = 1) (fun ha1 => ?_) (fun ha1 => ?_)
  have hkb : (ka == 1) = false := by simpa using ha1
  (try simp only [bE, askE, kidG, g_k, g_n, g_kids, gz, gs, bs, hr0, hr2, hkb, Bool.false_and])
  first | refine And.intro ?_ nofun | refine And.intro ?_ (by simp) | skip
  rotate_left
  subst ha1
  refine byC (P := kb = 1) (fun hb1 => ?_) (fun hb1 => ?_)
  have hkb : (kb == 1) = false := by simpa using hb1
  have hA := ask_fn (kb == 1)
  rw [show askO (kb == 1) = .pan (badW 30) from by rw [hkb]; rfl] at hA
  (try simp only [bE, askE, kidG, g_k, g_n, g_kids, gz, gs, bs, hr0, hr2, hkb, Bool.and_false])
  first | refine And.intro ?_ nofun | refine And.intro ?_ (by simp) | skip
  rotate_left
  subst hb1
  refine byC (P := ¬ n ≥ 5) (fun hn => ?_) (fun hn => ?_)
  have hn : n ≥ 5 := by omega
  (try simp only [bE, askE, kidG, g_k, g_n, g_kids, gz, gs, bs, hr0, hr2, Bool.and_self, if_pos hn])
  refine And.intro ?_ (fun t ht => by injection ht with ht; subst ht; exact ⟨rfl, by simp [szG, szGs]⟩)
  rotate_left
  (try simp only [bE, askE, kidG, g_k, g_n, g_kids, gz, gs, bs, hr0, hr2, Bool.and_self, if_neg hn])
  refine And.intro ?_ (fun t ht => by injection ht with ht; subst ht; exact ⟨rfl, by simp [szG, szGs]⟩)
  rotate_left
  all_goals
    refine fnQ_of_vc txok mixed [(1, .take 0 (.pure 1 (.take 2 (.pure 3 (.take 4 (.take 6 (.pure 7 (.take 8 (.pure 9 (.take 10 (.three 5 12 13 (.three 11 12 13 (.two 12 13 (.run 13 (.fin 14 (.fin 15 .done))) (.run 12 (.fin 14 (.fin 15 .done)))) (.two 11 13 (.run 13 (.fin 14 (.fin 15 .done))) (.fin 11 (.fin 14 (.fin 15 .done)))) (.two 11 12 (.run 12 (.fin 14 (.fin 15 .done))) (.fin 11 (.fin 14 (.fin 15 .done))))) (.two 5 13 (.two 11 13 (.run 13 (.fin 14 (.fin 15 .done))) (.fin 11 (.fin 14 (.fin 15 .done)))) (.run 5 (.fin 11 (.fin 14 (.fin 15 .done))))) (.two 5 12 (.two 11 12 (.run 12 (.fin 14 (.fin 15 .done))) (.fin 11 (.fin 14 (.fin 15 .done)))) (.run 5 (.fin 11 (.fin 14 (.fin 15 .done))))))))))))))))] Tryz.func125 rfl rfl (by simp) fun bb => ?_
    repeat' ((conv => whnf); first
      | refine And.intro (by kernel_rfl) ?_
      | (refine And.intro (fun h => ?_) (fun h => ?_); rotate_left; focus (exfalso; simp_all [MG.k, MG.n, g_k]; first | done | omega))
      | (refine And.intro (fun h => ?_) (fun h => ?_); focus (exfalso; simp_all [MG.k, MG.n, g_k]; first | done | omega))
      | refine And.intro ?_ ?_
      | refine IdxC.encMs (l := [u, v]) 0 (by simp) rfl ?_
      | refine IdxC.encMs (l := [u, v]) 1 (by simp) rfl ?_
      | (refine callQ rfl rfl gf46 hK0 ?_; rintro o rfl)
      | (refine callQ rfl rfl gf46 hK2 ?_; rintro o rfl)
      | (refine callQ rfl rfl gf167 (ask_fn false) ?_; rintro o rfl)
      | (refine callQ rfl rfl gf167 hA ?_; rintro o rfl)
      | (refine callQ rfl rfl gf167 (ask_fn true) ?_; rintro o rfl)
      | refine callF (node_fn 2 []) gf165 rfl rfl ?_
      | refine callF (node_fn 1 []) gf165 rfl rfl ?_
      | intro _)
    all_goals (try (conv => whnf))
    all_goals exact rfl
theorem kid_bin (n i : Int) (nm : ByteArray) (ls : List ByteArray) (u : MG) (v : MG) (cu : Chk) (hcu : KidOk u cu) (cv : Chk) (hcv : KidOk v cv) (hz : szM (.mk 13 n i nm ls [] [u, v]) ≤ 1073741824) : KidOk (.mk 13 n i nm ls [] [u, v]) (fun vars l => fitE ((binR n cu cv) vars l)) :=
  kid_of _ ((binR n cu cv)) 13 125 rfl rfl gf125 fun vars l hv hl hb => binW_fn vars l n i nm ls u v cu hcu cv hcv hv hl hz hb
end Go.Proofs.YtcjkikadolnfgaaGreat


/- Rules: inj (printed by gzw.py). -/
set_option linter.unusedSimpArgs false
set_option linter.unusedVariables false
namespace Go.Proofs.YtcjkikadolnfgaaGreat
open Go.Vx Go.Vc Go.RowKit
set_option maxRecDepth 20000 in
set_option maxHeartbeats 2000000 in
theorem injW_fn (vars : List Int) (l : List Bd) (n i : Int) (nm : ByteArray) (ls : List ByteArray) (j : Nat) (a : TG) (u : MG) (cu : Chk) (hcu : KidOk u cu) (hv : vars.length + szM (.mk 16 (j : Int) i nm ls [a] [u]) ≤ 549755813888) (hl : l.length + 2 * szM (.mk 16 (j : Int) i nm ls [a] [u]) ≤ 549755813888) (hz : szM (.mk 16 (j : Int) i nm ls [a] [u]) ≤ 1073741824) (hb : Bnd l) : FnQ Tryz.prog G0 128 [dSc vars l, dM (.mk 16 (j : Int) i nm ls [a] [u])] (fun o => o = resO ((injR a (j : Int) cu) vars l)) ∧ ∀ t, (injR a (j : Int) cu) vars l = .ok t → allG t = true ∧ szG t ≤ 2147483648 := by
  simp only [szM, szMs, szGs] at hv hl hz
  unfold injR
  try simp only []
  have hH0 := here_fn vars l a (by omega)
  unfold hereR at hH0
  refine boC (insG a vars) (fun hi0 => ?_) (fun hi0 => ?_)
  rw [hi0] at hH0
  (try simp only [bE, askE, kidG, g_k, g_n, g_kids, gz, gs, bs, hi0])
  first | refine And.intro ?_ nofun | refine And.intro ?_ (by simp) | skip
  rotate_left
  rw [hi0] at hH0
  have haa := ins_all hi0
  have hK2 := hcu (vars) (l) (by (try simp only [lA, lC, lN]); omega) (by (try simp only [lA, lC, lN]); omega) (hb)
  obtain ⟨hK2, hK2G⟩ := hK2
  refine exC (cu (vars) (l)) (fun e hr2 => ?_) (fun w hr2 => ?_)
  rw [hr2] at hK2
  (try simp only [bE, askE, kidG, g_k, g_n, g_kids, gz, gs, bs, hi0, hr2])
  first | refine And.intro ?_ nofun | refine And.intro ?_ (by simp) | skip
  rotate_left
  rw [hr2] at hK2
  obtain ⟨haw, hzw⟩ := hK2G w hr2
  obtain ⟨ka, na, lsa, la⟩ := a
  refine byC (P := ka = 8) (fun ha8 => ?_) (fun ha8 => ?_)
  have hkb : (ka == 8) = false := by simpa using ha8
  (try simp only [bE, askE, kidG, g_k, g_n, g_kids, gz, gs, bs, hi0, hr2, hkb, Bool.false_and])
  first | refine And.intro ?_ nofun | refine And.intro ?_ (by simp) | skip
  rotate_left
  subst ha8
  have hA := ask_fn (decide ((j : Int) < (la.length : Int)))
  refine byC (P := j < la.length) (fun hj => ?_) (fun hj => ?_)
  have hjb : decide ((j : Int) < (la.length : Int)) = false := decide_eq_false (by omega)
  rw [show askO (decide ((j : Int) < (la.length : Int))) = .pan (badW 30) from by rw [hjb]; rfl] at hA
  have hjn : Nat.blt j la.length = false := by rw [← Bool.not_eq_true, Nat.blt_eq]; exact hj
  (try simp only [bE, askE, kidG, g_k, g_n, g_kids, gz, gs, bs, hi0, hr2, hjn, Int.toNat_natCast, Bool.and_false])
  first | refine And.intro ?_ nofun | refine And.intro ?_ (by simp) | skip
  rotate_left
  have hjn : Nat.blt j la.length = true := by simpa using hj
  have hjb : decide ((j : Int) < (la.length : Int)) = true := decide_eq_true (by omega)
  rw [show askO (decide ((j : Int) < (la.length : Int))) = .ret (.tup []) from by rw [hjb]; rfl] at hA
  have hkd : kidG (.mk 8 na lsa la) j = la[j] := by simp only [kidG, g_kids]; rw [List.getD_eq_getElem?_getD, List.getElem?_eq_getElem hj]; rfl
  have hS := same_fn w la[j] (by omega)
  refine boC (samG w la[j] [] []) (fun hs => ?_) (fun hs => ?_)
  rw [hs] at hS
  (try simp only [bE, askE, g_k, g_n, g_kids, gz, gs, bs, hi0, hr2, hjn, Bool.and_self, Int.toNat_natCast, hkd, hs])
  first | refine And.intro ?_ nofun | refine And.intro ?_ (by simp) | skip
  rotate_left
  rw [hs] at hS
  (try simp only [bE, askE, g_k, g_n, g_kids, gz, gs, bs, hi0, hr2, hjn, Bool.and_self, Int.toNat_natCast, hkd, hs])
  refine And.intro ?_ (fun t ht => by injection ht with ht; subst ht; exact ⟨haa, by omega⟩)
  rotate_left
  all_goals
    refine fnQ_of_vc txok mixed [(1, .take 0 (.pure 1 (.take 2 (.pure 3 (.take 4 (.two 5 6 (.run 6 (.fin 7 .done)) (.fin 5 (.fin 7 .done)))))))), (2, .take 0 (.pure 1 (.take 2 (.pure 3 (.take 4 (.two 5 6 (.run 6 (.fin 7 .done)) (.fin 5 (.fin 7 .done)))))))), (4, .take 0 (.pure 1 (.take 2 (.pure 3 (.take 4 (.pure 5 (.take 6 (.fin 7 .done))))))))] Tryz.func128 rfl rfl (by simp) fun bb => ?_
    repeat' ((conv => whnf); first
      | refine And.intro (by kernel_rfl) ?_
      | (refine And.intro (fun h => ?_) (fun h => ?_); rotate_left; focus (exfalso; simp_all [MG.k, MG.n, g_k]; first | done | omega))
      | (refine And.intro (fun h => ?_) (fun h => ?_); focus (exfalso; simp_all [MG.k, MG.n, g_k]; first | done | omega))
      | refine And.intro ?_ ?_
      | refine IdxC.encGs (l := [a]) 0 (by simp) rfl ?_
      | refine IdxC.encMs (l := [u]) 0 (by simp) rfl ?_
      | (refine callQ rfl rfl gf168 hH0 ?_; rintro o rfl)
      | (refine callQ rfl rfl gf46 hK2 ?_; rintro o rfl)
      | refine IdxC.encGs (l := [(.mk ka na lsa la)]) 0 (by simp) rfl ?_
      | (refine callQ rfl rfl gf167 (ask_fn false) ?_; rintro o rfl)
      | refine IdxC.encGs (l := [(.mk 8 na lsa la)]) 0 (by simp) rfl ?_
      | (refine callQ rfl rfl gf167 hA ?_; rintro o rfl)
      | refine IdxC.encGs (l := la) j hj rfl ?_
      | (refine callQ rfl rfl gf170 hS ?_; rintro o rfl)
      | intro _)
    all_goals (try (conv => whnf))
    all_goals exact rfl
theorem kid_inj (n i : Int) (nm : ByteArray) (ls : List ByteArray) (j : Nat) (a : TG) (u : MG) (cu : Chk) (hcu : KidOk u cu) (hz : szM (.mk 16 (j : Int) i nm ls [a] [u]) ≤ 1073741824) : KidOk (.mk 16 (j : Int) i nm ls [a] [u]) (fun vars l => fitE ((injR a (j : Int) cu) vars l)) :=
  kid_of _ ((injR a (j : Int) cu)) 16 128 rfl rfl gf128 fun vars l hv hl hb => injW_fn vars l n i nm ls j a u cu hcu hv hl hz hb
end Go.Proofs.YtcjkikadolnfgaaGreat


/- Rules: opened (printed by gzw.py). -/
set_option linter.unusedSimpArgs false
set_option linter.unusedVariables false
namespace Go.Proofs.YtcjkikadolnfgaaGreat
open Go.Vx Go.Vc Go.RowKit
set_option maxRecDepth 20000 in
set_option maxHeartbeats 2000000 in
theorem openedW_fn (vars : List Int) (l : List Bd) (n i : Int) (nm : ByteArray) (ls : List ByteArray) (u : MG) (v : MG) (cu : Chk) (hcu : KidOk u cu) (cv : Chk) (hcv : KidOk v cv) (hv : vars.length + szM (.mk 23 n i nm ls [] [u, v]) ≤ 549755813888) (hl : l.length + 2 * szM (.mk 23 n i nm ls [] [u, v]) ≤ 549755813888) (hz : szM (.mk 23 n i nm ls [] [u, v]) ≤ 1073741824) (hb : Bnd l) : FnQ Tryz.prog G0 135 [dSc vars l, dM (.mk 23 n i nm ls [] [u, v])] (fun o => o = resO ((openR putR n nm cu cv) vars l)) ∧ ∀ t, (openR putR n nm cu cv) vars l = .ok t → allG t = true ∧ szG t ≤ 2147483648 := by
  simp only [szM, szMs, szGs] at hv hl hz
  unfold openR
  try simp only []
  have hK0 := hcu (vars) (l) (by (try simp only [lA, lC, lN]); omega) (by (try simp only [lA, lC, lN]); omega) (hb)
  obtain ⟨hK0, hK0G⟩ := hK0
  refine exC (cu (vars) (l)) (fun e hr0 => ?_) (fun w hr0 => ?_)
  rw [hr0] at hK0
  (try simp only [bE, askE, kidG, g_k, g_n, g_kids, gz, gs, bs, hr0])
  first | refine And.intro ?_ nofun | refine And.intro ?_ (by simp) | skip
  rotate_left
  rw [hr0] at hK0
  obtain ⟨haw, hzw⟩ := hK0G w hr0
  obtain ⟨kw, nw, lsw, lw⟩ := w
  have hA2 := ask_fn (kw == 11)
  refine byC (P := kw = 11) (fun hk2 => ?_) (fun hk2 => ?_)
  have hkb : (kw == 11) = false := by simpa using hk2
  rw [show askO (kw == 11) = .pan (badW 30) from by rw [hkb]; rfl] at hA2
  (try simp only [bE, askE, kidG, g_k, g_n, g_kids, gz, gs, bs, hr0, hkb])
  first | refine And.intro ?_ nofun | refine And.intro ?_ (by simp) | skip
  rotate_left
  subst hk2
  obtain ⟨rfl, uw, rfl⟩ := shp1 (by omega) ((allG_mk ..).1 haw).1
  have hauw := ((allG_mk ..).1 haw).2 uw (by simp)
  have hzuw : szG uw ≤ szG (TG.mk 11 nw [] [uw]) := by simp only [szG, szGs]; omega
  have hO5 := open_fn (vars) (l) n (by omega)
  refine byC (P := n ∉ vars) (fun hm5 => ?_) (fun hm5 => ?_)
  have hm5 : n ∈ vars := Classical.byContradiction hm5
  rw [if_pos hm5] at hO5
  simp only [if_pos hm5]
  (try simp only [bE, askE, kidG, g_k, g_n, g_kids, gz, gs, bs, hr0])
  first | refine And.intro ?_ nofun | refine And.intro ?_ (by simp) | skip
  rotate_left
  rw [if_neg hm5] at hO5
  simp only [if_neg hm5]
  have hP7 := kput_fn uw nw (varG n) (allG_okV hauw) (by omega) (by simp [varG, szG, szGs])
  refine exC (putR uw nw (varG n)) (fun e hw7 => ?_) (fun z hw7 => ?_)
  rw [hw7] at hP7
  (try simp only [bE, askE, kidG, g_k, g_n, g_kids, gz, gs, bs, hr0, hw7])
  first | refine And.intro ?_ nofun | refine And.intro ?_ (by simp) | skip
  rotate_left
  rw [hw7] at hP7
  obtain ⟨haz, hzz⟩ := putR_good hauw (allG_var n) hw7
  have hW9 := with_fn (vars ++ [n]) (l) nm z (by (try simp only [lA, lC, lN]); omega)
  have hK11 := hcv (vars ++ [n]) (l ++ [(nm, z)]) (by (try simp only [lA, lC, lN]); omega) (by (try simp only [lA, lC, lN]); omega) (hb.snoc haz (by omega))
  obtain ⟨hK11, hK11G⟩ := hK11
  refine exC (cv (vars ++ [n]) (l ++ [(nm, z)])) (fun e hr11 => ?_) (fun y hr11 => ?_)
  rw [hr11] at hK11
  (try simp only [bE, askE, kidG, g_k, g_n, g_kids, gz, gs, bs, hr0, hw7, hr11])
  first | refine And.intro ?_ nofun | refine And.intro ?_ (by simp) | skip
  rotate_left
  rw [hr11] at hK11
  obtain ⟨hay, hzy⟩ := hK11G y hr11
  have hFr := freeT_fn y (by omega)
  have hCo := contains_fn (freeS y) n
  have hA := ask_fn (!decide (n ∈ freeS y))
  refine byC (P := n ∉ freeS y) (fun hf => ?_) (fun hf => ?_)
  have hf : n ∈ freeS y := Classical.byContradiction hf
  have hfb : decide (n ∈ freeS y) = true := decide_eq_true hf
  rw [show askO (!decide (n ∈ freeS y)) = .pan (badW 30) from by rw [hfb]; rfl] at hA
  (try simp only [bE, askE, kidG, g_k, g_n, g_kids, gz, gs, bs, hr0, hw7, hr11, hfb, Bool.not_true])
  first | refine And.intro ?_ nofun | refine And.intro ?_ (by simp) | skip
  rotate_left
  have hfb : decide (n ∈ freeS y) = false := decide_eq_false hf
  rw [show askO (!decide (n ∈ freeS y)) = .ret (.tup []) from by rw [hfb]; rfl] at hA
  (try simp only [bE, askE, kidG, g_k, g_n, g_kids, gz, gs, bs, hr0, hw7, hr11, hfb, Bool.not_false])
  refine And.intro ?_ (fun t ht => by injection ht with ht; subst ht; exact ⟨hay, by omega⟩)
  rotate_left
  all_goals
    refine fnQ_of_vc txok mixed [(1, .take 0 (.pure 1 (.take 2 (.pure 3 (.take 4 (.two 5 6 (.run 6 (.fin 7 .done)) (.fin 5 (.fin 7 .done)))))))), (4, .take 0 (.pure 1 (.take 2 (.pure 3 (.take 4 (.pure 5 (.take 6 (.pure 7 (.take 8 (.pure 9 (.take 10 (.pure 11 (.pure 14 (.take 15 (.pure 16 (.take 17 (.two 12 19 (.two 13 19 (.two 18 19 (.run 19 (.fin 20 .done)) (.fin 18 (.fin 20 .done))) (.run 13 (.fin 18 (.fin 20 .done)))) (.run 12 (.run 13 (.fin 18 (.fin 20 .done))))))))))))))))))))), (5, .take 0 (.pure 2 (.take 3 (.run 1 (.fin 4 (.pure 5 (.fin 6 .done)))))))] Tryz.func135 rfl rfl (by simp) fun bb => ?_
    repeat' ((conv => whnf); first
      | refine And.intro (by kernel_rfl) ?_
      | (refine And.intro (fun h => ?_) (fun h => ?_); rotate_left; focus (exfalso; simp_all [MG.k, MG.n, g_k]; first | done | omega))
      | (refine And.intro (fun h => ?_) (fun h => ?_); focus (exfalso; simp_all [MG.k, MG.n, g_k]; first | done | omega))
      | refine And.intro ?_ ?_
      | refine IdxC.encMs (l := [u, v]) 0 (by simp) rfl ?_
      | refine IdxC.encMs (l := [u, v]) 1 (by simp) rfl ?_
      | (refine callQ rfl rfl gf46 hK0 ?_; rintro o rfl)
      | (refine callQ rfl rfl gf167 hA2 ?_; rintro o rfl)
      | (refine callQ rfl rfl gf167 (ask_fn true) ?_; rintro o rfl)
      | refine IdxC.encGs (l := [uw]) 0 (by simp) rfl ?_
      | (refine callQ rfl rfl gf173 hO5 ?_; rintro o rfl)
      | (refine callQ rfl rfl gf29 hP7 ?_; rintro o rfl)
      | refine callF hW9 gf169 rfl rfl ?_
      | (refine callQ rfl rfl gf46 hK11 ?_; rintro o rfl)
      | refine callF hFr gf33 rfl rfl ?_
      | refine callF hCo gf35 rfl rfl ?_
      | (refine callQ rfl rfl gf167 hA ?_; rintro o rfl)
      | intro _)
    all_goals (try (conv => whnf))
    all_goals exact rfl
theorem kid_opened (n i : Int) (nm : ByteArray) (ls : List ByteArray) (u : MG) (v : MG) (cu : Chk) (hcu : KidOk u cu) (cv : Chk) (hcv : KidOk v cv) (hz : szM (.mk 23 n i nm ls [] [u, v]) ≤ 1073741824) : KidOk (.mk 23 n i nm ls [] [u, v]) (fun vars l => fitE ((openR putR n nm cu cv) vars l)) :=
  kid_of _ ((openR putR n nm cu cv)) 23 135 rfl rfl gf135 fun vars l hv hl hb => openedW_fn vars l n i nm ls u v cu hcu cv hcv hv hl hz hb
end Go.Proofs.YtcjkikadolnfgaaGreat


/- slices.Index and slices.Clone of names; the rule of parts of records. -/
set_option linter.unusedSimpArgs false
set_option linter.unusedVariables false
namespace Go.Proofs.YtcjkikadolnfgaaGreat
open Go.Vx Go.Vc Go.RowKit
def restOf (f : Func) : Code := match f.body with
  | some (.seq _ (.seq _ y)) => y
  | _ => .skip
def idxZ (o : Option Nat) : Int := match o with
  | some j => (j : Int)
  | none => -1
def idxSf : List ByteArray → ByteArray → Int → Int
  | [], _, _ => -1
  | y :: r, x, i => if x = y then i else idxSf r x (i + 1)
theorem indexS_fn (l : List ByteArray) (x : ByteArray) : FnR Tryz.prog G0 172 [dL l, .str x] (.int .i64 (idxSf l x 0)) := by
  refine fnQ_sz fun hs => ?_
  have hl := (szOk_sl hs.1).1
  simp only [LB] at hl
  refine fnQ_of_vc txok mixed [] Tryz.func172 rfl rfl (by simp) fun b => ?_
  conv => whnf
  refine loopH (fun i : Nat => i ≤ l.length ∧ idxSf l x 0 = idxSf (l.drop i) x i) (fun i => l.length - i) (fun i => [(8, .d (.int .i64 i))]) (fun _ => []) 0 0 ⟨by omega, rfl⟩ (weak_of rfl (by repeat ((conv => whnf); first | exact trivial | refine And.intro rfl ?_ | refine And.intro (incD (by omega)) ?_)) (by repeat ((conv => whnf); first | exact trivial | refine And.intro rfl ?_ | refine And.intro (incD (by omega)) ?_))) ?_
  rintro i ⟨hi, hx⟩
  conv => whnf
  refine And.intro (fun h => ?_) (fun h => ?_)
  · have hil : i < l.length := by have := of_decide_eq_true h; omega
    rw [List.drop_eq_getElem_cons hil, idxSf] at hx
    conv => whnf
    refine IdxC.encS i hil rfl ?_
    conv => whnf
    refine And.intro (fun he => ?_) (fun he => ?_)
    · conv => whnf
      rw [beqB', decide_eq_true_eq] at he
      rw [hx, if_pos he]
    · conv => whnf
      rw [beqB', decide_eq_false_iff_not] at he
      rw [if_neg he] at hx
      exact again (i + 1) (by omega) ⟨by omega, by rw [hx]; rfl⟩ (weak_of rfl (by repeat ((conv => whnf); first | exact trivial | refine And.intro rfl ?_ | refine And.intro (incD (by omega)) ?_)) (by repeat ((conv => whnf); first | exact trivial | refine And.intro rfl ?_ | refine And.intro (incD (by omega)) ?_)))
  · have hb := of_decide_eq_false h
    conv => whnf
    rw [hx, List.drop_eq_nil_of_le (by omega)]; rfl
theorem idxSf_idxB : ∀ (l : List ByteArray) (x : ByteArray) (i : Nat), idxSf l x i = idxZ ((idxB l x).map (· + i))
  | [], _, _ => rfl
  | y :: r, x, i => by
    rw [idxSf]
    unfold idxB
    rw [List.findIdx?_cons]
    by_cases h : x = y
    · rw [if_pos h, h, if_pos (by simp)]; simp [idxZ]
    · rw [if_neg h, if_neg (by simpa using fun e => h e.symm)]
      have := idxSf_idxB r x (i + 1)
      rw [show ((i + 1 : Nat) : Int) = (i : Int) + 1 from rfl] at this
      rw [this]
      unfold idxB
      cases List.findIdx? (fun z => decide (z = x)) r with
      | none => rfl
      | some j => simp only [Option.map_some, idxZ]; omega
theorem idxSf_eq (l : List ByteArray) (x : ByteArray) : idxSf l x 0 = idxZ (idxB l x) := by
  have := idxSf_idxB l x 0
  rw [show ((0 : Nat) : Int) = 0 from rfl] at this
  rw [this]; cases idxB l x <;> rfl
theorem cloneS_fn (l : List ByteArray) : FnR Tryz.prog G0 171 [dL l] (dL l) := by
  refine fnQ_sz fun hs => ?_
  have hl := (szOk_sl hs.1).1
  refine fnQ_of_vc txok mixed [] Tryz.func171 rfl rfl (by simp) fun b => ?_
  conv => whnf
  intro c hc
  conv => whnf
  refine And.intro (fun h => ?_) (fun h => ?_)
  · conv => whnf
    rw [List.eq_nil_of_length_eq_zero (hc h)]; rfl
  · conv => whnf
    refine appR (i := 0) (sz := 1) (n := 0) (m := l.length) (xs := []) (ys := encS l) txok (fun _ => false) l.length (encS l) rfl rfl rfl (by kernel_rfl) (by rw [encS_len, Nat.mul_one]) (encS_scal l) (by simp) (by simp) hl ?_
    conv => whnf
    try exact rfl
set_option maxRecDepth 20000 in
theorem selW_fn (vars : List Int) (l : List Bd) (n i : Int) (nm : ByteArray) (ls : List ByteArray) (u : MG) (cu : Chk) (hcu : KidOk u cu) (hv : vars.length + szM (.mk 15 n i nm ls [] [u]) ≤ 549755813888) (hl : l.length + 2 * szM (.mk 15 n i nm ls [] [u]) ≤ 549755813888) (hb : Bnd l) : FnQ Tryz.prog G0 127 [dSc vars l, dM (.mk 15 n i nm ls [] [u])] (fun o => o = resO (selR nm cu vars l)) ∧ ∀ t, selR nm cu vars l = .ok t → allG t = true ∧ szG t ≤ 2147483648 := by
  simp only [szM, szMs, szGs] at hv hl
  unfold selR
  obtain ⟨hK0, hG0⟩ := hcu vars l (by omega) (by omega) hb
  cases hr : cu vars l with
  | error e =>
    rw [hr] at hK0
    refine ⟨?_, nofun⟩
    refine fnQ_of_vc txok mixed [(1, .take 0 (.pure 1 (.take 2 (.pure 3 (.take 4 (.two 5 6 (.run 6 (.fin 7 .done)) (.fin 5 (.fin 7 .done))))))))] Tryz.func127 rfl rfl (by simp) fun bb => ?_
    repeat' ((conv => whnf); first
      | refine And.intro (by kernel_rfl) ?_
      | refine And.intro ?_ ?_
      | refine IdxC.encMs (l := [u]) 0 (by simp) rfl ?_
      | (refine callQ rfl rfl gf46 hK0 ?_; rintro o rfl))
    all_goals (try (conv => whnf))
    all_goals exact rfl
  | ok w =>
  rw [hr] at hK0
  obtain ⟨haw, hzw⟩ := hG0 w hr
  obtain ⟨kw, nw, lsw, lw⟩ := w
  have hI := indexS_fn lsw nm
  rw [idxSf_eq] at hI
  by_cases hk : kw = 7
  rotate_left
  · have hkb : (kw == 7) = false := by simpa using hk
    have hA := ask_fn (kw == 7)
    rw [show askO (kw == 7) = .pan (badW 30) from by rw [hkb]; rfl] at hA
    refine ⟨?_, fun t ht => by exfalso; revert ht; simp only [bE, askE, g_k, hkb]; exact nofun⟩
    refine fnQ_of_vc txok mixed [(1, .take 0 (.pure 1 (.take 2 (.pure 3 (.take 4 (.two 5 6 (.run 6 (.fin 7 .done)) (.fin 5 (.fin 7 .done))))))))] Tryz.func127 rfl rfl (by simp) fun bb => ?_
    repeat' ((conv => whnf); first
      | refine And.intro (by kernel_rfl) ?_
      | refine And.intro ?_ ?_
      | refine IdxC.encMs (l := [u]) 0 (by simp) rfl ?_
      | (refine callQ rfl rfl gf46 hK0 ?_; rintro o rfl)
      | (refine callQ rfl rfl gf167 hA ?_; rintro o rfl))
    all_goals (try (conv => whnf))
    all_goals (simp only [bE, askE, g_k, hkb]; try exact rfl; done)
  subst hk
  have hshp := ((allG_mk ..).1 haw).1
  rw [shpG_mk, if_neg (by decide), if_neg (by decide), if_neg (by decide), if_pos (by decide)] at hshp
  simp only [Bool.and_eq_true, beq_iff_eq] at hshp
  cases hj : idxB lsw nm with
  | none =>
    rw [hj] at hI
    have hA := ask_fn (decide ((-1 : Int) ≥ 0))
    refine ⟨?_, fun t ht => by exfalso; revert ht; simp only [bE, askE, g_k, TG.ls, hj, beq_self_eq_true]; exact nofun⟩
    refine fnQ_of_vc txok mixed [(1, .take 0 (.pure 1 (.take 2 (.pure 3 (.take 4 (.two 5 6 (.run 6 (.fin 7 .done)) (.fin 5 (.fin 7 .done))))))))] Tryz.func127 rfl rfl (by simp) fun bb => ?_
    repeat' ((conv => whnf); first
      | refine And.intro (by kernel_rfl) ?_
      | refine And.intro ?_ ?_
      | refine IdxC.encMs (l := [u]) 0 (by simp) rfl ?_
      | (refine callQ rfl rfl gf46 hK0 ?_; rintro o rfl)
      | (refine callQ rfl rfl gf167 (ask_fn true) ?_; rintro o rfl)
      | refine callF hI gf172 rfl rfl ?_
      | (refine callQ rfl rfl gf167 hA ?_; rintro o rfl))
    all_goals (try (conv => whnf))
    all_goals (simp only [bE, askE, g_k, TG.ls, hj, beq_self_eq_true]; try exact rfl; done)
  | some j =>
    rw [hj] at hI
    have hjl : j < lw.length := by
      unfold idxB at hj
      have := (List.findIdx?_eq_some_iff_getElem.1 hj).1
      omega
    have hkd : kidG (.mk 7 nw lsw lw) j = lw[j] := by simp only [kidG, g_kids]; rw [List.getD_eq_getElem?_getD, List.getElem?_eq_getElem hjl]; rfl
    have hA := ask_fn (decide ((j : Int) ≥ 0))
    rw [show askO (decide ((j : Int) ≥ 0)) = .ret (.tup []) from by rw [decide_eq_true (by omega)]; rfl] at hA
    refine ⟨?_, fun t ht => by
      simp only [bE, askE, g_k, TG.ls, hj, beq_self_eq_true, hkd] at ht; injection ht with ht; subst ht
      refine ⟨((allG_mk ..).1 haw).2 _ (List.getElem_mem hjl), ?_⟩
      have := szG_mem (List.getElem_mem hjl)
      simp only [szG] at hzw; omega⟩
    refine fnQ_of_vc txok mixed [(1, .take 0 (.pure 1 (.take 2 (.pure 3 (.take 4 (.two 5 6 (.run 6 (.fin 7 .done)) (.fin 5 (.fin 7 .done))))))))] Tryz.func127 rfl rfl (by simp) fun bb => ?_
    repeat' ((conv => whnf); first
      | refine And.intro (by kernel_rfl) ?_
      | refine And.intro ?_ ?_
      | refine IdxC.encMs (l := [u]) 0 (by simp) rfl ?_
      | (refine callQ rfl rfl gf46 hK0 ?_; rintro o rfl)
      | (refine callQ rfl rfl gf167 (ask_fn true) ?_; rintro o rfl)
      | refine callF hI gf172 rfl rfl ?_
      | (refine callQ rfl rfl gf167 hA ?_; rintro o rfl)
      | refine IdxC.encGs (l := lw) j hjl rfl ?_)
    all_goals (try (conv => whnf))
    all_goals (simp only [bE, askE, g_k, TG.ls, hj, beq_self_eq_true, hkd]; try exact rfl; done)
theorem kid_sel (n i : Int) (nm : ByteArray) (ls : List ByteArray) (u : MG) (cu : Chk) (hcu : KidOk u cu) : KidOk (.mk 15 n i nm ls [] [u]) (fun vars l => fitE (selR nm cu vars l)) :=
  kid_of _ (selR nm cu) 15 127 rfl rfl gf127 fun vars l hv hl hb => selW_fn vars l n i nm ls u cu hcu hv hl hb
end Go.Proofs.YtcjkikadolnfgaaGreat


/- Rules: choose (printed by gzw.py). -/
set_option linter.unusedSimpArgs false
set_option linter.unusedVariables false
namespace Go.Proofs.YtcjkikadolnfgaaGreat
open Go.Vx Go.Vc Go.RowKit
def Atpq0 : List (Nat × Go.Vc.Pl) := [(1, .take 0 (.pure 1 (.take 2 (.pure 3 (.take 4 (.take 6 (.pure 7 (.take 8 (.pure 9 (.take 10 (.take 12 (.pure 13 (.take 14 (.pure 15 (.take 16 (.four 5 18 19 20 (.four 11 18 19 20 (.four 17 18 19 20 (.three 18 19 20 (.two 19 20 (.run 20 (.fin 21 (.fin 22 (.fin 23 .done)))) (.run 19 (.fin 21 (.fin 22 (.fin 23 .done))))) (.two 18 20 (.run 20 (.fin 21 (.fin 22 (.fin 23 .done)))) (.run 18 (.fin 21 (.fin 22 (.fin 23 .done))))) (.two 18 19 (.run 19 (.fin 21 (.fin 22 (.fin 23 .done)))) (.run 18 (.fin 21 (.fin 22 (.fin 23 .done)))))) (.three 17 19 20 (.two 19 20 (.run 20 (.fin 21 (.fin 22 (.fin 23 .done)))) (.run 19 (.fin 21 (.fin 22 (.fin 23 .done))))) (.two 17 20 (.run 20 (.fin 21 (.fin 22 (.fin 23 .done)))) (.fin 17 (.fin 21 (.fin 22 (.fin 23 .done))))) (.two 17 19 (.run 19 (.fin 21 (.fin 22 (.fin 23 .done)))) (.fin 17 (.fin 21 (.fin 22 (.fin 23 .done)))))) (.three 17 18 20 (.two 18 20 (.run 20 (.fin 21 (.fin 22 (.fin 23 .done)))) (.run 18 (.fin 21 (.fin 22 (.fin 23 .done))))) (.two 17 20 (.run 20 (.fin 21 (.fin 22 (.fin 23 .done)))) (.fin 17 (.fin 21 (.fin 22 (.fin 23 .done))))) (.two 17 18 (.run 18 (.fin 21 (.fin 22 (.fin 23 .done)))) (.fin 17 (.fin 21 (.fin 22 (.fin 23 .done)))))) (.three 17 18 19 (.two 18 19 (.run 19 (.fin 21 (.fin 22 (.fin 23 .done)))) (.run 18 (.fin 21 (.fin 22 (.fin 23 .done))))) (.two 17 19 (.run 19 (.fin 21 (.fin 22 (.fin 23 .done)))) (.fin 17 (.fin 21 (.fin 22 (.fin 23 .done))))) (.two 17 18 (.run 18 (.fin 21 (.fin 22 (.fin 23 .done)))) (.fin 17 (.fin 21 (.fin 22 (.fin 23 .done))))))) (.three 11 19 20 (.three 17 19 20 (.two 19 20 (.run 20 (.fin 21 (.fin 22 (.fin 23 .done)))) (.run 19 (.fin 21 (.fin 22 (.fin 23 .done))))) (.two 17 20 (.run 20 (.fin 21 (.fin 22 (.fin 23 .done)))) (.fin 17 (.fin 21 (.fin 22 (.fin 23 .done))))) (.two 17 19 (.run 19 (.fin 21 (.fin 22 (.fin 23 .done)))) (.fin 17 (.fin 21 (.fin 22 (.fin 23 .done)))))) (.two 11 20 (.two 17 20 (.run 20 (.fin 21 (.fin 22 (.fin 23 .done)))) (.fin 17 (.fin 21 (.fin 22 (.fin 23 .done))))) (.run 11 (.fin 17 (.fin 21 (.fin 22 (.fin 23 .done)))))) (.two 11 19 (.two 17 19 (.run 19 (.fin 21 (.fin 22 (.fin 23 .done)))) (.fin 17 (.fin 21 (.fin 22 (.fin 23 .done))))) (.run 11 (.fin 17 (.fin 21 (.fin 22 (.fin 23 .done))))))) (.three 11 18 20 (.three 17 18 20 (.two 18 20 (.run 20 (.fin 21 (.fin 22 (.fin 23 .done)))) (.run 18 (.fin 21 (.fin 22 (.fin 23 .done))))) (.two 17 20 (.run 20 (.fin 21 (.fin 22 (.fin 23 .done)))) (.fin 17 (.fin 21 (.fin 22 (.fin 23 .done))))) (.two 17 18 (.run 18 (.fin 21 (.fin 22 (.fin 23 .done)))) (.fin 17 (.fin 21 (.fin 22 (.fin 23 .done)))))) (.two 11 20 (.two 17 20 (.run 20 (.fin 21 (.fin 22 (.fin 23 .done)))) (.fin 17 (.fin 21 (.fin 22 (.fin 23 .done))))) (.run 11 (.fin 17 (.fin 21 (.fin 22 (.fin 23 .done)))))) (.two 11 18 (.two 17 18 (.run 18 (.fin 21 (.fin 22 (.fin 23 .done)))) (.fin 17 (.fin 21 (.fin 22 (.fin 23 .done))))) (.run 11 (.fin 17 (.fin 21 (.fin 22 (.fin 23 .done))))))) (.three 11 18 19 (.three 17 18 19 (.two 18 19 (.run 19 (.fin 21 (.fin 22 (.fin 23 .done)))) (.run 18 (.fin 21 (.fin 22 (.fin 23 .done))))) (.two 17 19 (.run 19 (.fin 21 (.fin 22 (.fin 23 .done)))) (.fin 17 (.fin 21 (.fin 22 (.fin 23 .done))))) (.two 17 18 (.run 18 (.fin 21 (.fin 22 (.fin 23 .done)))) (.fin 17 (.fin 21 (.fin 22 (.fin 23 .done)))))) (.two 11 19 (.two 17 19 (.run 19 (.fin 21 (.fin 22 (.fin 23 .done)))) (.fin 17 (.fin 21 (.fin 22 (.fin 23 .done))))) (.run 11 (.fin 17 (.fin 21 (.fin 22 (.fin 23 .done)))))) (.two 11 18 (.two 17 18 (.run 18 (.fin 21 (.fin 22 (.fin 23 .done)))) (.fin 17 (.fin 21 (.fin 22 (.fin 23 .done))))) (.run 11 (.fin 17 (.fin 21 (.fin 22 (.fin 23 .done)))))))) (.three 5 19 20 (.three 11 19 20 (.three 17 19 20 (.two 19 20 (.run 20 (.fin 21 (.fin 22 (.fin 23 .done)))) (.run 19 (.fin 21 (.fin 22 (.fin 23 .done))))) (.two 17 20 (.run 20 (.fin 21 (.fin 22 (.fin 23 .done)))) (.fin 17 (.fin 21 (.fin 22 (.fin 23 .done))))) (.two 17 19 (.run 19 (.fin 21 (.fin 22 (.fin 23 .done)))) (.fin 17 (.fin 21 (.fin 22 (.fin 23 .done)))))) (.two 11 20 (.two 17 20 (.run 20 (.fin 21 (.fin 22 (.fin 23 .done)))) (.fin 17 (.fin 21 (.fin 22 (.fin 23 .done))))) (.run 11 (.fin 17 (.fin 21 (.fin 22 (.fin 23 .done)))))) (.two 11 19 (.two 17 19 (.run 19 (.fin 21 (.fin 22 (.fin 23 .done)))) (.fin 17 (.fin 21 (.fin 22 (.fin 23 .done))))) (.run 11 (.fin 17 (.fin 21 (.fin 22 (.fin 23 .done))))))) (.two 5 20 (.two 11 20 (.two 17 20 (.run 20 (.fin 21 (.fin 22 (.fin 23 .done)))) (.fin 17 (.fin 21 (.fin 22 (.fin 23 .done))))) (.run 11 (.fin 17 (.fin 21 (.fin 22 (.fin 23 .done)))))) (.run 5 (.run 11 (.fin 17 (.fin 21 (.fin 22 (.fin 23 .done))))))) (.two 5 19 (.two 11 19 (.two 17 19 (.run 19 (.fin 21 (.fin 22 (.fin 23 .done)))) (.fin 17 (.fin 21 (.fin 22 (.fin 23 .done))))) (.run 11 (.fin 17 (.fin 21 (.fin 22 (.fin 23 .done)))))) (.run 5 (.run 11 (.fin 17 (.fin 21 (.fin 22 (.fin 23 .done)))))))) (.three 5 18 20 (.three 11 18 20 (.three 17 18 20 (.two 18 20 (.run 20 (.fin 21 (.fin 22 (.fin 23 .done)))) (.run 18 (.fin 21 (.fin 22 (.fin 23 .done))))) (.two 17 20 (.run 20 (.fin 21 (.fin 22 (.fin 23 .done)))) (.fin 17 (.fin 21 (.fin 22 (.fin 23 .done))))) (.two 17 18 (.run 18 (.fin 21 (.fin 22 (.fin 23 .done)))) (.fin 17 (.fin 21 (.fin 22 (.fin 23 .done)))))) (.two 11 20 (.two 17 20 (.run 20 (.fin 21 (.fin 22 (.fin 23 .done)))) (.fin 17 (.fin 21 (.fin 22 (.fin 23 .done))))) (.run 11 (.fin 17 (.fin 21 (.fin 22 (.fin 23 .done)))))) (.two 11 18 (.two 17 18 (.run 18 (.fin 21 (.fin 22 (.fin 23 .done)))) (.fin 17 (.fin 21 (.fin 22 (.fin 23 .done))))) (.run 11 (.fin 17 (.fin 21 (.fin 22 (.fin 23 .done))))))) (.two 5 20 (.two 11 20 (.two 17 20 (.run 20 (.fin 21 (.fin 22 (.fin 23 .done)))) (.fin 17 (.fin 21 (.fin 22 (.fin 23 .done))))) (.run 11 (.fin 17 (.fin 21 (.fin 22 (.fin 23 .done)))))) (.run 5 (.run 11 (.fin 17 (.fin 21 (.fin 22 (.fin 23 .done))))))) (.two 5 18 (.two 11 18 (.two 17 18 (.run 18 (.fin 21 (.fin 22 (.fin 23 .done)))) (.fin 17 (.fin 21 (.fin 22 (.fin 23 .done))))) (.run 11 (.fin 17 (.fin 21 (.fin 22 (.fin 23 .done)))))) (.run 5 (.run 11 (.fin 17 (.fin 21 (.fin 22 (.fin 23 .done)))))))) (.three 5 18 19 (.three 11 18 19 (.three 17 18 19 (.two 18 19 (.run 19 (.fin 21 (.fin 22 (.fin 23 .done)))) (.run 18 (.fin 21 (.fin 22 (.fin 23 .done))))) (.two 17 19 (.run 19 (.fin 21 (.fin 22 (.fin 23 .done)))) (.fin 17 (.fin 21 (.fin 22 (.fin 23 .done))))) (.two 17 18 (.run 18 (.fin 21 (.fin 22 (.fin 23 .done)))) (.fin 17 (.fin 21 (.fin 22 (.fin 23 .done)))))) (.two 11 19 (.two 17 19 (.run 19 (.fin 21 (.fin 22 (.fin 23 .done)))) (.fin 17 (.fin 21 (.fin 22 (.fin 23 .done))))) (.run 11 (.fin 17 (.fin 21 (.fin 22 (.fin 23 .done)))))) (.two 11 18 (.two 17 18 (.run 18 (.fin 21 (.fin 22 (.fin 23 .done)))) (.fin 17 (.fin 21 (.fin 22 (.fin 23 .done))))) (.run 11 (.fin 17 (.fin 21 (.fin 22 (.fin 23 .done))))))) (.two 5 19 (.two 11 19 (.two 17 19 (.run 19 (.fin 21 (.fin 22 (.fin 23 .done)))) (.fin 17 (.fin 21 (.fin 22 (.fin 23 .done))))) (.run 11 (.fin 17 (.fin 21 (.fin 22 (.fin 23 .done)))))) (.run 5 (.run 11 (.fin 17 (.fin 21 (.fin 22 (.fin 23 .done))))))) (.two 5 18 (.two 11 18 (.two 17 18 (.run 18 (.fin 21 (.fin 22 (.fin 23 .done)))) (.fin 17 (.fin 21 (.fin 22 (.fin 23 .done))))) (.run 11 (.fin 17 (.fin 21 (.fin 22 (.fin 23 .done)))))) (.run 5 (.run 11 (.fin 17 (.fin 21 (.fin 22 (.fin 23 .done))))))))))))))))))))))))]
inductive P6 where
  | a | b | c | d | e | f
def P6.p : P6 → Nat × Nat × Nat
  | .a => (3, 4, 5) | .b => (3, 5, 4) | .c => (4, 3, 5) | .d => (4, 5, 3) | .e => (5, 3, 4) | .f => (5, 4, 3)
def toKE {G : Glob} {n0 : Nat} (b : Bs G n0) (N : Nat) (st' : P6 → Go.Vx.St) : SExit → Go.Vx.St → Prop := fun x s => match x with
  | .normal => ∃ i, Go.Vx.Weak b N s (st' i)
  | _ => False
theorem wk_seqE {P : Program} {G : Glob} {N n0 : Nat} {b : Bs G n0} {x y : Code} {st : Go.Vx.St} {K : SExit → Go.Vx.St → Prop} (st' : P6 → Go.Vx.St) (h1 : Wk P b N x st (toKE b N st')) (h2 : ∀ i, Wk P b N y (st' i) K) : Wk P b N (.seq x y) st K := by
  intro e a w ok
  refine wp_seq (wp_mono (h1 e a w ok) fun ex a1 w1 h => ?_)
  cases ex with
  | panic c => obtain ⟨_, _, _, _, _, _, _, h⟩ := h; exact h.elim
  | outgrown => exact h.elim
  | ret => obtain ⟨_, _, _, h⟩ := h; exact h.elim
  | exit j => obtain ⟨_, _, _, h⟩ := h; exact h.elim
  | goto j => obtain ⟨_, _, _, h⟩ := h; exact h.elim
  | normal =>
    obtain ⟨e', s', ok', i, hw⟩ := h
    obtain ⟨e2, _, ok2⟩ := hw e' a1 w1 ok'
    exact h2 i e2 a1 w1 ok2
set_option maxRecDepth 20000 in
set_option maxHeartbeats 8000000 in
theorem choose_front (vars : List Int) (l : List Bd) (n i : Int) (nm : ByteArray) (ls : List ByteArray) (u v z : MG) {k1 n1 : Int} {ls1 : List ByteArray} {l1 : List TG} {k2 n2 : Int} {ls2 : List ByteArray} {l2 : List TG} {k3 n3 : Int} {ls3 : List ByteArray} {l3 : List TG} {Q : DOut → Prop}
    (hK0 : FnQ Tryz.prog G0 46 [dSc vars l, dM u] fun o => o = resO (.ok (.mk k1 n1 ls1 l1))) (hK2 : FnQ Tryz.prog G0 46 [dSc vars l, dM v] fun o => o = resO (.ok (.mk k2 n2 ls2 l2))) (hK4 : FnQ Tryz.prog G0 46 [dSc vars l, dM z] fun o => o = resO (.ok (.mk k3 n3 ls3 l3)))
    (h : ∀ (bb : Bs G0 0) (p : P6), Wk Tryz.prog bb 34 (restOf Tryz.f124) ⟨[(2, .own 0 0), (3, .own 1 0), (4, .own 2 0), (5, .own p.p.1 0), (6, .own p.p.2.1 0), (7, .own p.p.2.2 0)], nmH0 vars l (.mk 12 n i nm ls [] [u, v, z]) zS ++ [(p.p.1, .blk 28 (tcS (.mk k1 n1 ls1 l1))), (p.p.2.1, .blk 28 (tcS (.mk k2 n2 ls2 l2))), (p.p.2.2, .blk 28 (tcS (.mk k3 n3 ls3 l3)))], 6⟩ (retK tx 0 [] Tryz.f124.results.toList (closeQ Q))) : FnQ Tryz.prog G0 124 [dSc vars l, dM (.mk 12 n i nm ls [] [u, v, z])] Q := by
  refine fnQ_of_wk (N := 34) txok mixed Tryz.func124 rfl rfl (by simp) fun bb => ?_
  refine wk_seq ⟨[(2, .own 0 0), (3, .own 1 0), (4, .own 2 0)], nmH0 vars l (.mk 12 n i nm ls [] [u, v, z]) zS, 3⟩ (wk_vc txok mixed [] ?_) ?_
  · conv => whnf
    exact weak_of rfl (by repeat ((conv => whnf); first | exact trivial | refine And.intro rfl ?_ | refine And.intro (incD (by omega)) ?_)) (by repeat ((conv => whnf); first | exact trivial | refine And.intro rfl ?_ | refine And.intro (incD (by omega)) ?_))
  refine wk_seqE (fun p => ⟨[(2, .own 0 0), (3, .own 1 0), (4, .own 2 0), (5, .own p.p.1 0), (6, .own p.p.2.1 0), (7, .own p.p.2.2 0)], nmH0 vars l (.mk 12 n i nm ls [] [u, v, z]) zS ++ [(p.p.1, .blk 28 (tcS (.mk k1 n1 ls1 l1))), (p.p.2.1, .blk 28 (tcS (.mk k2 n2 ls2 l2))), (p.p.2.2, .blk 28 (tcS (.mk k3 n3 ls3 l3)))], 6⟩) (wk_vc txok mixed Atpq0 ?_) ?_
  rotate_left
  · intro p
    show Wk _ _ _ (restOf Tryz.f124) _ _
    exact h bb p
  · repeat' ((conv => whnf); first
      | refine And.intro (by kernel_rfl) ?_
      | refine And.intro ?_ ?_
      | refine IdxC.encMs (l := [u, v, z]) 0 (by simp) rfl ?_
      | refine IdxC.encMs (l := [u, v, z]) 1 (by simp) rfl ?_
      | refine IdxC.encMs (l := [u, v, z]) 2 (by simp) rfl ?_
      | (refine callQ rfl rfl gf46 hK0 ?_; rintro o rfl)
      | (refine callQ rfl rfl gf46 hK2 ?_; rintro o rfl)
      | (refine callQ rfl rfl gf46 hK4 ?_; rintro o rfl))
    all_goals first | (refine ⟨.a, weak_of rfl ?_ ?_⟩; (focus ((repeat ((conv => whnf); first | exact trivial | refine And.intro rfl ?_ | refine And.intro (incD (by omega)) ?_)); done)); (focus ((repeat ((conv => whnf); first | exact trivial | refine And.intro rfl ?_ | refine And.intro (incD (by omega)) ?_)); done))) | (refine ⟨.b, weak_of rfl ?_ ?_⟩; (focus ((repeat ((conv => whnf); first | exact trivial | refine And.intro rfl ?_ | refine And.intro (incD (by omega)) ?_)); done)); (focus ((repeat ((conv => whnf); first | exact trivial | refine And.intro rfl ?_ | refine And.intro (incD (by omega)) ?_)); done))) | (refine ⟨.c, weak_of rfl ?_ ?_⟩; (focus ((repeat ((conv => whnf); first | exact trivial | refine And.intro rfl ?_ | refine And.intro (incD (by omega)) ?_)); done)); (focus ((repeat ((conv => whnf); first | exact trivial | refine And.intro rfl ?_ | refine And.intro (incD (by omega)) ?_)); done))) | (refine ⟨.d, weak_of rfl ?_ ?_⟩; (focus ((repeat ((conv => whnf); first | exact trivial | refine And.intro rfl ?_ | refine And.intro (incD (by omega)) ?_)); done)); (focus ((repeat ((conv => whnf); first | exact trivial | refine And.intro rfl ?_ | refine And.intro (incD (by omega)) ?_)); done))) | (refine ⟨.e, weak_of rfl ?_ ?_⟩; (focus ((repeat ((conv => whnf); first | exact trivial | refine And.intro rfl ?_ | refine And.intro (incD (by omega)) ?_)); done)); (focus ((repeat ((conv => whnf); first | exact trivial | refine And.intro rfl ?_ | refine And.intro (incD (by omega)) ?_)); done))) | (refine ⟨.f, weak_of rfl ?_ ?_⟩; (focus ((repeat ((conv => whnf); first | exact trivial | refine And.intro rfl ?_ | refine And.intro (incD (by omega)) ?_)); done)); (focus ((repeat ((conv => whnf); first | exact trivial | refine And.intro rfl ?_ | refine And.intro (incD (by omega)) ?_)); done)))
set_option maxRecDepth 20000 in
set_option maxHeartbeats 8000000 in
theorem chooseW_fn (vars : List Int) (l : List Bd) (n i : Int) (nm : ByteArray) (ls : List ByteArray) (u : MG) (v : MG) (z : MG) (cu : Chk) (hcu : KidOk u cu) (cv : Chk) (hcv : KidOk v cv) (cz : Chk) (hcz : KidOk z cz) (hv : vars.length + szM (.mk 12 n i nm ls [] [u, v, z]) ≤ 549755813888) (hl : l.length + 2 * szM (.mk 12 n i nm ls [] [u, v, z]) ≤ 549755813888) (hz : szM (.mk 12 n i nm ls [] [u, v, z]) ≤ 1073741824) (hb : Bnd l) : FnQ Tryz.prog G0 124 [dSc vars l, dM (.mk 12 n i nm ls [] [u, v, z])] (fun o => o = resO ((chooseR cu cv cz) vars l)) ∧ ∀ t, (chooseR cu cv cz) vars l = .ok t → allG t = true ∧ szG t ≤ 2147483648 := by
  simp only [szM, szMs, szGs] at hv hl hz
  unfold chooseR
  try simp only []
  have hK0 := hcu (vars) (l) (by (try simp only [List.length_append, List.length_cons, List.length_nil]); omega) (by (try simp only [List.length_append, List.length_cons, List.length_nil]); omega) (hb)
  obtain ⟨hK0, hK0G⟩ := hK0
  cases hr0 : cu (vars) (l) with
  | error e =>
    rw [hr0] at hK0
    refine And.intro ?_ (fun t ht => by exfalso; revert ht; (try simp only [bE, askE, kidG, g_k, g_n, g_kids, List.getD_cons_zero, List.getD_cons_succ, beq_self_eq_true, hr0]); exact nofun)
    refine fnQ_of_vc txok mixed Atpq0 Tryz.func124 rfl rfl (by simp) fun bb => ?_
    repeat' ((conv => whnf); first
      | refine And.intro (by kernel_rfl) ?_
      | refine And.intro ?_ ?_
      | refine IdxC.encMs (l := [u, v, z]) 0 (by simp) rfl ?_
      | refine IdxC.encMs (l := [u, v, z]) 1 (by simp) rfl ?_
      | refine IdxC.encMs (l := [u, v, z]) 2 (by simp) rfl ?_
      | (refine callQ rfl rfl gf46 hK0 ?_; rintro o rfl)
      | intro _)
    all_goals (try (conv => whnf))
    all_goals first | exact rfl | (simp only [bE, askE, kidG, g_k, g_n, g_kids, List.getD_cons_zero, List.getD_cons_succ, beq_self_eq_true, hr0]; try exact rfl; done)
  | ok x =>
  rw [hr0] at hK0
  obtain ⟨hax, hzx⟩ := hK0G x hr0
  have hK2 := hcv (vars) (l) (by (try simp only [List.length_append, List.length_cons, List.length_nil]); omega) (by (try simp only [List.length_append, List.length_cons, List.length_nil]); omega) (hb)
  obtain ⟨hK2, hK2G⟩ := hK2
  cases hr2 : cv (vars) (l) with
  | error e =>
    rw [hr2] at hK2
    refine And.intro ?_ (fun t ht => by exfalso; revert ht; (try simp only [bE, askE, kidG, g_k, g_n, g_kids, List.getD_cons_zero, List.getD_cons_succ, beq_self_eq_true, hr0, hr2]); exact nofun)
    refine fnQ_of_vc txok mixed Atpq0 Tryz.func124 rfl rfl (by simp) fun bb => ?_
    repeat' ((conv => whnf); first
      | refine And.intro (by kernel_rfl) ?_
      | refine And.intro ?_ ?_
      | refine IdxC.encMs (l := [u, v, z]) 0 (by simp) rfl ?_
      | refine IdxC.encMs (l := [u, v, z]) 1 (by simp) rfl ?_
      | refine IdxC.encMs (l := [u, v, z]) 2 (by simp) rfl ?_
      | (refine callQ rfl rfl gf46 hK0 ?_; rintro o rfl)
      | (refine callQ rfl rfl gf46 hK2 ?_; rintro o rfl)
      | intro _)
    all_goals (try (conv => whnf))
    all_goals first | exact rfl | (simp only [bE, askE, kidG, g_k, g_n, g_kids, List.getD_cons_zero, List.getD_cons_succ, beq_self_eq_true, hr0, hr2]; try exact rfl; done)
  | ok a =>
  rw [hr2] at hK2
  obtain ⟨haa, hza⟩ := hK2G a hr2
  have hK4 := hcz (vars) (l) (by (try simp only [List.length_append, List.length_cons, List.length_nil]); omega) (by (try simp only [List.length_append, List.length_cons, List.length_nil]); omega) (hb)
  obtain ⟨hK4, hK4G⟩ := hK4
  cases hr4 : cz (vars) (l) with
  | error e =>
    rw [hr4] at hK4
    refine And.intro ?_ (fun t ht => by exfalso; revert ht; (try simp only [bE, askE, kidG, g_k, g_n, g_kids, List.getD_cons_zero, List.getD_cons_succ, beq_self_eq_true, hr0, hr2, hr4]); exact nofun)
    refine fnQ_of_vc txok mixed Atpq0 Tryz.func124 rfl rfl (by simp) fun bb => ?_
    repeat' ((conv => whnf); first
      | refine And.intro (by kernel_rfl) ?_
      | refine And.intro ?_ ?_
      | refine IdxC.encMs (l := [u, v, z]) 0 (by simp) rfl ?_
      | refine IdxC.encMs (l := [u, v, z]) 1 (by simp) rfl ?_
      | refine IdxC.encMs (l := [u, v, z]) 2 (by simp) rfl ?_
      | (refine callQ rfl rfl gf46 hK0 ?_; rintro o rfl)
      | (refine callQ rfl rfl gf46 hK2 ?_; rintro o rfl)
      | (refine callQ rfl rfl gf46 hK4 ?_; rintro o rfl)
      | intro _)
    all_goals (try (conv => whnf))
    all_goals first | exact rfl | (simp only [bE, askE, kidG, g_k, g_n, g_kids, List.getD_cons_zero, List.getD_cons_succ, beq_self_eq_true, hr0, hr2, hr4]; try exact rfl; done)
  | ok b =>
  rw [hr4] at hK4
  obtain ⟨hab, hzb⟩ := hK4G b hr4
  obtain ⟨kx, nx, lsx, lx⟩ := x
  obtain ⟨ka, na, lsa, la⟩ := a
  obtain ⟨kb, nb, lsb, lb⟩ := b
  have hA6 := ask_fn (kx == 2)
  by_cases hk6 : kx = 2
  rotate_left
  · have hkb : (kx == 2) = false := by simpa using hk6
    rw [show askO (kx == 2) = .pan (badW 30) from by rw [hkb]; rfl] at hA6
    refine And.intro ?_ (fun t ht => by exfalso; revert ht; (try simp only [bE, askE, kidG, g_k, g_n, g_kids, List.getD_cons_zero, List.getD_cons_succ, beq_self_eq_true, hr0, hr2, hr4, hkb]); exact nofun)
    refine choose_front vars l n i nm ls u v z hK0 hK2 hK4 fun bb p => ?_
    refine wk_vc txok mixed [] ?_
    cases p <;> repeat' ((conv => whnf); first
      | (refine callQ rfl rfl gf167 hA6 ?_; rintro o rfl))
    all_goals (try (conv => whnf))
    all_goals first | exact rfl | (simp only [bE, askE, kidG, g_k, g_n, g_kids, List.getD_cons_zero, List.getD_cons_succ, beq_self_eq_true, hr0, hr2, hr4, hkb]; try exact rfl; done)
  subst hk6
  have hS8 := same_fn (.mk ka na lsa la) (.mk kb nb lsb lb) (by omega)
  cases hs8 : samG (.mk ka na lsa la) (.mk kb nb lsb lb) [] [] with
  | false =>
    rw [hs8] at hS8
    refine And.intro ?_ (fun t ht => by exfalso; revert ht; (try simp only [bE, askE, kidG, g_k, g_n, g_kids, List.getD_cons_zero, List.getD_cons_succ, beq_self_eq_true, hr0, hr2, hr4, hs8]); exact nofun)
    refine choose_front vars l n i nm ls u v z hK0 hK2 hK4 fun bb p => ?_
    refine wk_vc txok mixed [] ?_
    cases p <;> repeat' ((conv => whnf); first
      | (refine callQ rfl rfl gf167 (ask_fn true) ?_; rintro o rfl)
      | (refine callQ rfl rfl gf170 hS8 ?_; rintro o rfl))
    all_goals (try (conv => whnf))
    all_goals first | exact rfl | (simp only [bE, askE, kidG, g_k, g_n, g_kids, List.getD_cons_zero, List.getD_cons_succ, beq_self_eq_true, hr0, hr2, hr4, hs8]; try exact rfl; done)
  | true =>
    rw [hs8] at hS8
    refine And.intro ?_ (fun t ht => by (try simp only [bE, askE, kidG, g_k, g_n, g_kids, List.getD_cons_zero, List.getD_cons_succ, beq_self_eq_true, hr0, hr2, hr4, hs8] at ht); injection ht with ht; subst ht; exact ⟨haa, by omega⟩)
    refine choose_front vars l n i nm ls u v z hK0 hK2 hK4 fun bb p => ?_
    refine wk_vc txok mixed [] ?_
    cases p <;> repeat' ((conv => whnf); first
      | (refine callQ rfl rfl gf167 (ask_fn true) ?_; rintro o rfl)
      | (refine callQ rfl rfl gf170 hS8 ?_; rintro o rfl))
    all_goals (try (conv => whnf))
    all_goals first | exact rfl | (simp only [bE, askE, kidG, g_k, g_n, g_kids, List.getD_cons_zero, List.getD_cons_succ, beq_self_eq_true, hr0, hr2, hr4, hs8]; try exact rfl; done)
theorem kid_choose (n i : Int) (nm : ByteArray) (ls : List ByteArray) (u : MG) (v : MG) (z : MG) (cu : Chk) (hcu : KidOk u cu) (cv : Chk) (hcv : KidOk v cv) (cz : Chk) (hcz : KidOk z cz) (hz : szM (.mk 12 n i nm ls [] [u, v, z]) ≤ 1073741824) : KidOk (.mk 12 n i nm ls [] [u, v, z]) (fun vars l => fitE ((chooseR cu cv cz) vars l)) :=
  kid_of _ ((chooseR cu cv cz)) 12 124 rfl rfl gf124 fun vars l hv hl hb => chooseW_fn vars l n i nm ls u v z cu hcu cv hcv cz hcz hv hl hz hb
end Go.Proofs.YtcjkikadolnfgaaGreat


/- The rule of records. -/
set_option linter.unusedSimpArgs false
set_option linter.unusedVariables false
namespace Go.Proofs.YtcjkikadolnfgaaGreat
open Go.Vx Go.Vc Go.RowKit
theorem kid_of2 (m : MG) (c : Chk) (j : Nat) (f : FuncId) (hk : m.k = (j : Int)) (hj : rulesD[j]? = some (.fn f [] [])) (hg : Goes Tryz.prog f)
    (h : ∀ vars l, vars.length + szM m ≤ 549755813888 → l.length + 2 * szM m ≤ 549755813888 → Bnd l → FnQ Tryz.prog G0 f [dSc vars l, dM m] (fun o => o = resO (c vars l)) ∧ ∀ t, c vars l = .ok t → allG t = true ∧ szG t < 4611686018427387904) : KidOk m (fun vars l => fitE (c vars l)) := by
  intro vars l hv hl hb
  obtain ⟨h1, h2⟩ := h vars l hv hl hb
  exact ⟨of_fn vars l m (c vars l) j f hk hj hg h1 (fun t ht => (h2 t ht).2), good_fit fun t ht => (h2 t ht).1⟩
def mapE (acc : List TG) : Except Int (List TG) → Except Int (List TG)
  | .ok us => .ok (acc ++ us)
  | .error e => .error e
theorem mapE_nil (r : Except Int (List TG)) : mapE [] r = r := by cases r <;> rfl
theorem mapE_cons (acc : List TG) (t : TG) (r : Except Int (List TG)) : mapE acc (consE (.ok t) r) = mapE (acc ++ [t]) r := by
  cases r
  · rfl
  · simp [consE, mapE]
theorem recK_good (vars : List Int) (l : List Bd) : ∀ (ks : List MG) (cs : List Chk), cs.length = ks.length → (∀ (j : Nat) (h : j < ks.length) (h' : j < cs.length), KidOk ks[j] cs[j]) → vars.length + szMs ks ≤ 549755813888 → l.length + 2 * szMs ks ≤ 549755813888 → Bnd l → ∀ ts, recK cs vars l = .ok ts → ts.length = ks.length ∧ (∀ t ∈ ts, allG t = true) ∧ szGs ts ≤ 1048576 * ks.length
  | [], [], _, _, _, _, _ => fun ts h => by injection h with h; subst h; exact ⟨rfl, nofun, by simp [szGs]⟩
  | [], _ :: _, h, _, _, _, _ => by simp at h
  | _ :: _, [], h, _, _, _, _ => by simp at h
  | m :: ks, c :: cs, hl, hc, hv, hz, hb => fun ts h => by
    simp only [szMs] at hv hz
    have h1 := (hc 0 (by simp) (by simp) vars l (by simp; omega) (by simp; omega) hb).2
    rw [recK] at h
    simp only [List.getElem_cons_zero] at h1
    cases hr : c vars l with
    | error e => rw [hr] at h; cases h
    | ok t =>
      rw [hr] at h
      obtain ⟨ha, hs⟩ := h1 t hr
      cases hq : recK cs vars l with
      | error e => rw [hq] at h; cases h
      | ok us =>
        rw [hq] at h
        injection h with h; subst h
        obtain ⟨q1, q2, q3⟩ := recK_good vars l ks cs (by simpa using hl) (fun j h h' => hc (j + 1) (by simpa using h) (by simpa using h')) (by omega) (by omega) hb us hq
        refine ⟨by simp [q1], fun u hu => ?_, by simp only [szGs, List.length_cons]; omega⟩
        rcases List.mem_cons.1 hu with rfl | hu
        · exact ha
        · exact q2 u hu
theorem szMs_len : ∀ l : List MG, l.length ≤ szMs l
  | [] => by simp [szMs]
  | m :: r => by
    have := szMs_len r
    have : 1 ≤ szM m := by cases m; simp only [szM]; omega
    simp only [szMs, List.length_cons]; omega
set_option maxRecDepth 20000 in
theorem recW_fn (vars : List Int) (l : List Bd) (n i : Int) (nm : ByteArray) (ls : List ByteArray) (ks : List MG) (cs : List Chk) (hcl : cs.length = ks.length) (hc : ∀ (j : Nat) (h : j < ks.length) (h' : j < cs.length), KidOk ks[j] cs[j]) (hls : ls.length = ks.length) (hord : ordS ls = true)
    (hv : vars.length + szM (.mk 14 n i nm ls [] ks) ≤ 549755813888) (hl : l.length + 2 * szM (.mk 14 n i nm ls [] ks) ≤ 549755813888) (hz : szM (.mk 14 n i nm ls [] ks) ≤ 1073741824) (hb : Bnd l) : FnQ Tryz.prog G0 126 [dSc vars l, dM (.mk 14 n i nm ls [] ks)] (fun o => o = resO (recR ls cs vars l)) ∧ ∀ t, recR ls cs vars l = .ok t → allG t = true ∧ szG t < 4611686018427387904 := by
  simp only [szM, szGs] at hv hl hz
  have hks := szMs_len ks
  refine ⟨?_, fun t ht => ?_⟩
  · refine fnQ_of_vc txok mixed [(5, .pure 0 (.take 1 (.take 2 (.take 3 (.run 4 (.run 5 (.fin 6 (.pure 7 (.fin 8 .done)))))))))] Tryz.func126 rfl rfl (by simp) fun b => ?_
    conv => whnf
    refine callF (cloneS_fn ls) gf171 rfl rfl ?_
    conv => whnf
    refine loopH (fun z : Nat × List TG => z.1 ≤ ks.length ∧ recK cs vars l = mapE z.2 (recK (cs.drop z.1) vars l) ∧ z.2.length = z.1) (fun z => ks.length - z.1) (fun z => [(15, .d (.int .i64 z.1))])
      (fun z => [(0, .blk 71 [.d (dI vars), .d (dBs l)]), (1, .blk 26 (mcS (.mk 14 n i nm ls [] ks))), (2, .blk 28 zS), (3, .blk 28 [.d (.int .i64 7), .d (.int .i64 0), .d (dL ls), .row 4]), (4, .row 28 64 4 z.2.length (encGs z.2))]) 5 (0, []) ⟨by simp, by rw [mapE_nil]; rfl, rfl⟩ ((weak_nlC 3 3 28 64 4 rfl rfl).trans (weak_of rfl (by repeat ((conv => whnf); first | exact trivial | refine And.intro rfl ?_ | refine And.intro (incD (by omega)) ?_)) (by repeat ((conv => whnf); first | exact trivial | refine And.intro rfl ?_ | refine And.intro (incD (by omega)) ?_)))) ?_
    rintro ⟨i, acc⟩ ⟨hi, hx, hal⟩
    simp only at hi hx hal
    conv => whnf
    refine And.intro (fun hb' => ?_) (fun hb' => ?_)
    · have hil : i < ks.length := by have := of_decide_eq_true hb'; simp only [MG.ks] at this; omega
      have hic : i < cs.length := by omega
      rw [List.drop_eq_getElem_cons hic, recK] at hx
      have hsz := szM_mem (List.getElem_mem hil)
      obtain ⟨hK0, hG0⟩ := hc i hil hic vars l (by omega) (by omega) hb
      cases hr : cs[i] vars l with
      | error e =>
        rw [hr] at hK0 hx
        conv => whnf
        repeat' ((conv => whnf); first
          | refine IdxC.encMs (l := ks) i hil rfl ?_
          | refine And.intro (by kernel_rfl) ?_
          | refine And.intro ?_ ?_
          | (refine callQ rfl rfl gf46 hK0 ?_; rintro o rfl))
        all_goals (try (conv => whnf))
        all_goals (show _ = resO (recR ls cs vars l); unfold recR; rw [hx]; rfl)
      | ok t =>
        rw [hr] at hK0 hx
        rw [mapE_cons] at hx
        obtain ⟨k1, n1, l1, m1⟩ := t
        conv => whnf
        refine IdxC.encMs (l := ks) i hil rfl ?_
        repeat' ((conv => whnf); first
          | refine And.intro (by kernel_rfl) ?_
          | refine And.intro ?_ ?_
          | (refine callQ rfl rfl gf46 hK0 ?_; rintro o rfl)
          | refine appR (i := 4) (sz := 4) (n := acc.length) (m := 1) (xs := encGs acc) (ys := encGs [TG.mk k1 n1 l1 m1]) txok (fun k => Nat.ble 5 k) (acc ++ [TG.mk k1 n1 l1 m1]).length (encGs (acc ++ [TG.mk k1 n1 l1 m1])) (by exact rfl) (by exact rfl) (by exact rfl) (by kernel_rfl) (by exact rfl) (encGs_scal _) (by simp) (by rw [encGs_app]) (by simp only [LB, List.length_append, List.length_cons, List.length_nil]; omega) ?_)
        all_goals (try (conv => whnf))
        all_goals
          rw [incD (by omega)]
          exact again (i + 1, acc ++ [TG.mk k1 n1 l1 m1]) (by simp; omega) ⟨by simp; omega, hx, by simp; omega⟩ (weak_of rfl (by repeat ((conv => whnf); first | exact trivial | refine And.intro rfl ?_ | refine And.intro (incD (by omega)) ?_)) (by repeat ((conv => whnf); first | exact trivial | refine And.intro rfl ?_ | refine And.intro (incD (by omega)) ?_)))
    · have hi : i = ks.length := by have := of_decide_eq_false hb'; simp only [MG.ks] at this; omega
      subst hi
      rw [List.drop_eq_nil_of_le (by omega)] at hx
      have hr : recR ls cs vars l = .ok (.mk 7 0 ls acc) := by unfold recR; rw [hx]; simp [recK, mapE]
      rw [hr]
      conv => whnf
      try exact rfl
  · unfold recR at ht
    cases hq : recK cs vars l with
    | error e => rw [hq] at ht; cases ht
    | ok ts =>
      rw [hq] at ht
      injection ht with ht; subst ht
      obtain ⟨q1, q2, q3⟩ := recK_good vars l ks cs hcl hc (by omega) (by omega) hb ts hq
      refine ⟨(allG_mk ..).2 ⟨?_, q2⟩, by simp only [szG]; omega⟩
      rw [shpG_mk, if_neg (by decide), if_neg (by decide), if_neg (by decide), if_pos (by decide), hord, q1, hls]
      simp
theorem kid_rec (n i : Int) (nm : ByteArray) (ls : List ByteArray) (ks : List MG) (cs : List Chk) (hcl : cs.length = ks.length) (hc : ∀ (j : Nat) (h : j < ks.length) (h' : j < cs.length), KidOk ks[j] cs[j]) (hls : ls.length = ks.length) (hord : ordS ls = true) (hz : szM (.mk 14 n i nm ls [] ks) ≤ 1073741824) : KidOk (.mk 14 n i nm ls [] ks) (fun vars l => fitE (recR ls cs vars l)) :=
  kid_of2 _ (recR ls cs) 14 126 rfl rfl gf126 fun vars l hv hl hb => recW_fn vars l n i nm ls ks cs hcl hc hls hord hv hl hz hb
end Go.Proofs.YtcjkikadolnfgaaGreat


/- The rule of branches. -/
set_option linter.unusedSimpArgs false
set_option linter.unusedVariables false
namespace Go.Proofs.YtcjkikadolnfgaaGreat
open Go.Vx Go.Vc Go.RowKit
def Awpq0 : List (Nat × Go.Vc.Pl) := [(1, .take 0 (.pure 1 (.take 2 (.pure 3 (.take 4 (.two 5 6 (.run 6 (.fin 7 .done)) (.fin 5 (.fin 7 .done)))))))), (7, .pure 0 (.take 1 (.pure 2 (.pure 3 (.take 4 (.pure 5 (.pure 6 (.take 7 (.pure 9 (.take 10 (.pure 11 (.pure 12 (.pure 13 (.take 14 (.run 8 (.fin 15 (.fin 16 (.fin 17 (.pure 18 .done))))))))))))))))))), (12, .take 0 (.pure 1 (.pure 2 (.take 3 (.fin 4 .done)))))]
theorem casK_good (vars : List Int) (l : List Bd) : ∀ (ls : List ByteArray) (ts : List TG) (ks : List MG) (cs : List Chk), ts.length = ls.length → ks.length = ls.length → cs.length = ks.length → (∀ (j : Nat) (h : j < ks.length) (h' : j < cs.length), KidOk ks[j] cs[j]) → (∀ t ∈ ts, allG t = true ∧ szG t ≤ 1073741824) → vars.length + szMs ks ≤ 549755813888 → l.length + 1 + 2 * szMs ks ≤ 549755813888 → Bnd l → ∀ us, casK ls ts cs vars l = .ok us → us.length = ls.length ∧ ∀ t ∈ us, allG t = true ∧ szG t ≤ 1048576
  | [], [], [], [], _, _, _, _, _, _, _, _ => fun us h => by injection h with h; subst h; exact ⟨rfl, nofun⟩
  | nm :: ls, t :: ts, m :: ks, c :: cs, h1, h2, h3, hc, ht, hv, hz, hb => fun us h => by
    simp only [szMs] at hv hz
    have hm : 1 ≤ szM m := by cases m; simp only [szM]; omega
    have hks := szMs_len ks
    have hB : Bnd (l ++ [(nm, t)]) := hb.snoc (ht t (by simp)).1 (ht t (by simp)).2
    have g1 := (hc 0 (by simp) (by simp) vars (l ++ [(nm, t)]) (by simp only [List.getElem_cons_zero]; omega) (by simp only [List.getElem_cons_zero, List.length_append, List.length_cons, List.length_nil]; omega) hB).2
    simp only [List.getElem_cons_zero] at g1
    rw [casK] at h
    cases hr : c vars (l ++ [(nm, t)]) with
    | error e => rw [hr] at h; cases h
    | ok v =>
      rw [hr] at h
      cases hq : casK ls ts cs vars l with
      | error e => rw [hq] at h; cases h
      | ok vs =>
        rw [hq] at h
        injection h with h; subst h
        obtain ⟨q1, q2⟩ := casK_good vars l ls ts ks cs (by simpa using h1) (by simpa using h2) (by simpa using h3) (fun j h h' => hc (j + 1) (by simpa using h) (by simpa using h')) (fun t h => ht t (by simp [h])) (by omega) (by omega) hb vs hq
        refine ⟨by simp [q1], fun w hw => ?_⟩
        rcases List.mem_cons.1 hw with rfl | hw
        · exact g1 w hr
        · exact q2 w hw
  | [], _ :: _, _, _, h, _, _, _, _, _, _, _ => by simp at h
  | [], _, _ :: _, _, _, h, _, _, _, _, _, _ => by simp at h
  | [], _, [], _ :: _, _, _, h, _, _, _, _, _ => by simp at h
  | _ :: _, [], _, _, h, _, _, _, _, _, _, _ => by simp at h
  | _ :: _, _, [], _, _, h, _, _, _, _, _, _ => by simp at h
  | _ :: _, _, _ :: _, [], _, _, h, _, _, _, _, _ => by simp at h
def restOf2 (f : Func) : Code := match f.body with
  | some (.seq _ (.seq _ (.seq _ (.seq _ y)))) => y
  | _ => .skip
def restOf3 (f : Func) : Code := match f.body with
  | some (.seq _ (.seq _ (.seq _ (.seq _ (.seq _ y))))) => y
  | _ => .skip
theorem ask_no (c : Bool) (h : c = false) : FnQ Tryz.prog G0 167 [.bool c] (fun o => o = .pan (badW 30)) := by subst h; exact ask_fn false
theorem ask_yes (c : Bool) (h : c = true) : FnQ Tryz.prog G0 167 [.bool c] (fun o => o = .ret (.tup [])) := by subst h; exact ask_fn true
def casesE (kf : Int) (lf : List TG) (ls : List ByteArray) (cs : List Chk) (vars : List Int) (l : List Bd) : Except Int TG := askE (kf == 8 && decide (lf.length = ls.length) && decide (0 < ls.length)) (match casK ls lf cs vars l with
  | .error e => .error e
  | .ok us => askE (allSame us) (.ok (us.headD zG)))
theorem casesE_no {kf : Int} {lf : List TG} {ls : List ByteArray} {cs : List Chk} {vars : List Int} {l : List Bd} (h : ¬ (kf = 8 ∧ lf.length = ls.length ∧ 0 < ls.length)) : casesE kf lf ls cs vars l = .error 30 := by
  have hno : (kf == 8 && decide (lf.length = ls.length) && decide (0 < ls.length)) = false := by
    rw [← Bool.not_eq_true]; intro h'
    simp only [Bool.and_eq_true, beq_iff_eq, decide_eq_true_eq] at h'
    exact h ⟨h'.1.1, h'.1.2, h'.2⟩
  unfold casesE; rw [hno]; rfl
theorem casesE_yes {lf : List TG} {ls : List ByteArray} {cs : List Chk} {vars : List Int} {l : List Bd} (h1 : lf.length = ls.length) (h2 : 0 < ls.length) : casesE 8 lf ls cs vars l = (match casK ls lf cs vars l with
  | .error e => .error e
  | .ok us => askE (allSame us) (.ok (us.headD zG))) := by
  unfold casesE; rw [decide_eq_true h1, decide_eq_true h2]; rfl
abbrev csT : List (Nat × Go.Vx.SV) := [(2, .own 0 0), (3, .own 1 0), (4, .own 2 0)]
abbrev csH (vars : List Int) (l : List Bd) (m : MG) (t : TG) : Hp := nmH0 vars l m zS ++ [(3, .blk 28 (tcS t))]
set_option maxRecDepth 20000 in
set_option maxHeartbeats 2000000 in
theorem casesW_fn (vars : List Int) (l : List Bd) (n i : Int) (nm : ByteArray) (ls : List ByteArray) (u : MG) (r : List MG) (cu : Chk) (cs : List Chk) (hcu : KidOk u cu) (hcl : cs.length = r.length) (hc : ∀ (j : Nat) (h : j < r.length) (h' : j < cs.length), KidOk r[j] cs[j]) (hls : r.length = ls.length)
    (hv : vars.length + szM (.mk 17 n i nm ls [] (u :: r)) ≤ 549755813888) (hl : l.length + 2 * szM (.mk 17 n i nm ls [] (u :: r)) ≤ 549755813888) (hz : szM (.mk 17 n i nm ls [] (u :: r)) ≤ 1073741824) (hb : Bnd l) : FnQ Tryz.prog G0 129 [dSc vars l, dM (.mk 17 n i nm ls [] (u :: r))] (fun o => o = resO (casesR ls (cu :: cs) vars l)) ∧ ∀ t, casesR ls (cu :: cs) vars l = .ok t → allG t = true ∧ szG t ≤ 2147483648 := by
  simp only [szM, szGs, szMs] at hv hl hz
  have hks := szMs_len r
  have hu : 1 ≤ szM u := by cases u; simp only [szM]; omega
  unfold casesR
  rw [show kidC (cu :: cs) 0 = cu from rfl, show (cu :: cs).tail = cs from rfl]
  obtain ⟨hK0, hG0⟩ := hcu vars l (by omega) (by omega) hb
  cases hr : cu vars l with
  | error e =>
    rw [hr] at hK0
    refine ⟨?_, nofun⟩
    refine fnQ_of_vc txok mixed Awpq0 Tryz.func129 rfl rfl (by simp) fun bb => ?_
    repeat' ((conv => whnf); first
      | refine And.intro (by kernel_rfl) ?_
      | refine And.intro ?_ ?_
      | refine IdxC.encMs (l := u :: r) 0 (by simp) rfl ?_
      | (refine callQ rfl rfl gf46 hK0 ?_; rintro o rfl))
    all_goals (try (conv => whnf))
    all_goals exact rfl
  | ok w =>
  rw [hr] at hK0
  obtain ⟨haw, hzw⟩ := hG0 w hr
  obtain ⟨kf, nf, lsf, lf⟩ := w
  have hsz := szG_eq (.mk kf nf lsf lf)
  simp only [g_kids] at hsz
  show (FnQ Tryz.prog G0 129 [dSc vars l, dM (.mk 17 n i nm ls [] (u :: r))] (fun o => o = resO (casesE kf lf ls cs vars l))) ∧ ∀ t, casesE kf lf ls cs vars l = .ok t → allG t = true ∧ szG t ≤ 2147483648
  have front : ∀ (Q : DOut → Prop), (∀ bb : Bs G0 0, Wk Tryz.prog bb 78 (restOf Tryz.f129) ⟨csT ++ [(5, .own 3 0)], csH vars l (.mk 17 n i nm ls [] (u :: r)) (.mk kf nf lsf lf), 4⟩ (retK tx 0 [] Tryz.f129.results.toList (closeQ Q))) → FnQ Tryz.prog G0 129 [dSc vars l, dM (.mk 17 n i nm ls [] (u :: r))] Q := by
    intro Q h
    refine fnQ_of_wk (N := 78) txok mixed Tryz.func129 rfl rfl (by simp) fun bb => ?_
    refine wk_seq ⟨csT, nmH0 vars l (.mk 17 n i nm ls [] (u :: r)) zS, 3⟩ (wk_vc txok mixed [] ?_) ?_
    · conv => whnf
      exact weak_of rfl (by repeat ((conv => whnf); first | exact trivial | refine And.intro rfl ?_ | refine And.intro (incD (by omega)) ?_)) (by repeat ((conv => whnf); first | exact trivial | refine And.intro rfl ?_ | refine And.intro (incD (by omega)) ?_))
    refine wk_seq ⟨csT ++ [(5, .own 3 0)], csH vars l (.mk 17 n i nm ls [] (u :: r)) (.mk kf nf lsf lf), 4⟩ (wk_vc txok mixed Awpq0 ?_) ?_
    rotate_left
    · show Wk _ _ _ (restOf Tryz.f129) _ _
      exact h bb
    repeat' ((conv => whnf); first
      | refine And.intro (by kernel_rfl) ?_
      | refine And.intro ?_ ?_
      | refine IdxC.encMs (l := u :: r) 0 (by simp) rfl ?_
      | (refine callQ rfl rfl gf46 hK0 ?_; rintro o rfl))
    all_goals exact weak_of rfl (by repeat ((conv => whnf); first | exact trivial | refine And.intro rfl ?_ | refine And.intro (incD (by omega)) ?_)) (by repeat ((conv => whnf); first | exact trivial | refine And.intro rfl ?_ | refine And.intro (incD (by omega)) ?_))
  by_cases hok : kf = 8 ∧ lf.length = ls.length ∧ 0 < ls.length
  rotate_left
  · rw [casesE_no hok]
    refine ⟨?_, nofun⟩
    refine front _ fun bb => ?_
    show Wk _ _ _ (restOf Tryz.f129) _ _
    refine wk_seqR (wk_vc txok mixed Awpq0 ?_)
    repeat' ((conv => whnf); first
      | refine And.intro (by kernel_rfl) ?_
      | refine And.intro (fun h => ?_) (fun h => ?_)
      | (refine callQ rfl rfl gf167 (ask_no _ (by first | rfl | assumption | (exact decide_eq_false (fun e => hok ⟨by simp_all [g_k], by (simp only [g_kids, MG.ls, beq_iff_eq] at h; omega), by simp only [MG.ls] at e; omega⟩)))) ?_; rintro o rfl))
    all_goals (try (conv => whnf))
    all_goals exact rfl
  obtain ⟨rfl, hfl, hlp⟩ := hok
  rw [casesE_yes hfl hlp]
  have hlf : ∀ t ∈ lf, allG t = true ∧ szG t ≤ 1073741824 := fun t ht => ⟨((allG_mk ..).1 haw).2 t ht, by have := szG_mem ht; omega⟩
  have hgood := casK_good vars l ls lf r cs hfl hls hcl hc hlf (by omega) (by omega) hb
  have front2 : ∀ (Q : DOut → Prop), (∀ bb : Bs G0 0, Wk Tryz.prog bb 78 (restOf2 Tryz.f129) ⟨(6, .nl) :: (csT ++ [(5, .own 3 0)]), csH vars l (.mk 17 n i nm ls [] (u :: r)) (.mk 8 nf lsf lf), 4⟩ (retK tx 0 [] Tryz.f129.results.toList (closeQ Q))) → FnQ Tryz.prog G0 129 [dSc vars l, dM (.mk 17 n i nm ls [] (u :: r))] Q := by
    intro Q h
    refine front _ fun bb => ?_
    show Wk _ _ _ (restOf Tryz.f129) _ _
    refine wk_seq ⟨csT ++ [(5, .own 3 0)], csH vars l (.mk 17 n i nm ls [] (u :: r)) (.mk 8 nf lsf lf), 4⟩ (wk_vc txok mixed Awpq0 ?_) ?_
    · repeat' ((conv => whnf); first
        | refine And.intro (by kernel_rfl) ?_
        | (refine And.intro (fun h => ?_) (fun h => ?_); rotate_left; focus (exfalso; simp_all [g_k, g_kids, MG.ls]; done))
        | (refine callQ rfl rfl gf167 (ask_yes _ (by exact decide_eq_true (by simp only [MG.ls]; omega))) ?_; rintro o rfl))
      all_goals (try (conv => whnf))
      all_goals exact weak_of rfl (by repeat ((conv => whnf); first | exact trivial | refine And.intro rfl ?_ | refine And.intro (incD (by omega)) ?_)) (by repeat ((conv => whnf); first | exact trivial | refine And.intro rfl ?_ | refine And.intro (incD (by omega)) ?_))
    refine wk_seq ⟨(6, .nl) :: (csT ++ [(5, .own 3 0)]), csH vars l (.mk 17 n i nm ls [] (u :: r)) (.mk 8 nf lsf lf), 4⟩ (wk_vc txok mixed [] ?_) ?_
    · conv => whnf
      exact weak_of rfl (by repeat ((conv => whnf); first | exact trivial | refine And.intro rfl ?_ | refine And.intro (incD (by omega)) ?_)) (by repeat ((conv => whnf); first | exact trivial | refine And.intro rfl ?_ | refine And.intro (incD (by omega)) ?_))
    show Wk _ _ _ (restOf2 Tryz.f129) _ _
    exact h bb
  cases hq : casK ls lf cs vars l with
  | error e0 =>
    refine ⟨?_, nofun⟩
    refine front2 _ fun bb => ?_
    show Wk _ _ _ (restOf2 Tryz.f129) _ _
    refine wk_seqR (wk_vc txok mixed Awpq0 ?_)
    conv => whnf
    refine loopH (fun z : Nat × List TG => z.1 ≤ ls.length ∧ casK ls lf cs vars l = mapE z.2 (casK (ls.drop z.1) (lf.drop z.1) (cs.drop z.1) vars l) ∧ z.2.length = z.1) (fun z => ls.length - z.1) (fun z => [(39, .d (.int .i64 z.1)), (6, .row 4)]) (fun z => csH vars l (.mk 17 n i nm ls [] (u :: r)) (.mk 8 nf lsf lf) ++ [(4, .row 28 64 4 z.2.length (encGs z.2))]) 5 (0, []) ⟨by simp, by rw [mapE_nil]; rfl, rfl⟩ ((weak_nlT 6 28 64 4 rfl).trans (weak_of rfl (by repeat ((conv => whnf); first | exact trivial | refine And.intro rfl ?_ | refine And.intro (incD (by omega)) ?_)) (by repeat ((conv => whnf); first | exact trivial | refine And.intro rfl ?_ | refine And.intro (incD (by omega)) ?_)))) ?_
    rintro ⟨j, acc⟩ ⟨hj, hx, hal⟩
    simp only at hj hx hal
    conv => whnf
    refine And.intro (fun hb' => ?_) (fun hb' => ?_)
    · have hjl : j < ls.length := by have := of_decide_eq_true hb'; simp only [MG.ls] at this; omega
      have hjc : j < cs.length := by omega
      have hjf : j < lf.length := by omega
      have hjr : j < r.length := by omega
      rw [List.drop_eq_getElem_cons hjl, List.drop_eq_getElem_cons hjc, List.drop_eq_getElem_cons hjf, casK] at hx
      have hsm := szM_mem (List.getElem_mem hjr)
      have hW := with_fn vars l ls[j] lf[j] (by omega)
      have hB : Bnd (l ++ [(ls[j], lf[j])]) := hb.snoc (hlf _ (List.getElem_mem hjf)).1 (hlf _ (List.getElem_mem hjf)).2
      obtain ⟨hK1, hG1⟩ := hc j hjr hjc vars (l ++ [(ls[j], lf[j])]) (by omega) (by simp only [List.length_append, List.length_cons, List.length_nil]; omega) hB
      cases hr1 : cs[j] vars (l ++ [(ls[j], lf[j])]) with
      | error e =>
        rw [hr1] at hK1 hx
        repeat' ((conv => whnf); first
          | refine IdxC.encS (l := ls) j hjl rfl ?_
          | refine And.intro (by kernel_rfl) ?_
          | refine And.intro ?_ ?_
          | refine IdxC.encGs (l := lf) j hjf rfl ?_
          | refine callF hW gf169 rfl rfl ?_
          | refine IdxC.encMs (l := u :: r) (j + 1) (by simp; omega) (by show IntKind.i64.wrap ((j : Int) + 1) = ((j + 1 : Nat) : Int); rw [Go.Vc.wrap_small (by omega) (by omega)]; rfl) ?_
          | (refine callQ rfl rfl gf46 hK1 ?_; rintro o rfl))
        all_goals (try (conv => whnf))
        all_goals (show _ = resO (.error e0); rw [hq] at hx; simp only [consE, mapE] at hx; injection hx with hx; rw [hx]; rfl)
      | ok t =>
        rw [hr1] at hK1 hx
        rw [mapE_cons] at hx
        obtain ⟨k1, n1, l1, m1⟩ := t
        repeat' ((conv => whnf); first
          | refine IdxC.encS (l := ls) j hjl rfl ?_
          | refine And.intro (by kernel_rfl) ?_
          | refine And.intro ?_ ?_
          | refine IdxC.encGs (l := lf) j hjf rfl ?_
          | refine callF hW gf169 rfl rfl ?_
          | refine IdxC.encMs (l := u :: r) (j + 1) (by simp; omega) (by show IntKind.i64.wrap ((j : Int) + 1) = ((j + 1 : Nat) : Int); rw [Go.Vc.wrap_small (by omega) (by omega)]; rfl) ?_
          | (refine callQ rfl rfl gf46 hK1 ?_; rintro o rfl)
          | refine appR (i := 4) (sz := 4) (n := acc.length) (m := 1) (xs := encGs acc) (ys := encGs [TG.mk k1 n1 l1 m1]) txok (fun k => Nat.ble 5 k) (acc ++ [TG.mk k1 n1 l1 m1]).length (encGs (acc ++ [TG.mk k1 n1 l1 m1])) (by exact rfl) (by exact rfl) (by exact rfl) (by kernel_rfl) (by exact rfl) (encGs_scal _) (by simp) (by rw [encGs_app]) (by simp only [LB, List.length_append, List.length_cons, List.length_nil]; omega) ?_)
        all_goals (try (conv => whnf))
        all_goals
          rw [incD (by omega)]
          exact again (j + 1, acc ++ [TG.mk k1 n1 l1 m1]) (by simp; omega) ⟨by simp; omega, hx, by simp; omega⟩ (weak_of rfl (by repeat ((conv => whnf); first | exact trivial | refine And.intro rfl ?_ | refine And.intro (incD (by omega)) ?_)) (by repeat ((conv => whnf); first | exact trivial | refine And.intro rfl ?_ | refine And.intro (incD (by omega)) ?_)))
    · have hj : j = ls.length := by have := of_decide_eq_false hb'; simp only [MG.ls] at this; omega
      subst hj
      rw [List.drop_eq_nil_of_le (Nat.le_refl _)] at hx
      have hx : casK ls lf cs vars l = .ok acc := by rw [hx]; simp [casK, mapE]
      rw [hq] at hx; cases hx
  | ok us =>
    obtain ⟨hul, hug⟩ := hgood us hq
    have front3 : ∀ (Q : DOut → Prop), (∀ bb : Bs G0 0, Wk Tryz.prog bb 78 (restOf3 Tryz.f129) ⟨(6, .d (dGs us)) :: (csT ++ [(5, .own 3 0)]), csH vars l (.mk 17 n i nm ls [] (u :: r)) (.mk 8 nf lsf lf), 4⟩ (retK tx 0 [] Tryz.f129.results.toList (closeQ Q))) → FnQ Tryz.prog G0 129 [dSc vars l, dM (.mk 17 n i nm ls [] (u :: r))] Q := by
      intro Q h
      refine front2 _ fun bb => ?_
      show Wk _ _ _ (restOf2 Tryz.f129) _ _
      refine wk_seq ⟨(6, .d (dGs us)) :: (csT ++ [(5, .own 3 0)]), csH vars l (.mk 17 n i nm ls [] (u :: r)) (.mk 8 nf lsf lf), 4⟩ (wk_vc txok mixed Awpq0 ?_) ?_
      rotate_left
      · show Wk _ _ _ (restOf3 Tryz.f129) _ _
        exact h bb
      conv => whnf
      refine loopH (fun z : Nat × List TG => z.1 ≤ ls.length ∧ casK ls lf cs vars l = mapE z.2 (casK (ls.drop z.1) (lf.drop z.1) (cs.drop z.1) vars l) ∧ z.2.length = z.1) (fun z => ls.length - z.1) (fun z => [(39, .d (.int .i64 z.1)), (6, .row 4)]) (fun z => csH vars l (.mk 17 n i nm ls [] (u :: r)) (.mk 8 nf lsf lf) ++ [(4, .row 28 64 4 z.2.length (encGs z.2))]) 5 (0, []) ⟨by simp, by rw [mapE_nil]; rfl, rfl⟩ ((weak_nlT 6 28 64 4 rfl).trans (weak_of rfl (by repeat ((conv => whnf); first | exact trivial | refine And.intro rfl ?_ | refine And.intro (incD (by omega)) ?_)) (by repeat ((conv => whnf); first | exact trivial | refine And.intro rfl ?_ | refine And.intro (incD (by omega)) ?_)))) ?_
      rintro ⟨j, acc⟩ ⟨hj, hx, hal⟩
      simp only at hj hx hal
      conv => whnf
      refine And.intro (fun hb' => ?_) (fun hb' => ?_)
      · have hjl : j < ls.length := by have := of_decide_eq_true hb'; simp only [MG.ls] at this; omega
        have hjc : j < cs.length := by omega
        have hjf : j < lf.length := by omega
        have hjr : j < r.length := by omega
        rw [List.drop_eq_getElem_cons hjl, List.drop_eq_getElem_cons hjc, List.drop_eq_getElem_cons hjf, casK] at hx
        have hsm := szM_mem (List.getElem_mem hjr)
        have hW := with_fn vars l ls[j] lf[j] (by omega)
        have hB : Bnd (l ++ [(ls[j], lf[j])]) := hb.snoc (hlf _ (List.getElem_mem hjf)).1 (hlf _ (List.getElem_mem hjf)).2
        obtain ⟨hK1, hG1⟩ := hc j hjr hjc vars (l ++ [(ls[j], lf[j])]) (by omega) (by simp only [List.length_append, List.length_cons, List.length_nil]; omega) hB
        cases hr1 : cs[j] vars (l ++ [(ls[j], lf[j])]) with
        | error e =>
          rw [hr1] at hK1 hx
          repeat' ((conv => whnf); first
            | refine IdxC.encS (l := ls) j hjl rfl ?_
            | refine And.intro (by kernel_rfl) ?_
            | refine And.intro ?_ ?_
            | refine IdxC.encGs (l := lf) j hjf rfl ?_
            | refine callF hW gf169 rfl rfl ?_
            | refine IdxC.encMs (l := u :: r) (j + 1) (by simp; omega) (by show IntKind.i64.wrap ((j : Int) + 1) = ((j + 1 : Nat) : Int); rw [Go.Vc.wrap_small (by omega) (by omega)]; rfl) ?_
            | (refine callQ rfl rfl gf46 hK1 ?_; rintro o rfl))
          all_goals (try (conv => whnf))
          all_goals (exfalso; rw [hq] at hx; simp only [consE, mapE] at hx; cases hx)
        | ok t =>
          rw [hr1] at hK1 hx
          rw [mapE_cons] at hx
          obtain ⟨k1, n1, l1, m1⟩ := t
          repeat' ((conv => whnf); first
            | refine IdxC.encS (l := ls) j hjl rfl ?_
            | refine And.intro (by kernel_rfl) ?_
            | refine And.intro ?_ ?_
            | refine IdxC.encGs (l := lf) j hjf rfl ?_
            | refine callF hW gf169 rfl rfl ?_
            | refine IdxC.encMs (l := u :: r) (j + 1) (by simp; omega) (by show IntKind.i64.wrap ((j : Int) + 1) = ((j + 1 : Nat) : Int); rw [Go.Vc.wrap_small (by omega) (by omega)]; rfl) ?_
            | (refine callQ rfl rfl gf46 hK1 ?_; rintro o rfl)
            | refine appR (i := 4) (sz := 4) (n := acc.length) (m := 1) (xs := encGs acc) (ys := encGs [TG.mk k1 n1 l1 m1]) txok (fun k => Nat.ble 5 k) (acc ++ [TG.mk k1 n1 l1 m1]).length (encGs (acc ++ [TG.mk k1 n1 l1 m1])) (by exact rfl) (by exact rfl) (by exact rfl) (by kernel_rfl) (by exact rfl) (encGs_scal _) (by simp) (by rw [encGs_app]) (by simp only [LB, List.length_append, List.length_cons, List.length_nil]; omega) ?_)
          all_goals (try (conv => whnf))
          all_goals
            rw [incD (by omega)]
            exact again (j + 1, acc ++ [TG.mk k1 n1 l1 m1]) (by simp; omega) ⟨by simp; omega, hx, by simp; omega⟩ (weak_of rfl (by repeat ((conv => whnf); first | exact trivial | refine And.intro rfl ?_ | refine And.intro (incD (by omega)) ?_)) (by repeat ((conv => whnf); first | exact trivial | refine And.intro rfl ?_ | refine And.intro (incD (by omega)) ?_)))
      · have hj : j = ls.length := by have := of_decide_eq_false hb'; simp only [MG.ls] at this; omega
        subst hj
        rw [List.drop_eq_nil_of_le (Nat.le_refl _)] at hx
        have hx : casK ls lf cs vars l = .ok acc := by rw [hx]; simp [casK, mapE]
        rw [hq] at hx; injection hx with hx; subst hx
        show Go.Vx.Weak bb 78 _ _
        refine weak_pub (fun i => Nat.beq i 4) ?_
        show Go.Vx.Weak bb 78 _ _
        exact weak_of rfl (by repeat ((conv => whnf); first | exact trivial | refine And.intro rfl ?_ | refine And.intro (incD (by omega)) ?_)) (by repeat ((conv => whnf); first | exact trivial | refine And.intro rfl ?_ | refine And.intro (incD (by omega)) ?_))
    obtain ⟨a, rest, rfl⟩ : ∃ a rest, us = a :: rest := by
      cases us with
      | nil => simp at hul; omega
      | cons a r => exact ⟨a, r, rfl⟩
    show (FnQ Tryz.prog G0 129 [dSc vars l, dM (.mk 17 n i nm ls [] (u :: r))] (fun o => o = resO (askE (allSame (a :: rest)) (.ok a)))) ∧ ∀ t, askE (allSame (a :: rest)) (.ok a) = .ok t → allG t = true ∧ szG t ≤ 2147483648
    refine ⟨?_, fun t ht => ?_⟩
    rotate_left
    · cases h : allSame (a :: rest) with
      | false => rw [h] at ht; cases ht
      | true =>
        rw [h] at ht
        injection ht with ht; subst ht
        exact ⟨(hug a (by simp)).1, by have := (hug a (by simp)).2; omega⟩
    refine front3 _ fun bb => ?_
    refine wk_vc txok mixed Awpq0 ?_
    conv => whnf
    refine loopH (fun j : Nat => j ≤ (a :: rest).length ∧ ∀ (q : Nat) (h : q < (a :: rest).length), q < j → samG (a :: rest)[q] a [] [] = true) (fun j => (a :: rest).length - j) (fun j => [(65, .d (.int .i64 j))]) (fun _ => csH vars l (.mk 17 n i nm ls [] (u :: r)) (.mk 8 nf lsf lf)) 4 0 ⟨by simp, fun _ _ h => by omega⟩ (weak_of rfl (by repeat ((conv => whnf); first | exact trivial | refine And.intro rfl ?_ | refine And.intro (incD (by omega)) ?_)) (by repeat ((conv => whnf); first | exact trivial | refine And.intro rfl ?_ | refine And.intro (incD (by omega)) ?_))) ?_
    rintro j ⟨hj, hall⟩
    conv => whnf
    refine And.intro (fun hb' => ?_) (fun hb' => ?_)
    · have hjl : j < (a :: rest).length := by have := of_decide_eq_true hb'; omega
      have hg := hug _ (List.getElem_mem hjl)
      have hS := same_fn (a :: rest)[j] a (by omega)
      cases hs : samG (a :: rest)[j] a [] [] with
      | false =>
        rw [hs] at hS
        have hno : allSame (a :: rest) = false := by
          unfold allSame
          rw [List.all_eq_false]
          exact ⟨_, List.getElem_mem hjl, by rw [show (a :: rest).headD zG = a from rfl, hs]; decide⟩
        rw [hno]
        repeat' ((conv => whnf); first
          | refine IdxC.encGs (l := a :: rest) j hjl rfl ?_
          | refine And.intro (by kernel_rfl) ?_
          | refine And.intro ?_ ?_
          | refine IdxC.encGs (l := a :: rest) 0 (by simp) rfl ?_
          | (refine callQ rfl rfl gf170 hS ?_; rintro o rfl))
        all_goals (try (conv => whnf))
        all_goals exact rfl
      | true =>
        rw [hs] at hS
        repeat' ((conv => whnf); first
          | refine IdxC.encGs (l := a :: rest) j hjl rfl ?_
          | refine And.intro (by kernel_rfl) ?_
          | refine And.intro ?_ ?_
          | refine IdxC.encGs (l := a :: rest) 0 (by simp) rfl ?_
          | (refine callQ rfl rfl gf170 hS ?_; rintro o rfl))
        all_goals (try (conv => whnf))
        all_goals
          rw [incD (by simp only [List.length_cons] at hjl hul; omega)]
          refine again (j + 1) (by omega) ⟨by omega, fun q h hq => ?_⟩ (weak_of rfl (by repeat ((conv => whnf); first | exact trivial | refine And.intro rfl ?_ | refine And.intro (incD (by omega)) ?_)) (by repeat ((conv => whnf); first | exact trivial | refine And.intro rfl ?_ | refine And.intro (incD (by omega)) ?_)))
          by_cases e : q = j
          · subst e; exact hs
          · exact hall q h (by omega)
    · have hjl : j = (a :: rest).length := by have := of_decide_eq_false hb'; omega
      have hyes : allSame (a :: rest) = true := by
        unfold allSame
        rw [List.all_eq_true]
        intro x hx
        obtain ⟨q, hq, rfl⟩ := List.mem_iff_getElem.1 hx
        exact hall q hq (by omega)
      rw [hyes]
      repeat' ((conv => whnf); first
        | refine IdxC.encGs (l := a :: rest) 0 (by simp) rfl ?_
        | refine And.intro (by kernel_rfl) ?_
        | refine And.intro ?_ ?_)
      all_goals (try (conv => whnf))
      all_goals (try exact rfl)
theorem kid_cases (n i : Int) (nm : ByteArray) (ls : List ByteArray) (u : MG) (r : List MG) (cu : Chk) (cs : List Chk) (hcu : KidOk u cu) (hcl : cs.length = r.length) (hc : ∀ (j : Nat) (h : j < r.length) (h' : j < cs.length), KidOk r[j] cs[j]) (hls : r.length = ls.length) (hz : szM (.mk 17 n i nm ls [] (u :: r)) ≤ 1073741824) : KidOk (.mk 17 n i nm ls [] (u :: r)) (fun vars l => fitE (casesR ls (cu :: cs) vars l)) :=
  kid_of _ (casesR ls (cu :: cs)) 17 129 rfl rfl gf129 fun vars l hv hl hb => casesW_fn vars l n i nm ls u r cu cs hcu hcl hc hls hv hl hz hb
end Go.Proofs.YtcjkikadolnfgaaGreat


/- The program's checker is the plain one. -/
set_option linter.unusedSimpArgs false
set_option linter.unusedVariables false
namespace Go.Proofs.YtcjkikadolnfgaaGreat
open Go.Vx Go.Vc Go.RowKit
set_option maxRecDepth 20000 in
theorem chk_ok : ∀ m : MG, allM m = true → szM m ≤ 1073741824 → KidOk m (chk putR m) := by
  refine MG.ind fun k n i nm ls ts ks ih ha hz => ?_
  obtain ⟨h1, h25, hbad, hend, hta, hka⟩ := shp_all ha
  obtain ⟨hT, hK⟩ := shp_len hbad
  have kid : ∀ u ∈ ks, KidOk u (chk putR u) := fun u hu => ih u hu (hka u hu) (by have := szM_mem hu; rw [szM_eq] at hz; simp only [MG.ks, MG.ts] at hz; omega)
  have one : ∀ {α : Type} {q : List α}, (q.length : Int) = 1 → ∃ a, q = [a] := fun h => List.length_eq_one_iff.1 (by omega)
  have two : ∀ {α : Type} {q : List α}, (q.length : Int) = 2 → ∃ a b, q = [a, b] := fun h => len2 (by omega)
  have nil : ∀ {α : Type} {q : List α}, (q.length : Int) = 0 → q = [] := fun h => List.eq_nil_of_length_eq_zero (by omega)
  rw [chk_mk, chks_map]
  have hk : k = 1 ∨ k = 2 ∨ k = 3 ∨ k = 4 ∨ k = 5 ∨ k = 6 ∨ k = 7 ∨ k = 8 ∨ k = 9 ∨ k = 10 ∨ k = 11 ∨ k = 12 ∨ k = 13 ∨ k = 14 ∨ k = 15 ∨ k = 16 ∨ k = 17 ∨ k = 18 ∨ k = 19 ∨ k = 20 ∨ k = 21 ∨ k = 22 ∨ k = 23 ∨ k = 24 ∨ k = 25 := by omega
  rcases hk with rfl | rfl | rfl | rfl | rfl | rfl | rfl | rfl | rfl | rfl | rfl | rfl | rfl | rfl | rfl | rfl | rfl | rfl | rfl | rfl | rfl | rfl | rfl | rfl | rfl
  · obtain rfl := nil hT; obtain rfl := nil (hK (by decide))
    exact kid_plain1 n i nm ls hz
  · obtain rfl := nil hT; obtain rfl := nil (hK (by decide))
    exact kid_plain2 n i nm ls hz
  · obtain rfl := nil hT; obtain rfl := nil (hK (by decide))
    exact kid_plain3 n i nm ls hz
  · exact kid_var n i nm ls ts ks
  · obtain ⟨a, rfl⟩ := one hT; obtain ⟨u, rfl⟩ := one (hK (by decide))
    exact kid_lam n i nm ls a u _ (kid u (by simp)) hz
  · obtain rfl := nil hT; obtain ⟨u, v, rfl⟩ := two (hK (by decide))
    exact kid_app n i nm ls u v _ (kid u (by simp)) _ (kid v (by simp)) hz
  · obtain ⟨a, b, rfl⟩ := two hT; obtain ⟨u, rfl⟩ := one (hK (by decide))
    have hlb : (ls.length : Int) = 1 := by
      unfold endM at hend
      rw [if_neg (by decide), if_neg (by decide)] at hend
      split at hend
      · cases hend
      · rename_i h; simpa [shpOf, shpTab, MG.ls] using h
    obtain ⟨lb, rfl⟩ := one hlb
    exact kid_fix n i nm [] lb a b u _ (kid u (by simp)) hz
  · obtain rfl := nil hT; obtain ⟨u, v, rfl⟩ := two (hK (by decide))
    exact kid_let n i nm ls u v _ (kid u (by simp)) _ (kid v (by simp)) hz
  · obtain rfl := nil hT; obtain ⟨u, v, rfl⟩ := two (hK (by decide))
    exact kid_pair n i nm ls u v _ (kid u (by simp)) _ (kid v (by simp)) hz
  · obtain rfl := nil hT; obtain ⟨u, rfl⟩ := one (hK (by decide))
    exact kid_half10 n i nm ls u _ (kid u (by simp)) hz
  · obtain rfl := nil hT; obtain ⟨u, rfl⟩ := one (hK (by decide))
    exact kid_half11 n i nm ls u _ (kid u (by simp)) hz
  · obtain rfl := nil hT; obtain ⟨u, v, w, rfl⟩ := len3 (by have := hK (by decide); exact Int.ofNat.inj this : ks.length = 3)
    exact kid_choose n i nm ls u v w _ (kid u (by simp)) _ (kid v (by simp)) _ (kid w (by simp)) hz
  · obtain rfl := nil hT; obtain ⟨u, v, rfl⟩ := two (hK (by decide))
    exact kid_bin n i nm ls u v _ (kid u (by simp)) _ (kid v (by simp)) hz
  · obtain rfl := nil hT
    have hsh : ls.length = ks.length ∧ ordS ls = true := by
      unfold endM at hend
      rw [if_pos (by decide), Bool.and_eq_true, beq_iff_eq] at hend
      exact ⟨Int.ofNat.inj hend.1, hend.2⟩
    exact kid_rec n i nm ls ks (ks.map (chk putR)) (by simp) (fun j h h' => by rw [List.getElem_map]; exact kid _ (List.getElem_mem h)) hsh.1 hsh.2 hz
  · obtain rfl := nil hT; obtain ⟨u, rfl⟩ := one (hK (by decide))
    exact kid_sel n i nm ls u _ (kid u (by simp))
  · obtain ⟨a, rfl⟩ := one hT; obtain ⟨u, rfl⟩ := one (hK (by decide))
    have hn : 0 ≤ n := by
      unfold endM at hend
      rw [if_neg (by decide), if_neg (by decide)] at hend
      split at hend
      · cases hend
      · have e2 : ¬ ((16 : Int) = 2) := by decide
        have e13 : ¬ ((16 : Int) = 13) := by decide
        simp only [MG.k, if_neg e2, if_neg e13, if_true, decide_eq_true_eq, MG.n] at hend
        exact of_decide_eq_true hend
    obtain ⟨j, rfl⟩ : ∃ j : Nat, n = (j : Int) := ⟨n.toNat, by omega⟩
    exact kid_inj 0 i nm ls j a u _ (kid u (by simp)) hz
  · obtain rfl := nil hT
    have hlen : ks.length = ls.length + 1 := by
      unfold endM at hend
      rw [if_neg (by decide), if_pos (by decide), beq_iff_eq] at hend
      simp only [MG.ks, MG.ls] at hend; omega
    obtain ⟨u, r, rfl⟩ : ∃ u r, ks = u :: r := by
      cases ks with
      | nil => simp at hlen
      | cons u r => exact ⟨u, r, rfl⟩
    exact kid_cases n i nm ls u r _ (r.map (chk putR)) (kid u (by simp)) (by simp) (fun j h h' => by rw [List.getElem_map]; exact kid _ (List.mem_cons_of_mem _ (List.getElem_mem h))) (by simpa using hlen) hz
  · obtain ⟨a, rfl⟩ := one hT; obtain ⟨u, rfl⟩ := one (hK (by decide))
    exact kid_fold n i nm ls a u _ (kid u (by simp)) hz
  · obtain rfl := nil hT; obtain ⟨u, rfl⟩ := one (hK (by decide))
    exact kid_unfold n i nm ls u _ (kid u (by simp)) hz
  · obtain rfl := nil hT; obtain ⟨u, rfl⟩ := one (hK (by decide))
    exact kid_all n i nm ls u _ (kid u (by simp)) hz
  · obtain ⟨a, rfl⟩ := one hT; obtain ⟨u, rfl⟩ := one (hK (by decide))
    exact kid_inst n i nm ls a u _ (kid u (by simp)) hz
  · obtain ⟨a, b, rfl⟩ := two hT; obtain ⟨u, rfl⟩ := one (hK (by decide))
    exact kid_pack n i nm ls a b u _ (kid u (by simp)) hz
  · obtain rfl := nil hT; obtain ⟨u, v, rfl⟩ := two (hK (by decide))
    exact kid_opened n i nm ls u v _ (kid u (by simp)) _ (kid v (by simp)) hz
  · obtain ⟨a, rfl⟩ := one hT; obtain rfl := nil (hK (by decide))
    exact kid_fail n i nm ls a hz
  · obtain rfl := nil hT; obtain ⟨u, rfl⟩ := one (hK (by decide))
    exact kid_tick n i nm ls u _ (kid u (by simp)) hz
end Go.Proofs.YtcjkikadolnfgaaGreat


/- The law KernelTypes. -/
set_option linter.unusedSimpArgs false
set_option linter.unusedVariables false
namespace Go.Proofs.YtcjkikadolnfgaaGreat
open Go.Vx Go.Vc Go.RowKit
def errR : Except Int TG → Int
  | .ok _ => 0
  | .error e => e
def valR : Except Int TG → TG
  | .ok t => t
  | .error _ => zG
theorem outE_eq (r : Except Int TG) : outE r = .tup [dG (valR r), .int .i64 (errR r)] := by cases r <;> rfl
def SameR : Except Int TG → Except Int TG → Prop
  | .ok a, .ok b => samG a b [] [] = true
  | .error e, .error f => e = f
  | _, _ => False
theorem SameR.val {r q : Except Int TG} (h : SameR r q) : samG (valR r) (valR q) [] [] = true := by
  cases r <;> cases q <;> first | exact h.elim | exact h | rfl
end Go.Proofs.YtcjkikadolnfgaaGreat


/- The law KernelOne. -/
set_option linter.unusedSimpArgs false
set_option linter.unusedVariables false
namespace Go.Proofs.YtcjkikadolnfgaaGreat
open Go.Vx Go.Vc Go.RowKit
theorem one_law_fn (m m' : MG) (v : List Int) (l : List Bd) (hz : wlM m ≤ 1048576) (hz' : wlM m' ≤ 1048576) : FnR Tryz.prog G0 5 [dM m, dM m', dI v, dBs l] (.bool true) := by
  have z1 := szM_wlM m
  have z2 := szM_wlM m'
  have h1 := sameTermTop_fn m m' hz
  have h2 := again_fn m [] (by simp only [List.length_nil]; omega)
  have h3 := again_fn m' [] (by simp only [List.length_nil]; omega)
  have hal := alive_fn
  by_cases hc : samM m m' [] [] [] [] = true ∧ agn m [] = false ∧ agn m' [] = false
  · obtain ⟨c1, c2, c3⟩ := hc
    have h4 := check_fn m (chk putR m) (fun h => chk_ok m (right_allM' h) (by omega)) (by omega)
    have h5 := check_fn m' (chk putR m') (fun h => chk_ok m' (right_allM' h) (by omega)) (by omega)
    have hs := one_same c1 c2 c3
    have hsz : szG (valR (closedR m (chk putR m))) ≤ 1048576 := by
      cases hq : closedR m (chk putR m) with
      | ok u =>
        unfold closedR at hq
        split at hq
        · rename_i h0
          exact ((chk_ok m (right_allM' h0) (by omega) [] [] (by simp; omega) (by simp; omega) nofun).2 u hq).2
        · cases hq
      | error e => simp [valR, szG, szGs]
    have h6 := sameTop_fn (valR (closedR m (chk putR m))) (valR (closedR m' (chk putR m'))) (by omega)
    have e1 : samG (valR (closedR m (chk putR m))) (valR (closedR m' (chk putR m'))) [] [] = true := by
      revert hs
      cases closedR m (chk putR m) <;> cases closedR m' (chk putR m') <;> intro hs <;> first | exact hs.elim | exact hs | exact sam_refl _ _
    have e2 : errR (closedR m (chk putR m)) = errR (closedR m' (chk putR m')) := by
      revert hs
      cases closedR m (chk putR m) <;> cases closedR m' (chk putR m') <;> intro hs <;> first | exact hs.elim | exact hs | rfl
    rw [e1] at h6
    rw [c1] at h1
    rw [c2] at h2
    rw [c3] at h3
    rw [outE_eq] at h4 h5
    rw [← e2] at h5
    generalize errR (closedR m (chk putR m)) = e at *
    generalize valR (closedR m (chk putR m)) = a at *
    generalize valR (closedR m' (chk putR m')) = c at *
    clear hs e1 e2 c1 c2 c3 hsz
    obtain ⟨k1, n1, l1, m1⟩ := a
    obtain ⟨k2, n2, l2, m2⟩ := c
    obtain ⟨k3, n3, i3, nm3, ls3, ts3, ks3⟩ := m
    obtain ⟨k4, n4, i4, nm4, ls4, ts4, ks4⟩ := m'
    refine fnQ_of_vc txok mixed [] Tryz.func5 rfl rfl (by simp) fun b => ?_
    repeat' ((conv => whnf); first
      | refine And.intro (by kernel_rfl) ?_
      | (refine And.intro (fun h => ?_) (fun h => ?_); rotate_left; focus (exfalso; revert h; simp; done))
      | (refine And.intro (fun h => ?_) (fun h => ?_); focus (exfalso; revert h; simp; done))
      | refine And.intro ?_ ?_
      | refine callF h1 gf16 rfl rfl ?_
      | refine callF h2 gf17 rfl rfl ?_
      | refine callF h3 gf17 rfl rfl ?_
      | refine callF h4 gf18 rfl rfl ?_
      | refine callF h5 gf18 rfl rfl ?_
      | refine callF h6 gf19 rfl rfl ?_
      | refine callF hal gf11 rfl rfl ?_)
    all_goals (try (conv => whnf))
    all_goals (try exact rfl)
  · obtain ⟨k3, n3, i3, nm3, ls3, ts3, ks3⟩ := m
    obtain ⟨k4, n4, i4, nm4, ls4, ts4, ks4⟩ := m'
    generalize samM (.mk k3 n3 i3 nm3 ls3 ts3 ks3) (.mk k4 n4 i4 nm4 ls4 ts4 ks4) [] [] [] [] = x1 at *
    generalize agn (.mk k3 n3 i3 nm3 ls3 ts3 ks3) [] = x2 at *
    generalize agn (.mk k4 n4 i4 nm4 ls4 ts4 ks4) [] = x3 at *
    refine fnQ_of_vc txok mixed [] Tryz.func5 rfl rfl (by simp) fun b => ?_
    repeat' ((conv => whnf); first
      | refine callF h1 gf16 rfl rfl ?_
      | refine callF h2 gf17 rfl rfl ?_
      | refine callF h3 gf17 rfl rfl ?_
      | refine callF hal gf11 rfl rfl ?_
      | refine And.intro (by kernel_rfl) ?_
      | refine And.intro (fun h => ?_) (fun h => ?_)
      | refine And.intro ?_ ?_)
    all_goals (try (conv => whnf))
    all_goals (first | exact rfl | (exfalso; simp_all; done))
end Go.Proofs.YtcjkikadolnfgaaGreat


