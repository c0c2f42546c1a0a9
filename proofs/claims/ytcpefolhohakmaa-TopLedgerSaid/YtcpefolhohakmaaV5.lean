/- Walk of Post. -/
import Derived.Test.YtcpefolhohakmaaV4
namespace Go.Proofs.Ytcpefolhohakmaa
open Go.RowKit
attribute [local irreducible] seqS seqST walkV walkJ

theorem infoTs : (Try.prog.info? 62).map (fun i => (i.zero, i.size, i.bytes)) = some (some (.slice none 0 0), 1, 24) := by kernel_rfl
/-- Posts that the call owns. -/
def TrsO (lo : Nat) (w : World) (vs : List Value) (ps : List (List Tr)) : Prop := vs.length = ps.length ∧ ∀ i, i < ps.length → w.ownsRow lo 103 4 (vs.getD i undef) (ps.getD i []).length (trsC (ps.getD i []))
theorem TrsO.snoc {lo : Nat} {w : World} {vs : List Value} {ps : List (List Tr)} (h : TrsO lo w vs ps) {v : Value} {p : List Tr} (hv : w.ownsRow lo 103 4 v p.length (trsC p)) : TrsO lo w (vs ++ [v]) (ps ++ [p]) := by
  refine ⟨by simp [h.1], fun i hi => ?_⟩
  by_cases e : i < ps.length
  · have e2 := h.1
    rw [List.getD_eq_getElem?_getD, List.getD_eq_getElem?_getD, List.getElem?_append_left (by omega), List.getElem?_append_left e]
    have := h.2 i e
    rw [List.getD_eq_getElem?_getD, List.getD_eq_getElem?_getD] at this
    exact this
  · have e2 := h.1
    have : i = ps.length := by rw [List.length_append] at hi; simp at hi; omega
    subst this
    rw [List.getD_eq_getElem?_getD, List.getD_eq_getElem?_getD, List.getElem?_append_right (by omega), List.getElem?_append_right (Nat.le_refl _), e2]
    simpa using hv
theorem TrsO.keep {lo : Nat} {S : Nat → Prop} {w w' : World} {vs : List Value} {ps : List (List Tr)} (h : TrsO lo w vs ps) (k : Keep S w w') (hs : ∀ i, i < ps.length → ∀ g, (vs.getD i undef).ownBlock = some g → S g) : TrsO lo w' vs ps :=
  ⟨h.1, fun i hi => k.owns (h.2 i hi) (hs i hi)⟩
theorem TrsO.below {lo : Nat} {w w' : World} {vs : List Value} {ps : List (List Tr)} (h : TrsO lo w vs ps) (k : Below w.heap.size w w') : TrsO lo w' vs ps := ⟨h.1, fun i hi => owns_below (h.2 i hi) k⟩
theorem SlS.tr {S : Nat → Prop} {w : World} {ao : Option Addr} {n cap : Nat} {l : List Tr} (h : SlS S w (.slice ao n cap) n (trsC l)) {i : Nat} (hi : i < l.length) :
    ∃ b off, ao = some ⟨b, off, none⟩ ∧ b < w.heap.size ∧ w.cell? ⟨b, off + i * 4, none⟩ = some (.int .i64 (l.getD i ⟨0, 0, 0, 0⟩).item) ∧ w.cell? ⟨b, off + i * 4 + 1, none⟩ = some (.int .i64 (l.getD i ⟨0, 0, 0, 0⟩).src) ∧
      w.cell? ⟨b, off + i * 4 + 2, none⟩ = some (.int .i64 (l.getD i ⟨0, 0, 0, 0⟩).dst) ∧ w.cell? ⟨b, off + i * 4 + 3, none⟩ = some (.int .i64 (l.getD i ⟨0, 0, 0, 0⟩).cnt) := by
  obtain ⟨ao', cap', e, _, _, hc⟩ := h.sl
  cases e
  exact tr_cell hc hi
/-- What Post leaves of the rest. -/
structure BkG (w w' : World) (gb : Nat) (vp vp' : Value) : Prop where
  keep : Keep (fun b => b ≠ gb ∧ vp.ownBlock ≠ some b) w w'
  row : vp'.ownBlock = vp.ownBlock ∨ ∀ b, vp'.ownBlock = some b → w.heap.size ≤ b
def PostR (gb : Nat) (c : List Int) (vp : Value) (ps : List (List Tr)) (l : List Tr) (lo : Nat) (w : World) (r : Ending) (w' : World) : Prop :=
  (PostOk c l ∧ r = .returned (.tuple #[.int .i64 ((ps.length + 1 : Nat) : Int), .int .i64 0]) ∧ ∃ ch' vp' vs', BkB w' gb (putL c l) ch' vp' ∧ w'.ownsRow lo 62 1 vp' (ps.length + 1) vs' ∧ TrsO lo w' vs' (ps ++ [l]) ∧ BkG w w' gb vp vp') ∨
  (¬ PostOk c l ∧ ∃ e, e ≠ 0 ∧ r = .returned (.tuple #[.int .i64 0, .int .i64 e]) ∧ Below w.heap.size w w')
/-- All but the changes of a book. -/
structure KpG (gb : Nat) (a b : World) : Prop where
  k : Keep (· ≠ gb) a b
  c : ∀ j, 513 ≤ j → b.cell? ⟨gb, j, none⟩ = a.cell? ⟨gb, j, none⟩
theorem kpG_pre (gb : Nat) : Pre (KpG gb) := ⟨fun _ => ⟨Keep.refl _ _, fun _ _ => rfl⟩, fun h k => ⟨h.k.trans k.k, fun j hj => (k.c j hj).trans (h.c j hj)⟩⟩
instance instKpG (gb : Nat) (W : World) : Nonempty (SubT (KpG gb) W) := ⟨⟨W, (kpG_pre gb).refl W⟩⟩
theorem KpG.set (gb : Nat) (a : World) {k : Nat} (hk : k < 513) (u : Value) : KpG gb a (a.setCell ⟨gb, k, none⟩ u) :=
  ⟨Keep.set a (p := ⟨gb, k, none⟩) (fun h => h rfl) u, fun j hj => World.cell?_setCell_other _ _ _ _ (by intro e; cases e; omega)⟩
theorem BkB.cC2 {w : World} {gb : Nat} {c : List Int} {ch : Nat → Int} {vp : Value} (h : BkB w gb c ch vp) (p i : Nat) (hk : p * 16 + i < 256) : w.cell? ⟨gb, 257 + p * 16 + i, none⟩ = some (.int .i64 (ch (p * 16 + i))) := by
  rw [Nat.add_assoc]; exact h.cC hk
theorem BkB.setC2 {w : World} {gb : Nat} {c : List Int} {ch : Nat → Int} {vp : Value} (h : BkB w gb c ch vp) (p i : Nat) (hk : p * 16 + i < 256) (z : Int) : ∃ ch', BkB (w.setCell ⟨gb, 257 + p * 16 + i, none⟩ (.int .i64 z)) gb c ch' vp := by
  rw [Nat.add_assoc]; exact ⟨_, h.setC hk z⟩
theorem minT_row (D : List Int) (q : Nat) (z : Int) : z ≤ minT (rowL D q) 16 ↔ ∀ i, i < 16 → z ≤ D.getD (q * 16 + i) 0 := by
  rw [minT_ge _ _ _ (by decide)]
  exact ⟨fun h i hi => by rw [← rowL_get D q hi]; exact h i hi, fun h i hi => by rw [rowL_get D q hi]; exact h i hi⟩
theorem maxT_row (D : List Int) (q : Nat) (z : Int) : maxT (rowL D q) 16 ≤ z ↔ ∀ i, i < 16 → D.getD (q * 16 + i) 0 ≤ z := by
  rw [maxT_le _ _ _ (by decide)]
  exact ⟨fun h i hi => by rw [← rowL_get D q hi]; exact h i hi, fun h i hi => by rw [rowL_get D q hi]; exact h i hi⟩
theorem ok_all (l : List Tr) : badT l l.length < 0 ↔ ∀ t ∈ l, t.Ok := by
  have h1 := badT_iff l l.length
  have h2 := badT_ge l l.length
  have e : (∀ i, i < l.length → okB (l.getD i ⟨0, 0, 0, 0⟩) = true) ↔ ∀ t ∈ l, t.Ok := by
    unfold okB
    constructor
    · intro h t ht
      obtain ⟨i, hi, rfl⟩ := List.getElem_of_mem ht
      have := h i hi
      rw [List.getD_eq_getElem?_getD, List.getElem?_eq_getElem hi] at this
      exact of_decide_eq_true this
    · intro h i hi
      rw [List.getD_eq_getElem?_getD, List.getElem?_eq_getElem hi]
      exact decide_eq_true (h _ (List.getElem_mem hi))
  rw [← e, ← h1]
  omega

set_option maxHeartbeats 4000000 in
set_option maxRecDepth 100000 in
theorem Post_any (gb : Nat) (c : List Int) (ch : Nat → Int) (vp : Value) (vs : List Value) (ps : List (List Tr)) (l : List Tr) (v : Value) (lo : Nat) (w : World) (h : BkB w gb c ch vp) (hcn : Cnts c) (hpo : w.ownsRow lo 62 1 vp ps.length vs) (hps : TrsO lo w vs ps) (hlo : lo ≤ w.heap.size) (hn : ps.length ≤ 1000)
    (hv : SlS (fun b => b ≠ gb ∧ vp.ownBlock ≠ some b) w v l.length (trsC l)) :
    Calls Try.prog 21 #[.pointer (some ⟨gb, 0, none⟩), v] w fun r w' => PostR gb c vp ps l lo w r w' := by
  have BN := hid (bnone_any gb c ch vp w h)
  have HB := hid h
  have HCN := hid hcn
  have HPO := hid hpo
  have HPS := hid hps
  have HV := hid hv
  have CT := hid (ContainsTr_any l v w hv.sl)
  have HIF : Hid (∀ r w', (PostOk c l ∧ r = .returned (.tuple #[.int .i64 ((ps.length + 1 : Nat) : Int), .int .i64 0]) ∧ ∃ ch' vp' vs', BkB w' gb (putL c l) ch' vp' ∧ w'.ownsRow lo 62 1 vp' (ps.length + 1) vs' ∧ TrsO lo w' vs' (ps ++ [l]) ∧ BkG w w' gb vp vp') → PostR gb c vp ps l lo w r w') := hid (fun r w' h => .inl h)
  have HER : Hid (∀ e w', ¬ PostOk c l → e ≠ 0 → Below w.heap.size w w' → PostR gb c vp ps l lo w (.returned (.tuple #[.int .i64 0, .int .i64 e])) w') := hid (fun e w' h1 h2 h3 => .inr ⟨h1, e, h2, rfl, h3⟩)
  obtain ⟨av, cv, rfl, hcv, hmv, -⟩ := id hv
  unfold maxLen at hmv
  obtain ⟨n, hnn⟩ : ∃ n, l.length = n := ⟨_, rfl⟩
  have HN := hid hnn
  rw [hnn] at hcv HV CT ⊢
  clear h hcn hpo hps hv hnn
  go_enter Try.func21, Try.ntmps21
  go_wp2_with fail
  refine BN.out.mono ?_
  rintro r w1 ⟨rfl, rfl⟩
  clear BN
  by_cases h1 : n < 1
  case pos =>
    have hno : ¬ PostOk c l := fun h => by have h9 := h.1.1; rw [HN.out] at h9; omega
    have HNO := hid hno
    have h1' : (n : Int) < 1 := by omega
    clear hno
    go_wp2
    go_ret2
    exact HER.out _ _ HNO.out (by decide) (Below.refl _ _)
  have h1' : ¬ (n : Int) < 1 := by omega
  by_cases h16 : 16 < n
  case pos =>
    have hno : ¬ PostOk c l := fun h => by have h9 := h.1.2.1; rw [HN.out] at h9; omega
    have HNO := hid hno
    have h16' : (16 : Int) < (n : Int) := by omega
    clear hno
    go_wp2
    go_ret2
    exact HER.out _ _ HNO.out (by decide) (Below.refl _ _)
  have h16' : ¬ (16 : Int) < (n : Int) := by omega
  have hbad := ok_all l
  rw [HN.out] at hbad
  obtain ⟨bd, hbd⟩ : ∃ z, badT l n = z := ⟨_, rfl⟩
  rw [hbd] at hbad CT
  have HBAD := hid hbad
  clear hbd hbad
  go_wp2_with fail
  refine CT.out.mono ?_
  rintro r w1 ⟨rfl, hb1⟩
  clear CT
  by_cases hb0 : 0 ≤ bd
  case pos =>
    have hno : ¬ PostOk c l := fun h => absurd (HBAD.out.2 h.1.2.2) (by omega)
    have HNO := hid hno
    clear hno
    go_wp2
    go_ret2
    exact HER.out _ _ HNO.out (by decide) hb1
  have HOK := hid (HBAD.out.1 (by omega))
  have HB1 := hid (HB.out.below hb1)
  have HW1 := hid hb1
  have HV1 := hid (SlS.keep HV.out (Keep.of_below (S := fun _ => True) hb1) (fun _ _ _ => trivial))
  have WI := hid (with_any c l (.slice av n cv) w1 (by have h9 := HV1.out.sl; rw [← HN.out] at h9 ⊢; exact h9) HOK.out (by rw [HN.out]; omega) HCN.out.len HCN.out.bd)
  obtain ⟨D, hD⟩ : ∃ D, putL c l = D := ⟨_, rfl⟩
  rw [hD] at WI
  have HD := hid hD
  obtain ⟨Z, hZ⟩ : ∃ Z, CA [] = Z := ⟨_, rfl⟩
  have hz := (zero_of_info infoCnt).1
  rw [hZ] at hz
  have hZs : Hid (Z.size = 256) := hid (by rw [← hZ, CA_size])
  obtain ⟨Y, hY⟩ : ∃ Z, (ints (rowL [] 0)).toArray = Z := ⟨_, rfl⟩
  have hy := (zero_of_info infoRow).1
  rw [hY] at hy
  have hYs : Hid (Y.size = 16) := hid (by rw [← hY, row_size16])
  clear hb1 hD hZ hY HBAD
  go_wp2_with (refine wpList_load_mid rfl 98 (.tmp 31) rfl gb 1 rfl (CA c).toList _ HB1.out.range Try.underlying98 rfl (by rw [Array.length_toList]; exact CA_info c) ?_; rw [Array.toArray_toList])
  refine WI.out.mono ?_
  rintro r w2 ⟨rfl, hb2⟩
  have HW2 := hid (HW1.out.trans (hb2.mono HW1.out.size))
  have kA := Blk.new w2 Z 98
  have bA := alloc_below w2 (.cells Z 98)
  have HA := hid kA
  have KD := hid (row_blk (cs' := CA D) kA)
  have HW3 := hid (row_below (HW2.out.trans (bA.mono HW2.out.size)) (show w.heap.size ≤ w2.heap.size from HW2.out.size) (CA D))
  have hDs := hid (CA_size D)
  clear WI hb2 kA bA HB1 HV1 HW1
  go_wp2_with (first
    | (refine wpList_store_row rfl 98 (.tmp 6) (.tmp 34) rfl w2.heap.size (CA D) rfl rfl 98 Z HA.out (CA_info D) (by rw [hZs.out, hDs.out]) (CA_one D) ?_)
    | (refine wpList_load_row rfl 98 (.tmp 6) rfl w2.heap.size rfl 98 (CA D) (0, 0) _ KD.out Try.underlying98 rfl (CA_info D) ?_))
  have hgA : w.heap.size ≤ w2.heap.size := HW2.out.size
  clear hz HA hZs
  generalize w2.heap.size = gA at KD HW3 hgA ⊢
  generalize (w2.alloc (.cells Z 98)).setRow gA (CA D) = W0 at KD HW3 ⊢
  have MN := hid (fun q v w h => Min_any (rowL D q) v w h (by rw [rowL_len]; decide))
  have MX := hid (fun q v w h => Max_any (rowL D q) v w h (by rw [rowL_len]; decide))
  simp only [rowL_len] at MN MX
  have hIX := hid (fun q hq w => cnt_index D (p := q) hq w)
  go_loopw [7, 8, 36] (fun _ _ z wr => ∃ k : Nat, z = .int .i64 (k : Int) ∧ k ≤ 16 ∧ Hid (∀ q, 0 < q → q < k → 0 ≤ minT (rowL D q) 16) ∧ Hid (Below W0.heap.size W0 wr)) (fun _ _ z _ => 16 - (intOf z).toNat)
  case atStart => exact ⟨0, rfl, Nat.zero_le _, hid (fun q _ h => absurd h (Nat.not_lt_zero _)), hid (Below.refl _ _)⟩
  case round =>
    obtain ⟨k, rfl, hk, HMIN, HBE⟩ := hrel
    by_cases hk16 : k < 16
    case pos =>
      have hk2 : (k : Int) < 16 := by omega
      have hix := hIX.out k hk16
      have kN := Blk.new wr Y 96
      have bN := alloc_below wr (.cells Y 96)
      have kR := row_blk (cs' := (ints (rowL D k)).toArray) kN
      have HBR := hid (row_below (HBE.out.trans (bN.mono HBE.out.size)) (show W0.heap.size ≤ wr.heap.size from HBE.out.size) (ints (rowL D k)).toArray)
      have hinf := hid (row_info D k)
      have hone := hid (ints_one (rowL D k))
      have hsz := hid (row_size16 D k)
      have HSR := blk_ints kR (rowL D k) rfl (by rw [rowL_len]; unfold maxLen; omega)
      simp only [rowL_len] at HSR
      have MN1 := hid (MN.out k _ _ HSR)
      obtain ⟨R, hR⟩ : ∃ R, (ints (rowL D k)).toArray = R := ⟨_, rfl⟩
      rw [hR] at hix kR HBR hinf hone hsz MN1
      obtain ⟨m, hm⟩ : ∃ m, minT (rowL D k) 16 = m := ⟨_, rfl⟩
      rw [hm] at MN1
      have HM := hid hm
      clear hR hm HSR kR
      by_cases hk0 : 0 < k
      case neg =>
        have hk3 : ¬ (0 : Int) < (k : Int) := by omega
        go_wp2_with (refine wpList_store_row rfl 96 (.tmp 8) (.tmp 39) rfl wr.heap.size R rfl rfl 96 Y kN hinf.out (by rw [hYs.out, hsz.out]) hone.out ?_)
        go_roundw
        case rel => exact ⟨k + 1, by go_num, by omega, hid (fun q h0 hq => by omega), HBR⟩
        case measure => simp [intOf]; omega
      case pos =>
        have hk3 : (0 : Int) < (k : Int) := by omega
        go_wp2_with (refine wpList_store_row rfl 96 (.tmp 8) (.tmp 39) rfl wr.heap.size R rfl rfl 96 Y kN hinf.out (by rw [hYs.out, hsz.out]) hone.out ?_)
        refine MN1.out.mono ?_
        rintro r w4 ⟨rfl, rfl⟩
        by_cases hm0 : m < 0
        case neg =>
          have HM2 : Hid (∀ q, 0 < q → q < k + 1 → 0 ≤ minT (rowL D q) 16) := hid (fun q h0 hq => by
            by_cases e : q = k
            · subst e; rw [HM.out]; omega
            · exact HMIN.out q h0 (by omega))
          clear HM HMIN MN1
          go_wp2_with fail
          go_roundw
          case rel => exact ⟨k + 1, by go_num, by omega, HM2, HBR⟩
          case measure => simp [intOf]; omega
        case pos =>
          have HNO : Hid (¬ PostOk c l) := hid (fun h => by
            have h2 := h.2.1
            rw [HD.out] at h2
            have := (minT_row D k 0).2 (fun i hi => h2 (k * 16 + i) (by omega) (by omega))
            rw [HM.out] at this
            omega)
          have HBF := hid (HW3.out.trans (HBR.out.mono HW3.out.size))
          clear HM HMIN MN1
          go_wp2
          go_ret2
          exact HER.out _ _ HNO.out (by decide) HBF.out
    case neg =>
      obtain rfl : k = 16 := by omega
      have hk2 : ¬ ((16 : Nat) : Int) < 16 := by omega
      have HMINF := hid HMIN.out
      have HW4 := hid (HW3.out.trans (HBE.out.mono HW3.out.size))
      have KD4 := hid (KD.out.below HBE.out)
      clear HMIN HBE HW3 KD
      go_wp2_with (refine wpList_load_row rfl 98 (.tmp 6) rfl gA rfl 98 (CA D) (0, 0) _ KD4.out Try.underlying98 rfl (CA_info D) ?_)
      generalize wr = W1 at HW4 KD4 ⊢
      go_loopw [10, 49] (fun _ z wr => ∃ k : Nat, z = .int .i64 (k : Int) ∧ k ≤ 16 ∧ Hid (∀ q, q < k → maxT (rowL D q) 16 ≤ 1000000000 ∧ -1000000000 ≤ minT (rowL D q) 16) ∧ Hid (Below W1.heap.size W1 wr)) (fun _ z _ => 16 - (intOf z).toNat)
      case atStart => exact ⟨0, rfl, Nat.zero_le _, hid (fun q h => absurd h (Nat.not_lt_zero _)), hid (Below.refl _ _)⟩
      case round =>
        obtain ⟨k, rfl, hk, HMM, HBE⟩ := hrel
        by_cases hk16 : k < 16
        case pos =>
          have hk2 : (k : Int) < 16 := by omega
          have hix := hIX.out k hk16
          have kN := Blk.new wr Y 96
          have bN := alloc_below wr (.cells Y 96)
          have kR := row_blk (cs' := (ints (rowL D k)).toArray) kN
          have HBR := hid (row_below (HBE.out.trans (bN.mono HBE.out.size)) (show W1.heap.size ≤ wr.heap.size from HBE.out.size) (ints (rowL D k)).toArray)
          have hinf := hid (row_info D k)
          have hone := hid (ints_one (rowL D k))
          have hsz := hid (row_size16 D k)
          have HSR := blk_ints kR (rowL D k) rfl (by rw [rowL_len]; unfold maxLen; omega)
          simp only [rowL_len] at HSR
          have MN1 := hid (MN.out k _ _ HSR)
          have MX1 := hid (MX.out k _ _ HSR)
          obtain ⟨R, hR⟩ : ∃ R, (ints (rowL D k)).toArray = R := ⟨_, rfl⟩
          rw [hR] at hix kR HBR hinf hone hsz MN1 MX1
          obtain ⟨m, hm⟩ : ∃ m, minT (rowL D k) 16 = m := ⟨_, rfl⟩
          obtain ⟨x, hx⟩ : ∃ m, maxT (rowL D k) 16 = m := ⟨_, rfl⟩
          rw [hm] at MN1
          rw [hx] at MX1
          have HM := hid hm
          have HX := hid hx
          clear hR hm hx HSR kR
          go_wp2_with (refine wpList_store_row rfl 96 (.tmp 10) (.tmp 51) rfl wr.heap.size R rfl rfl 96 Y kN hinf.out (by rw [hYs.out, hsz.out]) hone.out ?_)
          refine MX1.out.mono ?_
          rintro r w4 ⟨rfl, rfl⟩
          by_cases hx9 : 1000000000 < x
          case pos =>
            have HNO : Hid (¬ PostOk c l) := hid (fun h => by
              have h2 := h.2.2
              rw [HD.out] at h2
              have := (maxT_row D k 1000000000).2 (fun i hi => (h2 (k * 16 + i) (by omega)).2)
              rw [HX.out] at this
              omega)
            have HBF := hid (HW4.out.trans (HBR.out.mono HW4.out.size))
            clear HM HX HMM MN1 MX1
            go_wp2
            go_ret2
            exact HER.out _ _ HNO.out (by decide) HBF.out
          case neg =>
            go_wp2_with fail
            refine MN1.out.mono ?_
            rintro r w4 ⟨rfl, rfl⟩
            by_cases hm9 : m < -1000000000
            case pos =>
              have HNO : Hid (¬ PostOk c l) := hid (fun h => by
                have h2 := h.2.2
                rw [HD.out] at h2
                have := (minT_row D k (-1000000000)).2 (fun i hi => (h2 (k * 16 + i) (by omega)).1)
                rw [HM.out] at this
                omega)
              have HBF := hid (HW4.out.trans (HBR.out.mono HW4.out.size))
              clear HM HX HMM MN1 MX1
              go_wp2
              go_ret2
              exact HER.out _ _ HNO.out (by decide) HBF.out
            case neg =>
              have HM2 : Hid (∀ q, q < k + 1 → maxT (rowL D q) 16 ≤ 1000000000 ∧ -1000000000 ≤ minT (rowL D q) 16) := hid (fun q hq => by
                by_cases e : q = k
                · subst e; rw [HM.out, HX.out]; omega
                · exact HMM.out q (by omega))
              clear HM HX HMM MN1 MX1
              go_wp2_with fail
              go_roundw
              case rel => exact ⟨k + 1, by go_num, by omega, HM2, HBR⟩
              case measure => simp [intOf]; omega
        case neg =>
          obtain rfl : k = 16 := by omega
          have hk2 : ¬ ((16 : Nat) : Int) < 16 := by omega
          have HPK : Hid (PostOk c l) := hid ⟨⟨by rw [HN.out]; omega, by rw [HN.out]; omega, HOK.out⟩, fun k hk h16 => by
            rw [HD.out]
            have := (minT_row D (k / 16) 0).1 (HMINF.out (k / 16) (by omega) (by omega)) (k % 16) (by omega)
            rwa [show k / 16 * 16 + k % 16 = k by omega] at this, fun k hk => by
            rw [HD.out]
            obtain ⟨e1, e2⟩ := HMM.out (k / 16) (by omega)
            have f1 := (maxT_row D (k / 16) _).1 e1 (k % 16) (by omega)
            have f2 := (minT_row D (k / 16) _).1 e2 (k % 16) (by omega)
            rw [show k / 16 * 16 + k % 16 = k by omega] at f1 f2
            exact ⟨f2, f1⟩⟩
          have HW5 := hid (HW4.out.trans (HBE.out.mono HW4.out.size))
          have KD5 := hid (KD4.out.below HBE.out)
          clear HMM HMINF HBE HW4 KD4 hy hYs hIX MN MX HER
          have HB5 := hid (HB.out.below HW5.out)
          have HPO5 := hid (owns_below HPO.out HW5.out)
          have HPS5 := hid (HPS.out.below HW5.out)
          have HV5 := hid (SlS.keep HV.out (Keep.of_below (S := fun _ => True) HW5.out) (fun _ _ _ => trivial))
          clear HB HPO HPS HV
          have hk6 : Keep (· ≠ gb) wr (wr.setCells gb 1 (CA D).toList) := Keep.setCells (fun h => h rfl) (CA D).toList 1 wr
          have HB6 := hid (HB5.out.setH D)
          have HPO6 := hid (hk6.owns HPO5.out (owns_blk_neT HPO5.out HB5.out (by decide)))
          have HPS6 := hid (HPS5.out.keep hk6 (fun i hi => owns_blk_neT (HPS5.out.2 i hi) HB5.out (by decide)))
          have HV6 := hid (SlS.keep HV5.out hk6 (fun _ _ h => h.1))
          have HK6 := hid hk6
          have hth := HB5.out.there D
          clear hk6 HPO5 HPS5 HV5
          go_wp2_with (first
            | (refine wpList_load_row rfl 98 (.tmp 6) rfl gA rfl 98 (CA D) (0, 0) _ KD5.out Try.underlying98 rfl (CA_info D) ?_)
            | (refine wpList_store_mid rfl 98 (.tmp 64) (.tmp 62) rfl gb 1 (CA D) rfl rfl hth (CA_info D) (CA_one D) ?_))
          clear hth HB5 KD5
          generalize wr.setCells gb 1 (CA D).toList = w6 at HB6 HPO6 HPS6 HV6 HK6 ⊢
          obtain ⟨ap, cp, rfl, -⟩ := SlR.of_owns HPO6.out
          have hgbr : Value.ownBlock (.slice ap ps.length cp) ≠ some gb := fun e => owns_blk_neT HPO6.out HB6.out (by decide) gb e rfl
          have hgbl := Blk.lt HB6.out
          have zr := fun y : SubT (Keep (fun b => Value.ownBlock (.slice ap ps.length cp) ≠ some b)) w6.drew => (((Keep.drew (fun b => Value.ownBlock (.slice ap ps.length cp) ≠ some b) w6).trans y.b).cell (p := ⟨gb, 513, none⟩) hgbl hgbr).trans HB6.out.cP
          refine wp_walkJ (T := Keep (fun b => Value.ownBlock (.slice ap ps.length cp) ≠ some b)) (keep_pre _) (.rd 0 (.rd 1 (.rd 2 (.rd 3 (.rd 4 (.rd 5 (.mv 6 (.mv 7 (.mv 8 (.rd 9 (.rd 10 (.bt 11 (.inv []))))))))))))) (by kernel_rfl) rfl (by kernel_rfl) (by kernel_rfl) ?_
          iterate 6 (refine walkJ_rd rfl (fun K hK => ?_); go_simp; refine hK _ ?_; clear hK K)
          clear zr
          have hd := (Below.refl w6.heap.size w6).drew
          have HB7 := hid (HB6.out.below hd)
          have HPO7 := hid (owns_below HPO6.out hd)
          have HPS7 := hid (HPS6.out.below hd)
          have HV7 := hid (SlS.keep HV6.out (Keep.of_below (S := fun _ => True) hd) (fun _ _ _ => trivial))
          have HK7 := hid (HK6.out.trans (Keep.of_below hd))
          clear hd HB6 HPO6 HPS6 HV6 HK6 hgbl
          generalize w6.drew = w7 at HB7 HPO7 HPS7 HV7 HK7 ⊢
          have CL := hid (CloneT_any l (.slice av n cv) w7 (by have h9 := HV7.out.sl; rw [← HN.out] at h9 ⊢; exact h9) (by rw [HN.out]; omega) (by rw [HN.out]; omega))
          rw [HN.out] at CL
          (refine walkJ_mv rfl (fun K hK => ?_); go_simp; refine CL.out.mono ?_; rintro r w8 ⟨⟨v8, rfl, ho8⟩, hb8⟩; refine ⟨_, rfl, hK _ _ (Keep.of_below hb8) ?_⟩; clear hK K)
          obtain ⟨a8, c8, rfl, -⟩ := SlR.of_owns ho8
          have kN := Blk.new w8 #[.slice a8 n c8] 62
          have bN := alloc_below w8 (.cells #[.slice a8 n c8] 62)
          have hb9 := hb8.trans (bN.mono hb8.size)
          have HB9 := hid (HB7.out.below hb9)
          have HPO9 := hid (owns_below HPO7.out hb9)
          have HPS9 := hid (HPS7.out.below hb9)
          have HV9 := hid (SlS.keep HV7.out (Keep.of_below (S := fun _ => True) hb9) (fun _ _ _ => trivial))
          have HK9 := hid (HK7.out.trans (Keep.of_below hb9))
          have hlo9 : lo ≤ w7.heap.size := Nat.le_trans hlo (Nat.le_trans HW5.out.size HK7.out.size)
          have HO9 := hid (owns_below (owns_low ho8 hlo9) bN)
          have hlo10 : lo ≤ (w8.alloc (.cells #[.slice a8 n c8] 62)).heap.size := Nat.le_trans hlo9 hb9.size
          (refine walkJ_mv rfl (fun K hK => ?_); go_simp; refine hK _ _ (Keep.alloc _ _ _) ?_; clear hK K)
          clear CL ho8 hb8 bN hb9 HB7 HPO7 HPS7 HV7 HK7 hlo9
          generalize w8.heap.size = H at kN ⊢
          generalize w8.alloc (.cells #[.slice a8 n c8] 62) = w9 at kN HB9 HPO9 HPS9 HV9 HK9 HO9 hlo10 ⊢
          refine walkJ_mv rfl (fun K hK => ⟨rfl, gives_appO (.tmp 69) (.tmp 72) 99 99 rfl rfl lo 62 (.slice none 0 0) 1 24 Try.underlying99 infoTs rfl (by decide) rfl HPO9.out [.slice a8 n c8] H kN rfl rfl (by simp [Value.oneCell']) (by unfold maxLen; omega) (by omega) hlo10 (fun g5 c5 w10 ho10 hg10 hbg10 hlt10 hor10 => hK _ _ (Keep.grown hg10 (fun k hk h => h hk)) ?_)⟩)
          clear hK K kN
          have hk10 : Keep (fun b => Value.ownBlock (.slice ap ps.length cp) ≠ some b) w9 w10 := Keep.grown hg10 (fun k hk h => h hk)
          have HB10 := hid (HB9.out.keep hk10 hgbr)
          have HPO10 := hid ho10
          have HPS10 : Hid (TrsO lo w10 (vs ++ [.slice a8 n c8]) (ps ++ [l])) := hid (TrsO.snoc (HPS9.out.keep hk10 (fun i hi x hx e => owns_ne2 HPO9.out (HPS9.out.2 i hi) (by decide) x e hx)) (by
            have h9 := hk10.owns HO9.out (fun x hx e => owns_ne2 HPO9.out HO9.out (by decide) x e hx)
            rw [← HN.out] at h9 ⊢; exact h9))
          have HV10 := hid (SlS.keep HV9.out hk10 (fun _ _ h => h.2))
          have HK10 := hid ((HK9.out.mono (S' := fun b => b ≠ gb ∧ Value.ownBlock (.slice ap ps.length cp) ≠ some b) (fun _ _ h => h.1)).trans (hk10.mono (fun _ _ h => h.2)))
          have HRW : Hid (Value.ownBlock (.slice (some ⟨g5, 0, none⟩) (ps.length + 1) c5) = Value.ownBlock (.slice ap ps.length cp) ∨ ∀ b, Value.ownBlock (.slice (some ⟨g5, 0, none⟩) (ps.length + 1) c5) = some b → w.heap.size ≤ b) := hid (by
            rcases hor10 with e | e
            · exact .inl e.symm
            · right
              intro b hb
              cases hb
              exact Nat.le_trans (Nat.le_trans HW5.out.size HK9.out.size) e)
          clear hk10 ho10 hg10 hbg10 hlt10 hor10 HB9 HPO9 HPS9 HV9 HK9 HO9 hlo10
          iterate 2 (refine walkJ_rd rfl (fun K hK => ?_); go_simp; refine hK _ ?_; clear hK K)
          have x13 := HB10.out.cP
          have f13 := Blk.frozen HB10.out 513
          have l13 := Blk.lt HB10.out
          (refine walkJ_bt rfl (fun K hK => ?_); go_simp; refine hK _ _ ?_; clear hK K)
          refine walkJ_nil ?_
          clear x13 f13 l13
          have hk11 : Keep (· ≠ gb) w10 (w10.setCell ⟨gb, 513, none⟩ (.slice (some ⟨g5, 0, none⟩) (ps.length + 1) c5)) := Keep.set _ (fun h => h rfl) _
          have HB11 := hid (HB10.out.setP (.slice (some ⟨g5, 0, none⟩) (ps.length + 1) c5))
          have HPO11 := hid (hk11.owns HPO10.out (owns_blk_neT HPO10.out HB10.out (by decide)))
          have HPS11 := hid (HPS10.out.keep hk11 (fun i hi => owns_blk_neT (HPS10.out.2 i hi) HB10.out (by decide)))
          have HV11 := hid (SlS.keep HV10.out hk11 (fun _ _ h => h.1))
          have HK11 := hid (HK10.out.trans (hk11.mono (fun _ _ h => h.1)))
          clear hk11 HB10 HPO10 HPS10 HV10 HK10
          generalize w10.setCell ⟨gb, 513, none⟩ (.slice (some ⟨g5, 0, none⟩) (ps.length + 1) c5) = w11 at HB11 HPO11 HPS11 HV11 HK11 ⊢
          go_wp2_with fail
          have HIF2 := hid HIF.out
          clear HIF
          generalize hvn : Value.slice (some ⟨g5, 0, none⟩) (ps.length + 1) c5 = vn at HB11 HPO11 HRW
          have HVN := hid hvn
          clear hvn
          go_loopw [12, 78] (fun _ z wq => ∃ k : Nat, z = .int .i64 (k : Int) ∧ k ≤ n ∧ (∃ ch', Hid (BkB wq gb D ch' vn)) ∧ Hid (Keep (· ≠ gb) w11 wq)) (fun _ z _ => n - (intOf z).toNat)
          case atStart => exact ⟨0, rfl, Nat.zero_le _, ⟨_, HB11⟩, hid (Keep.refl _ _)⟩
          case round =>
            obtain ⟨k, rfl, hk, ⟨ch', HBK⟩, HKK⟩ := hrel
            by_cases hkn : k < n
            case neg =>
              obtain rfl : n = k := by omega
              have hk2 : ¬ (n : Int) < (n : Int) := by omega
              have xp := HBK.out.cP
              rw [← HVN.out] at xp
              have HPOF := hid (HKK.out.owns HPO11.out (owns_blk_neT HPO11.out HB11.out (by decide)))
              have HPSF := hid (HPS11.out.keep HKK.out (fun i hi => owns_blk_neT (HPS11.out.2 i hi) HB11.out (by decide)))
              have HKF := hid ((Keep.of_below (S := fun b => b ≠ gb ∧ Value.ownBlock (.slice ap ps.length cp) ≠ some b) HW5.out).trans (HK11.out.trans (HKK.out.mono (fun _ _ h => h.1))))
              clear HKK HB11 HPO11 HPS11 HV11 HK11
              go_wp2
              go_ret2
              exact HIF2.out _ _ ⟨HPK.out, rfl, ch', vn, _, by rw [HD.out]; exact HBK.out, HPOF.out, HPSF.out, HKF.out, HRW.out⟩
            case pos =>
              have hk2 : (k : Int) < (n : Int) := by omega
              have HVk := SlS.keep HV11.out HKK.out (fun _ _ h => h.1)
              obtain ⟨g, off, rfl, hg, x0, x1, x2, x3⟩ := HVk.tr (show k < l.length by rw [HN.out]; exact hkn)
              have hok : (l.getD k ⟨0, 0, 0, 0⟩).Ok := HOK.out _ (by
                rw [List.getD_eq_getElem?_getD, List.getElem?_eq_getElem (by rw [HN.out]; exact hkn)]
                exact List.getElem_mem _)
              obtain ⟨t, ht⟩ : ∃ t, l.getD k ⟨0, 0, 0, 0⟩ = t := ⟨_, rfl⟩
              rw [ht] at x0 x1 x2 x3 hok
              clear ht HVk
              obtain ⟨ti, ts, td, tn⟩ := t
              obtain ⟨⟨a1, a2⟩, ⟨b1, b2⟩, ⟨c1, c2⟩, hsd, -, -⟩ := hok
              simp only at x0 x1 x2 x3 a1 a2 b1 b2 c1 c2 hsd
              obtain ⟨i, rfl⟩ : ∃ i : Nat, ti = i := ⟨ti.toNat, by omega⟩
              obtain ⟨sr, rfl⟩ : ∃ i : Nat, ts = i := ⟨ts.toNat, by omega⟩
              obtain ⟨de, rfl⟩ : ∃ i : Nat, td = i := ⟨td.toNat, by omega⟩
              have hs1 : sr * 16 + i < 256 := by omega
              have hs2 : de * 16 + i < 256 := by omega
              clear hsd
              have kT := Blk.new wr #[.int .i64 (i : Int), .int .i64 (sr : Int), .int .i64 (de : Int), .int .i64 tn] 103
              have bT := alloc_below wr (.cells #[.int .i64 (i : Int), .int .i64 (sr : Int), .int .i64 (de : Int), .int .i64 tn] 103)
              have HBT := hid (HBK.out.below bT)
              have HKT := hid (HKK.out.trans (Keep.of_below bT))
              have KT := hid kT
              have hgtb : wr.heap.size ≠ gb := by have := Blk.lt HBK.out; omega
              go_wp2_with fail
              clear x0 x1 x2 x3 kT bT HBK HKK hg
              generalize wr.heap.size = gt at KT hgtb ⊢
              generalize wr.alloc (.cells #[.int .i64 (i : Int), .int .i64 (sr : Int), .int .i64 (de : Int), .int .i64 tn] 103) = W at HBT HKT KT ⊢
              have z0 := fun y : SubT (KpG gb) W.drew => (((Keep.drew (· ≠ gb) W).trans y.b.k).blk KT.out hgtb).look 0 rfl
              have z1 := fun y : SubT (KpG gb) W.drew => (((Keep.drew (· ≠ gb) W).trans y.b.k).blk KT.out hgtb).look 1 rfl
              have z2 := fun y : SubT (KpG gb) W.drew => (((Keep.drew (· ≠ gb) W).trans y.b.k).blk KT.out hgtb).look 2 rfl
              have zp := fun y : SubT (KpG gb) W.drew => (y.b.c 513 (by decide)).trans (HBT.out.below (Below.refl W.heap.size W).drew).cP
              rw [← HVN.out] at zp
              refine wp_walkJ (T := KpG gb) (kpG_pre _) (.rd 0 (.rd 1 (.rd 2 (.rd 3 (.rd 4 (.rd 5 (.rd 6 (.rd 7 (.rd 8 (.rd 9 (.rd 10 (.rd 11 (.rd 12 (.rd 13 (.rd 14 (.rd 15 (.rd 16 (.rd 17 (.rd 18 (.rd 19 (.rd 20 (.rd 21 (.rd 22 (.rd 23 (.rd 25 (.rd 26 (.rd 27 (.mv 24 (.rd 28 (.bt 29 (.inv []))))))))))))))))))))))))))))))) (by kernel_rfl) rfl (by kernel_rfl) (by kernel_rfl) ?_
              iterate 27 (refine walkJ_rd rfl (fun K hK => ?_); go_simp; refine hK _ ?_; clear hK K)
              clear z0 z1 z2 zp
              have hd := (Below.refl W.heap.size W).drew
              have HBT1 := hid (HBT.out.below hd)
              have HKT1 := hid (HKT.out.trans (Keep.of_below hd))
              clear hd HBT HKT KT
              generalize W.drew = W1 at HBT1 HKT1 ⊢
              have x0 := HBT1.out.cC2 sr i hs1
              have f0 := Blk.frozen HBT1.out (257 + sr * 16 + i)
              have l0 := Blk.lt HBT1.out
              (refine walkJ_mv rfl (fun K hK => ?_); go_simp; refine hK _ _ (KpG.set gb _ (by omega) _) ?_; clear hK K)
              clear x0 f0 l0
              obtain ⟨ch1, hb2⟩ := HBT1.out.setC2 sr i hs1 ((ps.length : Int) + 1)
              have HB2 := hid hb2
              have HK2 := hid (HKT1.out.trans (Keep.set (S := (· ≠ gb)) W1 (p := ⟨gb, 257 + sr * 16 + i, none⟩) (fun h => h rfl) (.int .i64 ((ps.length : Int) + 1))))
              clear hb2 HBT1 HKT1
              generalize W1.setCell ⟨gb, 257 + sr * 16 + i, none⟩ (.int .i64 ((ps.length : Int) + 1)) = W2 at HB2 HK2 ⊢
              iterate 1 (refine walkJ_rd rfl (fun K hK => ?_); go_simp; refine hK _ ?_; clear hK K)
              have x0 := HB2.out.cC2 de i hs2
              have f0 := Blk.frozen HB2.out (257 + de * 16 + i)
              have l0 := Blk.lt HB2.out
              (refine walkJ_bt rfl (fun K hK => ?_); go_simp; refine hK _ _ ?_; clear hK K)
              refine walkJ_nil ?_
              clear x0 f0 l0
              obtain ⟨ch2, hb3⟩ := HB2.out.setC2 de i hs2 ((ps.length : Int) + 1)
              have HB3 := hid hb3
              have HK3 := hid (HK2.out.trans (Keep.set (S := (· ≠ gb)) W2 (p := ⟨gb, 257 + de * 16 + i, none⟩) (fun h => h rfl) (.int .i64 ((ps.length : Int) + 1))))
              clear hb3 HB2 HK2
              generalize W2.setCell ⟨gb, 257 + de * 16 + i, none⟩ (.int .i64 ((ps.length : Int) + 1)) = W3 at HB3 HK3 ⊢
              go_wp2_with fail
              go_roundw
              case rel => exact ⟨k + 1, by go_num, by omega, ⟨_, HB3⟩, HK3⟩
              case measure => simp [intOf]; omega

end Go.Proofs.Ytcpefolhohakmaa
