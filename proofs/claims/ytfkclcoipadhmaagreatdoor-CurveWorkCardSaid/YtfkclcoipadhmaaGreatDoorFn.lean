/- Walks of curve.Cut and trankref02.Cut. -/
import Derived.Test.YtfkclcoipadhmaaGreatDoorFl
import Derived.Test.YtfkclcoipadhmaaGreatDoorFp
namespace Go.Proofs.YtfkclcoipadhmaaGreatDoor
open Go.RowKit
attribute [local irreducible] seqS seqST walkV walkJ

theorem take_filter_yes {C : List Pt} {x : Rat} {i : Nat} (hi : i < C.length) (h : (C.getD i (0, 0)).1 < x) : aheadL (C.take (i + 1)) x = aheadL (C.take i) x ++ [C.getD i (0, 0)] := by
  unfold aheadL
  rw [List.take_succ_eq_append_getElem hi, List.filter_append]
  rw [List.getD_eq_getElem?_getD, List.getElem?_eq_getElem hi] at h ⊢
  have h2 : C[i].1 < x := h
  simp [h2]
theorem take_filter_no {C : List Pt} {x : Rat} {i : Nat} (hi : i < C.length) (h : ¬ (C.getD i (0, 0)).1 < x) : aheadL (C.take (i + 1)) x = aheadL (C.take i) x := by
  unfold aheadL
  rw [List.take_succ_eq_append_getElem hi, List.filter_append]
  rw [List.getD_eq_getElem?_getD, List.getElem?_eq_getElem hi] at h
  have h2 : ¬ C[i].1 < x := h
  simp [h2]
theorem take_filter_len (C : List Pt) (x : Rat) (i : Nat) : (aheadL (C.take i) x).length ≤ i := by
  unfold aheadL
  have := List.length_filter_le (fun p : Pt => decide (p.1 < x)) (C.take i)
  rw [List.length_take] at this
  omega

theorem frQ_eq {x : Rat} {n d : Int} (h : frQ x = .agg #[.int .i64 n, .int .i64 d]) : x.num = n ∧ (x.den : Int) = d := by
  unfold frQ at h
  injection h with h2
  have h3 := congrArg Array.toList h2
  simp at h3
  exact h3
/-- What Cut hands back. -/
def cutOK (c : List P4) (n d : Int) : Prop := RV c ∧ FV n d ∧ 0 < n
noncomputable instance (c : List P4) (n d : Int) : Decidable (cutOK c n d) := Classical.propDecidable _
noncomputable def cutE (c : List P4) (n d : Int) : Int := if cutOK c n d then oE (atV c n d) else 2
noncomputable def cutR (c : List P4) (n d : Int) : List Pt := if cutOK c n d then (match atV c n d with | some y => cutL (toQ c) (vq (n, d)) y | none => []) else []

set_option maxHeartbeats 8000000 in
set_option maxRecDepth 100000 in
theorem Cut_any (c : List P4) (n d : Int) (v : Value) (w : World) (h : P4R 0 w v c) (hz : Z0 w) :
    Calls Tryz.prog 22 #[v, .agg #[.int .i64 n, .int .i64 d]] w fun r w' => (∃ v', r = .returned (.tuple #[v', .int .i64 (cutE c n d)]) ∧ PsR w.heap.size w' v' (cutR c n d)) ∧ Below w.heap.size w w' := by
  have VA := hid (fun w h hz => cValid_any c v w h hz)
  obtain ⟨ao, cap, rfl, hcap, hmax, hc⟩ := id h
  unfold maxLen at hmax
  obtain ⟨E, hE⟩ : ∃ E, cutE c n d = E := ⟨_, rfl⟩
  obtain ⟨R, hR⟩ : ∃ R, cutR c n d = R := ⟨_, rfl⟩
  rw [hE, hR]
  have HE := hid hE
  have HR := hid hR
  obtain ⟨L, hL⟩ : ∃ L, c.length = L := ⟨_, rfl⟩
  rw [hL] at VA hcap h ⊢
  have HL := hid hL
  have k0 := Blk.new w #[.int .i64 n, .int .i64 d] 31
  have b0 := (Below.refl w.heap.size w).alloc (Nat.le_refl _) (.cells #[.int .i64 n, .int .i64 d] 31)
  clear hE hR hL hc
  go_enter Tryz.func22, Tryz.ntmps22
  go_wp2_with fail
  obtain ⟨w0, hw0⟩ : ∃ w0, w.alloc (.cells #[.int .i64 n, .int .i64 d] 31) = w0 := ⟨_, rfl⟩
  rw [hw0] at k0 b0 ⊢
  clear hw0
  have h0 := h.below b0
  have hz0 := hz.below b0
  refine (VA.out _ h0 hz0).mono ?_
  rintro r w1 ⟨rfl, hb1⟩
  have hB := b0.trans (hb1.mono b0.size)
  have k01 := k0.below hb1
  have h1 := h0.below hb1
  have hz1 := hz0.below hb1
  clear VA h0 hz0 h hz k0 b0 hb1
  by_cases hrv : RV c
  case neg =>
    rw [decide_eq_false hrv]
    have hno : ¬ cutOK c n d := fun h => hrv h.1
    obtain rfl : 2 = E := by rw [← HE.out]; exact (if_neg hno).symm
    obtain rfl : [] = R := by rw [← HR.out]; exact (if_neg hno).symm
    clear hno HE HR
    go_wp2
    go_ret2
    exact ⟨⟨_, rfl, SlR.nil _ _⟩, hB⟩
  rw [decide_eq_true hrv]
  have HRV := hid hrv
  have c0 := k01.look 0 rfl
  have c1 := k01.look 1 rfl
  clear hrv
  go_wp2_with fail
  refine (fValid_any n d _).mono ?_
  rintro r w2 ⟨rfl, hb2⟩
  replace hB := hB.trans (hb2.mono hB.size)
  have k02 := k01.below hb2
  have h2 := h1.below hb2
  have hz2 := hz1.below hb2
  clear k01 h1 hz1 hb2 c0 c1
  have x0 := k02.look 0 rfl
  have x1 := k02.look 1 rfl
  by_cases hf1 : FV n d
  case neg =>
    rw [decide_eq_false hf1]
    have hno : ¬ cutOK c n d := fun h => hf1 h.2.1
    obtain rfl : 2 = E := by rw [← HE.out]; exact (if_neg hno).symm
    obtain rfl : [] = R := by rw [← HR.out]; exact (if_neg hno).symm
    clear hno HE HR
    go_wp2
    go_ret2
    exact ⟨⟨_, rfl, SlR.nil _ _⟩, hB⟩
  rw [decide_eq_true hf1]
  have HF1 := hid hf1
  clear hf1
  by_cases hp1 : n ≤ 0
  case pos =>
    have hno : ¬ cutOK c n d := fun h => by have := h.2.2; omega
    have hfx := field_x
    obtain rfl : 2 = E := by rw [← HE.out]; exact (if_neg hno).symm
    obtain rfl : [] = R := by rw [← HR.out]; exact (if_neg hno).symm
    clear hno HE HR
    go_wp2
    go_ret2
    exact ⟨⟨_, rfl, SlR.nil _ _⟩, hB⟩
  have hok : cutOK c n d := ⟨HRV.out, HF1.out, by omega⟩
  have e1 : cutE c n d = oE (atV c n d) := if_pos hok
  have e2 : cutR c n d = (match atV c n d with | some y => cutL (toQ c) (vq (n, d)) y | none => []) := if_pos hok
  have HX : Hid (atV c n d = none → E = 5 ∧ R = []) := hid (fun hh => by rw [← HE.out, ← HR.out, e1, e2, hh]; exact ⟨rfl, rfl⟩)
  have HY : Hid (∀ y, atV c n d = some y → E = 0 ∧ R = cutL (toQ c) (vq (n, d)) y) := hid (fun y hh => by rw [← HE.out, ← HR.out, e1, e2, hh]; exact ⟨rfl, rfl⟩)
  have hq : PsR 0 w2 (.slice ao L cap) (toQ c) := P4R.toQ (h2 : P4R 0 w2 (.slice ao L cap) c) HRV.out
  have hcv := rv_cv HRV.out
  have hlen := toQ_len c
  rw [HL.out] at hlen
  have HAT : Hid (atV c n d = if InDom (toQ c) (vq (n, d)) then atO (toQ c) (vq (n, d)) else none) := hid (by
    unfold atV
    by_cases hd : InDom (toQ c) (vq (n, d))
    · rw [if_pos hd, if_pos ⟨HRV.out, HF1.out, hd⟩]
    · rw [if_neg hd, if_neg (fun h => hd h.2.2)])
  have hxf := vq_fits HF1.out
  have hxe := frQ_vq HF1.out
  generalize vq (n, d) = x at HX HY HAT hxf hxe
  generalize toQ c = C at hq hcv hlen HX HY HAT
  generalize atV c n d = o at HX HY HAT
  have hL2 : 2 ≤ L := by have := hcv.two; omega
  have hL48 : L ≤ 48 := by have := hcv.most; omega
  have CVC := hid hcv
  have HCL := hid hlen
  have HXV : Hid (∀ V : Rat, ptsC [(x, V)] = [.int .i64 n, .int .i64 d, .int .i64 V.num, .int .i64 (V.den : Int)]) := hid (fun V => by
    rw [← (frQ_eq hxe).1, ← (frQ_eq hxe).2]
    rfl)
  have WI := hid (fun w h => within_any C x (.slice ao L cap) w hcv hxf h)
  have AT := hid (fun hd g ok w h hz hk => at_any C x (.slice ao L cap) hcv hd hxf g ok w h hz hk)
  have ORD := hid (fun (p : Rat) (hp : fits p) w => order_any p x hp hxf w)
  rw [hxe] at WI AT ORD
  clear e1 e2 hok hcv hlen h2 hxf hxe HE HR HRV HF1 HL
  have hfx := field_x
  go_wp2_with fail
  clear hfx x0 x1
  refine (WI.out _ hq).mono ?_
  rintro r w3 ⟨rfl, hb3⟩
  replace hB := hB.trans (hb3.mono hB.size)
  have k03 := k02.below hb3
  have hz3 := hz2.below hb3
  have q3 := hq.below hb3
  clear WI k02 hz2 hq hb3
  by_cases hdm : InDom C x
  case neg =>
    rw [decide_eq_false hdm]
    rw [if_neg hdm] at HAT
    obtain ⟨rfl, rfl⟩ := HX.out HAT.out
    clear HX HY HAT
    go_wp2
    go_ret2
    exact ⟨⟨_, rfl, SlR.nil _ _⟩, hB⟩
  rw [decide_eq_true hdm]
  rw [if_pos hdm] at HAT
  have AT2 := hid (AT.out hdm)
  clear AT hdm
  obtain ⟨ao2, cap2, he2, -, -, hcc⟩ := id q3
  obtain ⟨rfl, -⟩ : ao2 = ao ∧ True := by
    injection he2 with g1 g2 g3
    exact ⟨g1.symm, trivial⟩
  obtain ⟨b, off, rfl, hb, -, -, -, -⟩ := p_cell hcc (show 0 < C.length by rw [HCL.out]; omega)
  have HCC := hid hcc
  obtain ⟨B, hBs⟩ : ∃ B, w3.heap.size = B := ⟨_, rfl⟩
  have HBS := hid hBs
  have HB := hid hB
  have HZ := hid hz3
  have HQ := hid q3
  have kg := Blk.new w3 #[.int .i64 0] 59
  have ba := alloc_below w3 (.cells #[.int .i64 0] 59)
  have hsb : B + 1 ≤ (w3.alloc (.cells #[.int .i64 0] 59)).heap.size := by rw [← hBs]; simp
  obtain ⟨w4, hw4⟩ : ∃ w4, w3.alloc (.cells #[.int .i64 0] 59) = w4 := ⟨_, rfl⟩
  rw [hw4, hBs] at kg
  rw [hw4, hBs] at ba
  rw [hw4] at hsb
  have K0 := hid (k03.below (by rw [hBs]; exact ba))
  have hlt0 : w.heap.size < B := by have := k03.lt; omega
  rw [hBs] at hb
  have HKG : Hid (CalB w4 B true) := hid kg
  have HQ4 := hid (q3.below (by rw [hBs]; exact ba))
  have HZ4 := hid (hz3.below (by rw [hBs]; exact ba))
  have HB4 : Hid (Below w.heap.size w w4) := hid (hB.trans (by have := ba.mono (show w.heap.size ≤ B by rw [← hBs]; exact hB.size); exact this))
  have hb4 : b < w4.heap.size := by omega
  have hcc4 : CellsOf 0 w4 (some ⟨b, off, none⟩) (ptsC C) := by
    obtain ⟨_, _, he9, _, _, hc9⟩ := HQ4.out
    cases he9
    exact hc9
  have HCC := hid hcc4
  have hBT : B < w4.heap.size := by omega
  clear he2 hcc hz3 k03 hB kg q3 HQ HZ ba hcc4 HBS HB
  go_wp2_with fail
  clear hw4 hBs
  go_loopw [7, 31] (fun y z wr => ∃ i : Nat, z = .int .i64 i ∧ i ≤ L ∧ (∃ l, aheadL (C.take i) x = l ∧ l.length ≤ i ∧ Hid (wr.ownsRow w4.heap.size 44 4 y l.length (ptsC l))) ∧ Below w4.heap.size w4 wr) (fun _ z _ => L - (intOf z).toNat)
  case atStart => exact ⟨0, rfl, Nat.zero_le _, ⟨[], rfl, Nat.le_refl _, hid (World.ownsRow_nil _ _ _ _)⟩, Below.refl _ _⟩
  case round =>
    obtain ⟨i, rfl, hi, ⟨l, hle, hll, HO⟩, hbel⟩ := hrel
    have hsr := hbel.size
    have HLE := hid hle
    clear hle
    by_cases hiL : i < L
    case pos =>
      have hi2 : (i : Int) < (L : Int) := by omega
      obtain ⟨b', off', he, hb', x0, x1, x2, x3⟩ := p_cell HCC.out (show i < C.length by rw [HCL.out]; exact hiL)
      cases he
      replace x0 := (hbel.cell (p := ⟨b, off + i * 4, none⟩) hb4).trans x0
      replace x1 := (hbel.cell (p := ⟨b, off + i * 4 + 1, none⟩) hb4).trans x1
      replace x2 := (hbel.cell (p := ⟨b, off + i * 4 + 2, none⟩) hb4).trans x2
      replace x3 := (hbel.cell (p := ⟨b, off + i * 4 + 3, none⟩) hb4).trans x3
      have hP := CVC.out.fit i (by rw [HCL.out]; exact hiL)
      obtain ⟨P, hPe⟩ : ∃ P, C.getD i (0, 0) = P := ⟨_, rfl⟩
      rw [hPe] at x0 x1 x2 x3 hP
      have HPe := hid hPe
      have OR := hid (fun w => ORD.out P.1 hP.1 w)
      have hcl := cmpQ_lt P.1 x
      obtain ⟨cz, hcz⟩ : ∃ z, cmpQ P.1 x = z := ⟨_, rfl⟩
      rw [hcz] at OR hcl
      obtain ⟨p1, hp1⟩ : ∃ z, P.1.num = z := ⟨_, rfl⟩
      obtain ⟨p2, hp2⟩ : ∃ z, (P.1.den : Int) = z := ⟨_, rfl⟩
      obtain ⟨p3, hp3⟩ : ∃ z, P.2.num = z := ⟨_, rfl⟩
      obtain ⟨p4, hp4⟩ : ∃ z, (P.2.den : Int) = z := ⟨_, rfl⟩
      have HPC : Hid (ptsC [P] = [.int .i64 p1, .int .i64 p2, .int .i64 p3, .int .i64 p4]) := hid (by rw [← hp1, ← hp2, ← hp3, ← hp4]; rfl)
      unfold frQ at OR
      rw [hp1] at x0 OR
      rw [hp2] at x1 OR
      rw [hp3] at x2
      rw [hp4] at x3
      have HCLT := hid hcl
      have bA := alloc_below wr (.cells #[.int .i64 p1, .int .i64 p2, .int .i64 p3, .int .i64 p4] 44)
      have kp := Blk.new wr #[.int .i64 p1, .int .i64 p2, .int .i64 p3, .int .i64 p4] 44
      have kxr : Blk wr w.heap.size #[.int .i64 n, .int .i64 d] 31 := K0.out.below hbel
      have kxA := kxr.below bA
      have HOA := hid (owns_below HO.out bA)
      have hbA := hbel.trans (bA.mono hsr)
      have hsA := Nat.le_trans hsr bA.size
      have y0 := kxA.look 0 rfl
      have y1 := kxA.look 1 rfl
      clear hcl hcz hp1 hp2 hp3 hp4 hP hPe kxr
      go_wp2_with fail
      refine (OR.out _).mono ?_
      rintro r w5 ⟨rfl, hb5⟩
      have kp5 := kp.below hb5
      have HO5 := hid (owns_below HOA.out hb5)
      have hbel5 := hbA.trans (hb5.mono hsA)
      have hs5 := Nat.le_trans hsA hb5.size
      clear OR HOA hb5 hbA hsA kp kxA bA y0 y1 x0 x1 x2 x3
      have y0 := kp5.look 0 rfl
      have y1 := kp5.look 1 rfl
      have y2 := kp5.look 2 rfl
      have y3 := kp5.look 3 rfl
      by_cases hcz : cz < 0
      case pos =>
        have hlt := HCLT.out.1 hcz
        have hfl := take_filter_yes (C := C) (x := x) (i := i) (by rw [HCL.out]; exact hiL) (by rw [HPe.out]; exact hlt)
        rw [HPe.out, HLE.out] at hfl
        have HFL := hid hfl
        clear hfl hlt
        go_wp2_with (first
          | (at_builtin; refine wpList_appH rfl (.tmp 40) (.tmp 42) _ rfl w4.heap.size 44 (.agg #[.int .i64 0, .int .i64 0, .int .i64 0, .int .i64 0]) 4 32 Tryz.underlying22 infoPoint rfl (by decide) 44 _ _ _ rfl HO5.out [.int .i64 p1, .int .i64 p2, .int .i64 p3, .int .i64 p4] _ (by first | rfl | simp) rfl rfl (by simp [Value.oneCell']) (by unfold maxLen; omega) (by omega) (by omega) ?_; intro g5 gcap w6 ho6 hb6 _ _ _))
        go_roundw
        case rel =>
          refine ⟨i + 1, by go_num, by omega, ⟨l ++ [P], HFL.out, by rw [List.length_append]; simp; omega, ?_⟩, hbel5.trans hb6⟩
          rw [List.length_append, ptsC_append, HPC.out]
          exact hid ho6
        case measure => simp [intOf]; omega
      case neg =>
        have hfl := take_filter_no (C := C) (x := x) (i := i) (by rw [HCL.out]; exact hiL) (by rw [HPe.out]; exact fun h => hcz (HCLT.out.2 h))
        rw [HLE.out] at hfl
        have HFL := hid hfl
        clear hfl
        go_wp2
        go_roundw
        case rel => exact ⟨i + 1, by go_num, by omega, ⟨l, HFL.out, by omega, HO5⟩, hbel5⟩
        case measure => simp [intOf]; omega
    case neg =>
      obtain rfl : L = i := by omega
      have hi2 : ¬ (L : Int) < (L : Int) := by omega
      rw [List.take_of_length_le (by rw [HCL.out]; exact Nat.le_refl _)] at HLE
      go_wp2_with fail
      have hkr := CalB.below HKG.out hbel
      have hzr := HZ4.out.below hbel
      have hqr := PsR.below HQ4.out hbel
      have kxr := K0.out.below hbel
      have hBr := HB4.out.trans (hbel.mono HB4.out.size)
      have hd : CalT B wr wr.drew := CalT.of_below (Below.refl wr.heap.size wr).drew
      have tx := fun x : SubT (CalT B) wr.drew => (calT_pre B).trans hd x.b
      have z0 := fun x : SubT (CalT B) wr.drew => (CalT.blk (tx x) kxr (by omega)).look 0 rfl
      have z1 := fun x : SubT (CalT B) wr.drew => (CalT.blk (tx x) kxr (by omega)).look 1 rfl
      clear tx hbel
      refine wp_walkJ (T := CalT B) (calT_pre B) (.rd 0 (.rd 1 (.rd 2 (.rd 3 (.mv 4 (.rd 5 (.mv 6 (.bt 7 (.rd 8 (.inv [])))))))))) (by kernel_rfl) rfl (by kernel_rfl) (by kernel_rfl) ?_
      iterate 4 (refine walkJ_rd rfl (fun K hK => ?_); go_simp; refine hK _ ?_; clear hK K)
      clear z0 z1
      have hkd : CalB wr.drew B true := CalB.below hkr (Below.refl wr.heap.size wr).drew
      have hzd := hzr.below (Below.refl wr.heap.size wr).drew
      have hqd := PsR.below hqr (Below.refl wr.heap.size wr).drew
      (refine walkJ_mv rfl (fun K hK => ?_); go_simp; refine (AT2.out B true _ hqd hzd hkd).mono ?_; rintro e w5 ⟨⟨V, rfl, hf, hv⟩, hk5, ht5⟩; refine ⟨_, rfl, hK _ _ ht5 ?_⟩; clear hK K)
      have tw5 := (calT_pre B).trans hd ht5
      have ho5 := owns_calT tw5 HO.out hBT
      have hB5 := tw5.below hBr (show w.heap.size ≤ B by omega) hBr.size
      have hs5 : w4.heap.size ≤ w5.heap.size := Nat.le_trans hsr tw5.size
      have hpv := HXV.out V
      have HV := hid hv
      unfold frQ
      obtain ⟨m1, hm1⟩ : ∃ z, V.num = z := ⟨_, rfl⟩
      obtain ⟨m2, hm2⟩ : ∃ z, (V.den : Int) = z := ⟨_, rfl⟩
      rw [hm1, hm2] at hpv
      rw [hm1, hm2]
      have HPV := hid hpv
      clear hd hkd hzd hqd AT2 HO ht5 tw5 hkr hzr hqr kxr hBr hv hpv hm1 hm2 hf
      iterate 1 (refine walkJ_rd rfl (fun K hK => ?_); go_simp; refine hK _ ?_; clear hK K)
      (refine walkJ_mv rfl (fun K hK => ?_); go_simp; refine hK _ _ (CalT.of_below (alloc_below _ _)) ?_; clear hK K)
      have kN := Blk.new w5 [Value.int .i64 n, Value.int .i64 d, Value.int .i64 m1, Value.int .i64 m2].toArray 44
      have ba7 := alloc_below w5 (.cells [Value.int .i64 n, Value.int .i64 d, Value.int .i64 m1, Value.int .i64 m2].toArray 44)
      have ho7 := owns_below ho5 ba7
      have hk7 := CalB.below hk5 ba7
      have hB7 := hB5.trans (ba7.mono hB5.size)
      have hs7 := Nat.le_trans hs5 ba7.size
      refine walkJ_bt rfl (fun K hK => ⟨rfl, gives_app (.tmp 45) (.tmp 51) 22 22 rfl rfl w4.heap.size 44 (.agg #[.int .i64 0, .int .i64 0, .int .i64 0, .int .i64 0]) 4 32 Tryz.underlying22 infoPoint rfl (by decide) rfl ho7 [Value.int .i64 n, Value.int .i64 d, Value.int .i64 m1, Value.int .i64 m2] w5.heap.size kN rfl rfl (by simp [Value.oneCell']) (by unfold maxLen; omega) (by omega) (by omega) (fun g8 cap8 w8 ho8 hgr8 hbg8 => hK _ _ ?_)⟩)
      clear hK K
      iterate 1 (refine walkJ_rd rfl (fun K hK => ?_); go_simp; refine hK _ ?_; clear hK K)
      refine walkJ_nil ?_
      have hown : ∀ k, u7.ownBlock = some k → w4.heap.size ≤ k := fun k hk => (ho7.lt k hk).1
      have hk8 : CalB w8 B (calK true (atO C x)) := (World.grownBy.block hgr8 B hk7.lt (fun e => by have := hown B e.symm; omega)).trans hk7
      have hB8 : Below w.heap.size w w8 := hB7.grown hgr8 hB7.size (fun j hj => by have := hown j hj; omega)
      rw [← HPV.out, ← ptsC_append] at ho8
      have hr := SlR.mono (SlR.of_owns ho8) (show w.heap.size ≤ w4.heap.size by omega)
      have c0 := hk8.look 0 rfl
      clear hgr8 ho7 hk7 hB7 ho5 hB5 kN ba7 hk5 ho8
      have HRR := hid hr
      clear hr
      cases hat : atO C x with
      | none =>
        rw [hat] at c0 HAT
        obtain ⟨rfl, rfl⟩ := HX.out HAT.out
        have hlt8 := hk8.lt
        clear HX HY HAT HV hat hk8 HRR
        replace c0 : w8.cell? ⟨B, 0, none⟩ = some (.int .i64 5) := c0
        go_wp2_with fail
        have hd0 := (Below.refl w8.heap.size w8).drew
        have z0 := fun x : SubT (Below w8.heap.size) w8.drew => ((hd0.trans x.b).cell (p := ⟨B, 0, none⟩) hlt8).trans c0
        have hB9 := hB8.trans (hd0.mono hB8.size)
        refine wp_walkJ (T := Below (w8.heap.size)) (belowV_pre _) (.rd 0 (.rd 1 (.rd 2 (.rd 3 (.inv []))))) (by kernel_rfl) rfl (by kernel_rfl) (by kernel_rfl) ?_
        iterate 4 (refine walkJ_rd rfl (fun K hK => ?_); go_simp; refine hK _ ?_; clear hK K)
        clear z0 c0 hd0
        refine walkJ_nil ?_
        go_wp2
        go_ret2
        exact ⟨⟨_, rfl, SlR.nil _ _⟩, hB9⟩
      | some y =>
        rw [hat] at c0 HAT HV
        obtain ⟨rfl, hRR⟩ := HY.out y HAT.out
        obtain rfl : y = V := Option.some.inj (HV.out rfl)
        have hl2 : cutL C x y = l ++ [(x, y)] := by unfold cutL; rw [HLE.out]
        have HRQ := hid (hRR.trans hl2)
        clear HX HY HAT HV hat hk8 hl2 hRR
        replace c0 : w8.cell? ⟨B, 0, none⟩ = some (.int .i64 0) := c0
        go_wp2
        go_ret2
        exact ⟨⟨_, rfl, by rw [HRQ.out]; unfold PsR; rw [List.length_append]; exact HRR.out⟩, hB8⟩

set_option maxHeartbeats 8000000 in
set_option maxRecDepth 100000 in
theorem rCut_any (c : List P4) (n d : Int) (v : Value) (w : World) (h : P4R 0 w v c) :
    Calls Tryz.prog 23 #[v, .agg #[.int .i64 n, .int .i64 d]] w fun r w' => (∃ v', r = .returned (.tuple #[v', .int .i64 (cutE c n d)]) ∧ PsR w.heap.size w' v' (cutR c n d)) ∧ Below w.heap.size w w' := by
  have VA := hid (fun w h => r2Valid_any c v w h)
  have AT := hid (fun w h => rAt_any c n d v w h)
  obtain ⟨ao, cap, rfl, hcap, hmax, hc⟩ := id h
  unfold maxLen at hmax
  obtain ⟨E, hE⟩ : ∃ E, cutE c n d = E := ⟨_, rfl⟩
  obtain ⟨R, hR⟩ : ∃ R, cutR c n d = R := ⟨_, rfl⟩
  rw [hE, hR]
  have HE := hid hE
  have HR := hid hR
  obtain ⟨L, hL⟩ : ∃ L, c.length = L := ⟨_, rfl⟩
  rw [hL] at VA AT hcap h ⊢
  have HL := hid hL
  have k0 := Blk.new w #[.int .i64 n, .int .i64 d] 31
  have b0 := (Below.refl w.heap.size w).alloc (Nat.le_refl _) (.cells #[.int .i64 n, .int .i64 d] 31)
  clear hE hR hL hc
  go_enter Tryz.func23, Tryz.ntmps23
  go_wp2_with fail
  obtain ⟨w0, hw0⟩ : ∃ w0, w.alloc (.cells #[.int .i64 n, .int .i64 d] 31) = w0 := ⟨_, rfl⟩
  rw [hw0] at k0 b0 ⊢
  clear hw0
  have h0 := h.below b0
  refine (VA.out _ h0).mono ?_
  rintro r w1 ⟨rfl, hb1⟩
  have hB := b0.trans (hb1.mono b0.size)
  have k01 := k0.below hb1
  have h1 := h0.below hb1
  clear VA h0 h k0 b0 hb1
  by_cases hrv : RV c
  case neg =>
    rw [decide_eq_false hrv]
    have hno : ¬ cutOK c n d := fun h => hrv h.1
    obtain rfl : 2 = E := by rw [← HE.out]; exact (if_neg hno).symm
    obtain rfl : [] = R := by rw [← HR.out]; exact (if_neg hno).symm
    clear hno HE HR
    go_wp2
    go_ret2
    exact ⟨⟨_, rfl, SlR.nil _ _⟩, hB⟩
  rw [decide_eq_true hrv]
  have HRV := hid hrv
  have c0 := k01.look 0 rfl
  have c1 := k01.look 1 rfl
  clear hrv
  go_wp2_with fail
  refine (Valid_any n d _).mono ?_
  rintro r w2 ⟨rfl, hb2⟩
  replace hB := hB.trans (hb2.mono hB.size)
  have k02 := k01.below hb2
  have h2 := h1.below hb2
  clear k01 h1 hb2 c0 c1
  have x0 := k02.look 0 rfl
  have x1 := k02.look 1 rfl
  by_cases hf1 : FV n d
  case neg =>
    rw [decide_eq_false hf1]
    have hno : ¬ cutOK c n d := fun h => hf1 h.2.1
    obtain rfl : 2 = E := by rw [← HE.out]; exact (if_neg hno).symm
    obtain rfl : [] = R := by rw [← HR.out]; exact (if_neg hno).symm
    clear hno HE HR
    go_wp2
    go_ret2
    exact ⟨⟨_, rfl, SlR.nil _ _⟩, hB⟩
  rw [decide_eq_true hf1]
  have HF1 := hid hf1
  clear hf1
  by_cases hp1 : n ≤ 0
  case pos =>
    have hno : ¬ cutOK c n d := fun h => by have := h.2.2; omega
    have hfx := field_x
    obtain rfl : 2 = E := by rw [← HE.out]; exact (if_neg hno).symm
    obtain rfl : [] = R := by rw [← HR.out]; exact (if_neg hno).symm
    clear hno HE HR
    go_wp2
    go_ret2
    exact ⟨⟨_, rfl, SlR.nil _ _⟩, hB⟩
  have hok : cutOK c n d := ⟨HRV.out, HF1.out, by omega⟩
  have e1 : cutE c n d = oE (atV c n d) := if_pos hok
  have e2 : cutR c n d = (match atV c n d with | some y => cutL (toQ c) (vq (n, d)) y | none => []) := if_pos hok
  have e3 : atE c n d = oE (atV c n d) := if_pos ⟨HRV.out, HF1.out⟩
  have HX : Hid (atV c n d = none → E = 5 ∧ R = []) := hid (fun hh => by rw [← HE.out, ← HR.out, e1, e2, hh]; exact ⟨rfl, rfl⟩)
  have HY : Hid (∀ y, atV c n d = some y → E = 0 ∧ R = cutL (toQ c) (vq (n, d)) y) := hid (fun y hh => by rw [← HE.out, ← HR.out, e1, e2, hh]; exact ⟨rfl, rfl⟩)
  have hq : PsR 0 w2 (.slice ao L cap) (toQ c) := P4R.toQ (h2 : P4R 0 w2 (.slice ao L cap) c) HRV.out
  have hcv := rv_cv HRV.out
  have hlen := toQ_len c
  rw [HL.out] at hlen
  rw [e3] at AT
  have hxf := vq_fits HF1.out
  have hxe := frQ_vq HF1.out
  have HP4 := hid h2
  generalize vq (n, d) = x at HX HY hxf hxe
  generalize toQ c = C at hq hcv hlen HX HY
  generalize atV c n d = o at HX HY AT
  obtain ⟨E4, hE4⟩ : ∃ z, oE o = z := ⟨_, rfl⟩
  obtain ⟨N4, hN4⟩ : ∃ z, oN o = z := ⟨_, rfl⟩
  obtain ⟨D4, hD4⟩ : ∃ z, oD o = z := ⟨_, rfl⟩
  rw [hE4, hN4, hD4] at AT
  have HE4 := hid hE4
  have HN4 := hid hN4
  have HD4 := hid hD4
  clear hE4 hN4 hD4
  have hL2 : 2 ≤ L := by have := hcv.two; omega
  have hL48 : L ≤ 48 := by have := hcv.most; omega
  have CVC := hid hcv
  have HCL := hid hlen
  have HXV : Hid (∀ V : Rat, ptsC [(x, V)] = [.int .i64 n, .int .i64 d, .int .i64 V.num, .int .i64 (V.den : Int)]) := hid (fun V => by
    rw [← (frQ_eq hxe).1, ← (frQ_eq hxe).2]
    rfl)
  have ORD := hid (fun (p : Rat) (hp : fits p) w => rorder_any p x hp hxf w)
  rw [hxe] at ORD
  clear e1 e2 e3 hok hcv hlen h2 hxf hxe HE HR HRV HF1
  have hfx := field_x
  go_wp2_with fail
  clear hfx x0 x1
  refine (AT.out _ HP4.out).mono ?_
  rintro r w3 ⟨rfl, hb3⟩
  replace hB := hB.trans (hb3.mono hB.size)
  have k03 := k02.below hb3
  have q3 := hq.below hb3
  clear AT HP4 k02 hq hb3
  have ba := alloc_below w3 (.cells #[.int .i64 N4, .int .i64 D4] 31)
  cases o with
  | none =>
    obtain ⟨rfl, rfl⟩ := HX.out rfl
    obtain rfl : 5 = E4 := HE4.out
    have hB4 := hB.trans (ba.mono hB.size)
    clear HX HY HE4 HN4 HD4 ba
    go_wp2
    go_ret2
    exact ⟨⟨_, rfl, SlR.nil _ _⟩, hB4⟩
  | some y =>
    obtain ⟨rfl, hRR⟩ := HY.out y rfl
    obtain rfl : 0 = E4 := HE4.out
    have HRR := hid hRR
    have hpv := HXV.out y
    rw [show y.num = N4 from HN4.out, show (y.den : Int) = D4 from HD4.out] at hpv
    have HPV := hid hpv
    clear HX HY HE4 HN4 HD4 hRR hpv
    obtain ⟨ao2, cap2, he2, -, -, hcc⟩ := id q3
    obtain ⟨rfl, -⟩ : ao2 = ao ∧ True := by
      injection he2 with g1 g2 g3
      exact ⟨g1.symm, trivial⟩
    obtain ⟨b, off, rfl, hb, -, -, -, -⟩ := p_cell hcc (show 0 < C.length by rw [HCL.out]; omega)
    have K6 := hid (Blk.new w3 #[.int .i64 N4, .int .i64 D4] 31)
    have HQ4 := hid (q3.below ba)
    have K0 := hid (k03.below ba)
    have HB4 := hid (hB.trans (ba.mono hB.size))
    have hb4 := Nat.lt_of_lt_of_le hb ba.size
    clear he2
    go_wp2_with fail
    obtain ⟨g6, hg6⟩ : ∃ g, w3.heap.size = g := ⟨_, rfl⟩
    obtain ⟨w4, hw4⟩ : ∃ w4, w3.alloc (.cells #[.int .i64 N4, .int .i64 D4] 31) = w4 := ⟨_, rfl⟩
    rw [hw4] at K6 HQ4 K0 HB4 hb4
    rw [hg6] at K6
    have hcc4 : CellsOf 0 w4 (some ⟨b, off, none⟩) (ptsC C) := by
      obtain ⟨_, _, he9, _, _, hc9⟩ := HQ4.out
      cases he9
      exact hc9
    have HCC := hid hcc4
    clear hcc k03 hB q3 ba hcc4 hb
    rw [hw4, hg6]
    clear hw4 hg6 w3
    go_loopw [8, 35] (fun y z wr => ∃ i : Nat, z = .int .i64 i ∧ i ≤ L ∧ (∃ l, aheadL (C.take i) x = l ∧ l.length ≤ i ∧ Hid (wr.ownsRow w4.heap.size 44 4 y l.length (ptsC l))) ∧ Below w4.heap.size w4 wr) (fun _ z _ => L - (intOf z).toNat)
    case atStart => exact ⟨0, rfl, Nat.zero_le _, ⟨[], rfl, Nat.le_refl _, hid (World.ownsRow_nil _ _ _ _)⟩, Below.refl _ _⟩
    case round =>
      obtain ⟨i, rfl, hi, ⟨l, hle, hll, HO⟩, hbel⟩ := hrel
      have hsr := hbel.size
      have HLE := hid hle
      clear hle
      by_cases hiL : i < L
      case pos =>
        have hi2 : (i : Int) < (L : Int) := by omega
        obtain ⟨b', off', he, hb', x0, x1, x2, x3⟩ := p_cell HCC.out (show i < C.length by rw [HCL.out]; exact hiL)
        cases he
        replace x0 := (hbel.cell (p := ⟨b, off + i * 4, none⟩) hb4).trans x0
        replace x1 := (hbel.cell (p := ⟨b, off + i * 4 + 1, none⟩) hb4).trans x1
        replace x2 := (hbel.cell (p := ⟨b, off + i * 4 + 2, none⟩) hb4).trans x2
        replace x3 := (hbel.cell (p := ⟨b, off + i * 4 + 3, none⟩) hb4).trans x3
        have hP := CVC.out.fit i (by rw [HCL.out]; exact hiL)
        obtain ⟨P, hPe⟩ : ∃ P, C.getD i (0, 0) = P := ⟨_, rfl⟩
        rw [hPe] at x0 x1 x2 x3 hP
        have HPe := hid hPe
        have OR := hid (fun w => ORD.out P.1 hP.1 w)
        have hcl := cmpQ_lt P.1 x
        obtain ⟨cz, hcz⟩ : ∃ z, cmpQ P.1 x = z := ⟨_, rfl⟩
        rw [hcz] at OR hcl
        obtain ⟨p1, hp1⟩ : ∃ z, P.1.num = z := ⟨_, rfl⟩
        obtain ⟨p2, hp2⟩ : ∃ z, (P.1.den : Int) = z := ⟨_, rfl⟩
        obtain ⟨p3, hp3⟩ : ∃ z, P.2.num = z := ⟨_, rfl⟩
        obtain ⟨p4, hp4⟩ : ∃ z, (P.2.den : Int) = z := ⟨_, rfl⟩
        have HPC : Hid (ptsC [P] = [.int .i64 p1, .int .i64 p2, .int .i64 p3, .int .i64 p4]) := hid (by rw [← hp1, ← hp2, ← hp3, ← hp4]; rfl)
        unfold frQ at OR
        rw [hp1] at x0 OR
        rw [hp2] at x1 OR
        rw [hp3] at x2
        rw [hp4] at x3
        have HCLT := hid hcl
        have bA := alloc_below wr (.cells #[.int .i64 p1, .int .i64 p2, .int .i64 p3, .int .i64 p4] 44)
        have kp := Blk.new wr #[.int .i64 p1, .int .i64 p2, .int .i64 p3, .int .i64 p4] 44
        have kxr : Blk wr w.heap.size #[.int .i64 n, .int .i64 d] 31 := K0.out.below hbel
        have kxA := kxr.below bA
        have HOA := hid (owns_below HO.out bA)
        have hbA := hbel.trans (bA.mono hsr)
        have hsA := Nat.le_trans hsr bA.size
        have y0 := kxA.look 0 rfl
        have y1 := kxA.look 1 rfl
        clear hcl hcz hp1 hp2 hp3 hp4 hP hPe kxr
        go_wp2_with fail
        refine (OR.out _).mono ?_
        rintro r w5 ⟨rfl, hb5⟩
        have kp5 := kp.below hb5
        have HO5 := hid (owns_below HOA.out hb5)
        have hbel5 := hbA.trans (hb5.mono hsA)
        have hs5 := Nat.le_trans hsA hb5.size
        clear OR HOA hb5 hbA hsA kp kxA bA y0 y1 x0 x1 x2 x3
        have y0 := kp5.look 0 rfl
        have y1 := kp5.look 1 rfl
        have y2 := kp5.look 2 rfl
        have y3 := kp5.look 3 rfl
        by_cases hcz : cz < 0
        case pos =>
          have hlt := HCLT.out.1 hcz
          have hfl := take_filter_yes (C := C) (x := x) (i := i) (by rw [HCL.out]; exact hiL) (by rw [HPe.out]; exact hlt)
          rw [HPe.out, HLE.out] at hfl
          have HFL := hid hfl
          clear hfl hlt
          go_wp2_with (first
            | (at_builtin; refine wpList_appH rfl (.tmp 44) (.tmp 46) _ rfl w4.heap.size 44 (.agg #[.int .i64 0, .int .i64 0, .int .i64 0, .int .i64 0]) 4 32 Tryz.underlying22 infoPoint rfl (by decide) 44 _ _ _ rfl HO5.out [.int .i64 p1, .int .i64 p2, .int .i64 p3, .int .i64 p4] _ (by first | rfl | simp) rfl rfl (by simp [Value.oneCell']) (by unfold maxLen; omega) (by omega) (by omega) ?_; intro g5 gcap w6 ho6 hb6 _ _ _))
          go_roundw
          case rel =>
            refine ⟨i + 1, by go_num, by omega, ⟨l ++ [P], HFL.out, by rw [List.length_append]; simp; omega, ?_⟩, hbel5.trans hb6⟩
            rw [List.length_append, ptsC_append, HPC.out]
            exact hid ho6
          case measure => simp [intOf]; omega
        case neg =>
          have hfl := take_filter_no (C := C) (x := x) (i := i) (by rw [HCL.out]; exact hiL) (by rw [HPe.out]; exact fun h => hcz (HCLT.out.2 h))
          rw [HLE.out] at hfl
          have HFL := hid hfl
          clear hfl
          go_wp2
          go_roundw
          case rel => exact ⟨i + 1, by go_num, by omega, ⟨l, HFL.out, by omega, HO5⟩, hbel5⟩
          case measure => simp [intOf]; omega
      case neg =>
        obtain rfl : L = i := by omega
        have hi2 : ¬ (L : Int) < (L : Int) := by omega
        rw [List.take_of_length_le (by rw [HCL.out]; exact Nat.le_refl _)] at HLE
        have kxr := K0.out.below hbel
        have k6r := K6.out.below hbel
        have hBr := HB4.out.trans (hbel.mono HB4.out.size)
        have y0 := kxr.look 0 rfl
        have y1 := kxr.look 1 rfl
        have y2 := k6r.look 0 rfl
        have y3 := k6r.look 1 rfl
        have hsw : w.heap.size ≤ w4.heap.size := HB4.out.size
        clear hbel kxr k6r
        go_wp2_with (first
          | (at_builtin; refine wpList_appH rfl (.tmp 49) (.tmp 53) _ rfl w4.heap.size 44 (.agg #[.int .i64 0, .int .i64 0, .int .i64 0, .int .i64 0]) 4 32 Tryz.underlying22 infoPoint rfl (by decide) 44 _ _ _ rfl HO.out [.int .i64 n, .int .i64 d, .int .i64 N4, .int .i64 D4] _ (by first | rfl | simp) rfl rfl (by simp [Value.oneCell']) (by unfold maxLen; omega) (by omega) (by omega) ?_; intro g5 gcap w6 ho6 hb6 _ _ _))
        have hB6 := hBr.trans (hb6.mono hsw)
        have hr := SlR.mono (SlR.of_owns (by rw [← HPV.out, ← ptsC_append] at ho6; exact ho6)) hsw
        have HR6 := hid hr
        clear hr ho6 hb6 y0 y1 y2 y3 HO
        go_wp2
        go_ret2
        exact ⟨⟨_, rfl, by rw [HRR.out]; unfold cutL PsR; rw [HLE.out, List.length_append]; exact HR6.out⟩, hB6⟩

end Go.Proofs.YtfkclcoipadhmaaGreatDoor
