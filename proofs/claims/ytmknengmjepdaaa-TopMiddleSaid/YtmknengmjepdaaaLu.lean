/- Walk of tranktop.TopMiddle. -/
import Derived.Test.YtmknengmjepdaaaLt
import Derived.Test.YtmknengmjepdaaaFi
import Derived.Test.YtmknengmjepdaaaYw
import Derived.Test.YtmknengmjepdaaaKx
import Derived.Test.YtmknengmjepdaaaJx
namespace Go.Proofs.Ytmknengmjepdaaa
open Go.RowKit
attribute [local irreducible] seqS seqST walkV walkJ

set_option maxHeartbeats 8000000 in
set_option maxRecDepth 100000 in
theorem TopMiddle_any (p : Pat) (n1 d1 n2 d2 : Int) (v : Value) (w : World) (h : PatF 0 w v p) :
    Calls Try.prog 13 #[v, .agg #[.int .i64 n1, .int .i64 d1], .agg #[.int .i64 n2, .int .i64 d2]] w fun e w' => e = .returned (.bool true) ∧ Below w.heap.size w w' := by
  obtain ⟨sv, rfl, -⟩ := id h
  have GL1 := hid (fun v w hv => Least_any (p71 p) n1 d1 v w hv)
  have GL2 := hid (fun v w hv => Least_any (p71 p) n2 d2 v w hv)
  rw [rLeastE71, rLeastL71] at GL1 GL2
  obtain ⟨L1, hL1⟩ : ∃ b, rLeastL p n1 d1 = b := ⟨_, rfl⟩
  obtain ⟨E1, hE1⟩ : ∃ b, rLeastE p n1 d1 = b := ⟨_, rfl⟩
  obtain ⟨L2, hL2⟩ : ∃ b, rLeastL p n2 d2 = b := ⟨_, rfl⟩
  obtain ⟨E2, hE2⟩ : ∃ b, rLeastE p n2 d2 = b := ⟨_, rfl⟩
  rw [hL1, hE1] at GL1
  rw [hL2, hE2] at GL2
  have HL1 := hid hL1
  have HE1 := hid hE1
  have HL2 := hid hL2
  have HE2 := hid hE2
  clear hL1 hE1 hL2 hE2
  go_enter Try.func13, Try.ntmps13
  go_wp2_with fail
  obtain ⟨w0, hw0, k0, k1, k2, hB, hsz⟩ := three_new w #[.int .i64 p.n, sv] #[.int .i64 n1, .int .i64 d1] #[.int .i64 n2, .int .i64 d2] 24 26 26
  rw [hw0]
  clear hw0
  have h0 := h.below hB
  have hd := (Below.refl w0.heap.size w0).drew
  have z0 := fun x : SubT (Below w0.heap.size) w0.drew => (k0.below (hd.trans x.b)).look 0 rfl
  have z1 := fun x : SubT (Below w0.heap.size) w0.drew => (k0.below (hd.trans x.b)).look 1 rfl
  have z2 := fun x : SubT (Below w0.heap.size) w0.drew => (k1.below (hd.trans x.b)).look 0 rfl
  have z3 := fun x : SubT (Below w0.heap.size) w0.drew => (k1.below (hd.trans x.b)).look 1 rfl
  refine wp_walkJ (T := Below (w0.heap.size)) (belowV_pre _) (.rd 0 (.rd 2 (.mv 1 (.bt 3 (.rd 4 (.rd 5 (.rd 6 (.rd 7 (.rd 8 (.inv [])))))))))) (by kernel_rfl) rfl (by kernel_rfl) (by kernel_rfl) ?_
  iterate 2 (refine walkJ_rd rfl (fun K hK => ?_); go_simp; refine hK _ ?_; clear hK K)
  clear z0 z1 z2 z3
  (refine walkJ_mv rfl (fun K hK => ?_); go_simp; refine (tpattern_any p _ _ (h0.below hd)).mono ?_; rintro e w1 ⟨v1, rfl, hv1, hb1⟩; refine ⟨_, rfl, hK _ _ hb1 ?_⟩; clear hK K)
  (refine walkJ_bt rfl (fun K hK => ?_); go_simp; refine (GL1.out _ _ (hv1.mono (Nat.zero_le _))).mono ?_; rintro e w2 ⟨⟨vl1, rfl, hvl1⟩, hb2⟩; refine ⟨_, rfl, hK _ _ ?_⟩; clear hK K)
  iterate 5 (refine walkJ_rd rfl (fun K hK => ?_); go_simp; refine hK _ ?_; clear hK K)
  refine walkJ_nil ?_
  have hB2 : Below w0.heap.size w0 w2 := hd.trans (Below.trans hb1 (hb2.mono hb1.size))
  have k02 := k0.below hB2
  have k12 := k1.below hB2
  have k22 := k2.below hB2
  have h2 := h0.below hB2
  have HV1 := hid (show FrsR 0 w2 vl1 L1 from SlR.mono hvl1 (Nat.zero_le _))
  have hB2w : Below w.heap.size w w2 := hB.trans (hB2.mono hB.size)
  clear hd hb1 hb2 hv1 h0 hB2 k0 k1 k2 hB h hvl1
  go_wp2_with fail
  have hd := (Below.refl w2.heap.size w2).drew
  have z0 := fun x : SubT (Below w2.heap.size) w2.drew => (k02.below (hd.trans x.b)).look 0 rfl
  have z1 := fun x : SubT (Below w2.heap.size) w2.drew => (k02.below (hd.trans x.b)).look 1 rfl
  have z2 := fun x : SubT (Below w2.heap.size) w2.drew => (k22.below (hd.trans x.b)).look 0 rfl
  have z3 := fun x : SubT (Below w2.heap.size) w2.drew => (k22.below (hd.trans x.b)).look 1 rfl
  refine wp_walkJ (T := Below (w2.heap.size)) (belowV_pre _) (.rd 0 (.rd 2 (.mv 1 (.bt 3 (.rd 4 (.rd 5 (.rd 6 (.rd 7 (.rd 8 (.inv [])))))))))) (by kernel_rfl) rfl (by kernel_rfl) (by kernel_rfl) ?_
  iterate 2 (refine walkJ_rd rfl (fun K hK => ?_); go_simp; refine hK _ ?_; clear hK K)
  clear z0 z1 z2 z3
  (refine walkJ_mv rfl (fun K hK => ?_); go_simp; refine (tpattern_any p _ _ (h2.below hd)).mono ?_; rintro e w3 ⟨v1, rfl, hv1, hb1⟩; refine ⟨_, rfl, hK _ _ hb1 ?_⟩; clear hK K)
  (refine walkJ_bt rfl (fun K hK => ?_); go_simp; refine (GL2.out _ _ (hv1.mono (Nat.zero_le _))).mono ?_; rintro e w4 ⟨⟨vl2, rfl, hvl2⟩, hb2⟩; refine ⟨_, rfl, hK _ _ ?_⟩; clear hK K)
  iterate 5 (refine walkJ_rd rfl (fun K hK => ?_); go_simp; refine hK _ ?_; clear hK K)
  refine walkJ_nil ?_
  have hB4 : Below w2.heap.size w2 w4 := hd.trans (Below.trans hb1 (hb2.mono hb1.size))
  have k04 := k02.below hB4
  have k14 := k12.below hB4
  have k24 := k22.below hB4
  have h4 := h2.below hB4
  have HV14 := hid (HV1.out.below hB4)
  have HV24 := hid (show FrsR 0 w4 vl2 L2 from SlR.mono hvl2 (Nat.zero_le _))
  have hB4w : Below w.heap.size w w4 := hB2w.trans (hB4.mono hB2w.size)
  clear hd hb1 hb2 hv1 h2 hB4 k02 k12 k22 hB2w hvl2 HV1
  have c0 := k14.look 0 rfl
  have c1 := k14.look 1 rfl
  have c2 := k24.look 0 rfl
  have c3 := k24.look 1 rfl
  have kA := (Blk.new w4 #[.int .i64 n1, .int .i64 d1, .int .i64 n2, .int .i64 d2] 26).alloc (.cells #[.int .i64 1, .int .i64 1] 3)
  have kB := Blk.new (w4.alloc (.cells #[.int .i64 n1, .int .i64 d1, .int .i64 n2, .int .i64 d2] 26)) #[.int .i64 1, .int .i64 1] 3
  have hbB := (alloc_below w4 (.cells #[.int .i64 n1, .int .i64 d1, .int .i64 n2, .int .i64 d2] 26)).alloc (by simp) (.cells #[.int .i64 1, .int .i64 1] 3)
  rw [World.size_alloc] at kB
  go_wp2_with fail
  obtain ⟨W4, hW4⟩ : ∃ W4, (w4.alloc (.cells #[.int .i64 n1, .int .i64 d1, .int .i64 n2, .int .i64 d2] 26)).alloc (.cells #[.int .i64 1, .int .i64 1] 3) = W4 := ⟨_, rfl⟩
  rw [hW4] at kA kB hbB ⊢
  refine (Blend_any n1 d1 n2 d2 _ _ W4 (two_frs kA) (slR_blk (n := 2) kB (Nat.zero_le _) (by decide) rfl)).mono ?_
  rintro r w5 ⟨⟨x, y, z, rfl, hz⟩, hb5⟩
  have hb45 := hbB.trans (hb5.mono hbB.size)
  have ba := alloc_below w5 (.cells #[.int .i64 x, .int .i64 y] 26)
  have hb46 := hb45.trans (ba.mono hb45.size)
  have kS := Blk.new w5 #[.int .i64 x, .int .i64 y] 26
  have k05 := k04.below hb46
  have k15 := k14.below hb46
  have k25 := k24.below hb46
  have h5 := h4.below hb46
  have HV15 := hid (HV14.out.below hb46)
  have HV25 := hid (HV24.out.below hb46)
  have hB := hB4w.trans (hb46.mono hB4w.size)
  clear c0 c1 c2 c3 kA kB hbB hW4 hb5 hb45 ba hb46 k04 k14 k24 h4 HV14 HV24 hB4w
  unfold frV
  have HZ := hid hz
  clear hz
  by_cases hE1 : E1 = 0
  case neg =>
    have HE := hid hE1
    go_wp2_with fail
    refine (graded_any _).mono ?_
    rintro e wz ⟨rfl, hbz⟩
    go_wp2
    go_ret
    exact ⟨rfl, hB.trans (hbz.mono hB.size)⟩
  by_cases hE2 : E2 = 0
  case neg =>
    have HE := hid hE2
    go_wp2_with fail
    refine (graded_any _).mono ?_
    rintro e wz ⟨rfl, hbz⟩
    go_wp2
    go_ret
    exact ⟨rfl, hB.trans (hbz.mono hB.size)⟩
  by_cases hz0 : z = 0
  case neg =>
    have HE := hid hz0
    go_wp2_with fail
    refine (graded_any _).mono ?_
    rintro e wz ⟨rfl, hbz⟩
    go_wp2
    go_ret
    exact ⟨rfl, hB.trans (hbz.mono hB.size)⟩
  obtain ⟨hp, hs1, hb1⟩ := leastE_zero (HE1.out.trans hE1)
  obtain ⟨-, hs2, hb2⟩ := leastE_zero (HE2.out.trans hE2)
  have hzz := HZ.out hz0
  have HP := hid hp
  have HF1 := hid hs1
  have HF2 := hid hs2
  have HG1 := hid hb1
  have HG2 := hid hb2
  have HMID := hid hzz.2.2.2
  have e1 : rLeastL p n1 d1 = leastL p n1 d1 := by unfold rLeastL; rw [HE1.out, hE1]; rfl
  have e2 : rLeastL p n2 d2 = leastL p n2 d2 := by unfold rLeastL; rw [HE2.out, hE2]; rfl
  have HLL1 := hid (HL1.out.symm.trans e1)
  have HLL2 := hid (HL2.out.symm.trans e2)
  clear hp hs1 hb1 hs2 hb2 hzz e1 e2
  subst hE1 hE2 hz0
  have c0 := k05.look 0 rfl
  have c1 := k05.look 1 rfl
  have c2 := k15.look 0 rfl
  have c3 := k15.look 1 rfl
  go_wp2_with fail
  obtain ⟨W5, hW5⟩ : ∃ W5, w5.alloc (.cells #[.int .i64 x, .int .i64 y] 26) = W5 := ⟨_, rfl⟩
  obtain ⟨S5, hS5⟩ : ∃ S5, w5.heap.size = S5 := ⟨_, rfl⟩
  rw [hW5] at kS k05 k15 k25 h5 HV15 HV25 hB ⊢
  rw [hS5] at kS ⊢
  clear hW5 hS5 c0 c1 c2 c3
  refine (Good_any p n1 d1 _ _ h5).mono ?_
  rintro e w6 ⟨rfl, hb6⟩
  rw [decide_eq_true HP.out, decide_eq_true HF1.out, Bool.and_self]
  replace hB := hB.trans (hb6.mono hB.size)
  replace kS := kS.below hb6
  replace k05 := k05.below hb6
  replace k25 := k25.below hb6
  replace h5 := h5.below hb6
  replace HV15 := hid (HV15.out.below hb6)
  replace HV25 := hid (HV25.out.below hb6)
  clear hb6 k15
  have c0 := k05.look 0 rfl
  have c1 := k05.look 1 rfl
  have c2 := k25.look 0 rfl
  have c3 := k25.look 1 rfl
  go_wp2_with fail
  refine (Good_any p n2 d2 _ _ h5).mono ?_
  rintro e w7 ⟨rfl, hb6⟩
  rw [decide_eq_true HP.out, decide_eq_true HF2.out, Bool.and_self]
  replace hB := hB.trans (hb6.mono hB.size)
  replace kS := kS.below hb6
  replace k05 := k05.below hb6
  replace h5 := h5.below hb6
  replace HV15 := hid (HV15.out.below hb6)
  replace HV25 := hid (HV25.out.below hb6)
  clear hb6 k25 c0 c1 c2 c3
  have c0 := kS.look 0 rfl
  have c1 := kS.look 1 rfl
  go_wp2_with fail
  refine (Size_any x y _).mono ?_
  rintro e w8 ⟨rfl, hb6⟩
  replace hB := hB.trans (hb6.mono hB.size)
  replace kS := kS.below hb6
  replace k05 := k05.below hb6
  replace h5 := h5.below hb6
  replace HV15 := hid (HV15.out.below hb6)
  replace HV25 := hid (HV25.out.below hb6)
  clear hb6 c0 c1
  by_cases hs3 : FSize x y
  case neg =>
    rw [decide_eq_false hs3]
    clear hs3
    go_wp2_with fail
    refine (graded_any _).mono ?_
    rintro e wz ⟨rfl, hbz⟩
    go_wp2
    go_ret
    exact ⟨rfl, hB.trans (hbz.mono hB.size)⟩
  rw [decide_eq_true hs3]
  have hb3 := mid_good HP.out HF1.out HF2.out hs3 HG1.out HG2.out HMID.out
  have hE3 : rLeastE p x y = 0 := by rw [leastE_of HP.out hs3, hb3]; rfl
  have GL3 := hid (fun v w hv => Least_any (p71 p) x y v w hv)
  rw [rLeastE71, rLeastL71, hE3, show rLeastL p x y = leastL p x y by unfold rLeastL; rw [hE3]; rfl] at GL3
  have HF3 := hid hs3
  have HG3 := hid hb3
  clear hs3 hb3 hE3
  go_wp2_with fail
  have hd := (Below.refl w8.heap.size w8).drew
  have z0 := fun x : SubT (Below w8.heap.size) w8.drew => (k05.below (hd.trans x.b)).look 0 rfl
  have z1 := fun x : SubT (Below w8.heap.size) w8.drew => (k05.below (hd.trans x.b)).look 1 rfl
  have z2 := fun x : SubT (Below w8.heap.size) w8.drew => (kS.below (hd.trans x.b)).look 0 rfl
  have z3 := fun x : SubT (Below w8.heap.size) w8.drew => (kS.below (hd.trans x.b)).look 1 rfl
  refine wp_walkJ (T := Below (w8.heap.size)) (belowV_pre _) (.rd 0 (.rd 2 (.mv 1 (.bt 3 (.rd 4 (.rd 5 (.rd 6 (.rd 7 (.rd 8 (.inv [])))))))))) (by kernel_rfl) rfl (by kernel_rfl) (by kernel_rfl) ?_
  iterate 2 (refine walkJ_rd rfl (fun K hK => ?_); go_simp; refine hK _ ?_; clear hK K)
  clear z0 z1 z2 z3
  (refine walkJ_mv rfl (fun K hK => ?_); go_simp; refine (tpattern_any p _ _ (h5.below hd)).mono ?_; rintro e w9 ⟨v1, rfl, hv1, hb1⟩; refine ⟨_, rfl, hK _ _ hb1 ?_⟩; clear hK K)
  (refine walkJ_bt rfl (fun K hK => ?_); go_simp; refine (GL3.out _ _ (hv1.mono (Nat.zero_le _))).mono ?_; rintro e w10 ⟨⟨vl3, rfl, hvl3⟩, hb2⟩; refine ⟨_, rfl, hK _ _ ?_⟩; clear hK K)
  iterate 5 (refine walkJ_rd rfl (fun K hK => ?_); go_simp; refine hK _ ?_; clear hK K)
  refine walkJ_nil ?_
  have hB10 : Below w8.heap.size w8 w10 := hd.trans (Below.trans hb1 (hb2.mono hb1.size))
  replace hB := hB.trans (hB10.mono hB.size)
  replace k05 := k05.below hB10
  replace HV15 := hid (HV15.out.below hB10)
  replace HV25 := hid (HV25.out.below hB10)
  have HV35 := hid (show FrsR 0 w10 vl3 (leastL p x y) from SlR.mono hvl3 (Nat.zero_le _))
  clear hd hb1 hb2 hv1 h5 hB10 hvl3 kS
  obtain ⟨M, hM⟩ : ∃ M, p.n.toNat = M := ⟨_, rfl⟩
  have hMn : (M : Int) = p.n := by rw [← hM]; have := HP.out.1; omega
  have hM16 : M ≤ 16 := by have := HP.out.2.1; omega
  have HM := hid hM
  have l1 : L1.length = M := by rw [HLL1.out, least_len, hM]
  have l2 : L2.length = M := by rw [HLL2.out, least_len, hM]
  have l3 : (leastL p x y).length = M := by rw [least_len, hM]
  have A1 : ∀ f ∈ L1, FV f.1 f.2 := by rw [HLL1.out]; exact (least_asg HP.out HF1.out HG1.out).2
  have A2 : ∀ f ∈ L2, FV f.1 f.2 := by rw [HLL2.out]; exact (least_asg HP.out HF2.out HG2.out).2
  have A3 : ∀ f ∈ leastL p x y, FV f.1 f.2 := (least_asg HP.out HF3.out HG3.out).2
  have HA1 := hid A1
  have HA2 := hid A2
  have HA3 := hid A3
  obtain ⟨L3, hL3⟩ : ∃ b, leastL p x y = b := ⟨_, rfl⟩
  rw [hL3] at l3 HA3 HV35
  have HLL3 := hid hL3.symm
  have HN1 := hid l1
  have HN2 := hid l2
  have HN3 := hid l3
  obtain ⟨ax1, cx1, rfl, hc1, hm1, hl1⟩ := id HV15.out
  obtain ⟨ax2, cx2, rfl, hc2, hm2, hl2⟩ := id HV25.out
  obtain ⟨ax3, cx3, rfl, hc3, hm3, hl3⟩ := id HV35.out
  unfold maxLen at hm1 hm2 hm3
  rw [l1] at hc1 HV15 ⊢
  rw [l2] at hc2 HV25 ⊢
  rw [l3] at hc3 HV35 ⊢
  have HC1 := hid hl1
  have HC2 := hid hl2
  have HC3 := hid hl3
  clear hM A1 A2 A3 hL3 l1 l2 l3 hl1 hl2 hl3
  have c0 := k05.look 0 rfl
  rw [← hMn] at c0
  go_wp2_with fail
  refine (All1_any L3 _ _ HV35.out).mono ?_
  rintro e w11 ⟨rfl, hb6⟩
  rw [decide_eq_true HA3.out]
  replace hB := hB.trans (hb6.mono hB.size)
  replace HV15 := hid (HV15.out.below hb6)
  replace HV25 := hid (HV25.out.below hb6)
  replace HC1 := hid (HC1.out.below hb6)
  replace HC2 := hid (HC2.out.below hb6)
  replace HC3 := hid (HC3.out.below hb6)
  clear hb6 HV35 c0 k05
  go_wp2_with fail
  refine (All1_any L1 _ _ HV15.out).mono ?_
  rintro e w12 ⟨rfl, hb6⟩
  rw [decide_eq_true HA1.out]
  replace hB := hB.trans (hb6.mono hB.size)
  replace HV25 := hid (HV25.out.below hb6)
  replace HC1 := hid (HC1.out.below hb6)
  replace HC2 := hid (HC2.out.below hb6)
  replace HC3 := hid (HC3.out.below hb6)
  clear hb6 HV15
  go_wp2_with fail
  refine (All1_any L2 _ _ HV25.out).mono ?_
  rintro e w13 ⟨rfl, hb6⟩
  rw [decide_eq_true HA2.out]
  replace hB := hB.trans (hb6.mono hB.size)
  replace HC1 := hid (HC1.out.below hb6)
  replace HC2 := hid (HC2.out.below hb6)
  replace HC3 := hid (HC3.out.below hb6)
  clear hb6 HV25
  go_wp2_with fail
  have hB0 := hB
  clear hB
  go_loopw [112] (fun x wr => ∃ i : Nat, x = .int .i64 i ∧ i ≤ M ∧ Below w13.heap.size w13 wr) (fun x _ => M - (intOf x).toNat)
  case atStart => exact ⟨0, rfl, Nat.zero_le _, Below.refl _ _⟩
  case round =>
    obtain ⟨i, rfl, hi, hbel⟩ := hrel
    have hB := hB0.trans (hbel.mono hB0.size)
    by_cases hiM : i < M
    · have hiM2 : (i : Int) < (M : Int) := by omega
      have hle := mid_le HP.out HF1.out HF2.out HF3.out HG1.out HG2.out HG3.out HMID.out (v := i) (by rw [HM.out]; exact hiM)
      rw [← least_getD (by rw [HM.out]; exact hiM), ← least_getD (by rw [HM.out]; exact hiM), ← least_getD (by rw [HM.out]; exact hiM), ← HLL1.out, ← HLL2.out, ← HLL3.out] at hle
      have f1 := HA1.out _ (getD_mem' (show i < L1.length by rw [HN1.out]; exact hiM))
      have f2 := HA2.out _ (getD_mem' (show i < L2.length by rw [HN2.out]; exact hiM))
      have f3 := HA3.out _ (getD_mem' (show i < L3.length by rw [HN3.out]; exact hiM))
      obtain ⟨b1, o1, rfl, hb1, p1, q1⟩ := fr_cell HC1.out (show i < L1.length by rw [HN1.out]; exact hiM)
      obtain ⟨b2, o2, rfl, hb2, p2, q2⟩ := fr_cell HC2.out (show i < L2.length by rw [HN2.out]; exact hiM)
      obtain ⟨b3, o3, rfl, hb3, p3, q3⟩ := fr_cell HC3.out (show i < L3.length by rw [HN3.out]; exact hiM)
      generalize (L1.getD i (0, 0)).1 = u1 at *
      generalize (L1.getD i (0, 0)).2 = t1 at *
      generalize (L2.getD i (0, 0)).1 = u2 at *
      generalize (L2.getD i (0, 0)).2 = t2 at *
      generalize (L3.getD i (0, 0)).1 = u3 at *
      generalize (L3.getD i (0, 0)).2 = t3 at *
      have HSG := hid (mid_sgn hle)
      have X1 := hid f1
      have X2 := hid f2
      have X3 := hid f3
      have S2 := hid ((int_size (z := 2) (by decide) (by decide)).mono (k' := 268435456) (by decide))
      have SA := hid ((QS_mul ((int_size (z := 2) (by decide) (by decide)).mono (k' := 4) (by decide)) (qs_fr f3)).mono (k' := 268435456) (by decide))
      have SB := hid ((QS_add (qs_fr f1) (qs_fr f2)).mono (k' := 268435456) (by decide))
      clear hle f1 f2 f3
      go_wp2_with fail
      have hd := (Below.refl wr.heap.size wr).drew
      have z0 := fun x : SubT (Below wr.heap.size) wr.drew => ((hbel.trans ((hd.trans x.b).mono hbel.size)).cell (p := ⟨b1, o1 + i * 2, none⟩) hb1).trans p1
      have z1 := fun x : SubT (Below wr.heap.size) wr.drew => ((hbel.trans ((hd.trans x.b).mono hbel.size)).cell (p := ⟨b1, o1 + i * 2 + 1, none⟩) hb1).trans q1
      have z2 := fun x : SubT (Below wr.heap.size) wr.drew => ((hbel.trans ((hd.trans x.b).mono hbel.size)).cell (p := ⟨b2, o2 + i * 2, none⟩) hb2).trans p2
      have z3 := fun x : SubT (Below wr.heap.size) wr.drew => ((hbel.trans ((hd.trans x.b).mono hbel.size)).cell (p := ⟨b2, o2 + i * 2 + 1, none⟩) hb2).trans q2
      have z4 := fun x : SubT (Below wr.heap.size) wr.drew => ((hbel.trans ((hd.trans x.b).mono hbel.size)).cell (p := ⟨b3, o3 + i * 2, none⟩) hb3).trans p3
      have z5 := fun x : SubT (Below wr.heap.size) wr.drew => ((hbel.trans ((hd.trans x.b).mono hbel.size)).cell (p := ⟨b3, o3 + i * 2 + 1, none⟩) hb3).trans q3
      refine wp_walkJ (T := Below (wr.heap.size)) (belowV_pre _) (.rd 1 (.rd 2 (.rd 3 (.rd 4 (.rd 7 (.rd 8 (.rd 9 (.rd 10 (.rd 12 (.rd 13 (.rd 14 (.rd 15 (.mv 0 (.mv 5 (.mv 6 (.mv 11 (.bt 16 (.bt 17 (.bt 18 (.rd 19 (.inv []))))))))))))))))))))) (by kernel_rfl) rfl (by kernel_rfl) (by kernel_rfl) ?_
      iterate 12 (refine walkJ_rd rfl (fun K hK => ?_); go_simp; refine hK _ ?_; clear hK K)
      clear z0 z1 z2 z3 z4 z5
      (refine walkJ_mv rfl (fun K hK => ?_); go_simp; refine (Int_any 2 _ (by decide) (by decide)).mono ?_; rintro e w14 ⟨v1, rfl, hq1, hb1⟩; refine ⟨_, rfl, hK _ _ hb1 ?_⟩; clear hK K)
      have g1 := hb1.size
      (refine walkJ_mv rfl (fun K hK => ?_); go_simp; refine (of_fr X3.out _).mono ?_; rintro e w15 ⟨v2, rfl, hq2, hb2⟩; refine ⟨_, rfl, hK _ _ (hb2.mono g1) ?_⟩; clear hK K)
      have g2 := Nat.le_trans g1 hb2.size
      (refine walkJ_mv rfl (fun K hK => ?_); go_simp; refine (Times_any _ _ _ _ _ (hq1.below hb2).rat hq2.rat S2.out ((qs_fr X3.out).mono (by decide))).mono ?_; rintro e w16 ⟨v3, rfl, hq3, hb3'⟩; refine ⟨_, rfl, hK _ _ (hb3'.mono g2) ?_⟩; clear hK K)
      have g3 := Nat.le_trans g2 hb3'.size
      (refine walkJ_mv rfl (fun K hK => ?_); go_simp; refine (of_fr X1.out _).mono ?_; rintro e w17 ⟨v4, rfl, hq4, hb4⟩; refine ⟨_, rfl, hK _ _ (hb4.mono g3) ?_⟩; clear hK K)
      have g4 := Nat.le_trans g3 hb4.size
      (refine walkJ_bt rfl (fun K hK => ?_); go_simp; refine (of_fr X2.out _).mono ?_; rintro e w18 ⟨v5, rfl, hq5, hb5⟩; refine ⟨_, rfl, hK _ _ ?_⟩; clear hK K)
      have g5 := Nat.le_trans g4 hb5.size
      (refine walkJ_bt rfl (fun K hK => ?_); go_simp; refine (Plus_any _ _ _ _ _ (hq4.below hb5).rat hq5.rat ((qs_fr X1.out).mono (by decide)) ((qs_fr X2.out).mono (by decide))).mono ?_; rintro e w19 ⟨v6, rfl, hq6, hb6⟩; refine ⟨_, rfl, hK _ _ ?_⟩; clear hK K)
      have g6 := Nat.le_trans g5 hb6.size
      (refine walkJ_bt rfl (fun K hK => ?_); go_simp; refine (Order_any _ _ _ _ _ (((hq3.below hb4).below hb5).below hb6).rat hq6.rat SA.out SB.out).mono ?_; rintro e w20 ⟨rfl, hb7⟩; refine ⟨_, rfl, hK _ _ ?_⟩; clear hK K)
      have hsg := HSG.out
      generalize sgnQ _ = sg at hsg ⊢
      have hsg2 : ¬ 0 < sg := by omega
      iterate 1 (refine walkJ_rd rfl (fun K hK => ?_); go_simp; refine hK _ ?_; clear hK K)
      refine walkJ_nil ?_
      have hball : Below wr.heap.size wr w20 := (((((hd.trans hb1).trans (hb2.mono g1)).trans (hb3'.mono g2)).trans (hb4.mono g3)).trans (hb5.mono g4)).trans ((hb6.mono g5).trans (hb7.mono g6))
      have hbel2 := hbel.trans (hball.mono hbel.size)
      clear hq1 hq2 hq3 hq4 hq5 hq6 hb1 hb2 hb3' hb4 hb5 hb6 hb7 hsg hball hd
      go_wp2
      exact ⟨⟨i + 1, by go_num, by omega, hbel2⟩, by simp [intOf]; omega⟩
    · obtain rfl : M = i := by omega
      have hiM2 : ¬ (M : Int) < (M : Int) := by omega
      go_wp2_with fail
      refine (graded_any _).mono ?_
      rintro e wz ⟨rfl, hbz⟩
      go_wp2
      go_ret
      exact ⟨rfl, hB.trans (hbz.mono hB.size)⟩

end Go.Proofs.Ytmknengmjepdaaa
