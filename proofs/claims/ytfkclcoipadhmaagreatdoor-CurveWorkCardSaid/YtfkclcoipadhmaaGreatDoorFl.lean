/- Walks of trankref02.within and trankref02.At. -/
import Derived.Test.YtfkclcoipadhmaaGreatDoorFk
import Derived.Test.YtfkclcoipadhmaaGreatDoorEq
namespace Go.Proofs.YtfkclcoipadhmaaGreatDoor
open Go.RowKit
attribute [local irreducible] seqS seqST walkV walkJ

set_option maxHeartbeats 4000000 in
set_option maxRecDepth 100000 in
theorem rwithin_any (C : List Pt) (x : Rat) (v : Value) (w : World) (hc : CV C) (hx : fits x) (h : PsR 0 w v C) :
    Calls Tryz.prog 64 #[v, frQ x] w fun r w' => r = .returned (.bool (decide (InDom C x))) ∧ Below w.heap.size w w' := by
  have h2 := hc.two
  obtain ⟨ao, cap, rfl, hcap, hmax, hcc⟩ := h
  unfold maxLen at hmax
  have hmost := hc.most
  obtain ⟨b, off, rfl, hb, e0, e1, e2, e3⟩ := p_cell hcc (show C.length - 1 < C.length by omega)
  have hP : fits (C.getD (C.length - 1) (0, 0)).1 := (hc.fit _ (by omega)).1
  obtain ⟨P, hPP⟩ : ∃ P, C.getD (C.length - 1) (0, 0) = P := ⟨_, rfl⟩
  have hD : InDom C x ↔ 0 ≤ x ∧ x ≤ P.1 := by unfold InDom; rw [hPP]
  rw [hPP] at e0 e1 hP
  have OR := hid (fun w => rorder_any x P.1 hx hP w)
  have hcm : x ≤ P.1 ↔ cmpQ x P.1 ≤ 0 := by
    rcases cmp_cases x P.1 with ⟨h1, h2, -⟩ | ⟨h1, h2, -⟩ | ⟨h1, h2, -⟩ <;> rw [h2] <;> constructor <;> intro h <;> grind
  rw [hcm] at hD
  generalize cmpQ x P.1 = k at hD OR
  obtain ⟨R, hR⟩ : ∃ R, decide (InDom C x) = R := ⟨_, rfl⟩
  rw [hR]
  have HR := hid hR
  have hnn : 0 ≤ x ↔ 0 ≤ x.num := Rat.num_nonneg.symm
  rw [hnn] at hD
  have HD := hid hD
  unfold frQ at OR ⊢
  generalize x.num = n at OR HD ⊢
  generalize (x.den : Int) = d at OR ⊢
  generalize P.1.num = n1 at e0 OR
  generalize (P.1.den : Int) = d1 at e1 OR
  obtain ⟨L, hL⟩ : ∃ L, C.length = L + 1 := ⟨C.length - 1, by omega⟩
  rw [hL] at e0 e1 hcap hmost ⊢
  rw [Nat.add_sub_cancel] at e0 e1
  clear hR hD hcm hP hPP h2 hnn e2 e3 hcc hL
  have k0 := Blk.new w #[.int .i64 n, .int .i64 d] 31
  have b0 := (Below.refl w.heap.size w).alloc (Nat.le_refl _) (.cells #[.int .i64 n, .int .i64 d] 31)
  go_enter Tryz.func64, Tryz.ntmps64
  go_wp2_with fail
  obtain ⟨w0, hw0⟩ : ∃ w0, (w.alloc (.cells #[.int .i64 n, .int .i64 d] 31)) = w0 := ⟨_, rfl⟩
  rw [hw0] at k0 b0 ⊢
  clear hw0
  have hfx := field_x
  have wL : IntKind.i64.wrap (L : Int) = (L : Int) := by rw [IntWalk.i64_left]; unfold wrap64; omega
  have hlt : (L : Int) < (L : Int) + 1 := by omega
  have hd0 := (Below.refl w0.heap.size w0).drew
  have z0 := fun x : SubT (Below w0.heap.size) w0.drew => (k0.below (hd0.trans x.b)).look 0 rfl
  have z1 := fun x : SubT (Below w0.heap.size) w0.drew => (k0.below (hd0.trans x.b)).look 1 rfl
  have z2 := fun x : SubT (Below w0.heap.size) w0.drew => ((b0.trans ((hd0.trans x.b).mono b0.size)).cell (p := ⟨b, off + L * 4, none⟩) hb).trans e0
  have z3 := fun x : SubT (Below w0.heap.size) w0.drew => ((b0.trans ((hd0.trans x.b).mono b0.size)).cell (p := ⟨b, off + L * 4 + 1, none⟩) hb).trans e1
  by_cases hs0 : 0 ≤ n
  case neg =>
    obtain rfl : R = false := by rw [← HR.out]; exact decide_eq_false (fun h => hs0 (HD.out.1 h).1)
    have hb1 := b0.trans (hd0.mono b0.size)
    clear HR HD
    refine wp_walkJ (T := Below (w0.heap.size)) (belowV_pre _) (.rd 0 (.rd 1 (.rd 2 (.rd 3 (.rd 4 (.rd 5 (.rd 6 (.rd 7 (.rd 8 (.rd 9 (.rd 10 (.rd 11 (.bt 12 (.rd 13 (.rd 14 (.rd 15 (.inv []))))))))))))))))) (by kernel_rfl) rfl (by kernel_rfl) (by kernel_rfl) ?_
    iterate 12 (refine walkJ_rd rfl (fun K hK => ?_); go_simp; refine hK _ ?_; clear hK K)
    clear z0 z1 z2 z3
    (refine walkJ_bs rfl (fun K hK => ?_); go_simp; refine hK _ ?_; clear hK K)
    iterate 3 (refine walkJ_rd rfl (fun K hK => ?_); go_simp; refine hK _ ?_; clear hK K)
    refine walkJ_nil ?_
    go_wp2
    go_ret
    exact ⟨rfl, hb1⟩
  refine wp_walkJ (T := Below (w0.heap.size)) (belowV_pre _) (.rd 0 (.rd 1 (.rd 2 (.rd 3 (.rd 4 (.rd 5 (.rd 6 (.rd 7 (.rd 8 (.rd 9 (.rd 10 (.rd 11 (.bt 12 (.rd 13 (.rd 14 (.rd 15 (.inv []))))))))))))))))) (by kernel_rfl) rfl (by kernel_rfl) (by kernel_rfl) ?_
  iterate 12 (refine walkJ_rd rfl (fun K hK => ?_); go_simp; refine hK _ ?_; clear hK K)
  clear z0 z1 z2 z3
  (refine walkJ_bt rfl (fun K hK => ?_); go_simp; refine (OR.out _).mono ?_; rintro r w3 ⟨rfl, hb3⟩; refine ⟨_, rfl, hK _ _ ?_⟩; clear hK K)
  have hb := b0.trans ((hd0.trans (hb3.mono hd0.size)).mono b0.size)
  clear hb3 hd0 OR
  have hR2 : R = decide (k ≤ 0) := by
    rw [← HR.out]
    by_cases hk : k ≤ 0
    · rw [decide_eq_true hk]; exact decide_eq_true (HD.out.2 ⟨hs0, hk⟩)
    · rw [decide_eq_false hk]; exact decide_eq_false (fun h => hk (HD.out.1 h).2)
  clear HR HD
  subst hR2
  iterate 3 (refine walkJ_rd rfl (fun K hK => ?_); go_simp; refine hK _ ?_; clear hK K)
  refine walkJ_nil ?_
  go_wp2
  go_ret
  exact ⟨rfl, hb⟩

set_option maxHeartbeats 8000000 in
set_option maxRecDepth 100000 in
theorem rAt_any (c : List P4) (n d : Int) (v : Value) (w : World) (h : P4R 0 w v c) :
    Calls Tryz.prog 25 #[v, .agg #[.int .i64 n, .int .i64 d]] w fun r w' => r = .returned (.tuple #[.agg #[.int .i64 (oN (atV c n d)), .int .i64 (oD (atV c n d))], .int .i64 (atE c n d)]) ∧ Below w.heap.size w w' := by
  have VA := hid (fun w h => r2Valid_any c v w h)
  obtain ⟨E, hE⟩ : ∃ E, atE c n d = E := ⟨_, rfl⟩
  obtain ⟨N, hN⟩ : ∃ N, oN (atV c n d) = N := ⟨_, rfl⟩
  obtain ⟨D, hD⟩ : ∃ D, oD (atV c n d) = D := ⟨_, rfl⟩
  rw [hE, hN, hD]
  have HE := hid hE
  have HN := hid hN
  have HD := hid hD
  obtain ⟨ao, cap, rfl, -⟩ := id h
  have k0 := (Blk.new w #[.int .i64 n, .int .i64 d] 31).alloc (.cells #[.int .i64 0, .int .i64 0] 31)
  have k1 := Blk.new (w.alloc (.cells #[.int .i64 n, .int .i64 d] 31)) #[.int .i64 0, .int .i64 0] 31
  have b0 := ((Below.refl w.heap.size w).alloc (Nat.le_refl _) (.cells #[.int .i64 n, .int .i64 d] 31)).alloc (by simp) (.cells #[.int .i64 0, .int .i64 0] 31)
  rw [World.size_alloc] at k1
  clear hE hN hD
  go_enter Tryz.func25, Tryz.ntmps25
  go_wp2_with fail
  obtain ⟨w0, hw0⟩ : ∃ w0, (w.alloc (.cells #[.int .i64 n, .int .i64 d] 31)).alloc (.cells #[.int .i64 0, .int .i64 0] 31) = w0 := ⟨_, rfl⟩
  rw [hw0] at k0 k1 b0 ⊢
  clear hw0
  have h0 := h.below b0
  refine (VA.out _ h0).mono ?_
  rintro r w1 ⟨rfl, hb1⟩
  have hB := b0.trans (hb1.mono b0.size)
  have k01 := k0.below hb1
  have k11 := k1.below hb1
  have h1 := h0.below hb1
  clear VA h0 h k0 k1 b0 hb1
  have c0 := k01.look 0 rfl
  have c1 := k01.look 1 rfl
  have c2 := k11.look 0 rfl
  have c3 := k11.look 1 rfl
  by_cases hrv : RV c
  case neg =>
    rw [decide_eq_false hrv]
    have hno : ¬ (RV c ∧ FV n d) := fun h => hrv h.1
    have kR := k11
    clear c0 c1 c2 c3 k11
    obtain rfl : 2 = E := by rw [← HE.out]; exact (if_neg hno).symm
    obtain rfl : 0 = N := by rw [← HN.out]; unfold atV; rw [if_neg (fun h => hno ⟨h.1, h.2.1⟩)]; rfl
    obtain rfl : 0 = D := by rw [← HD.out]; unfold atV; rw [if_neg (fun h => hno ⟨h.1, h.2.1⟩)]; rfl
    clear hno HE HN HD
    have hBz := hB
    clear hB
    have f2 := kR.frozen
    have q0 := kR.look 0 rfl
    have q1 := kR.look 1 rfl
    have ks := (kR.set 0 (.int .i64 0)).set 1 (.int .i64 0)
    have r0 : _ = some (Value.int .i64 0) := ks.look 0 rfl
    have r1 : _ = some (Value.int .i64 0) := ks.look 1 rfl
    have R0 := hid r0
    have R1 := hid r1
    have HBF := hid ((hBz.setCell (p := ⟨w.heap.size + 1, 0, none⟩) (by show w.heap.size ≤ w.heap.size + 1; omega) (.int .i64 0)).setCell (p := ⟨w.heap.size + 1, 1, none⟩) (by show w.heap.size ≤ w.heap.size + 1; omega) (.int .i64 0))
    clear kR ks r0 r1 hBz
    go_wp2
    refine bodyPost_ret (v := .tuple #[.agg #[.int .i64 0, .int .i64 0], .int .i64 2]) ?_ rfl ⟨rfl, HBF.out⟩
    have r0 := R0.out
    have r1 := R1.out
    simp [results, Tryz.results25, go_sem, r0, r1]
  rw [decide_eq_true hrv]
  have HRV := hid hrv
  clear hrv
  go_wp2_with fail
  refine (Valid_any n d _).mono ?_
  rintro r w2 ⟨rfl, hb2⟩
  replace hB := hB.trans (hb2.mono hB.size)
  have k02 := k01.below hb2
  have k12 := k11.below hb2
  have h2 := h1.below hb2
  clear k01 k11 h1 hb2 c0 c1 c2 c3
  by_cases hf1 : FV n d
  case neg =>
    rw [decide_eq_false hf1]
    have hno : ¬ (RV c ∧ FV n d) := fun h => hf1 h.2
    have kR := k12
    clear k12
    obtain rfl : 2 = E := by rw [← HE.out]; exact (if_neg hno).symm
    obtain rfl : 0 = N := by rw [← HN.out]; unfold atV; rw [if_neg (fun h => hno ⟨h.1, h.2.1⟩)]; rfl
    obtain rfl : 0 = D := by rw [← HD.out]; unfold atV; rw [if_neg (fun h => hno ⟨h.1, h.2.1⟩)]; rfl
    clear hno HE HN HD
    have hBz := hB
    clear hB
    have f2 := kR.frozen
    have q0 := kR.look 0 rfl
    have q1 := kR.look 1 rfl
    have ks := (kR.set 0 (.int .i64 0)).set 1 (.int .i64 0)
    have r0 : _ = some (Value.int .i64 0) := ks.look 0 rfl
    have r1 : _ = some (Value.int .i64 0) := ks.look 1 rfl
    have R0 := hid r0
    have R1 := hid r1
    have HBF := hid ((hBz.setCell (p := ⟨w.heap.size + 1, 0, none⟩) (by show w.heap.size ≤ w.heap.size + 1; omega) (.int .i64 0)).setCell (p := ⟨w.heap.size + 1, 1, none⟩) (by show w.heap.size ≤ w.heap.size + 1; omega) (.int .i64 0))
    clear kR ks r0 r1 hBz
    go_wp2
    refine bodyPost_ret (v := .tuple #[.agg #[.int .i64 0, .int .i64 0], .int .i64 2]) ?_ rfl ⟨rfl, HBF.out⟩
    have r0 := R0.out
    have r1 := R1.out
    simp [results, Tryz.results25, go_sem, r0, r1]
  rw [decide_eq_true hf1]
  have HF1 := hid hf1
  have hcv := rv_cv HRV.out
  have hq := P4R.toQ h2 HRV.out
  have WI := hid (fun w h => rwithin_any (toQ c) (vq (n, d)) (.slice ao c.length cap) w hcv (vq_fits hf1) h)
  have AT := hid (fun hd w h => rat_any (toQ c) (vq (n, d)) (.slice ao c.length cap) hcv hd (vq_fits hf1) w h)
  rw [frQ_vq hf1] at WI AT
  clear hf1
  have c0 := k02.look 0 rfl
  have c1 := k02.look 1 rfl
  go_wp2_with fail
  refine (WI.out _ hq).mono ?_
  rintro r w3 ⟨rfl, hb3⟩
  replace hB := hB.trans (hb3.mono hB.size)
  have k03 := k02.below hb3
  have k13 := k12.below hb3
  have q3 := hq.below hb3
  clear WI hq h2 k02 k12 c0 c1 hb3
  have c0 := k03.look 0 rfl
  have c1 := k03.look 1 rfl
  by_cases hdm : InDom (toQ c) (vq (n, d))
  case neg =>
    rw [decide_eq_false hdm]
    have e0 : atV c n d = none := if_neg (fun h => hdm h.2.2)
    obtain rfl : 5 = E := by rw [← HE.out]; unfold atE; rw [if_pos ⟨HRV.out, HF1.out⟩, e0]; rfl
    obtain rfl : 0 = N := by rw [← HN.out, e0]; rfl
    obtain rfl : 0 = D := by rw [← HD.out, e0]; rfl
    clear e0 HE HN HD c0 c1
    have kR := k13
    have hBz := hB
    clear hB k13
    have f2 := kR.frozen
    have q0 := kR.look 0 rfl
    have q1 := kR.look 1 rfl
    have ks := (kR.set 0 (.int .i64 0)).set 1 (.int .i64 0)
    have r0 : _ = some (Value.int .i64 0) := ks.look 0 rfl
    have r1 : _ = some (Value.int .i64 0) := ks.look 1 rfl
    have R0 := hid r0
    have R1 := hid r1
    have HBF := hid ((hBz.setCell (p := ⟨w.heap.size + 1, 0, none⟩) (by show w.heap.size ≤ w.heap.size + 1; omega) (.int .i64 0)).setCell (p := ⟨w.heap.size + 1, 1, none⟩) (by show w.heap.size ≤ w.heap.size + 1; omega) (.int .i64 0))
    clear kR ks r0 r1 hBz
    go_wp2
    refine bodyPost_ret (v := .tuple #[.agg #[.int .i64 0, .int .i64 0], .int .i64 5]) ?_ rfl ⟨rfl, HBF.out⟩
    have r0 := R0.out
    have r1 := R1.out
    simp [results, Tryz.results25, go_sem, r0, r1]
  rw [decide_eq_true hdm]
  have e0 : atV c n d = atO (toQ c) (vq (n, d)) := if_pos ⟨HRV.out, HF1.out, hdm⟩
  have AT2 := hid (AT.out hdm)
  have hE1 : oE (atO (toQ c) (vq (n, d))) = E := by rw [← HE.out]; unfold atE; rw [if_pos ⟨HRV.out, HF1.out⟩, e0]
  rw [e0] at HN HD
  rw [hE1, HN.out, HD.out] at AT2
  clear hE1
  clear AT hdm e0 HE HN HD
  go_wp2_with fail
  refine (AT2.out _ q3).mono ?_
  rintro r w4 ⟨rfl, hb4⟩
  have hBz := hB.trans (hb4.mono hB.size)
  have kR := k13.below hb4
  clear AT2 hB hb4 k13 k03 q3 c0 c1
  have f2 := kR.frozen
  have q0 := kR.look 0 rfl
  have q1 := kR.look 1 rfl
  have ks := (kR.set 0 (.int .i64 N)).set 1 (.int .i64 D)
  have r0 : _ = some (Value.int .i64 N) := ks.look 0 rfl
  have r1 : _ = some (Value.int .i64 D) := ks.look 1 rfl
  have R0 := hid r0
  have R1 := hid r1
  have HBF := hid ((hBz.setCell (p := ⟨w.heap.size + 1, 0, none⟩) (by show w.heap.size ≤ w.heap.size + 1; omega) (.int .i64 N)).setCell (p := ⟨w.heap.size + 1, 1, none⟩) (by show w.heap.size ≤ w.heap.size + 1; omega) (.int .i64 D))
  clear kR ks r0 r1 hBz
  go_wp2
  refine bodyPost_ret (v := .tuple #[.agg #[.int .i64 N, .int .i64 D], .int .i64 E]) ?_ rfl ⟨rfl, HBF.out⟩
  have r0 := R0.out
  have r1 := R1.out
  simp [results, Tryz.results25, go_sem, r0, r1]

end Go.Proofs.YtfkclcoipadhmaaGreatDoor
