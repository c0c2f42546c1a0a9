/- Walks of trankref01.Add, Sub, Mul, Div at fractions within the limits. -/
import Derived.Test.YtfkclcoipadhmaaGreatDoorDx
namespace Go.Proofs.YtfkclcoipadhmaaGreatDoor
open Go.RowKit
attribute [local irreducible] seqS seqST walkV walkJ

theorem fits_S {q : Rat} (h : fits q) : QS 268435456 q := by
  have hv := fits_FV h
  have := (QS_of (n := q.num) (d := (q.den : Int)) (by have := hv.2.2.1; omega) (by have := hv.2.2.2.1; omega) (by have := hv.1; omega) (by have := hv.2.1; omega) (by have := hv.1; omega)).mono (k' := 268435456) (by decide)
  rwa [q_parts] at this
theorem ofQ_any (q : Rat) (h : fits q) (w : World) : Calls Tryz.prog 90 #[frQ q] w fun e w' => ∃ v', e = .returned v' ∧ QF w.heap.size w' v' q ∧ Below w.heap.size w w' := by
  have hv := fits_FV h
  have := Of_any q.num q.den w (by have := hv.2.2.1; omega) (by have := hv.2.2.2.1; omega) (by have := hv.1; omega) (by have := hv.2.1; omega) (by have := hv.1; omega)
  rwa [q_parts] at this
theorem rvalidQ_any (q : Rat) (h : fits q) (w : World) : Calls Tryz.prog 63 #[frQ q] w fun e w' => e = .returned (.bool true) ∧ Below w.heap.size w w' := by
  have := Valid_any q.num q.den w
  rwa [decide_eq_true (fits_FV h)] at this

set_option maxHeartbeats 2000000 in
set_option maxRecDepth 100000 in
theorem rAdd_any (a b : Rat) (ha : fits a) (hb : fits b) (w : World) : Calls Tryz.prog 44 #[frQ a, frQ b] w fun r w' => r = .returned (.tuple #[frV (fitN (a + b)) (fitD (a + b)), .int .i64 (fitE (a + b))]) ∧ Below w.heap.size w w' := by
  have VA := hid (rvalidQ_any a ha)
  have VB := hid (rvalidQ_any b hb)
  have OA := hid (ofQ_any a ha)
  have OC := hid (ofQ_any b hb)
  have S1 := hid (fits_S ha)
  have S2 := hid (fits_S hb)
  have AN := hid (fun v w h => answer_any (a + b) v w h)
  obtain ⟨N, hN⟩ : ∃ N, fitN (a + b) = N := ⟨_, rfl⟩
  obtain ⟨D, hD⟩ : ∃ N, fitD (a + b) = N := ⟨_, rfl⟩
  obtain ⟨E, hE⟩ : ∃ N, fitE (a + b) = N := ⟨_, rfl⟩
  rw [hN, hD, hE] at AN ⊢
  clear hN hD hE ha hb
  unfold frQ at VA VB OA OC ⊢
  obtain ⟨w0, hw0, k0, k1, k2, b0, hsz⟩ := three_new w #[.int .i64 a.num, .int .i64 (a.den : Int)] #[.int .i64 b.num, .int .i64 (b.den : Int)] #[.int .i64 0, .int .i64 0] 31 31 31
  have d0 := k0.look 0 rfl
  have d1 := k0.look 1 rfl
  have HW := hid hw0
  rw [← hw0] at d0 d1
  have K0 := hid k0
  have K1 := hid k1
  have K2 := hid k2
  have B0 := hid b0
  clear k0 k1 k2 b0 hsz hw0
  go_enter Tryz.func44, Tryz.ntmps44
  go_wp2_with fail
  rw [HW.out]
  clear HW d0 d1
  refine (VA.out _).mono ?_
  rintro r w1 ⟨rfl, hb1⟩
  have b1 := B0.out.trans (hb1.mono B0.out.size)
  have k01 := K0.out.below hb1
  have k11 := K1.out.below hb1
  have k21 := K2.out.below hb1
  clear K0 K1 K2 B0 hb1
  have c2 := k11.look 0 rfl
  have c3 := k11.look 1 rfl
  go_wp2_with fail
  refine (VB.out _).mono ?_
  rintro r w2 ⟨rfl, hb2⟩
  have b2 := b1.trans (hb2.mono b1.size)
  have k02 := k01.below hb2
  have k12 := k11.below hb2
  have k22 := k21.below hb2
  clear k01 k11 k21 b1 hb2 c2 c3
  go_wp2_with fail
  have hd : Below w2.heap.size w2 w2.drew := (Below.refl _ _).drew
  have z0 := fun x : SubT (Below w2.heap.size) w2.drew => (k02.below (hd.trans x.b)).look 0 rfl
  have z1 := fun x : SubT (Below w2.heap.size) w2.drew => (k02.below (hd.trans x.b)).look 1 rfl
  have z2 := fun x : SubT (Below w2.heap.size) w2.drew => (k12.below (hd.trans x.b)).look 0 rfl
  have z3 := fun x : SubT (Below w2.heap.size) w2.drew => (k12.below (hd.trans x.b)).look 1 rfl
  refine wp_walkV (T := Below (w2.heap.size)) (belowV_pre _) (.rd 0 (.rd 2 (.mv 1 (.bt 3 (.bt 4 (.bt 5 (.rd 6 (.rd 7 (.bt 8 (.rd 9 .nil)))))))))) (by kernel_rfl) rfl rfl (by kernel_rfl) (by kernel_rfl) ?_
  iterate 2 (refine walkV_rd rfl (fun K hK => ?_); go_simp; refine hK _ ?_; clear hK K)
  clear z0 z1 z2 z3
  (refine walkV_mv rfl (fun K hK => ?_); go_simp; refine (OA.out _).mono ?_; rintro r w3 ⟨v1, rfl, h1, hb3⟩; refine ⟨_, rfl, hK _ _ hb3 ?_⟩; clear hK K)
  (refine walkV_bt rfl (fun K hK => ?_); go_simp; refine (OC.out _).mono ?_; rintro r w4 ⟨v2, rfl, h2, hb4⟩; refine ⟨_, rfl, hK _ _ ?_⟩; clear hK K)
  (refine walkV_bt rfl (fun K hK => ?_); go_simp; refine (Plus_any _ _ _ _ _ (h1.below hb4).rat h2.rat S1.out S2.out).mono ?_; rintro r w5 ⟨v3, rfl, h3, hb5⟩; refine ⟨_, rfl, hK _ _ ?_⟩; clear hK K)
  (refine walkV_bt rfl (fun K hK => ?_); go_simp; refine (AN.out _ _ h3.rat).mono ?_; rintro r w6 ⟨rfl, hb6⟩; refine ⟨_, rfl, hK _ _ ?_⟩; clear hK K)
  iterate 2 (refine walkV_rd rfl (fun K hK => ?_); go_simp; refine hK _ ?_; clear hK K)
  have hbz : Below w2.heap.size w2 w6 := ((hd.trans hb3).trans (hb4.mono hb3.size)).trans ((hb5.trans (hb6.mono hb5.size)).mono (Nat.le_trans hb3.size hb4.size))
  have k26 := k22.below hbz
  have b6 := b2.trans (hbz.mono b2.size)
  have f2 := k26.frozen
  have q0 := k26.look 0 rfl
  have q1 := k26.look 1 rfl
  have r0 := k26.cell 0
  have r1 := k26.cell 1
  (refine walkV_bt rfl (fun K hK => ?_); go_simp; refine hK _ _ ?_; clear hK K)
  iterate 1 (refine walkV_rd rfl (fun K hK => ?_); go_simp; refine hK _ ?_; clear hK K)
  refine walkV_nil ?_
  go_wp2
  refine bodyPost_ret (v := .tuple #[frV N D, .int .i64 E]) ?_ rfl ⟨rfl, (b6.setCell (p := ⟨w.heap.size + 1 + 1, 0, none⟩) (by show w.heap.size ≤ w.heap.size + 1 + 1; omega) _).setCell (p := ⟨w.heap.size + 1 + 1, 1, none⟩) (by show w.heap.size ≤ w.heap.size + 1 + 1; omega) _⟩
  simp [results, Tryz.results44, go_sem, r0, r1]

set_option maxHeartbeats 2000000 in
set_option maxRecDepth 100000 in
theorem rSub_any (a b : Rat) (ha : fits a) (hb : fits b) (w : World) : Calls Tryz.prog 86 #[frQ a, frQ b] w fun r w' => r = .returned (.tuple #[frV (fitN (a - b)) (fitD (a - b)), .int .i64 (fitE (a - b))]) ∧ Below w.heap.size w w' := by
  have VA := hid (rvalidQ_any a ha)
  have VB := hid (rvalidQ_any b hb)
  have OA := hid (ofQ_any a ha)
  have OC := hid (ofQ_any b hb)
  have S1 := hid (fits_S ha)
  have S2 := hid (fits_S hb)
  have AN := hid (fun v w h => answer_any (a - b) v w h)
  obtain ⟨N, hN⟩ : ∃ N, fitN (a - b) = N := ⟨_, rfl⟩
  obtain ⟨D, hD⟩ : ∃ N, fitD (a - b) = N := ⟨_, rfl⟩
  obtain ⟨E, hE⟩ : ∃ N, fitE (a - b) = N := ⟨_, rfl⟩
  rw [hN, hD, hE] at AN ⊢
  clear hN hD hE ha hb
  unfold frQ at VA VB OA OC ⊢
  obtain ⟨w0, hw0, k0, k1, k2, b0, hsz⟩ := three_new w #[.int .i64 a.num, .int .i64 (a.den : Int)] #[.int .i64 b.num, .int .i64 (b.den : Int)] #[.int .i64 0, .int .i64 0] 31 31 31
  have d0 := k0.look 0 rfl
  have d1 := k0.look 1 rfl
  have HW := hid hw0
  rw [← hw0] at d0 d1
  have K0 := hid k0
  have K1 := hid k1
  have K2 := hid k2
  have B0 := hid b0
  clear k0 k1 k2 b0 hsz hw0
  go_enter Tryz.func86, Tryz.ntmps86
  go_wp2_with fail
  rw [HW.out]
  clear HW d0 d1
  refine (VA.out _).mono ?_
  rintro r w1 ⟨rfl, hb1⟩
  have b1 := B0.out.trans (hb1.mono B0.out.size)
  have k01 := K0.out.below hb1
  have k11 := K1.out.below hb1
  have k21 := K2.out.below hb1
  clear K0 K1 K2 B0 hb1
  have c2 := k11.look 0 rfl
  have c3 := k11.look 1 rfl
  go_wp2_with fail
  refine (VB.out _).mono ?_
  rintro r w2 ⟨rfl, hb2⟩
  have b2 := b1.trans (hb2.mono b1.size)
  have k02 := k01.below hb2
  have k12 := k11.below hb2
  have k22 := k21.below hb2
  clear k01 k11 k21 b1 hb2 c2 c3
  go_wp2_with fail
  have hd : Below w2.heap.size w2 w2.drew := (Below.refl _ _).drew
  have z0 := fun x : SubT (Below w2.heap.size) w2.drew => (k02.below (hd.trans x.b)).look 0 rfl
  have z1 := fun x : SubT (Below w2.heap.size) w2.drew => (k02.below (hd.trans x.b)).look 1 rfl
  have z2 := fun x : SubT (Below w2.heap.size) w2.drew => (k12.below (hd.trans x.b)).look 0 rfl
  have z3 := fun x : SubT (Below w2.heap.size) w2.drew => (k12.below (hd.trans x.b)).look 1 rfl
  refine wp_walkV (T := Below (w2.heap.size)) (belowV_pre _) (.rd 0 (.rd 2 (.mv 1 (.bt 3 (.bt 4 (.bt 5 (.rd 6 (.rd 7 (.bt 8 (.rd 9 .nil)))))))))) (by kernel_rfl) rfl rfl (by kernel_rfl) (by kernel_rfl) ?_
  iterate 2 (refine walkV_rd rfl (fun K hK => ?_); go_simp; refine hK _ ?_; clear hK K)
  clear z0 z1 z2 z3
  (refine walkV_mv rfl (fun K hK => ?_); go_simp; refine (OA.out _).mono ?_; rintro r w3 ⟨v1, rfl, h1, hb3⟩; refine ⟨_, rfl, hK _ _ hb3 ?_⟩; clear hK K)
  (refine walkV_bt rfl (fun K hK => ?_); go_simp; refine (OC.out _).mono ?_; rintro r w4 ⟨v2, rfl, h2, hb4⟩; refine ⟨_, rfl, hK _ _ ?_⟩; clear hK K)
  (refine walkV_bt rfl (fun K hK => ?_); go_simp; refine (Less_any _ _ _ _ _ (h1.below hb4).rat h2.rat S1.out S2.out).mono ?_; rintro r w5 ⟨v3, rfl, h3, hb5⟩; refine ⟨_, rfl, hK _ _ ?_⟩; clear hK K)
  (refine walkV_bt rfl (fun K hK => ?_); go_simp; refine (AN.out _ _ h3.rat).mono ?_; rintro r w6 ⟨rfl, hb6⟩; refine ⟨_, rfl, hK _ _ ?_⟩; clear hK K)
  iterate 2 (refine walkV_rd rfl (fun K hK => ?_); go_simp; refine hK _ ?_; clear hK K)
  have hbz : Below w2.heap.size w2 w6 := ((hd.trans hb3).trans (hb4.mono hb3.size)).trans ((hb5.trans (hb6.mono hb5.size)).mono (Nat.le_trans hb3.size hb4.size))
  have k26 := k22.below hbz
  have b6 := b2.trans (hbz.mono b2.size)
  have f2 := k26.frozen
  have q0 := k26.look 0 rfl
  have q1 := k26.look 1 rfl
  have r0 := k26.cell 0
  have r1 := k26.cell 1
  (refine walkV_bt rfl (fun K hK => ?_); go_simp; refine hK _ _ ?_; clear hK K)
  iterate 1 (refine walkV_rd rfl (fun K hK => ?_); go_simp; refine hK _ ?_; clear hK K)
  refine walkV_nil ?_
  go_wp2
  refine bodyPost_ret (v := .tuple #[frV N D, .int .i64 E]) ?_ rfl ⟨rfl, (b6.setCell (p := ⟨w.heap.size + 1 + 1, 0, none⟩) (by show w.heap.size ≤ w.heap.size + 1 + 1; omega) _).setCell (p := ⟨w.heap.size + 1 + 1, 1, none⟩) (by show w.heap.size ≤ w.heap.size + 1 + 1; omega) _⟩
  simp [results, Tryz.results86, go_sem, r0, r1]

set_option maxHeartbeats 2000000 in
set_option maxRecDepth 100000 in
theorem rMul_any (a b : Rat) (ha : fits a) (hb : fits b) (w : World) : Calls Tryz.prog 87 #[frQ a, frQ b] w fun r w' => r = .returned (.tuple #[frV (fitN (a * b)) (fitD (a * b)), .int .i64 (fitE (a * b))]) ∧ Below w.heap.size w w' := by
  have VA := hid (rvalidQ_any a ha)
  have VB := hid (rvalidQ_any b hb)
  have OA := hid (ofQ_any a ha)
  have OC := hid (ofQ_any b hb)
  have S1 := hid (fits_S ha)
  have S2 := hid (fits_S hb)
  have AN := hid (fun v w h => answer_any (a * b) v w h)
  obtain ⟨N, hN⟩ : ∃ N, fitN (a * b) = N := ⟨_, rfl⟩
  obtain ⟨D, hD⟩ : ∃ N, fitD (a * b) = N := ⟨_, rfl⟩
  obtain ⟨E, hE⟩ : ∃ N, fitE (a * b) = N := ⟨_, rfl⟩
  rw [hN, hD, hE] at AN ⊢
  clear hN hD hE ha hb
  unfold frQ at VA VB OA OC ⊢
  obtain ⟨w0, hw0, k0, k1, k2, b0, hsz⟩ := three_new w #[.int .i64 a.num, .int .i64 (a.den : Int)] #[.int .i64 b.num, .int .i64 (b.den : Int)] #[.int .i64 0, .int .i64 0] 31 31 31
  have d0 := k0.look 0 rfl
  have d1 := k0.look 1 rfl
  have HW := hid hw0
  rw [← hw0] at d0 d1
  have K0 := hid k0
  have K1 := hid k1
  have K2 := hid k2
  have B0 := hid b0
  clear k0 k1 k2 b0 hsz hw0
  go_enter Tryz.func87, Tryz.ntmps87
  go_wp2_with fail
  rw [HW.out]
  clear HW d0 d1
  refine (VA.out _).mono ?_
  rintro r w1 ⟨rfl, hb1⟩
  have b1 := B0.out.trans (hb1.mono B0.out.size)
  have k01 := K0.out.below hb1
  have k11 := K1.out.below hb1
  have k21 := K2.out.below hb1
  clear K0 K1 K2 B0 hb1
  have c2 := k11.look 0 rfl
  have c3 := k11.look 1 rfl
  go_wp2_with fail
  refine (VB.out _).mono ?_
  rintro r w2 ⟨rfl, hb2⟩
  have b2 := b1.trans (hb2.mono b1.size)
  have k02 := k01.below hb2
  have k12 := k11.below hb2
  have k22 := k21.below hb2
  clear k01 k11 k21 b1 hb2 c2 c3
  go_wp2_with fail
  have hd : Below w2.heap.size w2 w2.drew := (Below.refl _ _).drew
  have z0 := fun x : SubT (Below w2.heap.size) w2.drew => (k02.below (hd.trans x.b)).look 0 rfl
  have z1 := fun x : SubT (Below w2.heap.size) w2.drew => (k02.below (hd.trans x.b)).look 1 rfl
  have z2 := fun x : SubT (Below w2.heap.size) w2.drew => (k12.below (hd.trans x.b)).look 0 rfl
  have z3 := fun x : SubT (Below w2.heap.size) w2.drew => (k12.below (hd.trans x.b)).look 1 rfl
  refine wp_walkV (T := Below (w2.heap.size)) (belowV_pre _) (.rd 0 (.rd 2 (.mv 1 (.bt 3 (.bt 4 (.bt 5 (.rd 6 (.rd 7 (.bt 8 (.rd 9 .nil)))))))))) (by kernel_rfl) rfl rfl (by kernel_rfl) (by kernel_rfl) ?_
  iterate 2 (refine walkV_rd rfl (fun K hK => ?_); go_simp; refine hK _ ?_; clear hK K)
  clear z0 z1 z2 z3
  (refine walkV_mv rfl (fun K hK => ?_); go_simp; refine (OA.out _).mono ?_; rintro r w3 ⟨v1, rfl, h1, hb3⟩; refine ⟨_, rfl, hK _ _ hb3 ?_⟩; clear hK K)
  (refine walkV_bt rfl (fun K hK => ?_); go_simp; refine (OC.out _).mono ?_; rintro r w4 ⟨v2, rfl, h2, hb4⟩; refine ⟨_, rfl, hK _ _ ?_⟩; clear hK K)
  (refine walkV_bt rfl (fun K hK => ?_); go_simp; refine (Times_any _ _ _ _ _ (h1.below hb4).rat h2.rat S1.out S2.out).mono ?_; rintro r w5 ⟨v3, rfl, h3, hb5⟩; refine ⟨_, rfl, hK _ _ ?_⟩; clear hK K)
  (refine walkV_bt rfl (fun K hK => ?_); go_simp; refine (AN.out _ _ h3.rat).mono ?_; rintro r w6 ⟨rfl, hb6⟩; refine ⟨_, rfl, hK _ _ ?_⟩; clear hK K)
  iterate 2 (refine walkV_rd rfl (fun K hK => ?_); go_simp; refine hK _ ?_; clear hK K)
  have hbz : Below w2.heap.size w2 w6 := ((hd.trans hb3).trans (hb4.mono hb3.size)).trans ((hb5.trans (hb6.mono hb5.size)).mono (Nat.le_trans hb3.size hb4.size))
  have k26 := k22.below hbz
  have b6 := b2.trans (hbz.mono b2.size)
  have f2 := k26.frozen
  have q0 := k26.look 0 rfl
  have q1 := k26.look 1 rfl
  have r0 := k26.cell 0
  have r1 := k26.cell 1
  (refine walkV_bt rfl (fun K hK => ?_); go_simp; refine hK _ _ ?_; clear hK K)
  iterate 1 (refine walkV_rd rfl (fun K hK => ?_); go_simp; refine hK _ ?_; clear hK K)
  refine walkV_nil ?_
  go_wp2
  refine bodyPost_ret (v := .tuple #[frV N D, .int .i64 E]) ?_ rfl ⟨rfl, (b6.setCell (p := ⟨w.heap.size + 1 + 1, 0, none⟩) (by show w.heap.size ≤ w.heap.size + 1 + 1; omega) _).setCell (p := ⟨w.heap.size + 1 + 1, 1, none⟩) (by show w.heap.size ≤ w.heap.size + 1 + 1; omega) _⟩
  simp [results, Tryz.results87, go_sem, r0, r1]

set_option maxHeartbeats 2000000 in
set_option maxRecDepth 100000 in
theorem rDiv_any (a b : Rat) (ha : fits a) (hb : fits b) (h0 : b ≠ 0) (w : World) : Calls Tryz.prog 104 #[frQ a, frQ b] w fun r w' => r = .returned (.tuple #[frV (fitN (a / b)) (fitD (a / b)), .int .i64 (fitE (a / b))]) ∧ Below w.heap.size w w' := by
  have VA := hid (rvalidQ_any a ha)
  have VB := hid (rvalidQ_any b hb)
  have OA := hid (ofQ_any a ha)
  have OC := hid (ofQ_any b hb)
  have S1 := hid (fits_S ha)
  have S2 := hid (fits_S hb)
  have hc : b.num ≠ 0 := fun e => h0 (Rat.num_eq_zero.1 e)
  have HC := hid hc
  have H0 := hid h0
  clear hc h0
  have AN := hid (fun v w h => answer_any (a / b) v w h)
  obtain ⟨N, hN⟩ : ∃ N, fitN (a / b) = N := ⟨_, rfl⟩
  obtain ⟨D, hD⟩ : ∃ N, fitD (a / b) = N := ⟨_, rfl⟩
  obtain ⟨E, hE⟩ : ∃ N, fitE (a / b) = N := ⟨_, rfl⟩
  rw [hN, hD, hE] at AN ⊢
  clear hN hD hE ha hb
  unfold frQ at VA VB OA OC ⊢
  obtain ⟨w0, hw0, k0, k1, k2, b0, hsz⟩ := three_new w #[.int .i64 a.num, .int .i64 (a.den : Int)] #[.int .i64 b.num, .int .i64 (b.den : Int)] #[.int .i64 0, .int .i64 0] 31 31 31
  have d0 := k0.look 0 rfl
  have d1 := k0.look 1 rfl
  have HW := hid hw0
  rw [← hw0] at d0 d1
  have K0 := hid k0
  have K1 := hid k1
  have K2 := hid k2
  have B0 := hid b0
  clear k0 k1 k2 b0 hsz hw0
  go_enter Tryz.func104, Tryz.ntmps104
  go_wp2_with fail
  rw [HW.out]
  clear HW d0 d1
  refine (VA.out _).mono ?_
  rintro r w1 ⟨rfl, hb1⟩
  have b1 := B0.out.trans (hb1.mono B0.out.size)
  have k01 := K0.out.below hb1
  have k11 := K1.out.below hb1
  have k21 := K2.out.below hb1
  clear K0 K1 K2 B0 hb1
  have c2 := k11.look 0 rfl
  have c3 := k11.look 1 rfl
  go_wp2_with fail
  refine (VB.out _).mono ?_
  rintro r w2 ⟨rfl, hb2⟩
  have b2 := b1.trans (hb2.mono b1.size)
  have k02 := k01.below hb2
  have k12 := k11.below hb2
  have k22 := k21.below hb2
  clear k01 k11 k21 b1 hb2 c2 c3
  have hc := HC.out
  have c2 := k12.look 0 rfl
  have c3 := k12.look 1 rfl
  go_wp2_with fail
  have hd : Below w2.heap.size w2 w2.drew := (Below.refl _ _).drew
  have z0 := fun x : SubT (Below w2.heap.size) w2.drew => (k02.below (hd.trans x.b)).look 0 rfl
  have z1 := fun x : SubT (Below w2.heap.size) w2.drew => (k02.below (hd.trans x.b)).look 1 rfl
  have z2 := fun x : SubT (Below w2.heap.size) w2.drew => (k12.below (hd.trans x.b)).look 0 rfl
  have z3 := fun x : SubT (Below w2.heap.size) w2.drew => (k12.below (hd.trans x.b)).look 1 rfl
  refine wp_walkV (T := Below (w2.heap.size)) (belowV_pre _) (.rd 0 (.rd 2 (.mv 1 (.bt 3 (.bt 4 (.bt 5 (.rd 6 (.rd 7 (.bt 8 (.rd 9 .nil)))))))))) (by kernel_rfl) rfl rfl (by kernel_rfl) (by kernel_rfl) ?_
  iterate 2 (refine walkV_rd rfl (fun K hK => ?_); go_simp; refine hK _ ?_; clear hK K)
  clear z0 z1 z2 z3
  (refine walkV_mv rfl (fun K hK => ?_); go_simp; refine (OA.out _).mono ?_; rintro r w3 ⟨v1, rfl, h1, hb3⟩; refine ⟨_, rfl, hK _ _ hb3 ?_⟩; clear hK K)
  (refine walkV_bt rfl (fun K hK => ?_); go_simp; refine (OC.out _).mono ?_; rintro r w4 ⟨v2, rfl, h2, hb4⟩; refine ⟨_, rfl, hK _ _ ?_⟩; clear hK K)
  (refine walkV_bt rfl (fun K hK => ?_); go_simp; refine (Over_any _ _ _ _ _ (h1.below hb4).rat h2.rat S1.out S2.out H0.out).mono ?_; rintro r w5 ⟨v3, rfl, h3, hb5⟩; refine ⟨_, rfl, hK _ _ ?_⟩; clear hK K)
  (refine walkV_bt rfl (fun K hK => ?_); go_simp; refine (AN.out _ _ h3.rat).mono ?_; rintro r w6 ⟨rfl, hb6⟩; refine ⟨_, rfl, hK _ _ ?_⟩; clear hK K)
  iterate 2 (refine walkV_rd rfl (fun K hK => ?_); go_simp; refine hK _ ?_; clear hK K)
  have hbz : Below w2.heap.size w2 w6 := ((hd.trans hb3).trans (hb4.mono hb3.size)).trans ((hb5.trans (hb6.mono hb5.size)).mono (Nat.le_trans hb3.size hb4.size))
  have k26 := k22.below hbz
  have b6 := b2.trans (hbz.mono b2.size)
  have f2 := k26.frozen
  have q0 := k26.look 0 rfl
  have q1 := k26.look 1 rfl
  have r0 := k26.cell 0
  have r1 := k26.cell 1
  (refine walkV_bt rfl (fun K hK => ?_); go_simp; refine hK _ _ ?_; clear hK K)
  iterate 1 (refine walkV_rd rfl (fun K hK => ?_); go_simp; refine hK _ ?_; clear hK K)
  refine walkV_nil ?_
  go_wp2
  refine bodyPost_ret (v := .tuple #[frV N D, .int .i64 E]) ?_ rfl ⟨rfl, (b6.setCell (p := ⟨w.heap.size + 1 + 1, 0, none⟩) (by show w.heap.size ≤ w.heap.size + 1 + 1; omega) _).setCell (p := ⟨w.heap.size + 1 + 1, 1, none⟩) (by show w.heap.size ≤ w.heap.size + 1 + 1; omega) _⟩
  simp [results, Tryz.results104, go_sem, r0, r1]

theorem sgn_cmp (a b : Rat) : sgnQ (a - b) = cmpQ a b := by
  unfold sgnQ cmpQ
  by_cases h1 : a < b
  · rw [if_pos (by grind), if_pos h1]
  · rw [if_neg (by grind), if_neg h1]
    by_cases h2 : b < a
    · rw [if_neg (by grind), if_pos h2]
    · rw [if_pos (by grind), if_neg h2]

set_option maxHeartbeats 2000000 in
set_option maxRecDepth 100000 in
theorem rorder_any (a b : Rat) (ha : fits a) (hb : fits b) (w : World) : Calls Tryz.prog 58 #[frQ a, frQ b] w fun r w' => r = .returned (.int .i64 (cmpQ a b)) ∧ Below w.heap.size w w' := by
  have OA := hid (ofQ_any a ha)
  have OC := hid (ofQ_any b hb)
  have S1 := hid (fits_S ha)
  have S2 := hid (fits_S hb)
  have hcs : sgnQ (a - b) = cmpQ a b := sgn_cmp a b
  have OR : Hid (∀ u v w, QR w u a → QR w v b → Calls Tryz.prog 96 #[u, v] w fun e w' => e = .returned (.int .i64 (cmpQ a b)) ∧ Below w.heap.size w w') := hid (fun u v w h1 h2 => by
    have := Order_any a b u v w h1 h2 S1.out S2.out
    rwa [hcs] at this)
  obtain ⟨Z, hZ⟩ : ∃ Z, cmpQ a b = Z := ⟨_, rfl⟩
  rw [hZ] at OR ⊢
  clear hZ hcs ha hb
  unfold frQ at OA OC ⊢
  have k0 := (Blk.new w #[.int .i64 a.num, .int .i64 (a.den : Int)] 31).alloc (.cells #[.int .i64 b.num, .int .i64 (b.den : Int)] 31)
  have k1 := Blk.new (w.alloc (.cells #[.int .i64 a.num, .int .i64 (a.den : Int)] 31)) #[.int .i64 b.num, .int .i64 (b.den : Int)] 31
  have b0 := ((Below.refl w.heap.size w).alloc (Nat.le_refl _) (.cells #[.int .i64 a.num, .int .i64 (a.den : Int)] 31)).alloc (by simp) (.cells #[.int .i64 b.num, .int .i64 (b.den : Int)] 31)
  rw [World.size_alloc] at k1
  go_enter Tryz.func58, Tryz.ntmps58
  go_wp2_with fail
  obtain ⟨w2, hw2⟩ : ∃ w2, (w.alloc (.cells #[.int .i64 a.num, .int .i64 (a.den : Int)] 31)).alloc (.cells #[.int .i64 b.num, .int .i64 (b.den : Int)] 31) = w2 := ⟨_, rfl⟩
  rw [hw2] at k0 k1 b0 ⊢
  clear hw2
  have hd : Below w2.heap.size w2 w2.drew := (Below.refl _ _).drew
  have z0 := fun x : SubT (Below w2.heap.size) w2.drew => (k0.below (hd.trans x.b)).look 0 rfl
  have z1 := fun x : SubT (Below w2.heap.size) w2.drew => (k0.below (hd.trans x.b)).look 1 rfl
  have z2 := fun x : SubT (Below w2.heap.size) w2.drew => (k1.below (hd.trans x.b)).look 0 rfl
  have z3 := fun x : SubT (Below w2.heap.size) w2.drew => (k1.below (hd.trans x.b)).look 1 rfl
  refine wp_walkV (T := Below (w2.heap.size)) (belowV_pre _) (.rd 0 (.rd 2 (.mv 1 (.bt 3 (.bt 4 (.rd 5 .nil)))))) (by kernel_rfl) rfl rfl (by kernel_rfl) (by kernel_rfl) ?_
  iterate 2 (refine walkV_rd rfl (fun K hK => ?_); go_simp; refine hK _ ?_; clear hK K)
  clear z0 z1 z2 z3
  (refine walkV_mv rfl (fun K hK => ?_); go_simp; refine (OA.out _).mono ?_; rintro r w3 ⟨v1, rfl, h1, hb3⟩; refine ⟨_, rfl, hK _ _ hb3 ?_⟩; clear hK K)
  (refine walkV_bt rfl (fun K hK => ?_); go_simp; refine (OC.out _).mono ?_; rintro r w4 ⟨v2, rfl, h2, hb4⟩; refine ⟨_, rfl, hK _ _ ?_⟩; clear hK K)
  (refine walkV_bt rfl (fun K hK => ?_); go_simp; refine (OR.out _ _ _ (h1.below hb4).rat h2.rat).mono ?_; rintro r w5 ⟨rfl, hb5⟩; refine ⟨_, rfl, hK _ _ ?_⟩; clear hK K)
  iterate 1 (refine walkV_rd rfl (fun K hK => ?_); go_simp; refine hK _ ?_; clear hK K)
  refine walkV_nil ?_
  have hbz : Below w2.heap.size w2 w5 := ((hd.trans hb3).trans (hb4.mono hb3.size)).trans (hb5.mono (Nat.le_trans hb3.size hb4.size))
  have b6 := b0.trans (hbz.mono b0.size)
  go_wp2
  go_ret
  exact ⟨rfl, b6⟩

end Go.Proofs.YtfkclcoipadhmaaGreatDoor
