/- Walk of calc.slope. -/
import Derived.Test.YtfkclcoipadhmaaDoorDe
namespace Go.Proofs.YtfkclcoipadhmaaDoor
open Go.RowKit
attribute [local irreducible] seqS seqST walkV walkJ

theorem slO_cal (ok : Bool) (p q : Pt) :
    calK (calK (calK ok (fitO (q.2 - p.2))) (fitO (q.1 - p.1))) (fitO (calV ok (fitO (q.2 - p.2)) / calV (calK ok (fitO (q.2 - p.2))) (fitO (q.1 - p.1)))) = calK ok (slO p q) ∧
    calV (calK (calK ok (fitO (q.2 - p.2))) (fitO (q.1 - p.1))) (fitO (calV ok (fitO (q.2 - p.2)) / calV (calK ok (fitO (q.2 - p.2))) (fitO (q.1 - p.1)))) = calV ok (slO p q) := by
  have h1 := cal_bind (calK ok (fitO (q.2 - p.2))) (fitO (q.1 - p.1)) (fun x => fitO (calV ok (fitO (q.2 - p.2)) / x))
  rw [h1.1, h1.2]
  exact cal_bind ok (fitO (q.2 - p.2)) (fun y => (fitO (q.1 - p.1)).bind fun x => fitO (y / x))

set_option maxHeartbeats 4000000 in
set_option maxRecDepth 100000 in
theorem slope_any (p q : Pt) (hp : fits p.1 ∧ fits p.2) (hq : fits q.1 ∧ fits q.2) (hne : p.1 ≠ q.1) (g : Nat) (ok : Bool) (w : World) (hz : Z0 w) (hk : CalB w g ok) :
    Calls Tryd.prog 59 #[.pointer (some ⟨g, 0, none⟩), ptQ p, ptQ q] w fun e w' => e = .returned (frQ (calV ok (slO p q))) ∧ CalB w' g (calK ok (slO p q)) ∧ CalT g w w' := by
  have hsl := slO_cal ok p q
  have S1 := hid (fun w hz hk => calc_sub q.2 p.2 hq.2 hp.2 g ok w hz hk)
  rw [(cop_cal ok (q.2 - p.2)).1, (cop_cal ok (q.2 - p.2)).2] at S1
  obtain ⟨o1, ho1⟩ : ∃ o, fitO (q.2 - p.2) = o := ⟨_, rfl⟩
  rw [ho1] at S1 hsl
  have F1 := hid (calV_fits (ok := ok) (o := o1) (fun r hr => (fitO_fits (ho1.trans hr)).1))
  obtain ⟨k1, hk1⟩ : ∃ o, calK ok o1 = o := ⟨_, rfl⟩
  obtain ⟨v1, hv1⟩ : ∃ o, calV ok o1 = o := ⟨_, rfl⟩
  rw [hk1, hv1] at S1
  rw [hk1, hv1] at hsl
  rw [hv1] at F1
  have S2 := hid (fun w hz hk => calc_sub q.1 p.1 hq.1 hp.1 g k1 w hz hk)
  rw [(cop_cal k1 (q.1 - p.1)).1, (cop_cal k1 (q.1 - p.1)).2] at S2
  have hz2 : calK k1 (fitO (q.1 - p.1)) = true → calV k1 (fitO (q.1 - p.1)) ≠ 0 := by
    intro h
    obtain ⟨-, r, h1, h2⟩ := calV_of h
    rw [h2, (fitO_fits h1).2]
    intro h3
    exact hne (by grind)
  have F2 := hid (calV_fits (ok := k1) (o := fitO (q.1 - p.1)) (fun r hr => (fitO_fits hr).1))
  obtain ⟨k2, hk2⟩ : ∃ o, calK k1 (fitO (q.1 - p.1)) = o := ⟨_, rfl⟩
  obtain ⟨v2, hv2⟩ : ∃ o, calV k1 (fitO (q.1 - p.1)) = o := ⟨_, rfl⟩
  rw [hk2, hv2] at S2 hsl hz2
  rw [hv2] at F2
  have S3 := hid (fun w hz hk => calc_div v1 v2 F1.out F2.out g k2 hz2 w hz hk)
  rw [(cop_cal k2 (v1 / v2)).1, (cop_cal k2 (v1 / v2)).2, hsl.1, hsl.2] at S3
  obtain ⟨k3, hk3⟩ : ∃ o, calK ok (slO p q) = o := ⟨_, rfl⟩
  obtain ⟨v3, hv3⟩ : ∃ o, calV ok (slO p q) = o := ⟨_, rfl⟩
  rw [hk3, hv3] at S3 ⊢
  unfold frQ ptQ at *
  clear hsl ho1 hk1 hv1 hk2 hv2 hk3 hv3 hz2 F1 F2 hp hq hne
  obtain ⟨p1, hp1⟩ : ∃ z, p.1.num = z := ⟨_, rfl⟩
  obtain ⟨p2, hp2⟩ : ∃ z, (p.1.den : Int) = z := ⟨_, rfl⟩
  obtain ⟨p3, hp3⟩ : ∃ z, p.2.num = z := ⟨_, rfl⟩
  obtain ⟨p4, hp4⟩ : ∃ z, (p.2.den : Int) = z := ⟨_, rfl⟩
  obtain ⟨q1, hq1⟩ : ∃ z, q.1.num = z := ⟨_, rfl⟩
  obtain ⟨q2, hq2⟩ : ∃ z, (q.1.den : Int) = z := ⟨_, rfl⟩
  obtain ⟨q3, hq3⟩ : ∃ z, q.2.num = z := ⟨_, rfl⟩
  obtain ⟨q4, hq4⟩ : ∃ z, (q.2.den : Int) = z := ⟨_, rfl⟩
  rw [hp1, hp2, hp3, hp4, hq1, hq2, hq3, hq4]
  rw [hp1, hp2, hq1, hq2] at S2
  rw [hp3, hp4, hq3, hq4] at S1
  clear hp1 hp2 hp3 hp4 hq1 hq2 hq3 hq4
  obtain ⟨w0, hw0, k0, k1', k2', hB, hsz⟩ := three_new w #[.int .i64 p1, .int .i64 p2, .int .i64 p3, .int .i64 p4] #[.int .i64 q1, .int .i64 q2, .int .i64 q3, .int .i64 q4] #[.int .i64 0, .int .i64 0] 52 52 32
  have hg : g < w.heap.size := hk.lt
  have HZ := hid (hz.below hB)
  have HK := hid (CalB.below hk hB)
  have d0 := k0.look 2 rfl
  have d1 := k0.look 3 rfl
  have d2 := k1'.look 2 rfl
  have d3 := k1'.look 3 rfl
  have HW := hid hw0
  rw [← hw0] at d0 d1 d2 d3
  have HB := hid hB
  have KP := hid k0
  have KQ := hid k1'
  have KR := hid k2'
  clear hB hz hk k0 k1' k2' hsz hw0
  go_enter Tryd.func59, Tryd.ntmps59
  go_wp2_with fail
  rw [HW.out]
  clear HW d0 d1 d2 d3
  refine (S1.out _ HZ.out HK.out).mono ?_
  rintro r w1 ⟨rfl, hk1, ht1⟩
  obtain ⟨vn, hvn⟩ : ∃ n, v1.num = n := ⟨_, rfl⟩
  obtain ⟨vd, hvd⟩ : ∃ n, (v1.den : Int) = n := ⟨_, rfl⟩
  rw [hvn, hvd] at S3 ⊢
  clear hvn hvd
  have t01 := (calT_pre g).trans (CalT.of_below HB.out) ht1
  have kp1 := CalT.blk ht1 KP.out (by omega)
  have kq1 := CalT.blk ht1 KQ.out (by omega)
  have kr1 := CalT.blk ht1 KR.out (by omega)
  have hz1 := HZ.out.calT HK.out ht1
  clear KP KQ KR HK HZ HB ht1
  go_wp2_with fail
  have kV := Blk.new w1 #[.int .i64 vn, .int .i64 vd] 32
  have ba := alloc_below w1 (.cells #[.int .i64 vn, .int .i64 vd] 32)
  have tA := CalT.alloc t01 (.cells #[.int .i64 vn, .int .i64 vd] 32)
  have kpA := kp1.below ba
  have kqA := kq1.below ba
  have krA := kr1.below ba
  have hkA := CalB.below hk1 ba
  have hzA := hz1.below ba
  have hg1 : g < w1.heap.size := hk1.lt
  obtain ⟨W, hW⟩ : ∃ W, w1.alloc (.cells #[.int .i64 vn, .int .i64 vd] 32) = W := ⟨_, rfl⟩
  obtain ⟨C, hC⟩ : ∃ C, w1.heap.size = C := ⟨_, rfl⟩
  rw [hW] at kV tA kpA kqA krA hkA hzA ⊢
  rw [hC] at kV hg1 ⊢
  clear hW hC ba t01 kp1 kq1 kr1 hk1 hz1
  have hd : CalT g W W.drew := CalT.of_below (Below.refl W.heap.size W).drew
  have z0 := fun x : SubT (CalT g) W.drew => (CalT.blk ((calT_pre g).trans hd x.b) kV (by omega)).look 0 rfl
  have z1 := fun x : SubT (CalT g) W.drew => (CalT.blk ((calT_pre g).trans hd x.b) kV (by omega)).look 1 rfl
  have z2 := fun x : SubT (CalT g) W.drew => (CalT.blk ((calT_pre g).trans hd x.b) kqA (by omega)).look 0 rfl
  have z3 := fun x : SubT (CalT g) W.drew => (CalT.blk ((calT_pre g).trans hd x.b) kqA (by omega)).look 1 rfl
  have z4 := fun x : SubT (CalT g) W.drew => (CalT.blk ((calT_pre g).trans hd x.b) kpA (by omega)).look 0 rfl
  have z5 := fun x : SubT (CalT g) W.drew => (CalT.blk ((calT_pre g).trans hd x.b) kpA (by omega)).look 1 rfl
  refine wp_walkJ (T := CalT g) (calT_pre g) (.rd 0 (.rd 1 (.rd 2 (.rd 3 (.rd 4 (.rd 5 (.rd 6 (.mv 7 (.bt 8 (.bt 9 (.inv []))))))))))) (by kernel_rfl) rfl (by kernel_rfl) (by kernel_rfl) ?_
  iterate 7 (refine walkJ_rd rfl (fun K hK => ?_); go_simp; refine hK _ ?_; clear hK K)
  clear z0 z1 z2 z3 z4 z5
  have hkd : CalB W.drew g k1 := CalB.below hkA (Below.refl W.heap.size W).drew
  have hzd := hzA.below (Below.refl W.heap.size W).drew
  (refine walkJ_mv rfl (fun K hK => ?_); go_simp; refine (S2.out _ hzd hkd).mono ?_; rintro e w2 ⟨rfl, hk2, ht2⟩; refine ⟨_, rfl, hK _ _ ht2 ?_⟩; clear hK K)
  have hz2 := hzd.calT hkd ht2
  (refine walkJ_bt rfl (fun K hK => ?_); go_simp; refine (S3.out _ hz2 hk2).mono ?_; rintro e w3 ⟨rfl, hk3, ht3⟩; refine ⟨_, rfl, hK _ _ ?_⟩; clear hK K)
  have hne : w.heap.size + 1 + 1 ≠ g := by omega
  have t3 := (calT_pre g).trans hd ((calT_pre g).trans ht2 ht3)
  have kr3 := CalT.blk t3 krA hne
  have hw3 := (calT_pre g).trans tA t3
  clear hd t3 krA tA kpA kqA kV hkA hzA hkd hzd ht2 ht3 hz2 hk2
  obtain ⟨n, hn⟩ : ∃ n, v3.num = n := ⟨_, rfl⟩
  obtain ⟨d, hd⟩ : ∃ n, (v3.den : Int) = n := ⟨_, rfl⟩
  rw [hn, hd]
  have HN := hid hn
  have HD := hid hd
  have q0 := kr3.look 0 rfl
  have q1 := kr3.look 1 rfl
  have f2 := kr3.frozen
  have k24 := (kr3.set 0 (.int .i64 n)).set 1 (.int .i64 d)
  have F1 := hid (Blk.other (Blk.other hk3 (p := ⟨w.heap.size + 1 + 1, 0, none⟩) (Ne.symm hne) (.int .i64 n)) (p := ⟨w.heap.size + 1 + 1, 1, none⟩) (Ne.symm hne) (.int .i64 d))
  have F2 := hid ((hw3.setOwn (p := ⟨w.heap.size + 1 + 1, 0, none⟩) (by show w.heap.size ≤ w.heap.size + 1 + 1; omega) (.int .i64 n)).setOwn (p := ⟨w.heap.size + 1 + 1, 1, none⟩) (by show w.heap.size ≤ w.heap.size + 1 + 1; omega) (.int .i64 d))
  have r0 : _ = some (Value.int .i64 n) := k24.look 0 rfl
  have r1 : _ = some (Value.int .i64 d) := k24.look 1 rfl
  have R0 := hid r0
  have R1 := hid r1
  clear hn hd hk3 kr3 k24 r0 r1 hw3
  (refine walkJ_bt rfl (fun K hK => ?_); go_simp; refine hK _ _ ?_; clear hK K)
  refine walkJ_nil ?_
  go_wp2
  refine bodyPost_ret (v := .agg #[.int .i64 n, .int .i64 d]) ?_ rfl ⟨by rw [HN.out, HD.out], F1.out, F2.out⟩
  have r0 := R0.out
  have r1 := R1.out
  simp [results, Tryd.results59, go_sem, r0, r1]

end Go.Proofs.YtfkclcoipadhmaaDoor
