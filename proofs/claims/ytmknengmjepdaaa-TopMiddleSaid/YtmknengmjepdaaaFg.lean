/- Walks of trankref01.Sub, trankref04.Weight. -/
import Derived.Test.YtmknengmjepdaaaFf
import Derived.Test.YtmknengmjepdaaaPx
namespace Go.Proofs.Ytmknengmjepdaaa
open Go.RowKit
attribute [local irreducible] seqS seqST walkV

set_option maxHeartbeats 2000000 in
set_option maxRecDepth 100000 in
theorem rSub_any (a b c e : Int) (w : World) :
    Calls Try.prog 106 #[.agg #[.int .i64 a, .int .i64 b], .agg #[.int .i64 c, .int .i64 e]] w fun r w' => r = .returned (.tuple #[frV (subN a b c e) (subD a b c e), .int .i64 (subE a b c e)]) ∧ Below w.heap.size w w' := by
  go_enter Try.func106, Try.ntmps106
  go_wp2_with fail
  have k0 := ((Blk.new w #[.int .i64 a, .int .i64 b] 26).alloc (.cells #[.int .i64 c, .int .i64 e] 26)).alloc (.cells #[.int .i64 0, .int .i64 0] 26)
  have k1 := (Blk.new (w.alloc (.cells #[.int .i64 a, .int .i64 b] 26)) #[.int .i64 c, .int .i64 e] 26).alloc (.cells #[.int .i64 0, .int .i64 0] 26)
  have k2 := Blk.new ((w.alloc (.cells #[.int .i64 a, .int .i64 b] 26)).alloc (.cells #[.int .i64 c, .int .i64 e] 26)) #[.int .i64 0, .int .i64 0] 26
  have b0 := (((Below.refl w.heap.size w).alloc (Nat.le_refl _) (.cells #[.int .i64 a, .int .i64 b] 26)).alloc (by simp) (.cells #[.int .i64 c, .int .i64 e] 26)).alloc (by simp <;> omega) (.cells #[.int .i64 0, .int .i64 0] 26)
  simp only [World.size_alloc] at k1 k2
  obtain ⟨w0, hw0⟩ : ∃ w0, ((w.alloc (.cells #[.int .i64 a, .int .i64 b] 26)).alloc (.cells #[.int .i64 c, .int .i64 e] 26)).alloc (.cells #[.int .i64 0, .int .i64 0] 26) = w0 := ⟨_, rfl⟩
  rw [hw0] at k0 k1 k2 b0 ⊢
  clear hw0
  refine (Valid_any a b _).mono ?_
  rintro r w1 ⟨rfl, hb1⟩
  have b1 := b0.trans (hb1.mono b0.size)
  have k01 := k0.below hb1
  have k11 := k1.below hb1
  have k21 := k2.below hb1
  clear k0 k1 k2 b0 hb1
  have f2 := k21.frozen
  have q0 := k21.look 0 rfl
  have q1 := k21.look 1 rfl
  have r0 := k21.cell 0
  have r1 := k21.cell 1
  have c2 := k11.look 0 rfl
  have c3 := k11.look 1 rfl
  by_cases h1 : FV a b
  · rw [decide_eq_true h1]
    have H1 := hid h1
    clear h1
    go_wp2_with fail
    refine (Valid_any c e _).mono ?_
    rintro r w2 ⟨rfl, hb2⟩
    have b2 := b1.trans (hb2.mono b1.size)
    have k02 := k01.below hb2
    have k12 := k11.below hb2
    have k22 := k21.below hb2
    clear k01 k11 k21 b1 hb2 f2 q0 q1 r0 r1 c2 c3
    by_cases h2 : FV c e
    · rw [decide_eq_true h2]
      have h1 := H1.out
      have OA := hid (fun w => Of_any a b w (by have := h1.2.2.1; omega) (by have := h1.2.2.2.1; omega) (by have := h1.1; omega) (by have := h1.2.1; omega) (by have := h1.1; omega))
      have OC := hid (fun w => Of_any c e w (by have := h2.2.2.1; omega) (by have := h2.2.2.2.1; omega) (by have := h2.1; omega) (by have := h2.2.1; omega) (by have := h2.1; omega))
      have S1 := hid ((QS_of (n := a) (d := b) (by have := h1.2.2.1; omega) (by have := h1.2.2.2.1; omega) (by have := h1.1; omega) (by have := h1.2.1; omega) (by have := h1.1; omega)).mono (k' := 268435456) (by decide))
      have S2 := hid ((QS_of (n := c) (d := e) (by have := h2.2.2.1; omega) (by have := h2.2.2.2.1; omega) (by have := h2.1; omega) (by have := h2.2.1; omega) (by have := h2.1; omega)).mono (k' := 268435456) (by decide))
      obtain ⟨N, hN⟩ : ∃ N, subN a b c e = N := ⟨_, rfl⟩
      obtain ⟨D, hD⟩ : ∃ N, subD a b c e = N := ⟨_, rfl⟩
      obtain ⟨E, hE⟩ : ∃ N, subE a b c e = N := ⟨_, rfl⟩
      have e1 : fitN ((a : Rat) / (b : Rat) - (c : Rat) / (e : Rat)) = N := by rw [← hN]; exact (if_pos ⟨h1, h2⟩).symm
      have e2 : fitD ((a : Rat) / (b : Rat) - (c : Rat) / (e : Rat)) = D := by rw [← hD]; exact (if_pos ⟨h1, h2⟩).symm
      have e3 : fitE ((a : Rat) / (b : Rat) - (c : Rat) / (e : Rat)) = E := by rw [← hE]; exact (if_pos ⟨h1, h2⟩).symm
      have AN : Hid (∀ v w, QR w v ((a : Rat) / (b : Rat) - (c : Rat) / (e : Rat)) → Calls Try.prog 110 #[v] w fun r w' => r = .returned (.tuple #[frV N D, .int .i64 E]) ∧ Below w.heap.size w w') := hid (fun v w h => by
        have := answer_any _ v w h
        rw [e1, e2, e3] at this
        exact this)
      have HN := hid hN
      have HD := hid hD
      have HE := hid hE
      clear h1 h2 hN hD hE e1 e2 e3
      go_wp2_with fail
      have hd : Below w2.heap.size w2 w2.drew := (Below.refl _ _).drew
      have z0 := fun x : SubT (Below w2.heap.size) w2.drew => (k02.below (hd.trans x.b)).look 0 rfl
      have z1 := fun x : SubT (Below w2.heap.size) w2.drew => (k02.below (hd.trans x.b)).look 1 rfl
      have z2 := fun x : SubT (Below w2.heap.size) w2.drew => (k12.below (hd.trans x.b)).look 0 rfl
      have z3 := fun x : SubT (Below w2.heap.size) w2.drew => (k12.below (hd.trans x.b)).look 1 rfl
      refine wp_walkV (T := Below (w2.heap.size)) (belowV_pre _) (.rd 0 (.rd 2 (.mv 1 (.bt 3 (.bt 4 (.bt 5 (.rd 6 (.rd 7 (.bt 8 (.rd 9 .nil)))))))))) (by kernel_rfl) rfl rfl (by kernel_rfl) (by kernel_rfl) ?_
      iterate 2 (refine walkV_rd rfl (fun K hK => ?_); go_simp; refine hK _ ?_; clear hK K)
      clear z0 z1 z2 z3
      (refine walkV_mv rfl (fun K hK => ?_); go_simp; refine (OA.out _).mono ?_; rintro r w3 ⟨v1, rfl, h1, hb3⟩; refine ⟨_, rfl, hK _ _ hb3 ?_⟩; clear hK K)
      (refine walkV_bt rfl (fun K hK => ?_); go_simp; refine (OC.out _).mono ?_; rintro r w4 ⟨v2, rfl, h2, hb4⟩; refine ⟨_, rfl, hK _ _ ?_⟩; clear hK K)
      (refine walkV_bt rfl (fun K hK => ?_); go_simp; refine (Less_any _ _ _ _ _ (h1.below hb4).rat h2.rat S1.out S2.out).mono ?_; rintro r w5 ⟨v3, rfl, h3, hb5⟩; refine ⟨_, rfl, hK _ _ ?_⟩; clear hK K)
      (refine walkV_bt rfl (fun K hK => ?_); go_simp; refine (AN.out _ _ h3.rat).mono ?_; rintro r w6 ⟨rfl, hb6⟩; refine ⟨_, rfl, hK _ _ ?_⟩; clear hK K)
      iterate 2 (refine walkV_rd rfl (fun K hK => ?_); go_simp; refine hK _ ?_; clear hK K)
      have hbz : Below w2.heap.size w2 w6 := ((hd.trans hb3).trans (hb4.mono hb3.size)).trans ((hb5.trans (hb6.mono hb5.size)).mono (Nat.le_trans hb3.size hb4.size))
      have k26 := k22.below hbz
      have b6 := b2.trans (hbz.mono b2.size)
      have f2 := k26.frozen
      have q0 := k26.look 0 rfl
      have q1 := k26.look 1 rfl
      have r0 := k26.cell 0
      have r1 := k26.cell 1
      (refine walkV_bt rfl (fun K hK => ?_); go_simp; refine hK _ _ ?_; clear hK K)
      iterate 1 (refine walkV_rd rfl (fun K hK => ?_); go_simp; refine hK _ ?_; clear hK K)
      refine walkV_nil ?_
      go_wp2
      refine bodyPost_ret (v := .tuple #[frV N D, .int .i64 E]) ?_ rfl ⟨by rw [HN.out, HD.out, HE.out], (b6.setCell (p := ⟨w.heap.size + 1 + 1, 0, none⟩) (by show w.heap.size ≤ w.heap.size + 1 + 1; omega) _).setCell (p := ⟨w.heap.size + 1 + 1, 1, none⟩) (by show w.heap.size ≤ w.heap.size + 1 + 1; omega) _⟩
      simp [results, Try.results106, go_sem, r0, r1]
    · rw [decide_eq_false h2]
      have hfv : ¬ (FV a b ∧ FV c e) := fun hh => h2 hh.2
      have f2 := k22.frozen
      have q0 := k22.look 0 rfl
      have q1 := k22.look 1 rfl
      have r0 := k22.cell 0
      have r1 := k22.cell 1
      go_wp2
      refine bodyPost_ret (v := .tuple #[frV 0 0, .int .i64 2]) ?_ rfl ⟨by rw [show subN a b c e = 0 from if_neg hfv, show subD a b c e = 0 from if_neg hfv, show subE a b c e = 2 from if_neg hfv], (b2.setCell (p := ⟨w.heap.size + 1 + 1, 0, none⟩) (by show w.heap.size ≤ w.heap.size + 1 + 1; omega) _).setCell (p := ⟨w.heap.size + 1 + 1, 1, none⟩) (by show w.heap.size ≤ w.heap.size + 1 + 1; omega) _⟩
      simp [results, Try.results106, go_sem, r0, r1]
  · rw [decide_eq_false h1]
    have hfv : ¬ (FV a b ∧ FV c e) := fun hh => h1 hh.1
    go_wp2
    refine bodyPost_ret (v := .tuple #[frV 0 0, .int .i64 2]) ?_ rfl ⟨by rw [show subN a b c e = 0 from if_neg hfv, show subD a b c e = 0 from if_neg hfv, show subE a b c e = 2 from if_neg hfv], (b1.setCell (p := ⟨w.heap.size + 1 + 1, 0, none⟩) (by show w.heap.size ≤ w.heap.size + 1 + 1; omega) _).setCell (p := ⟨w.heap.size + 1 + 1, 1, none⟩) (by show w.heap.size ≤ w.heap.size + 1 + 1; omega) _⟩
    simp [results, Try.results106, go_sem, r0, r1]

set_option maxHeartbeats 2000000 in
set_option maxRecDepth 100000 in
theorem Weight_any (m : Int) (r : Rul) (n d : Int) (w : World) (hr : RV m r) (hs : FSize n d) :
    Calls Try.prog 107 #[.agg #[.int .i64 r.a, .int .i64 r.b, .int .i64 r.c, .int .i64 r.d], .agg #[.int .i64 n, .int .i64 d]] w fun e w' => e = .returned (frV (newN (wt r n d) d) (newD (wt r n d) d)) ∧ Below w.heap.size w w' := by
  have WT := hid (fun w => weight_any m r n d w hr hs)
  have hwl := wt_le hr hs
  have NW := hid (fun w => New_any (wt r n d) d w (by omega) (by omega) (by have := hs.1.1; omega) (by have := hs.1.2.1; omega))
  obtain ⟨ra, rb, rc, rd⟩ := r
  obtain ⟨N, hN⟩ : ∃ N, newN (wt ⟨ra, rb, rc, rd⟩ n d) d = N := ⟨_, rfl⟩
  obtain ⟨D, hD⟩ : ∃ N, newD (wt ⟨ra, rb, rc, rd⟩ n d) d = N := ⟨_, rfl⟩
  obtain ⟨E, hE⟩ : ∃ N, newE (wt ⟨ra, rb, rc, rd⟩ n d) d = N := ⟨_, rfl⟩
  rw [hN, hD, hE] at NW
  rw [hN, hD]
  obtain ⟨y, hy⟩ : ∃ y, wt ⟨ra, rb, rc, rd⟩ n d = y := ⟨_, rfl⟩
  rw [hy] at WT NW
  clear hN hD hE hy hwl hr hs
  go_enter Try.func107, Try.ntmps107
  go_wp2_with fail
  have k0 := ((Blk.new w #[.int .i64 ra, .int .i64 rb, .int .i64 rc, .int .i64 rd] 46).alloc (.cells #[.int .i64 n, .int .i64 d] 26)).alloc (.cells #[.int .i64 0, .int .i64 0] 26)
  have k1 := (Blk.new (w.alloc (.cells #[.int .i64 ra, .int .i64 rb, .int .i64 rc, .int .i64 rd] 46)) #[.int .i64 n, .int .i64 d] 26).alloc (.cells #[.int .i64 0, .int .i64 0] 26)
  have k2 := Blk.new ((w.alloc (.cells #[.int .i64 ra, .int .i64 rb, .int .i64 rc, .int .i64 rd] 46)).alloc (.cells #[.int .i64 n, .int .i64 d] 26)) #[.int .i64 0, .int .i64 0] 26
  have b0 := (((Below.refl w.heap.size w).alloc (Nat.le_refl _) (.cells #[.int .i64 ra, .int .i64 rb, .int .i64 rc, .int .i64 rd] 46)).alloc (by simp) (.cells #[.int .i64 n, .int .i64 d] 26)).alloc (by simp <;> omega) (.cells #[.int .i64 0, .int .i64 0] 26)
  simp only [World.size_alloc] at k1 k2
  obtain ⟨w0, hw0⟩ : ∃ w0, ((w.alloc (.cells #[.int .i64 ra, .int .i64 rb, .int .i64 rc, .int .i64 rd] 46)).alloc (.cells #[.int .i64 n, .int .i64 d] 26)).alloc (.cells #[.int .i64 0, .int .i64 0] 26) = w0 := ⟨_, rfl⟩
  rw [hw0] at k0 k1 k2 b0 ⊢
  clear hw0
  have hd : Below w0.heap.size w0 w0.drew := (Below.refl _ _).drew
  have z0 := fun x : SubT (Below w0.heap.size) w0.drew => (k0.below (hd.trans x.b)).look 0 rfl
  have z1 := fun x : SubT (Below w0.heap.size) w0.drew => (k0.below (hd.trans x.b)).look 1 rfl
  have z2 := fun x : SubT (Below w0.heap.size) w0.drew => (k0.below (hd.trans x.b)).look 2 rfl
  have z3 := fun x : SubT (Below w0.heap.size) w0.drew => (k0.below (hd.trans x.b)).look 3 rfl
  have z4 := fun x : SubT (Below w0.heap.size) w0.drew => (k1.below (hd.trans x.b)).look 0 rfl
  have z5 := fun x : SubT (Below w0.heap.size) w0.drew => (k1.below (hd.trans x.b)).look 1 rfl
  refine wp_walkV (T := Below (w0.heap.size)) (belowV_pre _) (.rd 0 (.rd 1 (.rd 3 (.rd 4 (.two 2 (.two 5 (.rd 6 (.rd 7 (.rd 8 (.mv 9 (.mv 10 (.rd 11 .nil)))))) 9 (.mv 5 (.rd 6 (.rd 7 (.rd 8 (.mv 10 (.rd 11 .nil))))))) 9 (.mv 2 (.mv 5 (.rd 6 (.rd 7 (.rd 8 (.mv 10 (.rd 11 .nil)))))))))))) (by kernel_rfl) rfl rfl (by kernel_rfl) (by kernel_rfl) ?_
  iterate 4 (refine walkV_rd rfl (fun K hK => ?_); go_simp; refine hK _ ?_; clear hK K)
  clear z0 z1 z2 z3 z4 z5
  obtain ⟨BB, hBB⟩ : ∃ BB, w0.heap.size = BB := ⟨_, rfl⟩
  have HB := hid hBB
  obtain ⟨W, hW⟩ : ∃ W, w0.drew = W := ⟨_, rfl⟩
  have hs : BB ≤ W.heap.size := by rw [← hW, ← hBB]; exact Nat.le_refl _
  have bt : Below BB w0 W := by rw [← hW, ← hBB]; exact hd
  rw [hBB]
  rw [hW]
  clear hBB hW hd
  refine walkV_two rfl rfl (fun K hK => ?_) (fun K hK => ?_)
  · skip
    go_simp
    refine (WT.out _).mono ?_
    rintro e W ⟨rfl, hb⟩
    refine ⟨_, rfl, hK _ _ (hb.mono hs) ?_⟩
    clear hK K
    replace bt := bt.trans (hb.mono hs)
    replace hs := Nat.le_trans hs hb.size
    clear hb
    refine walkV_two rfl rfl (fun K hK => ?_) (fun K hK => ?_)
    · skip
      go_simp
      refine (NW.out _).mono ?_
      rintro e W ⟨rfl, hb⟩
      refine ⟨_, rfl, hK _ _ (hb.mono hs) ?_⟩
      clear hK K
      replace bt := bt.trans (hb.mono hs)
      replace hs := Nat.le_trans hs hb.size
      clear hb
      iterate 3 (refine walkV_rd rfl (fun K hK => ?_); go_simp; refine hK _ ?_; clear hK K)
      refine walkV_mv rfl (fun K hK => ?_)
      go_simp
      refine hK _ _ ((Below.refl _ _).alloc hs _) ?_
      clear hK K
      have kA := Blk.new W #[.int .i64 0, .int .i64 0] 26
      have hb := (Below.refl W.heap.size W).alloc (Nat.le_refl _) (.cells #[.int .i64 0, .int .i64 0] 26)
      have hA := hs
      generalize W.heap.size = bA at kA hA ⊢
      generalize W.alloc (.cells #[.int .i64 0, .int .i64 0] 26) = W at kA hb ⊢
      replace bt := bt.trans (hb.mono hs)
      replace hs := Nat.le_trans hs hb.size
      clear hb
      have qA0 := kA.look 0 rfl
      have qA1 := kA.look 1 rfl
      have fA := kA.frozen
      have kA2 := (kA.set 0 (.int .i64 N)).set 1 (.int .i64 D)
      have bA2 : Below BB W ((W.setCell ⟨bA, 0, none⟩ (.int .i64 N)).setCell ⟨bA, 1, none⟩ (.int .i64 D)) := ((Below.refl _ _).setCell (p := ⟨bA, 0, none⟩) hA _).setCell (p := ⟨bA, 1, none⟩) hA _
      refine walkV_mv rfl (fun K hK => ?_)
      go_simp
      refine hK _ _ bA2 ?_
      clear hK K
      clear qA0 qA1 fA kA
      iterate 1 (refine walkV_rd rfl (fun K hK => ?_); go_simp; refine hK _ ?_; clear hK K)
      refine walkV_nil ?_
      have bz := bt.trans bA2
      generalize (W.setCell ⟨bA, 0, none⟩ (.int .i64 N)).setCell ⟨bA, 1, none⟩ (.int .i64 D) = wz at kA2 bz ⊢
      have k2z := k2.below (below_eq bz HB.out.symm)
      have bfin := b0.trans ((below_eq bz HB.out.symm).mono b0.size)
      have e0 := kA2.look 0 rfl
      have e1 := kA2.look 1 rfl
      have f2 := k2z.frozen
      have q0 := k2z.look 0 rfl
      have q1 := k2z.look 1 rfl
      have r0 := k2z.cell 0
      have r1 := k2z.cell 1
      go_wp2
      refine bodyPost_ret (v := frV N D) ?_ rfl ⟨rfl, (bfin.setCell (p := ⟨w.heap.size + 1 + 1, 0, none⟩) (by show w.heap.size ≤ w.heap.size + 1 + 1; omega) _).setCell (p := ⟨w.heap.size + 1 + 1, 1, none⟩) (by show w.heap.size ≤ w.heap.size + 1 + 1; omega) _⟩
      simp [results, Try.results107, go_sem, r0, r1]
    · skip
      go_simp
      refine hK _ _ ((Below.refl _ _).alloc hs _) ?_
      clear hK K
      have kA := Blk.new W #[.int .i64 0, .int .i64 0] 26
      have hb := (Below.refl W.heap.size W).alloc (Nat.le_refl _) (.cells #[.int .i64 0, .int .i64 0] 26)
      have hA := hs
      generalize W.heap.size = bA at kA hA ⊢
      generalize W.alloc (.cells #[.int .i64 0, .int .i64 0] 26) = W at kA hb ⊢
      replace bt := bt.trans (hb.mono hs)
      replace hs := Nat.le_trans hs hb.size
      clear hb
      refine walkV_mv rfl (fun K hK => ?_)
      go_simp
      refine (NW.out _).mono ?_
      rintro e W ⟨rfl, hb⟩
      refine ⟨_, rfl, hK _ _ (hb.mono hs) ?_⟩
      clear hK K
      replace kA := kA.below hb
      replace bt := bt.trans (hb.mono hs)
      replace hs := Nat.le_trans hs hb.size
      clear hb
      iterate 3 (refine walkV_rd rfl (fun K hK => ?_); go_simp; refine hK _ ?_; clear hK K)
      have qA0 := kA.look 0 rfl
      have qA1 := kA.look 1 rfl
      have fA := kA.frozen
      have kA2 := (kA.set 0 (.int .i64 N)).set 1 (.int .i64 D)
      have bA2 : Below BB W ((W.setCell ⟨bA, 0, none⟩ (.int .i64 N)).setCell ⟨bA, 1, none⟩ (.int .i64 D)) := ((Below.refl _ _).setCell (p := ⟨bA, 0, none⟩) hA _).setCell (p := ⟨bA, 1, none⟩) hA _
      refine walkV_mv rfl (fun K hK => ?_)
      go_simp
      refine hK _ _ bA2 ?_
      clear hK K
      clear qA0 qA1 fA kA
      iterate 1 (refine walkV_rd rfl (fun K hK => ?_); go_simp; refine hK _ ?_; clear hK K)
      refine walkV_nil ?_
      have bz := bt.trans bA2
      generalize (W.setCell ⟨bA, 0, none⟩ (.int .i64 N)).setCell ⟨bA, 1, none⟩ (.int .i64 D) = wz at kA2 bz ⊢
      have k2z := k2.below (below_eq bz HB.out.symm)
      have bfin := b0.trans ((below_eq bz HB.out.symm).mono b0.size)
      have e0 := kA2.look 0 rfl
      have e1 := kA2.look 1 rfl
      have f2 := k2z.frozen
      have q0 := k2z.look 0 rfl
      have q1 := k2z.look 1 rfl
      have r0 := k2z.cell 0
      have r1 := k2z.cell 1
      go_wp2
      refine bodyPost_ret (v := frV N D) ?_ rfl ⟨rfl, (bfin.setCell (p := ⟨w.heap.size + 1 + 1, 0, none⟩) (by show w.heap.size ≤ w.heap.size + 1 + 1; omega) _).setCell (p := ⟨w.heap.size + 1 + 1, 1, none⟩) (by show w.heap.size ≤ w.heap.size + 1 + 1; omega) _⟩
      simp [results, Try.results107, go_sem, r0, r1]
  · skip
    go_simp
    refine hK _ _ ((Below.refl _ _).alloc hs _) ?_
    clear hK K
    have kA := Blk.new W #[.int .i64 0, .int .i64 0] 26
    have hb := (Below.refl W.heap.size W).alloc (Nat.le_refl _) (.cells #[.int .i64 0, .int .i64 0] 26)
    have hA := hs
    generalize W.heap.size = bA at kA hA ⊢
    generalize W.alloc (.cells #[.int .i64 0, .int .i64 0] 26) = W at kA hb ⊢
    replace bt := bt.trans (hb.mono hs)
    replace hs := Nat.le_trans hs hb.size
    clear hb
    refine walkV_mv rfl (fun K hK => ?_)
    go_simp
    refine (WT.out _).mono ?_
    rintro e W ⟨rfl, hb⟩
    refine ⟨_, rfl, hK _ _ (hb.mono hs) ?_⟩
    clear hK K
    replace kA := kA.below hb
    replace bt := bt.trans (hb.mono hs)
    replace hs := Nat.le_trans hs hb.size
    clear hb
    refine walkV_mv rfl (fun K hK => ?_)
    go_simp
    refine (NW.out _).mono ?_
    rintro e W ⟨rfl, hb⟩
    refine ⟨_, rfl, hK _ _ (hb.mono hs) ?_⟩
    clear hK K
    replace kA := kA.below hb
    replace bt := bt.trans (hb.mono hs)
    replace hs := Nat.le_trans hs hb.size
    clear hb
    iterate 3 (refine walkV_rd rfl (fun K hK => ?_); go_simp; refine hK _ ?_; clear hK K)
    have qA0 := kA.look 0 rfl
    have qA1 := kA.look 1 rfl
    have fA := kA.frozen
    have kA2 := (kA.set 0 (.int .i64 N)).set 1 (.int .i64 D)
    have bA2 : Below BB W ((W.setCell ⟨bA, 0, none⟩ (.int .i64 N)).setCell ⟨bA, 1, none⟩ (.int .i64 D)) := ((Below.refl _ _).setCell (p := ⟨bA, 0, none⟩) hA _).setCell (p := ⟨bA, 1, none⟩) hA _
    refine walkV_mv rfl (fun K hK => ?_)
    go_simp
    refine hK _ _ bA2 ?_
    clear hK K
    clear qA0 qA1 fA kA
    iterate 1 (refine walkV_rd rfl (fun K hK => ?_); go_simp; refine hK _ ?_; clear hK K)
    refine walkV_nil ?_
    have bz := bt.trans bA2
    generalize (W.setCell ⟨bA, 0, none⟩ (.int .i64 N)).setCell ⟨bA, 1, none⟩ (.int .i64 D) = wz at kA2 bz ⊢
    have k2z := k2.below (below_eq bz HB.out.symm)
    have bfin := b0.trans ((below_eq bz HB.out.symm).mono b0.size)
    have e0 := kA2.look 0 rfl
    have e1 := kA2.look 1 rfl
    have f2 := k2z.frozen
    have q0 := k2z.look 0 rfl
    have q1 := k2z.look 1 rfl
    have r0 := k2z.cell 0
    have r1 := k2z.cell 1
    go_wp2
    refine bodyPost_ret (v := frV N D) ?_ rfl ⟨rfl, (bfin.setCell (p := ⟨w.heap.size + 1 + 1, 0, none⟩) (by show w.heap.size ≤ w.heap.size + 1 + 1; omega) _).setCell (p := ⟨w.heap.size + 1 + 1, 1, none⟩) (by show w.heap.size ≤ w.heap.size + 1 + 1; omega) _⟩
    simp [results, Try.results107, go_sem, r0, r1]

end Go.Proofs.Ytmknengmjepdaaa
