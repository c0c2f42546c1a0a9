/- Walk of grade.Gap. -/
import Derived.Test.YtmknengmjepdaaaHd
import Derived.Test.YtmknengmjepdaaaHc
namespace Go.Proofs.Ytmknengmjepdaaa
open Go.RowKit
attribute [local irreducible] seqS seqST walkT

set_option maxHeartbeats 8000000 in
set_option maxRecDepth 100000 in
theorem gGap_any (p : Pat) (n d a b : Int) (v : Value) (w : World) (h : PatF 0 w v p) :
    Calls Try.prog 45 #[v, .agg #[.int .i64 n, .int .i64 d], .int .i64 a, .int .i64 b] w fun e w' => e = .returned (gapV p n d a b) ∧ Below w.heap.size w w' := by
  obtain ⟨sv, rfl, hsl⟩ := id h
  obtain ⟨Z, hZ⟩ : ∃ Z, clArr 0 (fun _ _ => NONE) = Z := ⟨_, rfl⟩
  have hz := (zero_of_info infoCl).1
  rw [hZ] at hz
  have HZ := hid hZ
  clear hZ
  go_enter Try.func45, Try.ntmps45
  go_wp2_with fail
  obtain ⟨w0, hw0, k0, k1, k2, hB, hsz⟩ := three_new w #[.int .i64 p.n, sv] #[.int .i64 n, .int .i64 d] #[.int .i64 0, .int .i64 0] 33 26 26
  rw [hw0]
  clear hw0
  have fin : Hid (∀ W, Below w.heap.size w0 W → Below w.heap.size w W) := hid (fun W hb => hB.trans hb)
  have h0 := h.below hB
  obtain ⟨S, hS⟩ : ∃ S, w.heap.size = S := ⟨_, rfl⟩
  rw [hS] at k0 k1 k2 hsz ⊢
  have HS := hid hS
  clear h hsl hB hS
  obtain ⟨gv, hgv⟩ : ∃ g, gapV p n d a b = g := ⟨_, rfl⟩
  have HGV := hid hgv
  clear hgv
  have c0 := k0.look 0 rfl
  have c1 := k0.look 1 rfl
  go_wp2_with fail
  refine (gValid_any p _ _ h0).mono ?_
  rintro e w1 ⟨rfl, b1⟩
  clear c0 c1
  by_cases hp : PValid p
  case neg =>
    rw [decide_eq_false hp]
    have HNO := hid (gapV_two (n := n) (d := d) (a := a) (b := b) (fun hh => hp hh.1))
    have k21 := k2.below b1
    have r0 := k21.cell 0
    have r1 := k21.cell 1
    have q0 := k21.look 0 rfl
    have q1 := k21.look 1 rfl
    have rf := k21.frozen
    have bz := ((b1.mono (show S ≤ w0.heap.size by omega)).setCell (p := ⟨S + 1 + 1, 0, none⟩) (by show S ≤ S + 1 + 1; omega) (.int .i64 0)).setCell (p := ⟨S + 1 + 1, 1, none⟩) (by show S ≤ S + 1 + 1; omega) (.int .i64 0)
    clear hp
    go_wp2
    refine bodyPost_ret (v := .tuple #[frV 0 0, .bool false, .int .i64 2]) ?_ rfl ⟨by rw [HNO.out], by rw [HS.out]; have := fin.out; rw [HS.out] at this; exact this _ bz⟩
    simp [results, Try.results45, go_sem, r0, r1]
  rw [decide_eq_true hp]
  have HP := hid hp
  clear hp
  have c0 := (k1.below b1).look 0 rfl
  have c1 := (k1.below b1).look 1 rfl
  go_wp2_with fail
  refine (sized_any n d _).mono ?_
  rintro e w2 ⟨rfl, hb2⟩
  have b2 := b1.trans (hb2.mono b1.size)
  clear c0 c1 hb2 b1
  have k02 := k0.below b2
  have k12 := k1.below b2
  have k22 := k2.below b2
  have c0 := k02.look 0 rfl
  have r0 := k22.cell 0
  have r1 := k22.cell 1
  have q0 := k22.look 0 rfl
  have q1 := k22.look 1 rfl
  have rf := k22.frozen
  have bs2 : Below S w0 w2 := b2.mono (by omega)
  have bz : Hid (∀ x y : Value, Below S w0 ((w2.setCell ⟨S + 1 + 1, 0, none⟩ x).setCell ⟨S + 1 + 1, 1, none⟩ y)) := hid (fun x y => (bs2.setCell (p := ⟨S + 1 + 1, 0, none⟩) (by show S ≤ S + 1 + 1; omega) x).setCell (p := ⟨S + 1 + 1, 1, none⟩) (by show S ≤ S + 1 + 1; omega) y)
  by_cases hs : FSize n d
  case neg =>
    rw [decide_eq_false hs]
    have HNO := hid (gapV_two (p := p) (a := a) (b := b) (fun hh => hs hh.2.1))
    clear hs
    go_wp2
    refine bodyPost_ret (v := .tuple #[frV 0 0, .bool false, .int .i64 2]) ?_ rfl ⟨by rw [HNO.out], by rw [HS.out]; have := fin.out; rw [HS.out] at this; exact this _ (bz.out _ _)⟩
    simp [results, Try.results45, go_sem, r0, r1]
  rw [decide_eq_true hs]
  have HF := hid hs
  clear hs
  have hcase : (a < b ∧ a ≤ b ∧ a < 0) ∨ (a < b ∧ a ≤ b ∧ ¬ a < 0 ∧ p.n ≤ b) ∨ (a < b ∧ a ≤ b ∧ ¬ a < 0 ∧ ¬ p.n ≤ b) ∨ (¬ a < b ∧ a ≤ b ∧ a < 0) ∨ (¬ a < b ∧ a ≤ b ∧ ¬ a < 0 ∧ p.n ≤ a) ∨ (¬ a < b ∧ a ≤ b ∧ ¬ a < 0 ∧ ¬ p.n ≤ a) ∨ (¬ a < b ∧ ¬ a ≤ b ∧ b < 0) ∨ (¬ a < b ∧ ¬ a ≤ b ∧ ¬ b < 0 ∧ p.n ≤ a) ∨ (¬ a < b ∧ ¬ a ≤ b ∧ ¬ b < 0 ∧ ¬ p.n ≤ a) := by omega
  rcases hcase with ⟨hab, hab2, n1⟩ | ⟨hab, hab2, n1, n2⟩ | ⟨hab, hab2, n1, n2⟩ | ⟨hab, hab2, n1⟩ | ⟨hab, hab2, n1, n2⟩ | ⟨hab, hab2, n1, n2⟩ | ⟨hab, hab2, n1⟩ | ⟨hab, hab2, n1, n2⟩ | ⟨hab, hab2, n1, n2⟩
  · have HNO := hid (gapV_two (n := n) (d := d) (fun hh => by have := hh.2.2; unfold gapIn at this; omega : ¬ (PValid p ∧ FSize n d ∧ gapIn p a b)))
    go_wp2
    refine bodyPost_ret (v := .tuple #[frV 0 0, .bool false, .int .i64 2]) ?_ rfl ⟨by rw [HNO.out], by rw [HS.out]; have := fin.out; rw [HS.out] at this; exact this _ (bz.out _ _)⟩
    simp [results, Try.results45, go_sem, r0, r1]
  · have HNO := hid (gapV_two (n := n) (d := d) (fun hh => by have := hh.2.2; unfold gapIn at this; omega : ¬ (PValid p ∧ FSize n d ∧ gapIn p a b)))
    go_wp2
    refine bodyPost_ret (v := .tuple #[frV 0 0, .bool false, .int .i64 2]) ?_ rfl ⟨by rw [HNO.out], by rw [HS.out]; have := fin.out; rw [HS.out] at this; exact this _ (bz.out _ _)⟩
    simp [results, Try.results45, go_sem, r0, r1]
  · have hin : gapIn p a b := by unfold gapIn; omega
    obtain ⟨A, rfl⟩ : ∃ A : Nat, a = A := ⟨a.toNat, by have := hin.1; omega⟩
    obtain ⟨C, rfl⟩ : ∃ C : Nat, b = C := ⟨b.toNat, by have := hin.2.2.1; omega⟩
    obtain ⟨N, hN⟩ : ∃ N : Nat, p.n = N := ⟨p.n.toNat, by have := HP.out.1; omega⟩
    have hAN : A < N := by have := hin.2.1; omega
    have hCN : C < N := by have := hin.2.2.2; omega
    have hN16 : N ≤ 16 := by have := HP.out.2.1; omega
    have HIN := hid hin
    have HN := hid hN
    rw [hN] at k02 h0 c0 n2 ⊢
    clear hin hN
    have c1 := k02.look 1 rfl
    have c2 := k12.look 0 rfl
    have c3 := k12.look 1 rfl
    go_wp2_with fail
    refine (checked_any p n d _ _ (h0.below b2)).mono ?_
    rintro e w3 ⟨⟨vx, rfl, -, -⟩, hb3⟩
    rw [leastE_of HP.out HF.out]
    have b3 := b2.trans (hb3.mono b2.size)
    have k03 := k02.below hb3
    have k13 := k12.below hb3
    have k23 := k22.below hb3
    have bs3 := bs2.trans (hb3.mono (show S ≤ w2.heap.size by have := k22.lt; omega))
    clear c0 c1 c2 c3 r0 r1 q0 q1 rf bz k02 k12 k22 bs2 n1 n2 hab hab2 b2 hb3
    obtain ⟨d1, hd1⟩ : ∃ b, chBad p n d = b := ⟨_, rfl⟩
    rw [hd1]
    have HD1 := hid hd1
    clear hd1
    cases d1 with
    | true =>
      rw [if_pos rfl]
      have HNO := hid (gapV_ten ⟨HP.out, HF.out, HIN.out⟩ HD1.out)
      have r0 := k23.cell 0
      have r1 := k23.cell 1
      have q0 := k23.look 0 rfl
      have q1 := k23.look 1 rfl
      have rf := k23.frozen
      have bz := (bs3.setCell (p := ⟨S + 1 + 1, 0, none⟩) (by show S ≤ S + 1 + 1; omega) (.int .i64 0)).setCell (p := ⟨S + 1 + 1, 1, none⟩) (by show S ≤ S + 1 + 1; omega) (.int .i64 0)
      go_wp2
      refine bodyPost_ret (v := .tuple #[frV 0 0, .bool false, .int .i64 10]) ?_ rfl ⟨by rw [HNO.out], by rw [HS.out]; have := fin.out; rw [HS.out] at this; exact this _ bz⟩
      simp [results, Try.results45, go_sem, r0, r1]
    | false =>
    rw [if_neg (by decide)]
    have c0 := k03.look 0 rfl
    have c1 := k03.look 1 rfl
    have c2 := k13.look 0 rfl
    have c3 := k13.look 1 rfl
    go_wp2_with fail
    refine (closed_any p n d _ _ (h0.below b3) HP.out HF.out ((chBad_iff HP.out HF.out).1 HD1.out)).mono ?_
    rintro e w4 ⟨rfl, hb4⟩
    rw [HN.out, Int.toNat_natCast]
    clear c0 c1 c2 c3
    have k14 := k13.below hb4
    have k24 := k23.below hb4
    have bs4 := bs3.trans (hb4.mono (show S ≤ w3.heap.size by have := k23.lt; omega))
    have hl4 := k24.lt
    clear k03 k13 k23 bs3 b3 hb4
    have kv := Blk.new w4 Z 122
    have kq := setRow_blk (cs' := clArr N (chainM p n d)) kv
    have k1q : Blk ((w4.alloc (.cells Z 122)).setRow w4.heap.size (clArr N (chainM p n d))) (S + 1) #[.int .i64 n, .int .i64 d] 26 := (setRow_other _ _ _ (by have := k14.lt; omega)).trans (k14.alloc (.cells Z 122))
    have k2q : Blk ((w4.alloc (.cells Z 122)).setRow w4.heap.size (clArr N (chainM p n d))) (S + 1 + 1) #[.int .i64 0, .int .i64 0] 26 := (setRow_other _ _ _ (by omega)).trans (k24.alloc (.cells Z 122))
    have bsq := setRow_below (bs4.alloc (show S ≤ w4.heap.size by omega) (.cells Z 122)) (show S ≤ w4.heap.size by omega) (clArr N (chainM p n d))
    have hZs : Z.size = (clArr N (chainM p n d)).size := by rw [← HZ.out, clArr_size, clArr_size]
    obtain ⟨wq, hwq⟩ : ∃ wq, (w4.alloc (.cells Z 122)).setRow w4.heap.size (clArr N (chainM p n d)) = wq := ⟨_, rfl⟩
    rw [hwq] at kq k1q k2q bsq
    obtain ⟨m, hm⟩ : ∃ m, chainM p n d A C = m := ⟨_, rfl⟩
    have hcm : chainM p n d (A : Int).toNat (C : Int).toNat = m := by rw [Int.toNat_natCast, Int.toNat_natCast, hm]
    have hI : I64 m := by rw [← hm]; exact chainM_I64 HP.out HF.out A C
    have HCM := hid hcm
    have HI := hid hI
    have hA16 : A < 16 := by omega
    have hC16 : C < 16 := by omega
    have hA162 : (A : Int) < 16 := by omega
    have hC162 : (C : Int) < 16 := by omega
    have cb := kq.look (256 + A * 16 + C) (clArr_b hA16 hC16)
    clear hcm hI
    by_cases hmn : m = NONE
    · have HNO := hid (gapV_none ⟨HP.out, HF.out, HIN.out⟩ HD1.out (by rw [HCM.out]; exact hmn))
      rw [onB_no (by rw [hm]; exact hmn)] at cb
      have r0 := k2q.cell 0
      have r1 := k2q.cell 1
      have q0 := k2q.look 0 rfl
      have q1 := k2q.look 1 rfl
      have rf := k2q.frozen
      have bz := (bsq.setCell (p := ⟨S + 1 + 1, 0, none⟩) (by show S ≤ S + 1 + 1; omega) (.int .i64 0)).setCell (p := ⟨S + 1 + 1, 1, none⟩) (by show S ≤ S + 1 + 1; omega) (.int .i64 0)
      clear hmn HCM HI hm
      go_wp2_with (first
        | (refine wpList_store_row rfl 122 (.tmp 13) (.tmp 51) rfl w4.heap.size (clArr N (chainM p n d)) rfl rfl 122 Z kv (cl_info _ _) hZs (cl_one _ _) ?_; rw [hwq]))
      refine bodyPost_ret (v := .tuple #[frV 0 0, .bool false, .int .i64 0]) ?_ rfl ⟨by rw [HNO.out], by rw [HS.out]; have := fin.out; rw [HS.out] at this; exact this _ bz⟩
      simp [results, Try.results45, go_sem, r0, r1]
    · have HNO := hid (gapV_yes ⟨HP.out, HF.out, HIN.out⟩ HD1.out (by rw [HCM.out]; exact hmn))
      rw [onB_yes hAN hCN (by rw [hm]; exact hmn)] at cb
      have hyes : gv = .tuple #[frV (newN m d) (newD m d), .bool true, .int .i64 0] := by rw [← HGV.out, HNO.out, HCM.out]
      have HYES := hid hyes
      have NEW : Hid (∀ w, Calls Try.prog 71 #[.int .i64 m, .int .i64 d] w fun e w' => e = .returned (.tuple #[frV (newN m d) (newD m d), .int .i64 (newE m d)]) ∧ Below w.heap.size w w') := hid (fun w => fNew_any m d w HI.out.1 HI.out.2 (by have := HF.out.1.1; omega) (by have := HF.out.1.2.1; omega))
      obtain ⟨xn, hxn⟩ : ∃ z, newN m d = z := ⟨_, rfl⟩
      obtain ⟨xd, hxd⟩ : ∃ z, newD m d = z := ⟨_, rfl⟩
      obtain ⟨xe, hxe⟩ : ∃ z, newE m d = z := ⟨_, rfl⟩
      rw [hxn, hxd] at HYES
      rw [hxn, hxd, hxe] at NEW
      have hw1 : onW N (chainM p n d) A C = m := by rw [onW_yes hAN hCN (by rw [hm]; exact hmn), hm]
      have HW1 := hid hw1
      clear hmn hyes hxn hxd hxe HNO HCM HI hm hw1
      go_wp2_with (first
        | (refine wpList_store_row rfl 122 (.tmp 13) (.tmp 51) rfl w4.heap.size (clArr N (chainM p n d)) rfl rfl 122 Z kv (cl_info _ _) hZs (cl_one _ _) ?_; rw [hwq]))
      clear cb kv hwq
      have hSB : S ≤ wq.heap.size := by have := bsq.size; have := k2q.lt; omega
      have hdw : Below wq.heap.size wq wq.drew := (Below.refl _ _).drew
      have z0 := fun x : SubT (Below wq.heap.size) wq.drew => ((kq.below (hdw.trans x.b)).look (A * 16 + C) (clArr_w hA16 hC16)).trans (congrArg (fun y => some (Value.int .i64 y)) HW1.out)
      have z2 := fun x : SubT (Below wq.heap.size) wq.drew => (k1q.below (hdw.trans x.b)).look 1 rfl
      refine wp_walk (T := Below (wq.heap.size)) (below_pre _) (.rd 0 (.rd 1 (.rd 2 (.rd 3 (.rd 4 (.rd 5 (.rd 6 (.rd 7 (.two 8 (.rd 9 (.rd 10 (.rd 11 (.mv 12 (.mv 13 (.rd 14 .nil)))))) 12 (.mv 8 (.rd 9 (.rd 10 (.rd 11 (.mv 13 (.rd 14 .nil))))))))))))))) (by kernel_rfl) rfl rfl (by kernel_rfl) (by kernel_rfl) ?_
      iterate 8 (refine walkT_rd rfl (fun K hK => ?_); go_simp; refine hK _ ?_; clear hK K)
      clear z0 z2
      obtain ⟨wd, hwd⟩ : ∃ wd, wq.drew = wd := ⟨_, rfl⟩
      have hsd : wq.heap.size = wd.heap.size := by rw [← hwd]; rfl
      rw [hwd] at hdw ⊢
      clear hwd
      refine walkT_two rfl rfl (fun K hK => ?_) (fun K hK => ?_)
      · go_simp
        refine (NEW.out _).mono ?_
        rintro e w5 ⟨rfl, hb5⟩
        have b5 : Below wq.heap.size wd w5 := hb5.mono (by omega)
        have hs5 := hb5.size
        refine ⟨_, rfl, hK _ _ b5 ?_⟩
        clear hK K
        iterate 3 (refine walkT_rd rfl (fun K hK => ?_); go_simp; refine hK _ ?_; clear hK K)
        (refine walkT_mv rfl (fun K hK => ?_); go_simp; refine hK _ _ ((Below.refl _ _).alloc (by omega) _) ?_; clear hK K)
        have kv := Blk.new w5 #[.int .i64 0, .int .i64 0] 26
        have v0 := kv.look 0 rfl
        have v1 := kv.look 1 rfl
        have vf := kv.frozen
        have kv5 := Blk.new w5 #[.int .i64 xn, .int .i64 xd] 26
        have bf0 : Below wq.heap.size (w5.alloc (.cells #[.int .i64 0, .int .i64 0] 26)) (w5.alloc (.cells #[.int .i64 xn, .int .i64 xd] 26)) := alloc_swap (by omega) _ _ _
        have bf := (hdw.trans (b5.alloc (by omega) (.cells #[.int .i64 0, .int .i64 0] 26))).trans bf0
        (refine walkT_mv rfl (fun K hK => ?_); go_simp; refine hK _ _ bf0 ?_; clear hK K)
        clear v0 v1 vf kv
        iterate 1 (refine walkT_rd rfl (fun K hK => ?_); go_simp; refine hK _ ?_; clear hK K)
        refine walkT_nil ?_
        clear hb5
        have k2f := k2q.below bf
        have c0 := kv5.look 0 rfl
        have c1 := kv5.look 1 rfl
        have r0 := k2f.cell 0
        have r1 := k2f.cell 1
        have q0 := k2f.look 0 rfl
        have q1 := k2f.look 1 rfl
        have rf := k2f.frozen
        have bsf := bsq.trans (bf.mono hSB)
        generalize (w5.alloc (.cells #[.int .i64 xn, .int .i64 xd] 26)) = wf at kv5 k2f bsf c0 c1 r0 r1 q0 q1 rf ⊢
        have bz : Below S w0 ((wf.setCell ⟨S + 1 + 1, 0, none⟩ (.int .i64 xn)).setCell ⟨S + 1 + 1, 1, none⟩ (.int .i64 xd)) := (bsf.setCell (p := ⟨S + 1 + 1, 0, none⟩) (by show S ≤ S + 1 + 1; omega) _).setCell (p := ⟨S + 1 + 1, 1, none⟩) (by show S ≤ S + 1 + 1; omega) _
        go_wp2
        refine bodyPost_ret (v := .tuple #[frV xn xd, .bool true, .int .i64 0]) ?_ rfl ⟨by rw [HGV.out, HYES.out], by rw [HS.out]; have := fin.out; rw [HS.out] at this; exact this _ bz⟩
        simp [results, Try.results45, go_sem, r0, r1]
      · go_simp
        have ba : Below wq.heap.size wd (wd.alloc (.cells #[.int .i64 0, .int .i64 0] 26)) := (Below.refl _ _).alloc (by omega) _
        have kv0 := Blk.new wd #[.int .i64 0, .int .i64 0] 26
        obtain ⟨wn, hwn⟩ : ∃ wn, wd.alloc (.cells #[.int .i64 0, .int .i64 0] 26) = wn := ⟨_, rfl⟩
        rw [hwn] at ba kv0 ⊢
        refine hK _ _ ba ?_
        clear hK K hwn
        have hsn' : wq.heap.size ≤ wn.heap.size := by have := ba.size; omega
        (refine walkT_mv rfl (fun K hK => ?_); go_simp; refine (NEW.out _).mono ?_; rintro e w5 ⟨rfl, hb5⟩; refine ⟨_, rfl, hK _ _ (hb5.mono hsn') ?_⟩; clear hK K)
        iterate 3 (refine walkT_rd rfl (fun K hK => ?_); go_simp; refine hK _ ?_; clear hK K)
        have kv := kv0.below hb5
        have v0 := kv.look 0 rfl
        have v1 := kv.look 1 rfl
        have vf := kv.frozen
        have kv5 := (kv.set 0 (.int .i64 xn)).set 1 (.int .i64 xd)
        have bf0 : Below wq.heap.size w5 ((w5.setCell ⟨wd.heap.size, 0, none⟩ (.int .i64 xn)).setCell ⟨wd.heap.size, 1, none⟩ (.int .i64 xd)) := ((Below.refl _ _).setCell (p := ⟨wd.heap.size, 0, none⟩) (by show wq.heap.size ≤ wd.heap.size; omega) _).setCell (p := ⟨wd.heap.size, 1, none⟩) (by show wq.heap.size ≤ wd.heap.size; omega) _
        have bf := (hdw.trans (ba.trans (hb5.mono hsn'))).trans bf0
        (refine walkT_mv rfl (fun K hK => ?_); go_simp; refine hK _ _ bf0 ?_; clear hK K)
        clear v0 v1 vf kv
        iterate 1 (refine walkT_rd rfl (fun K hK => ?_); go_simp; refine hK _ ?_; clear hK K)
        refine walkT_nil ?_
        clear hb5
        have k2f := k2q.below bf
        have c0 := kv5.look 0 rfl
        have c1 := kv5.look 1 rfl
        have r0 := k2f.cell 0
        have r1 := k2f.cell 1
        have q0 := k2f.look 0 rfl
        have q1 := k2f.look 1 rfl
        have rf := k2f.frozen
        have bsf := bsq.trans (bf.mono hSB)
        generalize ((w5.setCell ⟨wd.heap.size, 0, none⟩ (.int .i64 xn)).setCell ⟨wd.heap.size, 1, none⟩ (.int .i64 xd)) = wf at kv5 k2f bsf c0 c1 r0 r1 q0 q1 rf ⊢
        have bz : Below S w0 ((wf.setCell ⟨S + 1 + 1, 0, none⟩ (.int .i64 xn)).setCell ⟨S + 1 + 1, 1, none⟩ (.int .i64 xd)) := (bsf.setCell (p := ⟨S + 1 + 1, 0, none⟩) (by show S ≤ S + 1 + 1; omega) _).setCell (p := ⟨S + 1 + 1, 1, none⟩) (by show S ≤ S + 1 + 1; omega) _
        go_wp2
        refine bodyPost_ret (v := .tuple #[frV xn xd, .bool true, .int .i64 0]) ?_ rfl ⟨by rw [HGV.out, HYES.out], by rw [HS.out]; have := fin.out; rw [HS.out] at this; exact this _ bz⟩
        simp [results, Try.results45, go_sem, r0, r1]
  · have HNO := hid (gapV_two (n := n) (d := d) (fun hh => by have := hh.2.2; unfold gapIn at this; omega : ¬ (PValid p ∧ FSize n d ∧ gapIn p a b)))
    go_wp2
    refine bodyPost_ret (v := .tuple #[frV 0 0, .bool false, .int .i64 2]) ?_ rfl ⟨by rw [HNO.out], by rw [HS.out]; have := fin.out; rw [HS.out] at this; exact this _ (bz.out _ _)⟩
    simp [results, Try.results45, go_sem, r0, r1]
  · have HNO := hid (gapV_two (n := n) (d := d) (fun hh => by have := hh.2.2; unfold gapIn at this; omega : ¬ (PValid p ∧ FSize n d ∧ gapIn p a b)))
    go_wp2
    refine bodyPost_ret (v := .tuple #[frV 0 0, .bool false, .int .i64 2]) ?_ rfl ⟨by rw [HNO.out], by rw [HS.out]; have := fin.out; rw [HS.out] at this; exact this _ (bz.out _ _)⟩
    simp [results, Try.results45, go_sem, r0, r1]
  · have hin : gapIn p a b := by unfold gapIn; omega
    obtain ⟨A, rfl⟩ : ∃ A : Nat, a = A := ⟨a.toNat, by have := hin.1; omega⟩
    obtain ⟨C, rfl⟩ : ∃ C : Nat, b = C := ⟨b.toNat, by have := hin.2.2.1; omega⟩
    obtain ⟨N, hN⟩ : ∃ N : Nat, p.n = N := ⟨p.n.toNat, by have := HP.out.1; omega⟩
    have hAN : A < N := by have := hin.2.1; omega
    have hCN : C < N := by have := hin.2.2.2; omega
    have hN16 : N ≤ 16 := by have := HP.out.2.1; omega
    have HIN := hid hin
    have HN := hid hN
    rw [hN] at k02 h0 c0 n2 ⊢
    clear hin hN
    have c1 := k02.look 1 rfl
    have c2 := k12.look 0 rfl
    have c3 := k12.look 1 rfl
    go_wp2_with fail
    refine (checked_any p n d _ _ (h0.below b2)).mono ?_
    rintro e w3 ⟨⟨vx, rfl, -, -⟩, hb3⟩
    rw [leastE_of HP.out HF.out]
    have b3 := b2.trans (hb3.mono b2.size)
    have k03 := k02.below hb3
    have k13 := k12.below hb3
    have k23 := k22.below hb3
    have bs3 := bs2.trans (hb3.mono (show S ≤ w2.heap.size by have := k22.lt; omega))
    clear c0 c1 c2 c3 r0 r1 q0 q1 rf bz k02 k12 k22 bs2 n1 n2 hab hab2 b2 hb3
    obtain ⟨d1, hd1⟩ : ∃ b, chBad p n d = b := ⟨_, rfl⟩
    rw [hd1]
    have HD1 := hid hd1
    clear hd1
    cases d1 with
    | true =>
      rw [if_pos rfl]
      have HNO := hid (gapV_ten ⟨HP.out, HF.out, HIN.out⟩ HD1.out)
      have r0 := k23.cell 0
      have r1 := k23.cell 1
      have q0 := k23.look 0 rfl
      have q1 := k23.look 1 rfl
      have rf := k23.frozen
      have bz := (bs3.setCell (p := ⟨S + 1 + 1, 0, none⟩) (by show S ≤ S + 1 + 1; omega) (.int .i64 0)).setCell (p := ⟨S + 1 + 1, 1, none⟩) (by show S ≤ S + 1 + 1; omega) (.int .i64 0)
      go_wp2
      refine bodyPost_ret (v := .tuple #[frV 0 0, .bool false, .int .i64 10]) ?_ rfl ⟨by rw [HNO.out], by rw [HS.out]; have := fin.out; rw [HS.out] at this; exact this _ bz⟩
      simp [results, Try.results45, go_sem, r0, r1]
    | false =>
    rw [if_neg (by decide)]
    have c0 := k03.look 0 rfl
    have c1 := k03.look 1 rfl
    have c2 := k13.look 0 rfl
    have c3 := k13.look 1 rfl
    go_wp2_with fail
    refine (closed_any p n d _ _ (h0.below b3) HP.out HF.out ((chBad_iff HP.out HF.out).1 HD1.out)).mono ?_
    rintro e w4 ⟨rfl, hb4⟩
    rw [HN.out, Int.toNat_natCast]
    clear c0 c1 c2 c3
    have k14 := k13.below hb4
    have k24 := k23.below hb4
    have bs4 := bs3.trans (hb4.mono (show S ≤ w3.heap.size by have := k23.lt; omega))
    have hl4 := k24.lt
    clear k03 k13 k23 bs3 b3 hb4
    have kv := Blk.new w4 Z 122
    have kq := setRow_blk (cs' := clArr N (chainM p n d)) kv
    have k1q : Blk ((w4.alloc (.cells Z 122)).setRow w4.heap.size (clArr N (chainM p n d))) (S + 1) #[.int .i64 n, .int .i64 d] 26 := (setRow_other _ _ _ (by have := k14.lt; omega)).trans (k14.alloc (.cells Z 122))
    have k2q : Blk ((w4.alloc (.cells Z 122)).setRow w4.heap.size (clArr N (chainM p n d))) (S + 1 + 1) #[.int .i64 0, .int .i64 0] 26 := (setRow_other _ _ _ (by omega)).trans (k24.alloc (.cells Z 122))
    have bsq := setRow_below (bs4.alloc (show S ≤ w4.heap.size by omega) (.cells Z 122)) (show S ≤ w4.heap.size by omega) (clArr N (chainM p n d))
    have hZs : Z.size = (clArr N (chainM p n d)).size := by rw [← HZ.out, clArr_size, clArr_size]
    obtain ⟨wq, hwq⟩ : ∃ wq, (w4.alloc (.cells Z 122)).setRow w4.heap.size (clArr N (chainM p n d)) = wq := ⟨_, rfl⟩
    rw [hwq] at kq k1q k2q bsq
    obtain ⟨m, hm⟩ : ∃ m, chainM p n d A C = m := ⟨_, rfl⟩
    have hcm : chainM p n d (A : Int).toNat (C : Int).toNat = m := by rw [Int.toNat_natCast, Int.toNat_natCast, hm]
    have hI : I64 m := by rw [← hm]; exact chainM_I64 HP.out HF.out A C
    have HCM := hid hcm
    have HI := hid hI
    have hA16 : A < 16 := by omega
    have hC16 : C < 16 := by omega
    have hA162 : (A : Int) < 16 := by omega
    have hC162 : (C : Int) < 16 := by omega
    have cb := kq.look (256 + A * 16 + C) (clArr_b hA16 hC16)
    clear hcm hI
    by_cases hmn : m = NONE
    · have HNO := hid (gapV_none ⟨HP.out, HF.out, HIN.out⟩ HD1.out (by rw [HCM.out]; exact hmn))
      rw [onB_no (by rw [hm]; exact hmn)] at cb
      have r0 := k2q.cell 0
      have r1 := k2q.cell 1
      have q0 := k2q.look 0 rfl
      have q1 := k2q.look 1 rfl
      have rf := k2q.frozen
      have bz := (bsq.setCell (p := ⟨S + 1 + 1, 0, none⟩) (by show S ≤ S + 1 + 1; omega) (.int .i64 0)).setCell (p := ⟨S + 1 + 1, 1, none⟩) (by show S ≤ S + 1 + 1; omega) (.int .i64 0)
      clear hmn HCM HI hm
      go_wp2_with (first
        | (refine wpList_store_row rfl 122 (.tmp 13) (.tmp 51) rfl w4.heap.size (clArr N (chainM p n d)) rfl rfl 122 Z kv (cl_info _ _) hZs (cl_one _ _) ?_; rw [hwq]))
      refine bodyPost_ret (v := .tuple #[frV 0 0, .bool false, .int .i64 0]) ?_ rfl ⟨by rw [HNO.out], by rw [HS.out]; have := fin.out; rw [HS.out] at this; exact this _ bz⟩
      simp [results, Try.results45, go_sem, r0, r1]
    · have HNO := hid (gapV_yes ⟨HP.out, HF.out, HIN.out⟩ HD1.out (by rw [HCM.out]; exact hmn))
      rw [onB_yes hAN hCN (by rw [hm]; exact hmn)] at cb
      have hyes : gv = .tuple #[frV (newN m d) (newD m d), .bool true, .int .i64 0] := by rw [← HGV.out, HNO.out, HCM.out]
      have HYES := hid hyes
      have NEW : Hid (∀ w, Calls Try.prog 71 #[.int .i64 m, .int .i64 d] w fun e w' => e = .returned (.tuple #[frV (newN m d) (newD m d), .int .i64 (newE m d)]) ∧ Below w.heap.size w w') := hid (fun w => fNew_any m d w HI.out.1 HI.out.2 (by have := HF.out.1.1; omega) (by have := HF.out.1.2.1; omega))
      obtain ⟨xn, hxn⟩ : ∃ z, newN m d = z := ⟨_, rfl⟩
      obtain ⟨xd, hxd⟩ : ∃ z, newD m d = z := ⟨_, rfl⟩
      obtain ⟨xe, hxe⟩ : ∃ z, newE m d = z := ⟨_, rfl⟩
      rw [hxn, hxd] at HYES
      rw [hxn, hxd, hxe] at NEW
      have hw1 : onW N (chainM p n d) A C = m := by rw [onW_yes hAN hCN (by rw [hm]; exact hmn), hm]
      have HW1 := hid hw1
      clear hmn hyes hxn hxd hxe HNO HCM HI hm hw1
      go_wp2_with (first
        | (refine wpList_store_row rfl 122 (.tmp 13) (.tmp 51) rfl w4.heap.size (clArr N (chainM p n d)) rfl rfl 122 Z kv (cl_info _ _) hZs (cl_one _ _) ?_; rw [hwq]))
      clear cb kv hwq
      have hSB : S ≤ wq.heap.size := by have := bsq.size; have := k2q.lt; omega
      have hdw : Below wq.heap.size wq wq.drew := (Below.refl _ _).drew
      have z0 := fun x : SubT (Below wq.heap.size) wq.drew => ((kq.below (hdw.trans x.b)).look (A * 16 + C) (clArr_w hA16 hC16)).trans (congrArg (fun y => some (Value.int .i64 y)) HW1.out)
      have z2 := fun x : SubT (Below wq.heap.size) wq.drew => (k1q.below (hdw.trans x.b)).look 1 rfl
      refine wp_walk (T := Below (wq.heap.size)) (below_pre _) (.rd 0 (.rd 1 (.rd 2 (.rd 3 (.rd 4 (.rd 5 (.rd 6 (.rd 7 (.two 8 (.rd 9 (.rd 10 (.rd 11 (.mv 12 (.mv 13 (.rd 14 .nil)))))) 12 (.mv 8 (.rd 9 (.rd 10 (.rd 11 (.mv 13 (.rd 14 .nil))))))))))))))) (by kernel_rfl) rfl rfl (by kernel_rfl) (by kernel_rfl) ?_
      iterate 8 (refine walkT_rd rfl (fun K hK => ?_); go_simp; refine hK _ ?_; clear hK K)
      clear z0 z2
      obtain ⟨wd, hwd⟩ : ∃ wd, wq.drew = wd := ⟨_, rfl⟩
      have hsd : wq.heap.size = wd.heap.size := by rw [← hwd]; rfl
      rw [hwd] at hdw ⊢
      clear hwd
      refine walkT_two rfl rfl (fun K hK => ?_) (fun K hK => ?_)
      · go_simp
        refine (NEW.out _).mono ?_
        rintro e w5 ⟨rfl, hb5⟩
        have b5 : Below wq.heap.size wd w5 := hb5.mono (by omega)
        have hs5 := hb5.size
        refine ⟨_, rfl, hK _ _ b5 ?_⟩
        clear hK K
        iterate 3 (refine walkT_rd rfl (fun K hK => ?_); go_simp; refine hK _ ?_; clear hK K)
        (refine walkT_mv rfl (fun K hK => ?_); go_simp; refine hK _ _ ((Below.refl _ _).alloc (by omega) _) ?_; clear hK K)
        have kv := Blk.new w5 #[.int .i64 0, .int .i64 0] 26
        have v0 := kv.look 0 rfl
        have v1 := kv.look 1 rfl
        have vf := kv.frozen
        have kv5 := Blk.new w5 #[.int .i64 xn, .int .i64 xd] 26
        have bf0 : Below wq.heap.size (w5.alloc (.cells #[.int .i64 0, .int .i64 0] 26)) (w5.alloc (.cells #[.int .i64 xn, .int .i64 xd] 26)) := alloc_swap (by omega) _ _ _
        have bf := (hdw.trans (b5.alloc (by omega) (.cells #[.int .i64 0, .int .i64 0] 26))).trans bf0
        (refine walkT_mv rfl (fun K hK => ?_); go_simp; refine hK _ _ bf0 ?_; clear hK K)
        clear v0 v1 vf kv
        iterate 1 (refine walkT_rd rfl (fun K hK => ?_); go_simp; refine hK _ ?_; clear hK K)
        refine walkT_nil ?_
        clear hb5
        have k2f := k2q.below bf
        have c0 := kv5.look 0 rfl
        have c1 := kv5.look 1 rfl
        have r0 := k2f.cell 0
        have r1 := k2f.cell 1
        have q0 := k2f.look 0 rfl
        have q1 := k2f.look 1 rfl
        have rf := k2f.frozen
        have bsf := bsq.trans (bf.mono hSB)
        generalize (w5.alloc (.cells #[.int .i64 xn, .int .i64 xd] 26)) = wf at kv5 k2f bsf c0 c1 r0 r1 q0 q1 rf ⊢
        have bz : Below S w0 ((wf.setCell ⟨S + 1 + 1, 0, none⟩ (.int .i64 xn)).setCell ⟨S + 1 + 1, 1, none⟩ (.int .i64 xd)) := (bsf.setCell (p := ⟨S + 1 + 1, 0, none⟩) (by show S ≤ S + 1 + 1; omega) _).setCell (p := ⟨S + 1 + 1, 1, none⟩) (by show S ≤ S + 1 + 1; omega) _
        go_wp2
        refine bodyPost_ret (v := .tuple #[frV xn xd, .bool true, .int .i64 0]) ?_ rfl ⟨by rw [HGV.out, HYES.out], by rw [HS.out]; have := fin.out; rw [HS.out] at this; exact this _ bz⟩
        simp [results, Try.results45, go_sem, r0, r1]
      · go_simp
        have ba : Below wq.heap.size wd (wd.alloc (.cells #[.int .i64 0, .int .i64 0] 26)) := (Below.refl _ _).alloc (by omega) _
        have kv0 := Blk.new wd #[.int .i64 0, .int .i64 0] 26
        obtain ⟨wn, hwn⟩ : ∃ wn, wd.alloc (.cells #[.int .i64 0, .int .i64 0] 26) = wn := ⟨_, rfl⟩
        rw [hwn] at ba kv0 ⊢
        refine hK _ _ ba ?_
        clear hK K hwn
        have hsn' : wq.heap.size ≤ wn.heap.size := by have := ba.size; omega
        (refine walkT_mv rfl (fun K hK => ?_); go_simp; refine (NEW.out _).mono ?_; rintro e w5 ⟨rfl, hb5⟩; refine ⟨_, rfl, hK _ _ (hb5.mono hsn') ?_⟩; clear hK K)
        iterate 3 (refine walkT_rd rfl (fun K hK => ?_); go_simp; refine hK _ ?_; clear hK K)
        have kv := kv0.below hb5
        have v0 := kv.look 0 rfl
        have v1 := kv.look 1 rfl
        have vf := kv.frozen
        have kv5 := (kv.set 0 (.int .i64 xn)).set 1 (.int .i64 xd)
        have bf0 : Below wq.heap.size w5 ((w5.setCell ⟨wd.heap.size, 0, none⟩ (.int .i64 xn)).setCell ⟨wd.heap.size, 1, none⟩ (.int .i64 xd)) := ((Below.refl _ _).setCell (p := ⟨wd.heap.size, 0, none⟩) (by show wq.heap.size ≤ wd.heap.size; omega) _).setCell (p := ⟨wd.heap.size, 1, none⟩) (by show wq.heap.size ≤ wd.heap.size; omega) _
        have bf := (hdw.trans (ba.trans (hb5.mono hsn'))).trans bf0
        (refine walkT_mv rfl (fun K hK => ?_); go_simp; refine hK _ _ bf0 ?_; clear hK K)
        clear v0 v1 vf kv
        iterate 1 (refine walkT_rd rfl (fun K hK => ?_); go_simp; refine hK _ ?_; clear hK K)
        refine walkT_nil ?_
        clear hb5
        have k2f := k2q.below bf
        have c0 := kv5.look 0 rfl
        have c1 := kv5.look 1 rfl
        have r0 := k2f.cell 0
        have r1 := k2f.cell 1
        have q0 := k2f.look 0 rfl
        have q1 := k2f.look 1 rfl
        have rf := k2f.frozen
        have bsf := bsq.trans (bf.mono hSB)
        generalize ((w5.setCell ⟨wd.heap.size, 0, none⟩ (.int .i64 xn)).setCell ⟨wd.heap.size, 1, none⟩ (.int .i64 xd)) = wf at kv5 k2f bsf c0 c1 r0 r1 q0 q1 rf ⊢
        have bz : Below S w0 ((wf.setCell ⟨S + 1 + 1, 0, none⟩ (.int .i64 xn)).setCell ⟨S + 1 + 1, 1, none⟩ (.int .i64 xd)) := (bsf.setCell (p := ⟨S + 1 + 1, 0, none⟩) (by show S ≤ S + 1 + 1; omega) _).setCell (p := ⟨S + 1 + 1, 1, none⟩) (by show S ≤ S + 1 + 1; omega) _
        go_wp2
        refine bodyPost_ret (v := .tuple #[frV xn xd, .bool true, .int .i64 0]) ?_ rfl ⟨by rw [HGV.out, HYES.out], by rw [HS.out]; have := fin.out; rw [HS.out] at this; exact this _ bz⟩
        simp [results, Try.results45, go_sem, r0, r1]
  · have HNO := hid (gapV_two (n := n) (d := d) (fun hh => by have := hh.2.2; unfold gapIn at this; omega : ¬ (PValid p ∧ FSize n d ∧ gapIn p a b)))
    go_wp2
    refine bodyPost_ret (v := .tuple #[frV 0 0, .bool false, .int .i64 2]) ?_ rfl ⟨by rw [HNO.out], by rw [HS.out]; have := fin.out; rw [HS.out] at this; exact this _ (bz.out _ _)⟩
    simp [results, Try.results45, go_sem, r0, r1]
  · have HNO := hid (gapV_two (n := n) (d := d) (fun hh => by have := hh.2.2; unfold gapIn at this; omega : ¬ (PValid p ∧ FSize n d ∧ gapIn p a b)))
    go_wp2
    refine bodyPost_ret (v := .tuple #[frV 0 0, .bool false, .int .i64 2]) ?_ rfl ⟨by rw [HNO.out], by rw [HS.out]; have := fin.out; rw [HS.out] at this; exact this _ (bz.out _ _)⟩
    simp [results, Try.results45, go_sem, r0, r1]
  · have hin : gapIn p a b := by unfold gapIn; omega
    obtain ⟨A, rfl⟩ : ∃ A : Nat, a = A := ⟨a.toNat, by have := hin.1; omega⟩
    obtain ⟨C, rfl⟩ : ∃ C : Nat, b = C := ⟨b.toNat, by have := hin.2.2.1; omega⟩
    obtain ⟨N, hN⟩ : ∃ N : Nat, p.n = N := ⟨p.n.toNat, by have := HP.out.1; omega⟩
    have hAN : A < N := by have := hin.2.1; omega
    have hCN : C < N := by have := hin.2.2.2; omega
    have hN16 : N ≤ 16 := by have := HP.out.2.1; omega
    have HIN := hid hin
    have HN := hid hN
    rw [hN] at k02 h0 c0 n2 ⊢
    clear hin hN
    have c1 := k02.look 1 rfl
    have c2 := k12.look 0 rfl
    have c3 := k12.look 1 rfl
    go_wp2_with fail
    refine (checked_any p n d _ _ (h0.below b2)).mono ?_
    rintro e w3 ⟨⟨vx, rfl, -, -⟩, hb3⟩
    rw [leastE_of HP.out HF.out]
    have b3 := b2.trans (hb3.mono b2.size)
    have k03 := k02.below hb3
    have k13 := k12.below hb3
    have k23 := k22.below hb3
    have bs3 := bs2.trans (hb3.mono (show S ≤ w2.heap.size by have := k22.lt; omega))
    clear c0 c1 c2 c3 r0 r1 q0 q1 rf bz k02 k12 k22 bs2 n1 n2 hab hab2 b2 hb3
    obtain ⟨d1, hd1⟩ : ∃ b, chBad p n d = b := ⟨_, rfl⟩
    rw [hd1]
    have HD1 := hid hd1
    clear hd1
    cases d1 with
    | true =>
      rw [if_pos rfl]
      have HNO := hid (gapV_ten ⟨HP.out, HF.out, HIN.out⟩ HD1.out)
      have r0 := k23.cell 0
      have r1 := k23.cell 1
      have q0 := k23.look 0 rfl
      have q1 := k23.look 1 rfl
      have rf := k23.frozen
      have bz := (bs3.setCell (p := ⟨S + 1 + 1, 0, none⟩) (by show S ≤ S + 1 + 1; omega) (.int .i64 0)).setCell (p := ⟨S + 1 + 1, 1, none⟩) (by show S ≤ S + 1 + 1; omega) (.int .i64 0)
      go_wp2
      refine bodyPost_ret (v := .tuple #[frV 0 0, .bool false, .int .i64 10]) ?_ rfl ⟨by rw [HNO.out], by rw [HS.out]; have := fin.out; rw [HS.out] at this; exact this _ bz⟩
      simp [results, Try.results45, go_sem, r0, r1]
    | false =>
    rw [if_neg (by decide)]
    have c0 := k03.look 0 rfl
    have c1 := k03.look 1 rfl
    have c2 := k13.look 0 rfl
    have c3 := k13.look 1 rfl
    go_wp2_with fail
    refine (closed_any p n d _ _ (h0.below b3) HP.out HF.out ((chBad_iff HP.out HF.out).1 HD1.out)).mono ?_
    rintro e w4 ⟨rfl, hb4⟩
    rw [HN.out, Int.toNat_natCast]
    clear c0 c1 c2 c3
    have k14 := k13.below hb4
    have k24 := k23.below hb4
    have bs4 := bs3.trans (hb4.mono (show S ≤ w3.heap.size by have := k23.lt; omega))
    have hl4 := k24.lt
    clear k03 k13 k23 bs3 b3 hb4
    have kv := Blk.new w4 Z 122
    have kq := setRow_blk (cs' := clArr N (chainM p n d)) kv
    have k1q : Blk ((w4.alloc (.cells Z 122)).setRow w4.heap.size (clArr N (chainM p n d))) (S + 1) #[.int .i64 n, .int .i64 d] 26 := (setRow_other _ _ _ (by have := k14.lt; omega)).trans (k14.alloc (.cells Z 122))
    have k2q : Blk ((w4.alloc (.cells Z 122)).setRow w4.heap.size (clArr N (chainM p n d))) (S + 1 + 1) #[.int .i64 0, .int .i64 0] 26 := (setRow_other _ _ _ (by omega)).trans (k24.alloc (.cells Z 122))
    have bsq := setRow_below (bs4.alloc (show S ≤ w4.heap.size by omega) (.cells Z 122)) (show S ≤ w4.heap.size by omega) (clArr N (chainM p n d))
    have hZs : Z.size = (clArr N (chainM p n d)).size := by rw [← HZ.out, clArr_size, clArr_size]
    obtain ⟨wq, hwq⟩ : ∃ wq, (w4.alloc (.cells Z 122)).setRow w4.heap.size (clArr N (chainM p n d)) = wq := ⟨_, rfl⟩
    rw [hwq] at kq k1q k2q bsq
    obtain ⟨m, hm⟩ : ∃ m, chainM p n d A C = m := ⟨_, rfl⟩
    have hcm : chainM p n d (A : Int).toNat (C : Int).toNat = m := by rw [Int.toNat_natCast, Int.toNat_natCast, hm]
    have hI : I64 m := by rw [← hm]; exact chainM_I64 HP.out HF.out A C
    have HCM := hid hcm
    have HI := hid hI
    have hA16 : A < 16 := by omega
    have hC16 : C < 16 := by omega
    have hA162 : (A : Int) < 16 := by omega
    have hC162 : (C : Int) < 16 := by omega
    have cb := kq.look (256 + A * 16 + C) (clArr_b hA16 hC16)
    clear hcm hI
    by_cases hmn : m = NONE
    · have HNO := hid (gapV_none ⟨HP.out, HF.out, HIN.out⟩ HD1.out (by rw [HCM.out]; exact hmn))
      rw [onB_no (by rw [hm]; exact hmn)] at cb
      have r0 := k2q.cell 0
      have r1 := k2q.cell 1
      have q0 := k2q.look 0 rfl
      have q1 := k2q.look 1 rfl
      have rf := k2q.frozen
      have bz := (bsq.setCell (p := ⟨S + 1 + 1, 0, none⟩) (by show S ≤ S + 1 + 1; omega) (.int .i64 0)).setCell (p := ⟨S + 1 + 1, 1, none⟩) (by show S ≤ S + 1 + 1; omega) (.int .i64 0)
      clear hmn HCM HI hm
      go_wp2_with (first
        | (refine wpList_store_row rfl 122 (.tmp 13) (.tmp 51) rfl w4.heap.size (clArr N (chainM p n d)) rfl rfl 122 Z kv (cl_info _ _) hZs (cl_one _ _) ?_; rw [hwq]))
      refine bodyPost_ret (v := .tuple #[frV 0 0, .bool false, .int .i64 0]) ?_ rfl ⟨by rw [HNO.out], by rw [HS.out]; have := fin.out; rw [HS.out] at this; exact this _ bz⟩
      simp [results, Try.results45, go_sem, r0, r1]
    · have HNO := hid (gapV_yes ⟨HP.out, HF.out, HIN.out⟩ HD1.out (by rw [HCM.out]; exact hmn))
      rw [onB_yes hAN hCN (by rw [hm]; exact hmn)] at cb
      have hyes : gv = .tuple #[frV (newN m d) (newD m d), .bool true, .int .i64 0] := by rw [← HGV.out, HNO.out, HCM.out]
      have HYES := hid hyes
      have NEW : Hid (∀ w, Calls Try.prog 71 #[.int .i64 m, .int .i64 d] w fun e w' => e = .returned (.tuple #[frV (newN m d) (newD m d), .int .i64 (newE m d)]) ∧ Below w.heap.size w w') := hid (fun w => fNew_any m d w HI.out.1 HI.out.2 (by have := HF.out.1.1; omega) (by have := HF.out.1.2.1; omega))
      obtain ⟨xn, hxn⟩ : ∃ z, newN m d = z := ⟨_, rfl⟩
      obtain ⟨xd, hxd⟩ : ∃ z, newD m d = z := ⟨_, rfl⟩
      obtain ⟨xe, hxe⟩ : ∃ z, newE m d = z := ⟨_, rfl⟩
      rw [hxn, hxd] at HYES
      rw [hxn, hxd, hxe] at NEW
      have hw1 : onW N (chainM p n d) A C = m := by rw [onW_yes hAN hCN (by rw [hm]; exact hmn), hm]
      have HW1 := hid hw1
      clear hmn hyes hxn hxd hxe HNO HCM HI hm hw1
      go_wp2_with (first
        | (refine wpList_store_row rfl 122 (.tmp 13) (.tmp 51) rfl w4.heap.size (clArr N (chainM p n d)) rfl rfl 122 Z kv (cl_info _ _) hZs (cl_one _ _) ?_; rw [hwq]))
      clear cb kv hwq
      have hSB : S ≤ wq.heap.size := by have := bsq.size; have := k2q.lt; omega
      have hdw : Below wq.heap.size wq wq.drew := (Below.refl _ _).drew
      have z0 := fun x : SubT (Below wq.heap.size) wq.drew => ((kq.below (hdw.trans x.b)).look (A * 16 + C) (clArr_w hA16 hC16)).trans (congrArg (fun y => some (Value.int .i64 y)) HW1.out)
      have z2 := fun x : SubT (Below wq.heap.size) wq.drew => (k1q.below (hdw.trans x.b)).look 1 rfl
      refine wp_walk (T := Below (wq.heap.size)) (below_pre _) (.rd 0 (.rd 1 (.rd 2 (.rd 3 (.rd 4 (.rd 5 (.rd 6 (.rd 7 (.two 8 (.rd 9 (.rd 10 (.rd 11 (.mv 12 (.mv 13 (.rd 14 .nil)))))) 12 (.mv 8 (.rd 9 (.rd 10 (.rd 11 (.mv 13 (.rd 14 .nil))))))))))))))) (by kernel_rfl) rfl rfl (by kernel_rfl) (by kernel_rfl) ?_
      iterate 8 (refine walkT_rd rfl (fun K hK => ?_); go_simp; refine hK _ ?_; clear hK K)
      clear z0 z2
      obtain ⟨wd, hwd⟩ : ∃ wd, wq.drew = wd := ⟨_, rfl⟩
      have hsd : wq.heap.size = wd.heap.size := by rw [← hwd]; rfl
      rw [hwd] at hdw ⊢
      clear hwd
      refine walkT_two rfl rfl (fun K hK => ?_) (fun K hK => ?_)
      · go_simp
        refine (NEW.out _).mono ?_
        rintro e w5 ⟨rfl, hb5⟩
        have b5 : Below wq.heap.size wd w5 := hb5.mono (by omega)
        have hs5 := hb5.size
        refine ⟨_, rfl, hK _ _ b5 ?_⟩
        clear hK K
        iterate 3 (refine walkT_rd rfl (fun K hK => ?_); go_simp; refine hK _ ?_; clear hK K)
        (refine walkT_mv rfl (fun K hK => ?_); go_simp; refine hK _ _ ((Below.refl _ _).alloc (by omega) _) ?_; clear hK K)
        have kv := Blk.new w5 #[.int .i64 0, .int .i64 0] 26
        have v0 := kv.look 0 rfl
        have v1 := kv.look 1 rfl
        have vf := kv.frozen
        have kv5 := Blk.new w5 #[.int .i64 xn, .int .i64 xd] 26
        have bf0 : Below wq.heap.size (w5.alloc (.cells #[.int .i64 0, .int .i64 0] 26)) (w5.alloc (.cells #[.int .i64 xn, .int .i64 xd] 26)) := alloc_swap (by omega) _ _ _
        have bf := (hdw.trans (b5.alloc (by omega) (.cells #[.int .i64 0, .int .i64 0] 26))).trans bf0
        (refine walkT_mv rfl (fun K hK => ?_); go_simp; refine hK _ _ bf0 ?_; clear hK K)
        clear v0 v1 vf kv
        iterate 1 (refine walkT_rd rfl (fun K hK => ?_); go_simp; refine hK _ ?_; clear hK K)
        refine walkT_nil ?_
        clear hb5
        have k2f := k2q.below bf
        have c0 := kv5.look 0 rfl
        have c1 := kv5.look 1 rfl
        have r0 := k2f.cell 0
        have r1 := k2f.cell 1
        have q0 := k2f.look 0 rfl
        have q1 := k2f.look 1 rfl
        have rf := k2f.frozen
        have bsf := bsq.trans (bf.mono hSB)
        generalize (w5.alloc (.cells #[.int .i64 xn, .int .i64 xd] 26)) = wf at kv5 k2f bsf c0 c1 r0 r1 q0 q1 rf ⊢
        have bz : Below S w0 ((wf.setCell ⟨S + 1 + 1, 0, none⟩ (.int .i64 xn)).setCell ⟨S + 1 + 1, 1, none⟩ (.int .i64 xd)) := (bsf.setCell (p := ⟨S + 1 + 1, 0, none⟩) (by show S ≤ S + 1 + 1; omega) _).setCell (p := ⟨S + 1 + 1, 1, none⟩) (by show S ≤ S + 1 + 1; omega) _
        go_wp2
        refine bodyPost_ret (v := .tuple #[frV xn xd, .bool true, .int .i64 0]) ?_ rfl ⟨by rw [HGV.out, HYES.out], by rw [HS.out]; have := fin.out; rw [HS.out] at this; exact this _ bz⟩
        simp [results, Try.results45, go_sem, r0, r1]
      · go_simp
        have ba : Below wq.heap.size wd (wd.alloc (.cells #[.int .i64 0, .int .i64 0] 26)) := (Below.refl _ _).alloc (by omega) _
        have kv0 := Blk.new wd #[.int .i64 0, .int .i64 0] 26
        obtain ⟨wn, hwn⟩ : ∃ wn, wd.alloc (.cells #[.int .i64 0, .int .i64 0] 26) = wn := ⟨_, rfl⟩
        rw [hwn] at ba kv0 ⊢
        refine hK _ _ ba ?_
        clear hK K hwn
        have hsn' : wq.heap.size ≤ wn.heap.size := by have := ba.size; omega
        (refine walkT_mv rfl (fun K hK => ?_); go_simp; refine (NEW.out _).mono ?_; rintro e w5 ⟨rfl, hb5⟩; refine ⟨_, rfl, hK _ _ (hb5.mono hsn') ?_⟩; clear hK K)
        iterate 3 (refine walkT_rd rfl (fun K hK => ?_); go_simp; refine hK _ ?_; clear hK K)
        have kv := kv0.below hb5
        have v0 := kv.look 0 rfl
        have v1 := kv.look 1 rfl
        have vf := kv.frozen
        have kv5 := (kv.set 0 (.int .i64 xn)).set 1 (.int .i64 xd)
        have bf0 : Below wq.heap.size w5 ((w5.setCell ⟨wd.heap.size, 0, none⟩ (.int .i64 xn)).setCell ⟨wd.heap.size, 1, none⟩ (.int .i64 xd)) := ((Below.refl _ _).setCell (p := ⟨wd.heap.size, 0, none⟩) (by show wq.heap.size ≤ wd.heap.size; omega) _).setCell (p := ⟨wd.heap.size, 1, none⟩) (by show wq.heap.size ≤ wd.heap.size; omega) _
        have bf := (hdw.trans (ba.trans (hb5.mono hsn'))).trans bf0
        (refine walkT_mv rfl (fun K hK => ?_); go_simp; refine hK _ _ bf0 ?_; clear hK K)
        clear v0 v1 vf kv
        iterate 1 (refine walkT_rd rfl (fun K hK => ?_); go_simp; refine hK _ ?_; clear hK K)
        refine walkT_nil ?_
        clear hb5
        have k2f := k2q.below bf
        have c0 := kv5.look 0 rfl
        have c1 := kv5.look 1 rfl
        have r0 := k2f.cell 0
        have r1 := k2f.cell 1
        have q0 := k2f.look 0 rfl
        have q1 := k2f.look 1 rfl
        have rf := k2f.frozen
        have bsf := bsq.trans (bf.mono hSB)
        generalize ((w5.setCell ⟨wd.heap.size, 0, none⟩ (.int .i64 xn)).setCell ⟨wd.heap.size, 1, none⟩ (.int .i64 xd)) = wf at kv5 k2f bsf c0 c1 r0 r1 q0 q1 rf ⊢
        have bz : Below S w0 ((wf.setCell ⟨S + 1 + 1, 0, none⟩ (.int .i64 xn)).setCell ⟨S + 1 + 1, 1, none⟩ (.int .i64 xd)) := (bsf.setCell (p := ⟨S + 1 + 1, 0, none⟩) (by show S ≤ S + 1 + 1; omega) _).setCell (p := ⟨S + 1 + 1, 1, none⟩) (by show S ≤ S + 1 + 1; omega) _
        go_wp2
        refine bodyPost_ret (v := .tuple #[frV xn xd, .bool true, .int .i64 0]) ?_ rfl ⟨by rw [HGV.out, HYES.out], by rw [HS.out]; have := fin.out; rw [HS.out] at this; exact this _ bz⟩
        simp [results, Try.results45, go_sem, r0, r1]

end Go.Proofs.Ytmknengmjepdaaa
