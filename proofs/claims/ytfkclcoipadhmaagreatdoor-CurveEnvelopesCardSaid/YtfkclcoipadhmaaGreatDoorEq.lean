/- Walk of trankref02.at. -/
import Derived.Test.YtfkclcoipadhmaaGreatDoorEc
import Derived.Test.YtfkclcoipadhmaaGreatDoorDz
namespace Go.Proofs.YtfkclcoipadhmaaGreatDoor
open Go.RowKit
attribute [local irreducible] seqS seqST walkV walkJ

theorem seg_none {p q : Pt} {x : Rat} (h : slO p q = none) : segO p q x = none := by unfold segO; rw [h]; rfl
theorem seg_two {p q : Pt} {x s : Rat} (h : slO p q = some s) (h2 : ¬ fits (x - p.1)) : segO p q x = none := by unfold segO fitO; rw [h, if_neg h2]; rfl
theorem seg_three {p q : Pt} {x s : Rat} (h : slO p q = some s) (h2 : fits (x - p.1)) (h3 : ¬ fits ((x - p.1) * s)) : segO p q x = none := by
  unfold segO fitO
  rw [h, if_pos h2, Option.bind_some, Option.bind_some, if_neg h3]
  rfl
theorem seg_four {p q : Pt} {x s : Rat} (h : slO p q = some s) (h2 : fits (x - p.1)) (h3 : fits ((x - p.1) * s)) : segO p q x = fitO (p.2 + (x - p.1) * s) := by
  unfold segO fitO
  rw [h, if_pos h2, Option.bind_some, Option.bind_some, if_pos h3, Option.bind_some]

set_option maxHeartbeats 8000000 in
set_option maxRecDepth 100000 in
theorem rat_any (C : List Pt) (x : Rat) (v : Value) (hcv : CV C) (hdom : InDom C x) (hx : fits x) (w : World) (h : PsR 0 w v C) :
    Calls Tryz.prog 43 #[v, frQ x] w fun r w' => r = .returned (.tuple #[.agg #[.int .i64 (oN (atO C x)), .int .i64 (oD (atO C x))], .int .i64 (oE (atO C x))]) ∧ Below w.heap.size w w' := by
  obtain ⟨ao, cap, rfl, hcap, hmax, hcc⟩ := h
  unfold maxLen at hmax
  have HF := hid (fun i hi he => at_same hcv (x := x) (i := i) hi he)
  have HG := hid (fun i hi h1 h2 => at_between hcv (x := x) (i := i) hi h1 h2)
  obtain ⟨o, ho⟩ : ∃ o, atO C x = o := ⟨_, rfl⟩
  rw [ho] at HF HG
  obtain ⟨sn, hsn⟩ : ∃ z, oN o = z := ⟨_, rfl⟩
  obtain ⟨sd, hsd⟩ : ∃ z, oD o = z := ⟨_, rfl⟩
  obtain ⟨se, hse⟩ : ∃ z, oE o = z := ⟨_, rfl⟩
  rw [ho, hsn, hsd, hse]
  have HZ : Hid (o = none → sn = 0 ∧ sd = 0 ∧ se = 5) := hid (fun hh => by rw [← hsn, ← hsd, ← hse, hh]; exact ⟨rfl, rfl, rfl⟩)
  have HS : Hid (∀ q, o = some q → sn = q.num ∧ sd = (q.den : Int) ∧ se = 0) := hid (fun q hh => by rw [← hsn, ← hsd, ← hse, hh]; exact ⟨rfl, rfl, rfl⟩)
  have HT : Hid (∀ q, o = fitO q → fitN q = sn ∧ fitD q = sd ∧ fitE q = se) := hid (fun q hh => by rw [← hsn, ← hsd, ← hse, hh]; exact fit_o q)
  have CVC := hid hcv
  have HDM := hid hdom
  have HXF := hid hx
  have OR1 := hid (fun p (hp : fits p) w => rorder_any p x hp hx w)
  have OR2 := hid (fun p (hp : fits p) w => rorder_any x p hx hp w)
  have SB := hid (fun p (hp : fits p) w => rSub_any x p hx hp w)
  clear ho hsn hsd hse
  obtain ⟨L, hL⟩ : ∃ L, C.length = L := ⟨_, rfl⟩
  have HL := hid hL
  rw [hL] at hcap ⊢
  have hL2 : 2 ≤ L := by have := hcv.two; omega
  have hL48 : L ≤ 48 := by have := hcv.most; omega
  obtain ⟨b, off, rfl, hb, -, -, -, -⟩ := p_cell hcc (show 0 < C.length by omega)
  have hget : ∀ (i : Nat) (W : World), i < L → Below w.heap.size w W → W.cell? ⟨b, off + i * 4, none⟩ = some (.int .i64 (C.getD i (0, 0)).1.num) ∧ W.cell? ⟨b, off + i * 4 + 1, none⟩ = some (.int .i64 ((C.getD i (0, 0)).1.den : Int)) ∧ W.cell? ⟨b, off + i * 4 + 2, none⟩ = some (.int .i64 (C.getD i (0, 0)).2.num) ∧ W.cell? ⟨b, off + i * 4 + 3, none⟩ = some (.int .i64 ((C.getD i (0, 0)).2.den : Int)) := by
    intro i W hi hbW
    obtain ⟨b', off', he, hb', x0, x1, x2, x3⟩ := p_cell hcc (show i < C.length by omega)
    cases he
    exact ⟨(hbW.cell (p := ⟨b, off + i * 4, none⟩) hb').trans x0, (hbW.cell (p := ⟨b, off + i * 4 + 1, none⟩) hb').trans x1, (hbW.cell (p := ⟨b, off + i * 4 + 2, none⟩) hb').trans x2, (hbW.cell (p := ⟨b, off + i * 4 + 3, none⟩) hb').trans x3⟩
  have HGET := hid hget
  have hstart : (C.getD 0 (0, 0)).1 ≤ x := by rw [hcv.first]; exact hdom.1
  have HST := hid hstart
  have k0 := (Blk.new w #[.int .i64 x.num, .int .i64 (x.den : Int)] 31).alloc (.cells #[.int .i64 0, .int .i64 0] 31)
  have k1 := Blk.new (w.alloc (.cells #[.int .i64 x.num, .int .i64 (x.den : Int)] 31)) #[.int .i64 0, .int .i64 0] 31
  have b0 := ((Below.refl w.heap.size w).alloc (Nat.le_refl _) (.cells #[.int .i64 x.num, .int .i64 (x.den : Int)] 31)).alloc (by simp) (.cells #[.int .i64 0, .int .i64 0] 31)
  rw [World.size_alloc] at k1
  obtain ⟨w0, hw0⟩ : ∃ w0, (w.alloc (.cells #[.int .i64 x.num, .int .i64 (x.den : Int)] 31)).alloc (.cells #[.int .i64 0, .int .i64 0] 31) = w0 := ⟨_, rfl⟩
  rw [hw0] at k0 k1 b0
  have K0 := hid k0
  have K1 := hid k1
  have HW := hid hw0
  clear hL hcv hdom hx hcc hget hstart k0 k1 hw0
  unfold frQ at OR1 OR2 SB ⊢
  go_enter Tryz.func43, Tryz.ntmps43
  go_wp2_with fail
  rw [HW.out]
  go_loopw [13] (fun z wr => ∃ i : Nat, z = .int .i64 i ∧ i < L ∧ Hid ((C.getD i (0, 0)).1 ≤ x) ∧ Below w.heap.size w wr ∧ Hid (Blk wr w.heap.size #[.int .i64 x.num, .int .i64 (x.den : Int)] 31) ∧ Hid (Blk wr (w.heap.size + 1) #[.int .i64 0, .int .i64 0] 31)) (fun z _ => L - (intOf z).toNat)
  case atStart => exact ⟨0, rfl, by omega, HST, b0, K0, K1⟩
  case round =>
    clear b0
    obtain ⟨i, rfl, hiL, HLE, hbel, HKX, HKR⟩ := hrel
    have hi2 : (i : Int) < (L : Int) := by omega
    have hgi := HGET.out i wr hiL hbel
    have hfi := HF.out i (by rw [HL.out]; exact hiL)
    have hPf := CVC.out.fit i (by rw [HL.out]; exact hiL)
    have hle := HLE.out
    obtain ⟨P, hP⟩ : ∃ P, C.getD i (0, 0) = P := ⟨_, rfl⟩
    rw [hP] at hgi hfi hPf hle
    obtain ⟨x0, x1, x2, x3⟩ := hgi
    have HPE := hid hP
    have HFI := hid hfi
    have HPF := hid hPf
    have HLE2 := hid hle
    have hre := rat_eq_iff P.1 x
    obtain ⟨a1, ha1⟩ : ∃ z, P.1.num = z := ⟨_, rfl⟩
    obtain ⟨a2, ha2⟩ : ∃ z, (P.1.den : Int) = z := ⟨_, rfl⟩
    obtain ⟨a3, ha3⟩ : ∃ z, P.2.num = z := ⟨_, rfl⟩
    obtain ⟨a4, ha4⟩ : ∃ z, (P.2.den : Int) = z := ⟨_, rfl⟩
    obtain ⟨n1, hn1⟩ : ∃ z, x.num = z := ⟨_, rfl⟩
    obtain ⟨d1, hd1⟩ : ∃ z, (x.den : Int) = z := ⟨_, rfl⟩
    rw [ha1, ha2, hn1, hd1] at hre
    rw [ha1] at x0
    rw [ha2] at x1
    rw [ha3] at x2
    rw [ha4] at x3
    have kx0 := HKX.out
    rw [hn1, hd1] at kx0
    have bA := alloc_below wr (.cells #[.int .i64 a1, .int .i64 a2, .int .i64 a3, .int .i64 a4] 44)
    have kxA := kx0.below bA
    have y0 := kxA.look 0 rfl
    have y1 := kxA.look 1 rfl
    have hltx := kx0.lt
    have HRE := hid hre
    have HA1 := hid ha1
    have HA2 := hid ha2
    have HA3 := hid ha3
    have HA4 := hid ha4
    have HN1 := hid hn1
    have HD1 := hid hd1
    have hbA := hbel.trans (bA.mono hbel.size)
    have kRA := HKR.out.below bA
    have kp := Blk.new wr #[.int .i64 a1, .int .i64 a2, .int .i64 a3, .int .i64 a4] 44
    clear hP hfi hPf hle hre ha1 ha2 ha3 ha4 hn1 hd1
    by_cases hne : a1 = n1 ∧ a2 = d1
    · obtain ⟨rfl, rfl⟩ := hne
      obtain ⟨e1, e2, e3⟩ := HS.out _ (HFI.out (HRE.out.2 ⟨rfl, rfl⟩))
      have E1 : a3 = sn := by rw [e1]; exact HA3.out.symm
      have E2 : a4 = sd := by rw [e2]; exact HA4.out.symm
      clear e1 e2
      subst E1 E2 e3
      have kR := HKR.out
      have f2 := kR.frozen
      have q0 := kR.look 0 rfl
      have q1 := kR.look 1 rfl
      have hltr := kR.lt
      have ks := ((kR.set 0 (.int .i64 a3)).set 1 (.int .i64 a4)).alloc (.cells #[.int .i64 a1, .int .i64 a2, .int .i64 a3, .int .i64 a4] 44)
      have r0 : _ = some (Value.int .i64 a3) := ks.look 0 rfl
      have r1 : _ = some (Value.int .i64 a4) := ks.look 1 rfl
      have R0 := hid r0
      have R1 := hid r1
      have b4 := (hbel.setCell (p := ⟨w.heap.size + 1, 0, none⟩) (by show w.heap.size ≤ w.heap.size + 1; omega) (.int .i64 a3)).setCell (p := ⟨w.heap.size + 1, 1, none⟩) (by show w.heap.size ≤ w.heap.size + 1; omega) (.int .i64 a4)
      have HBF := hid (b4.trans ((alloc_below _ (.cells #[.int .i64 a1, .int .i64 a2, .int .i64 a3, .int .i64 a4] 44)).mono b4.size))
      clear kR ks r0 r1 b4 bA hbA kRA kp kxA kx0 hbel
      go_wp2
      refine bodyPost_ret (v := .tuple #[.agg #[.int .i64 a3, .int .i64 a4], .int .i64 0]) ?_ rfl ⟨rfl, HBF.out⟩
      have r0 := R0.out
      have r1 := R1.out
      simp [results, Tryz.results43, go_sem, r0, r1]
    · have hlt : P.1 < x := by
        have h1 := HLE2.out
        have h2 : P.1 ≠ x := fun e => hne (HRE.out.1 e)
        grind
      have hi1 : i + 1 < L := by
        apply Decidable.byContradiction
        intro hh
        have e : i = L - 1 := by omega
        have h3 := HDM.out.2
        rw [HL.out, ← e, HPE.out] at h3
        grind
      have hi1i : (i : Int) + 1 < (L : Int) := by omega
      have hi1p : 0 ≤ (i : Int) + 1 := by omega
      have wI : IntKind.i64.wrap ((i : Int) + 1) = (i : Int) + 1 := by rw [IntWalk.i64_left]; unfold wrap64; omega
      have c1 : cmpQ P.1 x = -1 := by unfold cmpQ; exact if_pos hlt
      have O1 := hid (OR1.out P.1 HPF.out.1)
      rw [c1, HA1.out, HA2.out, HN1.out, HD1.out] at O1
      have hQf := CVC.out.fit (i + 1) (by rw [HL.out]; exact hi1)
      have hgq := fun W hb => HGET.out (i + 1) W hi1 hb
      have hbt := HG.out i (by rw [HL.out]; exact hi1) (by rw [HPE.out]; exact hlt)
      have hri := CVC.out.rise i (by rw [HL.out]; exact hi1)
      obtain ⟨Q, hQ⟩ : ∃ P, C.getD (i + 1) (0, 0) = P := ⟨_, rfl⟩
      rw [hQ] at hQf hgq hbt hri
      rw [HPE.out] at hbt hri
      have O2 := hid (OR2.out Q.1 hQf.1)
      rw [HN1.out, HD1.out] at O2
      have HGQ := hid hgq
      have HBT := hid hbt
      have HQE := hid hQ
      have SL := hid (fun w => rSlope_any P Q HPF.out hQf (fun e => by rw [e] at hri; exact absurd hri.1 Rat.lt_irrefl) w)
      have SBP := hid (SB.out P.1 HPF.out.1)
      rw [HA1.out, HA2.out, HN1.out, HD1.out] at SBP
      have HLT := hid hlt
      obtain ⟨cz, hcz⟩ : ∃ z, cmpQ x Q.1 = z := ⟨_, rfl⟩
      rw [hcz] at O2
      have hcc := cmp_cases x Q.1
      rw [hcz] at hcc
      have HCC := hid hcc
      have hnn : ¬ (a1 = n1 ∧ a2 = d1) := hne
      unfold ptQ at SL
      rw [HA1.out, HA2.out, HA3.out, HA4.out] at SL
      clear hgq hbt hQ hcz hcc hlt hri hQf hne c1
      have hsplit : a1 ≠ n1 ∨ (a1 = n1 ∧ a2 ≠ d1) := by omega
      rcases hsplit with hs1 | ⟨rfl, hs1⟩
      · have hfix := hs1
        go_wp2_with fail
        obtain ⟨W, hW⟩ : ∃ W, wr.alloc (.cells #[.int .i64 a1, .int .i64 a2, .int .i64 a3, .int .i64 a4] 44) = W := ⟨_, rfl⟩
        obtain ⟨H, hH⟩ : ∃ H, wr.heap.size = H := ⟨_, rfl⟩
        rw [hW] at hbA kRA kp kxA ⊢
        rw [hH] at kp ⊢
        have hHw : w.heap.size + 1 < H := by rw [← hH]; exact HKR.out.lt
        clear hW hH y0 y1 x0 x1 x2 x3 bA hbel HKX HKR hltx kx0
        have hd0 := (Below.refl W.heap.size W).drew
        have z0 := fun x : SubT (Below W.heap.size) W.drew => (kp.below (hd0.trans x.b)).look 0 rfl
        have z1 := fun x : SubT (Below W.heap.size) W.drew => (kp.below (hd0.trans x.b)).look 1 rfl
        have z2 := fun x : SubT (Below W.heap.size) W.drew => (kxA.below (hd0.trans x.b)).look 0 rfl
        have z3 := fun x : SubT (Below W.heap.size) W.drew => (kxA.below (hd0.trans x.b)).look 1 rfl
        have z4 := fun x : SubT (Below W.heap.size) W.drew => (HGQ.out x.w (hbA.trans ((hd0.trans x.b).mono hbA.size))).1
        have z5 := fun x : SubT (Below W.heap.size) W.drew => (HGQ.out x.w (hbA.trans ((hd0.trans x.b).mono hbA.size))).2.1
        refine wp_walkJ (T := Below (W.heap.size)) (belowV_pre _) (.rd 0 (.rd 1 (.rd 2 (.rd 3 (.rd 4 (.rd 5 (.rd 6 (.rd 7 (.rd 8 (.bt 9 (.rd 10 (.rd 11 (.rd 12 (.rd 13 (.rd 14 (.rd 15 (.rd 16 (.rd 17 (.rd 18 (.rd 19 (.bt 20 (.rd 21 (.rd 22 (.inv [])))))))))))))))))))))))) (by kernel_rfl) rfl (by kernel_rfl) (by kernel_rfl) ?_
        iterate 9 (refine walkJ_rd rfl (fun K hK => ?_); go_simp; refine hK _ ?_; clear hK K)
        clear z0 z1 z2 z3 z4 z5
        (refine walkJ_bt rfl (fun K hK => ?_); go_simp; refine (O1.out _).mono ?_; rintro r w2 ⟨rfl, hb2⟩; refine ⟨_, rfl, hK _ _ ?_⟩; clear hK K)
        have hd2 : Below W.heap.size W w2 := hd0.trans hb2
        clear hb2 hd0 O1
        have z2 := fun x : SubT (Below W.heap.size) w2 => (kxA.below (hd2.trans x.b)).look 0 rfl
        have z3 := fun x : SubT (Below W.heap.size) w2 => (kxA.below (hd2.trans x.b)).look 1 rfl
        have z4 := fun x : SubT (Below W.heap.size) w2 => (HGQ.out x.w (hbA.trans ((hd2.trans x.b).mono hbA.size))).1
        have z5 := fun x : SubT (Below W.heap.size) w2 => (HGQ.out x.w (hbA.trans ((hd2.trans x.b).mono hbA.size))).2.1
        iterate 10 (refine walkJ_rd rfl (fun K hK => ?_); go_simp; refine hK _ ?_; clear hK K)
        clear z2 z3 z4 z5
        (refine walkJ_bt rfl (fun K hK => ?_); go_simp; refine (O2.out _).mono ?_; rintro r w3 ⟨rfl, hb3⟩; refine ⟨_, rfl, hK _ _ ?_⟩; clear hK K)
        have hd3 : Below W.heap.size W w3 := hd2.trans (hb3.mono hd2.size)
        have hb3' := hbA.trans (hd3.mono hbA.size)
        have kp3 := kp.below hd3
        have kx3 := kxA.below hd3
        have kR3 := kRA.below hd3
        clear hb3 hd2 O2 hd3 kp kxA kRA hbA
        rcases HCC.out with ⟨hl, rfl, -⟩ | ⟨hl, rfl, -⟩ | ⟨hl, rfl, -⟩
        rotate_left
        · have HLQ : Hid ((C.getD (i + 1) (0, 0)).1 ≤ x) := hid (by rw [HQE.out]; exact Rat.le_of_lt hl)
          clear hl
          iterate 2 (refine walkJ_rd rfl (fun K hK => ?_); go_simp; refine hK _ ?_; clear hK K)
          refine walkJ_nil ?_
          have HX9 := hid (show Blk w3 w.heap.size #[.int .i64 x.num, .int .i64 (x.den : Int)] 31 by rw [HN1.out, HD1.out]; exact kx3)
          have HR9 := hid kR3
          clear kp3 kx3 kR3
          go_wp2
          go_roundw
          case rel => exact ⟨i + 1, by go_num, hi1, HLQ, hb3', HX9, HR9⟩
          case measure => simp [intOf]; omega
        · have HLQ : Hid ((C.getD (i + 1) (0, 0)).1 ≤ x) := hid (by rw [HQE.out, hl]; exact Rat.le_refl)
          clear hl
          iterate 2 (refine walkJ_rd rfl (fun K hK => ?_); go_simp; refine hK _ ?_; clear hK K)
          refine walkJ_nil ?_
          have HX9 := hid (show Blk w3 w.heap.size #[.int .i64 x.num, .int .i64 (x.den : Int)] 31 by rw [HN1.out, HD1.out]; exact kx3)
          have HR9 := hid kR3
          clear kp3 kx3 kR3
          go_wp2
          go_roundw
          case rel => exact ⟨i + 1, by go_num, hi1, HLQ, hb3', HX9, HR9⟩
          case measure => simp [intOf]; omega
        have hseg := HBT.out hl
        have HSG := hid hseg
        clear hl hseg
        iterate 2 (refine walkJ_rd rfl (fun K hK => ?_); go_simp; refine hK _ ?_; clear hK K)
        refine walkJ_nil ?_
        have hseg := HSG.out
        have hs1' := seg_none (p := P) (q := Q) (x := x)
        have hs2' := fun s => seg_two (p := P) (q := Q) (x := x) (s := s)
        have hs3' := fun s => seg_three (p := P) (q := Q) (x := x) (s := s)
        have hs4' := fun s => seg_four (p := P) (q := Q) (x := x) (s := s)
        rw [← hseg] at hs1' hs2' hs3' hs4'
        have HS1 := hid hs1'
        have HS2 := hid hs2'
        have HS3 := hid hs3'
        have HS4 := hid hs4'
        obtain ⟨sl, hsl⟩ : ∃ o, slO P Q = o := ⟨_, rfl⟩
        rw [hsl] at SL
        have HSL := hid hsl
        obtain ⟨s1, hs1e⟩ : ∃ z, oN sl = z := ⟨_, rfl⟩
        obtain ⟨t1, ht1e⟩ : ∃ z, oD sl = z := ⟨_, rfl⟩
        obtain ⟨u1, hu1e⟩ : ∃ z, oE sl = z := ⟨_, rfl⟩
        rw [hs1e, ht1e, hu1e] at SL
        have HE1 := hid hs1e
        have HE2 := hid ht1e
        have HE3 := hid hu1e
        clear hseg hs1' hs2' hs3' hs4' hsl hs1e ht1e hu1e HCC HBT
        go_wp2_with fail
        have hd0 := (Below.refl w3.heap.size w3).drew
        have z0 := fun x : SubT (Below w3.heap.size) w3.drew => (kp3.below (hd0.trans x.b)).look 0 rfl
        have z1 := fun x : SubT (Below w3.heap.size) w3.drew => (kp3.below (hd0.trans x.b)).look 1 rfl
        have z2 := fun x : SubT (Below w3.heap.size) w3.drew => (kp3.below (hd0.trans x.b)).look 2 rfl
        have z3 := fun x : SubT (Below w3.heap.size) w3.drew => (kp3.below (hd0.trans x.b)).look 3 rfl
        have z4 := fun x : SubT (Below w3.heap.size) w3.drew => (HGQ.out x.w (hb3'.trans ((hd0.trans x.b).mono hb3'.size))).1
        have z5 := fun x : SubT (Below w3.heap.size) w3.drew => (HGQ.out x.w (hb3'.trans ((hd0.trans x.b).mono hb3'.size))).2.1
        have z6 := fun x : SubT (Below w3.heap.size) w3.drew => (HGQ.out x.w (hb3'.trans ((hd0.trans x.b).mono hb3'.size))).2.2.1
        have z7 := fun x : SubT (Below w3.heap.size) w3.drew => (HGQ.out x.w (hb3'.trans ((hd0.trans x.b).mono hb3'.size))).2.2.2
        refine wp_walkJ (T := Below (w3.heap.size)) (belowV_pre _) (.rd 0 (.rd 1 (.rd 2 (.rd 3 (.rd 4 (.rd 5 (.inv [6, 7, 8, 9, 10, 11, 12]))))))) (by kernel_rfl) rfl (by kernel_rfl) (by kernel_rfl) ?_
        iterate 6 (refine walkJ_rd rfl (fun K hK => ?_); go_simp; refine hK _ ?_; clear hK K)
        clear z0 z1 z2 z3 z4 z5 z6 z7 hd0
        have hd := (Below.refl w3.heap.size w3).drew
        obtain ⟨Wd, hWd⟩ : ∃ Wd, w3.drew = Wd := ⟨_, rfl⟩
        have hs9 : w3.heap.size = Wd.heap.size := by rw [← hWd]; rfl
        rw [hWd] at hd ⊢
        clear hWd
        have HS9 := hid hs9
        clear hs9
        refine walkJ_inv (CallI w3.heap.size w3 6 7 8 9 10 11 12 (.tuple #[.agg #[.int .i64 s1, .int .i64 t1], .int .i64 u1]) (.agg #[.int .i64 s1, .int .i64 t1]) (.int .i64 u1) 31 2 #[.int .i64 s1, .int .i64 t1]) [(6, 54), (7, 47), (8, 55), (9, 56), (10, 8), (12, 9)] (by kernel_rfl) ?_ ?_ ?_
        · exact ⟨hd, fun h => (by cases h), fun h => (by cases h), fun h => (by cases h), fun h => (by cases h), fun h => (by cases h), fun h => (by cases h)⟩
        · refine stepsI_cons [] [7, 8, 9, 11, 12] [] rfl (by kernel_rfl) (by kernel_rfl) (by kernel_rfl) (fun K l V x hx hl hds hn hI hK => ?_) ?_
          · go_simp
            have hsx : w3.heap.size ≤ x.heap.size := by rw [HS9.out]; exact hx.size
            refine (SL.out _).mono ?_
            rintro e w9 ⟨rfl, hb9⟩
            refine ⟨_, rfl, hK _ _ (hb9.mono hsx) ?_⟩
            exact ⟨hI.b.trans (hb9.mono hsx), fun _ => rfl, fun h => hI.m h, fun h => hI.e0 h, fun h => hI.e1 h, fun h => (hI.a h).below hb9, fun h => hI.z h⟩
          refine stepsI_cons [6] [8, 9, 11, 12] [(6, 54)] rfl (by kernel_rfl) (by kernel_rfl) (by kernel_rfl) (fun K l V x hx hl hds hn hI hK => ?_) ?_
          · go_simp
            refine hK _ _ (Below.refl _ _) ?_
            exact ⟨hI.b, fun h => hI.c h, fun _ => hI.c hl.1, fun h => hI.e0 h, fun h => hI.e1 h, fun h => hI.a h, fun h => hI.z h⟩
          refine stepsI_cons [6, 7] [11, 12] [(6, 54), (7, 47)] rfl (by kernel_rfl) (by kernel_rfl) (by kernel_rfl) (fun K l V x hx hl hds hn hI hK => ?_) ?_
          · simp only [putsP, hI.m hl.2.1]
            go_simp
            refine hK _ _ (Below.refl _ _) ?_
            exact ⟨hI.b, fun h => hI.c h, fun h => hI.m h, fun _ => rfl, fun h => hI.e1 h, fun h => hI.a h, fun h => hI.z h⟩
          refine stepsI_cons [6, 7] [12] [(6, 54), (7, 47)] rfl (by kernel_rfl) (by kernel_rfl) (by kernel_rfl) (fun K l V x hx hl hds hn hI hK => ?_) ?_
          · simp only [putsP, hI.m hl.2.1]
            go_simp
            refine hK _ _ (Below.refl _ _) ?_
            exact ⟨hI.b, fun h => hI.c h, fun h => hI.m h, fun h => hI.e0 h, fun _ => rfl, fun h => hI.a h, fun h => hI.z h⟩
          refine stepsI_cons [] [11, 12] [] rfl (by kernel_rfl) (by kernel_rfl) (by kernel_rfl) (fun K l V x hx hl hds hn hI hK => ?_) ?_
          · go_simp
            have hsx : w3.heap.size ≤ x.heap.size := by rw [HS9.out]; exact hx.size
            have hb9 := alloc_below x (.cells #[.int .i64 0, .int .i64 0] 31)
            refine hK _ _ (hb9.mono hsx) ?_
            exact ⟨hI.b.trans (hb9.mono hsx), fun h => hI.c h, fun h => hI.m h, fun h => hI.e0 h, fun h => hI.e1 h, fun _ => VarI.new x _ _ hsx rfl hds.1, fun h => hI.z h⟩
          refine stepsI_cons [6, 7, 8, 10] [12] [(6, 54), (7, 47), (8, 55), (10, 8)] rfl (by kernel_rfl) (by kernel_rfl) (by kernel_rfl) (fun K l V x hx hl hds hn hI hK => ?_) ?_
          · obtain ⟨g, cs, e1, e2, e3, e4, -⟩ := hI.a hl.2.2.2.1
            have hb9 := row_below (Below.refl w3.heap.size x) e2 #[.int .i64 s1, .int .i64 t1]
            refine ⟨rfl, gives_store_row 31 (.tmp 8) (.tmp 55) rfl g _ e1 (hI.e0 hl.2.2.1) 31 cs e3 pinfoFrac e4 (by simp [Value.oneCell']) (hK _ _ hb9 ?_)⟩
            refine ⟨hI.b.trans hb9, fun h => hI.c h, fun h => hI.m h, fun h => hI.e0 h, fun h => hI.e1 h, fun _ => ?_, fun h => hI.z h⟩
            show VarI _ _ (V 10) _ _ _ _
            rw [e1]
            exact VarI.filled e2 e3 rfl
          refine stepsI_cons [6, 7, 8, 9, 10, 11] [] [(6, 54), (7, 47), (8, 55), (9, 56), (10, 8)] rfl (by kernel_rfl) (by kernel_rfl) (by kernel_rfl) (fun K l V x hx hl hds hn hI hK => ?_) ?_
          · simp only [putsP, hI.e1 hl.2.2.2.1]
            go_simp
            refine hK _ _ (Below.refl _ _) ?_
            exact ⟨hI.b, fun h => hI.c h, fun h => hI.m h, fun h => hI.e0 h, fun h => hI.e1 h, fun h => hI.a h, fun _ => rfl⟩
          exact stepsI_nil
        intro V W2 hW2 hI
        obtain ⟨gI, eI1, geI, kI⟩ := (hI.a rfl).out
        have qI0 := hI.c rfl
        have qI1 := hI.m rfl
        have qI2 := hI.e0 rfl
        have qI3 := hI.e1 rfl
        have qI4 := hI.z rfl
        have hbI := hI.b
        clear hI hd HS9 hW2
        simp only [putsP, qI0, qI1, qI2, qI3, qI4, eI1]
        go_simp
        clear qI0 qI1 qI2 qI3 qI4 eI1
        have hB4 := hb3'.trans (hbI.mono hb3'.size)
        have kp4 := kp3.below hbI
        have kx4 := kx3.below hbI
        have kR4 := kR3.below hbI
        clear hbI hb3' kp3 kx3 kR3 SL geI
        cases sl with
        | none =>
          obtain rfl : 5 = u1 := HE3.out
          obtain ⟨rfl, rfl, rfl⟩ := HZ.out (HS1.out HSL.out)
          have kR := kR4
          have hBz := hB4
          clear kR4 hB4 kp4 kx4 kI
          have f2 := kR.frozen
          have q0 := kR.look 0 rfl
          have q1 := kR.look 1 rfl
          have ks := (kR.set 0 (.int .i64 0)).set 1 (.int .i64 0)
          have r0 : _ = some (Value.int .i64 0) := ks.look 0 rfl
          have r1 : _ = some (Value.int .i64 0) := ks.look 1 rfl
          have R0 := hid r0
          have R1 := hid r1
          have HBF := hid ((hBz.setCell (p := ⟨w.heap.size + 1, 0, none⟩) (by show w.heap.size ≤ w.heap.size + 1; omega) (.int .i64 0)).setCell (p := ⟨w.heap.size + 1, 1, none⟩) (by show w.heap.size ≤ w.heap.size + 1; omega) (.int .i64 0))
          clear kR ks r0 r1 hBz
          go_wp2
          refine bodyPost_ret (v := .tuple #[.agg #[.int .i64 0, .int .i64 0], .int .i64 5]) ?_ rfl ⟨rfl, HBF.out⟩
          have r0 := R0.out
          have r1 := R1.out
          simp [results, Tryz.results43, go_sem, r0, r1]
        | some s =>
          obtain rfl : 0 = u1 := HE3.out
          have d0 := kp4.look 0 rfl
          have d1 := kp4.look 1 rfl
          have d2 := kx4.look 0 rfl
          have d3 := kx4.look 1 rfl
          have hsf := slO_fits HSL.out
          have MU := hid (fun hd w => rMul_any (x - P.1) s hd hsf w)
          have AD := hid (fun hm w => rAdd_any P.2 ((x - P.1) * s) HPF.out.2 hm w)
          unfold frQ at MU AD
          rw [show s.num = s1 from HE1.out, show (s.den : Int) = t1 from HE2.out] at MU
          rw [HA3.out, HA4.out] at AD
          obtain ⟨df, hdf⟩ : ∃ q, x - P.1 = q := ⟨_, rfl⟩
          rw [hdf] at MU AD SBP
          have HDF := hid hdf
          unfold frV at SBP MU AD
          clear hsf hdf
          go_wp2_with fail
          refine (SBP.out _).mono ?_
          rintro r w5 ⟨rfl, hb5⟩
          have hB5 := hB4.trans (hb5.mono hB4.size)
          have kp5 := kp4.below hb5
          have kR5 := kR4.below hb5
          have kI5 := kI.below hb5
          clear SBP hb5 hB4 kp4 kx4 kR4 kI d0 d1 d2 d3
          by_cases hfd : fits df
          case neg =>
            obtain ⟨rfl, rfl, rfl⟩ := HZ.out (HS2.out s HSL.out (by rw [HDF.out]; exact hfd))
            have g1 : fitN df = 0 := if_neg hfd
            have g2 : fitD df = 0 := if_neg hfd
            have g3 : fitE df = 5 := if_neg hfd
            rw [g1, g2, g3]
            have kR := kR5
            have hBz := hB5
            have hltR := kR5.lt
            clear g1 g2 g3 kR5 hB5 kp5 kI5
            have f2 := kR.frozen
            have q0 := kR.look 0 rfl
            have q1 := kR.look 1 rfl
            have ks := ((kR.set 0 (.int .i64 0)).set 1 (.int .i64 0)).alloc (.cells #[.int .i64 0, .int .i64 0] 31)
            have r0 : _ = some (Value.int .i64 0) := ks.look 0 rfl
            have r1 : _ = some (Value.int .i64 0) := ks.look 1 rfl
            have R0 := hid r0
            have R1 := hid r1
            have bz1 := (hBz.setCell (p := ⟨w.heap.size + 1, 0, none⟩) (by show w.heap.size ≤ w.heap.size + 1; omega) (.int .i64 0)).setCell (p := ⟨w.heap.size + 1, 1, none⟩) (by show w.heap.size ≤ w.heap.size + 1; omega) (.int .i64 0)
            have HBF := hid (bz1.trans ((alloc_below _ (.cells #[.int .i64 0, .int .i64 0] 31)).mono bz1.size))
            clear kR ks r0 r1 hBz bz1
            go_wp2
            refine bodyPost_ret (v := .tuple #[.agg #[.int .i64 0, .int .i64 0], .int .i64 5]) ?_ rfl ⟨rfl, HBF.out⟩
            have r0 := R0.out
            have r1 := R1.out
            simp [results, Tryz.results43, go_sem, r0, r1]
          have g1 : fitN df = df.num := if_pos hfd
          have g2 : fitD df = (df.den : Int) := if_pos hfd
          have g3 : fitE df = 0 := if_pos hfd
          rw [g1, g2, g3]
          have HFD := hid hfd
          have MU2 := hid (MU.out hfd)
          have kd := Blk.new w5 #[.int .i64 df.num, .int .i64 (df.den : Int)] 31
          have ba := alloc_below w5 (.cells #[.int .i64 df.num, .int .i64 (df.den : Int)] 31)
          have hB6 := hB5.trans (ba.mono hB5.size)
          have kp6 := kp5.below ba
          have kR6 := kR5.below ba
          have kI6 := kI5.below ba
          have hgR : w.heap.size + 1 < w5.heap.size := kR5.lt
          have hgI : gI < w5.heap.size := kI5.lt
          have d0 := kd.look 0 rfl
          have d1 := kd.look 1 rfl
          have d2 := kI6.look 0 rfl
          have d3 := kI6.look 1 rfl
          clear g1 g2 g3 MU kp5 kR5 kI5 ba hfd hB5
          go_wp2_with fail
          obtain ⟨gd, hgd⟩ : ∃ g, w5.heap.size = g := ⟨_, rfl⟩
          rw [hgd] at kd hgR hgI ⊢
          refine (MU2.out _).mono ?_
          rintro r w7 ⟨rfl, hb7⟩
          have hB7 := hB6.trans (hb7.mono hB6.size)
          have kp7 := kp6.below hb7
          have kR7 := kR6.below hb7
          have kd7 := kd.below hb7
          obtain ⟨mq, hmq⟩ : ∃ q, df * s = q := ⟨_, rfl⟩
          rw [hmq] at AD ⊢
          have HMQ := hid hmq
          obtain ⟨m1, hm1⟩ : ∃ z, fitN mq = z := ⟨_, rfl⟩
          obtain ⟨m2, hm2⟩ : ∃ z, fitD mq = z := ⟨_, rfl⟩
          obtain ⟨m3, hm3⟩ : ∃ z, fitE mq = z := ⟨_, rfl⟩
          rw [hm1, hm2, hm3]
          have HM1 := hid hm1
          have HM2 := hid hm2
          have HM3 := hid hm3
          have hgw : w.heap.size ≤ gd := by omega
          have kd8 := (kd7.set 0 (.int .i64 m1)).set 1 (.int .i64 m2)
          have kR8 := Blk.other (Blk.other kR7 (p := ⟨gd, 0, none⟩) (by show w.heap.size + 1 ≠ gd; omega) (.int .i64 m1)) (p := ⟨gd, 1, none⟩) (by show w.heap.size + 1 ≠ gd; omega) (.int .i64 m2)
          have kp8 := Blk.other (Blk.other kp7 (p := ⟨gd, 0, none⟩) (blk_ne kp7 kd7 (by decide)) (.int .i64 m1)) (p := ⟨gd, 1, none⟩) (blk_ne kp7 kd7 (by decide)) (.int .i64 m2)
          have hB8 := (hB7.setCell (p := ⟨gd, 0, none⟩) hgw (.int .i64 m1)).setCell (p := ⟨gd, 1, none⟩) hgw (.int .i64 m2)
          have fd := kd7.frozen
          have e0 := kd7.look 0 rfl
          have e1 := kd7.look 1 rfl
          have f7 := kR7.frozen
          have q7 := kR7.look 0 rfl
          have q8 := kR7.look 1 rfl
          have hgne : ¬ gd = w.heap.size + 1 := by omega
          have hgne2 : ¬ w.heap.size + 1 = gd := by omega
          have HKP8 := hid kp8
          by_cases hfm : fits mq
          · obtain ⟨g1, g2, g3⟩ := HT.out _ (HS4.out s HSL.out (by rw [HDF.out]; exact HFD.out) (by rw [HDF.out, HMQ.out]; exact hfm))
            rw [HDF.out, HMQ.out] at g1 g2 g3
            have AD2 := hid (AD.out hfm)
            rw [g1, g2, g3] at AD2
            have g0 : m3 = 0 := by rw [← HM3.out]; exact if_pos hfm
            have h1 : m1 = mq.num := by rw [← HM1.out]; exact if_pos hfm
            have h2 : m2 = (mq.den : Int) := by rw [← HM2.out]; exact if_pos hfm
            rw [← h1, ← h2] at AD2
            subst g0
            have c2 := kp8.look 2 rfl
            have c3 := kp8.look 3 rfl
            have c4 := kd8.look 0 rfl
            have c5 := kd8.look 1 rfl
            have C2 := hid c2
            have C3 := hid c3
            have C4 := hid c4
            have C5 := hid c5
            have p2 := kp7.look 2 rfl
            have p3 := kp7.look 3 rfl
            have hHgd : ¬ H = gd := blk_ne kp7 kd7 (by decide)
            have hHgd2 : ¬ gd = H := fun e => hHgd e.symm
            clear g1 g2 g3 h1 h2 c2 c3 c4 c5 hm1 hm2 hm3 hmq hfm kp6 kR6 hb7 hB6 kp8 HKP8 hgd
            go_wp2_with fail
            refine (AD2.out _).mono ?_
            rintro r w9 ⟨rfl, hb9⟩
            have kR := kR8.below hb9
            have hBz := hB8.trans (hb9.mono hB8.size)
            clear kR8 hb9 hB8 kd8 fd e0 e1 f7 q7 q8 kp7 kR7 kd7 p2 p3 hB7
            have f2 := kR.frozen
            have q0 := kR.look 0 rfl
            have q1 := kR.look 1 rfl
            have ks := (kR.set 0 (.int .i64 sn)).set 1 (.int .i64 sd)
            have r0 : _ = some (Value.int .i64 sn) := ks.look 0 rfl
            have r1 : _ = some (Value.int .i64 sd) := ks.look 1 rfl
            have R0 := hid r0
            have R1 := hid r1
            have HBF := hid ((hBz.setCell (p := ⟨w.heap.size + 1, 0, none⟩) (by show w.heap.size ≤ w.heap.size + 1; omega) (.int .i64 sn)).setCell (p := ⟨w.heap.size + 1, 1, none⟩) (by show w.heap.size ≤ w.heap.size + 1; omega) (.int .i64 sd))
            clear kR ks r0 r1 hBz
            go_wp2
            refine bodyPost_ret (v := .tuple #[.agg #[.int .i64 sn, .int .i64 sd], .int .i64 se]) ?_ rfl ⟨rfl, HBF.out⟩
            have r0 := R0.out
            have r1 := R1.out
            simp [results, Tryz.results43, go_sem, r0, r1]
          · obtain ⟨rfl, rfl, rfl⟩ := HZ.out (HS3.out s HSL.out (by rw [HDF.out]; exact HFD.out) (by rw [HDF.out, HMQ.out]; exact hfm))
            have g0 : m3 = 5 := by rw [← HM3.out]; exact if_neg hfm
            subst g0
            have ks := (kR8.set 0 (.int .i64 0)).set 1 (.int .i64 0)
            have r0 : _ = some (Value.int .i64 0) := ks.look 0 rfl
            have r1 : _ = some (Value.int .i64 0) := ks.look 1 rfl
            have R0 := hid r0
            have R1 := hid r1
            have HBF := hid ((hB8.setCell (p := ⟨w.heap.size + 1, 0, none⟩) (by show w.heap.size ≤ w.heap.size + 1; omega) (.int .i64 0)).setCell (p := ⟨w.heap.size + 1, 1, none⟩) (by show w.heap.size ≤ w.heap.size + 1; omega) (.int .i64 0))
            clear ks r0 r1 kR8 hB8 hm1 hm2 hm3 hmq hfm kp6 kR6 hb7 hB6 kp8 HKP8 kd8 kp7 kR7 kd7 hB7 hgd
            go_wp2
            refine bodyPost_ret (v := .tuple #[.agg #[.int .i64 0, .int .i64 0], .int .i64 5]) ?_ rfl ⟨rfl, HBF.out⟩
            have r0 := R0.out
            have r1 := R1.out
            simp [results, Tryz.results43, go_sem, r0, r1]
      · have hfix := hs1
        go_wp2_with fail
        obtain ⟨W, hW⟩ : ∃ W, wr.alloc (.cells #[.int .i64 a1, .int .i64 a2, .int .i64 a3, .int .i64 a4] 44) = W := ⟨_, rfl⟩
        obtain ⟨H, hH⟩ : ∃ H, wr.heap.size = H := ⟨_, rfl⟩
        rw [hW] at hbA kRA kp kxA ⊢
        rw [hH] at kp ⊢
        have hHw : w.heap.size + 1 < H := by rw [← hH]; exact HKR.out.lt
        clear hW hH y0 y1 x0 x1 x2 x3 bA hbel HKX HKR hltx kx0
        have hd0 := (Below.refl W.heap.size W).drew
        have z0 := fun x : SubT (Below W.heap.size) W.drew => (kp.below (hd0.trans x.b)).look 0 rfl
        have z1 := fun x : SubT (Below W.heap.size) W.drew => (kp.below (hd0.trans x.b)).look 1 rfl
        have z2 := fun x : SubT (Below W.heap.size) W.drew => (kxA.below (hd0.trans x.b)).look 0 rfl
        have z3 := fun x : SubT (Below W.heap.size) W.drew => (kxA.below (hd0.trans x.b)).look 1 rfl
        have z4 := fun x : SubT (Below W.heap.size) W.drew => (HGQ.out x.w (hbA.trans ((hd0.trans x.b).mono hbA.size))).1
        have z5 := fun x : SubT (Below W.heap.size) W.drew => (HGQ.out x.w (hbA.trans ((hd0.trans x.b).mono hbA.size))).2.1
        refine wp_walkJ (T := Below (W.heap.size)) (belowV_pre _) (.rd 0 (.rd 1 (.rd 2 (.rd 3 (.rd 4 (.rd 5 (.rd 6 (.rd 7 (.rd 8 (.bt 9 (.rd 10 (.rd 11 (.rd 12 (.rd 13 (.rd 14 (.rd 15 (.rd 16 (.rd 17 (.rd 18 (.rd 19 (.bt 20 (.rd 21 (.rd 22 (.inv [])))))))))))))))))))))))) (by kernel_rfl) rfl (by kernel_rfl) (by kernel_rfl) ?_
        iterate 9 (refine walkJ_rd rfl (fun K hK => ?_); go_simp; refine hK _ ?_; clear hK K)
        clear z0 z1 z2 z3 z4 z5
        (refine walkJ_bt rfl (fun K hK => ?_); go_simp; refine (O1.out _).mono ?_; rintro r w2 ⟨rfl, hb2⟩; refine ⟨_, rfl, hK _ _ ?_⟩; clear hK K)
        have hd2 : Below W.heap.size W w2 := hd0.trans hb2
        clear hb2 hd0 O1
        have z2 := fun x : SubT (Below W.heap.size) w2 => (kxA.below (hd2.trans x.b)).look 0 rfl
        have z3 := fun x : SubT (Below W.heap.size) w2 => (kxA.below (hd2.trans x.b)).look 1 rfl
        have z4 := fun x : SubT (Below W.heap.size) w2 => (HGQ.out x.w (hbA.trans ((hd2.trans x.b).mono hbA.size))).1
        have z5 := fun x : SubT (Below W.heap.size) w2 => (HGQ.out x.w (hbA.trans ((hd2.trans x.b).mono hbA.size))).2.1
        iterate 10 (refine walkJ_rd rfl (fun K hK => ?_); go_simp; refine hK _ ?_; clear hK K)
        clear z2 z3 z4 z5
        (refine walkJ_bt rfl (fun K hK => ?_); go_simp; refine (O2.out _).mono ?_; rintro r w3 ⟨rfl, hb3⟩; refine ⟨_, rfl, hK _ _ ?_⟩; clear hK K)
        have hd3 : Below W.heap.size W w3 := hd2.trans (hb3.mono hd2.size)
        have hb3' := hbA.trans (hd3.mono hbA.size)
        have kp3 := kp.below hd3
        have kx3 := kxA.below hd3
        have kR3 := kRA.below hd3
        clear hb3 hd2 O2 hd3 kp kxA kRA hbA
        rcases HCC.out with ⟨hl, rfl, -⟩ | ⟨hl, rfl, -⟩ | ⟨hl, rfl, -⟩
        rotate_left
        · have HLQ : Hid ((C.getD (i + 1) (0, 0)).1 ≤ x) := hid (by rw [HQE.out]; exact Rat.le_of_lt hl)
          clear hl
          iterate 2 (refine walkJ_rd rfl (fun K hK => ?_); go_simp; refine hK _ ?_; clear hK K)
          refine walkJ_nil ?_
          have HX9 := hid (show Blk w3 w.heap.size #[.int .i64 x.num, .int .i64 (x.den : Int)] 31 by rw [HN1.out, HD1.out]; exact kx3)
          have HR9 := hid kR3
          clear kp3 kx3 kR3
          go_wp2
          go_roundw
          case rel => exact ⟨i + 1, by go_num, hi1, HLQ, hb3', HX9, HR9⟩
          case measure => simp [intOf]; omega
        · have HLQ : Hid ((C.getD (i + 1) (0, 0)).1 ≤ x) := hid (by rw [HQE.out, hl]; exact Rat.le_refl)
          clear hl
          iterate 2 (refine walkJ_rd rfl (fun K hK => ?_); go_simp; refine hK _ ?_; clear hK K)
          refine walkJ_nil ?_
          have HX9 := hid (show Blk w3 w.heap.size #[.int .i64 x.num, .int .i64 (x.den : Int)] 31 by rw [HN1.out, HD1.out]; exact kx3)
          have HR9 := hid kR3
          clear kp3 kx3 kR3
          go_wp2
          go_roundw
          case rel => exact ⟨i + 1, by go_num, hi1, HLQ, hb3', HX9, HR9⟩
          case measure => simp [intOf]; omega
        have hseg := HBT.out hl
        have HSG := hid hseg
        clear hl hseg
        iterate 2 (refine walkJ_rd rfl (fun K hK => ?_); go_simp; refine hK _ ?_; clear hK K)
        refine walkJ_nil ?_
        have hseg := HSG.out
        have hs1' := seg_none (p := P) (q := Q) (x := x)
        have hs2' := fun s => seg_two (p := P) (q := Q) (x := x) (s := s)
        have hs3' := fun s => seg_three (p := P) (q := Q) (x := x) (s := s)
        have hs4' := fun s => seg_four (p := P) (q := Q) (x := x) (s := s)
        rw [← hseg] at hs1' hs2' hs3' hs4'
        have HS1 := hid hs1'
        have HS2 := hid hs2'
        have HS3 := hid hs3'
        have HS4 := hid hs4'
        obtain ⟨sl, hsl⟩ : ∃ o, slO P Q = o := ⟨_, rfl⟩
        rw [hsl] at SL
        have HSL := hid hsl
        obtain ⟨s1, hs1e⟩ : ∃ z, oN sl = z := ⟨_, rfl⟩
        obtain ⟨t1, ht1e⟩ : ∃ z, oD sl = z := ⟨_, rfl⟩
        obtain ⟨u1, hu1e⟩ : ∃ z, oE sl = z := ⟨_, rfl⟩
        rw [hs1e, ht1e, hu1e] at SL
        have HE1 := hid hs1e
        have HE2 := hid ht1e
        have HE3 := hid hu1e
        clear hseg hs1' hs2' hs3' hs4' hsl hs1e ht1e hu1e HCC HBT
        go_wp2_with fail
        have hd0 := (Below.refl w3.heap.size w3).drew
        have z0 := fun x : SubT (Below w3.heap.size) w3.drew => (kp3.below (hd0.trans x.b)).look 0 rfl
        have z1 := fun x : SubT (Below w3.heap.size) w3.drew => (kp3.below (hd0.trans x.b)).look 1 rfl
        have z2 := fun x : SubT (Below w3.heap.size) w3.drew => (kp3.below (hd0.trans x.b)).look 2 rfl
        have z3 := fun x : SubT (Below w3.heap.size) w3.drew => (kp3.below (hd0.trans x.b)).look 3 rfl
        have z4 := fun x : SubT (Below w3.heap.size) w3.drew => (HGQ.out x.w (hb3'.trans ((hd0.trans x.b).mono hb3'.size))).1
        have z5 := fun x : SubT (Below w3.heap.size) w3.drew => (HGQ.out x.w (hb3'.trans ((hd0.trans x.b).mono hb3'.size))).2.1
        have z6 := fun x : SubT (Below w3.heap.size) w3.drew => (HGQ.out x.w (hb3'.trans ((hd0.trans x.b).mono hb3'.size))).2.2.1
        have z7 := fun x : SubT (Below w3.heap.size) w3.drew => (HGQ.out x.w (hb3'.trans ((hd0.trans x.b).mono hb3'.size))).2.2.2
        refine wp_walkJ (T := Below (w3.heap.size)) (belowV_pre _) (.rd 0 (.rd 1 (.rd 2 (.rd 3 (.rd 4 (.rd 5 (.inv [6, 7, 8, 9, 10, 11, 12]))))))) (by kernel_rfl) rfl (by kernel_rfl) (by kernel_rfl) ?_
        iterate 6 (refine walkJ_rd rfl (fun K hK => ?_); go_simp; refine hK _ ?_; clear hK K)
        clear z0 z1 z2 z3 z4 z5 z6 z7 hd0
        have hd := (Below.refl w3.heap.size w3).drew
        obtain ⟨Wd, hWd⟩ : ∃ Wd, w3.drew = Wd := ⟨_, rfl⟩
        have hs9 : w3.heap.size = Wd.heap.size := by rw [← hWd]; rfl
        rw [hWd] at hd ⊢
        clear hWd
        have HS9 := hid hs9
        clear hs9
        refine walkJ_inv (CallI w3.heap.size w3 6 7 8 9 10 11 12 (.tuple #[.agg #[.int .i64 s1, .int .i64 t1], .int .i64 u1]) (.agg #[.int .i64 s1, .int .i64 t1]) (.int .i64 u1) 31 2 #[.int .i64 s1, .int .i64 t1]) [(6, 54), (7, 47), (8, 55), (9, 56), (10, 8), (12, 9)] (by kernel_rfl) ?_ ?_ ?_
        · exact ⟨hd, fun h => (by cases h), fun h => (by cases h), fun h => (by cases h), fun h => (by cases h), fun h => (by cases h), fun h => (by cases h)⟩
        · refine stepsI_cons [] [7, 8, 9, 11, 12] [] rfl (by kernel_rfl) (by kernel_rfl) (by kernel_rfl) (fun K l V x hx hl hds hn hI hK => ?_) ?_
          · go_simp
            have hsx : w3.heap.size ≤ x.heap.size := by rw [HS9.out]; exact hx.size
            refine (SL.out _).mono ?_
            rintro e w9 ⟨rfl, hb9⟩
            refine ⟨_, rfl, hK _ _ (hb9.mono hsx) ?_⟩
            exact ⟨hI.b.trans (hb9.mono hsx), fun _ => rfl, fun h => hI.m h, fun h => hI.e0 h, fun h => hI.e1 h, fun h => (hI.a h).below hb9, fun h => hI.z h⟩
          refine stepsI_cons [6] [8, 9, 11, 12] [(6, 54)] rfl (by kernel_rfl) (by kernel_rfl) (by kernel_rfl) (fun K l V x hx hl hds hn hI hK => ?_) ?_
          · go_simp
            refine hK _ _ (Below.refl _ _) ?_
            exact ⟨hI.b, fun h => hI.c h, fun _ => hI.c hl.1, fun h => hI.e0 h, fun h => hI.e1 h, fun h => hI.a h, fun h => hI.z h⟩
          refine stepsI_cons [6, 7] [11, 12] [(6, 54), (7, 47)] rfl (by kernel_rfl) (by kernel_rfl) (by kernel_rfl) (fun K l V x hx hl hds hn hI hK => ?_) ?_
          · simp only [putsP, hI.m hl.2.1]
            go_simp
            refine hK _ _ (Below.refl _ _) ?_
            exact ⟨hI.b, fun h => hI.c h, fun h => hI.m h, fun _ => rfl, fun h => hI.e1 h, fun h => hI.a h, fun h => hI.z h⟩
          refine stepsI_cons [6, 7] [12] [(6, 54), (7, 47)] rfl (by kernel_rfl) (by kernel_rfl) (by kernel_rfl) (fun K l V x hx hl hds hn hI hK => ?_) ?_
          · simp only [putsP, hI.m hl.2.1]
            go_simp
            refine hK _ _ (Below.refl _ _) ?_
            exact ⟨hI.b, fun h => hI.c h, fun h => hI.m h, fun h => hI.e0 h, fun _ => rfl, fun h => hI.a h, fun h => hI.z h⟩
          refine stepsI_cons [] [11, 12] [] rfl (by kernel_rfl) (by kernel_rfl) (by kernel_rfl) (fun K l V x hx hl hds hn hI hK => ?_) ?_
          · go_simp
            have hsx : w3.heap.size ≤ x.heap.size := by rw [HS9.out]; exact hx.size
            have hb9 := alloc_below x (.cells #[.int .i64 0, .int .i64 0] 31)
            refine hK _ _ (hb9.mono hsx) ?_
            exact ⟨hI.b.trans (hb9.mono hsx), fun h => hI.c h, fun h => hI.m h, fun h => hI.e0 h, fun h => hI.e1 h, fun _ => VarI.new x _ _ hsx rfl hds.1, fun h => hI.z h⟩
          refine stepsI_cons [6, 7, 8, 10] [12] [(6, 54), (7, 47), (8, 55), (10, 8)] rfl (by kernel_rfl) (by kernel_rfl) (by kernel_rfl) (fun K l V x hx hl hds hn hI hK => ?_) ?_
          · obtain ⟨g, cs, e1, e2, e3, e4, -⟩ := hI.a hl.2.2.2.1
            have hb9 := row_below (Below.refl w3.heap.size x) e2 #[.int .i64 s1, .int .i64 t1]
            refine ⟨rfl, gives_store_row 31 (.tmp 8) (.tmp 55) rfl g _ e1 (hI.e0 hl.2.2.1) 31 cs e3 pinfoFrac e4 (by simp [Value.oneCell']) (hK _ _ hb9 ?_)⟩
            refine ⟨hI.b.trans hb9, fun h => hI.c h, fun h => hI.m h, fun h => hI.e0 h, fun h => hI.e1 h, fun _ => ?_, fun h => hI.z h⟩
            show VarI _ _ (V 10) _ _ _ _
            rw [e1]
            exact VarI.filled e2 e3 rfl
          refine stepsI_cons [6, 7, 8, 9, 10, 11] [] [(6, 54), (7, 47), (8, 55), (9, 56), (10, 8)] rfl (by kernel_rfl) (by kernel_rfl) (by kernel_rfl) (fun K l V x hx hl hds hn hI hK => ?_) ?_
          · simp only [putsP, hI.e1 hl.2.2.2.1]
            go_simp
            refine hK _ _ (Below.refl _ _) ?_
            exact ⟨hI.b, fun h => hI.c h, fun h => hI.m h, fun h => hI.e0 h, fun h => hI.e1 h, fun h => hI.a h, fun _ => rfl⟩
          exact stepsI_nil
        intro V W2 hW2 hI
        obtain ⟨gI, eI1, geI, kI⟩ := (hI.a rfl).out
        have qI0 := hI.c rfl
        have qI1 := hI.m rfl
        have qI2 := hI.e0 rfl
        have qI3 := hI.e1 rfl
        have qI4 := hI.z rfl
        have hbI := hI.b
        clear hI hd HS9 hW2
        simp only [putsP, qI0, qI1, qI2, qI3, qI4, eI1]
        go_simp
        clear qI0 qI1 qI2 qI3 qI4 eI1
        have hB4 := hb3'.trans (hbI.mono hb3'.size)
        have kp4 := kp3.below hbI
        have kx4 := kx3.below hbI
        have kR4 := kR3.below hbI
        clear hbI hb3' kp3 kx3 kR3 SL geI
        cases sl with
        | none =>
          obtain rfl : 5 = u1 := HE3.out
          obtain ⟨rfl, rfl, rfl⟩ := HZ.out (HS1.out HSL.out)
          have kR := kR4
          have hBz := hB4
          clear kR4 hB4 kp4 kx4 kI
          have f2 := kR.frozen
          have q0 := kR.look 0 rfl
          have q1 := kR.look 1 rfl
          have ks := (kR.set 0 (.int .i64 0)).set 1 (.int .i64 0)
          have r0 : _ = some (Value.int .i64 0) := ks.look 0 rfl
          have r1 : _ = some (Value.int .i64 0) := ks.look 1 rfl
          have R0 := hid r0
          have R1 := hid r1
          have HBF := hid ((hBz.setCell (p := ⟨w.heap.size + 1, 0, none⟩) (by show w.heap.size ≤ w.heap.size + 1; omega) (.int .i64 0)).setCell (p := ⟨w.heap.size + 1, 1, none⟩) (by show w.heap.size ≤ w.heap.size + 1; omega) (.int .i64 0))
          clear kR ks r0 r1 hBz
          go_wp2
          refine bodyPost_ret (v := .tuple #[.agg #[.int .i64 0, .int .i64 0], .int .i64 5]) ?_ rfl ⟨rfl, HBF.out⟩
          have r0 := R0.out
          have r1 := R1.out
          simp [results, Tryz.results43, go_sem, r0, r1]
        | some s =>
          obtain rfl : 0 = u1 := HE3.out
          have d0 := kp4.look 0 rfl
          have d1 := kp4.look 1 rfl
          have d2 := kx4.look 0 rfl
          have d3 := kx4.look 1 rfl
          have hsf := slO_fits HSL.out
          have MU := hid (fun hd w => rMul_any (x - P.1) s hd hsf w)
          have AD := hid (fun hm w => rAdd_any P.2 ((x - P.1) * s) HPF.out.2 hm w)
          unfold frQ at MU AD
          rw [show s.num = s1 from HE1.out, show (s.den : Int) = t1 from HE2.out] at MU
          rw [HA3.out, HA4.out] at AD
          obtain ⟨df, hdf⟩ : ∃ q, x - P.1 = q := ⟨_, rfl⟩
          rw [hdf] at MU AD SBP
          have HDF := hid hdf
          unfold frV at SBP MU AD
          clear hsf hdf
          go_wp2_with fail
          refine (SBP.out _).mono ?_
          rintro r w5 ⟨rfl, hb5⟩
          have hB5 := hB4.trans (hb5.mono hB4.size)
          have kp5 := kp4.below hb5
          have kR5 := kR4.below hb5
          have kI5 := kI.below hb5
          clear SBP hb5 hB4 kp4 kx4 kR4 kI d0 d1 d2 d3
          by_cases hfd : fits df
          case neg =>
            obtain ⟨rfl, rfl, rfl⟩ := HZ.out (HS2.out s HSL.out (by rw [HDF.out]; exact hfd))
            have g1 : fitN df = 0 := if_neg hfd
            have g2 : fitD df = 0 := if_neg hfd
            have g3 : fitE df = 5 := if_neg hfd
            rw [g1, g2, g3]
            have kR := kR5
            have hBz := hB5
            have hltR := kR5.lt
            clear g1 g2 g3 kR5 hB5 kp5 kI5
            have f2 := kR.frozen
            have q0 := kR.look 0 rfl
            have q1 := kR.look 1 rfl
            have ks := ((kR.set 0 (.int .i64 0)).set 1 (.int .i64 0)).alloc (.cells #[.int .i64 0, .int .i64 0] 31)
            have r0 : _ = some (Value.int .i64 0) := ks.look 0 rfl
            have r1 : _ = some (Value.int .i64 0) := ks.look 1 rfl
            have R0 := hid r0
            have R1 := hid r1
            have bz1 := (hBz.setCell (p := ⟨w.heap.size + 1, 0, none⟩) (by show w.heap.size ≤ w.heap.size + 1; omega) (.int .i64 0)).setCell (p := ⟨w.heap.size + 1, 1, none⟩) (by show w.heap.size ≤ w.heap.size + 1; omega) (.int .i64 0)
            have HBF := hid (bz1.trans ((alloc_below _ (.cells #[.int .i64 0, .int .i64 0] 31)).mono bz1.size))
            clear kR ks r0 r1 hBz bz1
            go_wp2
            refine bodyPost_ret (v := .tuple #[.agg #[.int .i64 0, .int .i64 0], .int .i64 5]) ?_ rfl ⟨rfl, HBF.out⟩
            have r0 := R0.out
            have r1 := R1.out
            simp [results, Tryz.results43, go_sem, r0, r1]
          have g1 : fitN df = df.num := if_pos hfd
          have g2 : fitD df = (df.den : Int) := if_pos hfd
          have g3 : fitE df = 0 := if_pos hfd
          rw [g1, g2, g3]
          have HFD := hid hfd
          have MU2 := hid (MU.out hfd)
          have kd := Blk.new w5 #[.int .i64 df.num, .int .i64 (df.den : Int)] 31
          have ba := alloc_below w5 (.cells #[.int .i64 df.num, .int .i64 (df.den : Int)] 31)
          have hB6 := hB5.trans (ba.mono hB5.size)
          have kp6 := kp5.below ba
          have kR6 := kR5.below ba
          have kI6 := kI5.below ba
          have hgR : w.heap.size + 1 < w5.heap.size := kR5.lt
          have hgI : gI < w5.heap.size := kI5.lt
          have d0 := kd.look 0 rfl
          have d1 := kd.look 1 rfl
          have d2 := kI6.look 0 rfl
          have d3 := kI6.look 1 rfl
          clear g1 g2 g3 MU kp5 kR5 kI5 ba hfd hB5
          go_wp2_with fail
          obtain ⟨gd, hgd⟩ : ∃ g, w5.heap.size = g := ⟨_, rfl⟩
          rw [hgd] at kd hgR hgI ⊢
          refine (MU2.out _).mono ?_
          rintro r w7 ⟨rfl, hb7⟩
          have hB7 := hB6.trans (hb7.mono hB6.size)
          have kp7 := kp6.below hb7
          have kR7 := kR6.below hb7
          have kd7 := kd.below hb7
          obtain ⟨mq, hmq⟩ : ∃ q, df * s = q := ⟨_, rfl⟩
          rw [hmq] at AD ⊢
          have HMQ := hid hmq
          obtain ⟨m1, hm1⟩ : ∃ z, fitN mq = z := ⟨_, rfl⟩
          obtain ⟨m2, hm2⟩ : ∃ z, fitD mq = z := ⟨_, rfl⟩
          obtain ⟨m3, hm3⟩ : ∃ z, fitE mq = z := ⟨_, rfl⟩
          rw [hm1, hm2, hm3]
          have HM1 := hid hm1
          have HM2 := hid hm2
          have HM3 := hid hm3
          have hgw : w.heap.size ≤ gd := by omega
          have kd8 := (kd7.set 0 (.int .i64 m1)).set 1 (.int .i64 m2)
          have kR8 := Blk.other (Blk.other kR7 (p := ⟨gd, 0, none⟩) (by show w.heap.size + 1 ≠ gd; omega) (.int .i64 m1)) (p := ⟨gd, 1, none⟩) (by show w.heap.size + 1 ≠ gd; omega) (.int .i64 m2)
          have kp8 := Blk.other (Blk.other kp7 (p := ⟨gd, 0, none⟩) (blk_ne kp7 kd7 (by decide)) (.int .i64 m1)) (p := ⟨gd, 1, none⟩) (blk_ne kp7 kd7 (by decide)) (.int .i64 m2)
          have hB8 := (hB7.setCell (p := ⟨gd, 0, none⟩) hgw (.int .i64 m1)).setCell (p := ⟨gd, 1, none⟩) hgw (.int .i64 m2)
          have fd := kd7.frozen
          have e0 := kd7.look 0 rfl
          have e1 := kd7.look 1 rfl
          have f7 := kR7.frozen
          have q7 := kR7.look 0 rfl
          have q8 := kR7.look 1 rfl
          have hgne : ¬ gd = w.heap.size + 1 := by omega
          have hgne2 : ¬ w.heap.size + 1 = gd := by omega
          have HKP8 := hid kp8
          by_cases hfm : fits mq
          · obtain ⟨g1, g2, g3⟩ := HT.out _ (HS4.out s HSL.out (by rw [HDF.out]; exact HFD.out) (by rw [HDF.out, HMQ.out]; exact hfm))
            rw [HDF.out, HMQ.out] at g1 g2 g3
            have AD2 := hid (AD.out hfm)
            rw [g1, g2, g3] at AD2
            have g0 : m3 = 0 := by rw [← HM3.out]; exact if_pos hfm
            have h1 : m1 = mq.num := by rw [← HM1.out]; exact if_pos hfm
            have h2 : m2 = (mq.den : Int) := by rw [← HM2.out]; exact if_pos hfm
            rw [← h1, ← h2] at AD2
            subst g0
            have c2 := kp8.look 2 rfl
            have c3 := kp8.look 3 rfl
            have c4 := kd8.look 0 rfl
            have c5 := kd8.look 1 rfl
            have C2 := hid c2
            have C3 := hid c3
            have C4 := hid c4
            have C5 := hid c5
            have p2 := kp7.look 2 rfl
            have p3 := kp7.look 3 rfl
            have hHgd : ¬ H = gd := blk_ne kp7 kd7 (by decide)
            have hHgd2 : ¬ gd = H := fun e => hHgd e.symm
            clear g1 g2 g3 h1 h2 c2 c3 c4 c5 hm1 hm2 hm3 hmq hfm kp6 kR6 hb7 hB6 kp8 HKP8 hgd
            go_wp2_with fail
            refine (AD2.out _).mono ?_
            rintro r w9 ⟨rfl, hb9⟩
            have kR := kR8.below hb9
            have hBz := hB8.trans (hb9.mono hB8.size)
            clear kR8 hb9 hB8 kd8 fd e0 e1 f7 q7 q8 kp7 kR7 kd7 p2 p3 hB7
            have f2 := kR.frozen
            have q0 := kR.look 0 rfl
            have q1 := kR.look 1 rfl
            have ks := (kR.set 0 (.int .i64 sn)).set 1 (.int .i64 sd)
            have r0 : _ = some (Value.int .i64 sn) := ks.look 0 rfl
            have r1 : _ = some (Value.int .i64 sd) := ks.look 1 rfl
            have R0 := hid r0
            have R1 := hid r1
            have HBF := hid ((hBz.setCell (p := ⟨w.heap.size + 1, 0, none⟩) (by show w.heap.size ≤ w.heap.size + 1; omega) (.int .i64 sn)).setCell (p := ⟨w.heap.size + 1, 1, none⟩) (by show w.heap.size ≤ w.heap.size + 1; omega) (.int .i64 sd))
            clear kR ks r0 r1 hBz
            go_wp2
            refine bodyPost_ret (v := .tuple #[.agg #[.int .i64 sn, .int .i64 sd], .int .i64 se]) ?_ rfl ⟨rfl, HBF.out⟩
            have r0 := R0.out
            have r1 := R1.out
            simp [results, Tryz.results43, go_sem, r0, r1]
          · obtain ⟨rfl, rfl, rfl⟩ := HZ.out (HS3.out s HSL.out (by rw [HDF.out]; exact HFD.out) (by rw [HDF.out, HMQ.out]; exact hfm))
            have g0 : m3 = 5 := by rw [← HM3.out]; exact if_neg hfm
            subst g0
            have ks := (kR8.set 0 (.int .i64 0)).set 1 (.int .i64 0)
            have r0 : _ = some (Value.int .i64 0) := ks.look 0 rfl
            have r1 : _ = some (Value.int .i64 0) := ks.look 1 rfl
            have R0 := hid r0
            have R1 := hid r1
            have HBF := hid ((hB8.setCell (p := ⟨w.heap.size + 1, 0, none⟩) (by show w.heap.size ≤ w.heap.size + 1; omega) (.int .i64 0)).setCell (p := ⟨w.heap.size + 1, 1, none⟩) (by show w.heap.size ≤ w.heap.size + 1; omega) (.int .i64 0))
            clear ks r0 r1 kR8 hB8 hm1 hm2 hm3 hmq hfm kp6 kR6 hb7 hB6 kp8 HKP8 kd8 kp7 kR7 kd7 hB7 hgd
            go_wp2
            refine bodyPost_ret (v := .tuple #[.agg #[.int .i64 0, .int .i64 0], .int .i64 5]) ?_ rfl ⟨rfl, HBF.out⟩
            have r0 := R0.out
            have r1 := R1.out
            simp [results, Tryz.results43, go_sem, r0, r1]

end Go.Proofs.YtfkclcoipadhmaaGreatDoor
