/- Walk of trankref04.Sizes. -/
import Derived.Test.YtmknengmjepdaaaSe
import Derived.Test.YtmknengmjepdaaaSg
namespace Go.Proofs.Ytmknengmjepdaaa
open Go.RowKit
attribute [local irreducible] seqS seqST walkV

set_option maxHeartbeats 8000000 in
set_option maxRecDepth 100000 in
theorem rSizes_any (p : Pat) (v : Value) (w : World) (h : PatF 0 w v p) :
    Calls Try.prog 48 #[v] w fun e w' => (∃ ln ld hn hd E, e = .returned (.tuple #[frV ln ld, frV hn hd, .int .i64 E]) ∧ GSz p ln ld hn hd E) ∧ Below w.heap.size w w' := by
  obtain ⟨sv, rfl, -⟩ := id h
  have H := hid h
  go_enter Try.func48, Try.ntmps48
  go_wp2_with fail
  have k0 := ((Blk.new w #[.int .i64 p.n, sv] 24).alloc (.cells #[.int .i64 0, .int .i64 0] 26)).alloc (.cells #[.int .i64 0, .int .i64 0] 26)
  have k1 := (Blk.new (w.alloc (.cells #[.int .i64 p.n, sv] 24)) #[.int .i64 0, .int .i64 0] 26).alloc (.cells #[.int .i64 0, .int .i64 0] 26)
  have k2 := Blk.new ((w.alloc (.cells #[.int .i64 p.n, sv] 24)).alloc (.cells #[.int .i64 0, .int .i64 0] 26)) #[.int .i64 0, .int .i64 0] 26
  have b0 := (((Below.refl w.heap.size w).alloc (Nat.le_refl _) (.cells #[.int .i64 p.n, sv] 24)).alloc (by simp) (.cells #[.int .i64 0, .int .i64 0] 26)).alloc (by simp <;> omega) (.cells #[.int .i64 0, .int .i64 0] 26)
  simp only [World.size_alloc] at k1 k2
  obtain ⟨w0, hw0⟩ : ∃ w0, ((w.alloc (.cells #[.int .i64 p.n, sv] 24)).alloc (.cells #[.int .i64 0, .int .i64 0] 26)).alloc (.cells #[.int .i64 0, .int .i64 0] 26) = w0 := ⟨_, rfl⟩
  rw [hw0] at k0 k1 k2 b0 ⊢
  clear hw0
  obtain ⟨S, hS⟩ : ∃ S, w.heap.size = S := ⟨_, rfl⟩
  have HS := hid hS
  rw [hS] at k0 k1 k2 b0 ⊢
  clear hS h
  have c0 := k0.look 0 rfl
  have c1 := k0.look 1 rfl
  go_wp2_with fail
  refine (rValid_any p _ _ (H.out.below (by rw [HS.out]; exact b0))).mono ?_
  rintro e w1 ⟨rfl, hb1⟩
  have hlt0 := k2.lt
  have b1 := b0.trans (hb1.mono (by omega))
  replace k0 := k0.below hb1
  replace k1 := k1.below hb1
  replace k2 := k2.below hb1
  clear b0 hb1 hlt0 c0 c1
  by_cases hp : PValid p
  · rw [decide_eq_true hp]
    have HP := hid hp
    clear hp
    have kL := (Blk.new w1 #[.int .i64 0, .int .i64 1] 26).alloc (.cells #[.int .i64 40, .int .i64 1] 26)
    have kH := Blk.new (w1.alloc (.cells #[.int .i64 0, .int .i64 1] 26)) #[.int .i64 40, .int .i64 1] 26
    have hlt := k2.lt
    replace k0 := (k0.alloc (.cells #[.int .i64 0, .int .i64 1] 26)).alloc (.cells #[.int .i64 40, .int .i64 1] 26)
    replace k1 := (k1.alloc (.cells #[.int .i64 0, .int .i64 1] 26)).alloc (.cells #[.int .i64 40, .int .i64 1] 26)
    replace k2 := (k2.alloc (.cells #[.int .i64 0, .int .i64 1] 26)).alloc (.cells #[.int .i64 40, .int .i64 1] 26)
    replace b1 := (b1.alloc (by omega) (.cells #[.int .i64 0, .int .i64 1] 26)).alloc (by simp <;> omega) (.cells #[.int .i64 40, .int .i64 1] 26)
    simp only [World.size_alloc] at kH
    go_wp2_with fail
    obtain ⟨w2, hw2⟩ : ∃ w2, (w1.alloc (.cells #[.int .i64 0, .int .i64 1] 26)).alloc (.cells #[.int .i64 40, .int .i64 1] 26) = w2 := ⟨_, rfl⟩
    obtain ⟨C, hC⟩ : ∃ C, w1.heap.size = C := ⟨_, rfl⟩
    rw [hw2] at kL kH k0 k1 k2 b1 ⊢
    rw [hC] at kL kH hlt ⊢
    clear hw2 hC
    have hl := low_start p S w2
    go_loopw [7] (fun _ wr => ∃ ln ld : Int, Blk wr S #[.int .i64 p.n, sv] 24 ∧ Blk wr (S + 1) #[.int .i64 0, .int .i64 0] 26 ∧ Blk wr (S + 1 + 1) #[.int .i64 0, .int .i64 0] 26 ∧ Blk wr C #[.int .i64 ln, .int .i64 ld] 26 ∧ Blk wr (C + 1) #[.int .i64 40, .int .i64 1] 26 ∧ Hid (FSize ln ld ∧ ld ≤ 1600 ∧ LoF p ((ln : Rat) / (ld : Rat))) ∧ Below S w wr) (fun _ wr => (102400001 - muAt wr C 0).toNat)
    case atStart => exact ⟨0, 1, k0, k1, k2, kL, kH, hid ⟨hl.1, hl.2.1, hl.2.2.1⟩, b1⟩
    case round =>
      clear k0 k1 k2 kL kH b1 hl
      obtain ⟨ln, ld, k0, k1, k2, kL, kH, HL, b1⟩ := hrel
      have c0 := k0.look 0 rfl
      have c1 := k0.look 1 rfl
      have d0 := kL.look 0 rfl
      have d1 := kL.look 1 rfl
      have HMU := hid (muAt_of d0 d1)
      go_wp2_with fail
      refine (bad_any p ln ld _ _ (H.out.below (by rw [HS.out]; exact b1)) HP.out HL.out.1).mono ?_
      rintro e w3 ⟨⟨sC, sD, ok, rfl, hr⟩, hb3⟩
      have hlt3 := kH.lt
      replace b1 := b1.trans (hb3.mono (by omega))
      replace k0 := k0.below hb3
      replace k1 := k1.below hb3
      replace k2 := k2.below hb3
      replace kL := kL.below hb3
      replace kH := kH.below hb3
      clear c0 c1 d0 d1 hb3 hlt3
      rcases hr with ⟨rfl, hbad⟩ | ⟨rfl, hfeas⟩
      · have hbd := hbad.bd HP.out
        by_cases hD : 0 ≤ sD
        · have HNO := hid (bad_ge hbad hD HL.out.2.2)
          clear hbad
          have f1 := k1.frozen
          have f2 := k2.frozen
          have q0 := k1.look 0 rfl
          have q1 := k1.look 1 rfl
          have q2 := k2.look 0 rfl
          have q3 := k2.look 1 rfl
          have r0 := k1.cell 0
          have r1 := k1.cell 1
          have r2 := k2.cell 0
          have r3 := k2.cell 1
          clear k0 k1 k2 kL kH
          go_wp2
          refine bodyPost_ret (v := .tuple #[frV 0 0, frV 0 0, .int .i64 10]) ?_ rfl ⟨⟨_, _, _, _, _, rfl, .inr (.inl ⟨HP.out, HNO.out, rfl, rfl, rfl, rfl, rfl⟩)⟩, by rw [HS.out]; exact ((((b1.setCell (p := ⟨S + 1, 0, none⟩) (by show S ≤ S + 1; omega) _).setCell (p := ⟨S + 1, 1, none⟩) (by show S ≤ S + 1; omega) _).setCell (p := ⟨S + 1 + 1, 0, none⟩) (by show S ≤ S + 1 + 1; omega) _).setCell (p := ⟨S + 1 + 1, 1, none⟩) (by show S ≤ S + 1 + 1; omega) _)⟩
          simp [results, Try.results48, go_sem, r0, r1, r2, r3]
        · by_cases hc : -40 * sD < sC
          · have HNO := hid (bad_past hbad (by omega) hc)
            have wM : IntKind.i64.wrap (-40 * sD) = -40 * sD := by rw [IntWalk.i64_left]; unfold wrap64; omega
            clear hbad
            have f1 := k1.frozen
            have f2 := k2.frozen
            have q0 := k1.look 0 rfl
            have q1 := k1.look 1 rfl
            have q2 := k2.look 0 rfl
            have q3 := k2.look 1 rfl
            have r0 := k1.cell 0
            have r1 := k1.cell 1
            have r2 := k2.cell 0
            have r3 := k2.cell 1
            clear k0 k1 k2 kL kH
            go_wp2
            refine bodyPost_ret (v := .tuple #[frV 0 0, frV 0 0, .int .i64 10]) ?_ rfl ⟨⟨_, _, _, _, _, rfl, .inr (.inl ⟨HP.out, HNO.out, rfl, rfl, rfl, rfl, rfl⟩)⟩, by rw [HS.out]; exact ((((b1.setCell (p := ⟨S + 1, 0, none⟩) (by show S ≤ S + 1; omega) _).setCell (p := ⟨S + 1, 1, none⟩) (by show S ≤ S + 1; omega) _).setCell (p := ⟨S + 1 + 1, 0, none⟩) (by show S ≤ S + 1 + 1; omega) _).setCell (p := ⟨S + 1 + 1, 1, none⟩) (by show S ≤ S + 1 + 1; omega) _)⟩
            simp [results, Try.results48, go_sem, r0, r1, r2, r3]
          · have hn := low_next HP.out hbad HL.out.1 HL.out.2.1 (by omega) (by omega)
            have wM : IntKind.i64.wrap (-40 * sD) = -40 * sD := by rw [IntWalk.i64_left]; unfold wrap64; omega
            have wN : IntKind.i64.wrap (-sD) = -sD := by rw [IntWalk.i64_left]; unfold wrap64; omega
            have HN := hid hn
            have HMB := hid (muS_bd HL.out.1)
            clear hbad hn
            go_wp2_with fail
            refine (New_any sC (-sD) _ (by omega) (by omega) (by omega) (by omega)).mono ?_
            rintro e w4 ⟨rfl, hb4⟩
            have hlt4 := kH.lt
            replace b1 := b1.trans (hb4.mono (by omega))
            replace k0 := k0.below hb4
            replace k1 := k1.below hb4
            replace k2 := k2.below hb4
            replace kL := kL.below hb4
            replace kH := kH.below hb4
            clear hb4 hlt4 wM wN
            have hn := HN.out
            generalize newN sC (-sD) = N1 at hn ⊢
            generalize newD sC (-sD) = D1 at hn ⊢
            generalize newE sC (-sD) = E1
            obtain ⟨l1, l2, l3, l4, l5, l6⟩ := hn
            have HM := hid (And.intro l6 (muS_bd l1))
            have HL2 := hid (And.intro l1 (And.intro l2 l3))
            have f1 := kL.frozen
            have g2 := kL.look 0 rfl
            have g3 := kL.look 1 rfl
            have kL2 := (kL.set 0 (.int .i64 N1)).set 1 (.int .i64 D1)
            have k02 := (k0.other (p := ⟨C, 0, none⟩) (by show S ≠ C; omega) (.int .i64 N1)).other (p := ⟨C, 1, none⟩) (by show S ≠ C; omega) (.int .i64 D1)
            have k12 := (k1.other (p := ⟨C, 0, none⟩) (by show S + 1 ≠ C; omega) (.int .i64 N1)).other (p := ⟨C, 1, none⟩) (by show S + 1 ≠ C; omega) (.int .i64 D1)
            have k22 := (k2.other (p := ⟨C, 0, none⟩) (by show S + 1 + 1 ≠ C; omega) (.int .i64 N1)).other (p := ⟨C, 1, none⟩) (by show S + 1 + 1 ≠ C; omega) (.int .i64 D1)
            have kH2 := (kH.other (p := ⟨C, 0, none⟩) (by show C + 1 ≠ C; omega) (.int .i64 N1)).other (p := ⟨C, 1, none⟩) (by show C + 1 ≠ C; omega) (.int .i64 D1)
            have b2 := (b1.setCell (p := ⟨C, 0, none⟩) (by show S ≤ C; omega) (.int .i64 N1)).setCell (p := ⟨C, 1, none⟩) (by show S ≤ C; omega) (.int .i64 D1)
            have hmuA := hid (muAt_of (kL2.look 0 rfl) (kL2.look 1 rfl))
            clear l1 l2 l3 l4 l5 l6 hbd
            go_wp2
            go_roundw
            case rel => exact ⟨N1, D1, k02, k12, k22, kL2, kH2, HL2, b2⟩
            case measure =>
              rw [hmuA.out, HMU.out]
              have := HM.out
              have := HMB.out
              omega
      · have HF := hid hfeas
        clear hfeas
        go_wp2_with fail
        have hh := high_start p S w3
        have hle := le_forty HL.out.1
        go_loopw [10] (fun _ wr => ∃ hn hd : Int, Blk wr S #[.int .i64 p.n, sv] 24 ∧ Blk wr (S + 1) #[.int .i64 0, .int .i64 0] 26 ∧ Blk wr (S + 1 + 1) #[.int .i64 0, .int .i64 0] 26 ∧ Blk wr C #[.int .i64 ln, .int .i64 ld] 26 ∧ Blk wr (C + 1) #[.int .i64 hn, .int .i64 hd] 26 ∧ Hid (FSize hn hd ∧ hd ≤ 1600 ∧ HiF p ((hn : Rat) / (hd : Rat)) ∧ (ln : Rat) / (ld : Rat) ≤ (hn : Rat) / (hd : Rat)) ∧ Below S w wr) (fun _ wr => (muAt wr (C + 1) 0).toNat)
        case atStart => exact ⟨40, 1, k0, k1, k2, kL, kH, hid ⟨hh.1, hh.2.1, hh.2.2.1, hle⟩, b1⟩
        case round =>
          clear k0 k1 k2 kL kH b1 hh hle
          obtain ⟨hn, hd, k0, k1, k2, kL, kH, HH, b1⟩ := hrel
          have c0 := k0.look 0 rfl
          have c1 := k0.look 1 rfl
          have d0 := kH.look 0 rfl
          have d1 := kH.look 1 rfl
          have HMU2 := hid (muAt_of d0 d1)
          go_wp2_with fail
          refine (bad_any p hn hd _ _ (H.out.below (by rw [HS.out]; exact b1)) HP.out HH.out.1).mono ?_
          rintro e w4 ⟨⟨sC2, sD2, ok2, rfl, hr⟩, hb4⟩
          have hlt4 := kH.lt
          replace b1 := b1.trans (hb4.mono (by omega))
          replace k0 := k0.below hb4
          replace k1 := k1.below hb4
          replace k2 := k2.below hb4
          replace kL := kL.below hb4
          replace kH := kH.below hb4
          clear c0 c1 d0 d1 hb4 hlt4
          rcases hr with ⟨rfl, hbad⟩ | ⟨rfl, hfeas⟩
          · have hbd := hbad.bd HP.out
            have hn9 := high_next HP.out hbad HH.out.1 HH.out.2.1 HF.out HH.out.2.2.2 (size_bd HL.out.1).1
            have hc9 := (bad_hi hbad HF.out HH.out.2.2.2 (size_bd HL.out.1).1 (size_bd HH.out.1).2).2.1
            have hD9 := hn9.1
            have wN : IntKind.i64.wrap (-sC2) = -sC2 := by rw [IntWalk.i64_left]; unfold wrap64; omega
            have HN := hid hn9.2
            have HMB := hid (muS_bd HH.out.1)
            clear hbad hn9
            go_wp2_with fail
            refine (New_any (-sC2) sD2 _ (by omega) (by omega) (by omega) (by omega)).mono ?_
            rintro e w5 ⟨rfl, hb5⟩
            have hlt5 := kH.lt
            replace b1 := b1.trans (hb5.mono (by omega))
            replace k0 := k0.below hb5
            replace k1 := k1.below hb5
            replace k2 := k2.below hb5
            replace kL := kL.below hb5
            replace kH := kH.below hb5
            clear hb5 hlt5 wN
            have hn := HN.out
            generalize newN (-sC2) sD2 = N1 at hn ⊢
            generalize newD (-sC2) sD2 = D1 at hn ⊢
            generalize newE (-sC2) sD2 = E1
            obtain ⟨l1, l2, l3, l4, l5, l6, l7⟩ := hn
            have HM := hid (And.intro l7 (muS_bd l1))
            have HL2 := hid (And.intro l1 (And.intro l2 (And.intro l3 l6)))
            have f1 := kH.frozen
            have g2 := kH.look 0 rfl
            have g3 := kH.look 1 rfl
            have kH2 := (kH.set 0 (.int .i64 N1)).set 1 (.int .i64 D1)
            have k02 := (k0.other (p := ⟨C + 1, 0, none⟩) (by show S ≠ C + 1; omega) (.int .i64 N1)).other (p := ⟨C + 1, 1, none⟩) (by show S ≠ C + 1; omega) (.int .i64 D1)
            have k12 := (k1.other (p := ⟨C + 1, 0, none⟩) (by show S + 1 ≠ C + 1; omega) (.int .i64 N1)).other (p := ⟨C + 1, 1, none⟩) (by show S + 1 ≠ C + 1; omega) (.int .i64 D1)
            have k22 := (k2.other (p := ⟨C + 1, 0, none⟩) (by show S + 1 + 1 ≠ C + 1; omega) (.int .i64 N1)).other (p := ⟨C + 1, 1, none⟩) (by show S + 1 + 1 ≠ C + 1; omega) (.int .i64 D1)
            have kL2 := (kL.other (p := ⟨C + 1, 0, none⟩) (by show C ≠ C + 1; omega) (.int .i64 N1)).other (p := ⟨C + 1, 1, none⟩) (by show C ≠ C + 1; omega) (.int .i64 D1)
            have b2 := (b1.setCell (p := ⟨C + 1, 0, none⟩) (by show S ≤ C + 1; omega) (.int .i64 N1)).setCell (p := ⟨C + 1, 1, none⟩) (by show S ≤ C + 1; omega) (.int .i64 D1)
            have hmuA := hid (muAt_of (kH2.look 0 rfl) (kH2.look 1 rfl))
            clear l1 l2 l3 l4 l5 l6 l7 hbd hc9 hD9
            go_wp2
            go_roundw
            case rel => exact ⟨N1, D1, k02, k12, k22, kL2, kH2, HL2, b2⟩
            case measure =>
              rw [hmuA.out, HMU2.out]
              have := HM.out
              have := HMB.out
              omega
          · have HOK : Hid (SzOk p ln ld hn hd) := hid ⟨HL.out.1, HH.out.1, HL.out.2.1, HH.out.2.1, HF.out, hfeas, HL.out.2.2, HH.out.2.2.1⟩
            clear hfeas
            go_wp2_with fail
            have hdd := OnlyB.drew w4 (S + 1)
            have z0 := fun x : SubT (OnlyB (S + 1)) w4.drew => (((onlyB_pre (S + 1)).trans hdd x.b).blk kL (by omega)).look 0 rfl
            have z1 := fun x : SubT (OnlyB (S + 1)) w4.drew => (((onlyB_pre (S + 1)).trans hdd x.b).blk kL (by omega)).look 1 rfl
            have z2 := fun x : SubT (OnlyB (S + 1)) w4.drew => (((onlyB_pre (S + 1)).trans hdd x.b).blk kH (by omega)).look 0 rfl
            have z3 := fun x : SubT (OnlyB (S + 1)) w4.drew => (((onlyB_pre (S + 1)).trans hdd x.b).blk kH (by omega)).look 1 rfl
            refine wp_walkV (T := OnlyB (S + 1)) (onlyB_pre _) (.rd 0 (.rd 1 (.mv 2 (.bt 3 (.rd 4 .nil))))) (by kernel_rfl) rfl rfl (by kernel_rfl) (by kernel_rfl) ?_
            iterate 2 (refine walkV_rd rfl (fun K hK => ?_); go_simp; refine hK _ ?_; clear hK K)
            clear z0 z1 z2 z3
            have k14 := k1.drew
            have k24 := k2.drew
            have b4 := b1.drew
            have f1 := k14.frozen
            have q0 := k14.look 0 rfl
            have q1 := k14.look 1 rfl
            generalize w4.drew = w5 at k14 k24 b4 f1 q0 q1 ⊢
            clear k1 k2 b1 hdd k0 kL kH
            (refine walkV_mv rfl (fun K hK => ?_); go_simp; refine hK _ _ ((onlyB_pre _).trans (OnlyB.set _ _ _ _) (OnlyB.set _ _ _ _)) ?_; clear hK K)
            have k15 := (k14.set 0 (.int .i64 ln)).set 1 (.int .i64 ld)
            have k25 := (k24.other (p := ⟨S + 1, 0, none⟩) (by show S + 1 + 1 ≠ S + 1; omega) (.int .i64 ln)).other (p := ⟨S + 1, 1, none⟩) (by show S + 1 + 1 ≠ S + 1; omega) (.int .i64 ld)
            have b5 := (b4.setCell (p := ⟨S + 1, 0, none⟩) (by show S ≤ S + 1; omega) (.int .i64 ln)).setCell (p := ⟨S + 1, 1, none⟩) (by show S ≤ S + 1; omega) (.int .i64 ld)
            clear f1 q0 q1 k14 k24 b4
            generalize (w5.setCell ⟨S + 1, 0, none⟩ (.int .i64 ln)).setCell ⟨S + 1, 1, none⟩ (.int .i64 ld) = w6 at k15 k25 b5 ⊢
            have f2 := k25.frozen
            have q2 := k25.look 0 rfl
            have q3 := k25.look 1 rfl
            (refine walkV_bt rfl (fun K hK => ?_); go_simp; refine hK _ _ ?_; clear hK K)
            have k16 := (k15.other (p := ⟨S + 1 + 1, 0, none⟩) (by show S + 1 ≠ S + 1 + 1; omega) (.int .i64 hn)).other (p := ⟨S + 1 + 1, 1, none⟩) (by show S + 1 ≠ S + 1 + 1; omega) (.int .i64 hd)
            have k26 := (k25.set 0 (.int .i64 hn)).set 1 (.int .i64 hd)
            have b6 := (b5.setCell (p := ⟨S + 1 + 1, 0, none⟩) (by show S ≤ S + 1 + 1; omega) (.int .i64 hn)).setCell (p := ⟨S + 1 + 1, 1, none⟩) (by show S ≤ S + 1 + 1; omega) (.int .i64 hd)
            clear f2 q2 q3 k15 k25 b5
            generalize (w6.setCell ⟨S + 1 + 1, 0, none⟩ (.int .i64 hn)).setCell ⟨S + 1 + 1, 1, none⟩ (.int .i64 hd) = w7 at k16 k26 b6 ⊢
            iterate 1 (refine walkV_rd rfl (fun K hK => ?_); go_simp; refine hK _ ?_; clear hK K)
            refine walkV_nil ?_
            have r0 := k16.cell 0
            have r1 := k16.cell 1
            have r2 := k26.cell 0
            have r3 := k26.cell 1
            go_wp2
            refine bodyPost_ret (v := .tuple #[frV ln ld, frV hn hd, .int .i64 0]) ?_ rfl ⟨⟨_, _, _, _, _, rfl, .inr (.inr ⟨HP.out, rfl, HOK.out⟩)⟩, by rw [HS.out]; exact b6⟩
            simp [results, Try.results48, go_sem, r0, r1, r2, r3]
  · rw [decide_eq_false hp]
    have HP := hid hp
    have f1 := k1.frozen
    have f2 := k2.frozen
    have q0 := k1.look 0 rfl
    have q1 := k1.look 1 rfl
    have q2 := k2.look 0 rfl
    have q3 := k2.look 1 rfl
    have r0 := k1.cell 0
    have r1 := k1.cell 1
    have r2 := k2.cell 0
    have r3 := k2.cell 1
    go_wp2
    refine bodyPost_ret (v := .tuple #[frV 0 0, frV 0 0, .int .i64 2]) ?_ rfl ⟨⟨_, _, _, _, _, rfl, .inl ⟨HP.out, rfl, rfl, rfl, rfl, rfl⟩⟩, by rw [HS.out]; exact ((((b1.setCell (p := ⟨S + 1, 0, none⟩) (by show S ≤ S + 1; omega) _).setCell (p := ⟨S + 1, 1, none⟩) (by show S ≤ S + 1; omega) _).setCell (p := ⟨S + 1 + 1, 0, none⟩) (by show S ≤ S + 1 + 1; omega) _).setCell (p := ⟨S + 1 + 1, 1, none⟩) (by show S ≤ S + 1 + 1; omega) _)⟩
    simp [results, Try.results48, go_sem, r0, r1, r2, r3]

end Go.Proofs.Ytmknengmjepdaaa
