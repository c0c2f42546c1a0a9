/- Walk of trankref02.Join. -/
import Derived.Test.YtfkclcoipadhmaaDoorEi
import Derived.Test.YtfkclcoipadhmaaDoorEh
namespace Go.Proofs.YtfkclcoipadhmaaDoor
open Go.RowKit
attribute [local irreducible] seqS seqST walkV walkJ

set_option maxHeartbeats 8000000 in
set_option maxRecDepth 100000 in
theorem rJoin_any (c d : List P4) (vc vd : Value) (w : World) (hc : P4R 0 w vc c) (hd : P4R 0 w vd d) :
    Calls Tryd.prog 32 #[vc, vd] w fun r w' => (∃ v', r = .returned (.tuple #[v', .int .i64 (joiE c d)]) ∧ PsR w.heap.size w' v' (joiL c d)) ∧ Below w.heap.size w w' := by
  have VC := hid (r2Valid_any c vc w hc)
  have VD := hid (fun w h => r2Valid_any d vd w h)
  obtain ⟨ac, cc, rfl, hcc1, hcc2, -⟩ := id hc
  obtain ⟨ad, cd, rfl, hcd1, hcd2, -⟩ := id hd
  unfold maxLen at hcc2 hcd2
  obtain ⟨E, hE⟩ : ∃ E, joiE c d = E := ⟨_, rfl⟩
  obtain ⟨R, hR⟩ : ∃ R, joiL c d = R := ⟨_, rfl⟩
  rw [hE, hR]
  have HE := hid hE
  have HR := hid hR
  have HRZ : Hid (E ≠ 0 → R = []) := hid (fun h => by rw [← hR]; unfold joiL; rw [hE]; exact if_neg h)
  clear hE hR
  obtain ⟨L, hL⟩ : ∃ L, c.length = L := ⟨_, rfl⟩
  obtain ⟨M, hM⟩ : ∃ L, d.length = L := ⟨_, rfl⟩
  rw [hL] at VC hcc1 hc ⊢
  rw [hM] at VD hcd1 hd ⊢
  have HL := hid hL
  have HM := hid hM
  clear hL hM
  go_enter Tryd.func32, Tryd.ntmps32
  go_wp2_with fail
  refine VC.out.mono ?_
  rintro r w1 ⟨rfl, hB⟩
  have hc1 := hc.below hB
  have hd1 := hd.below hB
  clear VC hc hd
  by_cases hrc : RV c
  case neg =>
    rw [decide_eq_false hrc]
    have HEV : E = 2 := by rw [← HE.out]; exact if_neg (fun h => hrc h.1)
    have e1 := HEV
    have e2 : R = [] := HRZ.out (by omega)
    subst e1 e2
    go_wp2
    go_ret2
    exact ⟨⟨_, rfl, SlR.nil _ _⟩, hB⟩
  rw [decide_eq_true hrc]
  have HRC := hid hrc
  clear hrc
  go_wp2_with fail
  refine (VD.out _ hd1).mono ?_
  rintro r w2 ⟨rfl, hb2⟩
  replace hB := hB.trans (hb2.mono hB.size)
  have hc2 := hc1.below hb2
  have hd2 := hd1.below hb2
  clear VD hb2 hc1 hd1
  by_cases hrd : RV d
  case neg =>
    rw [decide_eq_false hrd]
    have HEV : E = 2 := by rw [← HE.out]; exact if_neg (fun h => hrd h.2)
    have e1 := HEV
    have e2 : R = [] := HRZ.out (by omega)
    subst e1 e2
    go_wp2
    go_ret2
    exact ⟨⟨_, rfl, SlR.nil _ _⟩, hB⟩
  rw [decide_eq_true hrd]
  have HRD := hid hrd
  clear hrd
  have e1 : joiE c d = if 49 < c.length + d.length then 3 else match joiO (toQ c) (toQ d) with | some _ => 0 | none => 5 := if_pos ⟨HRC.out, HRD.out⟩
  rw [HE.out, HL.out, HM.out] at e1
  have hL48 : L ≤ 48 := by rw [← HL.out]; exact HRC.out.2.1
  have hM48 : M ≤ 48 := by rw [← HM.out]; exact HRD.out.2.1
  have hL2 : 2 ≤ L := by rw [← HL.out]; exact HRC.out.1
  have hM2 : 2 ≤ M := by rw [← HM.out]; exact HRD.out.1
  have wLM : IntKind.i64.wrap ((L : Int) + (M : Int)) = (L : Int) + (M : Int) := by rw [IntWalk.i64_left]; unfold wrap64; omega
  by_cases h49 : 49 < L + M
  case pos =>
    have h49i : (49 : Int) < (L : Int) + (M : Int) := by omega
    have HEV : E = 3 := by rw [e1]; exact if_pos h49
    have e1 := HEV
    have e2 : R = [] := HRZ.out (by omega)
    subst e1 e2
    go_wp2
    go_ret2
    exact ⟨⟨_, rfl, SlR.nil _ _⟩, hB⟩
  have h49i : ¬ (49 : Int) < (L : Int) + (M : Int) := by omega
  rw [if_neg h49] at e1
  have pc : PsR 0 w2 (.slice ac L cc) (toQ c) := P4R.toQ (h := (by rw [← HL.out] at hc2; rw [← HL.out]; exact hc2)) HRC.out
  have pd : PsR 0 w2 (.slice ad M cd) (toQ d) := P4R.toQ (h := (by rw [← HM.out] at hd2; rw [← HM.out]; exact hd2)) HRD.out
  have hvc := rv_cv HRC.out
  have hvd := rv_cv HRD.out
  have e2 : E = 0 → R = toQ c ++ (joiO (toQ c) (toQ d)).getD [] := fun h => by rw [← HR.out]; unfold joiL; exact if_pos (HE.out.trans h)
  have lc := toQ_len c
  have ld := toQ_len d
  rw [HL.out] at lc
  rw [HM.out] at ld
  generalize toQ c = C at pc hvc e1 e2 lc
  generalize toQ d = D at pd hvd e1 e2 ld
  have HX : Hid (rowO (joiF (endQ C)) (D.drop 1) (M - 1) = none → E = 5 ∧ R = []) := hid (fun hh => by
    have h5 : E = 5 := by rw [e1]; unfold joiO; rw [ld, hh]
    exact ⟨h5, HRZ.out (by omega)⟩)
  have HY : Hid (∀ o, rowO (joiF (endQ C)) (D.drop 1) (M - 1) = some o → E = 0 ∧ R = C ++ o) := hid (fun o hh => by
    have h5 : E = 0 := by rw [e1]; unfold joiO; rw [ld, hh]
    exact ⟨h5, by rw [e2 h5]; unfold joiO; rw [ld, hh]; rfl⟩)
  have CVD := hid hvd
  have HLC := hid lc
  have HLD := hid ld
  obtain ⟨ad2, cd2, he2, -, -, hdd⟩ := id pd
  obtain ⟨rfl, -⟩ : ad2 = ad ∧ True := by
    injection he2 with g1 g2 g3
    exact ⟨g1.symm, trivial⟩
  obtain ⟨ac2, cc2, he3, -, -, hcc⟩ := id pc
  obtain ⟨rfl, -⟩ : ac2 = ac ∧ True := by
    injection he3 with g1 g2 g3
    exact ⟨g1.symm, trivial⟩
  obtain ⟨bd, od, rfl, hbd, -, -, -, -⟩ := p_cell hdd (show 0 < D.length by omega)
  obtain ⟨bc, oc, rfl, hbc, y0, y1, y2, y3⟩ := p_cell hcc (show L - 1 < C.length by omega)
  have HDD := hid hdd
  have HCC := hid hcc
  obtain ⟨B, hBs⟩ : ∃ B, w2.heap.size = B := ⟨_, rfl⟩
  have HEP : Hid (endQ C = C.getD (L - 1) (0, 0)) := hid (by unfold endQ; rw [lc])
  have hPf : fits (C.getD (L - 1) (0, 0)).1 ∧ fits (C.getD (L - 1) (0, 0)).2 := hvc.fit _ (by omega)
  obtain ⟨P, hP⟩ : ∃ P, C.getD (L - 1) (0, 0) = P := ⟨_, rfl⟩
  rw [hP] at HEP hPf y0 y1 y2 y3
  have HPF := hid hPf
  have HBS := hid hBs
  have HB := hid hB
  have wM : ((M - 1 : Nat) : Int) = (M : Int) - 1 := by omega
  have wL : IntKind.i64.wrap ((L : Int) - 1) = ((L - 1 : Nat) : Int) := by rw [IntWalk.i64_left]; unfold wrap64; omega
  have hL1 : L - 1 < L := by omega
  obtain ⟨i0, hi0, hz, hsize, hby⟩ := info_parts infoPoint
  have HI := hid (And.intro hi0 (And.intro hz (And.intro hsize hby)))
  have Y0 := hid y0
  have Y1 := hid y1
  have Y2 := hid y2
  have Y3 := hid y3
  clear hP hPf e1 e2 hvc hvd pc pd lc ld hc2 hd2 hdd hcc he2 he3 hB HE HR HRZ HRC HRD hi0 hz hsize hby y0 y1 y2 y3 hBs
  go_wp2_with (at_builtin; refine wpList_append_own _ rfl _ _ 22 rfl w2.heap.size 52 i0 (.agg #[.int .i64 0, .int .i64 0, .int .i64 0, .int .i64 0]) 4 32 Tryd.underlying22 HI.out.1 HI.out.2.1 HI.out.2.2.1 HI.out.2.2.2 rfl (by decide) _ _ _ rfl (World.ownsRow_made w2 #[] 0 (Nat.le_refl _) (Nat.zero_le _) (by simp)) ⟨bc, oc, none⟩ L cc (ptsC C) rfl ?qc1 ?qc2 ?qc3 ?qc4 ?qc5 ?qc6 ?_)
  case qc1 => rw [ptsC_len, HLC.out]
  case qc2 => exact pt_src ((HCC.out).below ((Below.refl w2.heap.size w2).alloc (Nat.le_refl _) (.cells #[] 52)))
  case qc3 => exact ptsC_one C
  case qc4 => unfold maxLen; omega
  case qc5 => omega
  case qc6 => simp
  intro v' w3 hown hgrow hnil
  have hb3 := ((Below.refl w2.heap.size w2).alloc (Nat.le_refl _) (.cells #[] 52)).grown hgrow (by simp) (by intro k hk; simp [Value.ownBlock] at hk; omega)
  rw [HBS.out] at hown hb3 hbd hbc
  have y0 := (hb3.cell (p := ⟨bc, oc + (L - 1) * 4, none⟩) hbc).trans Y0.out
  have y1 := (hb3.cell (p := ⟨bc, oc + (L - 1) * 4 + 1, none⟩) hbc).trans Y1.out
  have y2 := (hb3.cell (p := ⟨bc, oc + (L - 1) * 4 + 2, none⟩) hbc).trans Y2.out
  have y3 := (hb3.cell (p := ⟨bc, oc + (L - 1) * 4 + 3, none⟩) hbc).trans Y3.out
  have hs3 : B ≤ w3.heap.size := by rw [← HBS.out]; exact hb3.size
  have kE := Blk.new w3 #[.int .i64 P.1.num, .int .i64 (P.1.den : Int), .int .i64 P.2.num, .int .i64 (P.2.den : Int)] 52
  have bE := alloc_below w3 (.cells #[.int .i64 P.1.num, .int .i64 (P.1.den : Int), .int .i64 P.2.num, .int .i64 (P.2.den : Int)] 52)
  have hb4 := hb3.trans (bE.mono hs3)
  have hs4 := Nat.le_trans hs3 bE.size
  have ho4 := owns_below hown bE
  obtain ⟨w4, hw4⟩ : ∃ w4, w3.alloc (.cells #[.int .i64 P.1.num, .int .i64 (P.1.den : Int), .int .i64 P.2.num, .int .i64 (P.2.den : Int)] 52) = w4 := ⟨_, rfl⟩
  obtain ⟨G, hG⟩ : ∃ G, w3.heap.size = G := ⟨_, rfl⟩
  rw [hw4, hG] at kE
  rw [hw4] at hb4 hs4 ho4
  clear bE hgrow hnil hown Y0 Y1 Y2 Y3 hb3
  go_wp2_with fail
  clear hw4 hG
  go_loopw [6, 40] (fun y x wr => ∃ i : Nat, x = .int .i64 i ∧ i ≤ M - 1 ∧ (∃ o, rowO (joiF (endQ C)) (D.drop 1) i = some o ∧ o.length = i ∧ Hid (wr.ownsRow B 52 4 y (L + i) (ptsC (C ++ o)))) ∧ Below B w2 wr ∧ B ≤ wr.heap.size ∧ Hid (Blk wr G #[.int .i64 P.1.num, .int .i64 (P.1.den : Int), .int .i64 P.2.num, .int .i64 (P.2.den : Int)] 52)) (fun _ x _ => M - 1 - (intOf x).toNat)
  case atStart => exact ⟨0, rfl, Nat.zero_le _, ⟨[], rfl, rfl, hid (by simpa using ho4)⟩, hb4, hs4, hid kE⟩
  case round =>
    clear kE hb4 hs4 ho4 y0 y1 y2 y3
    obtain ⟨i, rfl, hi, ⟨o, hsl, hol, HO⟩, hbel, hsr, HE0⟩ := hrel
    by_cases hiL : i < M - 1
    · have hi2 : (i : Int) < ((M - 1 : Nat) : Int) := by omega
      obtain ⟨b', off', he, hb', x0, x1, x2, x3⟩ := p_cell HDD.out (show i + 1 < D.length by rw [HLD.out]; omega)
      cases he
      rw [show od + (i + 1) * 4 = od + 4 + i * 4 by omega] at x0 x1 x2 x3
      replace x0 := (hbel.cell (p := ⟨bd, od + 4 + i * 4, none⟩) hbd).trans x0
      replace x1 := (hbel.cell (p := ⟨bd, od + 4 + i * 4 + 1, none⟩) hbd).trans x1
      replace x2 := (hbel.cell (p := ⟨bd, od + 4 + i * 4 + 2, none⟩) hbd).trans x2
      replace x3 := (hbel.cell (p := ⟨bd, od + 4 + i * 4 + 3, none⟩) hbd).trans x3
      have hQ := CVD.out.fit (i + 1) (by rw [HLD.out]; omega)
      have hs1 := fun p (h : joiF (endQ C) ((D.drop 1).getD i (0, 0)) = some p) => rowO_some hsl h
      have hs2 := fun (h : joiF (endQ C) ((D.drop 1).getD i (0, 0)) = none) => rowO_stay (rowO_none h) (show i + 1 ≤ M - 1 by omega)
      rw [getD_drop1] at hs1 hs2
      obtain ⟨P2, hPe⟩ : ∃ P, D.getD (i + 1) (0, 0) = P := ⟨_, rfl⟩
      rw [hPe] at x0 x1 x2 x3 hQ hs1 hs2
      have hjf : joiF (endQ C) P2 = pairO (P.1 + P2.1) (P.2 + P2.2) := by unfold joiF; rw [HEP.out]
      rw [hjf] at hs1 hs2
      have MA := hid (rAdd_any P.1 P2.1 HPF.out.1 hQ.1)
      have MB := hid (rAdd_any P.2 P2.2 HPF.out.2 hQ.2)
      obtain ⟨q1, hq1⟩ : ∃ q, P.1 + P2.1 = q := ⟨_, rfl⟩
      obtain ⟨q2, hq2⟩ : ∃ q, P.2 + P2.2 = q := ⟨_, rfl⟩
      rw [hq1] at MA hs1 hs2
      rw [hq2] at MB hs1 hs2
      unfold frQ frV at MA MB
      have HS1 := hid hs1
      have HS2 := hid hs2
      have HLL := hid hol
      have bA := alloc_below wr (.cells #[.int .i64 P2.1.num, .int .i64 (P2.1.den : Int), .int .i64 P2.2.num, .int .i64 (P2.2.den : Int)] 52)
      have kEA := HE0.out.below bA
      have xk0 := kEA.look 0 rfl
      have xk1 := kEA.look 1 rfl
      have hltr := HE0.out.lt
      clear hs1 hs2 hol hq1 hq2 hPe hQ hsl hjf
      go_wp2_with fail
      have kp := Blk.new wr #[.int .i64 P2.1.num, .int .i64 (P2.1.den : Int), .int .i64 P2.2.num, .int .i64 (P2.2.den : Int)] 52
      refine (MA.out _).mono ?_
      rintro r w5 ⟨rfl, hb5⟩
      have bb5 := bA.trans (hb5.mono bA.size)
      have kp5 := kp.below hb5
      have kE5 := kEA.below hb5
      have HO5 := hid (owns_below HO.out bb5)
      have hbel5 := hbel.trans (bb5.mono hsr)
      have hs5 := Nat.le_trans hsr bb5.size
      obtain ⟨m1, hm1⟩ : ∃ z, fitN q1 = z := ⟨_, rfl⟩
      obtain ⟨m2, hm2⟩ : ∃ z, fitD q1 = z := ⟨_, rfl⟩
      obtain ⟨m3, hm3⟩ : ∃ z, fitE q1 = z := ⟨_, rfl⟩
      rw [hm1, hm2, hm3]
      have HM1 := hid hm1
      have HM2 := hid hm2
      have HM3 := hid hm3
      clear hb5 bb5 bA kp kEA x0 x1 x2 x3 xk0 xk1 hltr MA HO hbel hsr hm1 hm2 hm3
      have bB := alloc_below w5 (.cells #[.int .i64 m1, .int .i64 m2] 32)
      have kX := Blk.new w5 #[.int .i64 m1, .int .i64 m2] 32
      have kE6 := kE5.below bB
      have x2 := kp5.look 2 rfl
      have x3 := kp5.look 3 rfl
      have x4 := kE6.look 2 rfl
      have x5 := kE6.look 3 rfl
      have x6 := (kp5.below bB).look 2 rfl
      have x7 := (kp5.below bB).look 3 rfl
      have hltr1 := kE5.lt
      have hltr2 := kp5.lt
      go_wp2_with fail
      refine (MB.out _).mono ?_
      rintro r w6 ⟨rfl, hb6⟩
      have bb6 := bB.trans (hb6.mono bB.size)
      have kX6 := kX.below hb6
      have kE7 := kE6.below hb6
      have HO6 := hid (owns_below HO5.out bb6)
      have hbel6 := hbel5.trans (bb6.mono hs5)
      have hs6 := Nat.le_trans hs5 bb6.size
      obtain ⟨m4, hm4⟩ : ∃ z, fitN q2 = z := ⟨_, rfl⟩
      obtain ⟨m5, hm5⟩ : ∃ z, fitD q2 = z := ⟨_, rfl⟩
      obtain ⟨m6, hm6⟩ : ∃ z, fitE q2 = z := ⟨_, rfl⟩
      rw [hm4, hm5, hm6]
      have HM4 := hid hm4
      have HM5 := hid hm5
      have HM6 := hid hm6
      clear hb6 bb6 bB kX kE5 kE6 x2 x3 x4 x5 x6 x7 hltr1 hltr2 MB HO5 hbel5 hs5 hm4 hm5 hm6 kp5
      have bC := alloc_below w6 (.cells #[.int .i64 m4, .int .i64 m5] 32)
      have kX7 := kX6.below bC
      have kE8 := kE7.below bC
      have HO7 := hid (owns_below HO6.out bC)
      have hbel7 := hbel6.trans (bC.mono hs6)
      have hs7 := Nat.le_trans hs6 bC.size
      by_cases hf : fits q1 ∧ fits q2
      · have e3 : m3 = 0 := by rw [← HM3.out]; exact if_pos hf.1
        have e6 : m6 = 0 := by rw [← HM6.out]; exact if_pos hf.2
        have HPC : Hid (ptsC [(q1, q2)] = [.int .i64 m1, .int .i64 m2, .int .i64 m4, .int .i64 m5]) := hid (by
          have a1 : fitN q1 = q1.num := if_pos hf.1
          have a2 : fitD q1 = (q1.den : Int) := if_pos hf.1
          have a4 : fitN q2 = q2.num := if_pos hf.2
          have a5 : fitD q2 = (q2.den : Int) := if_pos hf.2
          rw [← HM1.out, ← HM2.out, ← HM4.out, ← HM5.out, a1, a2, a4, a5]
          rfl)
        have HST := hid (HS1.out _ (pairO_yes hf.1 hf.2))
        subst e3 e6
        have y0 := kX6.look 0 rfl
        have y1 := kX6.look 1 rfl
        have y2 := kX7.look 0 rfl
        have y3 := kX7.look 1 rfl
        have hltx := kX6.lt
        have HKE := hid kE8
        clear hf HM1 HM2 HM3 HM4 HM5 HM6 HS1 HS2 HX kX6 bC kX7 kE7 kE8
        go_wp2_with (first
          | (at_builtin; refine wpList_appH rfl (.tmp 66) (.tmp 70) _ rfl B 52 (.agg #[.int .i64 0, .int .i64 0, .int .i64 0, .int .i64 0]) 4 32 Tryd.underlying22 infoPoint rfl (by decide) 52 _ _ _ rfl HO7.out [.int .i64 m1, .int .i64 m2, .int .i64 m4, .int .i64 m5] _ (by first | rfl | simp) rfl rfl (by simp [Value.oneCell']) (by unfold maxLen; omega) (by omega) (by omega) ?_; intro g8 gcap w8 ho8 hb8 hgr8 _ _))
        go_roundw
        case rel =>
          refine ⟨i + 1, by go_num, by omega, ⟨o ++ [(q1, q2)], HST.out, by rw [List.length_append, HLL.out]; rfl, ?_⟩, hbel7.trans hb8, Nat.le_trans hs7 hb8.size, ?_⟩
          · rw [← List.append_assoc, ptsC_append, HPC.out]
            exact hid ho8
          · exact hid ((World.grownBy.block hgr8 G HKE.out.lt (fun e => owns_ne HO7.out HKE.out (by omega) e.symm)).trans HKE.out)
        case measure => simp [intOf]; omega
      · obtain ⟨rfl, rfl⟩ := HX.out (HS2.out (pairO_no hf))
        have hw7 : Below w.heap.size w (w6.alloc (.cells #[.int .i64 m4, .int .i64 m5] 32)) := HB.out.trans ((show Below w2.heap.size w2 _ by rw [HBS.out]; exact hbel7).mono HB.out.size)
        by_cases h3 : fits q1
        · have e3 : m3 = 0 := by rw [← HM3.out]; exact if_pos h3
          have e6 : m6 = 5 := by rw [← HM6.out]; exact if_neg (fun h => hf ⟨h3, h⟩)
          subst e3 e6
          clear hf h3 HM1 HM2 HM3 HM4 HM5 HM6 HS1 HS2 HX HY kX6 bC kX7 HO7 hbel7 kE7 kE8 HO6
          go_wp2
          go_ret2
          exact ⟨⟨_, rfl, SlR.nil _ _⟩, hw7⟩
        · have e3 : m3 = 5 := by rw [← HM3.out]; exact if_neg h3
          subst e3
          clear hf h3 HM1 HM2 HM3 HM4 HM5 HM6 HS1 HS2 HX HY kX6 bC kX7 HO7 hbel7 kE7 kE8 HO6
          go_wp2
          go_ret2
          exact ⟨⟨_, rfl, SlR.nil _ _⟩, hw7⟩
    · obtain rfl : i = M - 1 := by omega
      have hi2 : ¬ ((M - 1 : Nat) : Int) < ((M - 1 : Nat) : Int) := by omega
      obtain ⟨ao3, c3, rfl, -⟩ := id (SlR.of_owns HO.out)
      have hBw : Below w.heap.size w wr := HB.out.trans ((show Below w2.heap.size w2 wr by rw [HBS.out]; exact hbel).mono HB.out.size)
      have hwB : w.heap.size ≤ B := by rw [← HBS.out]; exact HB.out.size
      have hr := SlR.mono (SlR.of_owns HO.out) hwB
      obtain ⟨rfl, rfl⟩ := HY.out o hsl
      have HRR := hid hr
      have HLL : Hid ((C ++ o).length = L + (M - 1)) := hid (by rw [List.length_append, HLC.out, hol])
      clear hr hol hsl HX HY HO HE0
      go_wp2
      go_ret2
      refine ⟨⟨_, rfl, ?_⟩, hBw⟩
      unfold PsR
      rw [HLL.out]
      exact HRR.out

end Go.Proofs.YtfkclcoipadhmaaDoor
