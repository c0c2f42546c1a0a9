/- Walk of trankref02.grounds. -/
import Derived.Test.YtfkclcoipadhmaaGreatDoorEs
import Derived.Test.YtfkclcoipadhmaaGreatDoorCz
namespace Go.Proofs.YtfkclcoipadhmaaGreatDoor
open Go.RowKit
attribute [local irreducible] seqS seqST walkV walkJ

/-- What holds of what has come up in a region that makes a variable out of a call. -/
structure AllI (B : Nat) (w0 : World) (kc ka ks : Nat) (R : Value) (t : TypeId) (sz : Nat) (rc : Array Value) (l : Nat → Bool) (V : Nat → Value) (w : World) : Prop where
  b : Below B w0 w
  c : l kc = true → V kc = R
  a : l ka = true → VarI B w (V ka) t sz (l ks) rc
theorem pts_src {lo : Nat} {w : World} {b off : Nat} {l : List Pt} (h : CellsOf lo w (some ⟨b, off, none⟩) (ptsC l)) : ∀ (j : Nat) (u : Value), (ptsC l)[j]? = some u → w.cell? ((⟨b, off, none⟩ : Addr).add j) = some u := by
  intro j u hu
  have hlt := (List.getElem?_eq_some_iff.1 hu).1
  obtain ⟨b', off', he, _, _, hc⟩ := h (by intro h0; rw [h0] at hlt; cases hlt)
  cases he
  rw [Addr.add_lit, hc _ hlt, List.getD_eq_getElem?_getD, hu]
  rfl
theorem pts_one (l : List Pt) : ∀ u ∈ ptsC l, u.oneCell' = true := by
  intro u hu
  obtain ⟨z, rfl⟩ := ptsC_ints l u hu
  rfl
theorem map_getD (C : List Pt) (F : Pt → Rat) {i : Nat} (hi : i < C.length) : (C.map F).getD i 0 = F (C.getD i (0, 0)) := by
  rw [List.getD_eq_getElem?_getD, List.getElem?_map, List.getD_eq_getElem?_getD, List.getElem?_eq_getElem hi]
  rfl

set_option maxHeartbeats 8000000 in
set_option maxRecDepth 100000 in
theorem grounds_any (C D : List Pt) (vc vd : Value) (w : World) (hcv : CV C) (hdv : CV D) (hc : PsR 0 w vc C) (hd : PsR 0 w vd D) :
    Calls Tryz.prog 42 #[vc, vd] w fun r w' => (∃ v', r = .returned v' ∧ QsR w.heap.size w' v' (comG C D)) ∧ Below w.heap.size w w' := by
  obtain ⟨ac, cc, rfl, hcc1, hcc2, hCC⟩ := hc
  obtain ⟨ad, cd, rfl, hcd1, hcd2, hDD⟩ := hd
  unfold maxLen at hcc2 hcd2
  have h2 := hcv.two
  have h3 := hdv.two
  have h4 := hcv.most
  have h5 := hdv.most
  obtain ⟨bc, oc, rfl, hbc, x0, x1, -, -⟩ := p_cell hCC (show C.length - 1 < C.length by omega)
  obtain ⟨bd, od, rfl, hbd, x2, x3, -, -⟩ := p_cell hDD (show D.length - 1 < D.length by omega)
  have fc := (hcv.fit (C.length - 1) (by omega)).1
  have fd := (hdv.fit (D.length - 1) (by omega)).1
  have hm : lesQ (endQ C).1 (endQ D).1 = lesQ (C.getD (C.length - 1) (0, 0)).1 (D.getD (D.length - 1) (0, 0)).1 := rfl
  have hG : comG C D = grT ((C ++ D).map (·.1)) (lesQ (C.getD (C.length - 1) (0, 0)).1 (D.getD (D.length - 1) (0, 0)).1) (C.length + D.length) := by
    have := grT_all ((C ++ D).map (·.1)) (lesQ (C.getD (C.length - 1) (0, 0)).1 (D.getD (D.length - 1) (0, 0)).1)
    rw [List.length_map, List.length_append] at this
    rw [this, List.map_append]
    rfl
  obtain ⟨P, hP⟩ : ∃ p, (C.getD (C.length - 1) (0, 0)).1 = p := ⟨_, rfl⟩
  obtain ⟨Q, hQ⟩ : ∃ p, (D.getD (D.length - 1) (0, 0)).1 = p := ⟨_, rfl⟩
  rw [hP] at x0 x1 fc hG
  rw [hQ] at x2 x3 fd hG
  have LS := hid (fun w => rlesser_any P Q fc fd w)
  have hfM := lesQ_fits fc fd
  obtain ⟨M, hM⟩ : ∃ m, lesQ P Q = m := ⟨_, rfl⟩
  rw [hM] at LS hG hfM
  have hfit : ∀ i, i < C.length + D.length → fits ((C ++ D).getD i (0, 0)).1 := by
    intro i hi
    by_cases h : i < C.length
    · rw [List.getD_eq_getElem?_getD, List.getElem?_append_left h, ← List.getD_eq_getElem?_getD]
      exact (hcv.fit i h).1
    · rw [List.getD_eq_getElem?_getD, List.getElem?_append_right (by omega), ← List.getD_eq_getElem?_getD]
      exact (hdv.fit _ (by omega)).1
  have HFIT := hid hfit
  have HSF : Hid (∀ y ∈ (C ++ D).map (·.1), fits y) := hid (fun y hy => by
    obtain ⟨i, hi, rfl⟩ := mem_get hy
    exact hfit i (by rw [List.length_append] at hi; exact hi))
  have HCD : Hid ((C ++ D).length = C.length + D.length) := hid List.length_append
  have HCC := hid hCC
  have HDD := hid hDD
  obtain ⟨R, hR⟩ : ∃ R, comG C D = R := ⟨_, rfl⟩
  rw [hR] at hG ⊢
  have HG := hid hG
  have HPC : Hid (ptsC (C ++ D) = ptsC C ++ ptsC D) := hid (ptsC_append C D)
  have HLC := hid (ptsC_len C)
  have HLD := hid (ptsC_len D)
  obtain ⟨L, hL⟩ : ∃ L, C.length = L := ⟨_, rfl⟩
  obtain ⟨K, hK0⟩ : ∃ L, D.length = L := ⟨_, rfl⟩
  rw [hL] at x0 x1 hcc1 h2 h4 HFIT HCD HG HLC ⊢
  rw [hK0] at x2 x3 hcd1 h3 h5 HFIT HCD HG HLD ⊢
  have wL : IntKind.i64.wrap ((L : Int) - 1) = ((L - 1 : Nat) : Int) := by rw [IntWalk.i64_left]; unfold wrap64; omega
  have wK : IntKind.i64.wrap ((K : Int) - 1) = ((K - 1 : Nat) : Int) := by rw [IntWalk.i64_left]; unfold wrap64; omega
  have hL1 : L - 1 < L := by omega
  have hK1 : K - 1 < K := by omega
  unfold frQ at LS
  obtain ⟨m1, hm1⟩ : ∃ z, M.num = z := ⟨_, rfl⟩
  obtain ⟨m2, hm2⟩ : ∃ z, (M.den : Int) = z := ⟨_, rfl⟩
  rw [hm1, hm2] at LS
  have HM1 := hid hm1
  have HM2 := hid hm2
  have HFM := hid hfM
  clear hm hP hQ hM hfit hCC hDD hR hG fc fd hcv hdv hL hK0 hm1 hm2 hfM
  go_enter Tryz.func42, Tryz.ntmps42
  go_wp2_with fail
  have hd0 := (Below.refl w.heap.size w).drew
  have z0 := fun y : SubT (Below w.heap.size) w.drew => ((hd0.trans y.b).cell (p := ⟨bc, oc + (L - 1) * 4, none⟩) hbc).trans x0
  have z1 := fun y : SubT (Below w.heap.size) w.drew => ((hd0.trans y.b).cell (p := ⟨bc, oc + (L - 1) * 4 + 1, none⟩) hbc).trans x1
  have z2 := fun y : SubT (Below w.heap.size) w.drew => ((hd0.trans y.b).cell (p := ⟨bd, od + (K - 1) * 4, none⟩) hbd).trans x2
  have z3 := fun y : SubT (Below w.heap.size) w.drew => ((hd0.trans y.b).cell (p := ⟨bd, od + (K - 1) * 4 + 1, none⟩) hbd).trans x3
  refine wp_walkJ (T := Below (w.heap.size)) (belowV_pre _) (.rd 0 (.rd 1 (.rd 2 (.rd 3 (.rd 4 (.rd 5 (.rd 6 (.rd 7 (.rd 8 (.rd 9 (.rd 10 (.rd 11 (.rd 12 (.rd 13 (.inv [14, 15, 16]))))))))))))))) (by kernel_rfl) rfl (by kernel_rfl) (by kernel_rfl) ?_
  iterate 14 (refine walkJ_rd rfl (fun K hK => ?_); go_simp; refine hK _ ?_; clear hK K)
  clear z0 z1 z2 z3 x0 x1 x2 x3
  obtain ⟨Wd, hWd⟩ : ∃ Wd, w.drew = Wd := ⟨_, rfl⟩
  have hs9 : w.heap.size = Wd.heap.size := by rw [← hWd]; rfl
  rw [hWd] at hd0 ⊢
  clear hWd
  have HS9 := hid hs9
  clear hs9
  refine walkJ_inv (AllI w.heap.size w 14 15 16 (.agg #[.int .i64 m1, .int .i64 m2]) 31 2 #[.int .i64 m1, .int .i64 m2]) [(14, 23), (15, 5)] (by kernel_rfl) ?_ ?_ ?_
  · exact ⟨hd0, fun h => (by cases h), fun h => (by cases h)⟩
  · refine stepsI_cons [] [16] [] rfl (by kernel_rfl) (by kernel_rfl) (by kernel_rfl) (fun K l V x hx hl hds hn hI hK => ?_) ?_
    · go_simp
      have hsx : w.heap.size ≤ x.heap.size := by rw [HS9.out]; exact hx.size
      refine (LS.out _).mono ?_
      rintro e w9 ⟨rfl, hb9⟩
      refine ⟨_, rfl, hK _ _ (hb9.mono hsx) ?_⟩
      exact ⟨hI.b.trans (hb9.mono hsx), fun _ => rfl, fun h => (hI.a h).below hb9⟩
    refine stepsI_cons [] [16] [] rfl (by kernel_rfl) (by kernel_rfl) (by kernel_rfl) (fun K l V x hx hl hds hn hI hK => ?_) ?_
    · go_simp
      have hsx : w.heap.size ≤ x.heap.size := by rw [HS9.out]; exact hx.size
      have hb9 := alloc_below x (.cells #[.int .i64 0, .int .i64 0] 31)
      refine hK _ _ (hb9.mono hsx) ?_
      exact ⟨hI.b.trans (hb9.mono hsx), fun h => hI.c h, fun _ => VarI.new x _ _ hsx rfl hds.1⟩
    refine stepsI_cons [14, 15] [] [(14, 23), (15, 5)] rfl (by kernel_rfl) (by kernel_rfl) (by kernel_rfl) (fun K l V x hx hl hds hn hI hK => ?_) ?_
    · obtain ⟨g, cs, e1, e2, e3, e4, -⟩ := hI.a hl.2.1
      have hb9 := row_below (Below.refl w.heap.size x) e2 #[.int .i64 m1, .int .i64 m2]
      refine ⟨rfl, gives_store_row 31 (.tmp 5) (.tmp 23) rfl g _ e1 (hI.c hl.1) 31 cs e3 pinfoFrac e4 (by simp [Value.oneCell']) (hK _ _ hb9 ?_)⟩
      refine ⟨hI.b.trans hb9, fun h => hI.c h, fun _ => ?_⟩
      show VarI _ _ (V 15) _ _ _ _
      rw [e1]
      exact VarI.filled e2 e3 rfl
    exact stepsI_nil
  intro V W2 hW2 hI
  obtain ⟨gI, eI1, geI, kI⟩ := (hI.a rfl).out
  have qI0 := hI.c rfl
  have hbI := hI.b
  clear hI hd0 HS9 hW2
  simp only [putsP, qI0, eI1]
  go_simp
  clear qI0 eI1 LS
  obtain ⟨i0, hi0, hz, hsize, hby⟩ := info_parts infoPoint
  have HI := hid (And.intro hi0 (And.intro hz (And.intro hsize hby)))
  clear hi0 hz hsize hby
  have HCC2 := hid (CellsOf.below HCC.out hbI)
  have HDD2 := hid (CellsOf.below HDD.out hbI)
  go_wp2_with (at_builtin; refine wpList_append_own _ rfl _ _ 22 rfl W2.heap.size 44 i0 (.agg #[.int .i64 0, .int .i64 0, .int .i64 0, .int .i64 0]) 4 32 Tryz.underlying22 HI.out.1 HI.out.2.1 HI.out.2.2.1 HI.out.2.2.2 rfl (by decide) _ _ _ rfl (World.ownsRow_made W2 #[] 0 (Nat.le_refl _) (Nat.zero_le _) (by simp)) ⟨bc, oc, none⟩ L cc (ptsC C) rfl ?qc1 ?qc2 ?qc3 ?qc4 ?qc5 ?qc6 ?_)
  case qc1 => rw [HLC.out]
  case qc2 => exact pts_src ((HCC2.out).below ((Below.refl W2.heap.size W2).alloc (Nat.le_refl _) (.cells #[] 44)))
  case qc3 => exact pts_one C
  case qc4 => unfold maxLen; omega
  case qc5 => omega
  case qc6 => simp
  intro v' w3 hown hgrow hnil
  have hb3 := ((Below.refl W2.heap.size W2).alloc (Nat.le_refl _) (.cells #[] 44)).grown hgrow (by simp) (by intro k hk; simp [Value.ownBlock] at hk; omega)
  have HDD3 := hid (CellsOf.below HDD2.out hb3)
  have kG3 := kI.below hb3
  have HLT := hid kI.lt
  clear hgrow hnil HCC2 HDD2 kI
  go_wp2_with (at_builtin; refine wpList_append_own _ rfl _ _ 22 rfl W2.heap.size 44 i0 (.agg #[.int .i64 0, .int .i64 0, .int .i64 0, .int .i64 0]) 4 32 Tryz.underlying22 HI.out.1 HI.out.2.1 HI.out.2.2.1 HI.out.2.2.2 rfl (by decide) _ _ _ rfl hown ⟨bd, od, none⟩ K cd (ptsC D) rfl ?qd1 ?qd2 ?qd3 ?qd4 ?qd5 ?qd6 ?_)
  case qd1 => rw [HLD.out]
  case qd2 => exact pts_src HDD3.out
  case qd3 => exact pts_one D
  case qd4 => unfold maxLen; omega
  case qd5 => omega
  case qd6 => exact hb3.size
  intro v2 w4 hown4 hgrow4 hnil4
  have hne4 : ∀ k, v'.ownBlock = some k → W2.heap.size ≤ k := fun k hk => (hown.lt k hk).1
  have hb4 := hb3.grown hgrow4 hb3.size hne4
  have kG4 : Blk w4 gI #[.int .i64 m1, .int .i64 m2] 31 := (World.grownBy.block hgrow4 gI kG3.lt (fun e => by have := hne4 gI e.symm; have := HLT.out; omega)).trans kG3
  rw [← HPC.out] at hown4
  obtain ⟨N, hN⟩ : ∃ N, L + K = N := ⟨_, rfl⟩
  rw [hN] at hown4 HFIT HCD HG
  have hN96 : N ≤ 96 := by omega
  have hN1 : 1 ≤ N := by omega
  have hsl : SlR 0 w4 v2 N (ptsC (C ++ D)) := SlR.mono (SlR.of_owns hown4) (Nat.zero_le _)
  obtain ⟨a2, c2, rfl, hc1, hc2, hcc⟩ := hsl
  unfold maxLen at hc2
  have HCC4 := hid hcc
  have hBw4 : Below w.heap.size w w4 := hbI.trans (hb4.mono hbI.size)
  have HS : Hid (∀ i, i < N → ((C ++ D).map (·.1)).getD i 0 = ((C ++ D).getD i (0, 0)).1) := hid (fun i hi => map_getD _ _ (by rw [HCD.out]; exact hi))
  have HSL : Hid (((C ++ D).map (·.1)).length = N) := hid (by rw [List.length_map, HCD.out])
  generalize C ++ D = Z at HCC4 HFIT HSF HCD HG HS HSL
  generalize Z.map (·.1) = S at HSF HG HS HSL
  have HKG := hid kG4
  have HWW := hid hBw4.size
  have hgI4 := kG4.lt
  clear hgrow4 hnil4 hne4 hown hown4 kG3 kG4 hb3 hcc HPC HLC HLD HI HDD3 hb4 hbI HCC HDD
  go_wp2_with fail
  go_loopw [6, 30] (fun y x wr => ∃ i : Nat, x = .int .i64 i ∧ i ≤ N ∧ Hid (QsR w.heap.size wr y (grT S M i)) ∧ Hid (grT S M i = [] → y = .slice none 0 0) ∧ Below w4.heap.size w4 wr) (fun _ x _ => N - (intOf x).toNat)
  case atStart => exact ⟨0, rfl, Nat.zero_le _, hid (SlR.nil _ _), hid (fun _ => rfl), Below.refl _ _⟩
  case round =>
    obtain ⟨i, rfl, hi, HQ, HY, hbel⟩ := hrel
    by_cases hiL : i < N
    · have hi2 : (i : Int) < (N : Int) := by omega
      obtain ⟨b, off, rfl, hb, x0, x1, x2, x3⟩ := p_cell HCC4.out (show i < Z.length by rw [HCD.out]; exact hiL)
      replace x0 := (hbel.cell (p := ⟨b, off + i * 4, none⟩) hb).trans x0
      replace x1 := (hbel.cell (p := ⟨b, off + i * 4 + 1, none⟩) hb).trans x1
      replace x2 := (hbel.cell (p := ⟨b, off + i * 4 + 2, none⟩) hb).trans x2
      replace x3 := (hbel.cell (p := ⟨b, off + i * 4 + 3, none⟩) hb).trans x3
      have hf := HFIT.out i hiL
      have hst : grT S M (i + 1) = if S.getD i 0 ≤ M then putL (grT S M i) (S.getD i 0) else grT S M i := rfl
      rw [HS.out i hiL] at hst
      obtain ⟨P, hP⟩ : ∃ P, Z.getD i (0, 0) = P := ⟨_, rfl⟩
      rw [hP] at x0 x1 x2 x3 hf hst
      have OR := hid (fun w => rorder_any P.1 M hf HFM.out w)
      have PU := hid (fun v w1 hlo h hn => put_any (grT S M i) P.1 w.heap.size v w1 hlo h hn (fun j hj => grT_fits HSF.out (by rw [HSL.out]; exact hi) hj) hf (Nat.le_trans (grT_len S M i) (by omega)))
      have hcm := cmp_cases P.1 M
      obtain ⟨cz, hcz⟩ : ∃ z, cmpQ P.1 M = z := ⟨_, rfl⟩
      rw [hcz] at OR hcm
      have HCM := hid hcm
      have HST := hid hst
      unfold frQ at OR PU
      rw [HM1.out, HM2.out] at OR
      have bA := alloc_below wr (.cells #[.int .i64 P.1.num, .int .i64 (P.1.den : Int), .int .i64 P.2.num, .int .i64 (P.2.den : Int)] 44)
      have kGr : Blk wr gI #[.int .i64 m1, .int .i64 m2] 31 := HKG.out.below hbel
      have y0 := (kGr.below bA).look 0 rfl
      have y1 := (kGr.below bA).look 1 rfl
      have hltg := kGr.lt
      have hsr := hbel.size
      clear hcz hcm hst hP hf
      go_wp2_with fail
      have kp := Blk.new wr #[.int .i64 P.1.num, .int .i64 (P.1.den : Int), .int .i64 P.2.num, .int .i64 (P.2.den : Int)] 44
      refine (OR.out _).mono ?_
      rintro r w5 ⟨rfl, hb5⟩
      have bb := bA.trans (hb5.mono bA.size)
      have kp5 := kp.below hb5
      have hbel5 := hbel.trans (bb.mono hsr)
      have hq5 := QsR.below HQ.out bb
      clear hb5 bA kp kGr y0 y1 x0 x1 x2 x3 OR
      have hcase : (P.1 ≤ M ∧ cz ≤ 0) ∨ (¬ P.1 ≤ M ∧ ¬ cz ≤ 0) := by
        rcases HCM.out with ⟨hl, rfl, -⟩ | ⟨hl, rfl, -⟩ | ⟨hl, rfl, -⟩
        · exact .inl ⟨Rat.le_of_lt hl, by omega⟩
        · exact .inr ⟨Rat.not_le.2 hl, by omega⟩
        · exact .inl ⟨by rw [hl]; exact Rat.le_refl, by omega⟩
      have hsw : w.heap.size ≤ w5.heap.size := Nat.le_trans HWW.out (Nat.le_trans hsr bb.size)
      rcases hcase with ⟨hle, hz0⟩ | ⟨hle, hz0⟩
      · have hst := HST.out
        rw [if_pos hle] at hst
        have HST2 := hid hst
        have PU2 := hid (PU.out _ w5 hsw hq5 HY.out)
        have c0 := kp5.look 0 rfl
        have c1 := kp5.look 1 rfl
        clear hst hle HCM HST PU HQ hq5 HY bb
        go_wp2_with fail
        refine PU2.out.mono ?_
        rintro r w6 ⟨⟨v6, rfl, hq6⟩, hb6⟩
        have hbel6 := hbel5.trans (hb6.mono hbel5.size)
        have HQ6 := hid hq6
        clear hb6 hq6 PU2
        go_wp2
        go_roundw
        case rel =>
          refine ⟨i + 1, by go_num, by omega, by rw [HST2.out]; exact HQ6, hid (fun h0 => ?_), hbel6⟩
          rw [HST2.out] at h0
          exact absurd h0 (put_ne _ _)
        case measure => simp [intOf]; omega
      · have hst := HST.out
        rw [if_neg hle] at hst
        have HST2 := hid hst
        have HQ5 := hid hq5
        clear hst hle HCM HST PU HQ hq5 bb kp5
        go_wp2
        go_roundw
        case rel => exact ⟨i + 1, by go_num, by omega, by rw [HST2.out]; exact HQ5, hid (fun h0 => HY.out (by rw [← HST2.out]; exact h0)), hbel5⟩
        case measure => simp [intOf]; omega
    · obtain rfl : N = i := by omega
      have hi2 : ¬ (N : Int) < (N : Int) := by omega
      have hq := HQ.out
      rw [← HG.out] at hq
      have HQF := hid hq
      have hBf := hBw4.trans (hbel.mono hBw4.size)
      obtain ⟨a9, c9, rfl, -⟩ := id hq
      clear hq HQ HY
      go_wp2
      go_ret
      exact ⟨⟨_, rfl, HQF.out⟩, hBf⟩

end Go.Proofs.YtfkclcoipadhmaaGreatDoor
