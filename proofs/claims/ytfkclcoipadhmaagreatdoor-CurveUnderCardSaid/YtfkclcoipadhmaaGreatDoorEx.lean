/- Walks of slices.Equal at points, curve.Same, trankref02.Same. -/
import Derived.Test.YtfkclcoipadhmaaGreatDoorDv
import Derived.Test.YtfkclcoipadhmaaGreatDoorEd
namespace Go.Proofs.YtfkclcoipadhmaaGreatDoor
open Go.RowKit
attribute [local irreducible] seqS seqST walkV walkJ

set_option maxHeartbeats 8000000 in
set_option maxRecDepth 100000 in
theorem EqualPt_any (A B : List P4) (va vb : Value) (w : World) (hA : P4R 0 w va A) (hB : P4R 0 w vb B) :
    Calls Tryz.prog 60 #[va, vb] w fun r w' => r = .returned (.bool (decide (A = B))) ∧ Below w.heap.size w w' := by
  obtain ⟨aa, ca, rfl, hca, hma, hAA⟩ := hA
  obtain ⟨ab, cb, rfl, hcb, hmb, hBB⟩ := hB
  unfold maxLen at hma hmb
  obtain ⟨res, hres⟩ : ∃ b, decide (A = B) = b := ⟨_, rfl⟩
  rw [hres]
  have HR := hid hres
  have HAA := hid hAA
  have HBB := hid hBB
  obtain ⟨L, hL⟩ : ∃ L, A.length = L := ⟨_, rfl⟩
  obtain ⟨M, hM⟩ : ∃ L, B.length = L := ⟨_, rfl⟩
  have HL := hid hL
  have HM := hid hM
  rw [hL] at hca ⊢
  rw [hM] at hcb ⊢
  clear hres hL hM hAA hBB
  by_cases hLM : L = M
  case neg =>
    have hLMi : ¬ (L : Int) = (M : Int) := by omega
    go_enter Tryz.func60, Tryz.ntmps60
    go_wp2
    go_ret
    refine ⟨ret_bool ?_, Below.refl _ _⟩
    rw [← HR.out]; symm
    rw [decide_eq_false_iff_not]
    intro hh
    have := HL.out
    have := HM.out
    rw [hh] at *
    omega
  subst hLM
  go_enter Tryz.func60, Tryz.ntmps60
  go_wp2_with fail
  go_loopw [13] (fun x wr => ∃ i : Nat, x = .int .i64 i ∧ i ≤ L ∧ (∀ j, j < i → A.getD j z4 = B.getD j z4) ∧ Below w.heap.size w wr) (fun x _ => L - (intOf x).toNat)
  case atStart => exact ⟨0, rfl, Nat.zero_le _, fun j hj => by omega, Below.refl _ _⟩
  case round =>
    obtain ⟨i, rfl, hi, hall, hbel⟩ := hrel
    have HALL := hid hall
    clear hall
    by_cases hiL : i < L
    · have hi2 : (i : Int) < (L : Int) := by omega
      obtain ⟨⟨⟨a1, a2⟩, ⟨a3, a4⟩⟩, hpa⟩ : ∃ p : P4, A.getD i z4 = p := ⟨_, rfl⟩
      obtain ⟨⟨⟨b1, b2⟩, ⟨b3, b4⟩⟩, hpb⟩ : ∃ p : P4, B.getD i z4 = p := ⟨_, rfl⟩
      have HPA := hid hpa
      have HPB := hid hpb
      obtain ⟨ba, oa, rfl, hba, e0, e1, e2, e3⟩ := p4_cell HAA.out (show i < A.length by rw [HL.out]; exact hiL)
      obtain ⟨bb, ob, rfl, hbb, f0, f1, f2, f3⟩ := p4_cell HBB.out (show i < B.length by rw [HM.out]; exact hiL)
      rw [hpa] at e0 e1 e2 e3
      rw [hpb] at f0 f1 f2 f3
      replace e0 := (hbel.cell (p := ⟨ba, oa + i * 4, none⟩) hba).trans e0
      replace e1 := (hbel.cell (p := ⟨ba, oa + i * 4 + 1, none⟩) hba).trans e1
      replace e2 := (hbel.cell (p := ⟨ba, oa + i * 4 + 2, none⟩) hba).trans e2
      replace e3 := (hbel.cell (p := ⟨ba, oa + i * 4 + 3, none⟩) hba).trans e3
      replace f0 := (hbel.cell (p := ⟨bb, ob + i * 4, none⟩) hbb).trans f0
      replace f1 := (hbel.cell (p := ⟨bb, ob + i * 4 + 1, none⟩) hbb).trans f1
      replace f2 := (hbel.cell (p := ⟨bb, ob + i * 4 + 2, none⟩) hbb).trans f2
      replace f3 := (hbel.cell (p := ⟨bb, ob + i * 4 + 3, none⟩) hbb).trans f3
      clear hpa hpb
      by_cases g1 : a1 = b1
      case neg =>
        go_wp2_with fail
        go_region
        go_wp2
        go_ret
        refine ⟨ret_bool ?_, hbel.drew⟩
        rw [← HR.out]; symm
        rw [decide_eq_false_iff_not]
        intro hh
        have h5 : A.getD i z4 = B.getD i z4 := by rw [hh]
        rw [HPA.out, HPB.out] at h5
        simp only [Prod.mk.injEq] at h5
        omega
      by_cases g2 : a2 = b2
      case neg =>
        subst g1
        go_wp2_with fail
        go_region
        go_wp2
        go_ret
        refine ⟨ret_bool ?_, hbel.drew⟩
        rw [← HR.out]; symm
        rw [decide_eq_false_iff_not]
        intro hh
        have h5 : A.getD i z4 = B.getD i z4 := by rw [hh]
        rw [HPA.out, HPB.out] at h5
        simp only [Prod.mk.injEq] at h5
        omega
      by_cases g3 : a3 = b3
      case neg =>
        subst g1 g2
        go_wp2_with fail
        go_region
        go_wp2
        go_ret
        refine ⟨ret_bool ?_, hbel.drew⟩
        rw [← HR.out]; symm
        rw [decide_eq_false_iff_not]
        intro hh
        have h5 : A.getD i z4 = B.getD i z4 := by rw [hh]
        rw [HPA.out, HPB.out] at h5
        simp only [Prod.mk.injEq] at h5
        omega
      by_cases g4 : a4 = b4
      case neg =>
        subst g1 g2 g3
        go_wp2_with fail
        go_region
        go_wp2
        go_ret
        refine ⟨ret_bool ?_, hbel.drew⟩
        rw [← HR.out]; symm
        rw [decide_eq_false_iff_not]
        intro hh
        have h5 : A.getD i z4 = B.getD i z4 := by rw [hh]
        rw [HPA.out, HPB.out] at h5
        simp only [Prod.mk.injEq] at h5
        omega
      subst g1 g2 g3 g4
      go_wp2_with fail
      go_region
      go_wp2
      go_roundw
      case rel =>
        refine ⟨i + 1, by go_num, by omega, fun j hj => ?_, hbel.drew⟩
        by_cases hji : j = i
        · rw [hji, HPA.out, HPB.out]
        · exact HALL.out j (by omega)
      case measure => simp [intOf]; omega
    · obtain rfl : L = i := by omega
      have hi2 : ¬ (L : Int) < (L : Int) := by omega
      go_wp2
      go_ret
      refine ⟨ret_bool ?_, hbel⟩
      rw [← HR.out]; symm
      rw [decide_eq_true_eq]
      exact list_eq_of (by rw [HL.out, HM.out]) (fun j hj => HALL.out j (by rw [← HL.out]; exact hj))

/-- What Same hands back. -/
def samE (c d : List P4) : Int := if RV c ∧ RV d then (if slpE c = 0 then slpE d else slpE c) else 2
def samB (c d : List P4) : Bool := if samE c d = 0 then decide (ofQ (nrmL c) = ofQ (nrmL d)) else false

set_option maxHeartbeats 4000000 in
set_option maxRecDepth 100000 in
theorem Same_any (c d : List P4) (vc vd : Value) (w : World) (hc : P4R 0 w vc c) (hd : P4R 0 w vd d) (hz : Z0 w) :
    Calls Tryz.prog 20 #[vc, vd] w fun r w' => r = .returned (.tuple #[.bool (samB c d), .int .i64 (samE c d)]) ∧ Below w.heap.size w w' := by
  have VC := hid (cValid_any c vc w hc hz)
  have VD := hid (fun w h hz => cValid_any d vd w h hz)
  have NC := hid (fun w h hz => Norm_any c vc w h hz)
  have ND := hid (fun w h hz => Norm_any d vd w h hz)
  have EQ := hid (fun u v w h k => EqualPt_any (ofQ (nrmL c)) (ofQ (nrmL d)) u v w h k)
  obtain ⟨E, hE⟩ : ∃ E, samE c d = E := ⟨_, rfl⟩
  obtain ⟨R, hR⟩ : ∃ R, samB c d = R := ⟨_, rfl⟩
  rw [hE, hR]
  have HE := hid hE
  have HRZ : Hid (E ≠ 0 → R = false) := hid (fun h => by rw [← hR]; unfold samB; rw [hE]; exact if_neg h)
  have HRY : Hid (E = 0 → decide (ofQ (nrmL c) = ofQ (nrmL d)) = R) := hid (fun h => by rw [← hR]; unfold samB; rw [hE]; exact (if_pos h).symm)
  clear hE hR
  go_enter Tryz.func20, Tryz.ntmps20
  go_wp2_with fail
  refine VC.out.mono ?_
  rintro r w1 ⟨rfl, hB⟩
  have hc1 := hc.below hB
  have hd1 := hd.below hB
  have hz1 := hz.below hB
  clear VC hc hd
  by_cases hrc : RV c
  case neg =>
    rw [decide_eq_false hrc]
    have e1 : E = 2 := by rw [← HE.out]; exact if_neg (fun h => hrc h.1)
    have e2 := HRZ.out (by omega)
    subst e1 e2
    go_wp2
    go_ret2
    exact ⟨rfl, hB⟩
  rw [decide_eq_true hrc]
  have HRC := hid hrc
  clear hrc
  go_wp2_with fail
  refine (VD.out _ hd1 hz1).mono ?_
  rintro r w2 ⟨rfl, hb2⟩
  replace hB := hB.trans (hb2.mono hB.size)
  have hc2 := hc1.below hb2
  have hd2 := hd1.below hb2
  have hz2 := hz1.below hb2
  clear VD hb2 hc1 hd1
  by_cases hrd : RV d
  case neg =>
    rw [decide_eq_false hrd]
    have e1 : E = 2 := by rw [← HE.out]; exact if_neg (fun h => hrd h.2)
    have e2 := HRZ.out (by omega)
    subst e1 e2
    go_wp2
    go_ret2
    exact ⟨rfl, hB⟩
  rw [decide_eq_true hrd]
  have e1 : samE c d = if slpE c = 0 then slpE d else slpE c := if_pos ⟨HRC.out, hrd⟩
  rw [HE.out] at e1
  have HE1 := hid e1
  clear e1 hrd HRC HE
  generalize ofQ_ge : slpE c = EC at NC HE1
  generalize ofQ_gd : slpE d = ED at ND HE1
  clear ofQ_ge ofQ_gd
  go_wp2_with fail
  refine (NC.out _ hc2 hz2).mono ?_
  rintro r w3 ⟨⟨u3, rfl, q3⟩, hb3⟩
  replace hB := hB.trans (hb3.mono hB.size)
  have hd3 := hd2.below hb3
  have hz3 := hz2.below hb3
  replace q3 := PsR.mono q3 (Nat.zero_le _)
  clear NC hb3 hc2 hd2
  by_cases hc0 : EC = 0
  case neg =>
    have e1 : E = EC := by rw [HE1.out]; exact if_neg hc0
    have e2 := HRZ.out (by rw [e1]; exact hc0)
    subst e1 e2
    clear HRZ HRY HE1
    go_wp2
    go_ret2
    exact ⟨rfl, hB⟩
  have e1 : E = ED := by rw [HE1.out]; exact if_pos hc0
  subst hc0 e1
  clear HE1
  go_wp2_with fail
  refine (ND.out _ hd3 hz3).mono ?_
  rintro r w4 ⟨⟨u4, rfl, q4⟩, hb4⟩
  replace hB := hB.trans (hb4.mono hB.size)
  replace q4 := PsR.mono q4 (Nat.zero_le _)
  replace q3 := q3.below hb4
  clear ND hb4 hd3
  by_cases hd0 : E = 0
  case neg =>
    have e2 := HRZ.out hd0
    subst e2
    clear HRZ HRY
    go_wp2
    go_ret2
    exact ⟨rfl, hB⟩
  have e2 := HRY.out hd0
  rw [e2] at EQ
  subst hd0
  clear HRZ HRY e2
  go_wp2_with fail
  refine (EQ.out _ _ _ (PsR.ofQ q3) (PsR.ofQ q4)).mono ?_
  rintro r w5 ⟨rfl, hb5⟩
  replace hB := hB.trans (hb5.mono hB.size)
  clear EQ hb5 q3 q4
  go_wp2
  go_ret2
  exact ⟨rfl, hB⟩

set_option maxHeartbeats 4000000 in
set_option maxRecDepth 100000 in
theorem rSame_any (c d : List P4) (vc vd : Value) (w : World) (hc : P4R 0 w vc c) (hd : P4R 0 w vd d) :
    Calls Tryz.prog 21 #[vc, vd] w fun r w' => r = .returned (.tuple #[.bool (samB c d), .int .i64 (samE c d)]) ∧ Below w.heap.size w w' := by
  have VC := hid (r2Valid_any c vc w hc)
  have VD := hid (fun w h => r2Valid_any d vd w h)
  have NC := hid (fun w h => rNorm_any c vc w h)
  have ND := hid (fun w h => rNorm_any d vd w h)
  have EQ := hid (fun u v w h k => Equal_any (ofQ (nrmL c)) (ofQ (nrmL d)) u v w h k)
  obtain ⟨E, hE⟩ : ∃ E, samE c d = E := ⟨_, rfl⟩
  obtain ⟨R, hR⟩ : ∃ R, samB c d = R := ⟨_, rfl⟩
  rw [hE, hR]
  have HE := hid hE
  have HRZ : Hid (E ≠ 0 → R = false) := hid (fun h => by rw [← hR]; unfold samB; rw [hE]; exact if_neg h)
  have HRY : Hid (E = 0 → decide (ofQ (nrmL c) = ofQ (nrmL d)) = R) := hid (fun h => by rw [← hR]; unfold samB; rw [hE]; exact (if_pos h).symm)
  clear hE hR
  go_enter Tryz.func21, Tryz.ntmps21
  go_wp2_with fail
  refine VC.out.mono ?_
  rintro r w1 ⟨rfl, hB⟩
  have hc1 := hc.below hB
  have hd1 := hd.below hB
  clear VC hc hd
  by_cases hrc : RV c
  case neg =>
    rw [decide_eq_false hrc]
    have e1 : E = 2 := by rw [← HE.out]; exact if_neg (fun h => hrc h.1)
    have e2 := HRZ.out (by omega)
    subst e1 e2
    go_wp2
    go_ret2
    exact ⟨rfl, hB⟩
  rw [decide_eq_true hrc]
  have HRC := hid hrc
  clear hrc
  go_wp2_with fail
  refine (VD.out _ hd1).mono ?_
  rintro r w2 ⟨rfl, hb2⟩
  replace hB := hB.trans (hb2.mono hB.size)
  have hc2 := hc1.below hb2
  have hd2 := hd1.below hb2
  clear VD hb2 hc1 hd1
  by_cases hrd : RV d
  case neg =>
    rw [decide_eq_false hrd]
    have e1 : E = 2 := by rw [← HE.out]; exact if_neg (fun h => hrd h.2)
    have e2 := HRZ.out (by omega)
    subst e1 e2
    go_wp2
    go_ret2
    exact ⟨rfl, hB⟩
  rw [decide_eq_true hrd]
  have e1 : samE c d = if slpE c = 0 then slpE d else slpE c := if_pos ⟨HRC.out, hrd⟩
  rw [HE.out] at e1
  have HE1 := hid e1
  clear e1 hrd HRC HE
  generalize ofQ_ge : slpE c = EC at NC HE1
  generalize ofQ_gd : slpE d = ED at ND HE1
  clear ofQ_ge ofQ_gd
  go_wp2_with fail
  refine (NC.out _ hc2).mono ?_
  rintro r w3 ⟨⟨u3, rfl, q3⟩, hb3⟩
  replace hB := hB.trans (hb3.mono hB.size)
  have hd3 := hd2.below hb3
  replace q3 := PsR.mono q3 (Nat.zero_le _)
  clear NC hb3 hc2 hd2
  by_cases hc0 : EC = 0
  case neg =>
    have e1 : E = EC := by rw [HE1.out]; exact if_neg hc0
    have e2 := HRZ.out (by rw [e1]; exact hc0)
    subst e1 e2
    clear HRZ HRY HE1
    go_wp2
    go_ret2
    exact ⟨rfl, hB⟩
  have e1 : E = ED := by rw [HE1.out]; exact if_pos hc0
  subst hc0 e1
  clear HE1
  go_wp2_with fail
  refine (ND.out _ hd3).mono ?_
  rintro r w4 ⟨⟨u4, rfl, q4⟩, hb4⟩
  replace hB := hB.trans (hb4.mono hB.size)
  replace q4 := PsR.mono q4 (Nat.zero_le _)
  replace q3 := q3.below hb4
  clear ND hb4 hd3
  by_cases hd0 : E = 0
  case neg =>
    have e2 := HRZ.out hd0
    subst e2
    clear HRZ HRY
    go_wp2
    go_ret2
    exact ⟨rfl, hB⟩
  have e2 := HRY.out hd0
  rw [e2] at EQ
  subst hd0
  clear HRZ HRY e2
  go_wp2_with fail
  refine (EQ.out _ _ _ (PsR.ofQ q3) (PsR.ofQ q4)).mono ?_
  rintro r w5 ⟨rfl, hb5⟩
  replace hB := hB.trans (hb5.mono hB.size)
  clear EQ hb5 q3 q4
  go_wp2
  go_ret2
  exact ⟨rfl, hB⟩

end Go.Proofs.YtfkclcoipadhmaaGreatDoor
