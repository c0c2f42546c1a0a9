/- Walk of curve.Series. -/
import Derived.Test.YtfkclcoipadhmaaGreatDoorEk
import Derived.Test.YtfkclcoipadhmaaGreatDoorEf
namespace Go.Proofs.YtfkclcoipadhmaaGreatDoor
open Go.RowKit
attribute [local irreducible] seqS seqST walkV walkJ

/-- What Series hands back. -/
def serE (c d : List P4) : Int := if RV c ∧ RV d then sumE (c.map invP) (d.map invP) else 2
def serL (c d : List P4) : List P4 := if serE c d = 0 then (ofQ (sumL (c.map invP) (d.map invP))).map invP else []

set_option maxHeartbeats 4000000 in
set_option maxRecDepth 100000 in
theorem Series_any (c d : List P4) (vc vd : Value) (w : World) (hc : P4R 0 w vc c) (hd : P4R 0 w vd d) (hz : Z0 w) :
    Calls Tryz.prog 12 #[vc, vd] w fun r w' => (∃ v', r = .returned (.tuple #[v', .int .i64 (serE c d)]) ∧ P4R w.heap.size w' v' (serL c d)) ∧ Below w.heap.size w w' := by
  have VC := hid (cValid_any c vc w hc hz)
  have VD := hid (fun w h hz => cValid_any d vd w h hz)
  obtain ⟨ac, cc, rfl, -⟩ := id hc
  obtain ⟨ad, cd, rfl, -⟩ := id hd
  obtain ⟨E, hE⟩ : ∃ E, serE c d = E := ⟨_, rfl⟩
  obtain ⟨R, hR⟩ : ∃ R, serL c d = R := ⟨_, rfl⟩
  rw [hE, hR]
  have HE := hid hE
  have HR := hid hR
  have HRZ : Hid (E ≠ 0 → R = []) := hid (fun h => by rw [← hR]; unfold serL; rw [hE]; exact if_neg h)
  clear hE hR
  go_enter Tryz.func12, Tryz.ntmps12
  go_wp2_with fail
  refine VC.out.mono ?_
  rintro r w1 ⟨rfl, hB⟩
  have hc1 := hc.below hB
  have hd1 := hd.below hB
  have hz1 := hz.below hB
  clear VC hc hd hz
  by_cases hrc : RV c
  case neg =>
    rw [decide_eq_false hrc]
    have e1 : E = 2 := by rw [← HE.out]; exact if_neg (fun h => hrc h.1)
    have e2 : R = [] := HRZ.out (by omega)
    subst e1 e2
    go_wp2
    go_ret2
    exact ⟨⟨_, rfl, SlR.nil _ _⟩, hB⟩
  rw [decide_eq_true hrc]
  have HRC := hid hrc
  clear hrc
  go_wp2_with fail
  refine (VD.out _ hd1 hz1).mono ?_
  rintro r w2 ⟨rfl, hb2⟩
  replace hB := hB.trans (hb2.mono hB.size)
  have hc2 := hc1.below hb2
  have hd2 := hd1.below hb2
  have hz2 := hz1.below hb2
  clear VD hb2 hc1 hd1 hz1
  by_cases hrd : RV d
  case neg =>
    rw [decide_eq_false hrd]
    have e1 : E = 2 := by rw [← HE.out]; exact if_neg (fun h => hrd h.2)
    have e2 : R = [] := HRZ.out (by omega)
    subst e1 e2
    go_wp2
    go_ret2
    exact ⟨⟨_, rfl, SlR.nil _ _⟩, hB⟩
  rw [decide_eq_true hrd]
  have IC := hid (inverse_any c _ w2 hc2 (by have := HRC.out.2.1; omega))
  have ID := hid (fun w h => inverse_any d (.slice ad d.length cd) w h (by have := hrd.2.1; omega))
  have SU := hid (fun u v w h k hz => Sum_any (c.map invP) (d.map invP) u v w h k hz)
  have e1 : serE c d = sumE (c.map invP) (d.map invP) := if_pos ⟨HRC.out, hrd⟩
  have e2 : E = 0 → R = (ofQ (sumL (c.map invP) (d.map invP))).map invP := fun h => by rw [← HR.out]; unfold serL; exact if_pos (HE.out.trans h)
  have hcv := sum_cv (c := c.map invP) (d := d.map invP)
  rw [← e1, HE.out] at SU hcv
  generalize sumL (c.map invP) (d.map invP) = S at SU e2 hcv
  generalize c.map invP = ci at IC SU
  generalize d.map invP = di at ID SU
  have HE2 := hid e2
  have HCV := hid hcv
  clear e1 e2 hcv HE HR hrd HRC
  go_wp2_with fail
  refine IC.out.mono ?_
  rintro r w3 ⟨⟨u3, rfl, q3⟩, hb3⟩
  have hd3 := hd2.below hb3
  have hz3 := hz2.below hb3
  replace q3 := SlR.mono q3 (Nat.zero_le _)
  replace hB := hB.trans (hb3.mono hB.size)
  clear IC hc2 hd2 hz2 hb3
  go_wp2_with fail
  refine (ID.out _ hd3).mono ?_
  rintro r w4 ⟨⟨u4, rfl, q4⟩, hb4⟩
  have hz4 := hz3.below hb4
  replace q3 := SlR.below q3 hb4
  replace q4 := SlR.mono q4 (Nat.zero_le _)
  replace hB := hB.trans (hb4.mono hB.size)
  clear ID hd3 hz3 hb4
  go_wp2_with fail
  refine (SU.out _ _ _ q3 q4 hz4).mono ?_
  rintro r w5 ⟨⟨u5, rfl, q5⟩, hb5⟩
  replace q5 := PsR.mono q5 (Nat.zero_le _)
  replace hB := hB.trans (hb5.mono hB.size)
  clear SU q3 q4 hz4 hb5
  by_cases h0 : E = 0
  case neg =>
    have e2 : R = [] := HRZ.out h0
    subst e2
    obtain ⟨a5, c5, rfl, -⟩ := q5
    go_wp2
    go_ret2
    exact ⟨⟨_, rfl, SlR.nil _ _⟩, hB⟩
  have e2 := HE2.out h0
  have IS := hid (inverse_any (ofQ S) _ w5 (PsR.ofQ q5) (by have := (HCV.out h0).most; rw [ofQ_len]; omega))
  rw [← e2] at IS
  subst h0
  clear e2 q5 HE2 HCV HRZ
  go_wp2_with fail
  refine IS.out.mono ?_
  rintro r w6 ⟨⟨u6, rfl, q6⟩, hb6⟩
  have q := SlR.mono q6 hB.size
  replace hB := hB.trans (hb6.mono hB.size)
  clear IS q6 hb6
  go_wp2
  go_ret2
  exact ⟨⟨_, rfl, q⟩, hB⟩

end Go.Proofs.YtfkclcoipadhmaaGreatDoor
