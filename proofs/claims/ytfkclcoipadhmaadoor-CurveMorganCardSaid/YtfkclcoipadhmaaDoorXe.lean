/- Walk of the law CurveMorgan. -/
import Derived.Test.YtfkclcoipadhmaaDoorEl
import Derived.Test.YtfkclcoipadhmaaDoorXb
import Derived.Test.YtfkclcoipadhmaaDoorEe
namespace Go.Proofs.YtfkclcoipadhmaaDoor
open Go.RowKit
attribute [local irreducible] seqS seqST walkV walkJ

/-- What the law compares. -/
theorem morgan {c d : List P4} (hc : RV c) (hd : RV d) : serE c d = sumE (invL c) (invL d) ∧ invE c = 0 ∧ invE d = 0 ∧ (serE c d = 0 → serL c d = (ofQ (sumL (invL c) (invL d))).map invP ∧ RV (ofQ (sumL (invL c) (invL d)))) := by
  have e1 : invL c = c.map invP := if_pos hc
  have e2 : invL d = d.map invP := if_pos hd
  rw [e1, e2]
  have e3 : serE c d = sumE (c.map invP) (d.map invP) := if_pos ⟨hc, hd⟩
  refine ⟨e3, if_pos hc, if_pos hd, fun h => ⟨if_pos h, rv_ofQ.2 (sum_cv (e3.symm.trans h))⟩⟩

set_option maxHeartbeats 8000000 in
set_option maxRecDepth 100000 in
theorem CurveMorgan_any (c d : List P4) (u v : Value) (w : World) (h : P4R 0 w u c) (k : P4R 0 w v d) (hz : Z0 w) :
    Calls Tryd.prog 6 #[u, v] w fun r w' => r = .returned (.bool true) ∧ Below w.heap.size w w' := by
  have S1 := hid (Series_any c d u v w h k hz)
  have I1 := hid (fun w h hz => Inverse_any c u w h hz)
  have I2 := hid (fun w h hz => Inverse_any d v w h hz)
  have hcase : (serE c d = 2 ∧ (invE c ≠ 0 ∨ invE d ≠ 0)) ∨ (RV c ∧ RV d) := by
    by_cases hc : RV c
    · by_cases hd : RV d
      · exact .inr ⟨hc, hd⟩
      · have e : invE d = 2 := if_neg hd
        exact .inl ⟨if_neg (fun hh => hd hh.2), .inr (by omega)⟩
    · have e : invE c = 2 := if_neg hc
      exact .inl ⟨if_neg (fun hh => hc hh.1), .inl (by omega)⟩
  have hM := fun (hh : RV c ∧ RV d) => morgan hh.1 hh.2
  have SU1 := hid (fun a b w h k hz => Sum_any (invL c) (invL d) a b w h k hz)
  have SU2 := hid (fun a b w h k hz => Sum_any (invL d) (invL c) a b w h k hz)
  rw [(sum_comm (invL d) (invL c)).1, (sum_comm (invL d) (invL c)).2] at SU2
  have EP := hid (fun u v w h1 h2 => eqP_self (sumL (invL c) (invL d)) u v w h1 h2)
  have IT := hid (fun v w h hz => Inverse_any (ofQ (sumL (invL c) (invL d))) v w h hz)
  have IS := hid (fun v w h hz => Inverse_any (serL c d) v w h hz)
  have EQ1 := hid (fun u v w h1 h2 => Equal_any (invL (ofQ (sumL (invL c) (invL d)))) (serL c d) u v w h1 h2)
  have EQ2 := hid (fun u v w h1 h2 => Equal_any (invL (serL c d)) (ofQ (sumL (invL c) (invL d))) u v w h1 h2)
  generalize sumL (invL c) (invL d) = S at SU1 SU2 EP IT EQ1 EQ2 hM
  generalize sumE (invL c) (invL d) = SE at SU1 SU2 hM
  generalize serL c d = T at S1 IS EQ1 EQ2 hM
  generalize serE c d = TE at S1 hM hcase
  generalize invE c = E1 at I1 hM hcase
  generalize invE d = E2 at I2 hM hcase
  generalize invL c = L1 at I1 SU1 SU2
  generalize invL d = L2 at I2 SU1 SU2
  have HM := hid hM
  have HCA := hid hcase
  clear hM hcase
  go_enter Tryd.func6, Tryd.ntmps6
  go_wp2_with fail
  refine S1.out.mono ?_
  rintro r w1 ⟨⟨u1, rfl, q1⟩, hB⟩
  replace q1 := SlR.mono q1 (Nat.zero_le _)
  have h1 := h.below hB
  have k1 := k.below hB
  have hz1 := hz.below hB
  clear h k hz S1
  go_wp2_with fail
  refine (I1.out _ h1 hz1).mono ?_
  rintro r w2 ⟨⟨u2, rfl, q2⟩, hb2⟩
  replace q2 := SlR.mono q2 (Nat.zero_le _)
  replace q1 := SlR.below q1 hb2
  have k2 := k1.below hb2
  have hz2 := hz1.below hb2
  replace hB := hB.trans (hb2.mono hB.size)
  clear h1 k1 hz1 I1 hb2
  go_wp2_with fail
  refine (I2.out _ k2 hz2).mono ?_
  rintro r w3 ⟨⟨u3, rfl, q3⟩, hb3⟩
  replace q3 := SlR.mono q3 (Nat.zero_le _)
  replace q1 := SlR.below q1 hb3
  replace q2 := SlR.below q2 hb3
  have hz3 := hz2.below hb3
  replace hB := hB.trans (hb3.mono hB.size)
  clear k2 hz2 I2 hb3
  rcases HCA.out with ⟨rfl, hne⟩ | hrv
  · by_cases hE1 : E1 = 0
    · have hE2 : E2 ≠ 0 := by
        rcases hne with h | h
        · exact absurd hE1 h
        · exact h
      subst hE1
      clear hne
      go_wp2_with fail
      refine (awake_any _ hz3).mono ?_
      rintro r w4 ⟨rfl, hb4⟩
      replace hB := hB.trans (hb4.mono hB.size)
      clear hz3 hb4 q1 q2 q3
      go_wp2
      go_ret
      exact ⟨rfl, hB⟩
    · clear hne
      go_wp2_with fail
      refine (awake_any _ hz3).mono ?_
      rintro r w4 ⟨rfl, hb4⟩
      replace hB := hB.trans (hb4.mono hB.size)
      clear hz3 hb4 q1 q2 q3
      go_wp2
      go_ret
      exact ⟨rfl, hB⟩
  obtain ⟨rfl, rfl, rfl, hT⟩ := HM.out hrv
  have HT := hid hT
  clear hT hrv HM HCA
  go_wp2_with fail
  refine (SU1.out _ _ _ q2 q3 hz3).mono ?_
  rintro r w4 ⟨⟨u4, rfl, q4⟩, hb4⟩
  replace q4 := PsR.mono q4 (Nat.zero_le _)
  replace q1 := SlR.below q1 hb4
  replace q2 := SlR.below q2 hb4
  replace q3 := SlR.below q3 hb4
  have hz4 := hz3.below hb4
  replace hB := hB.trans (hb4.mono hB.size)
  clear hz3 SU1 hb4
  go_wp2_with fail
  refine (SU2.out _ _ _ q3 q2 hz4).mono ?_
  rintro r w5 ⟨⟨u5, rfl, q5⟩, hb5⟩
  replace q5 := PsR.mono q5 (Nat.zero_le _)
  replace q1 := SlR.below q1 hb5
  replace q4 := PsR.below q4 hb5
  have hz5 := hz4.below hb5
  replace hB := hB.trans (hb5.mono hB.size)
  clear hz4 SU2 hb5 q2 q3
  go_wp2_with fail
  refine (EP.out _ _ _ q4 q5).mono ?_
  rintro r w6 ⟨rfl, hb6⟩
  replace q1 := SlR.below q1 hb6
  replace q4 := PsR.below q4 hb6
  have hz6 := hz5.below hb6
  replace hB := hB.trans (hb6.mono hB.size)
  clear hz5 EP hb6 q5
  by_cases h0 : TE = 0
  case neg =>
    go_wp2_with fail
    refine (awake_any _ hz6).mono ?_
    rintro r w7 ⟨rfl, hb7⟩
    replace hB := hB.trans (hb7.mono hB.size)
    clear hz6 hb7 q1 q4
    go_wp2
    go_ret
    exact ⟨rfl, hB⟩
  obtain ⟨hTS, hrS⟩ := HT.out h0
  have e1 : invE (ofQ S) = 0 := if_pos hrS
  have e2 : invL (ofQ S) = T := by rw [hTS]; exact if_pos hrS
  have hrT : RV T := by rw [hTS]; exact rv_inv hrS
  have e3 : invE T = 0 := if_pos hrT
  have e4 : invL T = ofQ S := (show invL T = T.map invP from if_pos hrT).trans (by rw [hTS, inv_inv])
  rw [e1, e2] at IT
  rw [e3, e4] at IS
  rw [e2, decide_eq_true rfl] at EQ1
  rw [e4, decide_eq_true rfl] at EQ2
  subst h0
  clear HT e1 e2 e3 e4 hrT hrS hTS
  go_wp2_with fail
  refine (IT.out _ _ (PsR.ofQ q4) hz6).mono ?_
  rintro r w7 ⟨⟨u7, rfl, q7⟩, hb7⟩
  replace q7 := SlR.mono q7 (Nat.zero_le _)
  replace q1 := SlR.below q1 hb7
  replace q4 := PsR.below q4 hb7
  have hz7 := hz6.below hb7
  replace hB := hB.trans (hb7.mono hB.size)
  clear hz6 IT hb7
  go_wp2_with fail
  refine (IS.out _ _ q1 hz7).mono ?_
  rintro r w8 ⟨⟨u8, rfl, q8⟩, hb8⟩
  replace q8 := SlR.mono q8 (Nat.zero_le _)
  replace q1 := SlR.below q1 hb8
  replace q4 := PsR.below q4 hb8
  replace q7 := SlR.below q7 hb8
  have hz8 := hz7.below hb8
  replace hB := hB.trans (hb8.mono hB.size)
  clear hz7 IS hb8
  go_wp2_with fail
  refine (EQ1.out _ _ _ q7 q1).mono ?_
  rintro r w9 ⟨rfl, hb9⟩
  replace q8 := SlR.below q8 hb9
  replace q4 := PsR.below q4 hb9
  have hz9 := hz8.below hb9
  replace hB := hB.trans (hb9.mono hB.size)
  clear hz8 EQ1 hb9 q7 q1
  go_wp2_with fail
  refine (EQ2.out _ _ _ q8 (PsR.ofQ q4)).mono ?_
  rintro r w10 ⟨rfl, hb10⟩
  have hz10 := hz9.below hb10
  replace hB := hB.trans (hb10.mono hB.size)
  clear hz9 EQ2 hb10 q8 q4
  go_wp2_with fail
  refine (awake_any _ hz10).mono ?_
  rintro r w11 ⟨rfl, hb11⟩
  replace hB := hB.trans (hb11.mono hB.size)
  clear hz10 hb11
  go_wp2
  go_ret
  exact ⟨rfl, hB⟩

end Go.Proofs.YtfkclcoipadhmaaDoor
