/- Walk of the law CurveEnvelopes. -/
import Derived.Test.YtfkclcoipadhmaaGreatDoorHy
import Derived.Test.YtfkclcoipadhmaaGreatDoorHz
import Derived.Test.YtfkclcoipadhmaaGreatDoorEe
import Derived.Test.YtfkclcoipadhmaaGreatDoorCw
namespace Go.Proofs.YtfkclcoipadhmaaGreatDoor
open Go.RowKit
attribute [local irreducible] seqS seqST walkV walkJ

set_option maxHeartbeats 8000000 in
set_option maxRecDepth 100000 in
theorem CurveEnvelopes_any (c d : List P4) (u v : Value) (w : World) (h : P4R 0 w u c) (k : P4R 0 w v d) (hz : Z0 w) :
    Calls Tryz.prog 9 #[u, v] w fun r w' => r = .returned (.bool true) ∧ Below w.heap.size w w' := by
  obtain ⟨au, cu, rfl, -⟩ := id h
  obtain ⟨av, cv, rfl, -⟩ := id k
  have U1 := hid (Upper_any c d _ _ w h k hz)
  have U2 := hid (fun w h k => rEnvelope_any true c d (.slice au c.length cu) (.slice av d.length cv) w h k)
  have L1 := hid (fun w h k hz => Lower_any c d (.slice au c.length cu) (.slice av d.length cv) w h k hz)
  have L2 := hid (fun w h k => rEnvelope_any false c d (.slice au c.length cu) (.slice av d.length cv) w h k)
  have C1 := hid (fun w h k hz => Crossings_any c d (.slice au c.length cu) (.slice av d.length cv) w h k hz)
  have C2 := hid (fun w h k => rCrossings_any c d (.slice au c.length cu) (.slice av d.length cv) w h k)
  generalize envE true c d = E1 at U1 U2
  generalize envL true c d = R1 at U1 U2
  generalize envE false c d = E2 at L1 L2
  generalize envL false c d = R2 at L1 L2
  generalize cmpE c d = E3 at C1 C2
  generalize croL c d = R3 at C1 C2
  go_enter Tryz.func9, Tryz.ntmps9
  go_wp2_with fail
  refine U1.out.mono ?_
  rintro r w1 ⟨⟨v1, rfl, p1⟩, hB⟩
  replace p1 := PsR.mono p1 (Nat.zero_le _)
  have h1 := h.below hB
  have k1 := k.below hB
  have hz1 := hz.below hB
  obtain ⟨a1, c1, rfl, -⟩ := id p1
  clear h k hz U1
  go_wp2_with fail
  refine (U2.out _ h1 k1).mono ?_
  rintro r w2 ⟨⟨v2, rfl, p2⟩, hb2⟩
  replace p2 := PsR.mono p2 (Nat.zero_le _)
  replace p1 := PsR.below p1 hb2
  have h2 := h1.below hb2
  have k2 := k1.below hb2
  have hz2 := hz1.below hb2
  replace hB := hB.trans (hb2.mono hB.size)
  obtain ⟨a2, c2, rfl, -⟩ := id p2
  have EQ := hid (eqP_self R1 _ _ w2 p1 p2)
  clear h1 k1 hz1 U2 hb2 p2 p1
  go_wp2_with fail
  refine EQ.out.mono ?_
  rintro r w3 ⟨rfl, hb3⟩
  have h3 := h2.below hb3
  have k3 := k2.below hb3
  have hz3 := hz2.below hb3
  replace hB := hB.trans (hb3.mono hB.size)
  clear h2 k2 hz2 EQ hb3
  go_wp2_with fail
  refine (awake_any _ hz3).mono ?_
  rintro r w4 ⟨rfl, hb4⟩
  have h4 := h3.below hb4
  have k4 := k3.below hb4
  have hz4 := hz3.below hb4
  replace hB := hB.trans (hb4.mono hB.size)
  clear h3 k3 hz3 hb4
  go_wp2_with fail
  refine (L1.out _ h4 k4 hz4).mono ?_
  rintro r w5 ⟨⟨v5, rfl, p5⟩, hb5⟩
  replace p5 := PsR.mono p5 (Nat.zero_le _)
  have h5 := h4.below hb5
  have k5 := k4.below hb5
  have hz5 := hz4.below hb5
  replace hB := hB.trans (hb5.mono hB.size)
  obtain ⟨a5, c5, rfl, -⟩ := id p5
  clear h4 k4 hz4 L1 hb5
  go_wp2_with fail
  refine (L2.out _ h5 k5).mono ?_
  rintro r w6 ⟨⟨v6, rfl, p6⟩, hb6⟩
  replace p6 := PsR.mono p6 (Nat.zero_le _)
  replace p5 := PsR.below p5 hb6
  have h6 := h5.below hb6
  have k6 := k5.below hb6
  have hz6 := hz5.below hb6
  replace hB := hB.trans (hb6.mono hB.size)
  obtain ⟨a6, c6, rfl, -⟩ := id p6
  have EQ := hid (eqP_self R2 _ _ w6 p5 p6)
  clear h5 k5 hz5 L2 hb6 p6 p5
  go_wp2_with fail
  refine EQ.out.mono ?_
  rintro r w7 ⟨rfl, hb7⟩
  have h7 := h6.below hb7
  have k7 := k6.below hb7
  have hz7 := hz6.below hb7
  replace hB := hB.trans (hb7.mono hB.size)
  clear h6 k6 hz6 EQ hb7
  go_wp2_with fail
  refine (C1.out _ h7 k7 hz7).mono ?_
  rintro r w9 ⟨⟨v9, rfl, p9⟩, hb9⟩
  replace p9 := QsR.mono p9 (Nat.zero_le _)
  have h9 := h7.below hb9
  have k9 := k7.below hb9
  replace hB := hB.trans (hb9.mono hB.size)
  obtain ⟨a9, c9, rfl, -⟩ := id p9
  clear h7 k7 hz7 hb9 C1
  go_wp2_with fail
  refine (C2.out _ h9 k9).mono ?_
  rintro r w10 ⟨⟨v10, rfl, p10⟩, hb10⟩
  replace p10 := QsR.mono p10 (Nat.zero_le _)
  replace p9 := QsR.below p9 hb10
  replace hB := hB.trans (hb10.mono hB.size)
  obtain ⟨a10, c10, rfl, -⟩ := id p10
  have EQ := hid (eqQ_self R3 _ _ w10 p9 p10)
  clear h9 k9 C2 hb10 p9 p10
  go_wp2_with fail
  refine EQ.out.mono ?_
  rintro r w11 ⟨rfl, hb11⟩
  replace hB := hB.trans (hb11.mono hB.size)
  clear hb11 EQ
  go_wp2
  go_ret
  exact ⟨rfl, hB⟩

end Go.Proofs.YtfkclcoipadhmaaGreatDoor
