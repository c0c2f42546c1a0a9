/- Walk of the law CurveHulls. -/
import Derived.Test.YtfkclcoipadhmaaDoorDw
import Derived.Test.YtfkclcoipadhmaaDoorVk
import Derived.Test.YtfkclcoipadhmaaDoorEe
namespace Go.Proofs.YtfkclcoipadhmaaDoor
open Go.RowKit
attribute [local irreducible] seqS seqST walkV walkJ

set_option maxHeartbeats 4000000 in
set_option maxRecDepth 100000 in
theorem CurveHulls_any (c : List P4) (v : Value) (w : World) (h : P4R 0 w v c) (hz : Z0 w) :
    Calls Tryd.prog 10 #[v] w fun r w' => r = .returned (.bool true) ∧ Below w.heap.size w w' := by
  have S1 := hid (Convex_any c v w h hz)
  have S2 := hid (fun w h => rHull_any c false v w h)
  have N1 := hid (fun w h hz => Concave_any c v w h hz)
  have N2 := hid (fun w h => rHull_any c true v w h)
  have EQ := hid (fun u v w h1 h2 => eqP_self (hulR false c) u v w h1 h2)
  have EP := hid (fun u v w h1 h2 => eqP_self (hulR true c) u v w h1 h2)
  have e1 : (if false = true then (1 : Int) else -1) = -1 := rfl
  have e2 : (if true = true then (1 : Int) else -1) = 1 := rfl
  rw [e1] at S2
  rw [e2] at N2
  generalize hulR false c = S at S1 S2 EQ
  generalize hulR true c = T at N1 N2 EP
  generalize hulE c = E at S1 S2 N1 N2
  clear e1 e2
  go_enter Tryd.func10, Tryd.ntmps10
  go_wp2_with fail
  refine S1.out.mono ?_
  rintro r w1 ⟨⟨u1, rfl, q1⟩, hb1⟩
  replace q1 := PsR.mono q1 (Nat.zero_le _)
  have h1 := h.below hb1
  have hz1 := hz.below hb1
  clear h hz S1
  go_wp2_with fail
  refine (S2.out _ h1).mono ?_
  rintro r w2 ⟨⟨u2, rfl, q2⟩, hb2⟩
  replace q2 := PsR.mono q2 (Nat.zero_le _)
  replace q1 := q1.below hb2
  have h2 := h1.below hb2
  have hz2 := hz1.below hb2
  replace hb2 := hb1.trans (hb2.mono hb1.size)
  clear h1 hz1 S2 hb1
  go_wp2_with fail
  refine (N1.out _ h2 hz2).mono ?_
  rintro r w3 ⟨⟨u3, rfl, q3⟩, hb3⟩
  replace q3 := PsR.mono q3 (Nat.zero_le _)
  replace q1 := q1.below hb3
  replace q2 := q2.below hb3
  have h3 := h2.below hb3
  have hz3 := hz2.below hb3
  replace hb3 := hb2.trans (hb3.mono hb2.size)
  clear h2 hz2 N1 hb2
  go_wp2_with fail
  refine (N2.out _ h3).mono ?_
  rintro r w4 ⟨⟨u4, rfl, q4⟩, hb4⟩
  replace q4 := PsR.mono q4 (Nat.zero_le _)
  replace q1 := q1.below hb4
  replace q2 := q2.below hb4
  replace q3 := q3.below hb4
  have hz4 := hz3.below hb4
  replace hb4 := hb3.trans (hb4.mono hb3.size)
  clear h3 hz3 N2 hb3
  go_wp2_with fail
  refine (EQ.out _ _ _ q1 q2).mono ?_
  rintro r w7 ⟨rfl, hb7⟩
  replace q3 := q3.below hb7
  replace q4 := q4.below hb7
  have hz7 := hz4.below hb7
  replace hb7 := hb4.trans (hb7.mono hb4.size)
  clear q1 q2 hz4 EQ hb4
  go_wp2_with fail
  refine (EP.out _ _ _ q3 q4).mono ?_
  rintro r w8 ⟨rfl, hb8⟩
  have hz8 := hz7.below hb8
  replace hb8 := hb7.trans (hb8.mono hb7.size)
  clear q3 q4 hz7 EP hb7
  go_wp2_with fail
  refine (awake_any _ hz8).mono ?_
  rintro r w9 ⟨rfl, hb9⟩
  replace hb9 := hb8.trans (hb9.mono hb8.size)
  clear hz8 hb8
  go_wp2
  go_ret
  exact ⟨rfl, hb9⟩

end Go.Proofs.YtfkclcoipadhmaaDoor
