/- Walk of the law CurveIsotone. -/
import Derived.Test.YtfkclcoipadhmaaDoorDw
import Derived.Test.YtfkclcoipadhmaaDoorGn
import Derived.Test.YtfkclcoipadhmaaDoorEe
namespace Go.Proofs.YtfkclcoipadhmaaDoor
open Go.RowKit
attribute [local irreducible] seqS seqST walkV walkJ

set_option maxHeartbeats 4000000 in
set_option maxRecDepth 100000 in
theorem CurveIsotone_any (l : List Int) (v : Value) (w : World) (h : IntsR 0 w v l) (hz : Z0 w) :
    Calls Tryd.prog 11 #[v] w fun r w' => r = .returned (.bool true) ∧ Below w.heap.size w w' := by
  have S1 := hid (Isotone_any l v w h)
  have S2 := hid (fun w h => rIsotone_any l v w h)
  have EQ := hid (fun u v w h1 h2 => eqQ_self (isoL l) u v w h1 h2)
  generalize isoL l = S at S1 S2 EQ
  generalize isoE l = E at S1 S2
  go_enter Tryd.func11, Tryd.ntmps11
  go_wp2_with fail
  refine S1.out.mono ?_
  rintro r w1 ⟨⟨u1, rfl, q1⟩, hb1⟩
  replace q1 := QsR.mono q1 (Nat.zero_le _)
  have h1 := h.below hb1
  have hz1 := hz.below hb1
  clear h hz S1
  go_wp2_with fail
  refine (S2.out _ h1).mono ?_
  rintro r w2 ⟨⟨u2, rfl, q2⟩, hb2⟩
  replace q2 := QsR.mono q2 (Nat.zero_le _)
  replace q1 := q1.below hb2
  have hz2 := hz1.below hb2
  replace hb2 := hb1.trans (hb2.mono hb1.size)
  clear h1 hz1 S2 hb1
  go_wp2_with fail
  refine (EQ.out _ _ _ q1 q2).mono ?_
  rintro r w7 ⟨rfl, hb7⟩
  have hz7 := hz2.below hb7
  replace hb7 := hb2.trans (hb7.mono hb2.size)
  clear q1 q2 hz2 EQ hb2
  go_wp2_with fail
  refine (awake_any _ hz7).mono ?_
  rintro r w9 ⟨rfl, hb9⟩
  replace hb9 := hb7.trans (hb9.mono hb7.size)
  clear hz7 hb7
  go_wp2
  go_ret
  exact ⟨rfl, hb9⟩

end Go.Proofs.YtfkclcoipadhmaaDoor
