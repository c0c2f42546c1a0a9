/- Walk of the law CurveCut. -/
import Derived.Test.YtfkclcoipadhmaaGreatDoorDw
import Derived.Test.YtfkclcoipadhmaaGreatDoorFn
import Derived.Test.YtfkclcoipadhmaaGreatDoorEe
namespace Go.Proofs.YtfkclcoipadhmaaGreatDoor
open Go.RowKit
attribute [local irreducible] seqS seqST walkV walkJ

set_option maxHeartbeats 4000000 in
set_option maxRecDepth 100000 in
theorem CurveCut_any (c : List P4) (n d : Int) (v : Value) (w : World) (h : P4R 0 w v c) (hz : Z0 w) :
    Calls Tryz.prog 6 #[v, .agg #[.int .i64 n, .int .i64 d]] w fun r w' => r = .returned (.bool true) ∧ Below w.heap.size w w' := by
  have S1 := hid (fun w h hz => Cut_any c n d v w h hz)
  have S2 := hid (fun w h => rCut_any c n d v w h)
  have EP := hid (fun u v w h1 h2 => eqP_self (cutR c n d) u v w h1 h2)
  generalize cutR c n d = T at S1 S2 EP
  generalize cutE c n d = E at S1 S2
  have k0 := Blk.new w #[.int .i64 n, .int .i64 d] 31
  have b0 := (Below.refl w.heap.size w).alloc (Nat.le_refl _) (.cells #[.int .i64 n, .int .i64 d] 31)
  have x0 := k0.look 0 rfl
  have x1 := k0.look 1 rfl
  go_enter Tryz.func6, Tryz.ntmps6
  go_wp2_with fail
  obtain ⟨w0, hw0⟩ : ∃ w0, w.alloc (.cells #[.int .i64 n, .int .i64 d] 31) = w0 := ⟨_, rfl⟩
  rw [hw0] at k0 b0 ⊢
  clear hw0 x0 x1
  have h0 := h.below b0
  have hz0 := hz.below b0
  refine (S1.out _ h0 hz0).mono ?_
  rintro r w1 ⟨⟨u1, rfl, q1⟩, hb1⟩
  replace q1 := PsR.mono q1 (Nat.zero_le _)
  have h1 := h0.below hb1
  have hz1 := hz0.below hb1
  have k01 := k0.below hb1
  replace hb1 := b0.trans (hb1.mono b0.size)
  have x0 := k01.look 0 rfl
  have x1 := k01.look 1 rfl
  clear h hz S1 h0 hz0 b0 k0
  go_wp2_with fail
  refine (S2.out _ h1).mono ?_
  rintro r w2 ⟨⟨u2, rfl, q2⟩, hb2⟩
  replace q2 := PsR.mono q2 (Nat.zero_le _)
  replace q1 := q1.below hb2
  have hz2 := hz1.below hb2
  replace hb2 := hb1.trans (hb2.mono hb1.size)
  clear h1 hz1 S2 hb1 x0 x1 k01
  go_wp2_with fail
  refine (EP.out _ _ _ q1 q2).mono ?_
  rintro r w3 ⟨rfl, hb3⟩
  have hz3 := hz2.below hb3
  replace hb3 := hb2.trans (hb3.mono hb2.size)
  clear q1 q2 hz2 EP hb2
  go_wp2_with fail
  refine (awake_any _ hz3).mono ?_
  rintro r w4 ⟨rfl, hb4⟩
  replace hb4 := hb3.trans (hb4.mono hb3.size)
  clear hz3 hb3
  go_wp2
  go_ret
  exact ⟨rfl, hb4⟩

end Go.Proofs.YtfkclcoipadhmaaGreatDoor
