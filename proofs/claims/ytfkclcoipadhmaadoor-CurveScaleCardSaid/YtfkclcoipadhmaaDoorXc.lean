/- Walk of the law CurveScale. -/
import Derived.Test.YtfkclcoipadhmaaDoorDw
import Derived.Test.YtfkclcoipadhmaaDoorEh
import Derived.Test.YtfkclcoipadhmaaDoorEe
namespace Go.Proofs.YtfkclcoipadhmaaDoor
open Go.RowKit
attribute [local irreducible] seqS seqST walkV walkJ

set_option maxHeartbeats 4000000 in
set_option maxRecDepth 100000 in
theorem CurveScale_any (c : List P4) (n1 d1 n2 d2 : Int) (v : Value) (w : World) (h : P4R 0 w v c) (hz : Z0 w) :
    Calls Tryd.prog 5 #[v, .agg #[.int .i64 n1, .int .i64 d1], .agg #[.int .i64 n2, .int .i64 d2]] w fun r w' => r = .returned (.bool true) ∧ Below w.heap.size w w' := by
  have S1 := hid (fun w h hz => Scale_any c n1 d1 n2 d2 v w h hz)
  have S2 := hid (fun w h => rScale_any c n1 d1 n2 d2 v w h)
  have EP := hid (fun u v w h1 h2 => eqP_self (scaL c n1 d1 n2 d2) u v w h1 h2)
  generalize scaL c n1 d1 n2 d2 = T at S1 S2 EP
  generalize scaE c n1 d1 n2 d2 = E at S1 S2
  have k0 := (Blk.new w #[.int .i64 n1, .int .i64 d1] 32).alloc (.cells #[.int .i64 n2, .int .i64 d2] 32)
  have k1 := Blk.new (w.alloc (.cells #[.int .i64 n1, .int .i64 d1] 32)) #[.int .i64 n2, .int .i64 d2] 32
  have b0 := ((Below.refl w.heap.size w).alloc (Nat.le_refl _) (.cells #[.int .i64 n1, .int .i64 d1] 32)).alloc (by simp) (.cells #[.int .i64 n2, .int .i64 d2] 32)
  rw [World.size_alloc] at k1
  have x0 := k0.look 0 rfl
  have x1 := k0.look 1 rfl
  have x2 := k1.look 0 rfl
  have x3 := k1.look 1 rfl
  go_enter Tryd.func5, Tryd.ntmps5
  go_wp2_with fail
  obtain ⟨w0, hw0⟩ : ∃ w0, (w.alloc (.cells #[.int .i64 n1, .int .i64 d1] 32)).alloc (.cells #[.int .i64 n2, .int .i64 d2] 32) = w0 := ⟨_, rfl⟩
  rw [hw0] at k0 k1 b0 ⊢
  clear hw0 x0 x1 x2 x3
  have h0 := h.below b0
  have hz0 := hz.below b0
  refine (S1.out _ h0 hz0).mono ?_
  rintro r w1 ⟨⟨u1, rfl, q1⟩, hb1⟩
  replace q1 := PsR.mono q1 (Nat.zero_le _)
  have h1 := h0.below hb1
  have hz1 := hz0.below hb1
  have k01 := k0.below hb1
  have k11 := k1.below hb1
  replace hb1 := b0.trans (hb1.mono b0.size)
  have x0 := k01.look 0 rfl
  have x1 := k01.look 1 rfl
  have x2 := k11.look 0 rfl
  have x3 := k11.look 1 rfl
  clear h hz S1 h0 hz0 b0 k0 k1
  go_wp2_with fail
  refine (S2.out _ h1).mono ?_
  rintro r w2 ⟨⟨u2, rfl, q2⟩, hb2⟩
  replace q2 := PsR.mono q2 (Nat.zero_le _)
  replace q1 := q1.below hb2
  have hz2 := hz1.below hb2
  replace hb2 := hb1.trans (hb2.mono hb1.size)
  clear h1 hz1 S2 hb1 x0 x1 x2 x3 k01 k11
  go_wp2_with fail
  refine (EP.out _ _ _ q1 q2).mono ?_
  rintro r w3 ⟨rfl, hb3⟩
  have hz3 := hz2.below hb3
  replace hb3 := hb2.trans (hb3.mono hb2.size)
  clear q1 q2 hz2 EP hb2
  go_wp2_with fail
  refine (awake_any _ hz3).mono ?_
  rintro r w4 ⟨rfl, hb4⟩
  replace hb4 := hb3.trans (hb4.mono hb3.size)
  clear hz3 hb3
  go_wp2
  go_ret
  exact ⟨rfl, hb4⟩

end Go.Proofs.YtfkclcoipadhmaaDoor
