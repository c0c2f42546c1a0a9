/- Walk of the law CurveAt. -/
import Derived.Test.YtfkclcoipadhmaaGreatDoorDw
import Derived.Test.YtfkclcoipadhmaaGreatDoorFl
import Derived.Test.YtfkclcoipadhmaaGreatDoorFm
namespace Go.Proofs.YtfkclcoipadhmaaGreatDoor
open Go.RowKit
attribute [local irreducible] seqS seqST walkV walkJ

set_option maxHeartbeats 4000000 in
set_option maxRecDepth 100000 in
theorem CurveAt_any (c : List P4) (n d : Int) (v : Value) (w : World) (h : P4R 0 w v c) (hb : c.length ≤ 8796093022208) (hz : Z0 w) :
    Calls Tryz.prog 7 #[v, .agg #[.int .i64 n, .int .i64 d]] w fun r w' => r = .returned (.bool true) ∧ Below w.heap.size w w' := by
  have S1 := hid (fun w h hz => At_any c n d v w h hz)
  have S2 := hid (fun w h => rAt_any c n d v w h)
  have T1 := hid (fun w h hz => Solve_any c n d v w h hz hb)
  have T2 := hid (fun w h => rSolve_any c n d v w h (fun c v w h => rAt_any c n d v w h))
  generalize atE c n d = E at S1 S2
  generalize oN (atV c n d) = N at S1 S2
  generalize oD (atV c n d) = D at S1 S2
  generalize atE (c.map invP) n d = F at T1 T2
  generalize oN (atV (c.map invP) n d) = M at T1 T2
  generalize oD (atV (c.map invP) n d) = G at T1 T2
  obtain ⟨ao, cap, rfl, -⟩ := id h
  have k0 := Blk.new w #[.int .i64 n, .int .i64 d] 31
  have hB := (Below.refl w.heap.size w).alloc (Nat.le_refl _) (.cells #[.int .i64 n, .int .i64 d] 31)
  have x0 := k0.look 0 rfl
  have x1 := k0.look 1 rfl
  clear hb
  go_enter Tryz.func7, Tryz.ntmps7
  go_wp2_with fail
  obtain ⟨w0, hw0⟩ : ∃ w0, w.alloc (.cells #[.int .i64 n, .int .i64 d] 31) = w0 := ⟨_, rfl⟩
  rw [hw0] at k0 hB ⊢
  clear hw0 x0 x1
  have h0 := h.below hB
  have hz0 := hz.below hB
  clear h hz
  refine (S1.out _ h0 hz0).mono ?_
  rintro r w1 ⟨rfl, hb1⟩
  have kA := Blk.new w1 #[.int .i64 N, .int .i64 D] 31
  have ba := alloc_below w1 (.cells #[.int .i64 N, .int .i64 D] 31)
  replace hb1 := hb1.trans (ba.mono hb1.size)
  replace k0 := k0.below hb1
  have h1 := h0.below hb1
  have hz1 := hz0.below hb1
  replace hB := hB.trans (hb1.mono hB.size)
  have x0 := k0.look 0 rfl
  have x1 := k0.look 1 rfl
  clear h0 hz0 S1 hb1 ba
  go_wp2_with fail
  obtain ⟨g1, hg1⟩ : ∃ g, w1.heap.size = g := ⟨_, rfl⟩
  obtain ⟨w1a, hw1⟩ : ∃ W, w1.alloc (.cells #[.int .i64 N, .int .i64 D] 31) = W := ⟨_, rfl⟩
  rw [hw1] at kA k0 h1 hz1 hB ⊢
  rw [hg1] at kA ⊢
  clear hw1 hg1 x0 x1 w1
  refine (S2.out _ h1).mono ?_
  rintro r w1 ⟨rfl, hb1⟩
  have kC := Blk.new w1 #[.int .i64 N, .int .i64 D] 31
  have ba := alloc_below w1 (.cells #[.int .i64 N, .int .i64 D] 31)
  replace hb1 := hb1.trans (ba.mono hb1.size)
  replace k0 := k0.below hb1
  replace kA := kA.below hb1
  have h0 := h1.below hb1
  have hz0 := hz1.below hb1
  replace hB := hB.trans (hb1.mono hB.size)
  have x0 := k0.look 0 rfl
  have x1 := k0.look 1 rfl
  clear h1 hz1 S2 hb1 ba
  go_wp2_with fail
  obtain ⟨g2, hg1⟩ : ∃ g, w1.heap.size = g := ⟨_, rfl⟩
  obtain ⟨w1a, hw1⟩ : ∃ W, w1.alloc (.cells #[.int .i64 N, .int .i64 D] 31) = W := ⟨_, rfl⟩
  rw [hw1] at kA kC k0 h0 hz0 hB ⊢
  rw [hg1] at kC ⊢
  clear hw1 hg1 x0 x1 w1
  refine (T1.out _ h0 hz0).mono ?_
  rintro r w1 ⟨rfl, hb1⟩
  have kE := Blk.new w1 #[.int .i64 M, .int .i64 G] 31
  have ba := alloc_below w1 (.cells #[.int .i64 M, .int .i64 G] 31)
  replace hb1 := hb1.trans (ba.mono hb1.size)
  replace k0 := k0.below hb1
  replace kA := kA.below hb1
  replace kC := kC.below hb1
  have h1 := h0.below hb1
  have hz1 := hz0.below hb1
  replace hB := hB.trans (hb1.mono hB.size)
  have x0 := k0.look 0 rfl
  have x1 := k0.look 1 rfl
  clear h0 hz0 T1 hb1 ba
  go_wp2_with fail
  obtain ⟨g3, hg1⟩ : ∃ g, w1.heap.size = g := ⟨_, rfl⟩
  obtain ⟨w1a, hw1⟩ : ∃ W, w1.alloc (.cells #[.int .i64 M, .int .i64 G] 31) = W := ⟨_, rfl⟩
  rw [hw1] at kA kC kE k0 h1 hz1 hB ⊢
  rw [hg1] at kE ⊢
  clear hw1 hg1 x0 x1 w1
  refine (T2.out _ h1).mono ?_
  rintro r w1 ⟨rfl, hb1⟩
  have kF := Blk.new w1 #[.int .i64 M, .int .i64 G] 31
  have ba := alloc_below w1 (.cells #[.int .i64 M, .int .i64 G] 31)
  replace hb1 := hb1.trans (ba.mono hb1.size)
  replace kA := kA.below hb1
  replace kC := kC.below hb1
  replace kE := kE.below hb1
  have hz0 := hz1.below hb1
  replace hB := hB.trans (hb1.mono hB.size)
  have x0 := kA.look 0 rfl
  have x1 := kA.look 1 rfl
  have x2 := kC.look 0 rfl
  have x3 := kC.look 1 rfl
  have x4 := kE.look 0 rfl
  have x5 := kE.look 1 rfl
  have x6 := kF.look 0 rfl
  have x7 := kF.look 1 rfl
  clear h1 hz1 T2 hb1 ba k0
  go_wp2_with fail
  refine (awake_any _ hz0).mono ?_
  rintro r w5 ⟨rfl, hb5⟩
  replace hB := hB.trans (hb5.mono hB.size)
  clear hz0 hb5 x0 x1 x2 x3 x4 x5 x6 x7
  go_wp2
  go_ret
  exact ⟨rfl, hB⟩

end Go.Proofs.YtfkclcoipadhmaaGreatDoor
