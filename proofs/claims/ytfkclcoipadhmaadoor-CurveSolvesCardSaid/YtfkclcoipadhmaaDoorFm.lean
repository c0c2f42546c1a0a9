/- Walks of curve.Solve and trankref02.Solve. -/
import Derived.Test.YtfkclcoipadhmaaDoorFk
import Derived.Test.YtfkclcoipadhmaaDoorEo
namespace Go.Proofs.YtfkclcoipadhmaaDoor
open Go.RowKit
attribute [local irreducible] seqS seqST walkV walkJ

theorem at_bad {c : List P4} (h : ¬ RV c) (n d : Int) : atV c n d = none ∧ atE c n d = 2 :=
  ⟨if_neg (fun hh => h hh.1), if_neg (fun hh => h hh.1)⟩
theorem inv_bad {c : List P4} (h : ¬ RV c) : ¬ RV (c.map invP) := fun hh => h (by have := rv_inv hh; rwa [inv_inv] at this)

set_option maxHeartbeats 4000000 in
set_option maxRecDepth 100000 in
theorem Solve_any (c : List P4) (n d : Int) (v : Value) (w : World) (h : P4R 0 w v c) (hz : Z0 w) (hb : c.length ≤ 8796093022208) :
    Calls Tryd.prog 51 #[v, .agg #[.int .i64 n, .int .i64 d]] w fun r w' => r = .returned (.tuple #[.agg #[.int .i64 (oN (atV (c.map invP) n d)), .int .i64 (oD (atV (c.map invP) n d))], .int .i64 (atE (c.map invP) n d)]) ∧ Below w.heap.size w w' := by
  have IV := hid (fun w h => inverse_any c v w h hb)
  have AT := hid (fun v w h hz => At_any (c.map invP) n d v w h hz)
  obtain ⟨E, hE⟩ : ∃ E, atE (c.map invP) n d = E := ⟨_, rfl⟩
  obtain ⟨N0, hN⟩ : ∃ N, oN (atV (c.map invP) n d) = N := ⟨_, rfl⟩
  obtain ⟨D0, hD⟩ : ∃ D, oD (atV (c.map invP) n d) = D := ⟨_, rfl⟩
  rw [hE, hN, hD] at AT ⊢
  obtain ⟨ao, cap, rfl, -⟩ := id h
  have k0 := (Blk.new w #[.int .i64 n, .int .i64 d] 32).alloc (.cells #[.int .i64 0, .int .i64 0] 32)
  have k1 := Blk.new (w.alloc (.cells #[.int .i64 n, .int .i64 d] 32)) #[.int .i64 0, .int .i64 0] 32
  have b0 := ((Below.refl w.heap.size w).alloc (Nat.le_refl _) (.cells #[.int .i64 n, .int .i64 d] 32)).alloc (by simp) (.cells #[.int .i64 0, .int .i64 0] 32)
  rw [World.size_alloc] at k1
  clear hE hN hD hb
  go_enter Tryd.func51, Tryd.ntmps51
  go_wp2_with fail
  obtain ⟨w0, hw0⟩ : ∃ w0, (w.alloc (.cells #[.int .i64 n, .int .i64 d] 32)).alloc (.cells #[.int .i64 0, .int .i64 0] 32) = w0 := ⟨_, rfl⟩
  rw [hw0] at k0 k1 b0 ⊢
  clear hw0
  have h0 := h.below b0
  have hz0 := hz.below b0
  have hd0 := (Below.refl w0.heap.size w0).drew
  have z0 := fun x : SubT (Below w0.heap.size) w0.drew => (k0.below (hd0.trans x.b)).look 0 rfl
  have z1 := fun x : SubT (Below w0.heap.size) w0.drew => (k0.below (hd0.trans x.b)).look 1 rfl
  clear h hz
  refine wp_walkJ (T := Below (w0.heap.size)) (belowV_pre _) (.rd 0 (.rd 2 (.mv 1 (.bt 3 (.rd 4 (.rd 5 (.bt 6 (.rd 7 (.inv []))))))))) (by kernel_rfl) rfl (by kernel_rfl) (by kernel_rfl) ?_
  iterate 2 (refine walkJ_rd rfl (fun K hK => ?_); go_simp; refine hK _ ?_; clear hK K)
  clear z0 z1
  (refine walkJ_mv rfl (fun K hK => ?_); go_simp; refine (IV.out _ (h0.below hd0)).mono ?_; rintro r w1 ⟨⟨v1, rfl, hq⟩, hb1⟩; refine ⟨_, rfl, hK _ _ (hb1.mono hd0.size) ?_⟩; clear hK K)
  have hd1 : Below w0.heap.size w0 w1 := hd0.trans (hb1.mono hd0.size)
  have hq1 : P4R 0 w1 v1 (c.map invP) := SlR.mono hq (Nat.zero_le _)
  have hz1 := hz0.below hd1
  clear hq hb1 hd0 IV h0 hz0
  (refine walkJ_bt rfl (fun K hK => ?_); go_simp; refine (AT.out _ _ hq1 hz1).mono ?_; rintro r w3 ⟨rfl, hb3⟩; refine ⟨_, rfl, hK _ _ ?_⟩; clear hK K)
  have hd3 : Below w0.heap.size w0 w3 := hd1.trans (hb3.mono hd1.size)
  clear hb3 hd1 hq1 hz1 AT
  iterate 2 (refine walkJ_rd rfl (fun K hK => ?_); go_simp; refine hK _ ?_; clear hK K)
  have hBz := b0.trans (hd3.mono b0.size)
  have kR := k1.below hd3
  have f2 := kR.frozen
  have q0 := kR.look 0 rfl
  have q1 := kR.look 1 rfl
  have ks := (kR.set 0 (.int .i64 N0)).set 1 (.int .i64 D0)
  have r0 : _ = some (Value.int .i64 N0) := ks.look 0 rfl
  have r1 : _ = some (Value.int .i64 D0) := ks.look 1 rfl
  have R0 := hid r0
  have R1 := hid r1
  have HBF := hid ((hBz.setCell (p := ⟨w.heap.size + 1, 0, none⟩) (by show w.heap.size ≤ w.heap.size + 1; omega) (.int .i64 N0)).setCell (p := ⟨w.heap.size + 1, 1, none⟩) (by show w.heap.size ≤ w.heap.size + 1; omega) (.int .i64 D0))
  clear kR ks r0 r1 hBz hd3 b0 k1 k0
  (refine walkJ_bt rfl (fun K hK => ?_); go_simp; refine hK _ _ ?_; clear hK K)
  (refine walkJ_rd rfl (fun K hK => ?_); go_simp; refine hK _ ?_; clear hK K)
  refine walkJ_nil ?_
  go_wp2
  refine bodyPost_ret (v := .tuple #[.agg #[.int .i64 N0, .int .i64 D0], .int .i64 E]) ?_ rfl ⟨rfl, HBF.out⟩
  have r0 := R0.out
  have r1 := R1.out
  simp [results, Tryd.results51, go_sem, r0, r1]

end Go.Proofs.YtfkclcoipadhmaaDoor
