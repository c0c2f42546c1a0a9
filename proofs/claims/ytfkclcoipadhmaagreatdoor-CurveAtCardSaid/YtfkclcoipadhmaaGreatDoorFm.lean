/- Walks of curve.Solve and trankref02.Solve. -/
import Derived.Test.YtfkclcoipadhmaaGreatDoorFk
import Derived.Test.YtfkclcoipadhmaaGreatDoorEo
namespace Go.Proofs.YtfkclcoipadhmaaGreatDoor
open Go.RowKit
attribute [local irreducible] seqS seqST walkV walkJ

theorem at_bad {c : List P4} (h : ¬ RV c) (n d : Int) : atV c n d = none ∧ atE c n d = 2 :=
  ⟨if_neg (fun hh => h hh.1), if_neg (fun hh => h hh.1)⟩
theorem inv_bad {c : List P4} (h : ¬ RV c) : ¬ RV (c.map invP) := fun hh => h (by have := rv_inv hh; rwa [inv_inv] at this)

set_option maxHeartbeats 4000000 in
set_option maxRecDepth 100000 in
theorem Solve_any (c : List P4) (n d : Int) (v : Value) (w : World) (h : P4R 0 w v c) (hz : Z0 w) (hb : c.length ≤ 8796093022208) :
    Calls Tryz.prog 26 #[v, .agg #[.int .i64 n, .int .i64 d]] w fun r w' => r = .returned (.tuple #[.agg #[.int .i64 (oN (atV (c.map invP) n d)), .int .i64 (oD (atV (c.map invP) n d))], .int .i64 (atE (c.map invP) n d)]) ∧ Below w.heap.size w w' := by
  have IV := hid (fun w h => inverse_any c v w h hb)
  have AT := hid (fun v w h hz => At_any (c.map invP) n d v w h hz)
  obtain ⟨E, hE⟩ : ∃ E, atE (c.map invP) n d = E := ⟨_, rfl⟩
  obtain ⟨N0, hN⟩ : ∃ N, oN (atV (c.map invP) n d) = N := ⟨_, rfl⟩
  obtain ⟨D0, hD⟩ : ∃ D, oD (atV (c.map invP) n d) = D := ⟨_, rfl⟩
  rw [hE, hN, hD] at AT ⊢
  obtain ⟨ao, cap, rfl, -⟩ := id h
  have k0 := (Blk.new w #[.int .i64 n, .int .i64 d] 31).alloc (.cells #[.int .i64 0, .int .i64 0] 31)
  have k1 := Blk.new (w.alloc (.cells #[.int .i64 n, .int .i64 d] 31)) #[.int .i64 0, .int .i64 0] 31
  have b0 := ((Below.refl w.heap.size w).alloc (Nat.le_refl _) (.cells #[.int .i64 n, .int .i64 d] 31)).alloc (by simp) (.cells #[.int .i64 0, .int .i64 0] 31)
  rw [World.size_alloc] at k1
  clear hE hN hD hb
  go_enter Tryz.func26, Tryz.ntmps26
  go_wp2_with fail
  obtain ⟨w0, hw0⟩ : ∃ w0, (w.alloc (.cells #[.int .i64 n, .int .i64 d] 31)).alloc (.cells #[.int .i64 0, .int .i64 0] 31) = w0 := ⟨_, rfl⟩
  rw [hw0] at k0 k1 b0 ⊢
  clear hw0
  have h0 := h.below b0
  have hz0 := hz.below b0
  have hd0 := (Below.refl w0.heap.size w0).drew
  have z0 := fun x : SubT (Below w0.heap.size) w0.drew => (k0.below (hd0.trans x.b)).look 0 rfl
  have z1 := fun x : SubT (Below w0.heap.size) w0.drew => (k0.below (hd0.trans x.b)).look 1 rfl
  clear h hz
  refine wp_walkJ (T := Below (w0.heap.size)) (belowV_pre _) (.rd 0 (.rd 2 (.mv 1 (.bt 3 (.rd 4 (.rd 5 (.bt 6 (.rd 7 (.inv []))))))))) (by kernel_rfl) rfl (by kernel_rfl) (by kernel_rfl) ?_
  iterate 2 (refine walkJ_rd rfl (fun K hK => ?_); go_simp; refine hK _ ?_; clear hK K)
  clear z0 z1
  (refine walkJ_mv rfl (fun K hK => ?_); go_simp; refine (IV.out _ (h0.below hd0)).mono ?_; rintro r w1 ⟨⟨v1, rfl, hq⟩, hb1⟩; refine ⟨_, rfl, hK _ _ (hb1.mono hd0.size) ?_⟩; clear hK K)
  have hd1 : Below w0.heap.size w0 w1 := hd0.trans (hb1.mono hd0.size)
  have hq1 : P4R 0 w1 v1 (c.map invP) := SlR.mono hq (Nat.zero_le _)
  have hz1 := hz0.below hd1
  clear hq hb1 hd0 IV h0 hz0
  (refine walkJ_bt rfl (fun K hK => ?_); go_simp; refine (AT.out _ _ hq1 hz1).mono ?_; rintro r w3 ⟨rfl, hb3⟩; refine ⟨_, rfl, hK _ _ ?_⟩; clear hK K)
  have hd3 : Below w0.heap.size w0 w3 := hd1.trans (hb3.mono hd1.size)
  clear hb3 hd1 hq1 hz1 AT
  iterate 2 (refine walkJ_rd rfl (fun K hK => ?_); go_simp; refine hK _ ?_; clear hK K)
  have hBz := b0.trans (hd3.mono b0.size)
  have kR := k1.below hd3
  have f2 := kR.frozen
  have q0 := kR.look 0 rfl
  have q1 := kR.look 1 rfl
  have ks := (kR.set 0 (.int .i64 N0)).set 1 (.int .i64 D0)
  have r0 : _ = some (Value.int .i64 N0) := ks.look 0 rfl
  have r1 : _ = some (Value.int .i64 D0) := ks.look 1 rfl
  have R0 := hid r0
  have R1 := hid r1
  have HBF := hid ((hBz.setCell (p := ⟨w.heap.size + 1, 0, none⟩) (by show w.heap.size ≤ w.heap.size + 1; omega) (.int .i64 N0)).setCell (p := ⟨w.heap.size + 1, 1, none⟩) (by show w.heap.size ≤ w.heap.size + 1; omega) (.int .i64 D0))
  clear kR ks r0 r1 hBz hd3 b0 k1 k0
  (refine walkJ_bt rfl (fun K hK => ?_); go_simp; refine hK _ _ ?_; clear hK K)
  (refine walkJ_rd rfl (fun K hK => ?_); go_simp; refine hK _ ?_; clear hK K)
  refine walkJ_nil ?_
  go_wp2
  refine bodyPost_ret (v := .tuple #[.agg #[.int .i64 N0, .int .i64 D0], .int .i64 E]) ?_ rfl ⟨rfl, HBF.out⟩
  have r0 := R0.out
  have r1 := R1.out
  simp [results, Tryz.results26, go_sem, r0, r1]

set_option maxHeartbeats 4000000 in
set_option maxRecDepth 100000 in
theorem rSolve_any (c : List P4) (n d : Int) (v : Value) (w : World) (h : P4R 0 w v c)
    (AT0 : ∀ (c : List P4) (v : Value) (w : World), P4R 0 w v c → Calls Tryz.prog 25 #[v, .agg #[.int .i64 n, .int .i64 d]] w fun r w' => r = .returned (.tuple #[.agg #[.int .i64 (oN (atV c n d)), .int .i64 (oD (atV c n d))], .int .i64 (atE c n d)]) ∧ Below w.heap.size w w') :
    Calls Tryz.prog 27 #[v, .agg #[.int .i64 n, .int .i64 d]] w fun r w' => r = .returned (.tuple #[.agg #[.int .i64 (oN (atV (c.map invP) n d)), .int .i64 (oD (atV (c.map invP) n d))], .int .i64 (atE (c.map invP) n d)]) ∧ Below w.heap.size w w' := by
  have VA := hid (fun w h => r2Valid_any c v w h)
  have IV := hid (fun w h hb => turned_any c v w h hb)
  have AT := hid (AT0 (c.map invP))
  obtain ⟨E, hE⟩ : ∃ E, atE (c.map invP) n d = E := ⟨_, rfl⟩
  obtain ⟨N0, hN⟩ : ∃ N, oN (atV (c.map invP) n d) = N := ⟨_, rfl⟩
  obtain ⟨D0, hD⟩ : ∃ D, oD (atV (c.map invP) n d) = D := ⟨_, rfl⟩
  rw [hE, hN, hD] at AT ⊢
  have HE := hid hE
  have HN := hid hN
  have HD := hid hD
  obtain ⟨ao, cap, rfl, -⟩ := id h
  have k0 := (Blk.new w #[.int .i64 n, .int .i64 d] 31).alloc (.cells #[.int .i64 0, .int .i64 0] 31)
  have k1 := Blk.new (w.alloc (.cells #[.int .i64 n, .int .i64 d] 31)) #[.int .i64 0, .int .i64 0] 31
  have b0 := ((Below.refl w.heap.size w).alloc (Nat.le_refl _) (.cells #[.int .i64 n, .int .i64 d] 31)).alloc (by simp) (.cells #[.int .i64 0, .int .i64 0] 31)
  rw [World.size_alloc] at k1
  clear hE hN hD AT0
  go_enter Tryz.func27, Tryz.ntmps27
  go_wp2_with fail
  obtain ⟨w0, hw0⟩ : ∃ w0, (w.alloc (.cells #[.int .i64 n, .int .i64 d] 31)).alloc (.cells #[.int .i64 0, .int .i64 0] 31) = w0 := ⟨_, rfl⟩
  rw [hw0] at k0 k1 b0 ⊢
  clear hw0
  refine (VA.out _ (h.below b0)).mono ?_
  rintro r wv ⟨rfl, hbv⟩
  have h0 := (h.below b0).below hbv
  replace k0 := k0.below hbv
  replace k1 := k1.below hbv
  replace b0 := b0.trans (hbv.mono b0.size)
  clear h hbv VA w0
  by_cases hrv : RV c
  case neg =>
    rw [decide_eq_false hrv]
    have hb := at_bad (inv_bad hrv) n d
    obtain rfl : 2 = E := by rw [← HE.out]; exact hb.2.symm
    obtain rfl : 0 = N0 := by rw [← HN.out, hb.1]; rfl
    obtain rfl : 0 = D0 := by rw [← HD.out, hb.1]; rfl
    have kR := k1
    have hBz := b0
    clear hb HE HN HD k0 k1 b0 AT IV
    have f2 := kR.frozen
    have q0 := kR.look 0 rfl
    have q1 := kR.look 1 rfl
    have ks := (kR.set 0 (.int .i64 0)).set 1 (.int .i64 0)
    have r0 : _ = some (Value.int .i64 0) := ks.look 0 rfl
    have r1 : _ = some (Value.int .i64 0) := ks.look 1 rfl
    have R0 := hid r0
    have R1 := hid r1
    have HBF := hid ((hBz.setCell (p := ⟨w.heap.size + 1, 0, none⟩) (by show w.heap.size ≤ w.heap.size + 1; omega) (.int .i64 0)).setCell (p := ⟨w.heap.size + 1, 1, none⟩) (by show w.heap.size ≤ w.heap.size + 1; omega) (.int .i64 0))
    clear kR ks r0 r1 hBz
    go_wp2
    refine bodyPost_ret (v := .tuple #[.agg #[.int .i64 0, .int .i64 0], .int .i64 2]) ?_ rfl ⟨rfl, HBF.out⟩
    have r0 := R0.out
    have r1 := R1.out
    simp [results, Tryz.results27, go_sem, r0, r1]
  rw [decide_eq_true hrv]
  have h48 := hrv.2.1
  clear hrv HE HN HD
  go_wp2_with fail
  have hd0 := (Below.refl wv.heap.size wv).drew
  have z0 := fun x : SubT (Below wv.heap.size) wv.drew => (k0.below (hd0.trans x.b)).look 0 rfl
  have z1 := fun x : SubT (Below wv.heap.size) wv.drew => (k0.below (hd0.trans x.b)).look 1 rfl
  refine wp_walkJ (T := Below (wv.heap.size)) (belowV_pre _) (.rd 0 (.rd 2 (.mv 1 (.bt 3 (.rd 4 (.rd 5 (.bt 6 (.rd 7 (.inv []))))))))) (by kernel_rfl) rfl (by kernel_rfl) (by kernel_rfl) ?_
  iterate 2 (refine walkJ_rd rfl (fun K hK => ?_); go_simp; refine hK _ ?_; clear hK K)
  clear z0 z1
  (refine walkJ_mv rfl (fun K hK => ?_); go_simp; refine (IV.out _ (h0.below hd0) h48).mono ?_; rintro r w1 ⟨⟨v1, rfl, hq⟩, hb1⟩; refine ⟨_, rfl, hK _ _ (hb1.mono hd0.size) ?_⟩; clear hK K)
  have hd1 : Below wv.heap.size wv w1 := hd0.trans (hb1.mono hd0.size)
  have hq1 : P4R 0 w1 v1 (c.map invP) := SlR.mono hq (Nat.zero_le _)
  clear hq hb1 hd0 IV h0
  (refine walkJ_bt rfl (fun K hK => ?_); go_simp; refine (AT.out _ _ hq1).mono ?_; rintro r w3 ⟨rfl, hb3⟩; refine ⟨_, rfl, hK _ _ ?_⟩; clear hK K)
  have hd3 : Below wv.heap.size wv w3 := hd1.trans (hb3.mono hd1.size)
  clear hb3 hd1 hq1 AT
  iterate 2 (refine walkJ_rd rfl (fun K hK => ?_); go_simp; refine hK _ ?_; clear hK K)
  have hBz := b0.trans (hd3.mono b0.size)
  have kR := k1.below hd3
  have f2 := kR.frozen
  have q0 := kR.look 0 rfl
  have q1 := kR.look 1 rfl
  have ks := (kR.set 0 (.int .i64 N0)).set 1 (.int .i64 D0)
  have r0 : _ = some (Value.int .i64 N0) := ks.look 0 rfl
  have r1 : _ = some (Value.int .i64 D0) := ks.look 1 rfl
  have R0 := hid r0
  have R1 := hid r1
  have HBF := hid ((hBz.setCell (p := ⟨w.heap.size + 1, 0, none⟩) (by show w.heap.size ≤ w.heap.size + 1; omega) (.int .i64 N0)).setCell (p := ⟨w.heap.size + 1, 1, none⟩) (by show w.heap.size ≤ w.heap.size + 1; omega) (.int .i64 D0))
  clear kR ks r0 r1 hBz hd3 b0 k1 k0
  (refine walkJ_bt rfl (fun K hK => ?_); go_simp; refine hK _ _ ?_; clear hK K)
  (refine walkJ_rd rfl (fun K hK => ?_); go_simp; refine hK _ ?_; clear hK K)
  refine walkJ_nil ?_
  go_wp2
  refine bodyPost_ret (v := .tuple #[.agg #[.int .i64 N0, .int .i64 D0], .int .i64 E]) ?_ rfl ⟨rfl, HBF.out⟩
  have r0 := R0.out
  have r1 := R1.out
  simp [results, Tryz.results27, go_sem, r0, r1]

end Go.Proofs.YtfkclcoipadhmaaGreatDoor
