/- Walk of tranklaw04.GradeGreatest. -/
import Derived.Test.YtmknengmjepdaaaLq
import Derived.Test.YtmknengmjepdaaaYv
namespace Go.Proofs.Ytmknengmjepdaaa
open Go.RowKit
attribute [local irreducible] seqS seqST walkV walkJ

set_option maxHeartbeats 4000000 in
set_option maxRecDepth 100000 in
theorem GradeGreatest_any (p : Pat) (n d mn md : Int) (v : Value) (w : World) (h : PatF 0 w v p) :
    Calls Try.prog 15 #[v, .agg #[.int .i64 n, .int .i64 d], .agg #[.int .i64 mn, .int .i64 md]] w fun e w' => e = .returned (.bool true) ∧ Below w.heap.size w w' := by
  obtain ⟨sv, rfl, -⟩ := id h
  have GL := hid (fun v w hv => gGreatest_any (p71 p) n d mn md v w hv)
  have RL := hid (fun v w hv => rGreatest_any p n d mn md v w hv)
  rw [(gr71 p n d mn md).1, (gr71 p n d mn md).2] at GL
  obtain ⟨LL, hLL⟩ : ∃ b, grL p n d mn md = b := ⟨_, rfl⟩
  obtain ⟨EE, hEE⟩ : ∃ b, grE p n d mn md = b := ⟨_, rfl⟩
  rw [hLL, hEE] at GL RL
  clear hLL hEE
  go_enter Try.func15, Try.ntmps15
  go_wp2_with fail
  obtain ⟨w0, hw0, k0, k1, k2, hB, hsz⟩ := three_new w #[.int .i64 p.n, sv] #[.int .i64 n, .int .i64 d] #[.int .i64 mn, .int .i64 md] 24 26 26
  rw [hw0]
  clear hw0
  have h0 := h.below hB
  have hd := (Below.refl w0.heap.size w0).drew
  have z0 := fun x : SubT (Below w0.heap.size) w0.drew => (k0.below (hd.trans x.b)).look 0 rfl
  have z1 := fun x : SubT (Below w0.heap.size) w0.drew => (k0.below (hd.trans x.b)).look 1 rfl
  have z2 := fun x : SubT (Below w0.heap.size) w0.drew => (k1.below (hd.trans x.b)).look 0 rfl
  have z3 := fun x : SubT (Below w0.heap.size) w0.drew => (k1.below (hd.trans x.b)).look 1 rfl
  have z4 := fun x : SubT (Below w0.heap.size) w0.drew => (k2.below (hd.trans x.b)).look 0 rfl
  have z5 := fun x : SubT (Below w0.heap.size) w0.drew => (k2.below (hd.trans x.b)).look 1 rfl
  refine wp_walkJ (T := Below (w0.heap.size)) (belowV_pre _) (.rd 0 (.rd 2 (.rd 3 (.mv 1 (.bt 4 (.rd 5 (.rd 6 (.rd 7 (.rd 8 (.rd 9 (.inv []))))))))))) (by kernel_rfl) rfl (by kernel_rfl) (by kernel_rfl) ?_
  iterate 3 (refine walkJ_rd rfl (fun K hK => ?_); go_simp; refine hK _ ?_; clear hK K)
  clear z0 z1 z2 z3 z4 z5
  (refine walkJ_mv rfl (fun K hK => ?_); go_simp; refine (of_any p _ _ (h0.below hd)).mono ?_; rintro e w1 ⟨v1, rfl, hv1, hb1⟩; refine ⟨_, rfl, hK _ _ hb1 ?_⟩; clear hK K)
  (refine walkJ_bt rfl (fun K hK => ?_); go_simp; refine (GL.out _ _ (hv1.mono (Nat.zero_le _))).mono ?_; rintro e w2 ⟨⟨vl, rfl, hvl⟩, hb2⟩; refine ⟨_, rfl, hK _ _ ?_⟩; clear hK K)
  iterate 5 (refine walkJ_rd rfl (fun K hK => ?_); go_simp; refine hK _ ?_; clear hK K)
  refine walkJ_nil ?_
  have hB2 : Below w0.heap.size w0 w2 := hd.trans (Below.trans hb1 (hb2.mono hb1.size))
  have k02 := k0.below hB2
  have k12 := k1.below hB2
  have k22 := k2.below hB2
  have h2 := h0.below hB2
  have hB2w : Below w.heap.size w w2 := hB.trans (hB2.mono hB.size)
  have c0 := k02.look 0 rfl
  have c1 := k02.look 1 rfl
  have c2 := k12.look 0 rfl
  have c3 := k12.look 1 rfl
  have c4 := k22.look 0 rfl
  have c5 := k22.look 1 rfl
  clear hd hb1 hb2 hv1 h0 hB2 k0 k1 k2 hB k02 k12 k22
  go_wp2_with fail
  refine (RL.out _ _ h2).mono ?_
  rintro e w3 ⟨⟨vm2, rfl, hvm2⟩, hb3⟩
  clear c0 c1 c2 c3 c4 c5
  have hB3 := hB2w.trans (hb3.mono hB2w.size)
  go_wp2_with fail
  refine (EqFr_any LL LL _ _ w3 ((hvl.below hb3).mono (Nat.zero_le _)) (hvm2.mono (Nat.zero_le _))).mono ?_
  rintro e w4 ⟨rfl, hb4⟩
  rw [decide_eq_true rfl]
  have hB4 := hB3.trans (hb4.mono hB3.size)
  go_wp2_with fail
  refine (awake_any w4).mono ?_
  rintro e w5 ⟨rfl, hb5⟩
  have hB5 := hB4.trans (hb5.mono hB4.size)
  go_wp2
  go_ret
  exact ⟨rfl, hB5⟩

end Go.Proofs.Ytmknengmjepdaaa
