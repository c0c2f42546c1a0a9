/- Walk of tranklaw04.GradeCore. -/
import Derived.Test.YtmknengmjepdaaaJx
import Derived.Test.YtmknengmjepdaaaWh
namespace Go.Proofs.Ytmknengmjepdaaa
open Go.RowKit
attribute [local irreducible] seqS seqST walkV walkJ

theorem coreL71 (p : Pat) (n d : Int) : coreL (p71 p) n d = coreL p n d := by
  rcases p71_cases p with h | ⟨h1, h2⟩
  · rw [h]
  · have e1 : rLeastE p n d = 2 := leastE_two (by rw [decide_eq_false h1]; rfl)
    have e2 : rLeastE (p71 p) n d = 2 := leastE_two (by rw [decide_eq_false h2]; rfl)
    unfold coreL
    rw [e1, e2]
    rfl

set_option maxHeartbeats 4000000 in
set_option maxRecDepth 100000 in
theorem GradeCore_any (p : Pat) (n d : Int) (v : Value) (w : World) (h : PatF 0 w v p) :
    Calls Try.prog 18 #[v, .agg #[.int .i64 n, .int .i64 d]] w fun e w' => e = .returned (.bool true) ∧ Below w.heap.size w w' := by
  obtain ⟨sv, rfl, -⟩ := id h
  have GI := hid (fun v w hv => gCore_any (p71 p) n d v w hv)
  rw [rLeastE71, coreL71] at GI
  have RI := hid (fun v w hv => rCore_any p n d v w hv)
  obtain ⟨LL, hbb⟩ : ∃ b, coreL p n d = b := ⟨_, rfl⟩
  obtain ⟨ee, hee⟩ : ∃ b, rLeastE p n d = b := ⟨_, rfl⟩
  rw [hbb, hee] at GI RI
  clear hbb hee
  go_enter Try.func18, Try.ntmps18
  go_wp2_with fail
  obtain ⟨w0, hw0, k0, k1, hB, hsz⟩ := one_new w #[.int .i64 p.n, sv] #[.int .i64 n, .int .i64 d] 24 26
  rw [hw0]
  clear hw0
  have h0 := h.below hB
  have hd := (Below.refl w0.heap.size w0).drew
  have z0 := fun x : SubT (Below w0.heap.size) w0.drew => (k0.below (hd.trans x.b)).look 0 rfl
  have z1 := fun x : SubT (Below w0.heap.size) w0.drew => (k0.below (hd.trans x.b)).look 1 rfl
  have z2 := fun x : SubT (Below w0.heap.size) w0.drew => (k1.below (hd.trans x.b)).look 0 rfl
  have z3 := fun x : SubT (Below w0.heap.size) w0.drew => (k1.below (hd.trans x.b)).look 1 rfl
  refine wp_walkJ (T := Below (w0.heap.size)) (belowV_pre _) (.rd 0 (.rd 2 (.mv 1 (.bt 3 (.rd 4 (.rd 5 (.rd 6 (.rd 7 (.rd 8 (.inv [])))))))))) (by kernel_rfl) rfl (by kernel_rfl) (by kernel_rfl) ?_
  iterate 2 (refine walkJ_rd rfl (fun K hK => ?_); go_simp; refine hK _ ?_; clear hK K)
  clear z0 z1 z2 z3
  (refine walkJ_mv rfl (fun K hK => ?_); go_simp; refine (of_any p _ _ (h0.below hd)).mono ?_; rintro e w1 ⟨v1, rfl, hv1, hb1⟩; refine ⟨_, rfl, hK _ _ hb1 ?_⟩; clear hK K)
  (refine walkJ_bt rfl (fun K hK => ?_); go_simp; refine (GI.out _ _ (hv1.mono (Nat.zero_le _))).mono ?_; rintro e w2 ⟨⟨vl, rfl, hvl⟩, hb2⟩; refine ⟨_, rfl, hK _ _ ?_⟩; clear hK K)
  iterate 5 (refine walkJ_rd rfl (fun K hK => ?_); go_simp; refine hK _ ?_; clear hK K)
  refine walkJ_nil ?_
  have hB2 : Below w0.heap.size w0 w2 := hd.trans (Below.trans hb1 (hb2.mono hb1.size))
  have k02 := k0.below hB2
  have k12 := k1.below hB2
  have c0 := k02.look 0 rfl
  have c1 := k02.look 1 rfl
  have c2 := k12.look 0 rfl
  have c3 := k12.look 1 rfl
  have HVL := hid hvl
  clear hvl
  go_wp2_with fail
  refine (RI.out _ _ (h0.below hB2)).mono ?_
  rintro e w3 ⟨⟨vm, rfl, hvm⟩, hb3⟩
  clear c0 c1 c2 c3
  have hB3 := hB.trans ((hB2.trans (hb3.mono hB2.size)).mono hB.size)
  have HVM := hid hvm
  clear hvm
  go_wp2_with fail
  refine (EqInt_any LL LL _ _ _ (SlR.mono (HVL.out.below hb3) (Nat.zero_le _)) (SlR.mono HVM.out (Nat.zero_le _))).mono ?_
  rintro e w4 ⟨rfl, hb4⟩
  rw [decide_eq_true rfl]
  have hB4 := hB3.trans (hb4.mono hB3.size)
  go_wp2_with fail
  refine (awake_any _).mono ?_
  rintro e wz ⟨rfl, hbz⟩
  go_wp2
  go_ret
  exact ⟨by simp, hB4.trans (hbz.mono hB4.size)⟩

end Go.Proofs.Ytmknengmjepdaaa
