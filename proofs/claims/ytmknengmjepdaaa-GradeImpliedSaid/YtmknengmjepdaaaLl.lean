/- Walk of tranklaw04.GradeImplied. -/
import Derived.Test.YtmknengmjepdaaaJx
import Derived.Test.YtmknengmjepdaaaWe
namespace Go.Proofs.Ytmknengmjepdaaa
open Go.RowKit
attribute [local irreducible] seqS seqST walkV walkJ

theorem imp71 (p : Pat) (n d k : Int) : impE (p71 p) n d k = impE p n d k ∧ impB (p71 p) n d k = impB p n d k := by
  rcases p71_cases p with h | ⟨h1, h2⟩
  · rw [h]; exact ⟨rfl, rfl⟩
  · rw [(impE_two (fun hh : impIn p n d k => h1 hh.1)).1, (impE_two (fun hh : impIn p n d k => h1 hh.1)).2]
    exact impE_two (fun hh => h2 hh.1)

set_option maxHeartbeats 4000000 in
set_option maxRecDepth 100000 in
theorem GradeImplied_any (p : Pat) (n d k : Int) (v : Value) (w : World) (h : PatF 0 w v p) (_ : I64 k) :
    Calls Try.prog 17 #[v, .agg #[.int .i64 n, .int .i64 d], .int .i64 k] w fun e w' => e = .returned (.bool true) ∧ Below w.heap.size w w' := by
  obtain ⟨sv, rfl, -⟩ := id h
  have GI := hid (fun v w hv => gImplied_any (p71 p) n d k v w hv)
  rw [(imp71 p n d k).1, (imp71 p n d k).2] at GI
  have RI := hid (fun v w hv => rImplied_any p n d k v w hv)
  obtain ⟨bb, hbb⟩ : ∃ b, impB p n d k = b := ⟨_, rfl⟩
  obtain ⟨ee, hee⟩ : ∃ b, impE p n d k = b := ⟨_, rfl⟩
  rw [hbb, hee] at GI RI
  clear hbb hee
  go_enter Try.func17, Try.ntmps17
  go_wp2_with fail
  obtain ⟨w0, hw0, k0, k1, hB, hsz⟩ := one_new w #[.int .i64 p.n, sv] #[.int .i64 n, .int .i64 d] 24 26
  rw [hw0]
  clear hw0
  have h0 := h.below hB
  have hd := (Below.refl w0.heap.size w0).drew
  have z0 := fun x : SubT (Below w0.heap.size) w0.drew => (k0.below (hd.trans x.b)).look 0 rfl
  have z1 := fun x : SubT (Below w0.heap.size) w0.drew => (k0.below (hd.trans x.b)).look 1 rfl
  have z2 := fun x : SubT (Below w0.heap.size) w0.drew => (k1.below (hd.trans x.b)).look 0 rfl
  have z3 := fun x : SubT (Below w0.heap.size) w0.drew => (k1.below (hd.trans x.b)).look 1 rfl
  refine wp_walkJ (T := Below (w0.heap.size)) (belowV_pre _) (.rd 0 (.rd 2 (.rd 3 (.mv 1 (.bt 4 (.rd 5 (.rd 6 (.rd 7 (.rd 8 (.rd 9 (.inv []))))))))))) (by kernel_rfl) rfl (by kernel_rfl) (by kernel_rfl) ?_
  iterate 3 (refine walkJ_rd rfl (fun K hK => ?_); go_simp; refine hK _ ?_; clear hK K)
  clear z0 z1 z2 z3
  (refine walkJ_mv rfl (fun K hK => ?_); go_simp; refine (of_any p _ _ (h0.below hd)).mono ?_; rintro e w1 ⟨v1, rfl, hv1, hb1⟩; refine ⟨_, rfl, hK _ _ hb1 ?_⟩; clear hK K)
  (refine walkJ_bt rfl (fun K hK => ?_); go_simp; refine (GI.out _ _ (hv1.mono (Nat.zero_le _))).mono ?_; rintro e w2 ⟨rfl, hb2⟩; refine ⟨_, rfl, hK _ _ ?_⟩; clear hK K)
  iterate 5 (refine walkJ_rd rfl (fun K hK => ?_); go_simp; refine hK _ ?_; clear hK K)
  refine walkJ_nil ?_
  have hB2 : Below w0.heap.size w0 w2 := hd.trans (Below.trans hb1 (hb2.mono hb1.size))
  have k02 := k0.below hB2
  have k12 := k1.below hB2
  have c0 := k02.look 0 rfl
  have c1 := k02.look 1 rfl
  have c2 := k12.look 0 rfl
  have c3 := k12.look 1 rfl
  go_wp2_with fail
  refine (RI.out _ _ (h0.below hB2)).mono ?_
  rintro e w3 ⟨rfl, hb3⟩
  clear c0 c1 c2 c3
  have hB3 := hB.trans ((hB2.trans (hb3.mono hB2.size)).mono hB.size)
  go_wp2_with fail
  refine (awake_any _).mono ?_
  rintro e wz ⟨rfl, hbz⟩
  go_wp2
  go_ret
  exact ⟨by simp, hB3.trans (hbz.mono hB3.size)⟩

end Go.Proofs.Ytmknengmjepdaaa
