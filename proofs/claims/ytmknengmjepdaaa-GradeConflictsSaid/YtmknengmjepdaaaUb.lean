/- Walk of tranklaw04.above. -/
import Derived.Test.YtmknengmjepdaaaQx
import Derived.Test.YtmknengmjepdaaaRx
namespace Go.Proofs.Ytmknengmjepdaaa
open Go.RowKit
attribute [local irreducible] seqS seqST

set_option maxHeartbeats 2000000 in
set_option maxRecDepth 100000 in
theorem above_any (c d n m : Int) (w : World) (hc : -9223372036854775808 ≤ c ∧ c ≤ 9223372036854775807) (hd : -9223372036854775808 ≤ d ∧ d ≤ 9223372036854775807) (hn : -9223372036854775808 ≤ n ∧ n ≤ 9223372036854775807) (hm : -9223372036854775808 ≤ m ∧ m ≤ 9223372036854775807) (h0 : m ≠ 0) :
    Calls Try.prog 34 #[.int .i64 c, .int .i64 d, .agg #[.int .i64 n, .int .i64 m]] w fun e w' => e = .returned (.int .i64 (sgnQ ((c : Rat) + (d : Rat) * ((n : Rat) / (m : Rat))))) ∧ Below w.heap.size w w' := by
  have s1 : Hid (QS 268435456 (c : Rat)) := hid ((int_size hc.1 hc.2).mono (by decide))
  have s2 : Hid (QS 4 (d : Rat)) := hid ((int_size hd.1 hd.2).mono (by decide))
  have s3 : Hid (QS 4 ((n : Rat) / (m : Rat))) := hid (QS_of hn.1 hn.2 hm.1 hm.2 h0)
  have s4 : Hid (QS 268435456 ((d : Rat) * ((n : Rat) / (m : Rat)))) := hid ((QS_mul s2.out s3.out).mono (by decide))
  have HC := hid hc
  have HD := hid hd
  have HN := hid hn
  have HM := hid hm
  have H0 := hid h0
  clear hc hd hn hm h0
  go_enter Try.func34, Try.ntmps34
  go_wp2_with fail
  have k0 := Blk.new w #[.int .i64 n, .int .i64 m] 26
  have b0 := (Below.refl w.heap.size w).alloc (Nat.le_refl _) (.cells #[.int .i64 n, .int .i64 m] 26)
  obtain ⟨w0, hw0⟩ : ∃ w0, w.alloc (.cells #[.int .i64 n, .int .i64 m] 26) = w0 := ⟨_, rfl⟩
  rw [hw0] at k0 b0 ⊢
  clear hw0
  have z0 := fun x : Sub w0.drew => (k0.drew.below x.b).look 0 rfl
  have z1 := fun x : Sub w0.drew => (k0.drew.below x.b).look 1 rfl
  have b1 := b0.drew
  refine wp_seq [(0, false), (2, false), (4, false), (1, true), (3, true), (5, true), (6, true), (7, true), (8, true), (9, false)] [(_, false), (_, false), (_, false), (_, true), (_, true), (_, true), (_, true), (_, true), (_, true), (_, false)] (by kernel_rfl) rfl rfl (by kernel_rfl) ?_
  iterate 3 (refine seqS_read (fun K hK => ?_); go_simp; refine hK _ ?_; clear hK K)
  clear z0 z1
  (refine seqS_call (fun K hK => ?_); go_simp; refine (Int_any c _ HC.out.1 HC.out.2).mono ?_; rintro e w1 ⟨v1, rfl, h1, hb1⟩; refine ⟨_, rfl, hK _ _ hb1 ?_⟩; clear hK K)
  have b2 := b1.trans (hb1.mono b1.size)
  (refine seqS_call (fun K hK => ?_); go_simp; refine (Int_any d _ HD.out.1 HD.out.2).mono ?_; rintro e w2 ⟨v2, rfl, h2, hb2⟩; refine ⟨_, rfl, hK _ _ hb2 ?_⟩; clear hK K)
  have b3 := b2.trans (hb2.mono b2.size)
  (refine seqS_call (fun K hK => ?_); go_simp; refine (Of_any n m _ HN.out.1 HN.out.2 HM.out.1 HM.out.2 H0.out).mono ?_; rintro e w3 ⟨v3, rfl, h3, hb3⟩; refine ⟨_, rfl, hK _ _ hb3 ?_⟩; clear hK K)
  have b4 := b3.trans (hb3.mono b3.size)
  (refine seqS_call (fun K hK => ?_); go_simp; refine (Times_any _ _ _ _ _ ((h2.below hb3).rat) h3.rat (s2.out.mono (by decide)) (s3.out.mono (by decide))).mono ?_; rintro e w4 ⟨v4, rfl, h4, hb4⟩; refine ⟨_, rfl, hK _ _ hb4 ?_⟩; clear hK K)
  have b5 := b4.trans (hb4.mono b4.size)
  (refine seqS_call (fun K hK => ?_); go_simp; refine (Plus_any _ _ _ _ _ ((((h1.below hb2).below hb3).below hb4).rat) h4.rat s1.out s4.out).mono ?_; rintro e w5 ⟨v5, rfl, h5, hb5⟩; refine ⟨_, rfl, hK _ _ hb5 ?_⟩; clear hK K)
  have b6 := b5.trans (hb5.mono b5.size)
  (refine seqS_call (fun K hK => ?_); go_simp; refine (Sign_any _ _ _ h5.rat).mono ?_; rintro e w6 ⟨rfl, hb6⟩; refine ⟨_, rfl, hK _ _ hb6 ?_⟩; clear hK K)
  have b7 := b6.trans (hb6.mono b6.size)
  iterate 1 (refine seqS_read (fun K hK => ?_); go_simp; refine hK _ ?_; clear hK K)
  refine seqS_nil ?_
  go_wp2
  go_ret
  exact ⟨rfl, b7⟩

end Go.Proofs.Ytmknengmjepdaaa
