/- Walk of tranklaw04.GradeGrowth. -/
import Derived.Test.YtmknengmjepdaaaLa
import Derived.Test.YtmknengmjepdaaaRk
import Derived.Test.YtmknengmjepdaaaTd
namespace Go.Proofs.Ytmknengmjepdaaa
open Go.RowKit

theorem keep3 {W : World} {S : Nat} {a b : Value} {n d n' d' : Int} {s t u : TypeId} (k0 : Blk W S #[a, b] s) (k1 : Blk W (S + 1) #[.int .i64 n, .int .i64 d] t) (k2 : Blk W (S + 1 + 1) #[.int .i64 n', .int .i64 d'] u) : ∀ x : Sub W,
    x.w.cell? ⟨S, 0, none⟩ = some a ∧ x.w.cell? ⟨S, 1, none⟩ = some b ∧ x.w.cell? ⟨S + 1, 0, none⟩ = some (.int .i64 n) ∧ x.w.cell? ⟨S + 1, 1, none⟩ = some (.int .i64 d) ∧ x.w.cell? ⟨S + 1 + 1, 0, none⟩ = some (.int .i64 n') ∧ x.w.cell? ⟨S + 1 + 1, 1, none⟩ = some (.int .i64 d') :=
  fun x => ⟨(k0.below x.b).look 0 rfl, (k0.below x.b).look 1 rfl, (k1.below x.b).look 0 rfl, (k1.below x.b).look 1 rfl, (k2.below x.b).look 0 rfl, (k2.below x.b).look 1 rfl⟩

set_option maxHeartbeats 4000000 in
set_option maxRecDepth 100000 in
theorem GradeGrowth_any (p : Pat) (n d n' d' : Int) (v : Value) (w : World) (h : PatF 0 w v p) :
    Calls Try.prog 4 #[v, .agg #[.int .i64 n, .int .i64 d], .agg #[.int .i64 n', .int .i64 d']] w fun e w' => e = .returned (.bool true) ∧ Below w.heap.size w w' := by
  obtain ⟨sv, rfl, hsl⟩ := id h
  go_enter Try.func4, Try.ntmps4
  go_wp2_with fail
  obtain ⟨w0, hw0, k0, k1, k2, hB, hsz⟩ := three_new w #[.int .i64 p.n, sv] #[.int .i64 n, .int .i64 d] #[.int .i64 n', .int .i64 d'] 24 26 26
  rw [hw0]
  clear hw0
  have h0 := h.below hB
  have hs0 := hsl.below hB
  obtain ⟨S, hS⟩ : ∃ S, w.heap.size = S := ⟨_, rfl⟩
  rw [hS] at k0 k1 k2 hsz ⊢
  have fin : Hid (∀ W, Below w0.heap.size w0 W → Below w.heap.size w W) := hid (fun W hb => hB.trans (hb.mono hB.size))
  clear hS hsl h hB
  have b1 : Below w0.heap.size w0 w0.drew := (Below.refl _ _).drew
  have Z := keep3 (k0.below b1) (k1.below b1) (k2.below b1)
  refine wp_region_seq [(0, false), (2, false), (1, true), (3, true), (4, false), (5, false), (6, false), (7, false), (8, false)] [(_, false), (_, false), (_, true), (_, true), (_, false), (_, false), (_, false), (_, false), (_, false)] (by kernel_rfl) rfl rfl (by kernel_rfl) ?_
  iterate 2 (refine seqS_read (fun K hK => ?_); go_simp; refine hK _ ?_; clear hK K)
  (refine seqS_call (fun K hK => ?_); go_simp; refine (of_any p _ _ (h0.below b1)).mono ?_; rintro e w1 ⟨v1, rfl, hv1, hb1⟩; refine ⟨_, rfl, hK _ _ hb1 ?_⟩; clear hK K)
  replace b1 := b1.trans (hb1.mono b1.size)
  (refine seqS_call (fun K hK => ?_); go_simp; refine (Least_any (p71 p) n d _ _ (hv1.mono (Nat.zero_le _))).mono ?_; rintro e w2 ⟨⟨vm1, rfl, hvm1⟩, hb2⟩; refine ⟨_, rfl, hK _ _ hb2 ?_⟩; clear hK K)
  replace b1 := b1.trans (hb2.mono b1.size)
  clear Z
  iterate 5 (refine seqS_read (fun K hK => ?_); go_simp; refine hK _ ?_; clear hK K)
  refine seqS_nil ?_
  go_wp2_with fail
  have b2 := b1.trans (Below.refl _ w2).drew
  have Z := keep3 (k0.below b2) (k1.below b2) (k2.below b2)
  refine wp_region_seq [(0, false), (2, false), (1, true), (3, true), (4, false), (5, false), (6, false), (7, false), (8, false)] [(_, false), (_, false), (_, true), (_, true), (_, false), (_, false), (_, false), (_, false), (_, false)] (by kernel_rfl) rfl rfl (by kernel_rfl) ?_
  iterate 2 (refine seqS_read (fun K hK => ?_); go_simp; refine hK _ ?_; clear hK K)
  (refine seqS_call (fun K hK => ?_); go_simp; refine (of_any p _ _ (h0.below b2)).mono ?_; rintro e w3 ⟨v3, rfl, hv3, hb3⟩; refine ⟨_, rfl, hK _ _ hb3 ?_⟩; clear hK K)
  replace b2 := b2.trans (hb3.mono b2.size)
  (refine seqS_call (fun K hK => ?_); go_simp; refine (Least_any (p71 p) n' d' _ _ (hv3.mono (Nat.zero_le _))).mono ?_; rintro e w4 ⟨⟨vm2, rfl, hvm2⟩, hb4⟩; refine ⟨_, rfl, hK _ _ hb4 ?_⟩; clear hK K)
  have b3 := b2.trans (hb4.mono b2.size)
  clear Z
  iterate 5 (refine seqS_read (fun K hK => ?_); go_simp; refine hK _ ?_; clear hK K)
  refine seqS_nil ?_
  have hvm1' : FrsR 0 w4 vm1 (rLeastL p n d) := by
    rw [← rLeastL71]
    exact (((hvm1.below ((Below.refl _ w2).drew)).below hb3).below hb4).mono (Nat.zero_le _)
  have hvm2' : FrsR 0 w4 vm2 (rLeastL p n' d') := by
    rw [← rLeastL71]
    exact hvm2.mono (Nat.zero_le _)
  rw [rLeastE71, rLeastE71]
  clear hvm1 hvm2 hv1 hv3 hb1 hb2 hb3 hb4 b1 b2
  obtain ⟨E1, hE1⟩ : ∃ E, rLeastE p n d = E := ⟨_, rfl⟩
  obtain ⟨E2, hE2⟩ : ∃ E, rLeastE p n' d' = E := ⟨_, rfl⟩
  have HE1 := hid hE1
  have HE2 := hid hE2
  rw [hE1, hE2]
  clear hE1 hE2
  go_wp2_with fail
  have b4 := b3.trans (Below.refl _ w4).drew
  have Z := keep3 (k0.below b4) (k1.below b4) (k2.below b4)
  obtain ⟨g1, hg1⟩ : ∃ b, (decide (PValid p) && decide (FSize n d)) = b := ⟨_, rfl⟩
  obtain ⟨g2, hg2⟩ : ∃ b, (decide (PValid p) && decide (FSize n' d')) = b := ⟨_, rfl⟩
  have HG1 := hid hg1
  have HG2 := hid hg2
  clear hg1 hg2
  -- the size is none
  cases g1 with
  | false =>
    refine wp_region_seq [(0, false), (1, false), (2, true), (3, false), (4, false), (5, false), (6, false), (7, true), (8, false), (9, false), (10, false), (11, false), (12, false), (13, false), (14, false), (15, false), (16, false), (17, false), (18, false), (19, false), (21, false), (20, true), (22, true), (23, true), (24, false), (25, false)] [(_, false), (_, false), (_, true), (_, false), (_, false), (_, false), (_, false), (_, true), (_, false), (_, false), (_, false), (_, false), (_, false), (_, false), (_, false), (_, false), (_, false), (_, false), (_, false), (_, false), (_, false), (_, true), (_, true), (_, true), (_, false), (_, false)] (by kernel_rfl) rfl rfl (by kernel_rfl) ?_
    iterate 2 (refine seqS_read (fun K hK => ?_); go_simp; refine hK _ ?_; clear hK K)
    (refine seqS_call (fun K hK => ?_); go_simp; refine (Good_any p n d _ _ (h0.below b4)).mono ?_; rintro e w5 ⟨rfl, hb5⟩; rw [HG1.out]; refine ⟨_, rfl, hK _ _ hb5 ?_⟩; clear hK K)
    iterate 4 (refine seqS_read (fun K hK => ?_); go_simp; refine hK _ ?_; clear hK K)
    (refine seqS_skip2 (fun K hK => ?_); go_simp; refine hK _ ?_; clear hK K)
    iterate 13 (refine seqS_read (fun K hK => ?_); go_simp; refine hK _ ?_; clear hK K)
    iterate 3 (refine seqS_skip2 (fun K hK => ?_); go_simp; refine hK _ ?_; clear hK K)
    iterate 2 (refine seqS_read (fun K hK => ?_); go_simp; refine hK _ ?_; clear hK K)
    refine seqS_nil ?_
    have bz := b4.trans (hb5.mono b4.size)
    clear Z
    go_wp2_with fail
    refine (awake_any _).mono ?_
    rintro e wz ⟨rfl, hbz⟩
    go_wp2
    go_ret
    exact ⟨rfl, fin.out _ (bz.trans (hbz.mono bz.size))⟩
  | true =>
  cases g2 with
  | false =>
    refine wp_region_seq [(0, false), (1, false), (2, true), (3, false), (4, false), (5, false), (6, false), (7, true), (8, false), (9, false), (10, false), (11, false), (12, false), (13, false), (14, false), (15, false), (16, false), (17, false), (18, false), (19, false), (21, false), (20, true), (22, true), (23, true), (24, false), (25, false)] [(_, false), (_, false), (_, true), (_, false), (_, false), (_, false), (_, false), (_, true), (_, false), (_, false), (_, false), (_, false), (_, false), (_, false), (_, false), (_, false), (_, false), (_, false), (_, false), (_, false), (_, false), (_, true), (_, true), (_, true), (_, false), (_, false)] (by kernel_rfl) rfl rfl (by kernel_rfl) ?_
    iterate 2 (refine seqS_read (fun K hK => ?_); go_simp; refine hK _ ?_; clear hK K)
    (refine seqS_call (fun K hK => ?_); go_simp; refine (Good_any p n d _ _ (h0.below b4)).mono ?_; rintro e w5 ⟨rfl, hb5⟩; rw [HG1.out]; refine ⟨_, rfl, hK _ _ hb5 ?_⟩; clear hK K)
    have bz := b4.trans (hb5.mono b4.size)
    have Z := keep3 (k0.below bz) (k1.below bz) (k2.below bz)
    iterate 4 (refine seqS_read (fun K hK => ?_); go_simp; refine hK _ ?_; clear hK K)
    (refine seqS_call (fun K hK => ?_); go_simp; refine (Good_any p n' d' _ _ (h0.below bz)).mono ?_; rintro e w6 ⟨rfl, hb6⟩; rw [HG2.out]; refine ⟨_, rfl, hK _ _ hb6 ?_⟩; clear hK K)
    replace bz := bz.trans (hb6.mono bz.size)
    clear Z
    iterate 13 (refine seqS_read (fun K hK => ?_); go_simp; refine hK _ ?_; clear hK K)
    iterate 3 (refine seqS_skip2 (fun K hK => ?_); go_simp; refine hK _ ?_; clear hK K)
    iterate 2 (refine seqS_read (fun K hK => ?_); go_simp; refine hK _ ?_; clear hK K)
    refine seqS_nil ?_
    go_wp2_with fail
    refine (awake_any _).mono ?_
    rintro e wz ⟨rfl, hbz⟩
    go_wp2
    go_ret
    exact ⟨rfl, fin.out _ (bz.trans (hbz.mono bz.size))⟩
  | true =>
  by_cases e1 : E1 = 0
  case neg =>
    refine wp_region_seq [(0, false), (1, false), (2, true), (3, false), (4, false), (5, false), (6, false), (7, true), (8, false), (9, false), (10, false), (11, false), (12, false), (13, false), (14, false), (15, false), (16, false), (17, false), (18, false), (19, false), (21, false), (20, true), (22, true), (23, true), (24, false), (25, false)] [(_, false), (_, false), (_, true), (_, false), (_, false), (_, false), (_, false), (_, true), (_, false), (_, false), (_, false), (_, false), (_, false), (_, false), (_, false), (_, false), (_, false), (_, false), (_, false), (_, false), (_, false), (_, true), (_, true), (_, true), (_, false), (_, false)] (by kernel_rfl) rfl rfl (by kernel_rfl) ?_
    iterate 2 (refine seqS_read (fun K hK => ?_); go_simp; refine hK _ ?_; clear hK K)
    (refine seqS_call (fun K hK => ?_); go_simp; refine (Good_any p n d _ _ (h0.below b4)).mono ?_; rintro e w5 ⟨rfl, hb5⟩; rw [HG1.out]; refine ⟨_, rfl, hK _ _ hb5 ?_⟩; clear hK K)
    have bz := b4.trans (hb5.mono b4.size)
    have Z := keep3 (k0.below bz) (k1.below bz) (k2.below bz)
    iterate 4 (refine seqS_read (fun K hK => ?_); go_simp; refine hK _ ?_; clear hK K)
    (refine seqS_call (fun K hK => ?_); go_simp; refine (Good_any p n' d' _ _ (h0.below bz)).mono ?_; rintro e w6 ⟨rfl, hb6⟩; rw [HG2.out]; refine ⟨_, rfl, hK _ _ hb6 ?_⟩; clear hK K)
    replace bz := bz.trans (hb6.mono bz.size)
    clear Z
    iterate 13 (refine seqS_read (fun K hK => ?_); go_simp; refine hK _ ?_; clear hK K)
    iterate 3 (refine seqS_skip2 (fun K hK => ?_); go_simp; refine hK _ ?_; clear hK K)
    iterate 2 (refine seqS_read (fun K hK => ?_); go_simp; refine hK _ ?_; clear hK K)
    refine seqS_nil ?_
    go_wp2_with fail
    refine (awake_any _).mono ?_
    rintro e wz ⟨rfl, hbz⟩
    go_wp2
    go_ret
    exact ⟨rfl, fin.out _ (bz.trans (hbz.mono bz.size))⟩
  subst e1
  by_cases e2 : E2 = 0
  case neg =>
    refine wp_region_seq [(0, false), (1, false), (2, true), (3, false), (4, false), (5, false), (6, false), (7, true), (8, false), (9, false), (10, false), (11, false), (12, false), (13, false), (14, false), (15, false), (16, false), (17, false), (18, false), (19, false), (21, false), (20, true), (22, true), (23, true), (24, false), (25, false)] [(_, false), (_, false), (_, true), (_, false), (_, false), (_, false), (_, false), (_, true), (_, false), (_, false), (_, false), (_, false), (_, false), (_, false), (_, false), (_, false), (_, false), (_, false), (_, false), (_, false), (_, false), (_, true), (_, true), (_, true), (_, false), (_, false)] (by kernel_rfl) rfl rfl (by kernel_rfl) ?_
    iterate 2 (refine seqS_read (fun K hK => ?_); go_simp; refine hK _ ?_; clear hK K)
    (refine seqS_call (fun K hK => ?_); go_simp; refine (Good_any p n d _ _ (h0.below b4)).mono ?_; rintro e w5 ⟨rfl, hb5⟩; rw [HG1.out]; refine ⟨_, rfl, hK _ _ hb5 ?_⟩; clear hK K)
    have bz := b4.trans (hb5.mono b4.size)
    have Z := keep3 (k0.below bz) (k1.below bz) (k2.below bz)
    iterate 4 (refine seqS_read (fun K hK => ?_); go_simp; refine hK _ ?_; clear hK K)
    (refine seqS_call (fun K hK => ?_); go_simp; refine (Good_any p n' d' _ _ (h0.below bz)).mono ?_; rintro e w6 ⟨rfl, hb6⟩; rw [HG2.out]; refine ⟨_, rfl, hK _ _ hb6 ?_⟩; clear hK K)
    replace bz := bz.trans (hb6.mono bz.size)
    clear Z
    iterate 13 (refine seqS_read (fun K hK => ?_); go_simp; refine hK _ ?_; clear hK K)
    iterate 3 (refine seqS_skip2 (fun K hK => ?_); go_simp; refine hK _ ?_; clear hK K)
    iterate 2 (refine seqS_read (fun K hK => ?_); go_simp; refine hK _ ?_; clear hK K)
    refine seqS_nil ?_
    go_wp2_with fail
    refine (awake_any _).mono ?_
    rintro e wz ⟨rfl, hbz⟩
    go_wp2
    go_ret
    exact ⟨rfl, fin.out _ (bz.trans (hbz.mono bz.size))⟩
  subst e2
  have hp : PValid p := by have := HG1.out; simp only [Bool.and_eq_true, decide_eq_true_eq] at this; exact this.1
  have hs : FSize n d := by have := HG1.out; simp only [Bool.and_eq_true, decide_eq_true_eq] at this; exact this.2
  have ht : FSize n' d' := by have := HG2.out; simp only [Bool.and_eq_true, decide_eq_true_eq] at this; exact this.2
  have HO1 : Hid (-9223372036854775808 ≤ n ∧ n ≤ 9223372036854775807 ∧ -9223372036854775808 ≤ d ∧ d ≤ 9223372036854775807 ∧ d ≠ 0) := hid (by have := hs.1; unfold FV at this; omega)
  have HO2 : Hid (-9223372036854775808 ≤ n' ∧ n' ≤ 9223372036854775807 ∧ -9223372036854775808 ≤ d' ∧ d' ≤ 9223372036854775807 ∧ d' ≠ 0) := hid (by have := ht.1; unfold FV at this; omega)
  have SQ1 : Hid (QS 268435456 ((n : Rat) / (d : Rat))) := hid ((QS_of HO1.out.1 HO1.out.2.1 HO1.out.2.2.1 HO1.out.2.2.2.1 HO1.out.2.2.2.2).mono (by decide))
  have SQ2 : Hid (QS 268435456 ((n' : Rat) / (d' : Rat))) := hid ((QS_of HO2.out.1 HO2.out.2.1 HO2.out.2.2.1 HO2.out.2.2.2.1 HO2.out.2.2.2.2).mono (by decide))
  have hsgn := sgn_div_le (a := n) (c := n') hs.1.1 ht.1.1
  have HP := hid hp
  have HFS := hid hs
  have HFT := hid ht
  clear hp hs ht
  obtain ⟨sg, hsg⟩ : ∃ z, sgnQ ((n : Rat) / (d : Rat) - (n' : Rat) / (d' : Rat)) = z := ⟨_, rfl⟩
  rw [hsg] at hsgn
  have HSG := hid hsg
  have HSGN := hid hsgn
  clear hsg hsgn
  by_cases hgt : 0 < sg
  case pos =>
    refine wp_region_seq [(0, false), (1, false), (2, true), (3, false), (4, false), (5, false), (6, false), (7, true), (8, false), (9, false), (10, false), (11, false), (12, false), (13, false), (14, false), (15, false), (16, false), (17, false), (18, false), (19, false), (21, false), (20, true), (22, true), (23, true), (24, false), (25, false)] [(_, false), (_, false), (_, true), (_, false), (_, false), (_, false), (_, false), (_, true), (_, false), (_, false), (_, false), (_, false), (_, false), (_, false), (_, false), (_, false), (_, false), (_, false), (_, false), (_, false), (_, false), (_, true), (_, true), (_, true), (_, false), (_, false)] (by kernel_rfl) rfl rfl (by kernel_rfl) ?_
    iterate 2 (refine seqS_read (fun K hK => ?_); go_simp; refine hK _ ?_; clear hK K)
    (refine seqS_call (fun K hK => ?_); go_simp; refine (Good_any p n d _ _ (h0.below b4)).mono ?_; rintro e w5 ⟨rfl, hb5⟩; rw [HG1.out]; refine ⟨_, rfl, hK _ _ hb5 ?_⟩; clear hK K)
    have bz := b4.trans (hb5.mono b4.size)
    have Z := keep3 (k0.below bz) (k1.below bz) (k2.below bz)
    iterate 4 (refine seqS_read (fun K hK => ?_); go_simp; refine hK _ ?_; clear hK K)
    (refine seqS_call (fun K hK => ?_); go_simp; refine (Good_any p n' d' _ _ (h0.below bz)).mono ?_; rintro e w6 ⟨rfl, hb6⟩; rw [HG2.out]; refine ⟨_, rfl, hK _ _ hb6 ?_⟩; clear hK K)
    replace bz := bz.trans (hb6.mono bz.size)
    have Z := keep3 (k0.below bz) (k1.below bz) (k2.below bz)
    iterate 13 (refine seqS_read (fun K hK => ?_); go_simp; refine hK _ ?_; clear hK K)
    clear Z
    (refine seqS_call (fun K hK => ?_); go_simp; refine (Of_any n d _ HO1.out.1 HO1.out.2.1 HO1.out.2.2.1 HO1.out.2.2.2.1 HO1.out.2.2.2.2).mono ?_; rintro e w7 ⟨v7, rfl, hv7, hb7⟩; refine ⟨_, rfl, hK _ _ hb7 ?_⟩; clear hK K)
    (refine seqS_call (fun K hK => ?_); go_simp; refine (Of_any n' d' _ HO2.out.1 HO2.out.2.1 HO2.out.2.2.1 HO2.out.2.2.2.1 HO2.out.2.2.2.2).mono ?_; rintro e w8 ⟨v8, rfl, hv8, hb8⟩; refine ⟨_, rfl, hK _ _ hb8 ?_⟩; clear hK K)
    (refine seqS_call (fun K hK => ?_); go_simp; refine (Order_any _ _ _ _ _ (hv7.below hb8).rat hv8.rat SQ1.out SQ2.out).mono ?_; rintro e w9 ⟨rfl, hb9⟩; refine ⟨_, rfl, hK _ _ hb9 ?_⟩; clear hK K)
    rw [HSG.out]
    iterate 2 (refine seqS_read (fun K hK => ?_); go_simp; refine hK _ ?_; clear hK K)
    refine seqS_nil ?_
    replace bz := ((bz.trans (hb7.mono bz.size)).trans (hb8.mono (Nat.le_trans bz.size hb7.size))).trans (hb9.mono (Nat.le_trans (Nat.le_trans bz.size hb7.size) hb8.size))
    go_wp2_with fail
    refine (awake_any _).mono ?_
    rintro e wz ⟨rfl, hbz⟩
    go_wp2
    go_ret
    exact ⟨rfl, fin.out _ (bz.trans (hbz.mono bz.size))⟩
  refine wp_region_seq [(0, false), (1, false), (2, true), (3, false), (4, false), (5, false), (6, false), (7, true), (8, false), (9, false), (10, false), (11, false), (12, false), (13, false), (14, false), (15, false), (16, false), (17, false), (18, false), (19, false), (21, false), (20, true), (22, true), (23, true), (24, false), (25, false)] [(_, false), (_, false), (_, true), (_, false), (_, false), (_, false), (_, false), (_, true), (_, false), (_, false), (_, false), (_, false), (_, false), (_, false), (_, false), (_, false), (_, false), (_, false), (_, false), (_, false), (_, false), (_, true), (_, true), (_, true), (_, false), (_, false)] (by kernel_rfl) rfl rfl (by kernel_rfl) ?_
  iterate 2 (refine seqS_read (fun K hK => ?_); go_simp; refine hK _ ?_; clear hK K)
  (refine seqS_call (fun K hK => ?_); go_simp; refine (Good_any p n d _ _ (h0.below b4)).mono ?_; rintro e w5 ⟨rfl, hb5⟩; rw [HG1.out]; refine ⟨_, rfl, hK _ _ hb5 ?_⟩; clear hK K)
  have bz := b4.trans (hb5.mono b4.size)
  replace Z := keep3 (k0.below bz) (k1.below bz) (k2.below bz)
  iterate 4 (refine seqS_read (fun K hK => ?_); go_simp; refine hK _ ?_; clear hK K)
  (refine seqS_call (fun K hK => ?_); go_simp; refine (Good_any p n' d' _ _ (h0.below bz)).mono ?_; rintro e w6 ⟨rfl, hb6⟩; rw [HG2.out]; refine ⟨_, rfl, hK _ _ hb6 ?_⟩; clear hK K)
  replace bz := bz.trans (hb6.mono bz.size)
  replace Z := keep3 (k0.below bz) (k1.below bz) (k2.below bz)
  iterate 13 (refine seqS_read (fun K hK => ?_); go_simp; refine hK _ ?_; clear hK K)
  clear Z
  (refine seqS_call (fun K hK => ?_); go_simp; refine (Of_any n d _ HO1.out.1 HO1.out.2.1 HO1.out.2.2.1 HO1.out.2.2.2.1 HO1.out.2.2.2.2).mono ?_; rintro e w7 ⟨v7, rfl, hv7, hb7⟩; refine ⟨_, rfl, hK _ _ hb7 ?_⟩; clear hK K)
  (refine seqS_call (fun K hK => ?_); go_simp; refine (Of_any n' d' _ HO2.out.1 HO2.out.2.1 HO2.out.2.2.1 HO2.out.2.2.2.1 HO2.out.2.2.2.2).mono ?_; rintro e w8 ⟨v8, rfl, hv8, hb8⟩; refine ⟨_, rfl, hK _ _ hb8 ?_⟩; clear hK K)
  (refine seqS_call (fun K hK => ?_); go_simp; refine (Order_any _ _ _ _ _ (hv7.below hb8).rat hv8.rat SQ1.out SQ2.out).mono ?_; rintro e w9 ⟨rfl, hb9⟩; refine ⟨_, rfl, hK _ _ hb9 ?_⟩; clear hK K)
  rw [HSG.out]
  iterate 2 (refine seqS_read (fun K hK => ?_); go_simp; refine hK _ ?_; clear hK K)
  refine seqS_nil ?_
  replace bz := ((bz.trans (hb7.mono bz.size)).trans (hb8.mono (Nat.le_trans bz.size hb7.size))).trans (hb9.mono (Nat.le_trans (Nat.le_trans bz.size hb7.size) hb8.size))
  have bw9 : Below w4.heap.size w4 w9 := (((((Below.refl _ w4).drew.trans (hb5.mono (Nat.le_refl _))).trans (hb6.mono hb5.size)).trans (hb7.mono (Nat.le_trans hb5.size hb6.size))).trans (hb8.mono (Nat.le_trans hb5.size (Nat.le_trans hb6.size hb7.size)))).trans (hb9.mono (Nat.le_trans hb5.size (Nat.le_trans hb6.size (Nat.le_trans hb7.size hb8.size))))
  replace hvm1' := hvm1'.below bw9
  replace hvm2' := hvm2'.below bw9
  clear hb5 hb6 hb7 hb8 hb9 hv7 hv8 b3 b4 bw9
  have k09 := k0.below bz
  obtain ⟨ao, cap, rfl, hcap, hmax, hc⟩ := hs0
  unfold maxLen at hmax
  obtain ⟨L, hL⟩ : ∃ L, p.rules.length = L := ⟨_, rfl⟩
  have HL := hid hL
  rw [hL] at hcap k0 k09 h0 ⊢
  clear hL
  have c0 := k09.look 0 rfl
  have c1 := k09.look 1 rfl
  go_wp2_with fail
  clear c0 c1
  go_loopw [58] (fun x wr => ∃ i : Nat, x = .int .i64 i ∧ i ≤ L ∧ (∀ r ∈ p.rules.take i, 0 ≤ r.d) ∧ Below w9.heap.size w9 wr) (fun x _ => L - (intOf x).toNat)
  case atStart => exact ⟨0, rfl, Nat.zero_le _, by simp, Below.refl _ _⟩
  case round =>
    obtain ⟨i, rfl, hi, hall, hbel⟩ := hrel
    by_cases hiL : i < L
    · obtain ⟨r, hr⟩ := ex_rule (l := p.rules) (i := i) (by rw [HL.out]; omega)
      obtain ⟨b9, off9, rfl, hb9, c0, c1, c2, c3⟩ := ru_cell hc hr
      have bzr := bz.trans (hbel.mono bz.size)
      replace c0 := (bzr.cell (p := ⟨b9, off9 + i * 4, none⟩) hb9).trans c0
      replace c1 := (bzr.cell (p := ⟨b9, off9 + i * 4 + 1, none⟩) hb9).trans c1
      replace c2 := (bzr.cell (p := ⟨b9, off9 + i * 4 + 2, none⟩) hb9).trans c2
      replace c3 := (bzr.cell (p := ⟨b9, off9 + i * 4 + 3, none⟩) hb9).trans c3
      have hiL2 : (i : Int) < (L : Int) := by omega
      by_cases hneg : r.d < 0
      · go_wp2_with fail
        refine (awake_any _).mono ?_
        rintro e wz ⟨rfl, hbz⟩
        go_wp2
        go_ret
        exact ⟨rfl, fin.out _ ((bzr.alloc bzr.size _).trans (hbz.mono (Nat.le_trans bzr.size (by simp))))⟩
      · go_wp2_with fail
        refine ⟨⟨i + 1, by go_num, by omega, take_rule hr hall (by omega), hbel.alloc hbel.size _⟩, by simp [intOf]; omega⟩
    · obtain rfl : i = L := by omega
      have hD : ∀ r ∈ p.rules, 0 ≤ r.d := by
        have h1 := HL.out
        intro r hr
        exact hall r (by rw [List.take_of_length_le (by omega)]; exact hr)
      have HD := hid hD
      clear hall hD
      obtain ⟨N, hN⟩ : ∃ N : Nat, p.n = N := ⟨p.n.toNat, by have := HP.out.1; omega⟩
      have hN16 : N ≤ 16 := by have := HP.out.2.1; omega
      have HN := hid hN
      rw [hN] at k0 k09 h0 ⊢
      clear hN
      have hl1 : rLeastL p n d = (List.range N).map (leastF p n d) := by unfold rLeastL leastL; rw [if_pos HE1.out, HN.out, Int.toNat_natCast]
      have hl2 : rLeastL p n' d' = (List.range N).map (leastF p n' d') := by unfold rLeastL leastL; rw [if_pos HE2.out, HN.out, Int.toNat_natCast]
      rw [hl1] at hvm1'
      rw [hl2] at hvm2'
      obtain ⟨a1, cap1, rfl, hcap1, hmax1, hc1⟩ := hvm1'.below hbel
      obtain ⟨a2, cap2, rfl, hcap2, hmax2, hc2⟩ := hvm2'.below hbel
      have hln : ∀ f : Nat → Int × Int, ((List.range N).map f).length = N := fun f => by rw [List.length_map, List.length_range]
      rw [hln] at hcap1 hcap2
      rw [hln, hln]
      unfold maxLen at hmax1 hmax2
      clear hvm1' hvm2' hl1 hl2 hln
      have kr := k09.below hbel
      have c0 := kr.look 0 rfl
      have c1 := kr.look 1 rfl
      go_wp2_with fail
      clear c0 c1
      have bzr := bz.trans (hbel.mono bz.size)
      generalize wr = wq at *
      go_loopw [81] (fun x wr => ∃ i : Nat, x = .int .i64 i ∧ i ≤ N ∧ Below wq.heap.size wq wr) (fun x _ => N - (intOf x).toNat)
      case atStart => exact ⟨0, rfl, Nat.zero_le _, Below.refl _ _⟩
      case round =>
        obtain ⟨j, rfl, hj, hbel2⟩ := hrel
        by_cases hjN : j < N
        · have hb1 : chBad p n d = false := by
            have := HE1.out
            unfold rLeastE at this
            rw [HG1.out, if_neg (by decide)] at this
            cases hcb : chBad p n d with
            | false => rfl
            | true => rw [hcb] at this; cases this
          have hb2 : chBad p n' d' = false := by
            have := HE2.out
            unfold rLeastE at this
            rw [HG2.out, if_neg (by decide)] at this
            cases hcb : chBad p n' d' with
            | false => rfl
            | true => rw [hcb] at this; cases this
          have hjv : j < p.n.toNat := by have := HN.out; omega
          obtain ⟨f1, r1⟩ := least_fv HP.out HFS.out hb1 hjv
          obtain ⟨f2, r2⟩ := least_fv HP.out HFT.out hb2 hjv
          have hgrow := chain_grow HP.out HFS.out HFT.out hb1 hb2 HD.out (HSGN.out.1 (by omega)) hjv
          have hsle := (sgn_div_le (a := chainM p n d j 0) (c := chainM p n' d' j 0) HFS.out.1.1 HFT.out.1.1).2 hgrow
          rw [← r1, ← r2] at hsle
          have hgd : ∀ f : Nat → Int × Int, ((List.range N).map f).getD j (0, 0) = f j := fun f => by rw [List.getD_eq_getElem?_getD, List.getElem?_map, List.getElem?_range hjN]; rfl
          obtain ⟨b1, o1, rfl, hlt1, x1, x2⟩ := fr_cell hc1 (i := j) (by rw [List.length_map, List.length_range]; exact hjN)
          obtain ⟨b2, o2, rfl, hlt2, x3, x4⟩ := fr_cell hc2 (i := j) (by rw [List.length_map, List.length_range]; exact hjN)
          rw [hgd] at x1 x2 x3 x4
          obtain ⟨n1, hn1⟩ : ∃ z, (leastF p n d j).1 = z := ⟨_, rfl⟩
          obtain ⟨d1, hd1⟩ : ∃ z, (leastF p n d j).2 = z := ⟨_, rfl⟩
          obtain ⟨n2, hn2⟩ : ∃ z, (leastF p n' d' j).1 = z := ⟨_, rfl⟩
          obtain ⟨d2, hd2⟩ : ∃ z, (leastF p n' d' j).2 = z := ⟨_, rfl⟩
          rw [hn1] at x1 f1 hsle
          rw [hd1] at x2 f1 hsle
          rw [hn2] at x3 f2 hsle
          rw [hd2] at x4 f2 hsle
          have I1 : Hid (-9223372036854775808 ≤ n1 ∧ n1 ≤ 9223372036854775807 ∧ -9223372036854775808 ≤ d1 ∧ d1 ≤ 9223372036854775807 ∧ d1 ≠ 0) := hid (by unfold FV at f1; omega)
          have I2 : Hid (-9223372036854775808 ≤ n2 ∧ n2 ≤ 9223372036854775807 ∧ -9223372036854775808 ≤ d2 ∧ d2 ≤ 9223372036854775807 ∧ d2 ≠ 0) := hid (by unfold FV at f2; omega)
          have Q1 : Hid (QS 268435456 ((n1 : Rat) / (d1 : Rat))) := hid ((QS_of I1.out.1 I1.out.2.1 I1.out.2.2.1 I1.out.2.2.2.1 I1.out.2.2.2.2).mono (by decide))
          have Q2 : Hid (QS 268435456 ((n2 : Rat) / (d2 : Rat))) := hid ((QS_of I2.out.1 I2.out.2.1 I2.out.2.2.1 I2.out.2.2.2.1 I2.out.2.2.2.2).mono (by decide))
          obtain ⟨s2, hs2⟩ : ∃ z, sgnQ ((n1 : Rat) / (d1 : Rat) - (n2 : Rat) / (d2 : Rat)) = z := ⟨_, rfl⟩
          rw [hs2] at hsle
          have HS2 := hid hs2
          have F1 := hid f1
          have F2 := hid f2
          have Zf : ∀ W, Below wq.heap.size wq W → ∀ x : Sub W, x.w.cell? ⟨b1, o1 + j * 2, none⟩ = some (.int .i64 n1) ∧ x.w.cell? ⟨b1, o1 + j * 2 + 1, none⟩ = some (.int .i64 d1) ∧ x.w.cell? ⟨b2, o2 + j * 2, none⟩ = some (.int .i64 n2) ∧ x.w.cell? ⟨b2, o2 + j * 2 + 1, none⟩ = some (.int .i64 d2) := fun W hW x => by
            have hb := hW.trans (x.b.mono hW.size)
            exact ⟨(hb.cell (p := ⟨b1, o1 + j * 2, none⟩) hlt1).trans x1, (hb.cell (p := ⟨b1, o1 + j * 2 + 1, none⟩) hlt1).trans x2, (hb.cell (p := ⟨b2, o2 + j * 2, none⟩) hlt2).trans x3, (hb.cell (p := ⟨b2, o2 + j * 2 + 1, none⟩) hlt2).trans x4⟩
          have ZF := hid Zf
          clear hb1 hb2 hjv f1 f2 r1 r2 hgrow hgd x1 x2 x3 x4 hn1 hd1 hn2 hd2 hs2 Zf
          go_wp2_with fail
          have hjN2 : (j : Int) < (N : Int) := by omega
          have y1 := hbel2.drew
          have Z := ZF.out _ y1
          refine wp_region_seq [(0, false), (1, false), (2, false), (3, false), (4, true), (5, false), (6, false), (7, false), (8, false), (9, false), (10, false), (11, true), (12, false), (13, false), (14, false), (15, false), (16, false), (17, false), (18, false), (20, false), (21, false), (22, false), (23, false), (19, true), (24, true), (25, true), (26, false), (27, false)] [(_, false), (_, false), (_, false), (_, false), (_, true), (_, false), (_, false), (_, false), (_, false), (_, false), (_, false), (_, true), (_, false), (_, false), (_, false), (_, false), (_, false), (_, false), (_, false), (_, false), (_, false), (_, false), (_, false), (_, true), (_, true), (_, true), (_, false), (_, false)] (by kernel_rfl) rfl rfl (by kernel_rfl) ?_
          iterate 4 (refine seqS_read (fun K hK => ?_); go_simp; refine hK _ ?_; clear hK K)
          (refine seqS_call (fun K hK => ?_); go_simp; refine (Valid_any n1 d1 _).mono ?_; rintro e u1 ⟨rfl, hu1⟩; rw [decide_eq_true F1.out]; refine ⟨_, rfl, hK _ _ hu1 ?_⟩; clear hK K)
          have y2 := y1.trans (hu1.mono y1.size)
          replace Z := ZF.out _ y2
          iterate 6 (refine seqS_read (fun K hK => ?_); go_simp; refine hK _ ?_; clear hK K)
          (refine seqS_call (fun K hK => ?_); go_simp; refine (Valid_any n2 d2 _).mono ?_; rintro e u2 ⟨rfl, hu2⟩; rw [decide_eq_true F2.out]; refine ⟨_, rfl, hK _ _ hu2 ?_⟩; clear hK K)
          have y3 := y2.trans (hu2.mono y2.size)
          replace Z := ZF.out _ y3
          iterate 11 (refine seqS_read (fun K hK => ?_); go_simp; refine hK _ ?_; clear hK K)
          clear Z
          (refine seqS_call (fun K hK => ?_); go_simp; refine (Of_any n1 d1 _ I1.out.1 I1.out.2.1 I1.out.2.2.1 I1.out.2.2.2.1 I1.out.2.2.2.2).mono ?_; rintro e u3 ⟨q1, rfl, hq1, hu3⟩; refine ⟨_, rfl, hK _ _ hu3 ?_⟩; clear hK K)
          (refine seqS_call (fun K hK => ?_); go_simp; refine (Of_any n2 d2 _ I2.out.1 I2.out.2.1 I2.out.2.2.1 I2.out.2.2.2.1 I2.out.2.2.2.2).mono ?_; rintro e u4 ⟨q2, rfl, hq2, hu4⟩; refine ⟨_, rfl, hK _ _ hu4 ?_⟩; clear hK K)
          (refine seqS_call (fun K hK => ?_); go_simp; refine (Order_any _ _ _ _ _ (hq1.below hu4).rat hq2.rat Q1.out Q2.out).mono ?_; rintro e u5 ⟨rfl, hu5⟩; rw [HS2.out]; refine ⟨_, rfl, hK _ _ hu5 ?_⟩; clear hK K)
          have hs20 : ¬ 0 < s2 := by omega
          iterate 2 (refine seqS_read (fun K hK => ?_); go_simp; refine hK _ ?_; clear hK K)
          refine seqS_nil ?_
          have y4 := y3.trans (hu3.mono y3.size)
          have y5 := y4.trans (hu4.mono y4.size)
          have y6 := y5.trans (hu5.mono y5.size)
          clear hu1 hu2 hu3 hu4 hu5 y1 y2 y3 y4 y5 hq1 hq2
          go_wp2_with fail
          refine ⟨⟨j + 1, by go_num, by omega, y6⟩, by simp [intOf]; omega⟩
        · obtain rfl : j = N := by omega
          go_wp2_with fail
          refine (awake_any _).mono ?_
          rintro e wz ⟨rfl, hbz⟩
          go_wp2
          go_ret
          exact ⟨rfl, fin.out _ ((bzr.trans (hbel2.mono bzr.size)).trans (hbz.mono (Nat.le_trans bzr.size hbel2.size)))⟩

end Go.Proofs.Ytmknengmjepdaaa
