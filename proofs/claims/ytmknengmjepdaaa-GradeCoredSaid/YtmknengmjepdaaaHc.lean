/- Walk of grade.Equal. -/
import Derived.Test.YtmknengmjepdaaaGb
import Derived.Test.YtmknengmjepdaaaGc
import Derived.Test.YtmknengmjepdaaaGd
namespace Go.Proofs.Ytmknengmjepdaaa
open Go.RowKit
attribute [local irreducible] seqS seqST

theorem cl_eql {N : Nat} {M M' : Nat → Nat → Int} (hM : ∀ a b, I64 (M a b)) (hM' : ∀ a b, I64 (M' a b)) :
    ∃ r : Bool, (r = true ↔ clArr N M = clArr N M') ∧ ∀ w, (Op.equalIn 10000 122 (.agg (clArr N M)) (.agg (clArr N M'))).run Try.prog w = .ok r w := by
  classical
  refine ⟨decide (clArr N M = clArr N M'), by simp, fun w => ?_⟩
  obtain ⟨r, h1, h2⟩ := cl_equal (N := N) hM hM' w
  rw [h2]
  by_cases h : clArr N M = clArr N M'
  · rw [decide_eq_true h, h1.2 h]
  · rw [decide_eq_false h]
    cases r with
    | false => rfl
    | true => exact absurd (h1.1 rfl) h

set_option maxHeartbeats 8000000 in
set_option maxRecDepth 100000 in
theorem gEqual_any (p q : Pat) (n d : Int) (v u : Value) (w : World) (h : PatF 0 w v p) (h' : PatF 0 w u q) :
    Calls Try.prog 43 #[v, u, .agg #[.int .i64 n, .int .i64 d]] w fun e w' => e = .returned (.tuple #[.bool (eqB p q n d), .int .i64 (eqE p q n d)]) ∧ Below w.heap.size w w' := by
  obtain ⟨sv, rfl, hsl⟩ := id h
  obtain ⟨su, rfl, hsu⟩ := id h'
  go_enter Try.func43, Try.ntmps43
  go_wp2_with fail
  obtain ⟨w0, hw0, k0, k1, k2, hB, hsz⟩ := three_new w #[.int .i64 p.n, sv] #[.int .i64 q.n, su] #[.int .i64 n, .int .i64 d] 33 33 26
  rw [hw0]
  clear hw0
  have fin : Hid (∀ W, Below w0.heap.size w0 W → Below w.heap.size w W) := hid (fun W hb => hB.trans (hb.mono hB.size))
  have h0 := h.below hB
  have h0' := h'.below hB
  obtain ⟨S, hS⟩ : ∃ S, w.heap.size = S := ⟨_, rfl⟩
  rw [hS] at k0 k1 k2 hsz ⊢
  have HS := hid hS
  clear hS h h' hsl hsu hB
  obtain ⟨qe, hqe⟩ : ∃ b, eqE p q n d = b := ⟨_, rfl⟩
  obtain ⟨qb, hqb⟩ : ∃ b, eqB p q n d = b := ⟨_, rfl⟩
  have HQE := hid hqe
  have HQB := hid hqb
  clear hqe hqb
  have c0 := k0.look 0 rfl
  have c1 := k0.look 1 rfl
  go_wp2_with fail
  refine (gValid_any p _ _ h0).mono ?_
  rintro e w1 ⟨rfl, b1⟩
  clear c0 c1
  by_cases hp : PValid p
  case neg =>
    rw [decide_eq_false hp]
    have hqe : qe = 2 := by rw [← HQE.out]; unfold eqE; rw [if_pos (.inl (by rw [decide_eq_false hp]; rfl))]
    have hqb : qb = false := by rw [← HQB.out]; exact eqB_not (by rw [HQE.out, hqe]; decide)
    have HX := hid hqe
    have HY := hid hqb
    clear hqe hqb hp
    go_wp2
    go_ret2
    exact ⟨by rw [HQE.out, HQB.out, HX.out, HY.out]; rfl, fin.out _ b1⟩
  rw [decide_eq_true hp]
  have HP := hid hp
  clear hp
  have c0 := (k1.below b1).look 0 rfl
  have c1 := (k1.below b1).look 1 rfl
  go_wp2_with fail
  refine (gValid_any q _ _ (h0'.below b1)).mono ?_
  rintro e w2 ⟨rfl, hb2⟩
  have b2 := b1.trans (hb2.mono b1.size)
  clear c0 c1 hb2 b1
  by_cases hq : PValid q
  case neg =>
    rw [decide_eq_false hq]
    have hqe : qe = 2 := by rw [← HQE.out]; unfold eqE; rw [if_pos (.inr (by rw [decide_eq_false hq]; rfl))]
    have hqb : qb = false := by rw [← HQB.out]; exact eqB_not (by rw [HQE.out, hqe]; decide)
    have HX := hid hqe
    have HY := hid hqb
    clear hqe hqb hq
    go_wp2
    go_ret2
    exact ⟨by rw [HQE.out, HQB.out, HX.out, HY.out]; rfl, fin.out _ b2⟩
  rw [decide_eq_true hq]
  have HQ := hid hq
  clear hq
  have c0 := (k2.below b2).look 0 rfl
  have c1 := (k2.below b2).look 1 rfl
  go_wp2_with fail
  refine (sized_any n d _).mono ?_
  rintro e w3 ⟨rfl, hb3⟩
  have b3 := b2.trans (hb3.mono b2.size)
  clear c0 c1 hb3 b2
  by_cases hs : FSize n d
  case neg =>
    rw [decide_eq_false hs]
    have hqe : qe = 2 := by rw [← HQE.out]; unfold eqE; rw [if_pos (.inl (by rw [decide_eq_false hs]; simp))]
    have hqb : qb = false := by rw [← HQB.out]; exact eqB_not (by rw [HQE.out, hqe]; decide)
    have HX := hid hqe
    have HY := hid hqb
    clear hqe hqb hs
    go_wp2
    go_ret2
    exact ⟨by rw [HQE.out, HQB.out, HX.out, HY.out]; rfl, fin.out _ b3⟩
  rw [decide_eq_true hs]
  have HF := hid hs
  clear hs
  have hG : ¬ ((decide (PValid p) && decide (FSize n d)) = false ∨ (decide (PValid q) && decide (FSize n d)) = false) := by
    rw [decide_eq_true HP.out, decide_eq_true HQ.out, decide_eq_true HF.out]; decide
  have HG := hid hG
  clear hG
  have c0 := (k0.below b3).look 0 rfl
  have c1 := (k0.below b3).look 1 rfl
  have c2 := (k2.below b3).look 0 rfl
  have c3 := (k2.below b3).look 1 rfl
  go_wp2_with fail
  refine (checked_any p n d _ _ (h0.below b3)).mono ?_
  rintro e w4 ⟨⟨vx, rfl, -, -⟩, hb4⟩
  rw [leastE_of HP.out HF.out]
  have b4 := b3.trans (hb4.mono b3.size)
  clear c0 c1 c2 c3 hb4 b3
  obtain ⟨d1, hd1⟩ : ∃ b, chBad p n d = b := ⟨_, rfl⟩
  rw [hd1]
  have HD1 := hid hd1
  clear hd1
  cases d1 with
  | true =>
    have hqe : qe = 10 := by rw [← HQE.out]; unfold eqE; rw [if_neg HG.out, if_pos (.inl HD1.out)]
    have hqb : qb = false := by rw [← HQB.out]; exact eqB_not (by rw [HQE.out, hqe]; decide)
    have HX := hid hqe
    have HY := hid hqb
    clear hqe hqb
    rw [if_pos rfl]
    go_wp2
    go_ret2
    exact ⟨by rw [HQE.out, HQB.out, HX.out, HY.out]; rfl, fin.out _ b4⟩
  | false =>
  rw [if_neg (by decide)]
  have c0 := (k1.below b4).look 0 rfl
  have c1 := (k1.below b4).look 1 rfl
  have c2 := (k2.below b4).look 0 rfl
  have c3 := (k2.below b4).look 1 rfl
  go_wp2_with fail
  refine (checked_any q n d _ _ (h0'.below b4)).mono ?_
  rintro e w5 ⟨⟨vy, rfl, -, -⟩, hb5⟩
  rw [leastE_of HQ.out HF.out]
  have b5 := b4.trans (hb5.mono b4.size)
  clear c0 c1 c2 c3 hb5 b4
  obtain ⟨d2, hd2⟩ : ∃ b, chBad q n d = b := ⟨_, rfl⟩
  rw [hd2]
  have HD2 := hid hd2
  clear hd2
  cases d2 with
  | true =>
    have hqe : qe = 10 := by rw [← HQE.out]; unfold eqE; rw [if_neg HG.out, if_pos (.inr HD2.out)]
    have hqb : qb = false := by rw [← HQB.out]; exact eqB_not (by rw [HQE.out, hqe]; decide)
    have HX := hid hqe
    have HY := hid hqb
    clear hqe hqb
    rw [if_pos rfl]
    go_wp2
    go_ret2
    exact ⟨by rw [HQE.out, HQB.out, HX.out, HY.out]; rfl, fin.out _ b5⟩
  | false =>
  rw [if_neg (by decide)]
  have hqe : qe = 0 := by rw [← HQE.out]; unfold eqE; rw [if_neg HG.out, if_neg (by rw [HD1.out, HD2.out]; decide)]
  have HX := hid hqe
  have hqb : qb = (decide (p.n = q.n) && p.rules.all (folB q n d) && q.rules.all (folB p n d)) := by rw [← HQB.out]; unfold eqB; rw [HQE.out, hqe]; simp
  have HY := hid hqb
  clear hqe hqb
  have b6 := b5.drew
  have k06 := k0.below b6
  have k16 := k1.below b6
  have k26 := k2.below b6
  have z0 := fun x : Sub w5.drew => (k06.below x.b).look 0 rfl
  have z1 := fun x : Sub w5.drew => (k06.below x.b).look 1 rfl
  have z2 := fun x : Sub w5.drew => (k16.below x.b).look 0 rfl
  have z3 := fun x : Sub w5.drew => (k16.below x.b).look 1 rfl
  have z4 := fun x : Sub w5.drew => (k26.below x.b).look 0 rfl
  have z5 := fun x : Sub w5.drew => (k26.below x.b).look 1 rfl
  by_cases hN : p.n = q.n
  case neg =>
    have hqb : qb = false := by rw [HY.out]; simp [hN]
    have HZ := hid hqb
    clear hqb
    go_wp2_with fail
    refine wp_seq [(0, false), (1, false), (2, false), (3, false), (4, false), (5, false), (6, false), (7, false), (9, false), (10, false), (8, true), (11, true), (12, false), (13, false), (14, false), (15, false)] [(_, false), (_, false), (_, false), (_, false), (_, false), (_, false), (_, false), (_, false), (_, false), (_, false), (_, true), (_, true), (_, false), (_, false), (_, false), (_, false)] (by kernel_rfl) rfl rfl (by kernel_rfl) ?_
    iterate 10 (refine seqS_read (fun K hK => ?_); go_simp; refine hK _ ?_; clear hK K)
    iterate 2 (refine seqS_skip2 (fun K hK => ?_); go_simp; refine hK _ ?_; clear hK K)
    iterate 4 (refine seqS_read (fun K hK => ?_); go_simp; refine hK _ ?_; clear hK K)
    refine seqS_nil ?_
    clear z0 z1 z2 z3 z4 z5
    go_wp2
    go_ret2
    exact ⟨by rw [HQE.out, HQB.out, HX.out, HZ.out]; rfl, fin.out _ b6⟩
  have hiff := fol_iff HP.out HQ.out HF.out HD1.out HD2.out hN
  obtain ⟨r, hr1, hr2⟩ := cl_eql (N := p.n.toNat) (chainM_I64 HP.out HF.out) (chainM_I64 HQ.out HF.out)
  have hqb : qb = r := by
    rw [HY.out, hN, decide_eq_true rfl]
    have h16 : p.n.toNat ≤ 16 := by have := HP.out.2.1; omega
    cases r with
    | true =>
      have := hiff.1 ((clArr_eq h16).1 (hr1.1 rfl))
      rw [this.1, this.2]; rfl
    | false =>
      have hne : ¬ (p.rules.all (folB q n d) = true ∧ q.rules.all (folB p n d) = true) := fun hh => by
        have := hr1.2 ((clArr_eq h16).2 (hiff.2 hh))
        cases this
      cases h1 : p.rules.all (folB q n d) with
      | false => rfl
      | true =>
        cases h2 : q.rules.all (folB p n d) with
        | false => rfl
        | true => exact absurd ⟨h1, h2⟩ hne
  have HZ := hid hqb
  have hC2 : Hid (∀ (W : World), PatF 0 W (.agg #[.int .i64 q.n, su]) q → Calls Try.prog 89 #[.agg #[.int .i64 q.n, su], .agg #[.int .i64 n, .int .i64 d]] W fun e w' => e = .returned (.agg (clArr p.n.toNat (chainM q n d))) ∧ Below W.heap.size W w') := hid (fun W hW => by
    rw [show p.n.toNat = q.n.toNat by rw [hN]]
    exact closed_any q n d _ W hW HQ.out HF.out ((chBad_iff HQ.out HF.out).1 HD2.out))
  have hC1 : Hid (∀ (W : World), PatF 0 W (.agg #[.int .i64 q.n, sv]) p → Calls Try.prog 89 #[.agg #[.int .i64 q.n, sv], .agg #[.int .i64 n, .int .i64 d]] W fun e w' => e = .returned (.agg (clArr p.n.toNat (chainM p n d))) ∧ Below W.heap.size W w') := hid (fun W hW => closed_any p n d _ W hW HP.out HF.out ((chBad_iff HP.out HF.out).1 HD1.out))
  rw [hN] at h0
  replace z0 : ∀ x : Sub w5.drew, x.w.cell? ⟨S, 0, none⟩ = some (.int .i64 q.n) := fun x => by rw [← hN]; exact (k06.below x.b).look 0 rfl
  obtain ⟨A1, hA1⟩ : ∃ A, clArr p.n.toNat (chainM p n d) = A := ⟨_, rfl⟩
  obtain ⟨A2, hA2⟩ : ∃ A, clArr p.n.toNat (chainM q n d) = A := ⟨_, rfl⟩
  rw [hA1] at hr2 hC1
  rw [hA2] at hr2 hC2
  have hqq : q.n = q.n := rfl
  obtain ⟨Nq, hNq⟩ : ∃ z, q.n = z := ⟨_, rfl⟩
  rw [hNq] at z0 z2 hC1 hC2 h0 h0'
  clear hiff hr1 hqb hN hA1 hA2 hqq hNq k06 k16
  go_wp2_with fail
  refine wp_seq [(0, false), (1, false), (2, false), (3, false), (4, false), (5, false), (6, false), (7, false), (9, false), (10, false), (8, true), (11, true), (12, false), (13, false), (14, false), (15, false)] [(_, false), (_, false), (_, false), (_, false), (_, false), (_, false), (_, false), (_, false), (_, false), (_, false), (_, true), (_, true), (_, false), (_, false), (_, false), (_, false)] (by kernel_rfl) rfl rfl (by kernel_rfl) ?_
  iterate 10 (refine seqS_read (fun K hK => ?_); go_simp; refine hK _ ?_; clear hK K)
  clear z0 z1 z2 z3 z4 z5
  (refine seqS_call (fun K hK => ?_); go_simp; refine (hC1.out _ (h0.below b6)).mono ?_; rintro e w7 ⟨rfl, hb7⟩; refine ⟨_, rfl, hK _ _ hb7 ?_⟩; clear hK K)
  have b7 := b6.trans (hb7.mono b6.size)
  (refine seqS_call (fun K hK => ?_); go_simp; refine (hC2.out _ (h0'.below b7)).mono ?_; rintro e w8 ⟨rfl, hb8⟩; refine ⟨_, rfl, hK _ _ hb8 ?_⟩; clear hK K)
  have b8 := b7.trans (hb8.mono b7.size)
  iterate 4 (refine seqS_read (fun K hK => ?_); go_simp; refine hK _ ?_; clear hK K)
  refine seqS_nil ?_
  go_wp2
  go_ret2
  exact ⟨by rw [HQE.out, HQB.out, HX.out, HZ.out]; rfl, fin.out _ b8⟩

end Go.Proofs.Ytmknengmjepdaaa
