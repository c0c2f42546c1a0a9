/- curve.within: the test of the domain. -/
import Derived.Test.YtfkclcoipadhmaaGreatDoorCz
namespace Go.Proofs.YtfkclcoipadhmaaGreatDoor
open Go.RowKit
attribute [local irreducible] seqS seqST walkV walkJ

theorem nan_any (n : Int) (w : World) :
    Calls Tryz.prog 126 #[.int .i64 n] w fun r w' => r = .returned (.bool false) ∧ Below w.heap.size w w' := by
  go_enter Tryz.func126, Tryz.ntmps126
  have h0 : (n == n) = true := by simp
  go_wp2
  go_ret
  exact ⟨rfl, Below.refl _ _⟩
theorem cmpInt_any (m n : Int) (w : World) :
    Calls Tryz.prog 107 #[.int .i64 m, .int .i64 n] w fun r w' => r = .returned (.int .i64 (if m < n then -1 else if n < m then 1 else 0)) ∧ Below w.heap.size w w' := by
  have N1 := hid (fun w => nan_any m w)
  have N2 := hid (fun w => nan_any n w)
  obtain ⟨R, hR⟩ : ∃ R : Int, (if m < n then -1 else if n < m then 1 else 0) = R := ⟨_, rfl⟩
  have HR := hid hR
  rw [hR]
  clear hR
  go_enter Tryz.func107, Tryz.ntmps107
  go_wp2_with fail
  refine (N1.out _).mono ?_
  rintro r w1 ⟨rfl, hb1⟩
  clear N1
  go_wp2_with fail
  refine (N2.out _).mono ?_
  rintro r w2 ⟨rfl, hb2⟩
  replace hb2 := hb1.trans (hb2.mono hb1.size)
  clear N2 hb1
  by_cases h1 : m < n
  · obtain rfl : R = -1 := by rw [← HR.out, if_pos h1]
    clear HR
    go_wp2
    go_ret
    exact ⟨rfl, hb2⟩
  by_cases h2 : n < m
  · obtain rfl : R = 1 := by rw [← HR.out, if_neg h1, if_pos h2]
    clear HR
    go_wp2
    go_ret
    exact ⟨rfl, hb2⟩
  obtain rfl : R = 0 := by rw [← HR.out, if_neg h1, if_neg h2]
  clear HR
  go_wp2
  go_ret
  exact ⟨rfl, hb2⟩

set_option maxHeartbeats 4000000 in
set_option maxRecDepth 100000 in
theorem sign_any (x : Rat) (w : World) :
    Calls Tryz.prog 76 #[frQ x] w fun r w' => (∃ s, r = .returned (.int .i64 s) ∧ (0 ≤ s ↔ 0 ≤ x)) ∧ Below w.heap.size w w' := by
  obtain ⟨n, hn⟩ : ∃ n, x.num = n := ⟨_, rfl⟩
  have hx : 0 ≤ x ↔ 0 ≤ n := by rw [← hn]; exact Rat.num_nonneg.symm
  unfold frQ
  rw [hn, hx]
  generalize (x.den : Int) = d
  clear hn hx
  have b0 := (Below.refl w.heap.size w).alloc (Nat.le_refl _) (.cells #[.int .i64 n, .int .i64 d] 31)
  have C1 := hid (fun w => cmpInt_any n 0 w)
  obtain ⟨s, hs⟩ : ∃ s : Int, (if n < 0 then -1 else if 0 < n then 1 else 0) = s := ⟨_, rfl⟩
  have hs2 : 0 ≤ s ↔ 0 ≤ n := by rw [← hs]; split <;> (try split) <;> omega
  rw [hs] at C1
  have HS := hid hs2
  clear hs hs2
  go_enter Tryz.func76, Tryz.ntmps76
  go_wp2_with fail
  refine (C1.out _).mono ?_
  rintro r w1 ⟨rfl, hb1⟩
  replace hb1 := b0.trans (hb1.mono b0.size)
  clear C1 b0
  go_wp2
  go_ret
  exact ⟨⟨s, rfl, HS.out⟩, hb1⟩

instance (C : List Pt) (x : Rat) : Decidable (InDom C x) := inferInstanceAs (Decidable (_ ∧ _))
set_option maxHeartbeats 4000000 in
set_option maxRecDepth 100000 in
theorem within_any (C : List Pt) (x : Rat) (v : Value) (w : World) (hc : CV C) (hx : fits x) (h : PsR 0 w v C) :
    Calls Tryz.prog 62 #[v, frQ x] w fun r w' => r = .returned (.bool (decide (InDom C x))) ∧ Below w.heap.size w w' := by
  have h2 := hc.two
  have EN := hid (fun w h => end_any C v w h (by omega) hc.most)
  have SG := hid (fun w => sign_any x w)
  have hP : fits (C.getD (C.length - 1) (0, 0)).1 := (hc.fit _ (by omega)).1
  obtain ⟨P, hPP⟩ : ∃ P, C.getD (C.length - 1) (0, 0) = P := ⟨_, rfl⟩
  have hD : InDom C x ↔ 0 ≤ x ∧ x ≤ P.1 := by unfold InDom; rw [hPP]
  rw [hPP] at EN hP
  have OR := hid (fun w => order_any x P.1 hx hP w)
  have hcm : x ≤ P.1 ↔ cmpQ x P.1 ≤ 0 := by
    rcases cmp_cases x P.1 with ⟨h1, h2, -⟩ | ⟨h1, h2, -⟩ | ⟨h1, h2, -⟩ <;> rw [h2] <;> constructor <;> intro h <;> grind
  rw [hcm] at hD
  generalize cmpQ x P.1 = k at hD OR
  obtain ⟨R, hR⟩ : ∃ R, decide (InDom C x) = R := ⟨_, rfl⟩
  rw [hR]
  have HR := hid hR
  have HD := hid hD
  unfold frQ at SG OR ⊢
  unfold ptQ at EN
  generalize x.num = n at SG OR ⊢
  generalize (x.den : Int) = d at SG OR ⊢
  generalize P.1.num = n1 at EN OR
  generalize (P.1.den : Int) = d1 at EN OR
  generalize P.2.num = n2 at EN
  generalize (P.2.den : Int) = d2 at EN
  clear hR hD hcm hP hPP h2
  have k0 := Blk.new w #[.int .i64 n, .int .i64 d] 31
  have b0 := (Below.refl w.heap.size w).alloc (Nat.le_refl _) (.cells #[.int .i64 n, .int .i64 d] 31)
  have x0 := k0.look 0 rfl
  have x1 := k0.look 1 rfl
  go_enter Tryz.func62, Tryz.ntmps62
  go_wp2_with fail
  obtain ⟨w0, hw0⟩ : ∃ w0, (w.alloc (.cells #[.int .i64 n, .int .i64 d] 31)) = w0 := ⟨_, rfl⟩
  rw [hw0] at k0 b0 x0 x1 ⊢
  clear hw0
  clear x0 x1
  have h0 := h.below b0
  have hfx := field_x
  have hd0 := (Below.refl w0.heap.size w0).drew
  have z0 := fun x : SubT (Below w0.heap.size) w0.drew => (k0.below (hd0.trans x.b)).look 0 rfl
  have z1 := fun x : SubT (Below w0.heap.size) w0.drew => (k0.below (hd0.trans x.b)).look 1 rfl
  clear h
  refine wp_walkJ (T := Below (w0.heap.size)) (belowV_pre _) (.rd 0 (.bt 1 (.rd 2 (.rd 3 (.rd 4 (.rd 5 (.mv 6 (.rd 7 (.bt 8 (.rd 9 (.rd 10 (.rd 11 (.inv []))))))))))))) (by kernel_rfl) rfl (by kernel_rfl) (by kernel_rfl) ?_
  (refine walkJ_rd rfl (fun K hK => ?_); go_simp; refine hK _ ?_; clear hK K)
  clear z0 z1
  (refine walkJ_bt rfl (fun K hK => ?_); go_simp; refine (SG.out _).mono ?_; rintro r w1 ⟨⟨s, rfl, hs⟩, hb1⟩; refine ⟨_, rfl, hK _ _ ?_⟩; clear hK K)
  have hd1 : Below w0.heap.size w0 w1 := hd0.trans hb1
  have HS := hid hs
  clear hb1 hd0 SG hs
  by_cases hs0 : 0 ≤ s
  case neg =>
    obtain rfl : R = false := by rw [← HR.out]; exact decide_eq_false (fun h => hs0 (HS.out.2 (HD.out.1 h).1))
    have hb1 := b0.trans (hd1.mono b0.size)
    clear HR HD HS
    iterate 4 (refine walkJ_rd rfl (fun K hK => ?_); go_simp; refine hK _ ?_; clear hK K)
    (refine walkJ_sk rfl (fun K hK => ?_); go_simp; refine hK _ ?_; clear hK K)
    (refine walkJ_rd rfl (fun K hK => ?_); go_simp; refine hK _ ?_; clear hK K)
    (refine walkJ_bs rfl (fun K hK => ?_); go_simp; refine hK _ ?_; clear hK K)
    iterate 3 (refine walkJ_rd rfl (fun K hK => ?_); go_simp; refine hK _ ?_; clear hK K)
    refine walkJ_nil ?_
    go_wp2
    go_ret
    exact ⟨rfl, hb1⟩
  have z0 := fun x : SubT (Below w0.heap.size) w1 => (k0.below (hd1.trans x.b)).look 0 rfl
  have z1 := fun x : SubT (Below w0.heap.size) w1 => (k0.below (hd1.trans x.b)).look 1 rfl
  iterate 4 (refine walkJ_rd rfl (fun K hK => ?_); go_simp; refine hK _ ?_; clear hK K)
  clear z0 z1
  (refine walkJ_mv rfl (fun K hK => ?_); go_simp; refine (EN.out _ (h0.below hd1)).mono ?_; rintro r w2 ⟨rfl, hb2⟩; refine ⟨_, rfl, hK _ _ (hb2.mono hd1.size) ?_⟩; clear hK K)
  have hd2 := hd1.trans (hb2.mono hd1.size)
  clear hb2 hd1 EN
  (refine walkJ_rd rfl (fun K hK => ?_); go_simp; refine hK _ ?_; clear hK K)
  (refine walkJ_bt rfl (fun K hK => ?_); go_simp; refine (OR.out _).mono ?_; rintro r w3 ⟨rfl, hb3⟩; refine ⟨_, rfl, hK _ _ ?_⟩; clear hK K)
  have hb := b0.trans ((hd2.trans (hb3.mono hd2.size)).mono b0.size)
  clear hb3 hd2 OR
  have hR2 : R = decide (k ≤ 0) := by
    rw [← HR.out]
    by_cases hk : k ≤ 0
    · rw [decide_eq_true hk]; exact decide_eq_true (HD.out.2 ⟨HS.out.1 hs0, hk⟩)
    · rw [decide_eq_false hk]; exact decide_eq_false (fun h => hk (HD.out.1 h).2)
  clear HR HD HS
  subst hR2
  iterate 3 (refine walkJ_rd rfl (fun K hK => ?_); go_simp; refine hK _ ?_; clear hK K)
  refine walkJ_nil ?_
  go_wp2
  go_ret
  exact ⟨rfl, hb⟩

end Go.Proofs.YtfkclcoipadhmaaGreatDoor
