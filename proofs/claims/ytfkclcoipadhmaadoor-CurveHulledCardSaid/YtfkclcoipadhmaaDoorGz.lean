/- Walk of tranklaw02.above. -/
import Derived.Test.YtfkclcoipadhmaaDoorVi
namespace Go.Proofs.YtfkclcoipadhmaaDoor
open Go.RowKit
attribute [local irreducible] seqS seqST walkV walkJ gives

structure AbvI (B : Nat) (w0 : World) (x2 x5 x6 x9 x12 x13 x14 : Rat) (l : Nat → Bool) (V : Nat → Value) (w : World) : Prop where
  b : Below B w0 w
  c2 : l 2 = true → QF 0 w (V 2) x2
  c5 : l 5 = true → QF 0 w (V 5) x5
  c6 : l 6 = true → QF 0 w (V 6) x6
  c9 : l 9 = true → QF 0 w (V 9) x9
  c12 : l 12 = true → QF 0 w (V 12) x12
  c13 : l 13 = true → QF 0 w (V 13) x13
  c14 : l 14 = true → QF 0 w (V 14) x14
  a15 : l 15 = true → QVar B w (V 15) (l 16) x14
theorem AbvI.below {B : Nat} {w0 : World} {x2 x5 x6 x9 x12 x13 x14 : Rat} {l : Nat → Bool} {V : Nat → Value} {w w' : World} (h : AbvI B w0 x2 x5 x6 x9 x12 x13 x14 l V w) (hb : Below w.heap.size w w') (hB : B ≤ w.heap.size) : AbvI B w0 x2 x5 x6 x9 x12 x13 x14 l V w' :=
  ⟨h.b.trans (hb.mono hB), fun x => (h.c2 x).below hb, fun x => (h.c5 x).below hb, fun x => (h.c6 x).below hb, fun x => (h.c9 x).below hb, fun x => (h.c12 x).below hb, fun x => (h.c13 x).below hb, fun x => (h.c14 x).below hb, fun x => (h.a15 x).below hb⟩

set_option maxHeartbeats 8000000 in
set_option maxRecDepth 100000 in
theorem above_any (p q r : Pt) (hp : fits p.1 ∧ fits p.2) (hq : fits q.1 ∧ fits q.2) (hr : fits r.1 ∧ fits r.2) (w : World) :
    Calls Tryd.prog 49 #[ptQ p, ptQ q, ptQ r] w fun e w' => e = .returned (.bool (decide ((q.2 - p.2) * (r.1 - p.1) < (r.2 - p.2) * (q.1 - p.1)))) ∧ Below w.heap.size w w' := by
  have Op1 := hid (fun w => ofQ_any p.1 hp.1 w)
  have sp1 := hid (fits_S hp.1)
  have Op2 := hid (fun w => ofQ_any p.2 hp.2 w)
  have sp2 := hid (fits_S hp.2)
  have Oq1 := hid (fun w => ofQ_any q.1 hq.1 w)
  have sq1 := hid (fits_S hq.1)
  have Oq2 := hid (fun w => ofQ_any q.2 hq.2 w)
  have sq2 := hid (fits_S hq.2)
  have Or1 := hid (fun w => ofQ_any r.1 hr.1 w)
  have sr1 := hid (fits_S hr.1)
  have Or2 := hid (fun w => ofQ_any r.2 hr.2 w)
  have sr2 := hid (fits_S hr.2)
  have s5a := hid ((sub_qs hr.2 hp.2).mono (k' := 268435456) (by decide))
  have s5b := hid ((sub_qs hq.1 hp.1).mono (k' := 268435456) (by decide))
  have s6a := hid ((sub_qs hq.2 hp.2).mono (k' := 268435456) (by decide))
  have s6b := hid ((sub_qs hr.1 hp.1).mono (k' := 268435456) (by decide))
  have s7 := hid ((QS_mul (sub_qs hr.2 hp.2) (sub_qs hq.1 hp.1)).mono (k' := 268435456) (by decide))
  have s8 := hid ((QS_mul (sub_qs hq.2 hp.2) (sub_qs hr.1 hp.1)).mono (k' := 268435456) (by decide))
  unfold frQ at Op1 Op2 Oq1 Oq2 Or1 Or2
  unfold ptQ
  obtain ⟨p1, hp1⟩ : ∃ z, p.1.num = z := ⟨_, rfl⟩
  obtain ⟨p2, hp2⟩ : ∃ z, (p.1.den : Int) = z := ⟨_, rfl⟩
  obtain ⟨p3, hp3⟩ : ∃ z, p.2.num = z := ⟨_, rfl⟩
  obtain ⟨p4, hp4⟩ : ∃ z, (p.2.den : Int) = z := ⟨_, rfl⟩
  obtain ⟨q1, hq1⟩ : ∃ z, q.1.num = z := ⟨_, rfl⟩
  obtain ⟨q2, hq2⟩ : ∃ z, (q.1.den : Int) = z := ⟨_, rfl⟩
  obtain ⟨q3, hq3⟩ : ∃ z, q.2.num = z := ⟨_, rfl⟩
  obtain ⟨q4, hq4⟩ : ∃ z, (q.2.den : Int) = z := ⟨_, rfl⟩
  obtain ⟨r1, hr1⟩ : ∃ z, r.1.num = z := ⟨_, rfl⟩
  obtain ⟨r2, hr2⟩ : ∃ z, (r.1.den : Int) = z := ⟨_, rfl⟩
  obtain ⟨r3, hr3⟩ : ∃ z, r.2.num = z := ⟨_, rfl⟩
  obtain ⟨r4, hr4⟩ : ∃ z, (r.2.den : Int) = z := ⟨_, rfl⟩
  rw [hp1, hp2, hp3, hp4, hq1, hq2, hq3, hq4, hr1, hr2, hr3, hr4]
  rw [hp1, hp2] at Op1
  rw [hp3, hp4] at Op2
  rw [hq1, hq2] at Oq1
  rw [hq3, hq4] at Oq2
  rw [hr1, hr2] at Or1
  rw [hr3, hr4] at Or2
  clear hp hq hr hp1 hp2 hp3 hp4 hq1 hq2 hq3 hq4 hr1 hr2 hr3 hr4
  obtain ⟨W, hW, k0, k1, k2, hB, hsz⟩ := three_new w #[.int .i64 p1, .int .i64 p2, .int .i64 p3, .int .i64 p4] #[.int .i64 q1, .int .i64 q2, .int .i64 q3, .int .i64 q4] #[.int .i64 r1, .int .i64 r2, .int .i64 r3, .int .i64 r4] 52 52 52
  have HB := hid hB
  clear hB hsz
  go_enter Tryd.func49, Tryd.ntmps49
  go_wp2_with fail
  clear hW
  have hd0 := (Below.refl W.heap.size W).drew
  have z0 := fun y : SubT (Below W.heap.size) W.drew => (k0.below (hd0.trans y.b)).look 0 rfl
  have z1 := fun y : SubT (Below W.heap.size) W.drew => (k0.below (hd0.trans y.b)).look 1 rfl
  have z2 := fun y : SubT (Below W.heap.size) W.drew => (k0.below (hd0.trans y.b)).look 2 rfl
  have z3 := fun y : SubT (Below W.heap.size) W.drew => (k0.below (hd0.trans y.b)).look 3 rfl
  have z4 := fun y : SubT (Below W.heap.size) W.drew => (k1.below (hd0.trans y.b)).look 0 rfl
  have z5 := fun y : SubT (Below W.heap.size) W.drew => (k1.below (hd0.trans y.b)).look 1 rfl
  have z6 := fun y : SubT (Below W.heap.size) W.drew => (k1.below (hd0.trans y.b)).look 2 rfl
  have z7 := fun y : SubT (Below W.heap.size) W.drew => (k1.below (hd0.trans y.b)).look 3 rfl
  have z8 := fun y : SubT (Below W.heap.size) W.drew => (k2.below (hd0.trans y.b)).look 0 rfl
  have z9 := fun y : SubT (Below W.heap.size) W.drew => (k2.below (hd0.trans y.b)).look 1 rfl
  have z10 := fun y : SubT (Below W.heap.size) W.drew => (k2.below (hd0.trans y.b)).look 2 rfl
  have z11 := fun y : SubT (Below W.heap.size) W.drew => (k2.below (hd0.trans y.b)).look 3 rfl
  refine wp_walkJ (T := Below (W.heap.size)) (belowV_pre _) (.rd 0 (.rd 1 (.rd 3 (.rd 4 (.rd 7 (.rd 8 (.rd 10 (.rd 11 (.inv [2, 5, 6, 9, 12, 13, 14, 15, 16]))))))))) (by kernel_rfl) rfl (by kernel_rfl) (by kernel_rfl) ?_
  iterate 8 (refine walkJ_rd rfl (fun K hK => ?_); go_simp; refine hK _ ?_; clear hK K)
  clear z0 z1 z2 z3 z4 z5 z6 z7 z8 z9 z10 z11
  obtain ⟨Wd, hWd⟩ : ∃ Wd, W.drew = Wd := ⟨_, rfl⟩
  have hs9 : W.heap.size = Wd.heap.size := by rw [← hWd]; rfl
  rw [hWd] at hd0 ⊢
  clear hWd
  have HS9 := hid hs9
  clear hs9
  refine walkJ_inv (AbvI W.heap.size W r.2 p.2 (r.2 - p.2) q.1 p.1 (q.1 - p.1) ((r.2 - p.2) * (q.1 - p.1))) [(2, 11), (5, 14), (6, 15), (9, 18), (12, 21), (13, 22), (14, 23), (15, 7)] (by kernel_rfl) ?_ ?_ ?_
  · exact ⟨hd0, fun h => (by cases h), fun h => (by cases h), fun h => (by cases h), fun h => (by cases h), fun h => (by cases h), fun h => (by cases h), fun h => (by cases h), fun h => (by cases h)⟩
  · refine stepsI_cons [] [5, 6, 9, 12, 13, 14, 16] [] rfl (by kernel_rfl) (by kernel_rfl) (by kernel_rfl) (fun K l V x hx hl hds hn hI hK => ?_) ?_
    · simp only [putsP]
      go_simp
      have hsx : W.heap.size ≤ x.heap.size := by rw [HS9.out]; exact hx.size
      refine (Or2.out _).mono ?_
      rintro e w9 ⟨v9, rfl, hq9, hb9⟩
      refine ⟨_, rfl, hK _ _ (hb9.mono hsx) ?_⟩
      have h2 := hI.below hb9 hsx
      exact ⟨h2.b, fun _ => hq9.mono (Nat.zero_le _), fun h => h2.c5 h, fun h => h2.c6 h, fun h => h2.c9 h, fun h => h2.c12 h, fun h => h2.c13 h, fun h => h2.c14 h, fun h => h2.a15 h⟩
    refine stepsI_cons [2] [6, 9, 12, 13, 14, 16] [(2, 11)] rfl (by kernel_rfl) (by kernel_rfl) (by kernel_rfl) (fun K l V x hx hl hds hn hI hK => ?_) ?_
    · simp only [putsP]
      go_simp
      have hsx : W.heap.size ≤ x.heap.size := by rw [HS9.out]; exact hx.size
      refine (Op2.out _).mono ?_
      rintro e w9 ⟨v9, rfl, hq9, hb9⟩
      refine ⟨_, rfl, hK _ _ (hb9.mono hsx) ?_⟩
      have h2 := hI.below hb9 hsx
      exact ⟨h2.b, fun h => h2.c2 h, fun _ => hq9.mono (Nat.zero_le _), fun h => h2.c6 h, fun h => h2.c9 h, fun h => h2.c12 h, fun h => h2.c13 h, fun h => h2.c14 h, fun h => h2.a15 h⟩
    refine stepsI_cons [2, 5] [9, 12, 13, 14, 16] [(2, 11), (5, 14)] rfl (by kernel_rfl) (by kernel_rfl) (by kernel_rfl) (fun K l V x hx hl hds hn hI hK => ?_) ?_
    · simp only [putsP]
      go_simp
      have hsx : W.heap.size ≤ x.heap.size := by rw [HS9.out]; exact hx.size
      refine (Less_any _ _ (V 2) (V 5) _ (hI.c2 hl.1) (hI.c5 hl.2.1) sr2.out sp2.out).mono ?_
      rintro e w9 ⟨v9, rfl, hq9, hb9⟩
      refine ⟨_, rfl, hK _ _ (hb9.mono hsx) ?_⟩
      have h2 := hI.below hb9 hsx
      exact ⟨h2.b, fun h => h2.c2 h, fun h => h2.c5 h, fun _ => hq9.mono (Nat.zero_le _), fun h => h2.c9 h, fun h => h2.c12 h, fun h => h2.c13 h, fun h => h2.c14 h, fun h => h2.a15 h⟩
    refine stepsI_cons [2, 5, 6] [12, 13, 14, 16] [(2, 11), (5, 14), (6, 15)] rfl (by kernel_rfl) (by kernel_rfl) (by kernel_rfl) (fun K l V x hx hl hds hn hI hK => ?_) ?_
    · simp only [putsP]
      go_simp
      have hsx : W.heap.size ≤ x.heap.size := by rw [HS9.out]; exact hx.size
      refine (Oq1.out _).mono ?_
      rintro e w9 ⟨v9, rfl, hq9, hb9⟩
      refine ⟨_, rfl, hK _ _ (hb9.mono hsx) ?_⟩
      have h2 := hI.below hb9 hsx
      exact ⟨h2.b, fun h => h2.c2 h, fun h => h2.c5 h, fun h => h2.c6 h, fun _ => hq9.mono (Nat.zero_le _), fun h => h2.c12 h, fun h => h2.c13 h, fun h => h2.c14 h, fun h => h2.a15 h⟩
    refine stepsI_cons [2, 5, 6, 9] [13, 14, 16] [(2, 11), (5, 14), (6, 15), (9, 18)] rfl (by kernel_rfl) (by kernel_rfl) (by kernel_rfl) (fun K l V x hx hl hds hn hI hK => ?_) ?_
    · simp only [putsP]
      go_simp
      have hsx : W.heap.size ≤ x.heap.size := by rw [HS9.out]; exact hx.size
      refine (Op1.out _).mono ?_
      rintro e w9 ⟨v9, rfl, hq9, hb9⟩
      refine ⟨_, rfl, hK _ _ (hb9.mono hsx) ?_⟩
      have h2 := hI.below hb9 hsx
      exact ⟨h2.b, fun h => h2.c2 h, fun h => h2.c5 h, fun h => h2.c6 h, fun h => h2.c9 h, fun _ => hq9.mono (Nat.zero_le _), fun h => h2.c13 h, fun h => h2.c14 h, fun h => h2.a15 h⟩
    refine stepsI_cons [2, 5, 6, 9, 12] [14, 16] [(2, 11), (5, 14), (6, 15), (9, 18), (12, 21)] rfl (by kernel_rfl) (by kernel_rfl) (by kernel_rfl) (fun K l V x hx hl hds hn hI hK => ?_) ?_
    · simp only [putsP]
      go_simp
      have hsx : W.heap.size ≤ x.heap.size := by rw [HS9.out]; exact hx.size
      refine (Less_any _ _ (V 9) (V 12) _ (hI.c9 hl.2.2.2.1) (hI.c12 hl.2.2.2.2.1) sq1.out sp1.out).mono ?_
      rintro e w9 ⟨v9, rfl, hq9, hb9⟩
      refine ⟨_, rfl, hK _ _ (hb9.mono hsx) ?_⟩
      have h2 := hI.below hb9 hsx
      exact ⟨h2.b, fun h => h2.c2 h, fun h => h2.c5 h, fun h => h2.c6 h, fun h => h2.c9 h, fun h => h2.c12 h, fun _ => hq9.mono (Nat.zero_le _), fun h => h2.c14 h, fun h => h2.a15 h⟩
    refine stepsI_cons [2, 5, 6, 9, 12, 13] [16] [(2, 11), (5, 14), (6, 15), (9, 18), (12, 21), (13, 22)] rfl (by kernel_rfl) (by kernel_rfl) (by kernel_rfl) (fun K l V x hx hl hds hn hI hK => ?_) ?_
    · simp only [putsP]
      go_simp
      have hsx : W.heap.size ≤ x.heap.size := by rw [HS9.out]; exact hx.size
      refine (Times_any _ _ (V 6) (V 13) _ (hI.c6 hl.2.2.1) (hI.c13 hl.2.2.2.2.2.1) s5a.out s5b.out).mono ?_
      rintro e w9 ⟨v9, rfl, hq9, hb9⟩
      refine ⟨_, rfl, hK _ _ (hb9.mono hsx) ?_⟩
      have h2 := hI.below hb9 hsx
      exact ⟨h2.b, fun h => h2.c2 h, fun h => h2.c5 h, fun h => h2.c6 h, fun h => h2.c9 h, fun h => h2.c12 h, fun h => h2.c13 h, fun _ => hq9.mono (Nat.zero_le _), fun h => h2.a15 h⟩
    refine stepsI_cons [] [16] [] rfl (by kernel_rfl) (by kernel_rfl) (by kernel_rfl) (fun K l V x hx hl hds hn hI hK => ?_) ?_
    · go_simp
      have hsx : W.heap.size ≤ x.heap.size := by rw [HS9.out]; exact hx.size
      have hb9 := alloc_below x (.cells #[.bool false, .slice none 0 0, .slice none 0 0] 43)
      refine hK _ _ (hb9.mono hsx) ?_
      have h2 := hI.below hb9 hsx
      refine ⟨h2.b, fun h => h2.c2 h, fun h => h2.c5 h, fun h => h2.c6 h, fun h => h2.c9 h, fun h => h2.c12 h, fun h => h2.c13 h, fun h => h2.c14 h, fun _ => ⟨x.heap.size, false, none, 0, 0, none, 0, 0, rfl, hsx, Blk.new x _ _, fun h => ?_⟩⟩
      have h3 : l 16 = true := h
      rw [hds.1] at h3
      cases h3
    refine stepsI_cons [2, 5, 6, 9, 12, 13, 14, 15] [] [(2, 11), (5, 14), (6, 15), (9, 18), (12, 21), (13, 22), (14, 23), (15, 7)] rfl (by kernel_rfl) (by kernel_rfl) (by kernel_rfl) (fun K l V x hx hl hds hn hI hK => ?_) ?_
    · simp only [putsP]
      obtain ⟨g, b', a1, n1, c1, a2, n2, c2, e1, e2, e3, -⟩ := hI.a15 hl.2.2.2.2.2.2.2.1
      obtain ⟨y1, y2, y3, y4, y5, y6, hv⟩ := q_shape (hI.c14 hl.2.2.2.2.2.2.1)
      have hb9 := row_below (Below.refl W.heap.size x) e2 #[.bool (decide (((((r.2 - p.2) * (q.1 - p.1)) : Rat)).num < 0)), .slice y1 y2 y3, .slice y4 y5 y6]
      refine ⟨rfl, gives_store_row 43 (.tmp 7) (.tmp 23) rfl g #[.bool (decide (((((r.2 - p.2) * (q.1 - p.1)) : Rat)).num < 0)), .slice y1 y2 y3, .slice y4 y5 y6] ?hx ?hy 43 _ e3 pinfoQ rfl (by simp [Value.oneCell']) (hK _ _ hb9 ?_)⟩
      case hx => rw [← e1]; go_simp
      case hy => rw [← hv]; go_simp
      refine ⟨hI.b.trans hb9, fun h => q_row (hI.c2 h) e3 _, fun h => q_row (hI.c5 h) e3 _, fun h => q_row (hI.c6 h) e3 _, fun h => q_row (hI.c9 h) e3 _, fun h => q_row (hI.c12 h) e3 _, fun h => q_row (hI.c13 h) e3 _, fun h => q_row (hI.c14 h) e3 _, fun _ => ⟨g, _, y1, y2, y3, y4, y5, y6, e1, e2, row_blk e3, fun _ => ?_⟩⟩
      have h4 := q_row (hI.c14 hl.2.2.2.2.2.2.1) e3 #[.bool (decide (((((r.2 - p.2) * (q.1 - p.1)) : Rat)).num < 0)), .slice y1 y2 y3, .slice y4 y5 y6]
      rw [hv] at h4
      exact h4
    exact stepsI_nil
  intro V W2 hW2 hI
  obtain ⟨B7, j1, j2, j3, j4, j5, j6, j7, e7, g1, k7, q7⟩ := hI.a15 rfl
  have Q1 : Hid (QBox W2 B7 ((((r.2 - p.2) * (q.1 - p.1)) : Rat))) := hid (RBox.q ⟨k7, q7 rfl⟩)
  have hb1 := hI.b
  obtain ⟨v2, e2⟩ : ∃ v, V 2 = v := ⟨_, rfl⟩
  obtain ⟨v5, e5⟩ : ∃ v, V 5 = v := ⟨_, rfl⟩
  obtain ⟨v6, e6⟩ : ∃ v, V 6 = v := ⟨_, rfl⟩
  obtain ⟨v9, e9⟩ : ∃ v, V 9 = v := ⟨_, rfl⟩
  obtain ⟨v12, e12⟩ : ∃ v, V 12 = v := ⟨_, rfl⟩
  obtain ⟨v13, e13⟩ : ∃ v, V 13 = v := ⟨_, rfl⟩
  obtain ⟨v14, e14⟩ : ∃ v, V 14 = v := ⟨_, rfl⟩
  simp only [putsP, e7, e2, e5, e6, e9, e12, e13, e14]
  clear hI q7 k7 e7 hW2 hd0 HS9 e2 e5 e6 e9 e12 e13 e14
  go_simp
  have k02 := k0.below hb1
  have k12 := k1.below hb1
  have k22 := k2.below hb1
  clear k0 k1 k2
  go_wp2_with fail
  have hd0 := (Below.refl W2.heap.size W2).drew
  have z0 := fun y : SubT (Below W2.heap.size) W2.drew => (k02.below (hd0.trans y.b)).look 0 rfl
  have z1 := fun y : SubT (Below W2.heap.size) W2.drew => (k02.below (hd0.trans y.b)).look 1 rfl
  have z2 := fun y : SubT (Below W2.heap.size) W2.drew => (k02.below (hd0.trans y.b)).look 2 rfl
  have z3 := fun y : SubT (Below W2.heap.size) W2.drew => (k02.below (hd0.trans y.b)).look 3 rfl
  have z4 := fun y : SubT (Below W2.heap.size) W2.drew => (k12.below (hd0.trans y.b)).look 0 rfl
  have z5 := fun y : SubT (Below W2.heap.size) W2.drew => (k12.below (hd0.trans y.b)).look 1 rfl
  have z6 := fun y : SubT (Below W2.heap.size) W2.drew => (k12.below (hd0.trans y.b)).look 2 rfl
  have z7 := fun y : SubT (Below W2.heap.size) W2.drew => (k12.below (hd0.trans y.b)).look 3 rfl
  have z8 := fun y : SubT (Below W2.heap.size) W2.drew => (k22.below (hd0.trans y.b)).look 0 rfl
  have z9 := fun y : SubT (Below W2.heap.size) W2.drew => (k22.below (hd0.trans y.b)).look 1 rfl
  have z10 := fun y : SubT (Below W2.heap.size) W2.drew => (k22.below (hd0.trans y.b)).look 2 rfl
  have z11 := fun y : SubT (Below W2.heap.size) W2.drew => (k22.below (hd0.trans y.b)).look 3 rfl
  refine wp_walkJ (T := Below (W2.heap.size)) (belowV_pre _) (.rd 0 (.rd 1 (.rd 3 (.rd 4 (.rd 7 (.rd 8 (.rd 10 (.rd 11 (.inv [2, 5, 6, 9, 12, 13, 14, 15, 16]))))))))) (by kernel_rfl) rfl (by kernel_rfl) (by kernel_rfl) ?_
  iterate 8 (refine walkJ_rd rfl (fun K hK => ?_); go_simp; refine hK _ ?_; clear hK K)
  clear z0 z1 z2 z3 z4 z5 z6 z7 z8 z9 z10 z11
  obtain ⟨Wd, hWd⟩ : ∃ Wd, W2.drew = Wd := ⟨_, rfl⟩
  have hs9 : W2.heap.size = Wd.heap.size := by rw [← hWd]; rfl
  rw [hWd] at hd0 ⊢
  clear hWd
  have HS9 := hid hs9
  clear hs9
  refine walkJ_inv (AbvI W2.heap.size W2 q.2 p.2 (q.2 - p.2) r.1 p.1 (r.1 - p.1) ((q.2 - p.2) * (r.1 - p.1))) [(2, 26), (5, 29), (6, 30), (9, 33), (12, 36), (13, 37), (14, 38), (15, 8)] (by kernel_rfl) ?_ ?_ ?_
  · exact ⟨hd0, fun h => (by cases h), fun h => (by cases h), fun h => (by cases h), fun h => (by cases h), fun h => (by cases h), fun h => (by cases h), fun h => (by cases h), fun h => (by cases h)⟩
  · refine stepsI_cons [] [5, 6, 9, 12, 13, 14, 16] [] rfl (by kernel_rfl) (by kernel_rfl) (by kernel_rfl) (fun K l V x hx hl hds hn hI hK => ?_) ?_
    · simp only [putsP]
      go_simp
      have hsx : W2.heap.size ≤ x.heap.size := by rw [HS9.out]; exact hx.size
      refine (Oq2.out _).mono ?_
      rintro e w9 ⟨v9, rfl, hq9, hb9⟩
      refine ⟨_, rfl, hK _ _ (hb9.mono hsx) ?_⟩
      have h2 := hI.below hb9 hsx
      exact ⟨h2.b, fun _ => hq9.mono (Nat.zero_le _), fun h => h2.c5 h, fun h => h2.c6 h, fun h => h2.c9 h, fun h => h2.c12 h, fun h => h2.c13 h, fun h => h2.c14 h, fun h => h2.a15 h⟩
    refine stepsI_cons [2] [6, 9, 12, 13, 14, 16] [(2, 26)] rfl (by kernel_rfl) (by kernel_rfl) (by kernel_rfl) (fun K l V x hx hl hds hn hI hK => ?_) ?_
    · simp only [putsP]
      go_simp
      have hsx : W2.heap.size ≤ x.heap.size := by rw [HS9.out]; exact hx.size
      refine (Op2.out _).mono ?_
      rintro e w9 ⟨v9, rfl, hq9, hb9⟩
      refine ⟨_, rfl, hK _ _ (hb9.mono hsx) ?_⟩
      have h2 := hI.below hb9 hsx
      exact ⟨h2.b, fun h => h2.c2 h, fun _ => hq9.mono (Nat.zero_le _), fun h => h2.c6 h, fun h => h2.c9 h, fun h => h2.c12 h, fun h => h2.c13 h, fun h => h2.c14 h, fun h => h2.a15 h⟩
    refine stepsI_cons [2, 5] [9, 12, 13, 14, 16] [(2, 26), (5, 29)] rfl (by kernel_rfl) (by kernel_rfl) (by kernel_rfl) (fun K l V x hx hl hds hn hI hK => ?_) ?_
    · simp only [putsP]
      go_simp
      have hsx : W2.heap.size ≤ x.heap.size := by rw [HS9.out]; exact hx.size
      refine (Less_any _ _ (V 2) (V 5) _ (hI.c2 hl.1) (hI.c5 hl.2.1) sq2.out sp2.out).mono ?_
      rintro e w9 ⟨v9, rfl, hq9, hb9⟩
      refine ⟨_, rfl, hK _ _ (hb9.mono hsx) ?_⟩
      have h2 := hI.below hb9 hsx
      exact ⟨h2.b, fun h => h2.c2 h, fun h => h2.c5 h, fun _ => hq9.mono (Nat.zero_le _), fun h => h2.c9 h, fun h => h2.c12 h, fun h => h2.c13 h, fun h => h2.c14 h, fun h => h2.a15 h⟩
    refine stepsI_cons [2, 5, 6] [12, 13, 14, 16] [(2, 26), (5, 29), (6, 30)] rfl (by kernel_rfl) (by kernel_rfl) (by kernel_rfl) (fun K l V x hx hl hds hn hI hK => ?_) ?_
    · simp only [putsP]
      go_simp
      have hsx : W2.heap.size ≤ x.heap.size := by rw [HS9.out]; exact hx.size
      refine (Or1.out _).mono ?_
      rintro e w9 ⟨v9, rfl, hq9, hb9⟩
      refine ⟨_, rfl, hK _ _ (hb9.mono hsx) ?_⟩
      have h2 := hI.below hb9 hsx
      exact ⟨h2.b, fun h => h2.c2 h, fun h => h2.c5 h, fun h => h2.c6 h, fun _ => hq9.mono (Nat.zero_le _), fun h => h2.c12 h, fun h => h2.c13 h, fun h => h2.c14 h, fun h => h2.a15 h⟩
    refine stepsI_cons [2, 5, 6, 9] [13, 14, 16] [(2, 26), (5, 29), (6, 30), (9, 33)] rfl (by kernel_rfl) (by kernel_rfl) (by kernel_rfl) (fun K l V x hx hl hds hn hI hK => ?_) ?_
    · simp only [putsP]
      go_simp
      have hsx : W2.heap.size ≤ x.heap.size := by rw [HS9.out]; exact hx.size
      refine (Op1.out _).mono ?_
      rintro e w9 ⟨v9, rfl, hq9, hb9⟩
      refine ⟨_, rfl, hK _ _ (hb9.mono hsx) ?_⟩
      have h2 := hI.below hb9 hsx
      exact ⟨h2.b, fun h => h2.c2 h, fun h => h2.c5 h, fun h => h2.c6 h, fun h => h2.c9 h, fun _ => hq9.mono (Nat.zero_le _), fun h => h2.c13 h, fun h => h2.c14 h, fun h => h2.a15 h⟩
    refine stepsI_cons [2, 5, 6, 9, 12] [14, 16] [(2, 26), (5, 29), (6, 30), (9, 33), (12, 36)] rfl (by kernel_rfl) (by kernel_rfl) (by kernel_rfl) (fun K l V x hx hl hds hn hI hK => ?_) ?_
    · simp only [putsP]
      go_simp
      have hsx : W2.heap.size ≤ x.heap.size := by rw [HS9.out]; exact hx.size
      refine (Less_any _ _ (V 9) (V 12) _ (hI.c9 hl.2.2.2.1) (hI.c12 hl.2.2.2.2.1) sr1.out sp1.out).mono ?_
      rintro e w9 ⟨v9, rfl, hq9, hb9⟩
      refine ⟨_, rfl, hK _ _ (hb9.mono hsx) ?_⟩
      have h2 := hI.below hb9 hsx
      exact ⟨h2.b, fun h => h2.c2 h, fun h => h2.c5 h, fun h => h2.c6 h, fun h => h2.c9 h, fun h => h2.c12 h, fun _ => hq9.mono (Nat.zero_le _), fun h => h2.c14 h, fun h => h2.a15 h⟩
    refine stepsI_cons [2, 5, 6, 9, 12, 13] [16] [(2, 26), (5, 29), (6, 30), (9, 33), (12, 36), (13, 37)] rfl (by kernel_rfl) (by kernel_rfl) (by kernel_rfl) (fun K l V x hx hl hds hn hI hK => ?_) ?_
    · simp only [putsP]
      go_simp
      have hsx : W2.heap.size ≤ x.heap.size := by rw [HS9.out]; exact hx.size
      refine (Times_any _ _ (V 6) (V 13) _ (hI.c6 hl.2.2.1) (hI.c13 hl.2.2.2.2.2.1) s6a.out s6b.out).mono ?_
      rintro e w9 ⟨v9, rfl, hq9, hb9⟩
      refine ⟨_, rfl, hK _ _ (hb9.mono hsx) ?_⟩
      have h2 := hI.below hb9 hsx
      exact ⟨h2.b, fun h => h2.c2 h, fun h => h2.c5 h, fun h => h2.c6 h, fun h => h2.c9 h, fun h => h2.c12 h, fun h => h2.c13 h, fun _ => hq9.mono (Nat.zero_le _), fun h => h2.a15 h⟩
    refine stepsI_cons [] [16] [] rfl (by kernel_rfl) (by kernel_rfl) (by kernel_rfl) (fun K l V x hx hl hds hn hI hK => ?_) ?_
    · go_simp
      have hsx : W2.heap.size ≤ x.heap.size := by rw [HS9.out]; exact hx.size
      have hb9 := alloc_below x (.cells #[.bool false, .slice none 0 0, .slice none 0 0] 43)
      refine hK _ _ (hb9.mono hsx) ?_
      have h2 := hI.below hb9 hsx
      refine ⟨h2.b, fun h => h2.c2 h, fun h => h2.c5 h, fun h => h2.c6 h, fun h => h2.c9 h, fun h => h2.c12 h, fun h => h2.c13 h, fun h => h2.c14 h, fun _ => ⟨x.heap.size, false, none, 0, 0, none, 0, 0, rfl, hsx, Blk.new x _ _, fun h => ?_⟩⟩
      have h3 : l 16 = true := h
      rw [hds.1] at h3
      cases h3
    refine stepsI_cons [2, 5, 6, 9, 12, 13, 14, 15] [] [(2, 26), (5, 29), (6, 30), (9, 33), (12, 36), (13, 37), (14, 38), (15, 8)] rfl (by kernel_rfl) (by kernel_rfl) (by kernel_rfl) (fun K l V x hx hl hds hn hI hK => ?_) ?_
    · simp only [putsP]
      obtain ⟨g, b', a1, n1, c1, a2, n2, c2, e1, e2, e3, -⟩ := hI.a15 hl.2.2.2.2.2.2.2.1
      obtain ⟨y1, y2, y3, y4, y5, y6, hv⟩ := q_shape (hI.c14 hl.2.2.2.2.2.2.1)
      have hb9 := row_below (Below.refl W2.heap.size x) e2 #[.bool (decide (((((q.2 - p.2) * (r.1 - p.1)) : Rat)).num < 0)), .slice y1 y2 y3, .slice y4 y5 y6]
      refine ⟨rfl, gives_store_row 43 (.tmp 8) (.tmp 38) rfl g #[.bool (decide (((((q.2 - p.2) * (r.1 - p.1)) : Rat)).num < 0)), .slice y1 y2 y3, .slice y4 y5 y6] ?hx ?hy 43 _ e3 pinfoQ rfl (by simp [Value.oneCell']) (hK _ _ hb9 ?_)⟩
      case hx => rw [← e1]; go_simp
      case hy => rw [← hv]; go_simp
      refine ⟨hI.b.trans hb9, fun h => q_row (hI.c2 h) e3 _, fun h => q_row (hI.c5 h) e3 _, fun h => q_row (hI.c6 h) e3 _, fun h => q_row (hI.c9 h) e3 _, fun h => q_row (hI.c12 h) e3 _, fun h => q_row (hI.c13 h) e3 _, fun h => q_row (hI.c14 h) e3 _, fun _ => ⟨g, _, y1, y2, y3, y4, y5, y6, e1, e2, row_blk e3, fun _ => ?_⟩⟩
      have h4 := q_row (hI.c14 hl.2.2.2.2.2.2.1) e3 #[.bool (decide (((((q.2 - p.2) * (r.1 - p.1)) : Rat)).num < 0)), .slice y1 y2 y3, .slice y4 y5 y6]
      rw [hv] at h4
      exact h4
    exact stepsI_nil
  intro V W3 hW2 hI
  obtain ⟨B8, j1, j2, j3, j4, j5, j6, j7, e7, g2, k7, q7⟩ := hI.a15 rfl
  have Q2 : Hid (QBox W3 B8 ((((q.2 - p.2) * (r.1 - p.1)) : Rat))) := hid (RBox.q ⟨k7, q7 rfl⟩)
  have hb2 := hI.b
  obtain ⟨v2, e2⟩ : ∃ v, V 2 = v := ⟨_, rfl⟩
  obtain ⟨v5, e5⟩ : ∃ v, V 5 = v := ⟨_, rfl⟩
  obtain ⟨v6, e6⟩ : ∃ v, V 6 = v := ⟨_, rfl⟩
  obtain ⟨v9, e9⟩ : ∃ v, V 9 = v := ⟨_, rfl⟩
  obtain ⟨v12, e12⟩ : ∃ v, V 12 = v := ⟨_, rfl⟩
  obtain ⟨v13, e13⟩ : ∃ v, V 13 = v := ⟨_, rfl⟩
  obtain ⟨v14, e14⟩ : ∃ v, V 14 = v := ⟨_, rfl⟩
  simp only [putsP, e7, e2, e5, e6, e9, e12, e13, e14]
  clear hI q7 k7 e7 hW2 hd0 HS9 e2 e5 e6 e9 e12 e13 e14
  go_simp
  have Q13 := Q1.out.below hb2
  have hbW := HB.out.trans ((hb1.trans (hb2.mono hb1.size)).mono HB.out.size)
  obtain ⟨b7, y1, m1, d1, y2, m2, d2, R7⟩ := Q13
  obtain ⟨b8, y1', m1', d1', y2', m2', d2', R8⟩ := Q2.out
  have OR := hid (Order_any _ _ _ _ W3 R8.qf R7.qf s8.out s7.out)
  obtain ⟨zo, hzo⟩ : ∃ z, sgnQ ((q.2 - p.2) * (r.1 - p.1) - (r.2 - p.2) * (q.1 - p.1)) = z := ⟨_, rfl⟩
  have hres : decide ((q.2 - p.2) * (r.1 - p.1) < (r.2 - p.2) * (q.1 - p.1)) = decide (zo < 0) := by
    rw [decide_eq_decide, ← hzo]
    unfold sgnQ
    by_cases h1 : (q.2 - p.2) * (r.1 - p.1) - (r.2 - p.2) * (q.1 - p.1) < 0
    · rw [if_pos h1]
      exact ⟨fun _ => by decide, fun _ => by grind⟩
    · rw [if_neg h1]
      by_cases h2 : (q.2 - p.2) * (r.1 - p.1) - (r.2 - p.2) * (q.1 - p.1) = 0
      · rw [if_pos h2]
        exact ⟨fun h => by exfalso; grind, fun h => by cases h⟩
      · rw [if_neg h2]
        exact ⟨fun h => by exfalso; grind, fun h => by cases h⟩
  rw [hzo] at OR
  have HRES := hid hres
  have z0 := R7.k.look 0 rfl
  have z1 := R7.k.look 1 rfl
  have z2 := R7.k.look 2 rfl
  have z3 := R8.k.look 0 rfl
  have z4 := R8.k.look 1 rfl
  have z5 := R8.k.look 2 rfl
  clear hres hzo R7 R8 Q1 Q2 k02 k12 k22
  go_wp2_with fail
  refine OR.out.mono ?_
  rintro e w4 ⟨rfl, hb4⟩
  have hb4' := hbW.trans (hb4.mono hbW.size)
  clear hb4 z0 z1 z2 z3 z4 z5
  go_wp2
  go_ret
  exact ⟨by rw [HRES.out]; first | rfl | (congr 2; done) | simp, hb4'⟩

end Go.Proofs.YtfkclcoipadhmaaDoor
