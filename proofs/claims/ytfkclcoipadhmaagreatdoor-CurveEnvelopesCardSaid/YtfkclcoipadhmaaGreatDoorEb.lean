/- Walk of trankref02.Valid, at any points. -/
import Derived.Test.YtfkclcoipadhmaaGreatDoorDy
import Derived.Test.YtfkclcoipadhmaaGreatDoorEa
namespace Go.Proofs.YtfkclcoipadhmaaGreatDoor
open Go.RowKit
attribute [local irreducible] seqS seqST walkV walkJ

theorem nought_any (w : World) : Calls Tryz.prog 69 #[] w fun r w' => r = .returned (.agg #[.int .i64 0, .int .i64 1]) ∧ Below w.heap.size w w' := by
  have b0 := alloc_below w (.cells #[.int .i64 0, .int .i64 1] 31)
  go_enter Tryz.func69, Tryz.ntmps69
  go_wp2
  refine bodyPost_ret (v := .agg #[.int .i64 0, .int .i64 1]) ?_ rfl ⟨rfl, b0⟩
  simp [results, Tryz.results69, go_sem]
theorem rorder_raw {a b c e : Int} (h : FV a b) (k : FV c e) (w : World) :
    Calls Tryz.prog 58 #[.agg #[.int .i64 a, .int .i64 b], .agg #[.int .i64 c, .int .i64 e]] w fun r w' => r = .returned (.int .i64 (cmpQ (vq (a, b)) (vq (c, e)))) ∧ Below w.heap.size w w' := by
  have := rorder_any (vq (a, b)) (vq (c, e)) (vq_fits h) (vq_fits k) w
  rwa [frQ_vq h, frQ_vq k] at this

set_option maxHeartbeats 8000000 in
set_option maxRecDepth 100000 in
theorem r2Valid_any (c : List P4) (v : Value) (w : World) (h : P4R 0 w v c) :
    Calls Tryz.prog 41 #[v] w fun r w' => r = .returned (.bool (decide (RV c))) ∧ Below w.heap.size w w' := by
  obtain ⟨ao, cap, rfl, hcap, hmax, hc⟩ := h
  unfold maxLen at hmax
  obtain ⟨res, hres⟩ : ∃ b, decide (RV c) = b := ⟨_, rfl⟩
  rw [hres]
  have HR := hid hres
  obtain ⟨L, hL⟩ : ∃ L, c.length = L := ⟨_, rfl⟩
  have HL := hid hL
  rw [hL] at hcap ⊢
  clear hres hL
  go_enter Tryz.func41, Tryz.ntmps41
  go_wp2_with fail
  have hd := (Below.refl w.heap.size w).drew
  have hB4 := hd
  by_cases h2 : L < 2
  · have h48 : ¬ (48 : Int) < (L : Int) := by omega
    have h2i : (L : Int) < 2 := by omega
    refine wp_walkJ (T := Below (w.heap.size)) (belowV_pre _) (.rd 0 (.rd 1 (.rd 2 (.rd 3 (.rd 4 (.rd 5 (.rd 6 (.rd 7 (.rd 8 (.rd 9 (.rd 10 (.rd 11 (.mv 12 (.mv 13 (.rd 14 (.rd 15 (.rd 16 (.inv [])))))))))))))))))) (by kernel_rfl) rfl (by kernel_rfl) (by kernel_rfl) ?_
    iterate 12 (refine walkJ_rd rfl (fun K hK => ?_); go_simp; refine hK _ ?_; clear hK K)
    (refine walkJ_sk rfl (fun K hK => ?_); go_simp; refine hK _ ?_; clear hK K)
    (refine walkJ_sk rfl (fun K hK => ?_); go_simp; refine hK _ ?_; clear hK K)
    iterate 3 (refine walkJ_rd rfl (fun K hK => ?_); go_simp; refine hK _ ?_; clear hK K)
    refine walkJ_nil ?_
    go_wp2
    go_ret
    refine ⟨ret_bool ?_, by first | assumption | exact hB4⟩
    rw [← HR.out]; symm
    rw [decide_eq_false_iff_not]
    intro hh
    have := hh.1
    have := HL.out
    omega
  have h2i : ¬ (L : Int) < 2 := by omega
  by_cases h48 : 48 < L
  · have h48i : (48 : Int) < (L : Int) := by omega
    refine wp_walkJ (T := Below (w.heap.size)) (belowV_pre _) (.rd 0 (.rd 1 (.rd 2 (.rd 3 (.rd 4 (.rd 5 (.rd 6 (.rd 7 (.rd 8 (.rd 9 (.rd 10 (.rd 11 (.mv 12 (.mv 13 (.rd 14 (.rd 15 (.rd 16 (.inv [])))))))))))))))))) (by kernel_rfl) rfl (by kernel_rfl) (by kernel_rfl) ?_
    iterate 12 (refine walkJ_rd rfl (fun K hK => ?_); go_simp; refine hK _ ?_; clear hK K)
    (refine walkJ_sk rfl (fun K hK => ?_); go_simp; refine hK _ ?_; clear hK K)
    (refine walkJ_sk rfl (fun K hK => ?_); go_simp; refine hK _ ?_; clear hK K)
    iterate 3 (refine walkJ_rd rfl (fun K hK => ?_); go_simp; refine hK _ ?_; clear hK K)
    refine walkJ_nil ?_
    go_wp2
    go_ret
    refine ⟨ret_bool ?_, by first | assumption | exact hB4⟩
    rw [← HR.out]; symm
    rw [decide_eq_false_iff_not]
    intro hh
    have := hh.2.1
    have := HL.out
    omega
  have h48i : ¬ (48 : Int) < (L : Int) := by omega
  obtain ⟨⟨⟨pa, pb⟩, ⟨pc, pd⟩⟩, hp0⟩ : ∃ p : P4, c.getD 0 z4 = p := ⟨_, rfl⟩
  have HP0 := hid hp0
  obtain ⟨b, off, rfl, hb, e0, e1, e2, e3⟩ := p4_cell hc (show 0 < c.length by rw [HL.out]; omega)
  rw [hp0] at e0 e1 e2 e3
  simp only [Nat.zero_mul, Nat.add_zero] at e0 e1 e2 e3
  clear hp0
  have hL0 : 0 < L := by omega
  have x0 := fun x : SubT (Below w.heap.size) w.drew => ((hd.trans x.b).cell (p := ⟨b, off, none⟩) hb).trans e0
  have x1 := fun x : SubT (Below w.heap.size) w.drew => ((hd.trans x.b).cell (p := ⟨b, off + 1, none⟩) hb).trans e1
  have x2 := fun x : SubT (Below w.heap.size) w.drew => ((hd.trans x.b).cell (p := ⟨b, off + 2, none⟩) hb).trans e2
  have x3 := fun x : SubT (Below w.heap.size) w.drew => ((hd.trans x.b).cell (p := ⟨b, off + 3, none⟩) hb).trans e3
  clear e0 e1 e2 e3
  by_cases ha : pa = 0
  case neg =>
    have ha' : ¬ 0 = pa := fun h => ha h.symm
    refine wp_walkJ (T := Below (w.heap.size)) (belowV_pre _) (.rd 0 (.rd 1 (.rd 2 (.rd 3 (.rd 4 (.rd 5 (.rd 6 (.rd 7 (.rd 8 (.rd 9 (.rd 10 (.rd 11 (.mv 12 (.mv 13 (.rd 14 (.rd 15 (.rd 16 (.inv [])))))))))))))))))) (by kernel_rfl) rfl (by kernel_rfl) (by kernel_rfl) ?_
    iterate 12 (refine walkJ_rd rfl (fun K hK => ?_); go_simp; refine hK _ ?_; clear hK K)
    (refine walkJ_mv rfl (fun K hK => ?_); go_simp; refine (nought_any _).mono ?_; rintro r w3 ⟨rfl, hb3⟩; refine ⟨_, rfl, hK _ _ hb3 ?_⟩; clear hK K)
    (refine walkJ_mv rfl (fun K hK => ?_); go_simp; refine (nought_any _).mono ?_; rintro r w4 ⟨rfl, hb4⟩; refine ⟨_, rfl, hK _ _ (hb4.mono (show w.heap.size ≤ w3.heap.size from hb3.size)) ?_⟩; clear hK K)
    have hB4 : Below w.heap.size w w4 := (hd.trans hb3).trans (hb4.mono hb3.size)
    clear hb3 hb4
    iterate 3 (refine walkJ_rd rfl (fun K hK => ?_); go_simp; refine hK _ ?_; clear hK K)
    refine walkJ_nil ?_
    clear x0 x1 x2 x3
    go_wp2
    go_ret
    refine ⟨ret_bool ?_, by first | assumption | exact hB4⟩
    rw [← HR.out]; symm
    rw [decide_eq_false_iff_not]
    intro hh
    have h3 := hh.2.2.1
    rw [HP0.out] at h3
    simp only [Prod.mk.injEq] at h3
    omega
  by_cases hb1 : pb = 1
  case neg =>
    have ha' : ¬ 1 = pb := fun h => hb1 h.symm
    refine wp_walkJ (T := Below (w.heap.size)) (belowV_pre _) (.rd 0 (.rd 1 (.rd 2 (.rd 3 (.rd 4 (.rd 5 (.rd 6 (.rd 7 (.rd 8 (.rd 9 (.rd 10 (.rd 11 (.mv 12 (.mv 13 (.rd 14 (.rd 15 (.rd 16 (.inv [])))))))))))))))))) (by kernel_rfl) rfl (by kernel_rfl) (by kernel_rfl) ?_
    iterate 12 (refine walkJ_rd rfl (fun K hK => ?_); go_simp; refine hK _ ?_; clear hK K)
    (refine walkJ_mv rfl (fun K hK => ?_); go_simp; refine (nought_any _).mono ?_; rintro r w3 ⟨rfl, hb3⟩; refine ⟨_, rfl, hK _ _ hb3 ?_⟩; clear hK K)
    (refine walkJ_mv rfl (fun K hK => ?_); go_simp; refine (nought_any _).mono ?_; rintro r w4 ⟨rfl, hb4⟩; refine ⟨_, rfl, hK _ _ (hb4.mono (show w.heap.size ≤ w3.heap.size from hb3.size)) ?_⟩; clear hK K)
    have hB4 : Below w.heap.size w w4 := (hd.trans hb3).trans (hb4.mono hb3.size)
    clear hb3 hb4
    iterate 3 (refine walkJ_rd rfl (fun K hK => ?_); go_simp; refine hK _ ?_; clear hK K)
    refine walkJ_nil ?_
    clear x0 x1 x2 x3
    go_wp2
    go_ret
    refine ⟨ret_bool ?_, by first | assumption | exact hB4⟩
    rw [← HR.out]; symm
    rw [decide_eq_false_iff_not]
    intro hh
    have h3 := hh.2.2.1
    rw [HP0.out] at h3
    simp only [Prod.mk.injEq] at h3
    omega
  by_cases hc1 : pc = 0
  case neg =>
    have ha' : ¬ 0 = pc := fun h => hc1 h.symm
    refine wp_walkJ (T := Below (w.heap.size)) (belowV_pre _) (.rd 0 (.rd 1 (.rd 2 (.rd 3 (.rd 4 (.rd 5 (.rd 6 (.rd 7 (.rd 8 (.rd 9 (.rd 10 (.rd 11 (.mv 12 (.mv 13 (.rd 14 (.rd 15 (.rd 16 (.inv [])))))))))))))))))) (by kernel_rfl) rfl (by kernel_rfl) (by kernel_rfl) ?_
    iterate 12 (refine walkJ_rd rfl (fun K hK => ?_); go_simp; refine hK _ ?_; clear hK K)
    (refine walkJ_mv rfl (fun K hK => ?_); go_simp; refine (nought_any _).mono ?_; rintro r w3 ⟨rfl, hb3⟩; refine ⟨_, rfl, hK _ _ hb3 ?_⟩; clear hK K)
    (refine walkJ_mv rfl (fun K hK => ?_); go_simp; refine (nought_any _).mono ?_; rintro r w4 ⟨rfl, hb4⟩; refine ⟨_, rfl, hK _ _ (hb4.mono (show w.heap.size ≤ w3.heap.size from hb3.size)) ?_⟩; clear hK K)
    have hB4 : Below w.heap.size w w4 := (hd.trans hb3).trans (hb4.mono hb3.size)
    clear hb3 hb4
    iterate 3 (refine walkJ_rd rfl (fun K hK => ?_); go_simp; refine hK _ ?_; clear hK K)
    refine walkJ_nil ?_
    clear x0 x1 x2 x3
    go_wp2
    go_ret
    refine ⟨ret_bool ?_, by first | assumption | exact hB4⟩
    rw [← HR.out]; symm
    rw [decide_eq_false_iff_not]
    intro hh
    have h3 := hh.2.2.1
    rw [HP0.out] at h3
    simp only [Prod.mk.injEq] at h3
    omega
  by_cases hd1 : pd = 1
  case neg =>
    have ha' : ¬ 1 = pd := fun h => hd1 h.symm
    refine wp_walkJ (T := Below (w.heap.size)) (belowV_pre _) (.rd 0 (.rd 1 (.rd 2 (.rd 3 (.rd 4 (.rd 5 (.rd 6 (.rd 7 (.rd 8 (.rd 9 (.rd 10 (.rd 11 (.mv 12 (.mv 13 (.rd 14 (.rd 15 (.rd 16 (.inv [])))))))))))))))))) (by kernel_rfl) rfl (by kernel_rfl) (by kernel_rfl) ?_
    iterate 12 (refine walkJ_rd rfl (fun K hK => ?_); go_simp; refine hK _ ?_; clear hK K)
    (refine walkJ_mv rfl (fun K hK => ?_); go_simp; refine (nought_any _).mono ?_; rintro r w3 ⟨rfl, hb3⟩; refine ⟨_, rfl, hK _ _ hb3 ?_⟩; clear hK K)
    (refine walkJ_mv rfl (fun K hK => ?_); go_simp; refine (nought_any _).mono ?_; rintro r w4 ⟨rfl, hb4⟩; refine ⟨_, rfl, hK _ _ (hb4.mono (show w.heap.size ≤ w3.heap.size from hb3.size)) ?_⟩; clear hK K)
    have hB4 : Below w.heap.size w w4 := (hd.trans hb3).trans (hb4.mono hb3.size)
    clear hb3 hb4
    iterate 3 (refine walkJ_rd rfl (fun K hK => ?_); go_simp; refine hK _ ?_; clear hK K)
    refine walkJ_nil ?_
    clear x0 x1 x2 x3
    go_wp2
    go_ret
    refine ⟨ret_bool ?_, by first | assumption | exact hB4⟩
    rw [← HR.out]; symm
    rw [decide_eq_false_iff_not]
    intro hh
    have h3 := hh.2.2.1
    rw [HP0.out] at h3
    simp only [Prod.mk.injEq] at h3
    omega
  subst ha hb1 hc1 hd1
  refine wp_walkJ (T := Below (w.heap.size)) (belowV_pre _) (.rd 0 (.rd 1 (.rd 2 (.rd 3 (.rd 4 (.rd 5 (.rd 6 (.rd 7 (.rd 8 (.rd 9 (.rd 10 (.rd 11 (.mv 12 (.mv 13 (.rd 14 (.rd 15 (.rd 16 (.inv [])))))))))))))))))) (by kernel_rfl) rfl (by kernel_rfl) (by kernel_rfl) ?_
  iterate 12 (refine walkJ_rd rfl (fun K hK => ?_); go_simp; refine hK _ ?_; clear hK K)
  (refine walkJ_mv rfl (fun K hK => ?_); go_simp; refine (nought_any _).mono ?_; rintro r w3 ⟨rfl, hb3⟩; refine ⟨_, rfl, hK _ _ hb3 ?_⟩; clear hK K)
  (refine walkJ_mv rfl (fun K hK => ?_); go_simp; refine (nought_any _).mono ?_; rintro r w4 ⟨rfl, hb4⟩; refine ⟨_, rfl, hK _ _ (hb4.mono (show w.heap.size ≤ w3.heap.size from hb3.size)) ?_⟩; clear hK K)
  have hB4 : Below w.heap.size w w4 := (hd.trans hb3).trans (hb4.mono hb3.size)
  clear hb3 hb4
  iterate 3 (refine walkJ_rd rfl (fun K hK => ?_); go_simp; refine hK _ ?_; clear hK K)
  refine walkJ_nil ?_
  clear x0 x1 x2 x3
  have hwd : Below w.heap.size w w4 := hB4
  clear hB4
  clear hd
  go_wp2_with fail
  go_loopw [24] (fun x wr => ∃ i : Nat, x = .int .i64 i ∧ i ≤ L ∧ (∀ j, j < i → OKp c j) ∧ Below w.heap.size w wr) (fun x _ => L - (intOf x).toNat)
  case atStart => exact ⟨0, rfl, Nat.zero_le _, fun j hj => by omega, hwd⟩
  case round =>
    obtain ⟨i, rfl, hi, hall, hbel⟩ := hrel
    have HALL := hid hall
    clear hall
    by_cases hiL : i < L
    · have hiL2 : (i : Int) < (L : Int) := by omega
      obtain ⟨⟨⟨xn, xd⟩, ⟨yn, yd⟩⟩, hpi⟩ : ∃ p : P4, c.getD i z4 = p := ⟨_, rfl⟩
      have HPI := hid hpi
      obtain ⟨b', off', he', hb', e0, e1, e2, e3⟩ := p4_cell hc (show i < c.length by rw [HL.out]; exact hiL)
      obtain ⟨rfl, rfl⟩ : b = b' ∧ off = off' := by simpa using he'
      rw [hpi] at e0 e1 e2 e3
      have x0 := (hbel.cell (p := ⟨b, off + i * 4, none⟩) hb).trans e0
      have x1 := (hbel.cell (p := ⟨b, off + i * 4 + 1, none⟩) hb).trans e1
      have x2 := (hbel.cell (p := ⟨b, off + i * 4 + 2, none⟩) hb).trans e2
      have x3 := (hbel.cell (p := ⟨b, off + i * 4 + 3, none⟩) hb).trans e3
      clear e0 e1 e2 e3 he' hpi
      go_wp2_with fail
      have kb := Blk.new wr #[.int .i64 xn, .int .i64 xd, .int .i64 yn, .int .i64 yd] 44
      have hbA := alloc_below wr (.cells #[.int .i64 xn, .int .i64 xd, .int .i64 yn, .int .i64 yd] 44)
      obtain ⟨W, hW⟩ : ∃ W, wr.alloc (.cells #[.int .i64 xn, .int .i64 xd, .int .i64 yn, .int .i64 yd] 44) = W := ⟨_, rfl⟩
      obtain ⟨H, hH⟩ : ∃ B, wr.heap.size = B := ⟨_, rfl⟩
      have hbelW := hbel.trans (hbA.mono hbel.size)
      rw [hW] at kb hbelW ⊢
      rw [hH] at kb ⊢
      clear hW hH hbA x0 x1 x2 x3 hbel
      refine (Valid_any xn xd _).mono ?_
      rintro r w1 ⟨rfl, hb1⟩
      have hB1 := hbelW.trans (hb1.mono hbelW.size)
      have kb1 := kb.below hb1
      clear hb1 kb hbelW
      by_cases hfx : FV xn xd
      case neg =>
        rw [decide_eq_false hfx]
        go_wp2
        go_ret
        refine ⟨ret_bool ?_, by first | assumption | exact hB4⟩
        rw [← HR.out]; symm
        rw [decide_eq_false_iff_not]
        intro hh
        have h3 := hh.2.2.2 i (by rw [HL.out]; exact hiL)
        unfold OKp at h3
        rw [HPI.out] at h3
        exact hfx h3.1
      rw [decide_eq_true hfx]
      have HFX := hid hfx
      have d0 := kb1.look 2 rfl
      have d1 := kb1.look 3 rfl
      clear hfx
      go_wp2_with fail
      refine (Valid_any yn yd _).mono ?_
      rintro r w2 ⟨rfl, hb2⟩
      have hB2 := hB1.trans (hb2.mono hB1.size)
      have kb2 := kb1.below hb2
      clear hb2 kb1 hB1 d0 d1
      by_cases hfy : FV yn yd
      case neg =>
        rw [decide_eq_false hfy]
        go_wp2
        go_ret
        refine ⟨ret_bool ?_, by first | assumption | exact hB4⟩
        rw [← HR.out]; symm
        rw [decide_eq_false_iff_not]
        intro hh
        have h3 := hh.2.2.2 i (by rw [HL.out]; exact hiL)
        unfold OKp at h3
        rw [HPI.out] at h3
        exact hfy h3.2.1
      rw [decide_eq_true hfy]
      have HFY := hid hfy
      clear hfy
      go_wp2_with fail
      have hd := (Below.refl w2.heap.size w2).drew
      by_cases hi0 : i = 0
      · have hi02 : ¬ (0 : Int) < (i : Int) := by omega
        have hi03 : ¬ 0 < i := by omega
        have HI0 := hid hi0
        clear hi0
        refine wp_walkJ (T := Below (w2.heap.size)) (belowV_pre _) (.rd 0 (.rd 1 (.rd 2 (.rd 3 (.rd 4 (.rd 5 (.rd 6 (.rd 7 (.rd 8 (.rd 9 (.rd 10 (.bt 11 (.rd 12 (.rd 13 (.rd 14 (.rd 15 (.rd 16 (.rd 17 (.rd 18 (.rd 19 (.rd 20 (.rd 21 (.bt 22 (.rd 23 (.rd 24 (.rd 25 (.inv []))))))))))))))))))))))))))) (by kernel_rfl) rfl (by kernel_rfl) (by kernel_rfl) ?_
        iterate 11 (refine walkJ_rd rfl (fun K hK => ?_); go_simp; refine hK _ ?_; clear hK K)
        (refine walkJ_bs rfl (fun K hK => ?_); go_simp; refine hK _ ?_; clear hK K)
        iterate 10 (refine walkJ_rd rfl (fun K hK => ?_); go_simp; refine hK _ ?_; clear hK K)
        (refine walkJ_bs rfl (fun K hK => ?_); go_simp; refine ⟨(by intro h; cases h), hK _ ?_⟩; clear hK K)
        iterate 3 (refine walkJ_rd rfl (fun K hK => ?_); go_simp; refine hK _ ?_; clear hK K)
        refine walkJ_nil ?_
        have hB3 := hB2.trans (hd.mono hB2.size)
        go_wp2
        go_roundw
        case rel =>
          refine ⟨i + 1, by go_num, by omega, fun j hj => ?_, hB3⟩
          obtain rfl : j = i := by have := HI0.out; omega
          unfold OKp
          rw [HPI.out]
          exact ⟨HFX.out, HFY.out, fun h => by have := HI0.out; omega⟩
        case measure => simp [intOf]; omega
      · have hi02 : (0 : Int) < (i : Int) := by omega
        have hi03 : 0 < i := by omega
        have hj1 := HALL.out (i - 1) (by omega)
        obtain ⟨⟨⟨un, ud⟩, ⟨vn, vd⟩⟩, hpu⟩ : ∃ p : P4, c.getD (i - 1) z4 = p := ⟨_, rfl⟩
        have HPU := hid hpu
        obtain ⟨b', off', he', hb', e0, e1, e2, e3⟩ := p4_cell hc (show i - 1 < c.length by rw [HL.out]; omega)
        obtain ⟨rfl, rfl⟩ : b = b' ∧ off = off' := by simpa using he'
        rw [hpu] at e0 e1 e2 e3
        unfold OKp at hj1
        rw [hpu] at hj1
        have HJ1 := hid hj1
        obtain ⟨I, hI⟩ : ∃ I : Nat, i = I + 1 := ⟨i - 1, by omega⟩
        have eI : i - 1 = I := by omega
        rw [eI] at e0 e1 e2 e3
        have hIL : I < L := by omega
        have wI : IntKind.i64.wrap ((i : Int) - 1) = (I : Int) := by rw [IntWalk.i64_left]; unfold wrap64; omega
        have x0 := fun x : SubT (Below w2.heap.size) w2.drew => ((hB2.trans ((hd.trans x.b).mono hB2.size)).cell (p := ⟨b, off + I * 4, none⟩) hb).trans e0
        have x1 := fun x : SubT (Below w2.heap.size) w2.drew => ((hB2.trans ((hd.trans x.b).mono hB2.size)).cell (p := ⟨b, off + I * 4 + 1, none⟩) hb).trans e1
        have E2 := hid e2
        have E3 := hid e3
        have y0 := fun x : SubT (Below w2.heap.size) w2.drew => (kb2.below (hd.trans x.b)).look 0 rfl
        have y1 := fun x : SubT (Below w2.heap.size) w2.drew => (kb2.below (hd.trans x.b)).look 1 rfl
        clear e0 e1 e2 e3 he' hpu hj1 hI eI
        refine wp_walkJ (T := Below (w2.heap.size)) (belowV_pre _) (.rd 0 (.rd 1 (.rd 2 (.rd 3 (.rd 4 (.rd 5 (.rd 6 (.rd 7 (.rd 8 (.rd 9 (.rd 10 (.bt 11 (.rd 12 (.rd 13 (.rd 14 (.rd 15 (.rd 16 (.rd 17 (.rd 18 (.rd 19 (.rd 20 (.rd 21 (.bt 22 (.rd 23 (.rd 24 (.rd 25 (.inv []))))))))))))))))))))))))))) (by kernel_rfl) rfl (by kernel_rfl) (by kernel_rfl) ?_
        iterate 11 (refine walkJ_rd rfl (fun K hK => ?_); go_simp; refine hK _ ?_; clear hK K)
        clear x0 x1 y0 y1
        (refine walkJ_bt rfl (fun K hK => ?_); go_simp; refine (rorder_raw HJ1.out.1 HFX.out _).mono ?_; rintro r w3 ⟨rfl, hb3⟩; refine ⟨_, rfl, hK _ _ ?_⟩; clear hK K)
        have hd3 : Below w2.heap.size w2 w3 := hd.trans hb3
        clear hb3 hd
        rcases cmp_cases (vq (un, ud)) (vq (xn, xd)) with ⟨hl, hv, -⟩ | ⟨hl, hv, -⟩ | ⟨hl, hv, -⟩
        rotate_left
        · rw [hv]
          clear hv
          have HLX := hid hl
          clear hl
          iterate 10 (refine walkJ_rd rfl (fun K hK => ?_); go_simp; refine hK _ ?_; clear hK K)
          (refine walkJ_bs rfl (fun K hK => ?_); go_simp; refine hK _ ?_; clear hK K)
          iterate 3 (refine walkJ_rd rfl (fun K hK => ?_); go_simp; refine hK _ ?_; clear hK K)
          refine walkJ_nil ?_
          have hB3 := hB2.trans (hd3.mono hB2.size)
          go_wp2
          go_ret
          refine ⟨ret_bool ?_, by first | assumption | exact hB4⟩
          rw [← HR.out]; symm
          rw [decide_eq_false_iff_not]
          intro hh
          have h3 := hh.2.2.2 i (by rw [HL.out]; exact hiL)
          unfold OKp at h3
          rw [HPI.out] at h3
          have h4 := (h3.2.2 (by omega)).1
          rw [HPU.out] at h4
          have h5 := HLX.out
          grind
        · rw [hv]
          clear hv
          have HLX := hid hl
          clear hl
          iterate 10 (refine walkJ_rd rfl (fun K hK => ?_); go_simp; refine hK _ ?_; clear hK K)
          (refine walkJ_bs rfl (fun K hK => ?_); go_simp; refine hK _ ?_; clear hK K)
          iterate 3 (refine walkJ_rd rfl (fun K hK => ?_); go_simp; refine hK _ ?_; clear hK K)
          refine walkJ_nil ?_
          have hB3 := hB2.trans (hd3.mono hB2.size)
          go_wp2
          go_ret
          refine ⟨ret_bool ?_, by first | assumption | exact hB4⟩
          rw [← HR.out]; symm
          rw [decide_eq_false_iff_not]
          intro hh
          have h3 := hh.2.2.2 i (by rw [HL.out]; exact hiL)
          unfold OKp at h3
          rw [HPI.out] at h3
          have h4 := (h3.2.2 (by omega)).1
          rw [HPU.out] at h4
          have h5 := HLX.out
          grind
        · rw [hv]
          clear hv
          have HLX := hid hl
          clear hl
          have x2 := fun x : SubT (Below w2.heap.size) w3 => ((hB2.trans ((hd3.trans x.b).mono hB2.size)).cell (p := ⟨b, off + I * 4 + 2, none⟩) hb).trans E2.out
          have x3 := fun x : SubT (Below w2.heap.size) w3 => ((hB2.trans ((hd3.trans x.b).mono hB2.size)).cell (p := ⟨b, off + I * 4 + 3, none⟩) hb).trans E3.out
          have y2 := fun x : SubT (Below w2.heap.size) w3 => (kb2.below (hd3.trans x.b)).look 2 rfl
          have y3 := fun x : SubT (Below w2.heap.size) w3 => (kb2.below (hd3.trans x.b)).look 3 rfl
          iterate 10 (refine walkJ_rd rfl (fun K hK => ?_); go_simp; refine hK _ ?_; clear hK K)
          clear x2 x3 y2 y3
          (refine walkJ_bt rfl (fun K hK => ?_); go_simp; refine (rorder_raw HJ1.out.2.1 HFY.out _).mono ?_; rintro r w4 ⟨rfl, hb4⟩; refine ⟨_, rfl, hK _ _ ?_⟩; clear hK K)
          have hd4 : Below w2.heap.size w2 w4 := hd3.trans (hb4.mono hd3.size)
          have hB3 := hB2.trans (hd4.mono hB2.size)
          clear hb4 hd3 hd4
          rcases cmp_cases (vq (vn, vd)) (vq (yn, yd)) with ⟨hl, hv, -⟩ | ⟨hl, hv, -⟩ | ⟨hl, hv, -⟩
          · rw [hv]
            have HLY := hid hl
            clear hv hl
            iterate 3 (refine walkJ_rd rfl (fun K hK => ?_); go_simp; refine hK _ ?_; clear hK K)
            refine walkJ_nil ?_
            go_wp2
            go_roundw
            case rel =>
              refine ⟨i + 1, by go_num, by omega, fun j hj => ?_, hB3⟩
              by_cases hji : j = i
              · subst hji
                unfold OKp
                rw [HPI.out, HPU.out]
                exact ⟨HFX.out, HFY.out, fun _ => ⟨HLX.out, HLY.out⟩⟩
              · exact HALL.out j (by omega)
            case measure => simp [intOf]; omega
          · rw [hv]
            have HLY := hid hl
            clear hv hl
            iterate 3 (refine walkJ_rd rfl (fun K hK => ?_); go_simp; refine hK _ ?_; clear hK K)
            refine walkJ_nil ?_
            go_wp2
            go_ret
            refine ⟨ret_bool ?_, by first | assumption | exact hB4⟩
            rw [← HR.out]; symm
            rw [decide_eq_false_iff_not]
            intro hh
            have h3 := hh.2.2.2 i (by rw [HL.out]; exact hiL)
            unfold OKp at h3
            rw [HPI.out] at h3
            have h4 := (h3.2.2 (by omega)).2
            rw [HPU.out] at h4
            have h5 := HLY.out
            grind
          · rw [hv]
            have HLY := hid hl
            clear hv hl
            iterate 3 (refine walkJ_rd rfl (fun K hK => ?_); go_simp; refine hK _ ?_; clear hK K)
            refine walkJ_nil ?_
            go_wp2
            go_ret
            refine ⟨ret_bool ?_, by first | assumption | exact hB4⟩
            rw [← HR.out]; symm
            rw [decide_eq_false_iff_not]
            intro hh
            have h3 := hh.2.2.2 i (by rw [HL.out]; exact hiL)
            unfold OKp at h3
            rw [HPI.out] at h3
            have h4 := (h3.2.2 (by omega)).2
            rw [HPU.out] at h4
            have h5 := HLY.out
            grind
    · obtain rfl : L = i := by omega
      have hiL2 : ¬ (L : Int) < (L : Int) := by omega
      go_wp2
      go_ret
      refine ⟨ret_bool ?_, hbel⟩
      rw [← HR.out]; symm
      rw [decide_eq_true_eq]
      exact ⟨by rw [HL.out]; omega, by rw [HL.out]; omega, HP0.out, fun j hj => HALL.out j (by rw [← HL.out]; exact hj)⟩

end Go.Proofs.YtfkclcoipadhmaaGreatDoor
