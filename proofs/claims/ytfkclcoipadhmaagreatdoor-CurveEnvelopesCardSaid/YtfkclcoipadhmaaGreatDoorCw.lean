/- Several of my texts in one: Dv, Dw. -/
import Derived.Test.YtfkclcoipadhmaaGreatDoorDy
import Derived.Test.YtfkclcoipadhmaaGreatDoorCz
/- Walks of trankref02.Equal, tranklaw02.whole, line. -/
namespace Go.Proofs.YtfkclcoipadhmaaGreatDoor
open Go.RowKit
attribute [local irreducible] seqS seqST walkV walkJ

theorem list_eq_of {A B : List P4} (hl : A.length = B.length) (h : ∀ j, j < A.length → A.getD j z4 = B.getD j z4) : A = B := by
  refine List.ext_getElem hl (fun i h1 h2 => ?_)
  have := h i h1
  rwa [List.getD_eq_getElem?_getD, List.getD_eq_getElem?_getD, List.getElem?_eq_getElem h1, List.getElem?_eq_getElem h2] at this

set_option maxHeartbeats 8000000 in
set_option maxRecDepth 100000 in
theorem Equal_any (A B : List P4) (va vb : Value) (w : World) (hA : P4R 0 w va A) (hB : P4R 0 w vb B) :
    Calls Tryz.prog 14 #[va, vb] w fun r w' => r = .returned (.bool (decide (A = B))) ∧ Below w.heap.size w w' := by
  obtain ⟨aa, ca, rfl, hca, hma, hAA⟩ := hA
  obtain ⟨ab, cb, rfl, hcb, hmb, hBB⟩ := hB
  unfold maxLen at hma hmb
  obtain ⟨res, hres⟩ : ∃ b, decide (A = B) = b := ⟨_, rfl⟩
  rw [hres]
  have HR := hid hres
  have HAA := hid hAA
  have HBB := hid hBB
  obtain ⟨L, hL⟩ : ∃ L, A.length = L := ⟨_, rfl⟩
  obtain ⟨M, hM⟩ : ∃ L, B.length = L := ⟨_, rfl⟩
  have HL := hid hL
  have HM := hid hM
  rw [hL] at hca ⊢
  rw [hM] at hcb ⊢
  clear hres hL hM hAA hBB
  by_cases hLM : L = M
  case neg =>
    have hLMi : ¬ (L : Int) = (M : Int) := by omega
    go_enter Tryz.func14, Tryz.ntmps14
    go_wp2
    go_ret
    refine ⟨ret_bool ?_, Below.refl _ _⟩
    rw [← HR.out]; symm
    rw [decide_eq_false_iff_not]
    intro hh
    have := HL.out
    have := HM.out
    rw [hh] at *
    omega
  subst hLM
  go_enter Tryz.func14, Tryz.ntmps14
  go_wp2_with fail
  go_loopw [14] (fun x wr => ∃ i : Nat, x = .int .i64 i ∧ i ≤ L ∧ (∀ j, j < i → A.getD j z4 = B.getD j z4) ∧ Below w.heap.size w wr) (fun x _ => L - (intOf x).toNat)
  case atStart => exact ⟨0, rfl, Nat.zero_le _, fun j hj => by omega, Below.refl _ _⟩
  case round =>
    obtain ⟨i, rfl, hi, hall, hbel⟩ := hrel
    have HALL := hid hall
    clear hall
    by_cases hiL : i < L
    · have hi2 : (i : Int) < (L : Int) := by omega
      obtain ⟨⟨⟨a1, a2⟩, ⟨a3, a4⟩⟩, hpa⟩ : ∃ p : P4, A.getD i z4 = p := ⟨_, rfl⟩
      obtain ⟨⟨⟨b1, b2⟩, ⟨b3, b4⟩⟩, hpb⟩ : ∃ p : P4, B.getD i z4 = p := ⟨_, rfl⟩
      have HPA := hid hpa
      have HPB := hid hpb
      obtain ⟨ba, oa, rfl, hba, e0, e1, e2, e3⟩ := p4_cell HAA.out (show i < A.length by rw [HL.out]; exact hiL)
      obtain ⟨bb, ob, rfl, hbb, f0, f1, f2, f3⟩ := p4_cell HBB.out (show i < B.length by rw [HM.out]; exact hiL)
      rw [hpa] at e0 e1 e2 e3
      rw [hpb] at f0 f1 f2 f3
      replace e0 := (hbel.cell (p := ⟨ba, oa + i * 4, none⟩) hba).trans e0
      replace e1 := (hbel.cell (p := ⟨ba, oa + i * 4 + 1, none⟩) hba).trans e1
      replace e2 := (hbel.cell (p := ⟨ba, oa + i * 4 + 2, none⟩) hba).trans e2
      replace e3 := (hbel.cell (p := ⟨ba, oa + i * 4 + 3, none⟩) hba).trans e3
      have F0 := hid f0
      have F1 := hid f1
      have F2 := hid f2
      have F3 := hid f3
      clear hpa hpb f0 f1 f2 f3
      go_wp2_with fail
      have kb := Blk.new wr #[.int .i64 a1, .int .i64 a2, .int .i64 a3, .int .i64 a4] 44
      have hbA := alloc_below wr (.cells #[.int .i64 a1, .int .i64 a2, .int .i64 a3, .int .i64 a4] 44)
      obtain ⟨W, hW⟩ : ∃ W, wr.alloc (.cells #[.int .i64 a1, .int .i64 a2, .int .i64 a3, .int .i64 a4] 44) = W := ⟨_, rfl⟩
      obtain ⟨H, hH⟩ : ∃ B, wr.heap.size = B := ⟨_, rfl⟩
      have hbelW := hbel.trans (hbA.mono hbel.size)
      rw [hW] at kb hbelW ⊢
      rw [hH] at kb ⊢
      clear hW hH hbA e0 e1 e2 e3 hbel
      have hd := (Below.refl W.heap.size W).drew
      have hbd := hbelW.trans (hd.mono hbelW.size)
      have x0 := fun x : SubT (Below W.heap.size) W.drew => (kb.below (hd.trans x.b)).look 0 rfl
      have x1 := fun x : SubT (Below W.heap.size) W.drew => (kb.below (hd.trans x.b)).look 1 rfl
      have x2 := fun x : SubT (Below W.heap.size) W.drew => (kb.below (hd.trans x.b)).look 2 rfl
      have x3 := fun x : SubT (Below W.heap.size) W.drew => (kb.below (hd.trans x.b)).look 3 rfl
      have y0 := fun x : SubT (Below W.heap.size) W.drew => ((hbelW.trans ((hd.trans x.b).mono hbelW.size)).cell (p := ⟨bb, ob + i * 4, none⟩) hbb).trans F0.out
      have y1 := fun x : SubT (Below W.heap.size) W.drew => ((hbelW.trans ((hd.trans x.b).mono hbelW.size)).cell (p := ⟨bb, ob + i * 4 + 1, none⟩) hbb).trans F1.out
      have y2 := fun x : SubT (Below W.heap.size) W.drew => ((hbelW.trans ((hd.trans x.b).mono hbelW.size)).cell (p := ⟨bb, ob + i * 4 + 2, none⟩) hbb).trans F2.out
      have y3 := fun x : SubT (Below W.heap.size) W.drew => ((hbelW.trans ((hd.trans x.b).mono hbelW.size)).cell (p := ⟨bb, ob + i * 4 + 3, none⟩) hbb).trans F3.out
      by_cases g1 : a1 = b1
      case neg =>
        refine wp_walkJ (T := Below (W.heap.size)) (belowV_pre _) (.rd 0 (.rd 1 (.rd 2 (.rd 3 (.rd 4 (.rd 5 (.inv []))))))) (by kernel_rfl) rfl (by kernel_rfl) (by kernel_rfl) ?_
        iterate 6 (refine walkJ_rd rfl (fun K hK => ?_); go_simp; refine hK _ ?_; clear hK K)
        refine walkJ_nil ?_
        clear x0 x1 x2 x3 y0 y1 y2 y3
        go_wp2
        go_ret
        refine ⟨ret_bool ?_, hbd⟩
        rw [← HR.out]; symm
        rw [decide_eq_false_iff_not]
        intro hh
        have h5 : A.getD i z4 = B.getD i z4 := by rw [hh]
        rw [HPA.out, HPB.out] at h5
        simp only [Prod.mk.injEq] at h5
        omega
      by_cases g2 : a2 = b2
      case neg =>
        subst g1
        refine wp_walkJ (T := Below (W.heap.size)) (belowV_pre _) (.rd 0 (.rd 1 (.rd 2 (.rd 3 (.rd 4 (.rd 5 (.inv []))))))) (by kernel_rfl) rfl (by kernel_rfl) (by kernel_rfl) ?_
        iterate 6 (refine walkJ_rd rfl (fun K hK => ?_); go_simp; refine hK _ ?_; clear hK K)
        refine walkJ_nil ?_
        clear x0 x1 x2 x3 y0 y1 y2 y3
        go_wp2
        go_ret
        refine ⟨ret_bool ?_, hbd⟩
        rw [← HR.out]; symm
        rw [decide_eq_false_iff_not]
        intro hh
        have h5 : A.getD i z4 = B.getD i z4 := by rw [hh]
        rw [HPA.out, HPB.out] at h5
        simp only [Prod.mk.injEq] at h5
        omega
      by_cases g3 : a3 = b3
      case neg =>
        subst g1 g2
        refine wp_walkJ (T := Below (W.heap.size)) (belowV_pre _) (.rd 0 (.rd 1 (.rd 2 (.rd 3 (.rd 4 (.rd 5 (.inv []))))))) (by kernel_rfl) rfl (by kernel_rfl) (by kernel_rfl) ?_
        iterate 6 (refine walkJ_rd rfl (fun K hK => ?_); go_simp; refine hK _ ?_; clear hK K)
        refine walkJ_nil ?_
        clear x0 x1 x2 x3 y0 y1 y2 y3
        go_wp2
        go_ret
        refine ⟨ret_bool ?_, hbd⟩
        rw [← HR.out]; symm
        rw [decide_eq_false_iff_not]
        intro hh
        have h5 : A.getD i z4 = B.getD i z4 := by rw [hh]
        rw [HPA.out, HPB.out] at h5
        simp only [Prod.mk.injEq] at h5
        omega
      by_cases g4 : a4 = b4
      case neg =>
        subst g1 g2 g3
        refine wp_walkJ (T := Below (W.heap.size)) (belowV_pre _) (.rd 0 (.rd 1 (.rd 2 (.rd 3 (.rd 4 (.rd 5 (.inv []))))))) (by kernel_rfl) rfl (by kernel_rfl) (by kernel_rfl) ?_
        iterate 6 (refine walkJ_rd rfl (fun K hK => ?_); go_simp; refine hK _ ?_; clear hK K)
        refine walkJ_nil ?_
        clear x0 x1 x2 x3 y0 y1 y2 y3
        go_wp2
        go_ret
        refine ⟨ret_bool ?_, hbd⟩
        rw [← HR.out]; symm
        rw [decide_eq_false_iff_not]
        intro hh
        have h5 : A.getD i z4 = B.getD i z4 := by rw [hh]
        rw [HPA.out, HPB.out] at h5
        simp only [Prod.mk.injEq] at h5
        omega
      subst g1 g2 g3 g4
      refine wp_walkJ (T := Below (W.heap.size)) (belowV_pre _) (.rd 0 (.rd 1 (.rd 2 (.rd 3 (.rd 4 (.rd 5 (.inv []))))))) (by kernel_rfl) rfl (by kernel_rfl) (by kernel_rfl) ?_
      iterate 6 (refine walkJ_rd rfl (fun K hK => ?_); go_simp; refine hK _ ?_; clear hK K)
      refine walkJ_nil ?_
      clear x0 x1 x2 x3 y0 y1 y2 y3
      go_wp2
      go_roundw
      case rel =>
        refine ⟨i + 1, by go_num, by omega, fun j hj => ?_, hbd⟩
        by_cases hji : j = i
        · rw [hji, HPA.out, HPB.out]
        · exact HALL.out j (by omega)
      case measure => simp [intOf]; omega
    · obtain rfl : L = i := by omega
      have hi2 : ¬ (L : Int) < (L : Int) := by omega
      go_wp2
      go_ret
      refine ⟨ret_bool ?_, hbel⟩
      rw [← HR.out]; symm
      rw [decide_eq_true_eq]
      exact list_eq_of (by rw [HL.out, HM.out]) (fun j hj => HALL.out j (by rw [← HL.out]; exact hj))

end Go.Proofs.YtfkclcoipadhmaaGreatDoor

/- Walks of tranklaw02.whole, line, awake. -/
namespace Go.Proofs.YtfkclcoipadhmaaGreatDoor
open Go.RowKit
attribute [local irreducible] seqS seqST walkV walkJ

set_option maxHeartbeats 1000000 in
theorem lwhole_any (n : Int) (w : World) : Calls Tryz.prog 50 #[.int .i64 n] w fun r w' => r = .returned (.agg #[.int .i64 n, .int .i64 1]) ∧ Below w.heap.size w w' := by
  have b0 := alloc_below w (.cells #[.int .i64 n, .int .i64 1] 31)
  go_enter Tryz.func50, Tryz.ntmps50
  go_wp2
  refine bodyPost_ret (v := .agg #[.int .i64 n, .int .i64 1]) ?_ rfl ⟨rfl, b0⟩
  simp [results, Tryz.results50, go_sem]

set_option maxHeartbeats 2000000 in
set_option maxRecDepth 100000 in
theorem line_any (a b c d : Int) (w : World) : Calls Tryz.prog 49 #[.agg #[.int .i64 a, .int .i64 b], .agg #[.int .i64 c, .int .i64 d]] w fun r w' =>
    (∃ v, r = .returned v ∧ P4R w.heap.size w' v [((0, 1), (0, 1)), ((a, b), (c, d))]) ∧ Below w.heap.size w w' := by
  have k0 := (Blk.new w #[.int .i64 a, .int .i64 b] 31).alloc (.cells #[.int .i64 c, .int .i64 d] 31)
  have k1 := Blk.new (w.alloc (.cells #[.int .i64 a, .int .i64 b] 31)) #[.int .i64 c, .int .i64 d] 31
  have b0 := ((Below.refl w.heap.size w).alloc (Nat.le_refl _) (.cells #[.int .i64 a, .int .i64 b] 31)).alloc (by simp) (.cells #[.int .i64 c, .int .i64 d] 31)
  rw [World.size_alloc] at k1
  go_enter Tryz.func49, Tryz.ntmps49
  go_wp2_with fail
  obtain ⟨W, hW⟩ : ∃ W, (w.alloc (.cells #[.int .i64 a, .int .i64 b] 31)).alloc (.cells #[.int .i64 c, .int .i64 d] 31) = W := ⟨_, rfl⟩
  rw [hW] at k0 k1 b0 ⊢
  clear hW
  have hd := (Below.refl W.heap.size W).drew
  have z0 := fun x : SubT (Below W.heap.size) W.drew => (k0.below (hd.trans x.b)).look 0 rfl
  have z1 := fun x : SubT (Below W.heap.size) W.drew => (k0.below (hd.trans x.b)).look 1 rfl
  have z2 := fun x : SubT (Below W.heap.size) W.drew => (k1.below (hd.trans x.b)).look 0 rfl
  have z3 := fun x : SubT (Below W.heap.size) W.drew => (k1.below (hd.trans x.b)).look 1 rfl
  refine wp_walkJ (T := Below (W.heap.size)) (belowV_pre _) (.rd 3 (.rd 4 (.rd 5 (.mv 0 (.mv 1 (.rd 2 (.bt 6 (.rd 7 (.inv []))))))))) (by kernel_rfl) rfl (by kernel_rfl) (by kernel_rfl) ?_
  iterate 3 (refine walkJ_rd rfl (fun K hK => ?_); go_simp; refine hK _ ?_; clear hK K)
  clear z0 z1 z2 z3
  (refine walkJ_mv rfl (fun K hK => ?_); go_simp; refine (lwhole_any 0 _).mono ?_; rintro r w3 ⟨rfl, hb3⟩; refine ⟨_, rfl, hK _ _ hb3 ?_⟩; clear hK K)
  (refine walkJ_mv rfl (fun K hK => ?_); go_simp; refine (lwhole_any 0 _).mono ?_; rintro r w4 ⟨rfl, hb4⟩; refine ⟨_, rfl, hK _ _ (hb4.mono (show W.heap.size ≤ w3.heap.size from hb3.size)) ?_⟩; clear hK K)
  iterate 1 (refine walkJ_rd rfl (fun K hK => ?_); go_simp; refine hK _ ?_; clear hK K)
  (refine walkJ_bt rfl (fun K hK => ?_); go_simp; refine hK _ _ ?_; clear hK K)
  iterate 1 (refine walkJ_rd rfl (fun K hK => ?_); go_simp; refine hK _ ?_; clear hK K)
  refine walkJ_nil ?_
  have hbW : Below W.heap.size W w4 := (hd.trans hb3).trans (hb4.mono hb3.size)
  have b4 := b0.trans (hbW.mono b0.size)
  have kn := Blk.new w4 #[.int .i64 0, .int .i64 1, .int .i64 0, .int .i64 1, .int .i64 a, .int .i64 b, .int .i64 c, .int .i64 d] 44
  have b5 := b4.trans ((alloc_below w4 (.cells #[.int .i64 0, .int .i64 1, .int .i64 0, .int .i64 1, .int .i64 a, .int .i64 b, .int .i64 c, .int .i64 d] 44)).mono b4.size)
  have hr : P4R w.heap.size (w4.alloc (.cells #[.int .i64 0, .int .i64 1, .int .i64 0, .int .i64 1, .int .i64 a, .int .i64 b, .int .i64 c, .int .i64 d] 44)) (.slice (some ⟨w4.heap.size, 0, none⟩) 2 2) [((0, 1), (0, 1)), ((a, b), (c, d))] := by
    refine ⟨_, 2, rfl, Nat.le_refl _, by unfold maxLen; omega, fun _ => ⟨w4.heap.size, 0, rfl, b4.size, kn.lt, fun j hj => ?_⟩⟩
    have hj8 : j < 8 := hj
    rw [Nat.zero_add, kn.cell]
    match j, hj8 with
    | 0, _ => rfl
    | 1, _ => rfl
    | 2, _ => rfl
    | 3, _ => rfl
    | 4, _ => rfl
    | 5, _ => rfl
    | 6, _ => rfl
    | 7, _ => rfl
  go_wp2
  go_ret
  exact ⟨⟨_, rfl, hr⟩, b5⟩

/-- The curves that awake adds, and their sum. -/
def awA : List P4 := [((0, 1), (0, 1)), ((4, 1), (2, 1))]
def awB : List P4 := [((0, 1), (0, 1)), ((2, 1), (2, 1))]
def awC : List P4 := [((0, 1), (0, 1)), ((2, 1), (3, 1))]
theorem aw_rv : RV awA ∧ RV awB := by decide +kernel
theorem aw_q : toQ awA = [(0, 0), (4, 2)] ∧ toQ awB = [(0, 0), (2, 2)] := by decide +kernel
theorem aw_grid : comG [(0, 0), (4, 2)] [(0, 0), (2, 2)] = [0, 2] := by
  refine (gridQ_of ⟨?_, fun x => ?_⟩).symm
  · unfold Rising
    simp
    decide +kernel
  · have e : lesQ (endQ [((0 : Rat), (0 : Rat)), (4, 2)]).1 (endQ [((0 : Rat), (0 : Rat)), (2, 2)]).1 = 2 := by decide +kernel
    rw [e]
    simp
    grind
theorem aw_pts : ptsO (sumO [(0, 0), (4, 2)] [(0, 0), (2, 2)]) [0, 2] 2 = some [(0, 0), (2, 3)] := by decide +kernel
theorem aw_slp : slpE (ofQ [(0, 0), (2, 3)]) = 0 := by decide +kernel
theorem aw_nrm : nrmL (ofQ [(0, 0), (2, 3)]) = [(0, 0), (2, 3)] := by decide +kernel
theorem aw_of : ofQ [(0, 0), (2, 3)] = awC := by decide +kernel
theorem aw_sum : sumE awA awB = 0 ∧ ofQ (sumL awA awB) = awC := by
  have h0 : comE awA awB = 0 := by
    unfold comE
    rw [if_pos aw_rv, aw_q.1, aw_q.2, aw_grid]
    rfl
  unfold sumE sumL madE madL
  rw [if_pos h0, if_pos h0, aw_q.1, aw_q.2, aw_grid]
  show (match ptsO _ [0, 2] 2 with | some o => slpE (ofQ o) | none => 5) = 0 ∧ ofQ (match ptsO _ [0, 2] 2 with | some o => nrmL (ofQ o) | none => []) = awC
  rw [aw_pts]
  exact ⟨aw_slp, by show ofQ (nrmL (ofQ [(0, 0), (2, 3)])) = awC; rw [aw_nrm]; exact aw_of⟩

set_option maxHeartbeats 4000000 in
set_option maxRecDepth 100000 in
theorem awake_any (w : World) (hz : Z0 w) : Calls Tryz.prog 15 #[] w fun r w' => r = .returned (.bool true) ∧ Below w.heap.size w w' := by
  have WH := hid (fun n w => lwhole_any n w)
  have LA := hid (fun w => line_any 4 1 2 1 w)
  have LB := hid (fun w => line_any 2 1 2 1 w)
  have LC := hid (fun w => line_any 2 1 3 1 w)
  have SU := hid (fun va vb w h1 h2 hz => Sum_any awA awB va vb w h1 h2 hz)
  rw [aw_sum.1] at SU
  have EQ := hid (fun va vb w h1 h2 => Equal_any (ofQ (sumL awA awB)) awC va vb w h1 h2)
  rw [decide_eq_true aw_sum.2] at EQ
  generalize sumL awA awB = S at SU EQ
  have HZ := hid hz
  clear hz
  go_enter Tryz.func15, Tryz.ntmps15
  go_wp2_with fail
  refine (WH.out 4 _).mono ?_
  rintro r w1 ⟨rfl, hb1⟩
  go_wp2_with fail
  refine (WH.out 2 _).mono ?_
  rintro r w2 ⟨rfl, hb2⟩
  replace hb2 := hb1.trans (hb2.mono hb1.size)
  go_wp2_with fail
  refine (LA.out _).mono ?_
  rintro r w3 ⟨⟨va, rfl, ha⟩, hb3⟩
  replace hb3 := hb2.trans (hb3.mono hb2.size)
  replace ha := SlR.mono ha (Nat.zero_le _)
  go_wp2_with fail
  refine (WH.out 2 _).mono ?_
  rintro r w4 ⟨rfl, hb4⟩
  replace ha := SlR.below ha hb4
  replace hb4 := hb3.trans (hb4.mono hb3.size)
  go_wp2_with fail
  refine (WH.out 2 _).mono ?_
  rintro r w5 ⟨rfl, hb5⟩
  replace ha := SlR.below ha hb5
  replace hb5 := hb4.trans (hb5.mono hb4.size)
  go_wp2_with fail
  refine (LB.out _).mono ?_
  rintro r w6 ⟨⟨vb, rfl, hb⟩, hb6⟩
  replace ha := SlR.below ha hb6
  replace hb := SlR.mono hb (Nat.zero_le _)
  replace hb6 := hb5.trans (hb6.mono hb5.size)
  go_wp2_with fail
  refine (SU.out _ _ _ ha hb (HZ.out.below hb6)).mono ?_
  rintro r w7 ⟨⟨v, rfl, hv⟩, hb7⟩
  replace hv := SlR.mono hv (Nat.zero_le _)
  replace hb7 := hb6.trans (hb7.mono hb6.size)
  clear hb1 hb2 hb3 hb4 hb5 hb6 ha hb
  go_wp2_with fail
  refine (WH.out 2 _).mono ?_
  rintro r w8 ⟨rfl, hb8⟩
  replace hv := SlR.below hv hb8
  replace hb8 := hb7.trans (hb8.mono hb7.size)
  go_wp2_with fail
  refine (WH.out 3 _).mono ?_
  rintro r w9 ⟨rfl, hb9⟩
  replace hv := SlR.below hv hb9
  replace hb9 := hb8.trans (hb9.mono hb8.size)
  go_wp2_with fail
  refine (LC.out _).mono ?_
  rintro r w10 ⟨⟨vc, rfl, hc⟩, hb10⟩
  replace hv := SlR.below hv hb10
  replace hc := SlR.mono hc (Nat.zero_le _)
  replace hb10 := hb9.trans (hb10.mono hb9.size)
  go_wp2_with fail
  refine (EQ.out _ _ _ (PsR.ofQ hv) hc).mono ?_
  rintro r w11 ⟨rfl, hb11⟩
  replace hb11 := hb10.trans (hb11.mono hb10.size)
  go_wp2
  go_ret
  exact ⟨rfl, hb11⟩

end Go.Proofs.YtfkclcoipadhmaaGreatDoor
