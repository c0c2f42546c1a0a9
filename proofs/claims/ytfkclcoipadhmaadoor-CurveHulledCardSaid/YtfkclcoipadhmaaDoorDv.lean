/- Walks of trankref02.Equal, tranklaw02.whole, line. -/
import Derived.Test.YtfkclcoipadhmaaDoorDd
namespace Go.Proofs.YtfkclcoipadhmaaDoor
open Go.RowKit
attribute [local irreducible] seqS seqST walkV walkJ

theorem list_eq_of {A B : List P4} (hl : A.length = B.length) (h : ∀ j, j < A.length → A.getD j z4 = B.getD j z4) : A = B := by
  refine List.ext_getElem hl (fun i h1 h2 => ?_)
  have := h i h1
  rwa [List.getD_eq_getElem?_getD, List.getD_eq_getElem?_getD, List.getElem?_eq_getElem h1, List.getElem?_eq_getElem h2] at this

set_option maxHeartbeats 8000000 in
set_option maxRecDepth 100000 in
theorem Equal_any (A B : List P4) (va vb : Value) (w : World) (hA : P4R 0 w va A) (hB : P4R 0 w vb B) :
    Calls Tryd.prog 23 #[va, vb] w fun r w' => r = .returned (.bool (decide (A = B))) ∧ Below w.heap.size w w' := by
  obtain ⟨aa, ca, rfl, hca, hma, hAA⟩ := hA
  obtain ⟨ab, cb, rfl, hcb, hmb, hBB⟩ := hB
  unfold maxLen at hma hmb
  obtain ⟨res, hres⟩ : ∃ b, decide (A = B) = b := ⟨_, rfl⟩
  rw [hres]
  have HR := hid hres
  have HAA := hid hAA
  have HBB := hid hBB
  obtain ⟨L, hL⟩ : ∃ L, A.length = L := ⟨_, rfl⟩
  obtain ⟨M, hM⟩ : ∃ L, B.length = L := ⟨_, rfl⟩
  have HL := hid hL
  have HM := hid hM
  rw [hL] at hca ⊢
  rw [hM] at hcb ⊢
  clear hres hL hM hAA hBB
  by_cases hLM : L = M
  case neg =>
    have hLMi : ¬ (L : Int) = (M : Int) := by omega
    go_enter Tryd.func23, Tryd.ntmps23
    go_wp2
    go_ret
    refine ⟨ret_bool ?_, Below.refl _ _⟩
    rw [← HR.out]; symm
    rw [decide_eq_false_iff_not]
    intro hh
    have := HL.out
    have := HM.out
    rw [hh] at *
    omega
  subst hLM
  go_enter Tryd.func23, Tryd.ntmps23
  go_wp2_with fail
  go_loopw [14] (fun x wr => ∃ i : Nat, x = .int .i64 i ∧ i ≤ L ∧ (∀ j, j < i → A.getD j z4 = B.getD j z4) ∧ Below w.heap.size w wr) (fun x _ => L - (intOf x).toNat)
  case atStart => exact ⟨0, rfl, Nat.zero_le _, fun j hj => by omega, Below.refl _ _⟩
  case round =>
    obtain ⟨i, rfl, hi, hall, hbel⟩ := hrel
    have HALL := hid hall
    clear hall
    by_cases hiL : i < L
    · have hi2 : (i : Int) < (L : Int) := by omega
      obtain ⟨⟨⟨a1, a2⟩, ⟨a3, a4⟩⟩, hpa⟩ : ∃ p : P4, A.getD i z4 = p := ⟨_, rfl⟩
      obtain ⟨⟨⟨b1, b2⟩, ⟨b3, b4⟩⟩, hpb⟩ : ∃ p : P4, B.getD i z4 = p := ⟨_, rfl⟩
      have HPA := hid hpa
      have HPB := hid hpb
      obtain ⟨ba, oa, rfl, hba, e0, e1, e2, e3⟩ := p4_cell HAA.out (show i < A.length by rw [HL.out]; exact hiL)
      obtain ⟨bb, ob, rfl, hbb, f0, f1, f2, f3⟩ := p4_cell HBB.out (show i < B.length by rw [HM.out]; exact hiL)
      rw [hpa] at e0 e1 e2 e3
      rw [hpb] at f0 f1 f2 f3
      replace e0 := (hbel.cell (p := ⟨ba, oa + i * 4, none⟩) hba).trans e0
      replace e1 := (hbel.cell (p := ⟨ba, oa + i * 4 + 1, none⟩) hba).trans e1
      replace e2 := (hbel.cell (p := ⟨ba, oa + i * 4 + 2, none⟩) hba).trans e2
      replace e3 := (hbel.cell (p := ⟨ba, oa + i * 4 + 3, none⟩) hba).trans e3
      have F0 := hid f0
      have F1 := hid f1
      have F2 := hid f2
      have F3 := hid f3
      clear hpa hpb f0 f1 f2 f3
      go_wp2_with fail
      have kb := Blk.new wr #[.int .i64 a1, .int .i64 a2, .int .i64 a3, .int .i64 a4] 52
      have hbA := alloc_below wr (.cells #[.int .i64 a1, .int .i64 a2, .int .i64 a3, .int .i64 a4] 52)
      obtain ⟨W, hW⟩ : ∃ W, wr.alloc (.cells #[.int .i64 a1, .int .i64 a2, .int .i64 a3, .int .i64 a4] 52) = W := ⟨_, rfl⟩
      obtain ⟨H, hH⟩ : ∃ B, wr.heap.size = B := ⟨_, rfl⟩
      have hbelW := hbel.trans (hbA.mono hbel.size)
      rw [hW] at kb hbelW ⊢
      rw [hH] at kb ⊢
      clear hW hH hbA e0 e1 e2 e3 hbel
      have hd := (Below.refl W.heap.size W).drew
      have hbd := hbelW.trans (hd.mono hbelW.size)
      have x0 := fun x : SubT (Below W.heap.size) W.drew => (kb.below (hd.trans x.b)).look 0 rfl
      have x1 := fun x : SubT (Below W.heap.size) W.drew => (kb.below (hd.trans x.b)).look 1 rfl
      have x2 := fun x : SubT (Below W.heap.size) W.drew => (kb.below (hd.trans x.b)).look 2 rfl
      have x3 := fun x : SubT (Below W.heap.size) W.drew => (kb.below (hd.trans x.b)).look 3 rfl
      have y0 := fun x : SubT (Below W.heap.size) W.drew => ((hbelW.trans ((hd.trans x.b).mono hbelW.size)).cell (p := ⟨bb, ob + i * 4, none⟩) hbb).trans F0.out
      have y1 := fun x : SubT (Below W.heap.size) W.drew => ((hbelW.trans ((hd.trans x.b).mono hbelW.size)).cell (p := ⟨bb, ob + i * 4 + 1, none⟩) hbb).trans F1.out
      have y2 := fun x : SubT (Below W.heap.size) W.drew => ((hbelW.trans ((hd.trans x.b).mono hbelW.size)).cell (p := ⟨bb, ob + i * 4 + 2, none⟩) hbb).trans F2.out
      have y3 := fun x : SubT (Below W.heap.size) W.drew => ((hbelW.trans ((hd.trans x.b).mono hbelW.size)).cell (p := ⟨bb, ob + i * 4 + 3, none⟩) hbb).trans F3.out
      by_cases g1 : a1 = b1
      case neg =>
        refine wp_walkJ (T := Below (W.heap.size)) (belowV_pre _) (.rd 0 (.rd 1 (.rd 2 (.rd 3 (.rd 4 (.rd 5 (.inv []))))))) (by kernel_rfl) rfl (by kernel_rfl) (by kernel_rfl) ?_
        iterate 6 (refine walkJ_rd rfl (fun K hK => ?_); go_simp; refine hK _ ?_; clear hK K)
        refine walkJ_nil ?_
        clear x0 x1 x2 x3 y0 y1 y2 y3
        go_wp2
        go_ret
        refine ⟨ret_bool ?_, hbd⟩
        rw [← HR.out]; symm
        rw [decide_eq_false_iff_not]
        intro hh
        have h5 : A.getD i z4 = B.getD i z4 := by rw [hh]
        rw [HPA.out, HPB.out] at h5
        simp only [Prod.mk.injEq] at h5
        omega
      by_cases g2 : a2 = b2
      case neg =>
        subst g1
        refine wp_walkJ (T := Below (W.heap.size)) (belowV_pre _) (.rd 0 (.rd 1 (.rd 2 (.rd 3 (.rd 4 (.rd 5 (.inv []))))))) (by kernel_rfl) rfl (by kernel_rfl) (by kernel_rfl) ?_
        iterate 6 (refine walkJ_rd rfl (fun K hK => ?_); go_simp; refine hK _ ?_; clear hK K)
        refine walkJ_nil ?_
        clear x0 x1 x2 x3 y0 y1 y2 y3
        go_wp2
        go_ret
        refine ⟨ret_bool ?_, hbd⟩
        rw [← HR.out]; symm
        rw [decide_eq_false_iff_not]
        intro hh
        have h5 : A.getD i z4 = B.getD i z4 := by rw [hh]
        rw [HPA.out, HPB.out] at h5
        simp only [Prod.mk.injEq] at h5
        omega
      by_cases g3 : a3 = b3
      case neg =>
        subst g1 g2
        refine wp_walkJ (T := Below (W.heap.size)) (belowV_pre _) (.rd 0 (.rd 1 (.rd 2 (.rd 3 (.rd 4 (.rd 5 (.inv []))))))) (by kernel_rfl) rfl (by kernel_rfl) (by kernel_rfl) ?_
        iterate 6 (refine walkJ_rd rfl (fun K hK => ?_); go_simp; refine hK _ ?_; clear hK K)
        refine walkJ_nil ?_
        clear x0 x1 x2 x3 y0 y1 y2 y3
        go_wp2
        go_ret
        refine ⟨ret_bool ?_, hbd⟩
        rw [← HR.out]; symm
        rw [decide_eq_false_iff_not]
        intro hh
        have h5 : A.getD i z4 = B.getD i z4 := by rw [hh]
        rw [HPA.out, HPB.out] at h5
        simp only [Prod.mk.injEq] at h5
        omega
      by_cases g4 : a4 = b4
      case neg =>
        subst g1 g2 g3
        refine wp_walkJ (T := Below (W.heap.size)) (belowV_pre _) (.rd 0 (.rd 1 (.rd 2 (.rd 3 (.rd 4 (.rd 5 (.inv []))))))) (by kernel_rfl) rfl (by kernel_rfl) (by kernel_rfl) ?_
        iterate 6 (refine walkJ_rd rfl (fun K hK => ?_); go_simp; refine hK _ ?_; clear hK K)
        refine walkJ_nil ?_
        clear x0 x1 x2 x3 y0 y1 y2 y3
        go_wp2
        go_ret
        refine ⟨ret_bool ?_, hbd⟩
        rw [← HR.out]; symm
        rw [decide_eq_false_iff_not]
        intro hh
        have h5 : A.getD i z4 = B.getD i z4 := by rw [hh]
        rw [HPA.out, HPB.out] at h5
        simp only [Prod.mk.injEq] at h5
        omega
      subst g1 g2 g3 g4
      refine wp_walkJ (T := Below (W.heap.size)) (belowV_pre _) (.rd 0 (.rd 1 (.rd 2 (.rd 3 (.rd 4 (.rd 5 (.inv []))))))) (by kernel_rfl) rfl (by kernel_rfl) (by kernel_rfl) ?_
      iterate 6 (refine walkJ_rd rfl (fun K hK => ?_); go_simp; refine hK _ ?_; clear hK K)
      refine walkJ_nil ?_
      clear x0 x1 x2 x3 y0 y1 y2 y3
      go_wp2
      go_roundw
      case rel =>
        refine ⟨i + 1, by go_num, by omega, fun j hj => ?_, hbd⟩
        by_cases hji : j = i
        · rw [hji, HPA.out, HPB.out]
        · exact HALL.out j (by omega)
      case measure => simp [intOf]; omega
    · obtain rfl : L = i := by omega
      have hi2 : ¬ (L : Int) < (L : Int) := by omega
      go_wp2
      go_ret
      refine ⟨ret_bool ?_, hbel⟩
      rw [← HR.out]; symm
      rw [decide_eq_true_eq]
      exact list_eq_of (by rw [HL.out, HM.out]) (fun j hj => HALL.out j (by rw [← HL.out]; exact hj))

end Go.Proofs.YtfkclcoipadhmaaDoor
