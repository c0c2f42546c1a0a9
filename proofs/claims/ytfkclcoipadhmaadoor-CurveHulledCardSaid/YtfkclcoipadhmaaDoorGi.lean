/- Walks of slices.Index and slices.Contains at points. -/
import Derived.Test.YtfkclcoipadhmaaDoorDv
import Derived.Test.YtfkclcoipadhmaaDoorEd
namespace Go.Proofs.YtfkclcoipadhmaaDoor
open Go.RowKit
attribute [local irreducible] seqS seqST walkV walkJ

def p4V (p : P4) : Value := .agg #[.int .i64 p.1.1, .int .i64 p.1.2, .int .i64 p.2.1, .int .i64 p.2.2]

set_option maxHeartbeats 8000000 in
set_option maxRecDepth 100000 in
theorem indexPt_any (c : List P4) (p : P4) (v : Value) (w : World) (h : P4R 0 w v c) (hp : p ∈ c) :
    Calls Tryd.prog 97 #[v, p4V p] w fun r w' => (∃ k : Nat, r = .returned (.int .i64 (k : Int))) ∧ Below w.heap.size w w' := by
  obtain ⟨aa, ca, rfl, hca, hma, hAA⟩ := h
  unfold maxLen at hma
  have HAA := hid hAA
  have HP := hid hp
  obtain ⟨L, hL⟩ : ∃ L, c.length = L := ⟨_, rfl⟩
  have HL := hid hL
  rw [hL] at hca ⊢
  obtain ⟨⟨⟨b1, b2⟩, ⟨b3, b4⟩⟩, hpb⟩ : ∃ q : P4, p = q := ⟨_, rfl⟩
  have HPB := hid hpb
  rw [hpb]
  unfold p4V
  have kP := Blk.new w #[.int .i64 b1, .int .i64 b2, .int .i64 b3, .int .i64 b4] 52
  have bP := alloc_below w (.cells #[.int .i64 b1, .int .i64 b2, .int .i64 b3, .int .i64 b4] 52)
  have HKP := hid kP
  clear hL hAA hp hpb
  go_enter Tryd.func97, Tryd.ntmps97
  go_wp2_with fail
  go_loopw [8] (fun x wr => ∃ i : Nat, x = .int .i64 i ∧ i ≤ L ∧ Hid (∀ j, j < i → c.getD j z4 ≠ p) ∧ Below w.heap.size w wr ∧ Hid (Blk wr w.heap.size #[.int .i64 b1, .int .i64 b2, .int .i64 b3, .int .i64 b4] 52)) (fun x _ => L - (intOf x).toNat)
  case atStart => exact ⟨0, rfl, Nat.zero_le _, hid (fun j hj => by omega), bP, hid kP⟩
  case round =>
    obtain ⟨i, rfl, hi, HALL, hbel, HK⟩ := hrel
    by_cases hiL : i < L
    case pos =>
      have hi2 : (i : Int) < (L : Int) := by omega
      obtain ⟨⟨⟨a1, a2⟩, ⟨a3, a4⟩⟩, hpa⟩ : ∃ p : P4, c.getD i z4 = p := ⟨_, rfl⟩
      have HPA := hid hpa
      obtain ⟨ba, oa, rfl, hba, e0, e1, e2, e3⟩ := p4_cell HAA.out (show i < c.length by rw [HL.out]; exact hiL)
      rw [hpa] at e0 e1 e2 e3
      replace e0 := (hbel.cell (p := ⟨ba, oa + i * 4, none⟩) hba).trans e0
      replace e1 := (hbel.cell (p := ⟨ba, oa + i * 4 + 1, none⟩) hba).trans e1
      replace e2 := (hbel.cell (p := ⟨ba, oa + i * 4 + 2, none⟩) hba).trans e2
      replace e3 := (hbel.cell (p := ⟨ba, oa + i * 4 + 3, none⟩) hba).trans e3
      have f0 := HK.out.look 0 rfl
      have f1 := HK.out.look 1 rfl
      have f2 := HK.out.look 2 rfl
      have f3 := HK.out.look 3 rfl
      have hnew : c.getD i z4 ≠ p → ∀ j, j < i + 1 → c.getD j z4 ≠ p := fun h j hj => by
        by_cases hji : j = i
        · rw [hji]; exact h
        · exact HALL.out j (by omega)
      have HNEW := hid hnew
      clear hpa hnew kP bP HKP
      by_cases g1 : a1 = b1
      case neg =>
        have HNE2 := hid (HNEW.out (fun e => g1 (by rw [HPA.out, HPB.out] at e; simp only [Prod.mk.injEq] at e; exact e.1.1)))
        have g1' : ¬ b1 = a1 := fun e => g1 e.symm
        go_wp2_with fail
        go_region
        go_wp2
        go_roundw
        case rel => exact ⟨i + 1, by go_num, by omega, hid HNE2.out, hbel.drew, HK.out.below (Below.refl wr.heap.size wr).drew⟩
        case measure => simp [intOf] <;> omega
      by_cases g2 : a2 = b2
      case neg =>
        have HNE2 := hid (HNEW.out (fun e => g2 (by rw [HPA.out, HPB.out] at e; simp only [Prod.mk.injEq] at e; exact e.1.2)))
        have g2' : ¬ b2 = a2 := fun e => g2 e.symm
        subst g1
        go_wp2_with fail
        go_region
        go_wp2
        go_roundw
        case rel => exact ⟨i + 1, by go_num, by omega, hid HNE2.out, hbel.drew, HK.out.below (Below.refl wr.heap.size wr).drew⟩
        case measure => simp [intOf] <;> omega
      by_cases g3 : a3 = b3
      case neg =>
        have HNE2 := hid (HNEW.out (fun e => g3 (by rw [HPA.out, HPB.out] at e; simp only [Prod.mk.injEq] at e; exact e.2.1)))
        have g3' : ¬ b3 = a3 := fun e => g3 e.symm
        subst g1 g2
        go_wp2_with fail
        go_region
        go_wp2
        go_roundw
        case rel => exact ⟨i + 1, by go_num, by omega, hid HNE2.out, hbel.drew, HK.out.below (Below.refl wr.heap.size wr).drew⟩
        case measure => simp [intOf] <;> omega
      by_cases g4 : a4 = b4
      case neg =>
        have HNE2 := hid (HNEW.out (fun e => g4 (by rw [HPA.out, HPB.out] at e; simp only [Prod.mk.injEq] at e; exact e.2.2)))
        have g4' : ¬ b4 = a4 := fun e => g4 e.symm
        subst g1 g2 g3
        go_wp2_with fail
        go_region
        go_wp2
        go_roundw
        case rel => exact ⟨i + 1, by go_num, by omega, hid HNE2.out, hbel.drew, HK.out.below (Below.refl wr.heap.size wr).drew⟩
        case measure => simp [intOf] <;> omega
      subst g1 g2 g3 g4
      go_wp2_with fail
      go_region
      go_wp2
      go_ret
      exact ⟨⟨i, rfl⟩, hbel.drew⟩
    case neg =>
      exfalso
      obtain ⟨j, hj, he⟩ := List.mem_iff_getElem.1 HP.out
      refine HALL.out j (by have := HL.out; omega) ?_
      rw [List.getD_eq_getElem?_getD, List.getElem?_eq_getElem hj]
      exact he

set_option maxHeartbeats 4000000 in
set_option maxRecDepth 100000 in
theorem containsPt_any (c : List P4) (p : P4) (v : Value) (w : World) (h : P4R 0 w v c) (hp : p ∈ c) :
    Calls Tryd.prog 48 #[v, p4V p] w fun r w' => r = .returned (.bool true) ∧ Below w.heap.size w w' := by
  have IN := hid (fun w h => indexPt_any c p v w h hp)
  obtain ⟨aa, ca, rfl, -⟩ := id h
  unfold p4V at IN ⊢
  have kP := Blk.new w #[.int .i64 p.1.1, .int .i64 p.1.2, .int .i64 p.2.1, .int .i64 p.2.2] 52
  have bP := alloc_below w (.cells #[.int .i64 p.1.1, .int .i64 p.1.2, .int .i64 p.2.1, .int .i64 p.2.2] 52)
  have hA := h.below bP
  have f0 := kP.look 0 rfl
  have f1 := kP.look 1 rfl
  have f2 := kP.look 2 rfl
  have f3 := kP.look 3 rfl
  clear hp h
  go_enter Tryd.func48, Tryd.ntmps48
  go_wp2_with fail
  refine (IN.out _ hA).mono ?_
  rintro r w1 ⟨⟨k, rfl⟩, hb⟩
  have hb' := bP.trans (hb.mono bP.size)
  have hk : 0 ≤ (k : Int) := by omega
  go_wp2
  go_ret
  exact ⟨rfl, hb'⟩

end Go.Proofs.YtfkclcoipadhmaaDoor
