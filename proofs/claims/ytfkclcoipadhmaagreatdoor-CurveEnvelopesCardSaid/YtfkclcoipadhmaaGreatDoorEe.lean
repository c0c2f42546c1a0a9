/- Walk of slices.Equal at fractions. -/
import Derived.Test.YtfkclcoipadhmaaGreatDoorCw
import Derived.Test.YtfkclcoipadhmaaGreatDoorDy
namespace Go.Proofs.YtfkclcoipadhmaaGreatDoor
open Go.RowKit
attribute [local irreducible] seqS seqST walkV walkJ

set_option maxHeartbeats 1000000 in
theorem EqFr_any (l m : List (Int × Int)) (v u : Value) (w : World) (h : FrsR 0 w v l) (h2 : FrsR 0 w u m) :
    Calls Tryz.prog 35 #[v, u] w fun e w' => e = .returned (.bool (decide (l = m))) ∧ Below w.heap.size w w' := by
  obtain ⟨ao, cap, rfl, hcap, hmax, hc⟩ := h
  obtain ⟨ao2, cap2, rfl, hcap2, hmax2, hc2⟩ := h2
  unfold maxLen at hmax hmax2
  obtain ⟨L, hL⟩ : ∃ L, l.length = L := ⟨_, rfl⟩
  obtain ⟨M, hM⟩ : ∃ L, m.length = L := ⟨_, rfl⟩
  obtain ⟨res, hres⟩ : ∃ b, decide (l = m) = b := ⟨_, rfl⟩
  rw [hres]
  have HR := hid hres
  have HL := hid hL
  have HM := hid hM
  rw [hL] at hcap ⊢
  rw [hM] at hcap2 ⊢
  clear hres hL hM
  by_cases hLM : L = M
  · subst hLM
    go_enter Tryz.func35, Tryz.ntmps35
    go_wp2
    go_loopw [13] (fun x wr => ∃ i : Nat, x = .int .i64 i ∧ i ≤ L ∧ l.take i = m.take i ∧ Below w.heap.size w wr) (fun x _ => L - (intOf x).toNat)
    case atStart => exact ⟨0, rfl, Nat.zero_le _, by simp, Below.refl _ _⟩
    case round =>
      obtain ⟨i, rfl, hi, htk, hbel⟩ := hrel
      have HT := hid htk
      clear htk
      by_cases h1 : i < L
      · obtain ⟨b, off, rfl, hb, c0, c1⟩ := fr_cell hc (by rw [HL.out]; exact h1)
        obtain ⟨b2, off2, rfl, hb2, d0, d1⟩ := fr_cell hc2 (i := i) (by rw [HM.out]; exact h1)
        have e0 := (hbel.cell (p := ⟨b, off + i * 2, none⟩) hb).trans c0
        have e1 := (hbel.cell (p := ⟨b, off + i * 2 + 1, none⟩) hb).trans c1
        have f0 := (hbel.cell (p := ⟨b2, off2 + i * 2, none⟩) hb2).trans d0
        have f1 := (hbel.cell (p := ⟨b2, off2 + i * 2 + 1, none⟩) hb2).trans d1
        obtain ⟨n, hn⟩ : ∃ n, (l.getD i (0, 0)).1 = n := ⟨_, rfl⟩
        obtain ⟨d, hd⟩ : ∃ n, (l.getD i (0, 0)).2 = n := ⟨_, rfl⟩
        obtain ⟨n2, hn2⟩ : ∃ n, (m.getD i (0, 0)).1 = n := ⟨_, rfl⟩
        obtain ⟨d2, hd2⟩ : ∃ n, (m.getD i (0, 0)).2 = n := ⟨_, rfl⟩
        rw [hn] at e0
        rw [hd] at e1
        rw [hn2] at f0
        rw [hd2] at f1
        have HN := hid hn
        have HD := hid hd
        have HN2 := hid hn2
        have HD2 := hid hd2
        clear hn hd c0 c1 hn2 hd2 d0 d1
        have hne : ¬ (n = n2 ∧ d = d2) → l ≠ m := by
          intro hh he
          rw [he] at HN HD
          exact hh ⟨HN.out.symm.trans HN2.out, HD.out.symm.trans HD2.out⟩
        by_cases hn : n = n2
        · by_cases hd : d = d2
          · have HEN := hid hn
            have HED := hid hd
            subst hn hd
            clear hne
            go_wp2_with fail
            go_region
            go_wp2
            go_roundw
            case rel =>
              refine ⟨i + 1, by go_num, by omega, ?_, hbel.drew⟩
              have g1 := HL.out
              have g2 := HM.out
              rw [List.take_succ_eq_append_getElem (by omega), List.take_succ_eq_append_getElem (by omega), HT.out]
              have x1 : l[i]'(by omega) = l.getD i (0, 0) := by rw [List.getD_eq_getElem?_getD, List.getElem?_eq_getElem (by omega)]; rfl
              have x2 : m[i]'(by omega) = m.getD i (0, 0) := by rw [List.getD_eq_getElem?_getD, List.getElem?_eq_getElem (by omega)]; rfl
              rw [x1, x2, Prod.ext (HN.out.trans HN2.out.symm) (HD.out.trans HD2.out.symm)]
            case measure => simp [intOf]; omega
          · have hlm := hid (hne (fun hh => hd hh.2))
            have HED := hid hn
            subst hn
            clear hne
            go_wp2_with fail
            go_region
            go_wp2
            refine bodyPost_ret (v := .bool false) (by simp [results, Tryz.results35, go_sem]) rfl ⟨?_, hbel.drew⟩
            rw [← HR.out, decide_eq_false hlm.out]
        · have hlm := hid (hne (fun hh => hn hh.1))
          clear hne
          go_wp2_with fail
          go_region
          go_wp2
          refine bodyPost_ret (v := .bool false) (by simp [results, Tryz.results35, go_sem]) rfl ⟨?_, hbel.drew⟩
          rw [← HR.out, decide_eq_false hlm.out]
      · obtain rfl : i = L := by omega
        go_wp2
        refine bodyPost_ret (v := .bool true) (by simp [results, Tryz.results35, go_sem]) rfl ⟨?_, hbel⟩
        have g1 := HT.out
        rw [List.take_of_length_le (by rw [HL.out]; omega), List.take_of_length_le (by rw [HM.out]; omega)] at g1
        rw [← HR.out, decide_eq_true g1]
  · have hlm : l ≠ m := by
      intro he
      apply hLM
      rw [← HL.out, ← HM.out, he]
    have HLM := hid hlm
    clear hlm
    go_enter Tryz.func35, Tryz.ntmps35
    go_wp2
    refine bodyPost_ret (v := .bool false) (by simp [results, Tryz.results35, go_sem]) rfl ⟨?_, Below.refl _ _⟩
    rw [← HR.out, decide_eq_false HLM.out]


def rawQ (l : List Rat) : List (Int × Int) := l.map fun q => (q.num, (q.den : Int))
theorem QsR.raw {lo : Nat} {w : World} {v : Value} {l : List Rat} (h : QsR lo w v l) : FrsR lo w v (rawQ l) := by
  have e : frCells (rawQ l) = frsC l := by
    unfold frCells rawQ frsC
    rw [List.flatMap_map]
    rfl
  unfold FrsR
  rw [e]
  unfold rawQ
  rw [List.length_map]
  exact h
theorem eqQ_self (l : List Rat) (v u : Value) (w : World) (h : QsR 0 w v l) (h2 : QsR 0 w u l) :
    Calls Tryz.prog 35 #[v, u] w fun e w' => e = .returned (.bool true) ∧ Below w.heap.size w w' := by
  have := EqFr_any (rawQ l) (rawQ l) v u w h.raw h2.raw
  rwa [decide_eq_true rfl] at this
theorem eqP_self (l : List Pt) (v u : Value) (w : World) (h : PsR 0 w v l) (h2 : PsR 0 w u l) :
    Calls Tryz.prog 14 #[v, u] w fun e w' => e = .returned (.bool true) ∧ Below w.heap.size w w' := by
  have := Equal_any (ofQ l) (ofQ l) v u w h.ofQ h2.ofQ
  rwa [decide_eq_true rfl] at this

end Go.Proofs.YtfkclcoipadhmaaGreatDoor
