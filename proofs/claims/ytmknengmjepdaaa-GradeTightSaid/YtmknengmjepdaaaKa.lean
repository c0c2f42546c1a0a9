/- Walk of slices.Equal over whole numbers. -/
import Derived.Test.YtmknengmjepdaaaMd
import Derived.Test.YtmknengmjepdaaaRk
namespace Go.Proofs.Ytmknengmjepdaaa
open Go.RowKit

theorem ex_int {l : List Int} {i : Nat} (h : i < l.length) : ∃ r, l[i]? = some r := ⟨l[i], List.getElem?_eq_getElem h⟩
set_option maxHeartbeats 1000000 in
set_option maxRecDepth 100000 in
theorem EqInt_any (l m : List Int) (v u : Value) (w : World) (h : IntsR 0 w v l) (h2 : IntsR 0 w u m) :
    Calls Try.prog 37 #[v, u] w fun e w' => e = .returned (.bool (decide (l = m))) ∧ Below w.heap.size w w' := by
  obtain ⟨ao, cap, rfl, hcap, hmax, hc⟩ := h
  obtain ⟨ao2, cap2, rfl, hcap2, hmax2, hc2⟩ := h2
  unfold maxLen at hmax hmax2
  obtain ⟨L, hL⟩ : ∃ L, l.length = L := ⟨_, rfl⟩
  obtain ⟨M, hM⟩ : ∃ L, m.length = L := ⟨_, rfl⟩
  obtain ⟨res, hres⟩ : ∃ b, decide (l = m) = b := ⟨_, rfl⟩
  rw [hres]
  have HR := hid hres
  have HL := hid hL
  have HM := hid hM
  rw [hL] at hcap ⊢
  rw [hM] at hcap2 ⊢
  clear hres hL hM
  by_cases hLM : L = M
  · subst hLM
    go_enter Try.func37, Try.ntmps37
    go_wp2
    go_loopw [13] (fun x wr => ∃ i : Nat, x = .int .i64 i ∧ i ≤ L ∧ l.take i = m.take i ∧ Below w.heap.size w wr) (fun x _ => L - (intOf x).toNat)
    case atStart => exact ⟨0, rfl, Nat.zero_le _, by simp, Below.refl _ _⟩
    case round =>
      obtain ⟨i, rfl, hi, htk, hbel⟩ := hrel
      have HT := hid htk
      clear htk
      by_cases h1 : i < L
      · obtain ⟨n, hn⟩ := ex_int (l := l) (i := i) (by rw [HL.out]; exact h1)
        obtain ⟨n2, hn2⟩ := ex_int (l := m) (i := i) (by rw [HM.out]; exact h1)
        obtain ⟨b, off, rfl, hb, c0⟩ := int_cell hc hn
        obtain ⟨b2, off2, rfl, hb2, d0⟩ := int_cell hc2 hn2
        have e0 := fun x : Sub wr.drew => ((hbel.drew.trans (x.b.mono hbel.size)).cell (p := ⟨b, off + i, none⟩) hb).trans c0
        have f0 := fun x : Sub wr.drew => ((hbel.drew.trans (x.b.mono hbel.size)).cell (p := ⟨b2, off2 + i, none⟩) hb2).trans d0
        have HN := hid hn
        have HN2 := hid hn2
        have hi2 : (i : Int) < (L : Int) := by omega
        clear hn c0 hn2 d0
        by_cases hn : n = n2
        · have HEN := hid hn
          subst hn
          go_wp2_with fail
          refine wp_region_seq [(0, false), (1, false), (2, false), (3, false), (4, false), (5, false), (6, false), (7, false), (8, false)] [(_, false), (_, false), (_, false), (_, false), (_, false), (_, false), (_, false), (_, false), (_, false)] (by kernel_rfl) rfl rfl (by kernel_rfl) ?_
          iterate 9 (refine seqS_read (fun K hK => ?_); go_simp; refine hK _ ?_; clear hK K)
          refine seqS_nil ?_
          clear e0 f0
          go_wp2_with fail
          go_roundw
          case rel =>
            refine ⟨i + 1, by go_num, by omega, ?_, hbel.drew⟩
            have g1 := HL.out
            have g2 := HM.out
            rw [List.take_succ_eq_append_getElem (by omega), List.take_succ_eq_append_getElem (by omega), HT.out]
            have x1 := (List.getElem?_eq_some_iff.1 HN.out).2
            have x2 := (List.getElem?_eq_some_iff.1 HN2.out).2
            rw [x1, x2]
          case measure => simp [intOf]; omega
        · have hlm : l ≠ m := by
            intro he
            have x1 := HN.out
            rw [he, HN2.out] at x1
            exact hn (Option.some.inj x1).symm
          have HLM := hid hlm
          clear hlm
          go_wp2_with fail
          refine wp_region_seq [(0, false), (1, false), (2, false), (3, false), (4, false), (5, false), (6, false), (7, false), (8, false)] [(_, false), (_, false), (_, false), (_, false), (_, false), (_, false), (_, false), (_, false), (_, false)] (by kernel_rfl) rfl rfl (by kernel_rfl) ?_
          iterate 9 (refine seqS_read (fun K hK => ?_); go_simp; refine hK _ ?_; clear hK K)
          refine seqS_nil ?_
          clear e0 f0
          go_wp2
          refine bodyPost_ret (v := .bool false) (by simp [results, Try.results37, go_sem]) rfl ⟨?_, hbel.drew⟩
          rw [← HR.out, decide_eq_false HLM.out]
      · obtain rfl : i = L := by omega
        go_wp2
        refine bodyPost_ret (v := .bool true) (by simp [results, Try.results37, go_sem]) rfl ⟨?_, hbel⟩
        have g1 := HT.out
        rw [List.take_of_length_le (by rw [HL.out]; omega), List.take_of_length_le (by rw [HM.out]; omega)] at g1
        rw [← HR.out, decide_eq_true g1]
  · have hlm : l ≠ m := by
      intro he
      apply hLM
      rw [← HL.out, ← HM.out, he]
    have HLM := hid hlm
    clear hlm
    go_enter Try.func37, Try.ntmps37
    go_wp2
    refine bodyPost_ret (v := .bool false) (by simp [results, Try.results37, go_sem]) rfl ⟨?_, Below.refl _ _⟩
    rw [← HR.out, decide_eq_false HLM.out]

end Go.Proofs.Ytmknengmjepdaaa
