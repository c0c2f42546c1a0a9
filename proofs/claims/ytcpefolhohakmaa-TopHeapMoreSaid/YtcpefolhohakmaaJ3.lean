/- Barrier: the gloves beside those that some greatest matching leaves out. -/
import Derived.Test.YtcpefolhohakmaaJ2
namespace Go.Proofs.Ytcpefolhohakmaa
open Go.RowKit
attribute [local irreducible] seqS seqST walkV walkJ

set_option maxHeartbeats 2000000 in
set_option maxRecDepth 100000 in
theorem IndexF_any (l : List Nat) (q : Nat → Bool) (cp v : Value) (w : World) (h : SlR 0 w v l.length (natI l)) (hf : ∀ y, y ∈ l → Calls Try.prog 37 #[.int .i64 (y : Int), cp] w fun r w' => r = .returned (.bool (q y)) ∧ w = w') :
    Calls Try.prog 69 #[v, .func (.func 37) #[] #[cp]] w fun r w' => r = .returned (.int .i64 (frst (fun i => q (l.getD i 0)) l.length)) ∧ w = w' := by
  have HV := hid (SlS.of_sl (S := fun _ => True) h (fun _ _ _ => trivial))
  have HF := hid hf
  obtain ⟨ao, cap, rfl, hcap, hmax, -⟩ := h
  unfold maxLen at hmax
  obtain ⟨L, hL⟩ : ∃ L, l.length = L := ⟨_, rfl⟩
  have HL := hid hL
  rw [hL] at hcap HV ⊢
  obtain ⟨p, hp⟩ : ∃ p, (fun i => q (l.getD i 0)) = p := ⟨_, rfl⟩
  have HP := hid hp
  rw [hp]
  obtain ⟨R, hR⟩ : ∃ R, frst p L = R := ⟨_, rfl⟩
  have HR := hid hR
  rw [hR]
  clear hL hp hR hf
  go_enter Try.func69, Try.ntmps69
  go_wp2_with fail
  go_loop [5, 8] (fun _ z => ∃ k : Nat, z = .int .i64 k ∧ k ≤ L ∧ Hid (frst p k = -1)) (fun _ z => L - (intOf z).toNat)
  case atStart => exact ⟨0, rfl, Nat.zero_le _, hid rfl⟩
  case round =>
    obtain ⟨k, rfl, hkL, HB⟩ := hrel
    by_cases hkn : k < L
    case pos =>
      have hk2 : (k : Int) < (L : Int) := by omega
      obtain ⟨b, off, rfl, _, hb, x0⟩ := nat_cell (l := l) (by rw [HL.out]; exact HV.out) (show k < l.length by rw [HL.out]; exact hkn)
      have hs : frst p (k + 1) = if frst p k = -1 then (if p k then (k : Int) else -1) else frst p k := rfl
      rw [if_pos HB.out] at hs
      have hpk : p k = q (l.getD k 0) := by rw [← HP.out]
      have hmem := getD_mem (show k < l.length by rw [HL.out]; exact hkn)
      obtain ⟨y, hy⟩ : ∃ y, l.getD k 0 = y := ⟨_, rfl⟩
      rw [hy] at x0 hpk hmem
      have W1 := hid (HF.out y hmem)
      rw [← hpk] at W1
      obtain ⟨B, hB⟩ : ∃ B, p k = B := ⟨_, rfl⟩
      rw [hB] at W1 hs
      have HS := hid hs
      have HT : Hid (frst p (k + 1) ≠ -1 → R = frst p (k + 1)) := hid (fun h => by
        have := frst_stay p (k + 1) (L - (k + 1)) h
        rw [show k + 1 + (L - (k + 1)) = L by omega, HR.out] at this; exact this)
      clear hy hpk hB hs hmem
      go_wp2_with fail
      refine W1.out.mono ?_
      rintro r w1 ⟨rfl, rfl⟩
      clear W1
      cases B with
      | true =>
        have hfin : Hid (R = (k : Int)) := hid (by
          rw [HT.out (by rw [HS.out, if_pos rfl]; omega), HS.out, if_pos rfl])
        clear HS HT HB HR
        go_wp2
        go_ret
        exact ⟨ret_int (by rw [hfin.out]), rfl⟩
      | false =>
        have HB2 : Hid (frst p (k + 1) = -1) := hid (by rw [HS.out]; rfl)
        clear HS HT HB
        go_wp2
        go_round
        case rel => exact ⟨k + 1, by go_num, by omega, HB2⟩
        case measure => simp [intOf]; omega
    case neg =>
      obtain rfl : L = k := by omega
      have hk2 : ¬ (L : Int) < (L : Int) := by omega
      have hfin : Hid (R = -1) := hid (by rw [← HR.out, HB.out])
      clear HB HR
      go_wp2
      go_ret
      exact ⟨ret_int (by rw [hfin.out]), rfl⟩

theorem frst_any (l : List Nat) (q : Nat → Bool) : decide (0 ≤ frst (fun i => q (l.getD i 0)) l.length) = l.any q := by
  rw [Bool.eq_iff_iff, decide_eq_true_eq, List.any_eq_true]
  rcases frst_cases (fun i => q (l.getD i 0)) l.length with h | ⟨i, h, h1, h2, _⟩
  · rw [h]
    refine ⟨fun h => by omega, ?_⟩
    rintro ⟨y, hy, hq⟩
    obtain ⟨i, hi, e⟩ := List.mem_iff_getElem.1 hy
    have := (frst_none (fun i => q (l.getD i 0)) l.length).1 h i hi
    simp [List.getD_eq_getElem?_getD, List.getElem?_eq_getElem hi, e, hq] at this
  · rw [h]
    exact ⟨fun _ => ⟨_, getD_mem h1, h2⟩, fun _ => by omega⟩

set_option maxHeartbeats 1000000 in
theorem ContainsF_any (l : List Nat) (q : Nat → Bool) (cp v : Value) (w : World) (h : SlR 0 w v l.length (natI l)) (hf : ∀ y, y ∈ l → Calls Try.prog 37 #[.int .i64 (y : Int), cp] w fun r w' => r = .returned (.bool (q y)) ∧ w = w') :
    Calls Try.prog 36 #[v, .func (.func 37) #[] #[cp]] w fun r w' => r = .returned (.bool (l.any q)) ∧ w = w' := by
  have IX := hid (IndexF_any l q cp v w h hf)
  have hB := hid (frst_any l q)
  obtain ⟨z, hz⟩ : ∃ z, frst (fun i => q (l.getD i 0)) l.length = z := ⟨_, rfl⟩
  rw [hz] at IX hB
  clear hf hz h
  go_enter Try.func36, Try.ntmps36
  go_wp2_with fail
  refine IX.out.mono ?_
  rintro r w1 ⟨rfl, rfl⟩
  clear IX
  go_wp2
  go_ret
  exact ⟨ret_bool hB.out, rfl⟩

set_option maxHeartbeats 1000000 in
theorem barr1_any {n y gl gb : Nat} {ev : Nat → Bool} (hy : y < n) (w : World) (hb : Blk w gb #[slV gl n] 80) (hl : Blk w gl (arr n fun i => .bool (ev i)) 4) :
    Calls Try.prog 37 #[.int .i64 (y : Int), .pointer (some ⟨gb, 0, none⟩)] w fun r w' => r = .returned (.bool (ev y)) ∧ w = w' := by
  have x0 := hb.look 0 rfl
  have x1 := hl.arr_look hy
  have hy2 : (y : Int) < (n : Int) := by omega
  unfold slV at x0
  clear hb hl
  go_enter Try.func37, Try.ntmps37
  go_wp2
  go_ret
  exact ⟨rfl, rfl⟩

end Go.Proofs.Ytcpefolhohakmaa
