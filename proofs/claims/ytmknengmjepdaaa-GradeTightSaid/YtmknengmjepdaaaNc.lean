/- Walks of trankref01's natural numbers: plus. -/
import Derived.Test.YtmknengmjepdaaaNb
namespace Go.Proofs.Ytmknengmjepdaaa
open Go.RowKit

theorem take_step {a : List Nat} {i : Nat} (h : i < a.length) : dval (a.take (i + 1)) = dval (a.take i) + 4294967296 ^ i * a.getD i 0 := by
  rw [List.take_succ_eq_append_getElem h, dval_append, List.length_take, Nat.min_eq_left (by omega), List.getD_eq_getElem?_getD, List.getElem?_eq_getElem h]
  simp [dval]
theorem take_stay {a : List Nat} {i : Nat} (h : a.length ≤ i) : dval (a.take (i + 1)) = dval (a.take i) := by
  rw [List.take_of_length_le (by omega), List.take_of_length_le h]
/-- What a round of plus does to the sums. -/
theorem plus_step {outs : List Nat} {i c s x y X Y X' Y' : Nat} (hl : outs.length = i) (h : dval outs + 4294967296 ^ i * c = X + Y) (hX : X' = X + 4294967296 ^ i * x) (hY : Y' = Y + 4294967296 ^ i * y)
    (hs : s = c + x + y) : dval (outs ++ [s % 4294967296]) + 4294967296 ^ (i + 1) * (s / 4294967296) = X' + Y' := by
  rw [dval_append, hl, hX, hY, Nat.pow_succ]
  simp only [dval, Nat.mul_zero, Nat.add_zero]
  have h1 : s % 4294967296 + 4294967296 * (s / 4294967296) = s := by omega
  rw [Nat.mul_assoc, Nat.add_assoc, ← Nat.mul_add, h1, hs, Nat.mul_add, Nat.mul_add]
  generalize 4294967296 ^ i * c = p at *
  generalize 4294967296 ^ i * x = q at *
  generalize 4294967296 ^ i * y = r at *
  omega
theorem all_snoc {outs : List Nat} {s : Nat} (h : ∀ d ∈ outs, d < 4294967296) : ∀ d ∈ outs ++ [s % 4294967296], d < 4294967296 := by
  intro d hd
  rcases List.mem_append.1 hd with hd | hd
  · exact h d hd
  · simp at hd; omega

set_option maxHeartbeats 1000000 in
theorem plus_any (a b : Nat) (u v : Value) (w : World) (ha : NatR w u a) (hb : NatR w v b) (la : (digs a).length ≤ 1099511627776) (lb : (digs b).length ≤ 1099511627776) :
    Calls Try.prog 85 #[u, v] w fun e w' => ∃ v', e = .returned v' ∧ NatF w.heap.size w' v' (a + b) ∧ Below w.heap.size w w' := by
  obtain ⟨ao, cap, rfl, hcap, hmax, hc⟩ := ha
  obtain ⟨bo, bcap, rfl, hbcap, hbmax, hbc⟩ := hb
  unfold maxLen at hmax hbmax
  obtain ⟨L, hL⟩ : ∃ L, (digs a).length = L := ⟨_, rfl⟩
  obtain ⟨M, hM⟩ : ∃ M, (digs b).length = M := ⟨_, rfl⟩
  have HL := hid hL
  have HM := hid hM
  have hda := digs_lt a
  have hdb := digs_lt b
  have HA := hid hda
  have HB := hid hdb
  rw [hL] at hcap la ⊢
  rw [hM] at hbcap lb ⊢
  clear hL hM hda hdb
  go_enter Try.func85, Try.ntmps85
  go_wp2
  go_loopw [5, 6, 7] (fun v x y wr => ∃ (i c : Nat) (outs : List Nat), x = .int .u64 c ∧ y = .int .i64 i ∧ c ≤ 1 ∧ outs.length = i ∧ i ≤ max L M + 1 ∧ (i ≤ max L M ∨ c = 0) ∧ (∀ d ∈ outs, d < 4294967296) ∧ wr.ownsRow w.heap.size 116 1 v outs.length (u32s outs) ∧
      dval outs + 4294967296 ^ i * c = dval ((digs a).take i) + dval ((digs b).take i) ∧ Below w.heap.size w wr) (fun _ _ y _ => max L M + 1 - (intOf y).toNat)
  case atStart => exact ⟨0, 0, [], rfl, rfl, by omega, rfl, by omega, .inr rfl, by simp, World.ownsRow_nil _ _ _ _, by simp [dval], Below.refl _ _⟩
  case round =>
    obtain ⟨i, c, outs, rfl, rfl, hc1, hlen, hi, hic, hall, hown, hsum, hbel⟩ := hrel
    have HLen := hid hlen
    have HAll := hid hall
    have HS := hid hsum
    have hsz := hbel.size
    rw [hlen] at hown
    clear hlen hall hsum
    by_cases h1 : i < L
    · obtain ⟨b1, off1, rfl, hb1, hcell1⟩ := u32s_cell hc (i := i) (by rw [HL.out]; omega)
      have hcr1 := (hbel.cell (p := ⟨b1, off1 + i, none⟩) hb1).trans hcell1
      obtain ⟨x, hx⟩ : ∃ d, (digs a).getD i 0 = d := ⟨_, rfl⟩
      have hxl : x < 4294967296 := by rw [← hx, List.getD_eq_getElem?_getD, List.getElem?_eq_getElem (by rw [HL.out]; omega)]; exact HA.out _ (List.getElem_mem _)
      rw [hx] at hcr1
      have HX := hid hx
      clear hx hcell1
      by_cases h2 : i < M
      · obtain ⟨b2, off2, rfl, hb2, hcell2⟩ := u32s_cell hbc (i := i) (by rw [HM.out]; omega)
        have hcr2 := (hbel.cell (p := ⟨b2, off2 + i, none⟩) hb2).trans hcell2
        obtain ⟨y, hy⟩ : ∃ d, (digs b).getD i 0 = d := ⟨_, rfl⟩
        have hyl : y < 4294967296 := by rw [← hy, List.getD_eq_getElem?_getD, List.getElem?_eq_getElem (by rw [HM.out]; omega)]; exact HB.out _ (List.getElem_mem _)
        rw [hy] at hcr2
        have HY := hid hy
        clear hy hcell2 hb2
        go_wp2_with (at_builtin; refine wpList_app rfl (.tmp 46) (.tmp 49) _ rfl w.heap.size 116 (.int .u32 0) 1 4 Try.underlying41 infoU32 rfl (by decide) 116 _ _ _ rfl hown [_] rfl rfl (by simp [Value.oneCell']) (by unfold maxLen; omega) (by omega) (by omega) ?_; intro g gcap w2 hown2 hb2 _ _ _)
        go_roundw
        case rel => exact ⟨i + 1, (c + x + y) / 4294967296, outs ++ [(c + x + y) % 4294967296], by go_num, by go_num, by omega, by rw [List.length_append, HLen.out]; rfl, by omega, by omega, all_snoc HAll.out, by rw [u32s_append, List.length_append, HLen.out]; exact hown2, plus_step HLen.out HS.out (x := x) (y := y) (by rw [take_step (by rw [HL.out]; omega), HX.out]) (by rw [take_step (by rw [HM.out]; omega), HY.out]) (by omega), hbel.trans hb2⟩
        case measure => simp [intOf]; omega
      · have hM2 := Nat.le_of_not_lt h2
        go_wp2_with (at_builtin; refine wpList_app rfl (.tmp 46) (.tmp 49) _ rfl w.heap.size 116 (.int .u32 0) 1 4 Try.underlying41 infoU32 rfl (by decide) 116 _ _ _ rfl hown [_] rfl rfl (by simp [Value.oneCell']) (by unfold maxLen; omega) (by omega) (by omega) ?_; intro g gcap w2 hown2 hb2 _ _ _)
        go_roundw
        case rel => exact ⟨i + 1, (c + x) / 4294967296, outs ++ [(c + x) % 4294967296], by go_num, by go_num, by omega, by rw [List.length_append, HLen.out]; rfl, by omega, by omega, all_snoc HAll.out, by rw [u32s_append, List.length_append, HLen.out]; exact hown2, plus_step HLen.out HS.out (x := x) (y := 0) (by rw [take_step (by rw [HL.out]; omega), HX.out]) (take_stay (by rw [HM.out]; omega)) (by omega), hbel.trans hb2⟩
        case measure => simp [intOf]; omega
    · by_cases h2 : i < M
      · obtain ⟨b2, off2, rfl, hb2, hcell2⟩ := u32s_cell hbc (i := i) (by rw [HM.out]; omega)
        have hcr2 := (hbel.cell (p := ⟨b2, off2 + i, none⟩) hb2).trans hcell2
        obtain ⟨y, hy⟩ : ∃ d, (digs b).getD i 0 = d := ⟨_, rfl⟩
        have hyl : y < 4294967296 := by rw [← hy, List.getD_eq_getElem?_getD, List.getElem?_eq_getElem (by rw [HM.out]; omega)]; exact HB.out _ (List.getElem_mem _)
        rw [hy] at hcr2
        have HY := hid hy
        clear hy hcell2 hb2
        go_wp2_with (at_builtin; refine wpList_app rfl (.tmp 46) (.tmp 49) _ rfl w.heap.size 116 (.int .u32 0) 1 4 Try.underlying41 infoU32 rfl (by decide) 116 _ _ _ rfl hown [_] rfl rfl (by simp [Value.oneCell']) (by unfold maxLen; omega) (by omega) (by omega) ?_; intro g gcap w2 hown2 hb2 _ _ _)
        go_roundw
        case rel => exact ⟨i + 1, (c + y) / 4294967296, outs ++ [(c + y) % 4294967296], by go_num, by go_num, by omega, by rw [List.length_append, HLen.out]; rfl, by omega, by omega, all_snoc HAll.out, by rw [u32s_append, List.length_append, HLen.out]; exact hown2, plus_step HLen.out HS.out (x := 0) (y := y) (take_stay (by rw [HL.out]; omega)) (by rw [take_step (by rw [HM.out]; omega), HY.out]) (by omega), hbel.trans hb2⟩
        case measure => simp [intOf]; omega
      · by_cases h3 : c = 0
        · subst h3
          go_wp2_with (go_at_call 115; refine (trimmed_any w.heap.size outs _ _ HAll.out (by unfold DsR; rw [HLen.out]; exact SlR.of_owns hown)).mono ?_; rintro e w' ⟨v', rfl, hv', rfl⟩)
          go_ret
          refine ⟨_, rfl, ?_, hbel⟩
          have h := HS.out
          rw [List.take_of_length_le (by rw [HL.out]; omega), List.take_of_length_le (by rw [HM.out]; omega), dval_digs, dval_digs] at h
          rw [← h]; simpa using hv'
        · obtain rfl : c = 1 := by omega
          go_wp2_with (at_builtin; refine wpList_app rfl (.tmp 46) (.tmp 49) _ rfl w.heap.size 116 (.int .u32 0) 1 4 Try.underlying41 infoU32 rfl (by decide) 116 _ _ _ rfl hown [.int .u32 ((1 : Nat) : Int)] rfl rfl (by simp [Value.oneCell']) (by unfold maxLen; omega) (by omega) (by omega) ?_; intro g gcap w2 hown2 hb2 _ _ _)
          go_roundw
          case rel => exact ⟨i + 1, 0, outs ++ [1], by go_num, by go_num, by omega, by rw [List.length_append, HLen.out]; rfl, by omega, by omega, all_snoc (s := 1) HAll.out, by rw [u32s_append, List.length_append, HLen.out]; exact hown2, plus_step HLen.out HS.out (s := 1) (x := 0) (y := 0) (take_stay (by rw [HL.out]; omega)) (take_stay (by rw [HM.out]; omega)) rfl, hbel.trans hb2⟩
          case measure => simp [intOf]; omega

end Go.Proofs.Ytmknengmjepdaaa
