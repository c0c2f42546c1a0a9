/- Walks of trankref01's natural numbers: less. -/
import Derived.Test.YtmknengmjepdaaaNc
namespace Go.Proofs.Ytmknengmjepdaaa
open Go.RowKit

theorem own_snoc {w : World} {base : Nat} {e : TypeId} {v : Value} {n : Nat} {outs : List Nat} {z : Int} {r : Nat} (h : w.ownsRow base e 1 v n (u32s outs ++ [.int .u32 z])) (hn : outs.length + 1 = n) (hz : z = (r : Int)) :
    w.ownsRow base e 1 v (outs ++ [r]).length (u32s (outs ++ [r])) := by
  subst hz; subst hn
  rw [u32s_append, List.length_append]; exact h
theorem less_step {outs : List Nat} {i c c' r x y X Y X' Y' : Nat} (hl : outs.length = i) (h : dval outs + Y = X + 4294967296 ^ i * c) (hX : X' = X + 4294967296 ^ i * x) (hY : Y' = Y + 4294967296 ^ i * y)
    (hs : r + c + y = x + 4294967296 * c') : dval (outs ++ [r]) + Y' = X' + 4294967296 ^ (i + 1) * c' := by
  rw [dval_append, hl, hX, hY, Nat.pow_succ]
  simp only [dval, Nat.mul_zero, Nat.add_zero]
  rw [Nat.mul_assoc]
  have h1 : 4294967296 ^ i * r + 4294967296 ^ i * c + 4294967296 ^ i * y = 4294967296 ^ i * x + 4294967296 ^ i * (4294967296 * c') := by
    rw [← Nat.mul_add, ← Nat.mul_add, ← Nat.mul_add, hs]
  omega
theorem all_snoc' {outs : List Nat} {s : Nat} (h : ∀ d ∈ outs, d < 4294967296) (hs : s < 4294967296) : ∀ d ∈ outs ++ [s], d < 4294967296 := by
  intro d hd
  rcases List.mem_append.1 hd with hd | hd
  · exact h d hd
  · simp at hd; omega
theorem digit_at {ds : List Nat} (h : ∀ d ∈ ds, d < 4294967296) {i : Nat} : ∃ d, ds.getD i 0 = d ∧ d < 4294967296 := by
  refine ⟨_, rfl, ?_⟩
  rw [List.getD_eq_getElem?_getD]
  by_cases hi : i < ds.length
  · rw [List.getElem?_eq_getElem hi]; exact h _ (List.getElem_mem _)
  · rw [List.getElem?_eq_none (by omega)]; decide
theorem less_end {a b c : Nat} {outs : List Nat} (hl : outs.length = (digs a).length) (hall : ∀ d ∈ outs, d < 4294967296) (hc : c ≤ 1) (hle : b ≤ a)
    (h : dval outs + dval ((digs b).take (digs a).length) = dval ((digs a).take (digs a).length) + 4294967296 ^ (digs a).length * c) : dval outs = a - b := by
  rw [List.take_of_length_le (Nat.le_refl _), List.take_of_length_le (digs_mono_len hle), dval_digs, dval_digs] at h
  have h2 := dval_lt outs hall
  rw [hl] at h2
  rcases (show c = 0 ∨ c = 1 by omega) with rfl | rfl
  · omega
  · omega

set_option maxHeartbeats 1000000 in
theorem less_any (a b : Nat) (u v : Value) (w : World) (ha : NatR w u a) (hb : NatR w v b) (hle : b ≤ a) (la : (digs a).length ≤ 1099511627776) :
    Calls Try.prog 87 #[u, v] w fun e w' => ∃ v', e = .returned v' ∧ NatF w.heap.size w' v' (a - b) ∧ Below w.heap.size w w' := by
  have lb := Nat.le_trans (digs_mono_len hle) la
  have HLe := hid hle
  clear hle
  obtain ⟨ao, cap, rfl, hcap, hmax, hc⟩ := ha
  obtain ⟨bo, bcap, rfl, hbcap, hbmax, hbc⟩ := hb
  unfold maxLen at hmax hbmax
  obtain ⟨L, hL⟩ : ∃ L, (digs a).length = L := ⟨_, rfl⟩
  obtain ⟨M, hM⟩ : ∃ M, (digs b).length = M := ⟨_, rfl⟩
  have HL := hid hL
  have HM := hid hM
  have hda := digs_lt a
  have hdb := digs_lt b
  have HA := hid hda
  have HB := hid hdb
  rw [hL] at hcap la ⊢
  rw [hM] at hbcap lb ⊢
  clear hL hM hda hdb
  go_enter Try.func87, Try.ntmps87
  go_wp2
  go_loopw [5, 6, 11] (fun v x y wr => ∃ (i c : Nat) (outs : List Nat), x = .int .i64 c ∧ y = .int .i64 i ∧ c ≤ 1 ∧ outs.length = i ∧ i ≤ L ∧ (∀ d ∈ outs, d < 4294967296) ∧ wr.ownsRow w.heap.size 116 1 v outs.length (u32s outs) ∧
      dval outs + dval ((digs b).take i) = dval ((digs a).take i) + 4294967296 ^ i * c ∧ Below w.heap.size w wr) (fun _ _ y _ => L - (intOf y).toNat)
  case atStart => exact ⟨0, 0, [], rfl, rfl, by omega, rfl, by omega, by simp, World.ownsRow_nil _ _ _ _, by simp [dval], Below.refl _ _⟩
  case round =>
    obtain ⟨i, c, outs, rfl, rfl, hc1, hlen, hi, hall, hown, hsum, hbel⟩ := hrel
    have HLen := hid hlen
    have HAll := hid hall
    have HS := hid hsum
    have hsz := hbel.size
    rw [hlen] at hown
    clear hlen hall hsum
    by_cases h1 : i < L
    · obtain ⟨b1, off1, rfl, hb1, hcell1⟩ := u32s_cell hc (i := i) (by rw [HL.out]; omega)
      have hcr1 := (hbel.cell (p := ⟨b1, off1 + i, none⟩) hb1).trans hcell1
      obtain ⟨x, hx, hxl⟩ := digit_at HA.out (i := i)
      rw [hx] at hcr1
      have HX := hid hx
      clear hx hcell1 hb1
      by_cases h2 : i < M
      · obtain ⟨b2, off2, rfl, hb2, hcell2⟩ := u32s_cell hbc (i := i) (by rw [HM.out]; omega)
        have hcr2 := (hbel.cell (p := ⟨b2, off2 + i, none⟩) hb2).trans hcell2
        obtain ⟨y, hy, hyl⟩ := digit_at HB.out (i := i)
        rw [hy] at hcr2
        have HY := hid hy
        clear hy hcell2 hb2
        by_cases hn : x < c + y
        · go_wp2_with (at_builtin; refine wpList_app rfl (.tmp 36) (.tmp 39) _ rfl w.heap.size 116 (.int .u32 0) 1 4 Try.underlying41 infoU32 rfl (by decide) 116 _ _ _ rfl hown [_] rfl rfl (by simp [Value.oneCell']) (by unfold maxLen; omega) (by omega) (by omega) ?_; intro g gcap w2 hown2 hb2 _ _ _)
          go_roundw
          case rel => exact ⟨i + 1, 1, outs ++ [x + 4294967296 - c - y], by go_num, by go_num, by omega, by rw [List.length_append, HLen.out]; rfl, by omega, all_snoc' HAll.out (by omega), own_snoc hown2 (by rw [HLen.out]) (by omega), less_step HLen.out HS.out (x := x) (y := y) (by rw [take_step (by rw [HL.out]; omega), HX.out]) (by rw [take_step (by rw [HM.out]; omega), HY.out]) (by omega), hbel.trans hb2⟩
          case measure => simp [intOf]; omega
        · go_wp2_with (at_builtin; refine wpList_app rfl (.tmp 36) (.tmp 39) _ rfl w.heap.size 116 (.int .u32 0) 1 4 Try.underlying41 infoU32 rfl (by decide) 116 _ _ _ rfl hown [_] rfl rfl (by simp [Value.oneCell']) (by unfold maxLen; omega) (by omega) (by omega) ?_; intro g gcap w2 hown2 hb2 _ _ _)
          go_roundw
          case rel => exact ⟨i + 1, 0, outs ++ [x - c - y], by go_num, by go_num, by omega, by rw [List.length_append, HLen.out]; rfl, by omega, all_snoc' HAll.out (by omega), own_snoc hown2 (by rw [HLen.out]) (by omega), less_step HLen.out HS.out (x := x) (y := y) (by rw [take_step (by rw [HL.out]; omega), HX.out]) (by rw [take_step (by rw [HM.out]; omega), HY.out]) (by omega), hbel.trans hb2⟩
          case measure => simp [intOf]; omega
      · have hM2 := Nat.le_of_not_lt h2
        by_cases hn : x < c
        · go_wp2_with (at_builtin; refine wpList_app rfl (.tmp 36) (.tmp 39) _ rfl w.heap.size 116 (.int .u32 0) 1 4 Try.underlying41 infoU32 rfl (by decide) 116 _ _ _ rfl hown [_] rfl rfl (by simp [Value.oneCell']) (by unfold maxLen; omega) (by omega) (by omega) ?_; intro g gcap w2 hown2 hb2 _ _ _)
          go_roundw
          case rel => exact ⟨i + 1, 1, outs ++ [x + 4294967296 - c], by go_num, by go_num, by omega, by rw [List.length_append, HLen.out]; rfl, by omega, all_snoc' HAll.out (by omega), own_snoc hown2 (by rw [HLen.out]) (by omega), less_step HLen.out HS.out (x := x) (y := 0) (by rw [take_step (by rw [HL.out]; omega), HX.out]) (take_stay (by rw [HM.out]; omega)) (by omega), hbel.trans hb2⟩
          case measure => simp [intOf]; omega
        · go_wp2_with (at_builtin; refine wpList_app rfl (.tmp 36) (.tmp 39) _ rfl w.heap.size 116 (.int .u32 0) 1 4 Try.underlying41 infoU32 rfl (by decide) 116 _ _ _ rfl hown [_] rfl rfl (by simp [Value.oneCell']) (by unfold maxLen; omega) (by omega) (by omega) ?_; intro g gcap w2 hown2 hb2 _ _ _)
          go_roundw
          case rel => exact ⟨i + 1, 0, outs ++ [x - c], by go_num, by go_num, by omega, by rw [List.length_append, HLen.out]; rfl, by omega, all_snoc' HAll.out (by omega), own_snoc hown2 (by rw [HLen.out]) (by omega), less_step HLen.out HS.out (x := x) (y := 0) (by rw [take_step (by rw [HL.out]; omega), HX.out]) (take_stay (by rw [HM.out]; omega)) (by omega), hbel.trans hb2⟩
          case measure => simp [intOf]; omega
    · obtain rfl : i = L := by omega
      go_wp2_with (go_at_call 115; refine (trimmed_any w.heap.size outs _ _ HAll.out (by unfold DsR; rw [HLen.out]; exact SlR.of_owns hown)).mono ?_; rintro e w' ⟨v', rfl, hv', rfl⟩)
      go_ret
      refine ⟨_, rfl, ?_, hbel⟩
      rw [less_end (a := a) (b := b) (by rw [HLen.out, HL.out]) HAll.out hc1 HLe.out (by rw [HL.out]; exact HS.out)] at hv'
      exact hv'

end Go.Proofs.Ytmknengmjepdaaa
