/- Walks of trankref01's natural numbers: short, divided, divisor. -/
import Derived.Test.YtmknengmjepdaaaNe
namespace Go.Proofs.Ytmknengmjepdaaa
open Go.RowKit

theorem drop_get {ds : List Nat} {k : Nat} (hk : k ≠ 0) (hle : k ≤ ds.length) : ds.drop (k - 1) = ds.getD (k - 1) 0 :: ds.drop k := by
  rw [List.drop_eq_getElem_cons (by omega), List.getD_eq_getElem?_getD, List.getElem?_eq_getElem (by omega), show k - 1 + 1 = k by omega]; rfl

theorem or_add {a b i : Nat} (hb : b < 2 ^ i) : (a * 2 ^ i) ||| b = a * 2 ^ i + b := by
  rw [Nat.mul_comm a, ← Nat.two_pow_add_eq_or_of_lt hb]
theorem shl_or {acc x : Nat} (ha : acc < 4294967296) (hx : x < 4294967296) : bits .or .u64 ((acc : Int) * 4294967296) (x : Int) = ((x + 4294967296 * acc : Nat) : Int) := by
  have h1 : (acc : Int) * 4294967296 = ((acc * 4294967296 : Nat) : Int) := by omega
  rw [h1, u64_or_nat _ _ (by omega) (by omega)]
  have := or_add (a := acc) (b := x) (i := 32) (by omega)
  rw [show (2 : Nat) ^ 32 = 4294967296 from rfl] at this
  rw [this]; omega

set_option maxHeartbeats 400000 in
theorem short_any (n : Nat) (v : Value) (w : World) (hn : n < 18446744073709551616) (h : NatR w v n) :
    Calls Try.prog 125 #[v] w fun e w' => e = .returned (.int .u64 n) ∧ w = w' := by
  obtain ⟨ao, cap, rfl, hcap, hmax, hc⟩ := h
  unfold maxLen at hmax
  obtain ⟨L, hL⟩ : ∃ L, (digs n).length = L := ⟨_, rfl⟩
  have hL2 := digs_len_two hn
  have HL := hid hL
  have hda := digs_lt n
  have HA := hid hda
  rw [hL] at hcap hL2 ⊢
  clear hL hda
  go_enter Try.func125, Try.ntmps125
  go_wp2
  go_loop [3, 4] (fun x y => ∃ (k acc : Nat), x = .int .u64 acc ∧ y = .int .i64 ((k : Int) - 1) ∧ k ≤ L ∧ acc = dval ((digs n).drop k)) (fun _ y => (intOf y + 1).toNat)
  case atStart => exact ⟨L, 0, rfl, rfl, Nat.le_refl _, by rw [List.drop_of_length_le (by rw [HL.out]; exact Nat.le_refl _)]; rfl⟩
  case round =>
    obtain ⟨k, acc, rfl, rfl, hk, hacc⟩ := hrel
    have HC := hid hacc
    clear hacc
    by_cases h0 : k = 0
    · subst h0
      go_wp2
      go_ret
      exact ⟨ret_int (by rw [HC.out, List.drop_zero, dval_digs]), rfl⟩
    · obtain ⟨b1, off1, rfl, hb1, hcell1⟩ := u32s_cell hc (i := k - 1) (by rw [HL.out]; omega)
      obtain ⟨x, hx, hxl⟩ := digit_at HA.out (i := k - 1)
      rw [hx] at hcell1
      have HX := hid hx
      clear hx
      have hacl : acc < 4294967296 := by
        rw [HC.out]
        have h2 := dval_lt ((digs n).drop k) (fun d hd => HA.out d (List.mem_of_mem_drop hd))
        have h3 : ((digs n).drop k).length ≤ 1 := by rw [List.length_drop, HL.out]; omega
        have h4 := Nat.pow_le_pow_right (show 0 < 4294967296 by omega) h3
        omega
      go_wp2
      go_round
      case rel => exact ⟨k - 1, x + 4294967296 * acc, by rw [shl_or hacl hxl], by go_num, by omega, by rw [drop_get h0 (by rw [HL.out]; omega), dval, HX.out, HC.out]⟩
      case measure => simp [intOf]; omega

end Go.Proofs.Ytmknengmjepdaaa
