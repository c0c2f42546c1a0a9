/- Walks of trankref01's natural numbers: compare, plus, less. -/
import Derived.Test.YtmknengmjepdaaaNa
namespace Go.Proofs.Ytmknengmjepdaaa
open Go.RowKit

/-- -1, 0 or 1. -/
def cmpN (a b : Nat) : Int := if a < b then -1 else if a = b then 0 else 1
theorem cmpN_lt {a b : Nat} (h : a < b) : -1 = cmpN a b := by unfold cmpN; rw [if_pos h]
theorem cmpN_gt {a b : Nat} (h : b < a) : 1 = cmpN a b := by unfold cmpN; rw [if_neg (by omega), if_neg (by omega)]
theorem cmpN_eq {a b : Nat} (h : a = b) : 0 = cmpN a b := by unfold cmpN; rw [if_neg (by omega), if_pos h]
theorem drop_step {k : Nat} {a b : List Nat} (hk : k ≠ 0) (ha : k ≤ a.length) (hb : k ≤ b.length) (h : a.drop k = b.drop k) (hd : a.getD (k - 1) 0 = b.getD (k - 1) 0) : a.drop (k - 1) = b.drop (k - 1) := by
  have h1 : a.drop (k - 1) = a.getD (k - 1) 0 :: a.drop k := by
    rw [List.drop_eq_getElem_cons (by omega), List.getD_eq_getElem?_getD, List.getElem?_eq_getElem (by omega), show k - 1 + 1 = k by omega]; rfl
  have h2 : b.drop (k - 1) = b.getD (k - 1) 0 :: b.drop k := by
    rw [List.drop_eq_getElem_cons (by omega), List.getD_eq_getElem?_getD, List.getElem?_eq_getElem (by omega), show k - 1 + 1 = k by omega]; rfl
  rw [h1, h2, h, hd]
theorem digit_lt {a b k : Nat} (hk : k ≠ 0) (hl : (digs a).length = (digs b).length) (ha : k ≤ (digs a).length) (h : (digs a).drop k = (digs b).drop k) (hd : (digs a).getD (k - 1) 0 < (digs b).getD (k - 1) 0) : a < b := by
  have := lt_of_digit (digs a) (digs b) (digs_lt a) (k - 1) (by omega) hl (by rw [show k - 1 + 1 = k by omega]; exact h) hd
  rwa [dval_digs, dval_digs] at this

set_option maxHeartbeats 400000 in
theorem compare_any (a b : Nat) (u v : Value) (w : World) (ha : NatR w u a) (hb : NatR w v b) :
    Calls Try.prog 86 #[u, v] w fun e w' => e = .returned (.int .i64 (cmpN a b)) ∧ ∃ n, w' = w.drewN n := by
  obtain ⟨ao, cap, rfl, hcap, hmax, hc⟩ := ha
  obtain ⟨bo, bcap, rfl, hbcap, hbmax, hbc⟩ := hb
  unfold maxLen at hmax hbmax
  rcases Nat.lt_trichotomy (digs a).length (digs b).length with hl | hl | hl
  · go_enter Try.func86, Try.ntmps86
    go_wp2
    go_ret
    exact ⟨ret_int (cmpN_lt (lt_of_digs_len hl)), 0, rfl⟩
  · have HL := hid hl
    obtain ⟨L, hL⟩ : ∃ L, (digs a).length = L := ⟨_, rfl⟩
    have hLb : (digs b).length = L := by omega
    have HLa := hid hL
    have HLb := hid hLb
    rw [hL] at hcap ⊢
    rw [hLb] at hbcap ⊢
    clear hL hLb hl
    go_enter Try.func86, Try.ntmps86
    go_wp2
    go_loopw [5] (fun x wr => ∃ k : Nat, x = .int .i64 ((k : Int) - 1) ∧ k ≤ L ∧ (digs a).drop k = (digs b).drop k ∧ ∃ n, wr = w.drewN n) (fun x _ => (intOf x + 1).toNat)
    case atStart => exact ⟨L, rfl, Nat.le_refl _, by rw [List.drop_of_length_le (by rw [HLa.out]; exact Nat.le_refl _), List.drop_of_length_le (by rw [HLb.out]; exact Nat.le_refl _)], dr0 w⟩
    case round =>
      obtain ⟨k, rfl, hk, hd, n, rfl⟩ := hrel
      have HD := hid hd
      clear hd
      by_cases h0 : k = 0
      · subst h0
        go_wp2
        go_ret
        exact ⟨ret_int (cmpN_eq (by have := HD.out; rw [List.drop_zero, List.drop_zero] at this; rw [← dval_digs a, this, dval_digs])), n, rfl⟩
      · obtain ⟨b1, off1, rfl, hb1, hcell1⟩ := u32s_cell hc (i := k - 1) (by rw [HLa.out]; omega)
        obtain ⟨b2, off2, rfl, hb2, hcell2⟩ := u32s_cell hbc (i := k - 1) (by rw [HLb.out]; omega)
        obtain ⟨d1, hd1⟩ : ∃ d, (digs a).getD (k - 1) 0 = d := ⟨_, rfl⟩
        obtain ⟨d2, hd2⟩ : ∃ d, (digs b).getD (k - 1) 0 = d := ⟨_, rfl⟩
        rw [hd1] at hcell1
        rw [hd2] at hcell2
        have HD1 := hid hd1
        have HD2 := hid hd2
        clear hd1 hd2
        rcases Nat.lt_trichotomy d1 d2 with hlt | hlt | hlt
        · go_wp2
          go_quiet (fail)
          go_wp2
          go_quiet (fail)
          go_wp2
          go_ret
          exact ⟨ret_int (cmpN_lt (digit_lt h0 HL.out (by rw [HLa.out]; exact hk) HD.out (by rw [HD1.out, HD2.out]; exact hlt))), dr3 _ _ _ _⟩
        · subst hlt
          go_wp2
          go_quiet (fail)
          go_wp2
          go_roundw
          case rel => exact ⟨k - 1, by go_num, by omega, drop_step h0 (by rw [HLa.out]; exact hk) (by rw [HLb.out]; exact hk) HD.out (by rw [HD1.out, HD2.out]), dr1 _ _⟩
          case measure => simp [intOf]; omega
        · go_wp2
          go_quiet (fail)
          go_wp2
          go_quiet (fail)
          go_wp2
          go_ret
          exact ⟨ret_int (cmpN_gt (digit_lt h0 HL.out.symm (by rw [HLb.out]; exact hk) HD.out.symm (by rw [HD1.out, HD2.out]; exact hlt))), dr3 _ _ _ _⟩
  · go_enter Try.func86, Try.ntmps86
    go_wp2
    go_ret
    exact ⟨ret_int (cmpN_gt (lt_of_digs_len hl)), 0, rfl⟩

end Go.Proofs.Ytmknengmjepdaaa
