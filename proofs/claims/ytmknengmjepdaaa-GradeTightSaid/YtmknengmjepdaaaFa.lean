/- Walks of trank/frac: size, gcd, lowest, New. -/
import Derived.Test.YtmknengmjepdaaaQi
namespace Go.Proofs.Ytmknengmjepdaaa
open Go.RowKit

set_option maxHeartbeats 400000 in
theorem size_any (z : Int) (w : World) (h1 : -9223372036854775808 ≤ z) (h2 : z ≤ 9223372036854775807) :
    Calls Try.prog 109 #[.int .i64 z] w fun e w' => e = .returned (.int .u64 ((z.natAbs : Nat) : Int)) ∧ w = w' := by
  by_cases hz : z < 0
  · go_enter Try.func109, Try.ntmps109
    go_wp2
    go_ret
    exact ⟨ret_int (by rw [IntKind.wrap_u64, IntKind.wrap_u64]; omega), rfl⟩
  · go_enter Try.func109, Try.ntmps109
    go_wp2
    go_ret
    exact ⟨ret_int (by omega), rfl⟩

set_option maxHeartbeats 400000 in
theorem gcd_any (a b : Nat) (w : World) (ha : a < 18446744073709551616) (hb : b < 18446744073709551616) :
    Calls Try.prog 122 #[.int .u64 a, .int .u64 b] w fun e w' => e = .returned (.int .u64 (Nat.gcd a b)) ∧ ∃ n, w' = w.drewN n := by
  go_enter Try.func122, Try.ntmps122
  go_wp2
  go_loopg [0, 1] b (fun j x y wr => ∃ i : Nat, x = .int .u64 i ∧ y = .int .u64 j ∧ i < 18446744073709551616 ∧ j < 18446744073709551616 ∧ Nat.gcd i j = Nat.gcd a b ∧ ∃ n, wr = w.drewN n)
  case atStart => exact ⟨a, rfl, rfl, ha, hb, rfl, dr0 w⟩
  case round =>
    obtain ⟨i, rfl, rfl, hi, hj, hg, n, rfl⟩ := hrel
    have HG := hid hg
    clear hg
    by_cases h0 : gk = 0
    · subst h0
      go_wp2
      go_ret
      exact ⟨ret_int (by rw [← HG.out, Nat.gcd_zero_right]), dr1 _ _⟩
    · go_wp2
      go_quiet (fail)
      go_wp2
      go_roundg (i % gk)
      case measure => exact Nat.mod_lt _ (by omega)
      case rel => exact ⟨gk, rfl, congrArg (Value.int .u64) (Int.natCast_emod _ _).symm, hj, Nat.lt_trans (Nat.mod_lt _ (by omega)) hj, gcd_step HG.out, by first | exact dr1 _ _ | exact dr2 _ _ _⟩

theorem fits_qmk {neg : Bool} {n d : Nat} (hd : d ≠ 0) : fits (qmk neg n d) ↔ (n / Nat.gcd n d ≤ 1000000000 ∧ d / Nat.gcd n d ≤ 1000000000) := by
  unfold fits; rw [qmk_abs neg hd, qmk_den neg hd]
theorem qmk_num {neg : Bool} {n d : Nat} (hd : d ≠ 0) : (qmk neg n d).num = sgn neg (n / Nat.gcd n d) := by
  by_cases hn : n = 0
  · subst hn; rw [qmk_zero]; cases neg <;> simp [sgn]
  · have h1 := qmk_abs neg (n := n) hd
    have h2 := qmk_neg neg hn hd
    have h3 := sgn_self (qmk neg n d).num
    rw [h1, h2] at h3
    exact h3.symm
theorem cells2 (w : World) (b : Nat) (x y : Value) (t : TypeId) (h : Blk w b #[x, y] t) : w.cell? ⟨b, 0, none⟩ = some x ∧ w.cell? ⟨b, 1, none⟩ = some y := ⟨h.cell 0, h.cell 1⟩

set_option maxHeartbeats 1000000 in
theorem lowest_any (neg : Bool) (n d : Nat) (w : World) (hn : n < 18446744073709551616) (hd : d < 18446744073709551616) (h0 : d ≠ 0) :
    Calls Try.prog 108 #[.bool neg, .int .u64 n, .int .u64 d] w fun e w' => e = .returned (.tuple #[frV (fitN (qmk neg n d)) (fitD (qmk neg n d)), .int .i64 (fitE (qmk neg n d))]) ∧ Below w.heap.size w w' := by
  have hf := fits_qmk (neg := neg) (n := n) h0
  have hnum := qmk_num (neg := neg) (n := n) h0
  have hden := qmk_den neg (n := n) h0
  have hg0 : 0 < Nat.gcd n d := Nat.gcd_pos_of_pos_right _ (by omega)
  have hgd : Nat.gcd n d ≤ d := Nat.le_of_dvd (by omega) (Nat.gcd_dvd_right _ _)
  have G := fun w => gcd_any n d w hn hd
  obtain ⟨g, hg⟩ : ∃ g, Nat.gcd n d = g := ⟨_, rfl⟩
  rw [hg] at hf hnum hden hg0 hgd G
  obtain ⟨q, hq⟩ : ∃ q, qmk neg n d = q := ⟨_, rfl⟩
  rw [hq] at hf hnum hden ⊢
  clear hg hq
  obtain ⟨A, hA⟩ : ∃ A, n / g = A := ⟨_, rfl⟩
  obtain ⟨D, hD⟩ : ∃ A, d / g = A := ⟨_, rfl⟩
  rw [hA] at hf hnum
  rw [hD] at hf hden
  have hAn : A ≤ n := by rw [← hA]; exact Nat.div_le_self _ _
  have hDd : D ≤ d := by rw [← hD]; exact Nat.div_le_self _ _
  have wA : IntKind.u64.wrap ((n : Int) / (g : Int)) = (A : Int) := by rw [← Int.natCast_ediv, hA]; exact wrap_nat (by omega)
  have wD : IntKind.u64.wrap ((d : Int) / (g : Int)) = (D : Int) := by rw [← Int.natCast_ediv, hD]; exact wrap_nat (by omega)
  have hA1 : g = 1 → A = n := by intro h; rw [← hA, h, Nat.div_one]
  have hD1 : g = 1 → D = d := by intro h; rw [← hD, h, Nat.div_one]
  have HG := hid G
  have HA1 := hid hA1
  have HD1 := hid hD1
  have HF := hid hf
  have HN := hid hnum
  have HDN := hid hden
  clear G hA hD hA1 hD1 hf hnum hden h0
  have hbl : ∀ o (k : Nat), Below w.heap.size w ((w.alloc o).drewN k) := fun o k => below_drewN0 ((Below.refl _ _).alloc (Nat.le_refl _) _) k
  have HB := hid hbl
  clear hbl
  by_cases hg1 : 1 < g
  · by_cases hfit : fits q
    · rw [show fitE q = 0 from if_pos hfit, show fitN q = q.num from if_pos hfit, show fitD q = q.den from if_pos hfit, HN.out, HDN.out]
      obtain ⟨hf1, hf2⟩ := HF.out.1 hfit
      clear hfit
      cases neg
      · go_enter Try.func108, Try.ntmps108
        go_wp2_with fail
        refine (HG.out _).mono ?_
        rintro e w1 ⟨rfl, k, rfl⟩
        go_wp2
        go_quiet (fail)
        go_wp2
        exact bodyPost_ret (v := .tuple #[frV (sgn false A) (D : Int), .int .i64 0]) (by simp [results, Try.results108, go_sem, sgn]) rfl ⟨rfl, by (repeat' (first | exact Below.refl _ _ | assumption | (refine Below.setCell ?_ ?_ _) | (refine Below.alloc ?_ ?_ _) | (refine below_drewN0 ?_ _) | (refine Below.drew ?_))) <;> (first | exact Nat.le_refl _ | (simp; done) | (simp; omega) | omega)⟩
      · go_enter Try.func108, Try.ntmps108
        go_wp2_with fail
        refine (HG.out _).mono ?_
        rintro e w1 ⟨rfl, k, rfl⟩
        go_wp2
        go_quiet (fail)
        go_wp2
        exact bodyPost_ret (v := .tuple #[frV (sgn true A) (D : Int), .int .i64 0]) (by simp [results, Try.results108, go_sem, sgn]) rfl ⟨rfl, by (repeat' (first | exact Below.refl _ _ | assumption | (refine Below.setCell ?_ ?_ _) | (refine Below.alloc ?_ ?_ _) | (refine below_drewN0 ?_ _) | (refine Below.drew ?_))) <;> (first | exact Nat.le_refl _ | (simp; done) | (simp; omega) | omega)⟩
    · rw [show fitE q = 5 from if_neg hfit, show fitN q = 0 from if_neg hfit, show fitD q = 0 from if_neg hfit]
      have hno : 1000000000 < A ∨ (A ≤ 1000000000 ∧ 1000000000 < D) := by
        by_cases h1 : A ≤ 1000000000
        · by_cases h2 : D ≤ 1000000000
          · exact absurd (HF.out.2 ⟨h1, h2⟩) hfit
          · exact .inr ⟨h1, by omega⟩
        · exact .inl (by omega)
      clear hfit
      rcases hno with h1 | ⟨h1, h2⟩
      · go_enter Try.func108, Try.ntmps108
        go_wp2_with fail
        refine (HG.out _).mono ?_
        rintro e w1 ⟨rfl, k, rfl⟩
        go_wp2
        go_quiet (fail)
        go_wp2
        exact bodyPost_ret (v := .tuple #[frV 0 0, .int .i64 5]) (by simp [results, Try.results108, go_sem]) rfl ⟨rfl, by (repeat' (first | exact Below.refl _ _ | assumption | (refine Below.setCell ?_ ?_ _) | (refine Below.alloc ?_ ?_ _) | (refine below_drewN0 ?_ _) | (refine Below.drew ?_))) <;> (first | exact Nat.le_refl _ | (simp; done) | (simp; omega) | omega)⟩
      · go_enter Try.func108, Try.ntmps108
        go_wp2_with fail
        refine (HG.out _).mono ?_
        rintro e w1 ⟨rfl, k, rfl⟩
        go_wp2
        go_quiet (fail)
        go_wp2
        exact bodyPost_ret (v := .tuple #[frV 0 0, .int .i64 5]) (by simp [results, Try.results108, go_sem]) rfl ⟨rfl, by (repeat' (first | exact Below.refl _ _ | assumption | (refine Below.setCell ?_ ?_ _) | (refine Below.alloc ?_ ?_ _) | (refine below_drewN0 ?_ _) | (refine Below.drew ?_))) <;> (first | exact Nat.le_refl _ | (simp; done) | (simp; omega) | omega)⟩
  · obtain rfl : g = 1 := by omega
    obtain rfl := HA1.out rfl
    obtain rfl := HD1.out rfl
    clear wA wD hAn hDd
    by_cases hfit : fits q
    · rw [show fitE q = 0 from if_pos hfit, show fitN q = q.num from if_pos hfit, show fitD q = q.den from if_pos hfit, HN.out, HDN.out]
      obtain ⟨hf1, hf2⟩ := HF.out.1 hfit
      clear hfit
      cases neg
      · go_enter Try.func108, Try.ntmps108
        go_wp2_with fail
        refine (HG.out _).mono ?_
        rintro e w1 ⟨rfl, k, rfl⟩
        go_wp2
        exact bodyPost_ret (v := .tuple #[frV (sgn false A) (D : Int), .int .i64 0]) (by simp [results, Try.results108, go_sem, sgn]) rfl ⟨rfl, by (repeat' (first | exact Below.refl _ _ | assumption | (refine Below.setCell ?_ ?_ _) | (refine Below.alloc ?_ ?_ _) | (refine below_drewN0 ?_ _) | (refine Below.drew ?_))) <;> (first | exact Nat.le_refl _ | (simp; done) | (simp; omega) | omega)⟩
      · go_enter Try.func108, Try.ntmps108
        go_wp2_with fail
        refine (HG.out _).mono ?_
        rintro e w1 ⟨rfl, k, rfl⟩
        go_wp2
        exact bodyPost_ret (v := .tuple #[frV (sgn true A) (D : Int), .int .i64 0]) (by simp [results, Try.results108, go_sem, sgn]) rfl ⟨rfl, by (repeat' (first | exact Below.refl _ _ | assumption | (refine Below.setCell ?_ ?_ _) | (refine Below.alloc ?_ ?_ _) | (refine below_drewN0 ?_ _) | (refine Below.drew ?_))) <;> (first | exact Nat.le_refl _ | (simp; done) | (simp; omega) | omega)⟩
    · rw [show fitE q = 5 from if_neg hfit, show fitN q = 0 from if_neg hfit, show fitD q = 0 from if_neg hfit]
      have hno : 1000000000 < A ∨ (A ≤ 1000000000 ∧ 1000000000 < D) := by
        by_cases h1 : A ≤ 1000000000
        · by_cases h2 : D ≤ 1000000000
          · exact absurd (HF.out.2 ⟨h1, h2⟩) hfit
          · exact .inr ⟨h1, by omega⟩
        · exact .inl (by omega)
      clear hfit
      rcases hno with h1 | ⟨h1, h2⟩
      · go_enter Try.func108, Try.ntmps108
        go_wp2_with fail
        refine (HG.out _).mono ?_
        rintro e w1 ⟨rfl, k, rfl⟩
        go_wp2
        exact bodyPost_ret (v := .tuple #[frV 0 0, .int .i64 5]) (by simp [results, Try.results108, go_sem]) rfl ⟨rfl, by (repeat' (first | exact Below.refl _ _ | assumption | (refine Below.setCell ?_ ?_ _) | (refine Below.alloc ?_ ?_ _) | (refine below_drewN0 ?_ _) | (refine Below.drew ?_))) <;> (first | exact Nat.le_refl _ | (simp; done) | (simp; omega) | omega)⟩
      · go_enter Try.func108, Try.ntmps108
        go_wp2_with fail
        refine (HG.out _).mono ?_
        rintro e w1 ⟨rfl, k, rfl⟩
        go_wp2
        exact bodyPost_ret (v := .tuple #[frV 0 0, .int .i64 5]) (by simp [results, Try.results108, go_sem]) rfl ⟨rfl, by (repeat' (first | exact Below.refl _ _ | assumption | (refine Below.setCell ?_ ?_ _) | (refine Below.alloc ?_ ?_ _) | (refine below_drewN0 ?_ _) | (refine Below.drew ?_))) <;> (first | exact Nat.le_refl _ | (simp; done) | (simp; omega) | omega)⟩

end Go.Proofs.Ytmknengmjepdaaa
