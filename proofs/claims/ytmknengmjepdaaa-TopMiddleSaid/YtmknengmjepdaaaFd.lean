/- Walks of math/bits.Mul64 and grade.above. -/
import Derived.Test.YtmknengmjepdaaaQx
import Derived.Lib.Mul64
import Derived.Laws.Bits64b
import Derived.Shelf.Bits.Mul64
namespace Go.Proofs.Ytmknengmjepdaaa
open Go.RowKit Go.Proofs

set_option maxHeartbeats 1000000 in
theorem Mul64_any (x y : Nat) (hx : x < 18446744073709551616) (hy : y < 18446744073709551616) (w : World) :
    Calls Try.prog 121 #[.int .u64 x, .int .u64 y] w fun e w' => e = .returned (.tuple #[.int .u64 ((x * y / 18446744073709551616 : Nat) : Int), .int .u64 ((x * y % 18446744073709551616 : Nat) : Int)]) ∧ w' = w := by
  obtain ⟨bd, bt, bw, hhi⟩ := Lib.mul64_hi x y hx hy
  have ba := Lib.half_mul_le (a := x / 4294967296) (b := y / 4294967296) (by omega) (by omega)
  have bb := Lib.half_mul_le (a := x / 4294967296) (b := y % 4294967296) (by omega) (by omega)
  have bc := Lib.half_mul_le (a := x % 4294967296) (b := y / 4294967296) (by omega) (by omega)
  have ba' : x / 4294967296 * (y / 4294967296) < 18446744073709551616 := by omega
  have bb' : x / 4294967296 * (y % 4294967296) < 18446744073709551616 := by omega
  have bc' : x % 4294967296 * (y / 4294967296) < 18446744073709551616 := by omega
  have bh1 : x / 4294967296 * (y / 4294967296) + (x / 4294967296 * (y % 4294967296) + x % 4294967296 * (y % 4294967296) / 4294967296) / 4294967296 < 18446744073709551616 := by omega
  have bh : x / 4294967296 * (y / 4294967296) + (x / 4294967296 * (y % 4294967296) + x % 4294967296 * (y % 4294967296) / 4294967296) / 4294967296 + ((x / 4294967296 * (y % 4294967296) + x % 4294967296 * (y % 4294967296) / 4294967296) % 4294967296 + x % 4294967296 * (y / 4294967296)) / 4294967296 < 18446744073709551616 := by omega
  go_enter Try.func121, Try.ntmps121
  go_wp2
  simp only [Mul64.maskN x hx, Mul64.maskN y hy, Mul64.divN, Mul64.mulN, Mul64.addN, Mul64.wrapN _ bd, Mul64.wrapN _ bb', Mul64.wrapN _ bt, Mul64.maskN _ bt, Mul64.wrapN _ bc', Mul64.wrapN _ bw, Mul64.wrapN _ ba', Mul64.wrapN _ bh1, Mul64.wrapN _ bh, Mul64.wrapM (x * y)]
  rw [hhi]
  go_ret2
  exact ⟨rfl, rfl⟩

set_option maxHeartbeats 1000000 in
theorem mag_any (z : Int) (w : World) (h1 : -9223372036854775807 ≤ z) (h2 : z ≤ 9223372036854775807) :
    Calls Try.prog 120 #[.int .i64 z] w fun e w' => e = .returned (.int .u64 ((z.natAbs : Nat) : Int)) ∧ w = w' := by
  go_enter Try.func120, Try.ntmps120
  go_wp2
  all_goals
    go_ret
    exact ⟨ret_int (by omega), rfl⟩

theorem cmp_words {x y : Nat} : (y ≤ x) ↔ (y / 18446744073709551616 < x / 18446744073709551616 ∨ (x / 18446744073709551616 = y / 18446744073709551616 ∧ y % 18446744073709551616 ≤ x % 18446744073709551616)) := by omega
theorem nat_mul_abs {a d : Int} (hd : 0 ≤ d) : ((a.natAbs * d.natAbs : Nat) : Int) = if a < 0 then -(a * d) else a * d := by
  rw [Int.natCast_mul]
  have h1 : (d.natAbs : Int) = d := by omega
  rw [h1]
  split
  · rw [show (a.natAbs : Int) = -a by omega, Int.neg_mul]
  · rw [show (a.natAbs : Int) = a by omega]

set_option maxHeartbeats 4000000 in
theorem gAbove_any (a b c d : Int) (w : World) (ha1 : -9223372036854775807 ≤ a) (ha2 : a ≤ 9223372036854775807) (hc1 : -9223372036854775807 ≤ c) (hc2 : c ≤ 9223372036854775807) (hb1 : 1 ≤ b) (hb2 : b ≤ 9223372036854775807) (hd1 : 1 ≤ d) (hd2 : d ≤ 9223372036854775807) :
    Calls Try.prog 99 #[.int .i64 a, .int .i64 b, .int .i64 c, .int .i64 d] w fun e w' => e = .returned (.bool (decide (c * b ≤ a * d))) ∧ w = w' := by
  have M1 : Hid (∀ w, Calls Try.prog 120 #[.int .i64 a] w fun e w' => e = .returned (.int .u64 ((a.natAbs : Nat) : Int)) ∧ w = w') := hid fun w => mag_any a w ha1 ha2
  have M2 : Hid (∀ w, Calls Try.prog 120 #[.int .i64 c] w fun e w' => e = .returned (.int .u64 ((c.natAbs : Nat) : Int)) ∧ w = w') := hid fun w => mag_any c w hc1 hc2
  have wd : IntKind.u64.wrap d = ((d.natAbs : Nat) : Int) := by rw [IntKind.wrap_u64]; omega
  have wb : IntKind.u64.wrap b = ((b.natAbs : Nat) : Int) := by rw [IntKind.wrap_u64]; omega
  have P1 := nat_mul_abs (a := a) (d := d) (by omega)
  have P2 := nat_mul_abs (a := c) (d := b) (by omega)
  have X1 : Hid (∀ w, Calls Try.prog 121 #[.int .u64 (a.natAbs : Nat), .int .u64 (d.natAbs : Nat)] w _) := hid fun w => Mul64_any a.natAbs d.natAbs (by omega) (by omega) w
  have X2 : Hid (∀ w, Calls Try.prog 121 #[.int .u64 (c.natAbs : Nat), .int .u64 (b.natAbs : Nat)] w _) := hid fun w => Mul64_any c.natAbs b.natAbs (by omega) (by omega) w
  obtain ⟨x, hx⟩ : ∃ x, a.natAbs * d.natAbs = x := ⟨_, rfl⟩
  obtain ⟨y, hy⟩ : ∃ x, c.natAbs * b.natAbs = x := ⟨_, rfl⟩
  rw [hx] at X1 P1
  rw [hy] at X2 P2
  have Q1 := cmp_words (x := x) (y := y)
  have Q2 := cmp_words (x := y) (y := x)
  obtain ⟨h, hh⟩ : ∃ h, x / 18446744073709551616 = h := ⟨_, rfl⟩
  obtain ⟨l, hl⟩ : ∃ h, x % 18446744073709551616 = h := ⟨_, rfl⟩
  obtain ⟨k, hk⟩ : ∃ h, y / 18446744073709551616 = h := ⟨_, rfl⟩
  obtain ⟨m, hm⟩ : ∃ h, y % 18446744073709551616 = h := ⟨_, rfl⟩
  rw [hh, hl] at X1
  rw [hk, hm] at X2
  rw [hh, hl, hk, hm] at Q1 Q2
  obtain ⟨ra, hra⟩ : ∃ z, a * d = z := ⟨_, rfl⟩
  obtain ⟨rc, hrc⟩ : ∃ z, c * b = z := ⟨_, rfl⟩
  have sa : (a < 0 → ra < 0) ∧ (0 ≤ a → 0 ≤ ra) := by
    rw [← hra]
    exact ⟨fun h => Int.mul_neg_of_neg_of_pos h (by omega), fun h => Int.mul_nonneg h (by omega)⟩
  have sc : (c < 0 → rc < 0) ∧ (0 ≤ c → 0 ≤ rc) := by
    rw [← hrc]
    exact ⟨fun h => Int.mul_neg_of_neg_of_pos h (by omega), fun h => Int.mul_nonneg h (by omega)⟩
  rw [hra] at P1 ⊢
  rw [hrc] at P2 ⊢
  have HX := hid (And.intro hx (And.intro hy (And.intro hra hrc)))
  have HQ := hid (And.intro Q1 (And.intro Q2 (And.intro P1 P2)))
  have HS := hid (And.intro sa sc)
  clear hx hy hh hl hk hm hra hrc Q1 Q2 P1 P2 sa sc
  by_cases ha : a < 0
  · by_cases hc : c < 0
    · have hd : decide (rc ≤ ra) = decide (h < k ∨ (k = h ∧ l ≤ m)) := by
        obtain ⟨q1, q2, p1, p2⟩ := HQ.out
        rw [if_pos ha] at p1
        rw [if_pos hc] at p2
        apply decide_eq_decide.2
        rw [← q2]
        omega
      rw [hd]
      clear hd
      have hcase : h < k ∨ (h = k ∧ l ≤ m) ∨ (h = k ∧ m < l) ∨ k < h := by omega
      rcases hcase with hq | ⟨rfl, hq⟩ | ⟨rfl, hq⟩ | hq
      all_goals
        go_enter Try.func99, Try.ntmps99
        go_wp2_with fail
        refine (M1.out _).mono ?_
        rintro e w1 ⟨rfl, rfl⟩
        go_wp2_with fail
        refine (X1.out _).mono ?_
        rintro e w1 ⟨rfl, rfl⟩
        go_wp2_with fail
        refine (M2.out _).mono ?_
        rintro e w1 ⟨rfl, rfl⟩
        go_wp2_with fail
        refine (X2.out _).mono ?_
        rintro e w1 ⟨rfl, rfl⟩
        go_wp2
        go_ret
        refine ⟨ret_bool ?_, rfl⟩
        symm
        simp only [decide_eq_true_eq, decide_eq_decide, true_and]
        omega
    · have hd : decide (rc ≤ ra) = false := decide_eq_false (by have := HS.out.1.1 ha; have := HS.out.2.2 (by omega); omega)
      rw [hd]
      clear hd
      go_enter Try.func99, Try.ntmps99
      go_wp2
      go_ret
      refine ⟨ret_bool ?_, rfl⟩
      simp only [decide_eq_false_iff_not]
      omega
  · by_cases hc : c < 0
    · have hd : decide (rc ≤ ra) = true := decide_eq_true (by have := HS.out.1.2 (by omega); have := HS.out.2.1 hc; omega)
      rw [hd]
      clear hd
      go_enter Try.func99, Try.ntmps99
      go_wp2
      go_ret
      exact ⟨rfl, rfl⟩
    · have hd : decide (rc ≤ ra) = decide (k < h ∨ (h = k ∧ m ≤ l)) := by
        obtain ⟨q1, q2, p1, p2⟩ := HQ.out
        rw [if_neg ha] at p1
        rw [if_neg hc] at p2
        apply decide_eq_decide.2
        rw [← q1]
        omega
      rw [hd]
      clear hd
      have hcase : k < h ∨ (h = k ∧ m ≤ l) ∨ (h = k ∧ l < m) ∨ h < k := by omega
      rcases hcase with hq | ⟨rfl, hq⟩ | ⟨rfl, hq⟩ | hq
      all_goals
        go_enter Try.func99, Try.ntmps99
        go_wp2_with fail
        refine (M1.out _).mono ?_
        rintro e w1 ⟨rfl, rfl⟩
        go_wp2_with fail
        refine (X1.out _).mono ?_
        rintro e w1 ⟨rfl, rfl⟩
        go_wp2_with fail
        refine (M2.out _).mono ?_
        rintro e w1 ⟨rfl, rfl⟩
        go_wp2_with fail
        refine (X2.out _).mono ?_
        rintro e w1 ⟨rfl, rfl⟩
        go_wp2
        go_ret
        refine ⟨ret_bool ?_, rfl⟩
        symm
        simp only [decide_eq_true_eq, decide_eq_decide, true_and]
        omega

end Go.Proofs.Ytmknengmjepdaaa
