/- Walks of trank/frac: New, Valid. -/
import Derived.Test.YtmknengmjepdaaaFa
namespace Go.Proofs.Ytmknengmjepdaaa
open Go.RowKit

theorem qmk_of_div (n d : Int) (neg : Bool) (h0 : d ≠ 0) (hneg : (n = 0) ∨ (neg = false ∧ 0 < n ∧ 0 < d) ∨ (neg = false ∧ n < 0 ∧ d < 0) ∨ (neg = true ∧ n < 0 ∧ 0 < d) ∨ (neg = true ∧ 0 < n ∧ d < 0)) :
    qmk neg n.natAbs d.natAbs = (n : Rat) / (d : Rat) := by
  rcases hneg with rfl | ⟨rfl, h1, h2⟩ | ⟨rfl, h1, h2⟩ | ⟨rfl, h1, h2⟩ | ⟨rfl, h1, h2⟩
  · rw [show (0 : Int).natAbs = 0 from rfl, qmk_zero, Rat.intCast_zero, Rat.div_def, Rat.zero_mul]
  all_goals
    rw [qmk_div]
    have hd : ((d.natAbs : Nat) : Rat) = (((d.natAbs : Nat) : Int) : Rat) := (Rat.intCast_natCast _).symm
    rw [hd]
  · rw [show sgn false n.natAbs = n by simp [sgn]; omega, show ((d.natAbs : Nat) : Int) = d by omega]
  · rw [show sgn false n.natAbs = -n by simp [sgn]; omega, show ((d.natAbs : Nat) : Int) = -d by omega, Rat.intCast_neg, Rat.intCast_neg]
    have h : (d : Rat) ≠ 0 := by simpa using h0
    generalize (n : Rat) = x at *
    generalize (d : Rat) = y at *
    grind
  · rw [show sgn true n.natAbs = n by simp [sgn]; omega, show ((d.natAbs : Nat) : Int) = d by omega]
  · rw [show sgn true n.natAbs = -n by simp [sgn]; omega, show ((d.natAbs : Nat) : Int) = -d by omega, Rat.intCast_neg, Rat.intCast_neg]
    have h : (d : Rat) ≠ 0 := by simpa using h0
    generalize (n : Rat) = x at *
    generalize (d : Rat) = y at *
    grind

set_option maxHeartbeats 1000000 in
theorem fNew_any (n d : Int) (w : World) (hn1 : -9223372036854775808 ≤ n) (hn2 : n ≤ 9223372036854775807) (hd1 : -9223372036854775808 ≤ d) (hd2 : d ≤ 9223372036854775807) :
    Calls Try.prog 71 #[.int .i64 n, .int .i64 d] w fun e w' => e = .returned (.tuple #[frV (newN n d) (newD n d), .int .i64 (newE n d)]) ∧ Below w.heap.size w w' := by
  by_cases h0 : d = 0
  · subst h0
    rw [show newN n 0 = 0 from rfl, show newD n 0 = 0 from rfl, show newE n 0 = 4 from rfl]
    go_enter Try.func71, Try.ntmps71
    go_wp2
    exact bodyPost_ret (v := .tuple #[frV 0 0, .int .i64 4]) (by simp [results, Try.results71, go_sem]) rfl ⟨rfl, (Below.refl _ _).alloc (Nat.le_refl _) _⟩
  · rw [show newN n d = fitN ((n : Rat) / (d : Rat)) from if_neg h0, show newD n d = fitD ((n : Rat) / (d : Rat)) from if_neg h0, show newE n d = fitE ((n : Rat) / (d : Rat)) from if_neg h0]
    have hz : (d == 0) = false := by simpa using h0
    have hcase : (n = 0) ∨ (0 < n ∧ 0 < d) ∨ (n < 0 ∧ d < 0) ∨ (n < 0 ∧ 0 < d) ∨ (0 < n ∧ d < 0) := by omega
    have LOW : ∀ neg, ((n = 0) ∨ (neg = false ∧ 0 < n ∧ 0 < d) ∨ (neg = false ∧ n < 0 ∧ d < 0) ∨ (neg = true ∧ n < 0 ∧ 0 < d) ∨ (neg = true ∧ 0 < n ∧ d < 0)) → ∀ w, Calls Try.prog 108 #[.bool neg, .int .u64 ((n.natAbs : Nat) : Int), .int .u64 ((d.natAbs : Nat) : Int)] w fun e w' => e = .returned (.tuple #[frV (fitN ((n : Rat) / (d : Rat))) (fitD ((n : Rat) / (d : Rat))), .int .i64 (fitE ((n : Rat) / (d : Rat)))]) ∧ Below w.heap.size w w' := by
      intro neg hneg w
      have := lowest_any neg n.natAbs d.natAbs w (by omega) (by omega) (by omega)
      rw [qmk_of_div n d neg h0 hneg] at this
      exact this
    generalize fitN ((n : Rat) / (d : Rat)) = N at *
    generalize fitD ((n : Rat) / (d : Rat)) = D at *
    generalize fitE ((n : Rat) / (d : Rat)) = E at *
    have HL := hid LOW
    clear LOW h0
    rcases hcase with rfl | ⟨h1, h2⟩ | ⟨h1, h2⟩ | ⟨h1, h2⟩ | ⟨h1, h2⟩
    · go_enter Try.func71, Try.ntmps71
      go_wp2_with fail
      refine (size_any _ _ (by omega) (by omega)).mono ?_
      rintro e w1 ⟨rfl, rfl⟩
      go_wp2_with fail
      refine (size_any _ _ (by omega) (by omega)).mono ?_
      rintro e w1 ⟨rfl, rfl⟩
      go_wp2_with fail
      have hk := Blk.new w #[.int .i64 0, .int .i64 0] 26
      have hb0 : Below w.heap.size w (w.alloc (.cells #[.int .i64 0, .int .i64 0] 26)) := (Below.refl _ _).alloc (Nat.le_refl _) _
      refine (HL.out false (by simp) _).mono ?_
      rintro e w1 ⟨rfl, hb1⟩
      have hk1 := hk.below hb1
      have hB1 := hb0.trans (hb1.mono hb0.size)
      have f1 := hk1.frozen
      have c0 := hk1.cell 0
      have c1 := hk1.cell 1
      go_wp2
      refine bodyPost_ret (v := .tuple #[frV N D, .int .i64 E]) ?_ rfl ⟨rfl, (hB1.setCell (Nat.le_refl _) _).setCell (Nat.le_refl _) _⟩
      simp [results, Try.results71, go_sem, c0, c1]
    · go_enter Try.func71, Try.ntmps71
      go_wp2_with fail
      refine (size_any _ _ (by omega) (by omega)).mono ?_
      rintro e w1 ⟨rfl, rfl⟩
      go_wp2_with fail
      refine (size_any _ _ (by omega) (by omega)).mono ?_
      rintro e w1 ⟨rfl, rfl⟩
      go_wp2_with fail
      have hk := Blk.new w #[.int .i64 0, .int .i64 0] 26
      have hb0 : Below w.heap.size w (w.alloc (.cells #[.int .i64 0, .int .i64 0] 26)) := (Below.refl _ _).alloc (Nat.le_refl _) _
      refine (HL.out _ (.inr (.inl ⟨(by have hn0 : (n != 0) = true := bne_iff_ne.2 (by omega); first | rfl | (simp [hn0]; done) | (simp [hn0]; omega)), h1, h2⟩)) _).mono ?_
      rintro e w1 ⟨rfl, hb1⟩
      have hk1 := hk.below hb1
      have hB1 := hb0.trans (hb1.mono hb0.size)
      have f1 := hk1.frozen
      have c0 := hk1.cell 0
      have c1 := hk1.cell 1
      go_wp2
      refine bodyPost_ret (v := .tuple #[frV N D, .int .i64 E]) ?_ rfl ⟨rfl, (hB1.setCell (Nat.le_refl _) _).setCell (Nat.le_refl _) _⟩
      simp [results, Try.results71, go_sem, c0, c1]
    · go_enter Try.func71, Try.ntmps71
      go_wp2_with fail
      refine (size_any _ _ (by omega) (by omega)).mono ?_
      rintro e w1 ⟨rfl, rfl⟩
      go_wp2_with fail
      refine (size_any _ _ (by omega) (by omega)).mono ?_
      rintro e w1 ⟨rfl, rfl⟩
      go_wp2_with fail
      have hk := Blk.new w #[.int .i64 0, .int .i64 0] 26
      have hb0 : Below w.heap.size w (w.alloc (.cells #[.int .i64 0, .int .i64 0] 26)) := (Below.refl _ _).alloc (Nat.le_refl _) _
      refine (HL.out _ (.inr (.inr (.inl ⟨(by have hn0 : (n != 0) = true := bne_iff_ne.2 (by omega); first | rfl | (simp [hn0]; done) | (simp [hn0]; omega)), h1, h2⟩))) _).mono ?_
      rintro e w1 ⟨rfl, hb1⟩
      have hk1 := hk.below hb1
      have hB1 := hb0.trans (hb1.mono hb0.size)
      have f1 := hk1.frozen
      have c0 := hk1.cell 0
      have c1 := hk1.cell 1
      go_wp2
      refine bodyPost_ret (v := .tuple #[frV N D, .int .i64 E]) ?_ rfl ⟨rfl, (hB1.setCell (Nat.le_refl _) _).setCell (Nat.le_refl _) _⟩
      simp [results, Try.results71, go_sem, c0, c1]
    · go_enter Try.func71, Try.ntmps71
      go_wp2_with fail
      refine (size_any _ _ (by omega) (by omega)).mono ?_
      rintro e w1 ⟨rfl, rfl⟩
      go_wp2_with fail
      refine (size_any _ _ (by omega) (by omega)).mono ?_
      rintro e w1 ⟨rfl, rfl⟩
      go_wp2_with fail
      have hk := Blk.new w #[.int .i64 0, .int .i64 0] 26
      have hb0 : Below w.heap.size w (w.alloc (.cells #[.int .i64 0, .int .i64 0] 26)) := (Below.refl _ _).alloc (Nat.le_refl _) _
      refine (HL.out _ (.inr (.inr (.inr (.inl ⟨(by have hn0 : (n != 0) = true := bne_iff_ne.2 (by omega); first | rfl | (simp [hn0]; done) | (simp [hn0]; omega)), h1, h2⟩)))) _).mono ?_
      rintro e w1 ⟨rfl, hb1⟩
      have hk1 := hk.below hb1
      have hB1 := hb0.trans (hb1.mono hb0.size)
      have f1 := hk1.frozen
      have c0 := hk1.cell 0
      have c1 := hk1.cell 1
      go_wp2
      refine bodyPost_ret (v := .tuple #[frV N D, .int .i64 E]) ?_ rfl ⟨rfl, (hB1.setCell (Nat.le_refl _) _).setCell (Nat.le_refl _) _⟩
      simp [results, Try.results71, go_sem, c0, c1]
    · go_enter Try.func71, Try.ntmps71
      go_wp2_with fail
      refine (size_any _ _ (by omega) (by omega)).mono ?_
      rintro e w1 ⟨rfl, rfl⟩
      go_wp2_with fail
      refine (size_any _ _ (by omega) (by omega)).mono ?_
      rintro e w1 ⟨rfl, rfl⟩
      go_wp2_with fail
      have hk := Blk.new w #[.int .i64 0, .int .i64 0] 26
      have hb0 : Below w.heap.size w (w.alloc (.cells #[.int .i64 0, .int .i64 0] 26)) := (Below.refl _ _).alloc (Nat.le_refl _) _
      refine (HL.out _ (.inr (.inr (.inr (.inr ⟨(by have hn0 : (n != 0) = true := bne_iff_ne.2 (by omega); first | rfl | (simp [hn0]; done) | (simp [hn0]; omega)), h1, h2⟩)))) _).mono ?_
      rintro e w1 ⟨rfl, hb1⟩
      have hk1 := hk.below hb1
      have hB1 := hb0.trans (hb1.mono hb0.size)
      have f1 := hk1.frozen
      have c0 := hk1.cell 0
      have c1 := hk1.cell 1
      go_wp2
      refine bodyPost_ret (v := .tuple #[frV N D, .int .i64 E]) ?_ rfl ⟨rfl, (hB1.setCell (Nat.le_refl _) _).setCell (Nat.le_refl _) _⟩
      simp [results, Try.results71, go_sem, c0, c1]

end Go.Proofs.Ytmknengmjepdaaa
