/- Plain numbers: rationals by sign, numerator and denominator. -/
import Derived.Test.YtmknengmjepdaaaPn
namespace Go.Proofs.Ytmknengmjepdaaa

/-- A whole number by its sign and its absolute value. -/
def sgn (neg : Bool) (n : Nat) : Int := if neg then -(n : Int) else n
/-- The rational number of a sign, a numerator and a denominator. -/
def qmk (neg : Bool) (n d : Nat) : Rat := mkRat (sgn neg n) d

theorem sgn_abs (neg : Bool) (n : Nat) : (sgn neg n).natAbs = n := by cases neg <;> simp [sgn]
theorem sgn_self (z : Int) : sgn (decide (z < 0)) z.natAbs = z := by
  unfold sgn
  by_cases h : z < 0
  · rw [decide_eq_true h, if_pos rfl]; omega
  · rw [decide_eq_false h]; simp; omega
theorem qmk_self (q : Rat) : qmk (decide (q.num < 0)) q.num.natAbs q.den = q := by
  unfold qmk; rw [sgn_self]; exact Rat.mkRat_self q
theorem qmk_zero (neg : Bool) (d : Nat) : qmk neg 0 d = 0 := by
  unfold qmk sgn; cases neg <;> simp [Rat.zero_mkRat]
theorem gcd_dvd_sgn (neg : Bool) (n d : Nat) : ((Nat.gcd d n : Nat) : Int) ∣ sgn neg n := by
  rw [Int.ofNat_dvd_left, sgn_abs]; exact Nat.gcd_dvd_right _ _
theorem qmk_abs (neg : Bool) {n d : Nat} (hd : d ≠ 0) : (qmk neg n d).num.natAbs = n / Nat.gcd n d := by
  unfold qmk
  rw [Rat.num_mkRat, if_neg hd, sgn_abs, Int.natAbs_ediv_of_dvd (gcd_dvd_sgn neg n d), sgn_abs, Int.natAbs_natCast, Nat.gcd_comm]
theorem qmk_den (neg : Bool) {n d : Nat} (hd : d ≠ 0) : (qmk neg n d).den = d / Nat.gcd n d := by
  unfold qmk
  rw [Rat.den_mkRat, if_neg hd, sgn_abs, Nat.gcd_comm]
theorem qmk_neg (neg : Bool) {n d : Nat} (hn : n ≠ 0) (hd : d ≠ 0) : decide ((qmk neg n d).num < 0) = neg := by
  have hg : 0 < Nat.gcd d n := Nat.gcd_pos_of_pos_right _ (by omega)
  have hle : Nat.gcd d n ≤ n := Nat.le_of_dvd (by omega) (Nat.gcd_dvd_right _ _)
  unfold qmk
  rw [Rat.num_mkRat, if_neg hd, sgn_abs]
  have hq : 0 < n / Nat.gcd d n := Nat.div_pos hle hg
  have hq2 : (0 : Int) < (n : Int) / (Nat.gcd d n : Nat) := by rw [← Int.natCast_ediv]; exact Int.natCast_pos.2 hq
  cases neg
  · simp only [sgn, Bool.false_eq_true, if_false, decide_eq_false_iff_not]
    omega
  · simp only [sgn, if_true, decide_eq_true_eq]
    rw [Int.neg_ediv_of_dvd (Int.natCast_dvd_natCast.2 (Nat.gcd_dvd_right _ _))]; omega
theorem sgn_mul (a b : Bool) (m n : Nat) : sgn (a != b) (m * n) = sgn a m * sgn b n := by
  cases a <;> cases b <;> simp [sgn, Int.neg_mul, Int.mul_neg]
theorem sgn_add (a : Bool) (m n : Nat) : sgn a (m + n) = sgn a m + sgn a n := by
  cases a <;> simp [sgn] <;> omega
theorem sgn_sub (a : Bool) {m n : Nat} (h : n ≤ m) : sgn a (m - n) = sgn a m + sgn (!a) n := by
  cases a <;> simp [sgn] <;> omega
theorem sgn_natMul (a : Bool) (m n : Nat) : sgn a (m * n) = sgn a m * (n : Int) := by
  cases a <;> simp [sgn, Int.neg_mul]
theorem add_same {a b : Rat} (h : decide (a.num < 0) = decide (b.num < 0)) :
    qmk (decide (a.num < 0)) (a.num.natAbs * b.den + b.num.natAbs * a.den) (a.den * b.den) = a + b := by
  rw [Rat.add_def', qmk, sgn_add, sgn_natMul, sgn_natMul, sgn_self]
  rw [h, sgn_self]
theorem add_diff {a b : Rat} (h : decide (a.num < 0) ≠ decide (b.num < 0)) (hle : b.num.natAbs * a.den ≤ a.num.natAbs * b.den) :
    qmk (decide (a.num < 0)) (a.num.natAbs * b.den - b.num.natAbs * a.den) (a.den * b.den) = a + b := by
  have h2 : (!decide (a.num < 0)) = decide (b.num < 0) := by
    cases ha : decide (a.num < 0) <;> cases hb : decide (b.num < 0) <;> simp_all
  rw [Rat.add_def', qmk, sgn_sub _ hle, sgn_natMul, sgn_natMul, sgn_self, h2, sgn_self]
theorem add_diff' {a b : Rat} (h : decide (a.num < 0) ≠ decide (b.num < 0)) (hle : a.num.natAbs * b.den ≤ b.num.natAbs * a.den) :
    qmk (decide (b.num < 0)) (b.num.natAbs * a.den - a.num.natAbs * b.den) (a.den * b.den) = a + b := by
  rw [Rat.add_comm, Nat.mul_comm a.den b.den]; exact add_diff (Ne.symm h) hle
theorem mul_parts (a b : Rat) : qmk (decide (a.num < 0) != decide (b.num < 0)) (a.num.natAbs * b.num.natAbs) (a.den * b.den) = a * b := by
  rw [Rat.mul_def', qmk, sgn_mul, sgn_self, sgn_self]
theorem qmk_div (neg : Bool) (n d : Nat) : qmk neg n d = (sgn neg n : Rat) / (d : Rat) := by unfold qmk; rw [Rat.mkRat_eq_div]
theorem rat_parts (a : Rat) : a = (a.num : Rat) / (a.den : Rat) := by rw [← Rat.mkRat_eq_div, Rat.mkRat_self]
theorem div_parts (a b : Rat) (hb : b ≠ 0) : qmk (decide (a.num < 0) != decide (b.num < 0)) (a.num.natAbs * b.den) (a.den * b.num.natAbs) = a / b := by
  have hb0 : b.num ≠ 0 := fun h => hb (Rat.num_eq_zero.1 h)
  have e1 : ∃ σ : Int, σ ≠ 0 ∧ sgn (decide (b.num < 0)) b.den = σ * b.den ∧ (b.num.natAbs : Int) = σ * b.num := by
    by_cases h : b.num < 0
    · exact ⟨-1, by decide, by rw [decide_eq_true h]; simp [sgn], by omega⟩
    · exact ⟨1, by decide, by rw [decide_eq_false h]; simp [sgn], by omega⟩
  obtain ⟨σ, h0, h1, h2⟩ := e1
  rw [qmk_div, sgn_mul, sgn_self, h1, Rat.natCast_mul, ← Rat.intCast_natCast b.num.natAbs, h2, Rat.intCast_mul, Rat.intCast_mul, Rat.intCast_mul]
  conv => rhs; rw [rat_parts a, rat_parts b]
  have d1 : (a.den : Rat) ≠ 0 := by simpa using a.den_nz
  have d2 : (b.den : Rat) ≠ 0 := by simpa using b.den_nz
  have d3 : (b.num : Rat) ≠ 0 := by simpa using hb0
  have d4 : (σ : Rat) ≠ 0 := by simpa using h0
  rw [Rat.intCast_natCast]
  generalize (a.den : Rat) = x at *
  generalize (b.den : Rat) = y at *
  generalize (a.num : Rat) = z at *
  generalize (b.num : Rat) = t at *
  generalize (σ : Rat) = s at *
  grind

end Go.Proofs.Ytmknengmjepdaaa
