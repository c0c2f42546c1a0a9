/- Plain numbers: bits of digits, a step of long division. -/
import Derived.Test.YtmknengmjepdaaaPn
namespace Go.Proofs.Ytmknengmjepdaaa

theorem dval_getD (o : List Nat) (h : ∀ d ∈ o, d < 4294967296) (j : Nat) : o.getD j 0 = dval o / 4294967296 ^ j % 4294967296 := by
  induction o generalizing j with
  | nil => simp [dval]
  | cons x xs ih =>
    have hx := h x (by simp)
    cases j with
    | zero => simp [dval]; omega
    | succ j =>
      rw [List.getD_cons_succ, ih (fun d hd => h d (by simp [hd])) j, dval, Nat.pow_succ, Nat.mul_comm (4294967296 ^ j), ← Nat.div_div_eq_div_mul]
      rw [show (x + 4294967296 * dval xs) / 4294967296 = dval xs by omega]
theorem digs_getD (a j : Nat) : (digs a).getD j 0 = a / 4294967296 ^ j % 4294967296 := by
  rw [dval_getD _ (digs_lt a), dval_digs]
theorem pow_split (i : Nat) : (2 : Nat) ^ i = 4294967296 ^ (i / 32) * 2 ^ (i % 32) := by
  conv => lhs; rw [show i = 32 * (i / 32) + i % 32 by omega]
  rw [Nat.pow_add, Nat.pow_mul]
/-- Bit i of a number, read off its digits. -/
theorem bit_of (a i : Nat) : (digs a).getD (i / 32) 0 / 2 ^ (i % 32) % 2 = a / 2 ^ i % 2 := by
  rw [digs_getD, pow_split i, ← Nat.div_div_eq_div_mul]
  generalize a / 4294967296 ^ (i / 32) = c
  have hr : i % 32 < 32 := Nat.mod_lt _ (by omega)
  generalize i % 32 = r at hr
  have h1 : (4294967296 : Nat) = 2 ^ r * 2 ^ (32 - r) := by rw [← Nat.pow_add, show r + (32 - r) = 32 by omega]
  rw [h1, Nat.mod_mul_right_div_self]
  have h2 : 2 ^ (32 - r) = 2 * 2 ^ (31 - r) := by rw [show 32 - r = (31 - r) + 1 by omega, Nat.pow_succ, Nat.mul_comm]
  exact Nat.mod_mod_of_dvd _ ⟨_, h2⟩
/-- The digit in which bit i lies, of a number without bits up to i. -/
theorem digit_free (o : List Nat) (h : ∀ d ∈ o, d < 4294967296) (i Q : Nat) (hq : dval o = Q * 2 ^ (i + 1)) : ∃ t, o.getD (i / 32) 0 = t * 2 ^ (i % 32 + 1) ∧ t * 2 ^ (i % 32 + 1) + 2 ^ (i % 32) < 4294967296 := by
  have hr : i % 32 < 32 := Nat.mod_lt _ (by omega)
  have e1 : dval o / 4294967296 ^ (i / 32) = Q * 2 ^ (i % 32 + 1) := by
    rw [hq, Nat.pow_succ, pow_split i, show Q * (4294967296 ^ (i / 32) * 2 ^ (i % 32) * 2) = 4294967296 ^ (i / 32) * (Q * 2 ^ (i % 32 + 1)) by
      rw [Nat.pow_succ]; generalize 4294967296 ^ (i / 32) = x; generalize 2 ^ (i % 32) = y; rw [Nat.mul_assoc x y 2, Nat.mul_left_comm]]
    exact Nat.mul_div_cancel_left _ (Nat.pow_pos (by omega))
  have e2 : (4294967296 : Nat) = 2 ^ (31 - i % 32) * 2 ^ (i % 32 + 1) := by rw [← Nat.pow_add, show 31 - i % 32 + (i % 32 + 1) = 32 by omega]
  refine ⟨Q % 2 ^ (31 - i % 32), ?_, ?_⟩
  · rw [dval_getD o h, e1]
    conv => lhs; rw [e2]
    exact Nat.mul_mod_mul_right _ _ _
  · have h3 : Q % 2 ^ (31 - i % 32) < 2 ^ (31 - i % 32) := Nat.mod_lt _ (Nat.pow_pos (by omega))
    have h4 : (Q % 2 ^ (31 - i % 32) + 1) * 2 ^ (i % 32 + 1) ≤ 4294967296 := by
      conv => rhs; rw [e2]
      exact Nat.mul_le_mul_right _ h3
    rw [Nat.add_mul, Nat.one_mul] at h4
    have h5 : 2 ^ (i % 32) < 2 ^ (i % 32 + 1) := Nat.pow_lt_pow_right (by omega) (by omega)
    omega
theorem or_free (t r : Nat) : (t * 2 ^ (r + 1)) ||| 2 ^ r = t * 2 ^ (r + 1) + 2 ^ r := by
  rw [Nat.mul_comm t, ← Nat.two_pow_add_eq_or_of_lt (Nat.pow_lt_pow_right (by omega) (by omega))]
/-- A step of long division. -/
theorem div_step {a b k : Nat} (hk : k ≠ 0) (_hb : 0 < b) : let A := a / 2 ^ k; let A' := a / 2 ^ (k - 1); let r1 := 2 * (A % b) + A' % 2;
    (b ≤ r1 → A' % b = r1 - b ∧ A' / b * 2 ^ (k - 1) = A / b * 2 ^ k + 2 ^ (k - 1)) ∧ (¬ b ≤ r1 → A' % b = r1 ∧ A' / b * 2 ^ (k - 1) = A / b * 2 ^ k) := by
  intro A A' r1
  have e : (2 : Nat) ^ k = 2 * 2 ^ (k - 1) := by rw [show k = (k - 1) + 1 by omega, Nat.pow_succ, Nat.mul_comm, Nat.add_sub_cancel]
  have h1 : A = A' / 2 := by show a / 2 ^ k = a / 2 ^ (k - 1) / 2; rw [e, Nat.mul_comm, Nat.div_div_eq_div_mul]
  have h2 : A' = 2 * A + A' % 2 := by omega
  have h3 : A = b * (A / b) + A % b := (Nat.div_add_mod A b).symm
  have h4 : A % b < b := Nat.mod_lt _ (by omega)
  have h5 : A' = b * (2 * (A / b)) + r1 := by
    show _ = b * (2 * (A / b)) + (2 * (A % b) + A' % 2)
    rw [Nat.mul_left_comm]
    generalize b * (A / b) = x at *
    omega
  have h6 : r1 < 2 * b := by show 2 * (A % b) + A' % 2 < 2 * b; omega
  have fin : ∀ q r, A' = b * q + r → r < b → A' / b = q ∧ A' % b = r := by
    intro q r hA hr
    constructor
    · rw [hA, Nat.mul_add_div (by omega), Nat.div_eq_of_lt hr, Nat.add_zero]
    · rw [hA, Nat.mul_add_mod, Nat.mod_eq_of_lt hr]
  constructor
  · intro hle
    obtain ⟨q1, q2⟩ := fin (2 * (A / b) + 1) (r1 - b) (by rw [Nat.mul_add, Nat.mul_one]; omega) (by omega)
    refine ⟨q2, ?_⟩
    rw [q1, e, Nat.add_mul, Nat.one_mul, Nat.mul_left_comm, Nat.mul_assoc]
  · intro hle
    obtain ⟨q1, q2⟩ := fin (2 * (A / b)) r1 h5 (by omega)
    refine ⟨q2, ?_⟩
    rw [q1, e, Nat.mul_left_comm, Nat.mul_assoc]
theorem set_bit {o : List Nat} {i t : Nat} (hi : i / 32 < o.length) (ht : o.getD (i / 32) 0 = t * 2 ^ (i % 32 + 1)) : dval (o.set (i / 32) (t * 2 ^ (i % 32 + 1) + 2 ^ (i % 32))) = dval o + 2 ^ i := by
  have := dval_set o (i / 32) (t * 2 ^ (i % 32 + 1) + 2 ^ (i % 32)) hi
  rw [ht, Nat.mul_add, ← pow_split i] at this
  omega
theorem shift_all (a : Nat) {L : Nat} (h : (digs a).length ≤ L) : a / 2 ^ (32 * L) = 0 := by
  apply Nat.div_eq_of_lt
  rw [Nat.pow_mul]
  exact Nat.lt_of_lt_of_le (lt_pow_digs a) (Nat.pow_le_pow_right (by omega) h)

theorem div_ge {a b k r e R : Nat} (hk : k ≠ 0) (hb : 0 < b) (hr : a / 2 ^ k % b = r) (he : a / 2 ^ (k - 1) % 2 = e) (hR : r + r + e = R) (h : b ≤ R) :
    a / 2 ^ (k - 1) % b = R - b ∧ a / 2 ^ (k - 1) / b * 2 ^ (k - 1) = a / 2 ^ k / b * 2 ^ k + 2 ^ (k - 1) := by
  have := (div_step (a := a) hk hb).1
  simp only [hr, he] at this
  rw [show 2 * r + e = R by omega] at this
  exact this h
theorem div_lt {a b k r e R : Nat} (hk : k ≠ 0) (hb : 0 < b) (hr : a / 2 ^ k % b = r) (he : a / 2 ^ (k - 1) % 2 = e) (hR : r + r + e = R) (h : ¬ b ≤ R) :
    a / 2 ^ (k - 1) % b = R ∧ a / 2 ^ (k - 1) / b * 2 ^ (k - 1) = a / 2 ^ k / b * 2 ^ k := by
  have := (div_step (a := a) hk hb).2
  simp only [hr, he] at this
  rw [show 2 * r + e = R by omega] at this
  exact this h

end Go.Proofs.Ytmknengmjepdaaa
