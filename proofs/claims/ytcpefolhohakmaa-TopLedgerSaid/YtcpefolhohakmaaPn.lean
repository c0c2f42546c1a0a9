/- Plain numbers: the digits of a natural number to the base 2^32; no program in sight. -/
namespace Go.Proofs.Ytcpefolhohakmaa

/-- The digits of n to the base 2^32, the lowest first. -/
def digs (n : Nat) : List Nat := if h : n = 0 then [] else (n % 4294967296) :: digs (n / 4294967296)
termination_by n
decreasing_by omega

/-- The value of digits. -/
def dval : List Nat → Nat
  | [] => 0
  | d :: ds => d + 4294967296 * dval ds

theorem digs_zero : digs 0 = [] := by rw [digs]; simp
theorem digs_pos {n : Nat} (h : n ≠ 0) : digs n = (n % 4294967296) :: digs (n / 4294967296) := by rw [digs, dif_neg h]
theorem dval_digs (n : Nat) : dval (digs n) = n := by
  induction n using Nat.strongRecOn with
  | _ n ih =>
    by_cases h : n = 0
    · subst h; rw [digs_zero]; rfl
    · rw [digs_pos h, dval, ih _ (by omega)]; omega
theorem digs_lt (n : Nat) : ∀ d ∈ digs n, d < 4294967296 := by
  induction n using Nat.strongRecOn with
  | _ n ih =>
    by_cases h : n = 0
    · subst h; rw [digs_zero]; simp
    · rw [digs_pos h]
      intro d hd
      rcases List.mem_cons.1 hd with rfl | hd
      · omega
      · exact ih _ (by omega) d hd
theorem digs_nil {n : Nat} : digs n = [] ↔ n = 0 := by
  constructor
  · intro h
    by_cases h0 : n = 0
    · exact h0
    · rw [digs_pos h0] at h; cases h
  · rintro rfl; exact digs_zero
theorem digs_len_zero {n : Nat} : (digs n).length = 0 ↔ n = 0 := by rw [List.length_eq_zero_iff, digs_nil]
theorem digs_one {n : Nat} (h : n ≠ 0) (hn : n < 4294967296) : digs n = [n] := by
  rw [digs_pos h, Nat.mod_eq_of_lt hn, Nat.div_eq_of_lt hn, digs_zero]
theorem dval_append (a b : List Nat) : dval (a ++ b) = dval a + 4294967296 ^ a.length * dval b := by
  induction a with
  | nil => simp [dval]
  | cons d ds ih => simp only [List.cons_append, dval, ih, List.length_cons, Nat.pow_succ]; rw [Nat.mul_add, Nat.add_assoc, Nat.mul_comm (4294967296 ^ ds.length) 4294967296, Nat.mul_assoc]
theorem dval_lt (a : List Nat) (h : ∀ d ∈ a, d < 4294967296) : dval a < 4294967296 ^ a.length := by
  induction a with
  | nil => simp [dval]
  | cons d ds ih =>
    have h1 := h d (by simp)
    have h2 := ih (fun x hx => h x (by simp [hx]))
    simp only [dval, List.length_cons, Nat.pow_succ]
    omega
theorem dval_snoc_zero (a : List Nat) : dval (a ++ [0]) = dval a := by rw [dval_append]; simp [dval]
/-- Digits whose last one is not zero are the digits of their value. -/
theorem digs_dval (a : List Nat) (h : ∀ d ∈ a, d < 4294967296) (hl : ∀ x, a.getLast? = some x → x ≠ 0) : digs (dval a) = a := by
  induction a with
  | nil => exact digs_zero
  | cons d ds ih =>
    have h1 := h d (by simp)
    have h2 := ih (fun x hx => h x (by simp [hx])) (fun x hx => by
      cases ds with
      | nil => simp at hx
      | cons y ys => exact hl x (by simpa [List.getLast?_cons_cons] using hx))
    have hne : dval (d :: ds) ≠ 0 := by
      simp only [dval]
      intro hz
      have hd : d = 0 := by omega
      have hv : dval ds = 0 := by omega
      cases ds with
      | nil => exact hl d (by simp) hd
      | cons y ys => rw [hv, digs_zero] at h2; cases h2
    rw [digs_pos hne]
    simp only [dval] at *
    rw [show (d + 4294967296 * dval ds) % 4294967296 = d by omega, show (d + 4294967296 * dval ds) / 4294967296 = dval ds by omega, h2]
theorem digs_last (n : Nat) : ∀ x, (digs n).getLast? = some x → x ≠ 0 := by
  induction n using Nat.strongRecOn with
  | _ n ih =>
    intro x hx
    by_cases h : n = 0
    · subst h; rw [digs_zero] at hx; cases hx
    · rw [digs_pos h] at hx
      by_cases h2 : n / 4294967296 = 0
      · rw [h2, digs_zero] at hx; simp at hx; omega
      · rw [digs_pos h2, List.getLast?_cons_cons, ← digs_pos h2] at hx
        exact ih _ (by omega) x hx
/-- The digits of a value: what is left of the digits when trailing zeros are cut off. -/
theorem digs_dval_take (a : List Nat) (h : ∀ d ∈ a, d < 4294967296) (k : Nat) (hk : k ≤ a.length) (hz : dval (a.drop k) = 0) (hl : k = 0 ∨ a.getD (k - 1) 0 ≠ 0) :
    digs (dval a) = a.take k := by
  have h1 : dval a = dval (a.take k) := by
    conv => lhs; rw [← List.take_append_drop k a, dval_append, hz]
    simp
  rw [h1]
  refine digs_dval _ (fun d hd => h d (List.mem_of_mem_take hd)) (fun x hx => ?_)
  rcases hl with rfl | hl
  · simp at hx
  · intro hx0
    subst hx0
    rw [List.getLast?_eq_getElem?] at hx
    have : (a.take k).length = k := by simp [hk]
    rw [this] at hx
    by_cases hk0 : k = 0
    · subst hk0; simp at hx
    · rw [List.getElem?_take_of_lt (by omega)] at hx
      apply hl
      rw [List.getD_eq_getElem?_getD, hx]; rfl
theorem digs_len_le {n k : Nat} (h : n < 4294967296 ^ k) : (digs n).length ≤ k := by
  induction k generalizing n with
  | zero => have : n = 0 := by simpa using h
            subst this; rw [digs_zero]; simp
  | succ k ih =>
    by_cases h0 : n = 0
    · subst h0; rw [digs_zero]; simp
    · rw [digs_pos h0, List.length_cons]
      have := ih (n := n / 4294967296) (by rw [Nat.div_lt_iff_lt_mul (by omega)]; rwa [Nat.pow_succ] at h)
      omega
theorem lt_pow_digs (n : Nat) : n < 4294967296 ^ (digs n).length := by
  have := dval_lt (digs n) (digs_lt n)
  rwa [dval_digs] at this
theorem pow_le_digs {n : Nat} (h : n ≠ 0) : 4294967296 ^ ((digs n).length - 1) ≤ n := by
  induction n using Nat.strongRecOn with
  | _ n ih =>
    rw [digs_pos h, List.length_cons, Nat.add_sub_cancel]
    by_cases h2 : n / 4294967296 = 0
    · rw [h2, digs_zero]; simp; omega
    · have := ih _ (by omega) h2
      rw [digs_pos h2, List.length_cons, Nat.add_sub_cancel] at this
      rw [digs_pos h2, List.length_cons, Nat.pow_succ]
      omega
theorem digs_mono_len {a b : Nat} (h : a ≤ b) : (digs a).length ≤ (digs b).length := digs_len_le (Nat.lt_of_le_of_lt h (lt_pow_digs b))
theorem lt_of_digs_len {a b : Nat} (h : (digs a).length < (digs b).length) : a < b := by
  rcases Nat.lt_or_ge a b with h1 | h1
  · exact h1
  · have := digs_mono_len h1; omega
theorem digs_len_add (a b : Nat) : (digs (a + b)).length ≤ max (digs a).length (digs b).length + 1 := by
  apply digs_len_le
  have h1 := lt_pow_digs a
  have h2 := lt_pow_digs b
  have h3 : 4294967296 ^ (digs a).length ≤ 4294967296 ^ max (digs a).length (digs b).length := Nat.pow_le_pow_right (by omega) (Nat.le_max_left _ _)
  have h4 : 4294967296 ^ (digs b).length ≤ 4294967296 ^ max (digs a).length (digs b).length := Nat.pow_le_pow_right (by omega) (Nat.le_max_right _ _)
  rw [Nat.pow_succ]
  omega
theorem digs_len_mul (a b : Nat) : (digs (a * b)).length ≤ (digs a).length + (digs b).length := by
  apply digs_len_le
  rw [Nat.pow_add]
  exact Nat.mul_lt_mul'' (lt_pow_digs a) (lt_pow_digs b)
theorem digs_len_small {n : Nat} (h : n < 4294967296) : (digs n).length ≤ 1 := digs_len_le (by simpa using h)
theorem digs_len_two {n : Nat} (h : n < 18446744073709551616) : (digs n).length ≤ 2 := digs_len_le (by simpa using h)
/-- Two numbers of as many digits: the first digit from above in which they part decides. -/
theorem lt_of_digit (a b : List Nat) (ha : ∀ d ∈ a, d < 4294967296) (i : Nat) (hia : i < a.length) (hlen : a.length = b.length)
    (heq : a.drop (i + 1) = b.drop (i + 1)) (hlt : a.getD i 0 < b.getD i 0) : dval a < dval b := by
  have e1 : a = a.take i ++ (a.getD i 0 :: a.drop (i + 1)) := by
    rw [List.getD_eq_getElem?_getD, List.getElem?_eq_getElem hia]; simp
  have e2 : b = b.take i ++ (b.getD i 0 :: b.drop (i + 1)) := by
    rw [List.getD_eq_getElem?_getD, List.getElem?_eq_getElem (by omega)]; simp
  rw [e1, e2, dval_append, dval_append, dval, dval, heq]
  have h1 := dval_lt (a.take i) (fun d hd => ha d (List.mem_of_mem_take hd))
  have l1 : (a.take i).length = i := by simp; omega
  have l2 : (b.take i).length = i := by simp; omega
  rw [l1] at h1 ⊢
  rw [l2]
  generalize dval (a.take i) = x at h1
  generalize dval (b.take i) = y
  generalize dval (b.drop (i + 1)) = z
  generalize a.getD i 0 = p at hlt ⊢
  generalize b.getD i 0 = q at hlt ⊢
  generalize 4294967296 ^ i = c at h1 ⊢
  have : c * (p + 4294967296 * z) + c ≤ c * (q + 4294967296 * z) := by
    rw [← Nat.mul_succ]; exact Nat.mul_le_mul_left _ (by omega)
  omega

theorem dval_replicate (n : Nat) : dval (List.replicate n 0) = 0 := by
  induction n with
  | zero => rfl
  | succ n ih => rw [List.replicate_succ, dval, ih]
theorem dval_set (o : List Nat) (j d : Nat) (h : j < o.length) : dval (o.set j d) + 4294967296 ^ j * o.getD j 0 = dval o + 4294967296 ^ j * d := by
  induction o generalizing j with
  | nil => simp at h
  | cons x xs ih =>
    cases j with
    | zero => simp [dval]; omega
    | succ j =>
      have := ih j (by simpa using h)
      simp only [List.set_cons_succ, dval, List.getD_cons_succ, Nat.pow_succ]
      have e1 : 4294967296 ^ j * 4294967296 * xs.getD j 0 = 4294967296 * (4294967296 ^ j * xs.getD j 0) := by rw [Nat.mul_comm (4294967296 ^ j) 4294967296, Nat.mul_assoc]
      have e2 : 4294967296 ^ j * 4294967296 * d = 4294967296 * (4294967296 ^ j * d) := by rw [Nat.mul_comm (4294967296 ^ j) 4294967296, Nat.mul_assoc]
      rw [e1, e2]
      omega
theorem mem_set_lt {o : List Nat} {j d : Nat} (h : ∀ x ∈ o, x < 4294967296) (hd : d < 4294967296) : ∀ x ∈ o.set j d, x < 4294967296 := by
  intro x hx
  rcases List.mem_or_eq_of_mem_set hx with hx | rfl
  · exact h x hx
  · exact hd
theorem getD_set_ne {o : List Nat} {j k d : Nat} (h : j ≠ k) : (o.set j d).getD k 0 = o.getD k 0 := by
  rw [List.getD_eq_getElem?_getD, List.getD_eq_getElem?_getD, List.getElem?_set_ne h]
/-- A round of the inner loop of times. -/
theorem times_step {o : List Nat} {c s x y j D : Nat} (hj : j < o.length) (hs : s = c + (o.getD j 0 + x * y)) (h : dval o + 4294967296 ^ j * c = D) :
    dval (o.set j (s % 4294967296)) + 4294967296 ^ (j + 1) * (s / 4294967296) = D + 4294967296 ^ j * (x * y) := by
  have h1 := dval_set o j (s % 4294967296) hj
  have h2 : s % 4294967296 + 4294967296 * (s / 4294967296) = s := by omega
  have h3 : 4294967296 ^ j * (s % 4294967296) + 4294967296 ^ (j + 1) * (s / 4294967296) = 4294967296 ^ j * s := by
    rw [Nat.pow_succ, Nat.mul_assoc, ← Nat.mul_add, h2]
  have h4 : 4294967296 ^ j * s = 4294967296 ^ j * c + 4294967296 ^ j * o.getD j 0 + 4294967296 ^ j * (x * y) := by
    rw [hs, Nat.mul_add, Nat.mul_add, Nat.add_assoc]
  generalize 4294967296 ^ j * o.getD j 0 = p at *
  generalize 4294967296 ^ j * (s % 4294967296) = q at *
  generalize 4294967296 ^ (j + 1) * (s / 4294967296) = r at *
  generalize 4294967296 ^ j * c = t at *
  generalize 4294967296 ^ j * (x * y) = u at *
  omega
theorem prod_lt {x y : Nat} (hx : x < 4294967296) (hy : y < 4294967296) : x * y ≤ 18446744065119617025 := by
  have := Nat.mul_le_mul (show x ≤ 4294967295 by omega) (show y ≤ 4294967295 by omega)
  omega

end Go.Proofs.Ytcpefolhohakmaa
