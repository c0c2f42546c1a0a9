/- Walks of trankref01's small, Frac, answer, New. -/
import Derived.Test.YtmknengmjepdaaaQf
namespace Go.Proofs.Ytmknengmjepdaaa
open Go.RowKit

/-- The number is below 2^62 and one more. -/
def smallB (n : Nat) : Bool := decide (n ≤ 4611686018427387904)

set_option maxHeartbeats 400000 in
theorem small_yes (n : Nat) (v : Value) (w : World) (h : NatR w v n) (hn : n ≤ 4611686018427387904) :
    Calls Try.prog 112 #[v] w fun e w' => e = .returned (.tuple #[.int .i64 n, .bool true]) ∧ w = w' := by
  have hlt : n < 18446744073709551616 := by omega
  have hl := digs_len_two hlt
  have h0 := h
  obtain ⟨ao, cap, rfl, _⟩ := h
  obtain ⟨L, hL⟩ : ∃ L, (digs n).length = L := ⟨_, rfl⟩
  rw [hL] at hl h0 ⊢
  clear hL
  go_enter Try.func112, Try.ntmps112
  go_wp2_with (go_at_call 125; refine (short_any n _ _ hlt h0).mono ?_; rintro e w' ⟨rfl, rfl⟩)
  go_ret2
  exact ⟨rfl, rfl⟩
set_option maxHeartbeats 400000 in
theorem small_no (n : Nat) (v : Value) (w : World) (h : NatR w v n) (hn : 4611686018427387904 < n) :
    Calls Try.prog 112 #[v] w fun e w' => e = .returned (.tuple #[.int .i64 0, .bool false]) ∧ w = w' := by
  have h0 := h
  obtain ⟨ao, cap, rfl, _⟩ := h
  by_cases hl : (digs n).length ≤ 2
  · have hlt := small_lt hl
    obtain ⟨L, hL⟩ : ∃ L, (digs n).length = L := ⟨_, rfl⟩
    rw [hL] at hl h0 ⊢
    clear hL
    go_enter Try.func112, Try.ntmps112
    go_wp2_with (go_at_call 125; refine (short_any n _ _ hlt h0).mono ?_; rintro e w' ⟨rfl, rfl⟩)
    go_ret2
    exact ⟨rfl, rfl⟩
  · obtain ⟨L, hL⟩ : ∃ L, (digs n).length = L := ⟨_, rfl⟩
    rw [hL] at hl h0 ⊢
    clear hL hn h0
    go_enter Try.func112, Try.ntmps112
    go_wp2
    go_ret2
    exact ⟨rfl, rfl⟩
theorem small_any (n : Nat) (v : Value) (w : World) (h : NatR w v n) :
    Calls Try.prog 112 #[v] w fun e w' => e = .returned (.tuple #[.int .i64 (if smallB n then (n : Int) else 0), .bool (smallB n)]) ∧ w = w' := by
  by_cases hn : n ≤ 4611686018427387904
  · rw [show smallB n = true from decide_eq_true hn, if_pos rfl]; exact small_yes n v w h hn
  · rw [show smallB n = false from decide_eq_false hn, if_neg (by decide)]; exact small_no n v w h (by omega)

/-- The rational number is a fraction within the limits. -/
def fits (q : Rat) : Prop := q.num.natAbs ≤ 1000000000 ∧ q.den ≤ 1000000000

set_option maxHeartbeats 1000000 in
theorem Frac_yes (q : Rat) (v : Value) (w : World) (h : QR w v q) (hf : fits q) :
    Calls Try.prog 76 #[v] w fun e w' => e = .returned (.tuple #[frV q.num q.den, .bool true]) ∧ Below w.heap.size w w' := by
  obtain ⟨hf1, hf2⟩ := hf
  obtain ⟨n, d, rfl, hn, hd⟩ := h
  have hn0 := hn
  have hd0 := hd
  obtain ⟨no, nc, rfl, _⟩ := hn
  obtain ⟨do_, dc, rfl, _⟩ := hd
  obtain ⟨A, hA⟩ : ∃ A, q.num.natAbs = A := ⟨_, rfl⟩
  obtain ⟨D, hD⟩ : ∃ A, q.den = A := ⟨_, rfl⟩
  obtain ⟨nb, hnb⟩ : ∃ A, decide (q.num < 0) = A := ⟨_, rfl⟩
  have hz : q.num = if nb then -(A : Int) else A := by
    rw [← hnb, ← hA]; by_cases h : q.num < 0
    · rw [decide_eq_true h, if_pos rfl]; omega
    · rw [decide_eq_false h, if_neg (by decide)]; omega
  rw [hnb, hA, hz, hD]
  rw [hA] at hn0 hf1
  rw [hD] at hd0 hf2
  clear hA hD hnb hz
  have hB : ∀ o1 o2, Below w.heap.size w ((w.alloc o1).alloc o2) := fun o1 o2 => ((Below.refl _ _).alloc (Nat.le_refl _) _).alloc (by simp) _
  have HB := hid hB
  clear hB
  cases nb
  all_goals
    go_enter Try.func76, Try.ntmps76
    go_wp2_with fail
    refine (small_yes A _ _ (hn0.below (HB.out _ _)) (by omega)).mono ?_
    rintro e w1 ⟨rfl, rfl⟩
    go_wp2_with fail
    refine (small_yes D _ _ (hd0.below (HB.out _ _)) (by omega)).mono ?_
    rintro e w1 ⟨rfl, rfl⟩
    go_wp2
  · exact bodyPost_ret (v := .tuple #[frV (A : Int) (D : Int), .bool true]) (by simp [results, Try.results76, go_sem, frV]) rfl ⟨rfl, HB.out _ _⟩
  · exact bodyPost_ret (v := .tuple #[frV (-(A : Int)) (D : Int), .bool true]) (by simp [results, Try.results76, go_sem, frV]) rfl ⟨rfl, HB.out _ _⟩

set_option maxHeartbeats 1000000 in
theorem Frac_no (q : Rat) (v : Value) (w : World) (h : QR w v q) (hf : ¬ fits q) :
    Calls Try.prog 76 #[v] w fun e w' => e = .returned (.tuple #[frV 0 0, .bool false]) ∧ Below w.heap.size w w' := by
  have hf' : ¬ (q.num.natAbs ≤ 1000000000 ∧ q.den ≤ 1000000000) := hf
  clear hf
  obtain ⟨n, d, rfl, hn, hd⟩ := h
  have hn0 := hn
  have hd0 := hd
  obtain ⟨no, nc, rfl, _⟩ := hn
  obtain ⟨do_, dc, rfl, _⟩ := hd
  obtain ⟨A, hA⟩ : ∃ A, q.num.natAbs = A := ⟨_, rfl⟩
  obtain ⟨D, hD⟩ : ∃ A, q.den = A := ⟨_, rfl⟩
  obtain ⟨nb, hnb⟩ : ∃ A, decide (q.num < 0) = A := ⟨_, rfl⟩
  rw [hnb, hA, hD]
  rw [hA] at hn0 hf'
  rw [hD] at hd0 hf'
  clear hA hD hnb
  have hB : ∀ o1 o2, Below w.heap.size w ((w.alloc o1).alloc o2) := fun o1 o2 => ((Below.refl _ _).alloc (Nat.le_refl _) _).alloc (by simp) _
  have HB := hid hB
  clear hB
  have hcase : (4611686018427387904 < A) ∨ (A ≤ 4611686018427387904 ∧ 4611686018427387904 < D) ∨ (A ≤ 4611686018427387904 ∧ D ≤ 4611686018427387904 ∧ 1000000000 < A) ∨ (A ≤ 4611686018427387904 ∧ D ≤ 4611686018427387904 ∧ A ≤ 1000000000 ∧ 1000000000 < D) := by omega
  clear hf'
  rcases hcase with h1 | ⟨h1, h2⟩ | ⟨h1, h2, h3⟩ | ⟨h1, h2, h3, h4⟩
  · go_enter Try.func76, Try.ntmps76
    go_wp2_with fail
    refine (small_no A _ _ (hn0.below (HB.out _ _)) h1).mono ?_
    rintro e w1 ⟨rfl, rfl⟩
    go_wp2_with fail
    refine (small_any D _ _ (hd0.below (HB.out _ _))).mono ?_
    rintro e w1 ⟨rfl, rfl⟩
    generalize (if smallB D = true then (D : Int) else 0) = z
    generalize smallB D = sb
    go_wp2
    exact bodyPost_ret (v := .tuple #[frV 0 0, .bool false]) (by simp [results, Try.results76, go_sem, frV]) rfl ⟨rfl, HB.out _ _⟩
  · go_enter Try.func76, Try.ntmps76
    go_wp2_with fail
    refine (small_yes A _ _ (hn0.below (HB.out _ _)) h1).mono ?_
    rintro e w1 ⟨rfl, rfl⟩
    go_wp2_with fail
    refine (small_no D _ _ (hd0.below (HB.out _ _)) h2).mono ?_
    rintro e w1 ⟨rfl, rfl⟩
    go_wp2
    exact bodyPost_ret (v := .tuple #[frV 0 0, .bool false]) (by simp [results, Try.results76, go_sem, frV]) rfl ⟨rfl, HB.out _ _⟩
  all_goals
    go_enter Try.func76, Try.ntmps76
    go_wp2_with fail
    refine (small_yes A _ _ (hn0.below (HB.out _ _)) h1).mono ?_
    rintro e w1 ⟨rfl, rfl⟩
    go_wp2_with fail
    refine (small_yes D _ _ (hd0.below (HB.out _ _)) h2).mono ?_
    rintro e w1 ⟨rfl, rfl⟩
    go_wp2
    exact bodyPost_ret (v := .tuple #[frV 0 0, .bool false]) (by simp [results, Try.results76, go_sem, frV]) rfl ⟨rfl, HB.out _ _⟩

instance (q : Rat) : Decidable (fits q) := inferInstanceAs (Decidable (_ ∧ _))
/-- What a rational number comes to as a fraction: its numerator, its denominator. -/
def fitN (q : Rat) : Int := if fits q then q.num else 0
def fitD (q : Rat) : Int := if fits q then (q.den : Int) else 0
def fitE (q : Rat) : Int := if fits q then 0 else 5
theorem Frac_any (q : Rat) (v : Value) (w : World) (h : QR w v q) :
    Calls Try.prog 76 #[v] w fun e w' => e = .returned (.tuple #[frV (fitN q) (fitD q), .bool (decide (fits q))]) ∧ Below w.heap.size w w' := by
  unfold fitN fitD
  by_cases hf : fits q
  · rw [if_pos hf, if_pos hf, decide_eq_true hf]; exact Frac_yes q v w h hf
  · rw [if_neg hf, if_neg hf, decide_eq_false hf]; exact Frac_no q v w h hf

set_option maxHeartbeats 1000000 in
theorem answer_any (q : Rat) (v : Value) (w : World) (h : QR w v q) :
    Calls Try.prog 110 #[v] w fun e w' => e = .returned (.tuple #[frV (fitN q) (fitD q), .int .i64 (fitE q)]) ∧ Below w.heap.size w w' := by
  have h0 := h
  obtain ⟨x0, x1, x2, rfl⟩ := h.shape3
  by_cases hf : fits q
  · rw [show fitE q = 0 from if_pos hf, show fitN q = q.num from if_pos hf, show fitD q = (q.den : Int) from if_pos hf]
    go_enter Try.func110, Try.ntmps110
    go_wp2_with fail
    obtain ⟨W0, hW0, k0, k2, hB, hsz⟩ := one_new w #[x0, x1, x2] #[.int .i64 0, .int .i64 0] 43 26
    rw [hW0]
    clear hW0
    refine (Frac_yes q _ _ (h0.below hB) hf).mono ?_
    rintro e w1 ⟨rfl, hb1⟩
    have hB1 := hB.trans (hb1.mono hB.size)
    have k1 := k2.below hb1
    have f1 := k1.frozen
    have c0 := k1.cell 0
    have c1 := k1.cell 1
    have hlt := k1.lt
    go_wp2
    refine bodyPost_ret (v := .tuple #[frV q.num (q.den : Int), .int .i64 0]) ?_ rfl ⟨rfl, ?_⟩
    · have kf := ((k1.set 0 (.int .i64 (q.num))).set 1 (.int .i64 ((q.den : Int)))).alloc (.cells #[.int .i64 (q.num), .int .i64 ((q.den : Int))] 26)
      have d0 := kf.cell 0
      have d1 := kf.cell 1
      simp only [Array.getElem?_setIfInBounds] at d0 d1
      simp [results, Try.results110, go_sem, d0, d1]
    · exact ((hB1.setCell (Nat.le_add_right _ 1) _).setCell (Nat.le_add_right _ 1) _).alloc (by simp; omega) _
  · rw [show fitE q = 5 from if_neg hf, show fitN q = 0 from if_neg hf, show fitD q = 0 from if_neg hf]
    go_enter Try.func110, Try.ntmps110
    go_wp2_with fail
    obtain ⟨W0, hW0, k0, k2, hB, hsz⟩ := one_new w #[x0, x1, x2] #[.int .i64 0, .int .i64 0] 43 26
    rw [hW0]
    clear hW0
    refine (Frac_no q _ _ (h0.below hB) hf).mono ?_
    rintro e w1 ⟨rfl, hb1⟩
    have hB1 := hB.trans (hb1.mono hB.size)
    have k1 := k2.below hb1
    have f1 := k1.frozen
    have c0 := k1.cell 0
    have c1 := k1.cell 1
    have hlt := k1.lt
    go_wp2
    refine bodyPost_ret (v := .tuple #[frV 0 0, .int .i64 5]) ?_ rfl ⟨rfl, ?_⟩
    · have kf := ((k1.set 0 (.int .i64 (0))).set 1 (.int .i64 (0))).alloc (.cells #[.int .i64 (0), .int .i64 (0)] 26)
      have d0 := kf.cell 0
      have d1 := kf.cell 1
      simp only [Array.getElem?_setIfInBounds] at d0 d1
      simp [results, Try.results110, go_sem, d0, d1]
    · exact ((hB1.setCell (Nat.le_add_right _ 1) _).setCell (Nat.le_add_right _ 1) _).alloc (by simp; omega) _

end Go.Proofs.Ytmknengmjepdaaa
