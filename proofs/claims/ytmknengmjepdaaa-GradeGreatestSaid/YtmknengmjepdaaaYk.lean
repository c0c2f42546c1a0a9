/- Walk of trankref04.Most. -/
import Derived.Test.YtmknengmjepdaaaYh
namespace Go.Proofs.Ytmknengmjepdaaa
open Go.RowKit

/-- A limit of measures. -/
def FMost (n d : Int) : Prop := FV n d ∧ 0 ≤ n ∧ d ≤ 100 ∧ n ≤ 1000000 * d
instance (n d : Int) : Decidable (FMost n d) := inferInstanceAs (Decidable (_ ∧ _))
theorem fmost_cases (n d : Int) : ¬ FV n d ∨ (FV n d ∧ n < 0) ∨ (FV n d ∧ 0 ≤ n ∧ 100 < d) ∨ (FV n d ∧ 0 ≤ n ∧ d ≤ 100 ∧ 1000000 * d < n) ∨ (FV n d ∧ 0 ≤ n ∧ d ≤ 100 ∧ n ≤ 1000000 * d) := by
  by_cases h : FV n d
  · rcases Int.lt_or_le n 0 with h1 | h1
    · exact .inr (.inl ⟨h, h1⟩)
    · rcases Int.lt_or_le 100 d with h2 | h2
      · exact .inr (.inr (.inl ⟨h, h1, h2⟩))
      · rcases Int.lt_or_le (1000000 * d) n with h3 | h3
        · exact .inr (.inr (.inr (.inl ⟨h, h1, h2, h3⟩)))
        · exact .inr (.inr (.inr (.inr ⟨h, h1, h2, h3⟩)))
  · exact .inl h

set_option maxHeartbeats 1000000 in
theorem Most_any (n d : Int) (w : World) :
    Calls Try.prog 69 #[.agg #[.int .i64 n, .int .i64 d]] w fun e w' => e = .returned (.bool (decide (FMost n d))) ∧ Below w.heap.size w w' := by
  have hB : ∀ o, Below w.heap.size w (w.alloc o) := fun o => (Below.refl _ _).alloc (Nat.le_refl _) _
  have HB := hid hB
  clear hB
  have hdec : ∀ b : Bool, (b = true ↔ FMost n d) → .returned (.bool b) = Ending.returned (.bool (decide (FMost n d))) := by
    intro b hb
    exact ret_bool (Bool.eq_iff_iff.2 (hb.trans decide_eq_true_iff.symm))
  have HD := hid hdec
  clear hdec
  rcases fmost_cases n d with hv | ⟨hv, h1⟩ | ⟨hv, h1, h2⟩ | ⟨hv, h1, h2, h3⟩ | ⟨hv, h1, h2, h3⟩
  · have HV := hid hv
    clear hv
    go_enter Try.func69, Try.ntmps69
    go_wp2_with fail
    have hk := Blk.new w #[.int .i64 n, .int .i64 d] 26
    have hb0 := HB.out (.cells #[.int .i64 n, .int .i64 d] 26)
    obtain ⟨w0, hw0⟩ : ∃ w0, w.alloc (.cells #[.int .i64 n, .int .i64 d] 26) = w0 := ⟨_, rfl⟩
    rw [hw0] at hk hb0 ⊢
    clear hw0
    refine (Valid_any n d _).mono ?_
    rintro e w1 ⟨rfl, hb1⟩
    rw [decide_eq_false HV.out]
    have c0 := (hk.below hb1).look 0 rfl
    have c1 := (hk.below hb1).look 1 rfl
    go_wp2
    go_ret
    exact ⟨HD.out _ ⟨fun h => (by cases h), fun h => absurd h.1 HV.out⟩, hb0.trans (hb1.mono hb0.size)⟩
  · have HV := hid hv
    have hd1 := hv.1
    have hd2 := hv.2.1
    clear hv
    go_enter Try.func69, Try.ntmps69
    go_wp2_with fail
    have hk := Blk.new w #[.int .i64 n, .int .i64 d] 26
    have hb0 := HB.out (.cells #[.int .i64 n, .int .i64 d] 26)
    obtain ⟨w0, hw0⟩ : ∃ w0, w.alloc (.cells #[.int .i64 n, .int .i64 d] 26) = w0 := ⟨_, rfl⟩
    rw [hw0] at hk hb0 ⊢
    clear hw0
    refine (Valid_any n d _).mono ?_
    rintro e w1 ⟨rfl, hb1⟩
    rw [decide_eq_true HV.out]
    have c0 := (hk.below hb1).look 0 rfl
    have c1 := (hk.below hb1).look 1 rfl
    go_wp2
    go_ret
    exact ⟨HD.out _ ⟨fun h => (by cases h), fun h => by have := h.2.1; omega⟩, hb0.trans (hb1.mono hb0.size)⟩
  · have HV := hid hv
    have hd1 := hv.1
    have hd2 := hv.2.1
    clear hv
    go_enter Try.func69, Try.ntmps69
    go_wp2_with fail
    have hk := Blk.new w #[.int .i64 n, .int .i64 d] 26
    have hb0 := HB.out (.cells #[.int .i64 n, .int .i64 d] 26)
    obtain ⟨w0, hw0⟩ : ∃ w0, w.alloc (.cells #[.int .i64 n, .int .i64 d] 26) = w0 := ⟨_, rfl⟩
    rw [hw0] at hk hb0 ⊢
    clear hw0
    refine (Valid_any n d _).mono ?_
    rintro e w1 ⟨rfl, hb1⟩
    rw [decide_eq_true HV.out]
    have c0 := (hk.below hb1).look 0 rfl
    have c1 := (hk.below hb1).look 1 rfl
    go_wp2
    go_ret
    exact ⟨HD.out _ ⟨fun h => (by cases h), fun h => by have := h.2.2.1; omega⟩, hb0.trans (hb1.mono hb0.size)⟩
  · have HV := hid hv
    have hd1 := hv.1
    have hd2 := hv.2.1
    clear hv
    go_enter Try.func69, Try.ntmps69
    go_wp2_with fail
    have hk := Blk.new w #[.int .i64 n, .int .i64 d] 26
    have hb0 := HB.out (.cells #[.int .i64 n, .int .i64 d] 26)
    obtain ⟨w0, hw0⟩ : ∃ w0, w.alloc (.cells #[.int .i64 n, .int .i64 d] 26) = w0 := ⟨_, rfl⟩
    rw [hw0] at hk hb0 ⊢
    clear hw0
    refine (Valid_any n d _).mono ?_
    rintro e w1 ⟨rfl, hb1⟩
    rw [decide_eq_true HV.out]
    have c0 := (hk.below hb1).look 0 rfl
    have c1 := (hk.below hb1).look 1 rfl
    go_wp2
    go_ret
    exact ⟨HD.out _ ⟨fun h => (by have := of_decide_eq_true h; omega), fun h => by have := h.2.2.2; omega⟩, hb0.trans (hb1.mono hb0.size)⟩
  · have HV := hid hv
    have hd1 := hv.1
    have hd2 := hv.2.1
    clear hv
    go_enter Try.func69, Try.ntmps69
    go_wp2_with fail
    have hk := Blk.new w #[.int .i64 n, .int .i64 d] 26
    have hb0 := HB.out (.cells #[.int .i64 n, .int .i64 d] 26)
    obtain ⟨w0, hw0⟩ : ∃ w0, w.alloc (.cells #[.int .i64 n, .int .i64 d] 26) = w0 := ⟨_, rfl⟩
    rw [hw0] at hk hb0 ⊢
    clear hw0
    refine (Valid_any n d _).mono ?_
    rintro e w1 ⟨rfl, hb1⟩
    rw [decide_eq_true HV.out]
    have c0 := (hk.below hb1).look 0 rfl
    have c1 := (hk.below hb1).look 1 rfl
    go_wp2
    go_ret
    exact ⟨HD.out _ ⟨fun _ => ⟨HV.out, h1, h2, h3⟩, fun _ => rfl⟩, hb0.trans (hb1.mono hb0.size)⟩


end Go.Proofs.Ytmknengmjepdaaa
