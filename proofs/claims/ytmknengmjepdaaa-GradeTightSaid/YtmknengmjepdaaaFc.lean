/- Walks of trank/frac: Valid. -/
import Derived.Test.YtmknengmjepdaaaFb
namespace Go.Proofs.Ytmknengmjepdaaa
open Go.RowKit

set_option maxHeartbeats 1000000 in
theorem fValid_any (n d : Int) (w : World) :
    Calls Try.prog 100 #[.agg #[.int .i64 n, .int .i64 d]] w fun e w' => e = .returned (.bool (decide (FV n d))) ∧ Below w.heap.size w w' := by
  have hB : ∀ o (k : Nat), Below w.heap.size w ((w.alloc o).drewN k) := fun o k => below_drewN0 ((Below.refl _ _).alloc (Nat.le_refl _) _) k
  have HB := hid hB
  clear hB
  by_cases hb : 1 ≤ d ∧ d ≤ 1000000000 ∧ -1000000000 ≤ n ∧ n ≤ 1000000000
  · obtain ⟨h1, h2, h3, h4⟩ := hb
    have hdec : decide (FV n d) = (((Nat.gcd n.natAbs d.natAbs : Nat) : Int) == 1) := by
      by_cases hg : Nat.gcd n.natAbs d.natAbs = 1
      · have hFV : FV n d := ⟨h1, h2, h3, h4, hg⟩
        rw [decide_eq_true hFV, hg]; rfl
      · rw [decide_eq_false (fun h : FV n d => hg h.2.2.2.2)]; symm; rw [beq_eq_false_iff_ne]; omega
    rw [hdec]
    have hd : d = ((d.natAbs : Nat) : Int) := by omega
    have HG : Hid (∀ w, Calls Try.prog 122 #[.int .u64 ((n.natAbs : Nat) : Int), .int .u64 d] w fun e w' => e = .returned (.int .u64 (Nat.gcd n.natAbs d.natAbs)) ∧ ∃ n, w' = w.drewN n) := by
      intro w; have := gcd_any n.natAbs d.natAbs w (by omega) (by omega); rw [← hd] at this; exact this
    clear hdec hd
    go_enter Try.func100, Try.ntmps100
    go_wp2
    go_quiet (first | (go_at_call 109; exact Calls.quiet_of_same ((size_any _ _ (by omega) (by omega)).mono fun e w' h => ⟨h.1, h.2.symm⟩)) | (go_at_call 122; exact Calls.quiet_of (HG.out _)))
    go_wp2
    go_ret
    exact ⟨rfl, HB.out _ _⟩
  · have hdec : decide (FV n d) = false := decide_eq_false (fun h => hb ⟨h.1, h.2.1, h.2.2.1, h.2.2.2.1⟩)
    rw [hdec]
    clear hdec
    have hc : d < 1 ∨ (1 ≤ d ∧ 1000000000 < d) ∨ (1 ≤ d ∧ d ≤ 1000000000 ∧ n < -1000000000) ∨ (1 ≤ d ∧ d ≤ 1000000000 ∧ -1000000000 ≤ n ∧ 1000000000 < n) := by omega
    clear hb
    rcases hc with h1 | ⟨h1, h2⟩ | ⟨h1, h2, h3⟩ | ⟨h1, h2, h3, h4⟩
    · have e1 : decide (1 ≤ d) = false := decide_eq_false (by omega)
      go_enter Try.func100, Try.ntmps100
      go_wp2
      go_quiet (fail)
      go_wp2
      go_ret
      exact ⟨rfl, HB.out _ _⟩
    · have e1 : decide (d ≤ 1000000000) = false := decide_eq_false (by omega)
      go_enter Try.func100, Try.ntmps100
      go_wp2
      go_quiet (fail)
      go_wp2
      go_ret
      exact ⟨rfl, HB.out _ _⟩
    · have e1 : decide (-1000000000 ≤ n) = false := decide_eq_false (by omega)
      go_enter Try.func100, Try.ntmps100
      go_wp2
      go_quiet (fail)
      go_wp2
      go_ret
      exact ⟨rfl, HB.out _ _⟩
    · have e1 : decide (n ≤ 1000000000) = false := decide_eq_false (by omega)
      go_enter Try.func100, Try.ntmps100
      go_wp2
      go_quiet (fail)
      go_wp2
      go_ret
      exact ⟨rfl, HB.out _ _⟩

end Go.Proofs.Ytmknengmjepdaaa
