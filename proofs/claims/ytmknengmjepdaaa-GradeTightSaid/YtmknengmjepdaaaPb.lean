/- Walks of grade.Valid. -/
import Derived.Test.YtmknengmjepdaaaPa
namespace Go.Proofs.Ytmknengmjepdaaa
open Go.RowKit

theorem gv_cases (n : Int) (a b c d : Int) (h : ¬ RV n ⟨a, b, c, d⟩) : min a b < 0 ∨ (0 ≤ min a b ∧ n ≤ max a b) ∨ (0 ≤ min a b ∧ max a b < n ∧ c < -1000) ∨ (0 ≤ min a b ∧ max a b < n ∧ -1000 ≤ c ∧ 1000 < c) ∨
    (0 ≤ min a b ∧ max a b < n ∧ -1000 ≤ c ∧ c ≤ 1000 ∧ d < -100) ∨ (0 ≤ min a b ∧ max a b < n ∧ -1000 ≤ c ∧ c ≤ 1000 ∧ -100 ≤ d ∧ 100 < d) := by
  unfold RV at h
  dsimp only at h
  omega

set_option maxHeartbeats 4000000 in
theorem gValid_any (p : Pat) (v : Value) (w : World) (h : PatF 0 w v p) :
    Calls Try.prog 65 #[v] w fun e w' => e = .returned (.bool (decide (PValid p))) ∧ Below w.heap.size w w' := by
  obtain ⟨ao, cap, rfl, hcap, hmax, hc⟩ := h.shape
  unfold maxLen at hmax
  clear h
  obtain ⟨L, hL⟩ : ∃ L, p.rules.length = L := ⟨_, rfl⟩
  obtain ⟨n, hn⟩ : ∃ n, p.n = n := ⟨_, rfl⟩
  have HL := hid hL
  have HN := hid hn
  rw [hL] at hcap ⊢
  rw [hn]
  have hB : ∀ o, Below w.heap.size w (w.alloc o) := fun o => (Below.refl _ _).alloc (Nat.le_refl _) _
  have HB := hid hB
  clear hL hn hB
  by_cases h0 : 1 ≤ n ∧ n ≤ 16 ∧ L ≤ 64
  · obtain ⟨h1, h2, h3⟩ := h0
    obtain ⟨res, hres⟩ : ∃ b, decide (PValid p) = b := ⟨_, rfl⟩
    rw [hres]
    have HR := hid hres
    clear hres
    go_enter Try.func65, Try.ntmps65
    go_wp2
    have hk := Blk.new w #[.int .i64 n, .slice ao L cap] 33
    have hbw := HB.out (.cells #[.int .i64 n, .slice ao L cap] 33)
    obtain ⟨w0, hw0⟩ : ∃ w0, w.alloc (.cells #[.int .i64 n, .slice ao L cap] 33) = w0 := ⟨_, rfl⟩
    rw [hw0] at hk hbw ⊢
    clear hw0
    go_loopw [22] (fun x wr => ∃ i : Nat, x = .int .i64 i ∧ i ≤ L ∧ (∀ r ∈ p.rules.take i, RV n r) ∧ Below w0.heap.size w0 wr) (fun x _ => L - (intOf x).toNat)
    case atStart => exact ⟨0, rfl, Nat.zero_le _, by simp, Below.refl _ _⟩
    case round =>
      obtain ⟨i, rfl, hi, hall, hbel⟩ := hrel
      have HA := hid hall
      clear hall
      have hbw2 := hbw.trans (hbel.mono hbw.size)
      have c0 := (hk.below hbel).look 0 rfl
      have hsz := hbel.size
      have hlt := (hk.below hbel).lt
      by_cases hil : i < L
      · obtain ⟨r, hr⟩ := ex_rule (l := p.rules) (i := i) (by rw [HL.out]; exact hil)
        obtain ⟨b, off, rfl, hb, d0, d1, d2, d3⟩ := ru_cell hc hr
        have HRR := hid hr
        clear hr
        have e0 := (hbw2.cell (p := ⟨b, off + i * 4, none⟩) hb).trans d0
        have e1 := (hbw2.cell (p := ⟨b, off + i * 4 + 1, none⟩) hb).trans d1
        have e2 := (hbw2.cell (p := ⟨b, off + i * 4 + 2, none⟩) hb).trans d2
        have e3 := (hbw2.cell (p := ⟨b, off + i * 4 + 3, none⟩) hb).trans d3
        clear d0 d1 d2 d3
        obtain ⟨ra, rb, rc, rd⟩ := r
        dsimp only at e0 e1 e2 e3
        by_cases hv : RV n ⟨ra, rb, rc, rd⟩
        · have HV := hid hv
          obtain ⟨g1, g2, g3, g4, g5, g6, g7, g8⟩ := hv
          dsimp only at g1 g2 g3 g4 g5 g6 g7 g8
          have m1 : 0 ≤ min ra rb := by omega
          have m2 : max ra rb < n := by omega
          go_wp2
          all_goals
            go_roundw
            case rel => exact ⟨i + 1, by go_num, by omega, take_rule HRR.out HA.out HV.out, hbel.alloc hsz _⟩
            case measure => simp [intOf]; omega
        · have HV := hid hv
          have hcs := gv_cases n ra rb rc rd hv
          clear hv
          have hfalse : false = res := by
            rw [← HR.out]; symm
            rw [decide_eq_false_iff_not]
            intro hh
            have := hh.2.2.2 _ (rule_mem HRR.out)
            rw [HN.out] at this
            exact HV.out this
          have HFL := hid hfalse
          clear hfalse
          rcases hcs with g1 | ⟨g1, g2⟩ | ⟨g1, g2, g3⟩ | ⟨g1, g2, g3, g4⟩ | ⟨g1, g2, g3, g4, g5⟩ | ⟨g1, g2, g3, g4, g5, g6⟩
          all_goals
            go_wp2
            all_goals
              go_ret
              exact ⟨ret_bool HFL.out, hbw2.alloc (by omega) _⟩
      · obtain rfl : i = L := by omega
        go_wp2
        go_ret
        refine ⟨ret_bool ?_, hbw2⟩
        rw [← HR.out]; symm
        rw [decide_eq_true_eq]
        refine ⟨by rw [HN.out]; exact h1, by rw [HN.out]; exact h2, by rw [HL.out]; exact h3, ?_⟩
        have := HA.out
        rw [← HL.out, List.take_length, ← HN.out] at this
        exact this
  · have hres : decide (PValid p) = false := by
      rw [decide_eq_false_iff_not]
      intro hh
      apply h0
      rw [← HN.out, ← HL.out]
      exact ⟨hh.1, hh.2.1, hh.2.2.1⟩
    rw [hres]
    clear hres
    have hcs : n < 1 ∨ (1 ≤ n ∧ 16 < n) ∨ (1 ≤ n ∧ n ≤ 16 ∧ 64 < L) := by omega
    clear h0
    rcases hcs with h1 | ⟨h1, h2⟩ | ⟨h1, h2, h3⟩
    all_goals
      go_enter Try.func65, Try.ntmps65
      go_wp2
      go_ret
      exact ⟨rfl, HB.out _⟩

end Go.Proofs.Ytmknengmjepdaaa
