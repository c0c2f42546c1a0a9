/- Walks of trankref01's Valid, All. -/
import Derived.Test.YtmknengmjepdaaaQh
namespace Go.Proofs.Ytmknengmjepdaaa
open Go.RowKit

set_option maxHeartbeats 1000000 in
theorem Valid_any (n d : Int) (w : World) :
    Calls Try.prog 30 #[.agg #[.int .i64 n, .int .i64 d]] w fun e w' => e = .returned (.bool (decide (FV n d))) ∧ Below w.heap.size w w' := by
  by_cases hb : 1 ≤ d ∧ d ≤ 1000000000 ∧ -1000000000 ≤ n ∧ n ≤ 1000000000
  · obtain ⟨h1, h2, h3, h4⟩ := hb
    have hfit := fits_of h1 h2 h3 h4
    obtain ⟨q, hq⟩ : ∃ q, (n : Rat) / (d : Rat) = q := ⟨_, rfl⟩
    have hiff := div_self_iff (n := n) h1
    rw [hq] at hfit hiff
    have hdec : decide (FV n d) = decide (q.num = n ∧ (q.den : Int) = d) := by
      apply decide_eq_decide.2
      constructor
      · intro h; exact hiff.2 h.2.2.2.2
      · intro h; exact ⟨h1, h2, h3, h4, hiff.1 h⟩
    have HQ := hid hq
    have HF := hid hfit
    rw [hdec]
    clear hq hfit hiff hdec
    obtain ⟨N, hN⟩ : ∃ N, q.num = N := ⟨_, rfl⟩
    obtain ⟨D, hD⟩ : ∃ D, (q.den : Int) = D := ⟨_, rfl⟩
    have FY : Hid (∀ v w, QR w v q → Calls Try.prog 76 #[v] w fun e w' => e = .returned (.tuple #[frV N D, .bool true]) ∧ Below w.heap.size w w') := by
      rw [← hN, ← hD]; exact fun v w h => Frac_yes q v w h HF.out
    rw [hN, hD]
    clear hN hD
    go_enter Try.func30, Try.ntmps30
    go_wp2_with fail
    have hb0 : Below w.heap.size w (w.alloc (.cells #[.int .i64 n, .int .i64 d] 26)) := (Below.refl _ _).alloc (Nat.le_refl _) _
    have hk0 := Blk.new w #[.int .i64 n, .int .i64 d] 26
    obtain ⟨w0, hw0⟩ : ∃ w0, w.alloc (.cells #[.int .i64 n, .int .i64 d] 26) = w0 := ⟨_, rfl⟩
    rw [hw0] at hb0 hk0 ⊢
    clear hw0
    refine (Of_any n d _ (by omega) (by omega) (by omega) (by omega) (by omega)).mono ?_
    rintro e w1 ⟨v1, rfl, hv1, hb1⟩
    rw [HQ.out] at hv1
    go_wp2_with fail
    refine (FY.out _ _ hv1.rat).mono ?_
    rintro e w2 ⟨rfl, hb2⟩
    have hk2 := (hk0.below hb1).below hb2
    have hB2 : Below w.heap.size w w2 := (hb0.trans (hb1.mono hb0.size)).trans (hb2.mono (Nat.le_trans hb0.size hb1.size))
    have c0 := hk2.cell 0
    have c1 := hk2.cell 1
    have hlt := hk2.lt
    go_wp2
    all_goals
      go_ret
      refine ⟨ret_bool ?_, hB2.alloc (by omega) _⟩
      symm
      first | (rw [decide_eq_true_eq]; omega) | (rw [decide_eq_false_iff_not]; omega)
  · have hdec : decide (FV n d) = false := decide_eq_false (fun h => hb ⟨h.1, h.2.1, h.2.2.1, h.2.2.2.1⟩)
    rw [hdec]
    clear hdec
    have hc : d < 1 ∨ (1 ≤ d ∧ 1000000000 < d) ∨ (1 ≤ d ∧ d ≤ 1000000000 ∧ n < -1000000000) ∨ (1 ≤ d ∧ d ≤ 1000000000 ∧ -1000000000 ≤ n ∧ 1000000000 < n) := by omega
    clear hb
    rcases hc with h1 | ⟨h1, h2⟩ | ⟨h1, h2, h3⟩ | ⟨h1, h2, h3, h4⟩
    all_goals
      go_enter Try.func30, Try.ntmps30
      go_wp2
      go_ret
      exact ⟨rfl, (Below.refl _ _).alloc (Nat.le_refl _) _⟩

/-- The cells of fractions. -/
def frCells (l : List (Int × Int)) : List Value := l.flatMap fun f => [.int .i64 f.1, .int .i64 f.2]
theorem frCells_len (l : List (Int × Int)) : (frCells l).length = l.length * 2 := by
  induction l with
  | nil => rfl
  | cons x xs ih => simp only [frCells, List.flatMap_cons, List.length_append, List.length_cons, List.length_nil] at *; omega
theorem frCells_append (a b : List (Int × Int)) : frCells (a ++ b) = frCells a ++ frCells b := by unfold frCells; exact List.flatMap_append
theorem frCells_get (l : List (Int × Int)) (i : Nat) (h : i < l.length) : (frCells l).getD (i * 2) undef = .int .i64 (l.getD i (0, 0)).1 ∧ (frCells l).getD (i * 2 + 1) undef = .int .i64 (l.getD i (0, 0)).2 := by
  induction l generalizing i with
  | nil => simp at h
  | cons x xs ih =>
    cases i with
    | zero => simp [frCells]
    | succ i =>
      have := ih i (by simpa using h)
      rw [show (i + 1) * 2 = i * 2 + 1 + 1 by omega]
      simpa [frCells] using this
/-- A slice of fractions. -/
def FrsR (lo : Nat) (w : World) (v : Value) (l : List (Int × Int)) : Prop := SlR lo w v l.length (frCells l)
theorem FrsR.below {lo : Nat} {w w' : World} {v : Value} {l : List (Int × Int)} (h : FrsR lo w v l) (hb : Below w.heap.size w w') : FrsR lo w' v l := SlR.below h hb
theorem fr_cell {lo : Nat} {w : World} {ao : Option Addr} {l : List (Int × Int)} (h : CellsOf lo w ao (frCells l)) {i : Nat} (hi : i < l.length) :
    ∃ b off, ao = some ⟨b, off, none⟩ ∧ b < w.heap.size ∧ w.cell? ⟨b, off + i * 2, none⟩ = some (.int .i64 (l.getD i (0, 0)).1) ∧ w.cell? ⟨b, off + i * 2 + 1, none⟩ = some (.int .i64 (l.getD i (0, 0)).2) := by
  have hl := frCells_len l
  obtain ⟨b, off, h1, _, h2, h3⟩ := h (by intro h0; rw [h0, List.length_nil] at hl; omega)
  obtain ⟨g1, g2⟩ := frCells_get l i hi
  refine ⟨b, off, h1, h2, ?_, ?_⟩
  · rw [h3 (i * 2) (by omega), g1]
  · rw [Nat.add_assoc, h3 (i * 2 + 1) (by omega), g2]

theorem all_take {l : List (Int × Int)} {i : Nat} (hi : i < l.length) (h : ∀ f ∈ l.take i, FV f.1 f.2) (hf : FV (l.getD i (0, 0)).1 (l.getD i (0, 0)).2) : ∀ f ∈ l.take (i + 1), FV f.1 f.2 := by
  intro f hm
  rw [List.take_succ_eq_append_getElem hi] at hm
  rcases List.mem_append.1 hm with hm | hm
  · exact h f hm
  · have : f = l.getD i (0, 0) := by rw [List.getD_eq_getElem?_getD, List.getElem?_eq_getElem hi]; simpa using hm
    rw [this]; exact hf
theorem getD_mem' {l : List (Int × Int)} {i : Nat} (hi : i < l.length) : l.getD i (0, 0) ∈ l := by
  rw [List.getD_eq_getElem?_getD, List.getElem?_eq_getElem hi]; exact List.getElem_mem _

set_option maxHeartbeats 1000000 in
theorem All_any (l : List (Int × Int)) (v : Value) (w : World) (h : FrsR 0 w v l) :
    Calls Try.prog 56 #[v] w fun e w' => e = .returned (.bool (decide (∀ f ∈ l, FV f.1 f.2))) ∧ Below w.heap.size w w' := by
  obtain ⟨ao, cap, rfl, hcap, hmax, hc⟩ := h
  unfold maxLen at hmax
  obtain ⟨res, hres⟩ : ∃ b, decide (∀ f ∈ l, FV f.1 f.2) = b := ⟨_, rfl⟩
  rw [hres]
  have HR := hid hres
  clear hres
  go_enter Try.func56, Try.ntmps56
  go_wp2
  go_loopw [7] (fun x wr => ∃ i : Nat, x = .int .i64 i ∧ i ≤ l.length ∧ (∀ f ∈ l.take i, FV f.1 f.2) ∧ Below w.heap.size w wr) (fun x _ => l.length - (intOf x).toNat)
  case atStart => exact ⟨0, rfl, Nat.zero_le _, by simp, Below.refl _ _⟩
  case round =>
    obtain ⟨i, rfl, hi, hall, hbel⟩ := hrel
    have HA := hid hall
    clear hall
    by_cases h1 : i < l.length
    · obtain ⟨b, off, rfl, hb, c0, c1⟩ := fr_cell hc h1
      have d0 := (hbel.cell (p := ⟨b, off + i * 2, none⟩) hb).trans c0
      have d1 := (hbel.cell (p := ⟨b, off + i * 2 + 1, none⟩) hb).trans c1
      obtain ⟨n, hn⟩ : ∃ n, (l.getD i (0, 0)).1 = n := ⟨_, rfl⟩
      obtain ⟨d, hd⟩ : ∃ n, (l.getD i (0, 0)).2 = n := ⟨_, rfl⟩
      rw [hn] at d0
      rw [hd] at d1
      have HN := hid hn
      have HD := hid hd
      clear hn hd c0 c1
      go_wp2_with fail
      refine (Valid_any n d _).mono ?_
      rintro e w1 ⟨rfl, hb1⟩
      have hsz := hbel.size
      by_cases hv : FV n d
      · rw [decide_eq_true hv]
        have HV := hid hv
        clear hv
        go_wp2
        go_roundw
        case rel => exact ⟨i + 1, by go_num, by omega, all_take h1 HA.out (by rw [HN.out, HD.out]; exact HV.out), (hbel.alloc hsz _).trans (hb1.mono (by simp; omega))⟩
        case measure => simp [intOf]; omega
      · rw [decide_eq_false hv]
        have HV := hid hv
        clear hv
        go_wp2
        go_ret
        refine ⟨ret_bool ?_, (hbel.alloc hsz _).trans (hb1.mono (by simp; omega))⟩
        rw [← HR.out]; symm
        rw [decide_eq_false_iff_not]
        intro hh
        have := hh _ (getD_mem' h1)
        rw [HN.out, HD.out] at this
        exact HV.out this
    · obtain rfl : i = l.length := by omega
      go_wp2
      go_ret
      refine ⟨ret_bool ?_, hbel⟩
      rw [← HR.out]; symm
      rw [decide_eq_true_eq]
      have := HA.out
      rwa [List.take_length] at this

end Go.Proofs.Ytmknengmjepdaaa
