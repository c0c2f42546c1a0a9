/- Walks of side and what it calls. -/
import Derived.Test.YtcpefolhohakmaaH2
namespace Go.Proofs.Ytcpefolhohakmaa
open Go.RowKit
attribute [local irreducible] seqS seqST walkV walkJ

set_option maxHeartbeats 1000000 in
theorem side1_any (g : Gv) (w : World) :
    Calls Try.prog 84 #[gV g] w fun r w' => r = .returned (.bool (!gokB g)) ∧ Below w.heap.size w w' := by
  have R1 := hid (fun w => gright_any g w)
  obtain ⟨b1, h1⟩ : ∃ b, gokB g = b := ⟨_, rfl⟩
  rw [h1] at R1 ⊢
  clear h1
  obtain ⟨a, b, c, d⟩ := g
  go_enter Try.func84, Try.ntmps84
  go_wp2_with fail
  refine (R1.out _).mono ?_
  rintro r w1 ⟨rfl, hb1⟩
  have hb2 := (alloc_below w _).trans (hb1.mono (by simp))
  go_wp2
  go_ret
  exact ⟨rfl, hb2⟩

/-- The first glove that is not right, or -1. -/
def badAt (l : List Gv) : Nat → Int
  | 0 => -1
  | k + 1 => if badAt l k = -1 then (if gokB (l.getD k ⟨0, 0, 0, 0⟩) then -1 else k) else badAt l k
theorem badAt_iff (l : List Gv) (k : Nat) : badAt l k = -1 ↔ ∀ i, i < k → gokB (l.getD i ⟨0, 0, 0, 0⟩) = true := by
  induction k with
  | zero => exact ⟨fun _ i hi => by omega, fun _ => rfl⟩
  | succ k ih =>
    unfold badAt
    by_cases h : badAt l k = -1
    · rw [if_pos h]
      have h2 := ih.1 h
      by_cases h3 : gokB (l.getD k ⟨0, 0, 0, 0⟩) = true
      · rw [if_pos h3]
        exact ⟨fun _ i hi => by
          by_cases e : i = k
          · subst e; exact h3
          · exact h2 i (by omega), fun _ => rfl⟩
      · rw [if_neg h3]
        exact ⟨fun h4 => absurd h4 (by omega), fun h4 => absurd (h4 k (by omega)) h3⟩
    · rw [if_neg h]
      exact ⟨fun h2 => absurd h2 h, fun h2 => absurd (ih.2 fun i hi => h2 i (by omega)) h⟩
theorem badAt_stay (l : List Gv) (k n : Nat) (h : badAt l k ≠ -1) : badAt l (k + n) = badAt l k := by
  induction n with
  | zero => rfl
  | succ n ih =>
    have e : badAt l (k + (n + 1)) = if badAt l (k + n) = -1 then (if gokB (l.getD (k + n) ⟨0, 0, 0, 0⟩) then -1 else ((k + n : Nat) : Int)) else badAt l (k + n) := rfl
    rw [e, ih, if_neg h]
theorem badAt_ge (l : List Gv) (k : Nat) : badAt l k = -1 ∨ 0 ≤ badAt l k := by
  induction k with
  | zero => exact .inl rfl
  | succ k ih =>
    unfold badAt
    split
    · split
      · exact .inl rfl
      · right; omega
    · exact ih

set_option maxHeartbeats 2000000 in
theorem IndexBad_any (l : List Gv) (v : Value) (w : World) (h : GsR 0 w v l) :
    Calls Try.prog 93 #[v, .func (.func 84) #[] #[]] w fun r w' => r = .returned (.int .i64 (badAt l l.length)) ∧ Below w.heap.size w w' := by
  obtain ⟨ao, cap, rfl, hcap, hmax, hc⟩ := h
  unfold maxLen at hmax
  have HC := hid hc
  obtain ⟨L, hL⟩ : ∃ L, l.length = L := ⟨_, rfl⟩
  rw [hL] at hcap ⊢
  have HL := hid hL
  obtain ⟨R, hR⟩ : ∃ R, badAt l L = R := ⟨_, rfl⟩
  have HR := hid hR
  rw [hR]
  clear hc hL hR
  go_enter Try.func93, Try.ntmps93
  go_wp2_with fail
  go_loopw [5, 8] (fun _ z wr => ∃ k : Nat, z = .int .i64 k ∧ k ≤ L ∧ Hid (badAt l k = -1) ∧ Below w.heap.size w wr) (fun _ z _ => L - (intOf z).toNat)
  case atStart => exact ⟨0, rfl, Nat.zero_le _, hid rfl, Below.refl _ _⟩
  case round =>
    obtain ⟨k, rfl, hk, HB, hbel⟩ := hrel
    by_cases hkL : k < L
    case pos =>
      have hk2 : (k : Int) < (L : Int) := by omega
      obtain ⟨b, off, rfl, hb, x0, x1, x2, x3⟩ := g_cell HC.out (show k < l.length by rw [HL.out]; exact hkL)
      have hs : badAt l (k + 1) = if badAt l k = -1 then (if gokB (l.getD k ⟨0, 0, 0, 0⟩) then -1 else (k : Int)) else badAt l k := rfl
      rw [if_pos HB.out] at hs
      have hst : ∀ n, badAt l (k + 1) ≠ -1 → badAt l (k + 1 + n) = badAt l (k + 1) := fun n h => badAt_stay l (k + 1) n h
      obtain ⟨g, hg⟩ : ∃ g, l.getD k ⟨0, 0, 0, 0⟩ = g := ⟨_, rfl⟩
      rw [hg] at x0 x1 x2 x3 hs
      have S1 := hid (fun w => side1_any g w)
      obtain ⟨B, hB⟩ : ∃ B, gokB g = B := ⟨_, rfl⟩
      rw [hB] at S1 hs
      have HS := hid hs
      have HT := hid hst
      obtain ⟨a, bb, c, d⟩ := g
      replace x0 := (hbel.cell (p := ⟨b, off + k * 4, none⟩) hb).trans x0
      replace x1 := (hbel.cell (p := ⟨b, off + k * 4 + 1, none⟩) hb).trans x1
      replace x2 := (hbel.cell (p := ⟨b, off + k * 4 + 2, none⟩) hb).trans x2
      replace x3 := (hbel.cell (p := ⟨b, off + k * 4 + 3, none⟩) hb).trans x3
      clear hg hB hs hst
      go_wp2_with fail
      refine (S1.out _).mono ?_
      rintro r w1 ⟨rfl, hb1⟩
      have hbel2 := hbel.trans (hb1.mono hbel.size)
      clear x0 x1 x2 x3 S1 hb1 hbel
      cases B with
      | true =>
        have HB2 : Hid (badAt l (k + 1) = -1) := hid (by rw [HS.out]; rfl)
        clear HS HT HB
        go_wp2
        go_roundw
        case rel => exact ⟨k + 1, by go_num, by omega, HB2, hbel2⟩
        case measure => simp [intOf]; omega
      | false =>
        have hfin : Hid (R = (k : Int)) := hid (by
          rw [← HR.out]
          have := HT.out (L - (k + 1))
          rw [HS.out, show k + 1 + (L - (k + 1)) = L by omega] at this
          rw [this (by simp)]; rfl)
        clear HS HT HB HR
        go_wp2
        go_ret
        exact ⟨ret_int (by rw [hfin.out]), hbel2⟩
    case neg =>
      obtain rfl : L = k := by omega
      have hk2 : ¬ (L : Int) < (L : Int) := by omega
      have hfin : Hid (R = -1) := hid (by rw [← HR.out, HB.out])
      clear HB HR
      go_wp2
      go_ret
      exact ⟨ret_int (by rw [hfin.out]), hbel⟩

set_option maxHeartbeats 1000000 in
theorem ContainsBad_any (l : List Gv) (v : Value) (w : World) (h : GsR 0 w v l) :
    Calls Try.prog 83 #[v, .func (.func 84) #[] #[]] w fun r w' => r = .returned (.bool (decide (0 ≤ badAt l l.length))) ∧ Below w.heap.size w w' := by
  have I1 := hid (IndexBad_any l v w h)
  obtain ⟨ao, cap, rfl, hcap, hmax, -⟩ := h
  obtain ⟨R, hR⟩ : ∃ R, badAt l l.length = R := ⟨_, rfl⟩
  rw [hR] at I1 ⊢
  clear hR
  go_enter Try.func83, Try.ntmps83
  go_wp2_with fail
  refine I1.out.mono ?_
  rintro r w1 ⟨rfl, hb1⟩
  go_wp2
  go_ret
  exact ⟨rfl, hb1⟩

/-- A side. -/
def SideOk (l : List Gv) : Prop := l.length ≤ 32 ∧ ∀ i, i < l.length → GOk (l.getD i ⟨0, 0, 0, 0⟩)
instance (l : List Gv) : Decidable (SideOk l) := by unfold SideOk; exact inferInstance
def sideB (l : List Gv) : Bool := decide (SideOk l)
theorem bad_side (l : List Gv) : sideB l = (decide (l.length ≤ 32) && !decide (0 ≤ badAt l l.length)) := by
  unfold sideB SideOk
  have h1 := badAt_iff l l.length
  have h2 := badAt_ge l l.length
  have e : (∀ i, i < l.length → GOk (l.getD i ⟨0, 0, 0, 0⟩)) ↔ ¬ 0 ≤ badAt l l.length := by
    have : (∀ i, i < l.length → gokB (l.getD i ⟨0, 0, 0, 0⟩) = true) ↔ (∀ i, i < l.length → GOk (l.getD i ⟨0, 0, 0, 0⟩)) := by
      unfold gokB; simp
    rw [← this, ← h1]; omega
  rw [Bool.eq_iff_iff, Bool.and_eq_true, Bool.not_eq_true', decide_eq_false_iff_not, ← e, decide_eq_true_eq]
  exact Iff.of_eq (decide_eq_true_eq)

set_option maxHeartbeats 2000000 in
theorem side_any (l : List Gv) (v : Value) (w : World) (h : GsR 0 w v l) :
    Calls Try.prog 61 #[v] w fun r w' => r = .returned (.bool (sideB l)) ∧ Below w.heap.size w w' := by
  have I1 := hid (ContainsBad_any l v w h)
  have hb := bad_side l
  obtain ⟨ao, cap, rfl, hcap, hmax, hc⟩ := h
  obtain ⟨R, hR⟩ : ∃ R, badAt l l.length = R := ⟨_, rfl⟩
  rw [hR] at I1 hb
  obtain ⟨B, hB⟩ : ∃ R, sideB l = R := ⟨_, rfl⟩
  rw [hB] at hb ⊢
  have HB := hid hb
  clear hR hB hb
  unfold maxLen at hmax
  obtain ⟨L, hL⟩ : ∃ L, l.length = L := ⟨_, rfl⟩
  rw [hL] at hcap HB I1 ⊢
  clear hL hc
  go_enter Try.func61, Try.ntmps61
  by_cases h32 : L ≤ 32
  · have h33 : (L : Int) ≤ 32 := by omega
    go_wp2_with fail
    refine I1.out.mono ?_
    rintro r w1 ⟨rfl, hb1⟩
    have hfin : Hid (B = !decide (0 ≤ R)) := hid (by rw [HB.out, decide_eq_true h32]; rfl)
    obtain ⟨D, hD⟩ : ∃ D, decide (0 ≤ R) = D := ⟨_, rfl⟩
    rw [hD] at hfin ⊢
    clear HB hD
    go_wp2
    go_ret
    exact ⟨ret_bool (by rw [hfin.out]), hb1⟩
  · have h33 : ¬ (L : Int) ≤ 32 := by omega
    have hfin : Hid (B = false) := hid (by rw [HB.out, decide_eq_false h32]; rfl)
    clear HB
    go_wp2
    go_ret
    exact ⟨ret_bool (by rw [hfin.out]), Below.refl _ _⟩

end Go.Proofs.Ytcpefolhohakmaa
