/- Transfers: readings; walks of right, and of the search for a wrong one. -/
import Derived.Test.YtcpefolhohakmaaU3
namespace Go.Proofs.Ytcpefolhohakmaa
open Go.RowKit
attribute [local irreducible] seqS seqST walkV walkJ

def trC (g : Tr) : List Value := [.int .i64 g.item, .int .i64 g.src, .int .i64 g.dst, .int .i64 g.cnt]
def trsC (l : List Tr) : List Value := l.flatMap trC
abbrev trV (g : Tr) : Value := .agg #[.int .i64 g.item, .int .i64 g.src, .int .i64 g.dst, .int .i64 g.cnt]
def TsR (lo : Nat) (w : World) (v : Value) (l : List Tr) : Prop := SlR lo w v l.length (trsC l)
theorem TsR.below {lo : Nat} {w w' : World} {v : Value} {l : List Tr} (h : TsR lo w v l) (hb : Below w.heap.size w w') : TsR lo w' v l := SlR.below h hb
theorem trsC_append (a b : List Tr) : trsC (a ++ b) = trsC a ++ trsC b := by unfold trsC; exact List.flatMap_append
theorem trsC_len (l : List Tr) : (trsC l).length = l.length * 4 := by
  induction l with
  | nil => rfl
  | cons a l ih => show ([_, _, _, _] ++ trsC l).length = _; rw [List.length_append, ih]; simp; omega
theorem trsC_get : ∀ (l : List Tr) (i : Nat), i < l.length → (trsC l)[i * 4]? = some (.int .i64 (l.getD i ⟨0, 0, 0, 0⟩).item) ∧ (trsC l)[i * 4 + 1]? = some (.int .i64 (l.getD i ⟨0, 0, 0, 0⟩).src) ∧ (trsC l)[i * 4 + 2]? = some (.int .i64 (l.getD i ⟨0, 0, 0, 0⟩).dst) ∧ (trsC l)[i * 4 + 3]? = some (.int .i64 (l.getD i ⟨0, 0, 0, 0⟩).cnt)
  | [], i, h => by cases h
  | a :: l, 0, _ => ⟨rfl, rfl, rfl, rfl⟩
  | a :: l, i + 1, h => by
    have := trsC_get l i (by simpa using h)
    have e1 : (i + 1) * 4 = i * 4 + 1 + 1 + 1 + 1 := by omega
    have e2 : (i + 1) * 4 + 1 = i * 4 + 1 + 1 + 1 + 1 + 1 := by omega
    have e3 : (i + 1) * 4 + 2 = i * 4 + 2 + 1 + 1 + 1 + 1 := by omega
    have e4 : (i + 1) * 4 + 3 = i * 4 + 3 + 1 + 1 + 1 + 1 := by omega
    rw [e4, e3, e2, e1]
    exact this
theorem tr_cell {lo : Nat} {w : World} {ao : Option Addr} {l : List Tr} (h : CellsOf lo w ao (trsC l)) {i : Nat} (hi : i < l.length) :
    ∃ b off, ao = some ⟨b, off, none⟩ ∧ b < w.heap.size ∧ w.cell? ⟨b, off + i * 4, none⟩ = some (.int .i64 (l.getD i ⟨0, 0, 0, 0⟩).item) ∧ w.cell? ⟨b, off + i * 4 + 1, none⟩ = some (.int .i64 (l.getD i ⟨0, 0, 0, 0⟩).src) ∧
      w.cell? ⟨b, off + i * 4 + 2, none⟩ = some (.int .i64 (l.getD i ⟨0, 0, 0, 0⟩).dst) ∧ w.cell? ⟨b, off + i * 4 + 3, none⟩ = some (.int .i64 (l.getD i ⟨0, 0, 0, 0⟩).cnt) := by
  have hne : trsC l ≠ [] := by
    intro he
    have h9 := congrArg List.length he
    rw [trsC_len] at h9
    simp at h9; omega
  obtain ⟨b, off, hao, -, hb, hx⟩ := h hne
  have hl := trsC_len l
  obtain ⟨g1, g2, g3, g4⟩ := trsC_get l i hi
  have k : ∀ j, j < 4 → w.cell? ⟨b, off + (i * 4 + j), none⟩ = some ((trsC l).getD (i * 4 + j) undef) := fun j hj => hx _ (by omega)
  refine ⟨b, off, hao, hb, ?_, ?_, ?_, ?_⟩
  · have := k 0 (by omega); rw [List.getD_eq_getElem?_getD, Nat.add_zero, g1] at this; exact this
  · have := k 1 (by omega); rw [List.getD_eq_getElem?_getD, g2] at this; exact this
  · have := k 2 (by omega); rw [List.getD_eq_getElem?_getD, g3] at this; exact this
  · have := k 3 (by omega); rw [List.getD_eq_getElem?_getD, g4] at this; exact this


def okB (t : Tr) : Bool := decide t.Ok

set_option maxHeartbeats 2000000 in
theorem tright_any (t : Tr) (w : World) :
    Calls Try.prog 48 #[trV t] w fun r w' => r = .returned (.bool (okB t)) ∧ Below w.heap.size w w' := by
  have hB : (okB t = true) ↔ ((0 ≤ t.item ∧ t.item < 16) ∧ (0 ≤ t.src ∧ t.src < 16) ∧ (0 ≤ t.dst ∧ t.dst < 16) ∧ t.src ≠ t.dst ∧ 1 ≤ t.cnt ∧ t.cnt ≤ 1000000) := decide_eq_true_iff
  obtain ⟨B, hBB⟩ : ∃ B, okB t = B := ⟨_, rfl⟩
  rw [hBB] at hB ⊢
  have HB := hid hB
  clear hB hBB
  obtain ⟨i, s, d, n⟩ := t
  have bA := alloc_below w (.cells #[.int .i64 i, .int .i64 s, .int .i64 d, .int .i64 n] 103)
  obtain ⟨m, hm⟩ : ∃ m, (if d < (if s < i then s else i) then d else if s < i then s else i) = m := ⟨_, rfl⟩
  obtain ⟨x, hx⟩ : ∃ x, (if (if i < s then s else i) < d then d else if i < s then s else i) = x := ⟨_, rfl⟩
  have hm2 : Hid (0 ≤ m ↔ 0 ≤ i ∧ 0 ≤ s ∧ 0 ≤ d) := hid (by rw [← hm]; split <;> split <;> omega)
  have hx2 : Hid (x < 16 ↔ i < 16 ∧ s < 16 ∧ d < 16) := hid (by rw [← hx]; split <;> split <;> omega)
  have HB2 : Hid (B = true ↔ (0 ≤ m ∧ x < 16 ∧ s ≠ d ∧ 1 ≤ n ∧ n ≤ 1000000)) := hid (by
    rw [hm2.out, hx2.out, HB.out]
    simp only
    constructor
    · rintro ⟨⟨a1, a2⟩, ⟨b1, b2⟩, ⟨c1, c2⟩, e, f⟩; exact ⟨⟨a1, b1, c1⟩, ⟨a2, b2, c2⟩, e, f⟩
    · rintro ⟨⟨a1, b1, c1⟩, ⟨a2, b2, c2⟩, e, f⟩; exact ⟨⟨a1, a2⟩, ⟨b1, b2⟩, ⟨c1, c2⟩, e, f⟩)
  clear HB hm2 hx2
  go_enter Try.func48, Try.ntmps48
  by_cases h0 : 0 ≤ m
  case neg =>
    have HB := hid (HB2.out.trans ⟨fun h => absurd h.1 h0, fun h => h.elim⟩ : B = true ↔ False)
    have hfin : Hid (B = false) := hid (by
      cases hB : B with
      | false => rfl
      | true => exact (HB.out.1 hB).elim)
    clear HB HB2
    go_wp2
    go_ret
    exact ⟨ret_bool (by rw [hfin.out]), bA⟩
  by_cases h1 : x < 16
  case neg =>
    have HB := hid (HB2.out.trans ⟨fun h => absurd h.2.1 h1, fun h => h.elim⟩ : B = true ↔ False)
    have hfin : Hid (B = false) := hid (by
      cases hB : B with
      | false => rfl
      | true => exact (HB.out.1 hB).elim)
    clear HB HB2
    go_wp2
    go_ret
    exact ⟨ret_bool (by rw [hfin.out]), bA⟩
  by_cases h2 : s = d
  case pos =>
    have HB := hid (HB2.out.trans ⟨fun h => absurd h2 h.2.2.1, fun h => h.elim⟩ : B = true ↔ False)
    have h3 : (s == d) = true := by rw [beq_iff_eq]; exact h2
    have h4 : (s != d) = false := by rw [bne, h3]; rfl
    clear h2
    have hfin : Hid (B = false) := hid (by
      cases hB : B with
      | false => rfl
      | true => exact (HB.out.1 hB).elim)
    clear HB HB2
    go_wp2
    go_ret
    exact ⟨ret_bool (by rw [hfin.out]), bA⟩
  have h4 : (s != d) = true := by rw [bne_iff_ne]; exact h2
  by_cases h5 : 1 ≤ n
  case neg =>
    have HB := hid (HB2.out.trans ⟨fun h => absurd h.2.2.2.1 h5, fun h => h.elim⟩ : B = true ↔ False)
    clear h2
    have hfin : Hid (B = false) := hid (by
      cases hB : B with
      | false => rfl
      | true => exact (HB.out.1 hB).elim)
    clear HB HB2
    go_wp2
    go_ret
    exact ⟨ret_bool (by rw [hfin.out]), bA⟩
  have hfin : Hid (B = decide (n ≤ 1000000)) := hid (by rw [Bool.eq_iff_iff, HB2.out, decide_eq_true_iff]; exact ⟨fun h => h.2.2.2.2, fun h => ⟨h0, h1, h2, h5, h⟩⟩)
  clear h2 HB2
  go_wp2
  go_ret
  exact ⟨ret_bool (by rw [hfin.out]), bA⟩

set_option maxHeartbeats 1000000 in
theorem post1_any (t : Tr) (w : World) :
    Calls Try.prog 47 #[trV t] w fun r w' => r = .returned (.bool (!okB t)) ∧ Below w.heap.size w w' := by
  have R1 := hid (fun w => tright_any t w)
  obtain ⟨B, hB⟩ : ∃ B, okB t = B := ⟨_, rfl⟩
  rw [hB] at R1 ⊢
  clear hB
  obtain ⟨a, b, c, d⟩ := t
  go_enter Try.func47, Try.ntmps47
  go_wp2_with fail
  refine (R1.out _).mono ?_
  rintro r w1 ⟨rfl, hb1⟩
  have hb2 := (alloc_below w _).trans (hb1.mono (by simp))
  go_wp2
  go_ret
  exact ⟨rfl, hb2⟩

/-- The first transfer that is not right, or -1. -/
def badT (l : List Tr) : Nat → Int
  | 0 => -1
  | k + 1 => if badT l k = -1 then (if okB (l.getD k ⟨0, 0, 0, 0⟩) then -1 else k) else badT l k
theorem badT_iff (l : List Tr) (k : Nat) : badT l k = -1 ↔ ∀ i, i < k → okB (l.getD i ⟨0, 0, 0, 0⟩) = true := by
  induction k with
  | zero => exact ⟨fun _ i hi => by omega, fun _ => rfl⟩
  | succ k ih =>
    unfold badT
    by_cases h : badT l k = -1
    · rw [if_pos h]
      have h2 := ih.1 h
      by_cases h3 : okB (l.getD k ⟨0, 0, 0, 0⟩) = true
      · rw [if_pos h3]
        exact ⟨fun _ i hi => by
          by_cases e : i = k
          · subst e; exact h3
          · exact h2 i (by omega), fun _ => rfl⟩
      · rw [if_neg h3]
        exact ⟨fun h4 => absurd h4 (by omega), fun h4 => absurd (h4 k (by omega)) h3⟩
    · rw [if_neg h]
      exact ⟨fun h2 => absurd h2 h, fun h2 => absurd (ih.2 fun i hi => h2 i (by omega)) h⟩
theorem badT_stay (l : List Tr) (k n : Nat) (h : badT l k ≠ -1) : badT l (k + n) = badT l k := by
  induction n with
  | zero => rfl
  | succ n ih =>
    have e : badT l (k + (n + 1)) = if badT l (k + n) = -1 then (if okB (l.getD (k + n) ⟨0, 0, 0, 0⟩) then -1 else ((k + n : Nat) : Int)) else badT l (k + n) := rfl
    rw [e, ih, if_neg h]
theorem badT_ge (l : List Tr) (k : Nat) : badT l k = -1 ∨ 0 ≤ badT l k := by
  induction k with
  | zero => exact .inl rfl
  | succ k ih =>
    unfold badT
    split
    · split
      · exact .inl rfl
      · right; omega
    · exact ih

set_option maxHeartbeats 2000000 in
theorem IndexTr_any (l : List Tr) (v : Value) (w : World) (h : TsR 0 w v l) :
    Calls Try.prog 78 #[v, .func (.func 47) #[] #[]] w fun r w' => r = .returned (.int .i64 (badT l l.length)) ∧ Below w.heap.size w w' := by
  obtain ⟨ao, cap, rfl, hcap, hmax, hc⟩ := h
  unfold maxLen at hmax
  have HC := hid hc
  obtain ⟨L, hL⟩ : ∃ L, l.length = L := ⟨_, rfl⟩
  rw [hL] at hcap ⊢
  have HL := hid hL
  obtain ⟨R, hR⟩ : ∃ R, badT l L = R := ⟨_, rfl⟩
  have HR := hid hR
  rw [hR]
  clear hc hL hR
  go_enter Try.func78, Try.ntmps78
  go_wp2_with fail
  go_loopw [5, 8] (fun _ z wr => ∃ k : Nat, z = .int .i64 k ∧ k ≤ L ∧ Hid (badT l k = -1) ∧ Below w.heap.size w wr) (fun _ z _ => L - (intOf z).toNat)
  case atStart => exact ⟨0, rfl, Nat.zero_le _, hid rfl, Below.refl _ _⟩
  case round =>
    obtain ⟨k, rfl, hk, HB, hbel⟩ := hrel
    by_cases hkL : k < L
    case pos =>
      have hk2 : (k : Int) < (L : Int) := by omega
      obtain ⟨b, off, rfl, hb, x0, x1, x2, x3⟩ := tr_cell HC.out (show k < l.length by rw [HL.out]; exact hkL)
      have hs : badT l (k + 1) = if badT l k = -1 then (if okB (l.getD k ⟨0, 0, 0, 0⟩) then -1 else (k : Int)) else badT l k := rfl
      rw [if_pos HB.out] at hs
      have hst : ∀ n, badT l (k + 1) ≠ -1 → badT l (k + 1 + n) = badT l (k + 1) := fun n h => badT_stay l (k + 1) n h
      obtain ⟨g, hg⟩ : ∃ g, l.getD k ⟨0, 0, 0, 0⟩ = g := ⟨_, rfl⟩
      rw [hg] at x0 x1 x2 x3 hs
      have S1 := hid (fun w => post1_any g w)
      obtain ⟨B, hB⟩ : ∃ B, okB g = B := ⟨_, rfl⟩
      rw [hB] at S1 hs
      have HS := hid hs
      have HT := hid hst
      obtain ⟨a, bb, c, d⟩ := g
      replace x0 := (hbel.cell (p := ⟨b, off + k * 4, none⟩) hb).trans x0
      replace x1 := (hbel.cell (p := ⟨b, off + k * 4 + 1, none⟩) hb).trans x1
      replace x2 := (hbel.cell (p := ⟨b, off + k * 4 + 2, none⟩) hb).trans x2
      replace x3 := (hbel.cell (p := ⟨b, off + k * 4 + 3, none⟩) hb).trans x3
      clear hg hB hs hst
      go_wp2_with fail
      refine (S1.out _).mono ?_
      rintro r w1 ⟨rfl, hb1⟩
      have hbel2 := hbel.trans (hb1.mono hbel.size)
      clear x0 x1 x2 x3 S1 hb1 hbel
      cases B with
      | true =>
        have HB2 : Hid (badT l (k + 1) = -1) := hid (by rw [HS.out]; rfl)
        clear HS HT HB
        go_wp2
        go_roundw
        case rel => exact ⟨k + 1, by go_num, by omega, HB2, hbel2⟩
        case measure => simp [intOf]; omega
      | false =>
        have hfin : Hid (R = (k : Int)) := hid (by
          rw [← HR.out]
          have := HT.out (L - (k + 1))
          rw [HS.out, show k + 1 + (L - (k + 1)) = L by omega] at this
          rw [this (by simp)]; rfl)
        clear HS HT HB HR
        go_wp2
        go_ret
        exact ⟨ret_int (by rw [hfin.out]), hbel2⟩
    case neg =>
      obtain rfl : L = k := by omega
      have hk2 : ¬ (L : Int) < (L : Int) := by omega
      have hfin : Hid (R = -1) := hid (by rw [← HR.out, HB.out])
      clear HB HR
      go_wp2
      go_ret
      exact ⟨ret_int (by rw [hfin.out]), hbel⟩

set_option maxHeartbeats 1000000 in
theorem ContainsTr_any (l : List Tr) (v : Value) (w : World) (h : TsR 0 w v l) :
    Calls Try.prog 46 #[v, .func (.func 47) #[] #[]] w fun r w' => r = .returned (.bool (decide (0 ≤ badT l l.length))) ∧ Below w.heap.size w w' := by
  have I1 := hid (IndexTr_any l v w h)
  obtain ⟨ao, cap, rfl, hcap, hmax, -⟩ := h
  obtain ⟨R, hR⟩ : ∃ R, badT l l.length = R := ⟨_, rfl⟩
  rw [hR] at I1 ⊢
  clear hR
  go_enter Try.func46, Try.ntmps46
  go_wp2_with fail
  refine I1.out.mono ?_
  rintro r w1 ⟨rfl, hb1⟩
  go_wp2
  go_ret
  exact ⟨rfl, hb1⟩


end Go.Proofs.Ytcpefolhohakmaa
