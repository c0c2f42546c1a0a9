/- Readings of gloves and whole numbers; walks of slices.Min, slices.Max, measures, right, side. -/
import Derived.Test.YtcpefolhohakmaaBs
import Derived.Test.YtcpefolhohakmaaRy
import Derived.Test.YtcpefolhohakmaaRj
import Derived.WalkSmall
namespace Go.Proofs.Ytcpefolhohakmaa
open Go.RowKit
attribute [local irreducible] seqS seqST walkV walkJ

def ints (l : List Int) : List Value := l.map fun z => .int .i64 z
theorem ints_len (l : List Int) : (ints l).length = l.length := List.length_map _
/-- Slices of whole numbers. -/
def IntsR (lo : Nat) (w : World) (v : Value) (l : List Int) : Prop := SlR lo w v l.length (ints l)
theorem IntsR.below {lo : Nat} {w w' : World} {v : Value} {l : List Int} (h : IntsR lo w v l) (hb : Below w.heap.size w w') : IntsR lo w' v l := SlR.below h hb
theorem int_cell {lo : Nat} {w : World} {ao : Option Addr} {l : List Int} (h : CellsOf lo w ao (ints l)) {i : Nat} (hi : i < l.length) :
    ∃ b off, ao = some ⟨b, off, none⟩ ∧ b < w.heap.size ∧ w.cell? ⟨b, off + i, none⟩ = some (.int .i64 (l.getD i 0)) := by
  have hne : ints l ≠ [] := by
    intro he
    have h9 := congrArg List.length he
    rw [ints_len] at h9
    have h8 : l.length = 0 := h9
    omega
  obtain ⟨b, off, hao, -, hb, hx⟩ := h hne
  have h0 := hx i (by rw [ints_len]; exact hi)
  refine ⟨b, off, hao, hb, h0.trans ?_⟩
  unfold ints
  rw [List.getD_eq_getElem?_getD, List.getElem?_map, List.getD_eq_getElem?_getD, List.getElem?_eq_getElem hi]
  rfl
/-- The least and the greatest of whole numbers. -/
def minT (l : List Int) : Nat → Int
  | 0 => l.getD 0 0
  | k + 1 => min (minT l k) (l.getD k 0)
def maxT (l : List Int) : Nat → Int
  | 0 => l.getD 0 0
  | k + 1 => max (maxT l k) (l.getD k 0)
theorem minT_one (l : List Int) : minT l 1 = l.getD 0 0 := by show min _ _ = _; exact Int.min_self _
theorem maxT_one (l : List Int) : maxT l 1 = l.getD 0 0 := by show max _ _ = _; exact Int.max_self _
theorem minT_ge (l : List Int) (c : Int) (k : Nat) (hk : 1 ≤ k) : c ≤ minT l k ↔ ∀ i, i < k → c ≤ l.getD i 0 := by
  induction k with
  | zero => omega
  | succ k ih =>
    show c ≤ min _ _ ↔ _
    by_cases h0 : k = 0
    · subst h0
      show c ≤ min (l.getD 0 0) (l.getD 0 0) ↔ _
      rw [Int.min_self]
      exact ⟨fun h i hi => by obtain rfl : i = 0 := by omega
                              exact h, fun h => h 0 (by omega)⟩
    · rw [Int.le_min, ih (by omega)]
      exact ⟨fun h i hi => by
        by_cases e : i = k
        · subst e; exact h.2
        · exact h.1 i (by omega), fun h => ⟨fun i hi => h i (by omega), h k (by omega)⟩⟩
theorem maxT_le (l : List Int) (c : Int) (k : Nat) (hk : 1 ≤ k) : maxT l k ≤ c ↔ ∀ i, i < k → l.getD i 0 ≤ c := by
  induction k with
  | zero => omega
  | succ k ih =>
    show max _ _ ≤ c ↔ _
    by_cases h0 : k = 0
    · subst h0
      show max (l.getD 0 0) (l.getD 0 0) ≤ c ↔ _
      rw [Int.max_self]
      exact ⟨fun h i hi => by obtain rfl : i = 0 := by omega
                              exact h, fun h => h 0 (by omega)⟩
    · rw [Int.max_le, ih (by omega)]
      exact ⟨fun h i hi => by
        by_cases e : i = k
        · subst e; exact h.2
        · exact h.1 i (by omega), fun h => ⟨fun i hi => h i (by omega), h k (by omega)⟩⟩

set_option maxHeartbeats 1000000 in
theorem Min_any (l : List Int) (v : Value) (w : World) (h : IntsR 0 w v l) (hn : 0 < l.length) :
    Calls Try.prog 50 #[v] w fun r w' => r = .returned (.int .i64 (minT l l.length)) ∧ w = w' := by
  obtain ⟨ao, cap, rfl, hcap, hmax, hc⟩ := h
  unfold maxLen at hmax
  have HC := hid hc
  obtain ⟨b, off, rfl, hb, x0⟩ := int_cell hc hn
  rw [Nat.add_zero] at x0
  obtain ⟨x, hx⟩ : ∃ x, l.getD 0 0 = x := ⟨_, rfl⟩
  have HX := hid hx
  rw [hx] at x0
  obtain ⟨L, hL⟩ : ∃ L, l.length = L := ⟨_, rfl⟩
  rw [hL] at hcap hn ⊢
  have HL := hid hL
  have hn1 : ¬ (L : Int) < 1 := by omega
  have hn2 : (0 : Int) < L := by omega
  clear hc hx hL
  go_enter Try.func50, Try.ntmps50
  go_wp2_with fail
  clear hn1 hn2
  go_loop [3, 4] (fun y z => ∃ i : Nat, 1 ≤ i ∧ i ≤ L ∧ z = .int .i64 i ∧ y = .int .i64 (minT l i)) (fun _ z => L - (intOf z).toNat)
  case atStart => exact ⟨1, Nat.le_refl _, hn, rfl, by rw [minT_one, HX.out]⟩
  case round =>
    obtain ⟨i, h1, h2, rfl, rfl⟩ := hrel
    by_cases hi : i < L
    case pos =>
      have hi2 : (i : Int) < (L : Int) := by omega
      obtain ⟨b', off', e, hb', y0⟩ := int_cell HC.out (show i < l.length by rw [HL.out]; exact hi)
      cases e
      obtain ⟨y, hy⟩ : ∃ y, l.getD i 0 = y := ⟨_, rfl⟩
      obtain ⟨m, hm⟩ : ∃ y, minT l i = y := ⟨_, rfl⟩
      rw [hy] at y0
      rw [hm]
      have HS : Hid (minT l (i + 1) = min m y) := hid (by rw [← hm, ← hy]; rfl)
      clear hy hm
      go_wp2
      all_goals
        go_round
        case rel => exact ⟨i + 1, by omega, by omega, by go_num, by rw [HS.out]; first | rfl | (congr 1; omega)⟩
        case measure => simp [intOf]; omega
    case neg =>
      obtain rfl : L = i := by omega
      have hi2 : ¬ (L : Int) < (L : Int) := by omega
      go_wp2
      go_ret
      exact ⟨rfl, rfl⟩

set_option maxHeartbeats 1000000 in
theorem Max_any (l : List Int) (v : Value) (w : World) (h : IntsR 0 w v l) (hn : 0 < l.length) :
    Calls Try.prog 51 #[v] w fun r w' => r = .returned (.int .i64 (maxT l l.length)) ∧ w = w' := by
  obtain ⟨ao, cap, rfl, hcap, hmax, hc⟩ := h
  unfold maxLen at hmax
  have HC := hid hc
  obtain ⟨b, off, rfl, hb, x0⟩ := int_cell hc hn
  rw [Nat.add_zero] at x0
  obtain ⟨x, hx⟩ : ∃ x, l.getD 0 0 = x := ⟨_, rfl⟩
  have HX := hid hx
  rw [hx] at x0
  obtain ⟨L, hL⟩ : ∃ L, l.length = L := ⟨_, rfl⟩
  rw [hL] at hcap hn ⊢
  have HL := hid hL
  have hn1 : ¬ (L : Int) < 1 := by omega
  have hn2 : (0 : Int) < L := by omega
  clear hc hx hL
  go_enter Try.func51, Try.ntmps51
  go_wp2_with fail
  clear hn1 hn2
  go_loop [3, 4] (fun y z => ∃ i : Nat, 1 ≤ i ∧ i ≤ L ∧ z = .int .i64 i ∧ y = .int .i64 (maxT l i)) (fun _ z => L - (intOf z).toNat)
  case atStart => exact ⟨1, Nat.le_refl _, hn, rfl, by rw [maxT_one, HX.out]⟩
  case round =>
    obtain ⟨i, h1, h2, rfl, rfl⟩ := hrel
    by_cases hi : i < L
    case pos =>
      have hi2 : (i : Int) < (L : Int) := by omega
      obtain ⟨b', off', e, hb', y0⟩ := int_cell HC.out (show i < l.length by rw [HL.out]; exact hi)
      cases e
      obtain ⟨y, hy⟩ : ∃ y, l.getD i 0 = y := ⟨_, rfl⟩
      obtain ⟨m, hm⟩ : ∃ y, maxT l i = y := ⟨_, rfl⟩
      rw [hy] at y0
      rw [hm]
      have HS : Hid (maxT l (i + 1) = max m y) := hid (by rw [← hm, ← hy]; rfl)
      clear hy hm
      go_wp2
      all_goals
        go_round
        case rel => exact ⟨i + 1, by omega, by omega, by go_num, by rw [HS.out]; first | rfl | (congr 1; omega)⟩
        case measure => simp [intOf]; omega
    case neg =>
      obtain rfl : L = i := by omega
      have hi2 : ¬ (L : Int) < (L : Int) := by omega
      go_wp2
      go_ret
      exact ⟨rfl, rfl⟩


/-- A glove: four numbers. -/
structure Gv where
  a : Int
  b : Int
  c : Int
  d : Int
def gC (g : Gv) : List Value := [.int .i64 g.a, .int .i64 g.b, .int .i64 g.c, .int .i64 g.d]
def gsC (l : List Gv) : List Value := l.flatMap gC
abbrev gV (g : Gv) : Value := .agg #[.int .i64 g.a, .int .i64 g.b, .int .i64 g.c, .int .i64 g.d]
def GsR (lo : Nat) (w : World) (v : Value) (l : List Gv) : Prop := SlR lo w v l.length (gsC l)
theorem GsR.below {lo : Nat} {w w' : World} {v : Value} {l : List Gv} (h : GsR lo w v l) (hb : Below w.heap.size w w') : GsR lo w' v l := SlR.below h hb
theorem gsC_append (a b : List Gv) : gsC (a ++ b) = gsC a ++ gsC b := by unfold gsC; exact List.flatMap_append
theorem gsC_len (l : List Gv) : (gsC l).length = l.length * 4 := by
  induction l with
  | nil => rfl
  | cons a l ih => show ([_, _, _, _] ++ gsC l).length = _; rw [List.length_append, ih]; simp; omega
theorem gsC_get : ∀ (l : List Gv) (i : Nat), i < l.length → (gsC l)[i * 4]? = some (.int .i64 (l.getD i ⟨0, 0, 0, 0⟩).a) ∧ (gsC l)[i * 4 + 1]? = some (.int .i64 (l.getD i ⟨0, 0, 0, 0⟩).b) ∧ (gsC l)[i * 4 + 2]? = some (.int .i64 (l.getD i ⟨0, 0, 0, 0⟩).c) ∧ (gsC l)[i * 4 + 3]? = some (.int .i64 (l.getD i ⟨0, 0, 0, 0⟩).d)
  | [], i, h => by cases h
  | a :: l, 0, _ => ⟨rfl, rfl, rfl, rfl⟩
  | a :: l, i + 1, h => by
    have := gsC_get l i (by simpa using h)
    have e1 : (i + 1) * 4 = i * 4 + 1 + 1 + 1 + 1 := by omega
    have e2 : (i + 1) * 4 + 1 = i * 4 + 1 + 1 + 1 + 1 + 1 := by omega
    have e3 : (i + 1) * 4 + 2 = i * 4 + 2 + 1 + 1 + 1 + 1 := by omega
    have e4 : (i + 1) * 4 + 3 = i * 4 + 3 + 1 + 1 + 1 + 1 := by omega
    rw [e4, e3, e2, e1]
    exact this
theorem g_cell {lo : Nat} {w : World} {ao : Option Addr} {l : List Gv} (h : CellsOf lo w ao (gsC l)) {i : Nat} (hi : i < l.length) :
    ∃ b off, ao = some ⟨b, off, none⟩ ∧ b < w.heap.size ∧ w.cell? ⟨b, off + i * 4, none⟩ = some (.int .i64 (l.getD i ⟨0, 0, 0, 0⟩).a) ∧ w.cell? ⟨b, off + i * 4 + 1, none⟩ = some (.int .i64 (l.getD i ⟨0, 0, 0, 0⟩).b) ∧
      w.cell? ⟨b, off + i * 4 + 2, none⟩ = some (.int .i64 (l.getD i ⟨0, 0, 0, 0⟩).c) ∧ w.cell? ⟨b, off + i * 4 + 3, none⟩ = some (.int .i64 (l.getD i ⟨0, 0, 0, 0⟩).d) := by
  have hne : gsC l ≠ [] := by
    intro he
    have h9 := congrArg List.length he
    rw [gsC_len] at h9
    simp at h9; omega
  obtain ⟨b, off, hao, -, hb, hx⟩ := h hne
  have hl := gsC_len l
  obtain ⟨g1, g2, g3, g4⟩ := gsC_get l i hi
  have k : ∀ j, j < 4 → w.cell? ⟨b, off + (i * 4 + j), none⟩ = some ((gsC l).getD (i * 4 + j) undef) := fun j hj => hx _ (by omega)
  refine ⟨b, off, hao, hb, ?_, ?_, ?_, ?_⟩
  · have := k 0 (by omega); rw [List.getD_eq_getElem?_getD, Nat.add_zero, g1] at this; exact this
  · have := k 1 (by omega); rw [List.getD_eq_getElem?_getD, g2] at this; exact this
  · have := k 2 (by omega); rw [List.getD_eq_getElem?_getD, g3] at this; exact this
  · have := k 3 (by omega); rw [List.getD_eq_getElem?_getD, g4] at this; exact this

set_option maxHeartbeats 1000000 in
theorem measures_any (g : Gv) (w : World) :
    Calls Try.prog 86 #[gV g] w fun r w' => r = .returned (.agg #[.int .i64 g.a, .int .i64 g.b, .int .i64 g.c, .int .i64 g.d]) ∧ Below w.heap.size w w' := by
  obtain ⟨a, b, c, d⟩ := g
  go_enter Try.func86, Try.ntmps86
  go_wp2
  refine bodyPost_ret (v := .agg #[.int .i64 a, .int .i64 b, .int .i64 c, .int .i64 d]) (by simp [results, Try.results86, go_sem]) rfl ⟨rfl, ?_⟩
  (repeat' (first | exact Below.refl _ _ | assumption | (refine Below.setCell ?_ ?_ _) | (refine Below.alloc ?_ ?_ _) | (refine below_drewN0 ?_ _) | (refine Below.drew ?_))) <;> (first | exact Nat.le_refl _ | (simp; done) | (simp; omega) | omega)


/-- A glove's numbers are from 0 to 1000. -/
def GOk (g : Gv) : Prop := (0 ≤ g.a ∧ g.a ≤ 1000) ∧ (0 ≤ g.b ∧ g.b ≤ 1000) ∧ (0 ≤ g.c ∧ g.c ≤ 1000) ∧ (0 ≤ g.d ∧ g.d ≤ 1000)
instance (g : Gv) : Decidable (GOk g) := by unfold GOk; exact inferInstance
def gokB (g : Gv) : Bool := decide (GOk g)
theorem four_iff (P : Int → Prop) (a b c d : Int) : (∀ i, i < 4 → P ([a, b, c, d].getD i 0)) ↔ P a ∧ P b ∧ P c ∧ P d := by
  constructor
  · intro h; exact ⟨h 0 (by omega), h 1 (by omega), h 2 (by omega), h 3 (by omega)⟩
  · rintro ⟨h0, h1, h2, h3⟩ i hi
    rcases i with _ | _ | _ | _ | i
    · exact h0
    · exact h1
    · exact h2
    · exact h3
    · omega
/-- A block of cells sliced whole. -/
theorem blk_ints {w : World} {g : Nat} {cs : Array Value} {t : TypeId} (h : Blk w g cs t) (l : List Int) (hcs : cs = (ints l).toArray) (hl : l.length ≤ maxLen) : IntsR 0 w (.slice (some ⟨g, 0, none⟩) l.length l.length) l := by
  refine ⟨_, _, rfl, Nat.le_refl _, hl, fun _ => ⟨g, 0, rfl, Nat.zero_le _, h.lt, fun j hj => ?_⟩⟩
  rw [Nat.zero_add, h.cell j, hcs]
  rw [List.getD_eq_getElem?_getD, List.getElem?_eq_getElem hj]
  simp [List.getElem?_eq_getElem hj]

set_option maxHeartbeats 2000000 in
theorem gright_any (g : Gv) (w : World) :
    Calls Try.prog 85 #[gV g] w fun r w' => r = .returned (.bool (gokB g)) ∧ Below w.heap.size w w' := by
  have hmin := (minT_ge [g.a, g.b, g.c, g.d] 0 4 (by omega)).trans (four_iff (0 ≤ ·) g.a g.b g.c g.d)
  have hmax := (maxT_le [g.a, g.b, g.c, g.d] 1000 4 (by omega)).trans (four_iff (· ≤ 1000) g.a g.b g.c g.d)
  have hB : (gokB g = true) ↔ (0 ≤ minT [g.a, g.b, g.c, g.d] 4 ∧ maxT [g.a, g.b, g.c, g.d] 4 ≤ 1000) := by
    unfold gokB GOk
    rw [hmin, hmax]
    refine (Iff.of_eq (decide_eq_true_eq)).trans ?_
    constructor
    · rintro ⟨⟨a1, a2⟩, ⟨b1, b2⟩, ⟨c1, c2⟩, d1, d2⟩; exact ⟨⟨a1, b1, c1, d1⟩, a2, b2, c2, d2⟩
    · rintro ⟨⟨a1, b1, c1, d1⟩, a2, b2, c2, d2⟩; exact ⟨⟨a1, a2⟩, ⟨b1, b2⟩, ⟨c1, c2⟩, d1, d2⟩
  have MN := hid (fun v w h => Min_any [g.a, g.b, g.c, g.d] v w h (by simp))
  have MX := hid (fun v w h => Max_any [g.a, g.b, g.c, g.d] v w h (by simp))
  have ME := hid (fun w => measures_any g w)
  have BI := hid (fun (w : World) (k : Nat) (t : TypeId) (h : Blk w k #[.int .i64 g.a, .int .i64 g.b, .int .i64 g.c, .int .i64 g.d] t) => blk_ints h [g.a, g.b, g.c, g.d] rfl (by unfold maxLen; simp))
  simp only [List.length_cons, List.length_nil, Nat.zero_add] at MN MX BI
  obtain ⟨B, hBB⟩ : ∃ B, gokB g = B := ⟨_, rfl⟩
  rw [hBB] at hB ⊢
  obtain ⟨m, hm⟩ : ∃ m, minT [g.a, g.b, g.c, g.d] 4 = m := ⟨_, rfl⟩
  obtain ⟨x, hx⟩ : ∃ x, maxT [g.a, g.b, g.c, g.d] 4 = x := ⟨_, rfl⟩
  have e4 : minT [g.a, g.b, g.c, g.d] (0 + 1 + 1 + 1 + 1) = m := hm
  have e5 : maxT [g.a, g.b, g.c, g.d] (0 + 1 + 1 + 1 + 1) = x := hx
  rw [hm, hx] at hB
  have HB := hid hB
  have HM := hid hm
  have HX := hid hx
  clear hB hBB hm hx e4 e5 hmin hmax
  obtain ⟨a, b, c, d⟩ := g
  go_enter Try.func85, Try.ntmps85
  go_wp2_with fail
  refine (ME.out _).mono ?_
  rintro r w1 ⟨rfl, hb1⟩
  have hb2 := (alloc_below w _).trans (hb1.mono (by simp))
  go_wp2_with fail
  refine (MN.out _ _ (BI.out _ _ _ (Blk.new w1 _ _))).mono ?_
  rintro r w2 ⟨rfl, rfl⟩
  rw [HM.out]
  by_cases h0 : 0 ≤ m
  case pos =>
    go_wp2_with fail
    refine (MX.out _ _ (BI.out _ _ _ (Blk.new w1 _ _))).mono ?_
    rintro r w2 ⟨rfl, rfl⟩
    rw [HX.out]
    have hfin : Hid (B = decide (x ≤ 1000)) := hid (by rw [Bool.eq_iff_iff, HB.out, decide_eq_true_eq]; exact ⟨fun h => h.2, fun h => ⟨h0, h⟩⟩)
    clear HB HM HX MN MX BI ME
    go_wp2
    go_ret
    exact ⟨ret_bool (by rw [hfin.out]), hb2.alloc hb2.size _⟩
  case neg =>
    have hfin : Hid (B = false) := hid (by
      cases hB : B with
      | false => rfl
      | true => exact absurd (HB.out.1 hB).1 h0)
    clear HB HM HX MN MX BI ME
    go_wp2
    go_ret
    exact ⟨ret_bool (by rw [hfin.out]), hb2.alloc hb2.size _⟩


/-- A rule. -/
structure Ru where
  wt : Gv
  lim : Gv
abbrev ruV (u : Ru) : Value := .agg #[.int .i64 u.wt.a, .int .i64 u.wt.b, .int .i64 u.wt.c, .int .i64 u.wt.d, .int .i64 u.lim.a, .int .i64 u.lim.b, .int .i64 u.lim.c, .int .i64 u.lim.d]
def RuOk (u : Ru) : Prop := GOk u.wt ∧ GOk u.lim
instance (u : Ru) : Decidable (RuOk u) := by unfold RuOk; exact inferInstance
def rokB (u : Ru) : Bool := gokB u.wt && gokB u.lim
theorem rokB_iff (u : Ru) : rokB u = true ↔ RuOk u := by unfold rokB RuOk gokB; simp

set_option maxHeartbeats 2000000 in
theorem rright_any (u : Ru) (w : World) :
    Calls Try.prog 62 #[ruV u] w fun r w' => r = .returned (.bool (rokB u)) ∧ Below w.heap.size w w' := by
  have R1 := hid (fun w => gright_any u.wt w)
  have R2 := hid (fun w => gright_any u.lim w)
  obtain ⟨B, hB⟩ : ∃ B, rokB u = B := ⟨_, rfl⟩
  have HB : Hid (B = (gokB u.wt && gokB u.lim)) := hid hB.symm
  rw [hB]
  obtain ⟨b1, h1⟩ : ∃ b, gokB u.wt = b := ⟨_, rfl⟩
  obtain ⟨b2, h2⟩ : ∃ b, gokB u.lim = b := ⟨_, rfl⟩
  rw [h1] at R1 HB
  rw [h2] at R2 HB
  clear h1 h2 hB
  obtain ⟨⟨a, b, c, d⟩, ⟨e, f, g, h⟩⟩ := u
  go_enter Try.func62, Try.ntmps62
  go_wp2_with fail
  refine (R1.out _).mono ?_
  rintro r w1 ⟨rfl, hb1⟩
  have hb2 := (alloc_below w _).trans (hb1.mono (by simp))
  have hc := fun o => hb1.cell (p := ⟨w.heap.size, o, none⟩) (by simp)
  have hf := fun o => hb1.frozen (p := ⟨w.heap.size, o, none⟩) (by simp)
  cases b1 with
  | false =>
    go_wp2
    go_ret
    exact ⟨ret_bool (by rw [HB.out]; rfl), hb2⟩
  | true =>
    go_wp2_with fail
    refine (R2.out _).mono ?_
    rintro r w2 ⟨rfl, hb3⟩
    have hb4 := hb2.trans (hb3.mono hb2.size)
    go_wp2
    go_ret
    exact ⟨ret_bool (by rw [HB.out]; rfl), hb4⟩

end Go.Proofs.Ytcpefolhohakmaa
