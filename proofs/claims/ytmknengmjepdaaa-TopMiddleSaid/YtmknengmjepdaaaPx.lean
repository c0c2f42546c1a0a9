/- Several of my texts in one: Pa, Pb, Pc, Pd, Pe. -/
import Derived.Test.YtmknengmjepdaaaQx
/- Patterns: their reading; walks of grade.Valid and trankref04.Valid. -/
namespace Go.Proofs.Ytmknengmjepdaaa
open Go.RowKit

/-- A rule. -/
structure Rul where
  a : Int
  b : Int
  c : Int
  d : Int
/-- A pattern. -/
structure Pat where
  n : Int
  rules : List Rul
/-- A rule of a pattern of n unknowns. -/
def RV (n : Int) (r : Rul) : Prop := 0 ≤ r.a ∧ r.a < n ∧ 0 ≤ r.b ∧ r.b < n ∧ -1000 ≤ r.c ∧ r.c ≤ 1000 ∧ -100 ≤ r.d ∧ r.d ≤ 100
/-- A valid pattern. -/
def PValid (p : Pat) : Prop := 1 ≤ p.n ∧ p.n ≤ 16 ∧ p.rules.length ≤ 64 ∧ ∀ r ∈ p.rules, RV p.n r
instance (n : Int) (r : Rul) : Decidable (RV n r) := inferInstanceAs (Decidable (_ ∧ _))
instance (p : Pat) : Decidable (PValid p) := inferInstanceAs (Decidable (_ ∧ _))

/-- The cells of rules. -/
def ruCells (l : List Rul) : List Value := l.flatMap fun r => [.int .i64 r.a, .int .i64 r.b, .int .i64 r.c, .int .i64 r.d]
theorem ruCells_len (l : List Rul) : (ruCells l).length = l.length * 4 := by
  induction l with
  | nil => rfl
  | cons x xs ih => simp only [ruCells, List.flatMap_cons, List.length_append, List.length_cons, List.length_nil] at *; omega
theorem ruCells_append (a b : List Rul) : ruCells (a ++ b) = ruCells a ++ ruCells b := by unfold ruCells; exact List.flatMap_append
theorem ruCells_get (l : List Rul) (i : Nat) (r : Rul) (h : l[i]? = some r) : (ruCells l).getD (i * 4) undef = .int .i64 r.a ∧ (ruCells l).getD (i * 4 + 1) undef = .int .i64 r.b ∧ (ruCells l).getD (i * 4 + 2) undef = .int .i64 r.c ∧ (ruCells l).getD (i * 4 + 3) undef = .int .i64 r.d := by
  induction l generalizing i with
  | nil => simp at h
  | cons x xs ih =>
    cases i with
    | zero => simp at h; subst h; simp [ruCells]
    | succ i =>
      have := ih i (by simpa using h)
      rw [show (i + 1) * 4 = i * 4 + 1 + 1 + 1 + 1 by omega]
      simpa [ruCells] using this
/-- A pattern's value. -/
def PatF (lo : Nat) (w : World) (v : Value) (p : Pat) : Prop := ∃ s, v = .agg #[.int .i64 p.n, s] ∧ SlR lo w s p.rules.length (ruCells p.rules)
theorem PatF.below {lo : Nat} {w w' : World} {v : Value} {p : Pat} (h : PatF lo w v p) (hb : Below w.heap.size w w') : PatF lo w' v p := by
  obtain ⟨s, h1, h2⟩ := h
  exact ⟨s, h1, h2.below hb⟩
theorem PatF.mono {lo lo' : Nat} {w : World} {v : Value} {p : Pat} (h : PatF lo w v p) (hl : lo' ≤ lo) : PatF lo' w v p := by
  obtain ⟨s, h1, h2⟩ := h
  exact ⟨s, h1, h2.mono hl⟩
theorem PatF.setCell {lo : Nat} {w : World} {v : Value} {p : Pat} (h : PatF lo w v p) {q : Addr} (hq : q.block < lo) (u : Value) : PatF lo (w.setCell q u) v p := by
  obtain ⟨s, h1, h2⟩ := h
  exact ⟨s, h1, h2.setCell hq u⟩
theorem PatF.shape {lo : Nat} {w : World} {v : Value} {p : Pat} (h : PatF lo w v p) : ∃ ao cap, v = .agg #[.int .i64 p.n, .slice ao p.rules.length cap] ∧ p.rules.length ≤ cap ∧ cap ≤ maxLen ∧ CellsOf lo w ao (ruCells p.rules) := by
  obtain ⟨s, h1, ao, cap, h2, h3⟩ := h
  exact ⟨ao, cap, by rw [h1, h2], h3⟩
theorem ru_cell {lo : Nat} {w : World} {ao : Option Addr} {l : List Rul} (h : CellsOf lo w ao (ruCells l)) {i : Nat} {r : Rul} (hi : l[i]? = some r) :
    ∃ b off, ao = some ⟨b, off, none⟩ ∧ b < w.heap.size ∧ w.cell? ⟨b, off + i * 4, none⟩ = some (.int .i64 r.a) ∧ w.cell? ⟨b, off + i * 4 + 1, none⟩ = some (.int .i64 r.b) ∧ w.cell? ⟨b, off + i * 4 + 2, none⟩ = some (.int .i64 r.c) ∧ w.cell? ⟨b, off + i * 4 + 3, none⟩ = some (.int .i64 r.d) := by
  have hl := ruCells_len l
  have hil := (List.getElem?_eq_some_iff.1 hi).1
  obtain ⟨b, off, h1, _, h2, h3⟩ := h (by intro h0; rw [h0, List.length_nil] at hl; omega)
  obtain ⟨g1, g2, g3, g4⟩ := ruCells_get l i r hi
  refine ⟨b, off, h1, h2, ?_, ?_, ?_, ?_⟩
  · rw [h3 (i * 4) (by omega), g1]
  · rw [Nat.add_assoc, h3 (i * 4 + 1) (by omega), g2]
  · rw [Nat.add_assoc, h3 (i * 4 + 2) (by omega), g3]
  · rw [Nat.add_assoc, h3 (i * 4 + 3) (by omega), g4]
theorem ex_rule {l : List Rul} {i : Nat} (h : i < l.length) : ∃ r, l[i]? = some r := ⟨l[i], List.getElem?_eq_getElem h⟩
theorem take_rule {l : List Rul} {i : Nat} {r : Rul} (hi : l[i]? = some r) {P : Rul → Prop} (h : ∀ x ∈ l.take i, P x) (hr : P r) : ∀ x ∈ l.take (i + 1), P x := by
  intro x hx
  obtain ⟨hil, he⟩ := List.getElem?_eq_some_iff.1 hi
  rw [List.take_succ_eq_append_getElem hil] at hx
  rcases List.mem_append.1 hx with hx | hx
  · exact h x hx
  · have : x = l[i] := by simpa using hx
    rw [this, he]; exact hr
theorem rule_mem {l : List Rul} {i : Nat} {r : Rul} (hi : l[i]? = some r) : r ∈ l := List.mem_of_getElem? hi
/-- The first condition of a rule that fails. -/
theorem rv_cases (n : Int) (a b c d : Int) (h : ¬ RV n ⟨a, b, c, d⟩) : a < 0 ∨ (0 ≤ a ∧ n ≤ a) ∨ (0 ≤ a ∧ a < n ∧ b < 0) ∨ (0 ≤ a ∧ a < n ∧ 0 ≤ b ∧ n ≤ b) ∨ (0 ≤ a ∧ a < n ∧ 0 ≤ b ∧ b < n ∧ c < -1000) ∨ (0 ≤ a ∧ a < n ∧ 0 ≤ b ∧ b < n ∧ -1000 ≤ c ∧ 1000 < c) ∨
    (0 ≤ a ∧ a < n ∧ 0 ≤ b ∧ b < n ∧ -1000 ≤ c ∧ c ≤ 1000 ∧ d < -100) ∨ (0 ≤ a ∧ a < n ∧ 0 ≤ b ∧ b < n ∧ -1000 ≤ c ∧ c ≤ 1000 ∧ -100 ≤ d ∧ 100 < d) := by
  unfold RV at h
  dsimp only at h
  omega

set_option maxHeartbeats 4000000 in
theorem rValid_any (p : Pat) (v : Value) (w : World) (h : PatF 0 w v p) :
    Calls Try.prog 66 #[v] w fun e w' => e = .returned (.bool (decide (PValid p))) ∧ Below w.heap.size w w' := by
  obtain ⟨ao, cap, rfl, hcap, hmax, hc⟩ := h.shape
  unfold maxLen at hmax
  clear h
  obtain ⟨L, hL⟩ : ∃ L, p.rules.length = L := ⟨_, rfl⟩
  obtain ⟨n, hn⟩ : ∃ n, p.n = n := ⟨_, rfl⟩
  have HL := hid hL
  have HN := hid hn
  rw [hL] at hcap ⊢
  rw [hn]
  have hB : ∀ o, Below w.heap.size w (w.alloc o) := fun o => (Below.refl _ _).alloc (Nat.le_refl _) _
  have HB := hid hB
  clear hL hn hB
  by_cases h0 : 1 ≤ n ∧ n ≤ 16 ∧ L ≤ 64
  · obtain ⟨h1, h2, h3⟩ := h0
    obtain ⟨res, hres⟩ : ∃ b, decide (PValid p) = b := ⟨_, rfl⟩
    rw [hres]
    have HR := hid hres
    clear hres
    go_enter Try.func66, Try.ntmps66
    go_wp2
    have hk := Blk.new w #[.int .i64 n, .slice ao L cap] 24
    have hbw := HB.out (.cells #[.int .i64 n, .slice ao L cap] 24)
    obtain ⟨w0, hw0⟩ : ∃ w0, w.alloc (.cells #[.int .i64 n, .slice ao L cap] 24) = w0 := ⟨_, rfl⟩
    rw [hw0] at hk hbw ⊢
    clear hw0
    go_loopw [22] (fun x wr => ∃ i : Nat, x = .int .i64 i ∧ i ≤ L ∧ (∀ r ∈ p.rules.take i, RV n r) ∧ Below w0.heap.size w0 wr) (fun x _ => L - (intOf x).toNat)
    case atStart => exact ⟨0, rfl, Nat.zero_le _, by simp, Below.refl _ _⟩
    case round =>
      obtain ⟨i, rfl, hi, hall, hbel⟩ := hrel
      have HA := hid hall
      clear hall
      have hbw2 := hbw.trans (hbel.mono hbw.size)
      have c0 := (hk.below hbel).look 0 rfl
      have hsz := hbel.size
      have hlt := (hk.below hbel).lt
      by_cases hil : i < L
      · obtain ⟨r, hr⟩ := ex_rule (l := p.rules) (i := i) (by rw [HL.out]; exact hil)
        obtain ⟨b, off, rfl, hb, d0, d1, d2, d3⟩ := ru_cell hc hr
        have HRR := hid hr
        clear hr
        have e0 := (hbw2.cell (p := ⟨b, off + i * 4, none⟩) hb).trans d0
        have e1 := (hbw2.cell (p := ⟨b, off + i * 4 + 1, none⟩) hb).trans d1
        have e2 := (hbw2.cell (p := ⟨b, off + i * 4 + 2, none⟩) hb).trans d2
        have e3 := (hbw2.cell (p := ⟨b, off + i * 4 + 3, none⟩) hb).trans d3
        clear d0 d1 d2 d3
        obtain ⟨ra, rb, rc, rd⟩ := r
        dsimp only at e0 e1 e2 e3
        by_cases hv : RV n ⟨ra, rb, rc, rd⟩
        · have HV := hid hv
          obtain ⟨g1, g2, g3, g4, g5, g6, g7, g8⟩ := hv
          dsimp only at g1 g2 g3 g4 g5 g6 g7 g8
          go_wp2
          go_roundw
          case rel => exact ⟨i + 1, by go_num, by omega, take_rule HRR.out HA.out HV.out, hbel.alloc hsz _⟩
          case measure => simp [intOf]; omega
        · have HV := hid hv
          have hcs := rv_cases n ra rb rc rd hv
          clear hv
          have hfalse : false = res := by
            rw [← HR.out]; symm
            rw [decide_eq_false_iff_not]
            intro hh
            have := hh.2.2.2 _ (rule_mem HRR.out)
            rw [HN.out] at this
            exact HV.out this
          have HFL := hid hfalse
          clear hfalse
          rcases hcs with g1 | ⟨g1, g2⟩ | ⟨g1, g2, g3⟩ | ⟨g1, g2, g3, g4⟩ | ⟨g1, g2, g3, g4, g5⟩ | ⟨g1, g2, g3, g4, g5, g6⟩ | ⟨g1, g2, g3, g4, g5, g6, g7⟩ | ⟨g1, g2, g3, g4, g5, g6, g7, g8⟩
          all_goals
            go_wp2
            go_ret
            exact ⟨ret_bool HFL.out, hbw2.alloc (by omega) _⟩
      · obtain rfl : i = L := by omega
        go_wp2
        go_ret
        refine ⟨ret_bool ?_, hbw2⟩
        rw [← HR.out]; symm
        rw [decide_eq_true_eq]
        refine ⟨by rw [HN.out]; exact h1, by rw [HN.out]; exact h2, by rw [HL.out]; exact h3, ?_⟩
        have := HA.out
        rw [← HL.out, List.take_length, ← HN.out] at this
        exact this
  · have hres : decide (PValid p) = false := by
      rw [decide_eq_false_iff_not]
      intro hh
      apply h0
      rw [← HN.out, ← HL.out]
      exact ⟨hh.1, hh.2.1, hh.2.2.1⟩
    rw [hres]
    clear hres
    have hcs : n < 1 ∨ (1 ≤ n ∧ 16 < n) ∨ (1 ≤ n ∧ n ≤ 16 ∧ 64 < L) := by omega
    clear h0
    rcases hcs with h1 | ⟨h1, h2⟩ | ⟨h1, h2, h3⟩
    all_goals
      go_enter Try.func66, Try.ntmps66
      go_wp2
      go_ret
      exact ⟨rfl, HB.out _⟩

end Go.Proofs.Ytmknengmjepdaaa

/- Walks of grade.Valid. -/
namespace Go.Proofs.Ytmknengmjepdaaa
open Go.RowKit

theorem gv_cases (n : Int) (a b c d : Int) (h : ¬ RV n ⟨a, b, c, d⟩) : min a b < 0 ∨ (0 ≤ min a b ∧ n ≤ max a b) ∨ (0 ≤ min a b ∧ max a b < n ∧ c < -1000) ∨ (0 ≤ min a b ∧ max a b < n ∧ -1000 ≤ c ∧ 1000 < c) ∨
    (0 ≤ min a b ∧ max a b < n ∧ -1000 ≤ c ∧ c ≤ 1000 ∧ d < -100) ∨ (0 ≤ min a b ∧ max a b < n ∧ -1000 ≤ c ∧ c ≤ 1000 ∧ -100 ≤ d ∧ 100 < d) := by
  unfold RV at h
  dsimp only at h
  omega

set_option maxHeartbeats 4000000 in
theorem gValid_any (p : Pat) (v : Value) (w : World) (h : PatF 0 w v p) :
    Calls Try.prog 65 #[v] w fun e w' => e = .returned (.bool (decide (PValid p))) ∧ Below w.heap.size w w' := by
  obtain ⟨ao, cap, rfl, hcap, hmax, hc⟩ := h.shape
  unfold maxLen at hmax
  clear h
  obtain ⟨L, hL⟩ : ∃ L, p.rules.length = L := ⟨_, rfl⟩
  obtain ⟨n, hn⟩ : ∃ n, p.n = n := ⟨_, rfl⟩
  have HL := hid hL
  have HN := hid hn
  rw [hL] at hcap ⊢
  rw [hn]
  have hB : ∀ o, Below w.heap.size w (w.alloc o) := fun o => (Below.refl _ _).alloc (Nat.le_refl _) _
  have HB := hid hB
  clear hL hn hB
  by_cases h0 : 1 ≤ n ∧ n ≤ 16 ∧ L ≤ 64
  · obtain ⟨h1, h2, h3⟩ := h0
    obtain ⟨res, hres⟩ : ∃ b, decide (PValid p) = b := ⟨_, rfl⟩
    rw [hres]
    have HR := hid hres
    clear hres
    go_enter Try.func65, Try.ntmps65
    go_wp2
    have hk := Blk.new w #[.int .i64 n, .slice ao L cap] 33
    have hbw := HB.out (.cells #[.int .i64 n, .slice ao L cap] 33)
    obtain ⟨w0, hw0⟩ : ∃ w0, w.alloc (.cells #[.int .i64 n, .slice ao L cap] 33) = w0 := ⟨_, rfl⟩
    rw [hw0] at hk hbw ⊢
    clear hw0
    go_loopw [22] (fun x wr => ∃ i : Nat, x = .int .i64 i ∧ i ≤ L ∧ (∀ r ∈ p.rules.take i, RV n r) ∧ Below w0.heap.size w0 wr) (fun x _ => L - (intOf x).toNat)
    case atStart => exact ⟨0, rfl, Nat.zero_le _, by simp, Below.refl _ _⟩
    case round =>
      obtain ⟨i, rfl, hi, hall, hbel⟩ := hrel
      have HA := hid hall
      clear hall
      have hbw2 := hbw.trans (hbel.mono hbw.size)
      have c0 := (hk.below hbel).look 0 rfl
      have hsz := hbel.size
      have hlt := (hk.below hbel).lt
      by_cases hil : i < L
      · obtain ⟨r, hr⟩ := ex_rule (l := p.rules) (i := i) (by rw [HL.out]; exact hil)
        obtain ⟨b, off, rfl, hb, d0, d1, d2, d3⟩ := ru_cell hc hr
        have HRR := hid hr
        clear hr
        have e0 := (hbw2.cell (p := ⟨b, off + i * 4, none⟩) hb).trans d0
        have e1 := (hbw2.cell (p := ⟨b, off + i * 4 + 1, none⟩) hb).trans d1
        have e2 := (hbw2.cell (p := ⟨b, off + i * 4 + 2, none⟩) hb).trans d2
        have e3 := (hbw2.cell (p := ⟨b, off + i * 4 + 3, none⟩) hb).trans d3
        clear d0 d1 d2 d3
        obtain ⟨ra, rb, rc, rd⟩ := r
        dsimp only at e0 e1 e2 e3
        by_cases hv : RV n ⟨ra, rb, rc, rd⟩
        · have HV := hid hv
          obtain ⟨g1, g2, g3, g4, g5, g6, g7, g8⟩ := hv
          dsimp only at g1 g2 g3 g4 g5 g6 g7 g8
          have m1 : 0 ≤ min ra rb := by omega
          have m2 : max ra rb < n := by omega
          go_wp2
          all_goals
            go_roundw
            case rel => exact ⟨i + 1, by go_num, by omega, take_rule HRR.out HA.out HV.out, hbel.alloc hsz _⟩
            case measure => simp [intOf]; omega
        · have HV := hid hv
          have hcs := gv_cases n ra rb rc rd hv
          clear hv
          have hfalse : false = res := by
            rw [← HR.out]; symm
            rw [decide_eq_false_iff_not]
            intro hh
            have := hh.2.2.2 _ (rule_mem HRR.out)
            rw [HN.out] at this
            exact HV.out this
          have HFL := hid hfalse
          clear hfalse
          rcases hcs with g1 | ⟨g1, g2⟩ | ⟨g1, g2, g3⟩ | ⟨g1, g2, g3, g4⟩ | ⟨g1, g2, g3, g4, g5⟩ | ⟨g1, g2, g3, g4, g5, g6⟩
          all_goals
            go_wp2
            all_goals
              go_ret
              exact ⟨ret_bool HFL.out, hbw2.alloc (by omega) _⟩
      · obtain rfl : i = L := by omega
        go_wp2
        go_ret
        refine ⟨ret_bool ?_, hbw2⟩
        rw [← HR.out]; symm
        rw [decide_eq_true_eq]
        refine ⟨by rw [HN.out]; exact h1, by rw [HN.out]; exact h2, by rw [HL.out]; exact h3, ?_⟩
        have := HA.out
        rw [← HL.out, List.take_length, ← HN.out] at this
        exact this
  · have hres : decide (PValid p) = false := by
      rw [decide_eq_false_iff_not]
      intro hh
      apply h0
      rw [← HN.out, ← HL.out]
      exact ⟨hh.1, hh.2.1, hh.2.2.1⟩
    rw [hres]
    clear hres
    have hcs : n < 1 ∨ (1 ≤ n ∧ 16 < n) ∨ (1 ≤ n ∧ n ≤ 16 ∧ 64 < L) := by omega
    clear h0
    rcases hcs with h1 | ⟨h1, h2⟩ | ⟨h1, h2, h3⟩
    all_goals
      go_enter Try.func65, Try.ntmps65
      go_wp2
      go_ret
      exact ⟨rfl, HB.out _⟩

end Go.Proofs.Ytmknengmjepdaaa

/- Walks of grade's sized, Rule.at and trankref04's Size, Good, weight. -/
namespace Go.Proofs.Ytmknengmjepdaaa
open Go.RowKit

/-- A size of a glove. -/
def FSize (n d : Int) : Prop := FV n d ∧ 0 ≤ n ∧ d ≤ 10000 ∧ n ≤ 40 * d
instance (n d : Int) : Decidable (FSize n d) := inferInstanceAs (Decidable (_ ∧ _))
theorem fsize_cases (n d : Int) : ¬ FV n d ∨ (FV n d ∧ n < 0) ∨ (FV n d ∧ 0 ≤ n ∧ 10000 < d) ∨ (FV n d ∧ 0 ≤ n ∧ d ≤ 10000 ∧ 40 * d < n) ∨ (FV n d ∧ 0 ≤ n ∧ d ≤ 10000 ∧ n ≤ 40 * d) := by
  by_cases h : FV n d
  · rcases Int.lt_or_le n 0 with h1 | h1
    · exact .inr (.inl ⟨h, h1⟩)
    · rcases Int.lt_or_le 10000 d with h2 | h2
      · exact .inr (.inr (.inl ⟨h, h1, h2⟩))
      · rcases Int.lt_or_le (40 * d) n with h3 | h3
        · exact .inr (.inr (.inr (.inl ⟨h, h1, h2, h3⟩)))
        · exact .inr (.inr (.inr (.inr ⟨h, h1, h2, h3⟩)))
  · exact .inl h

set_option maxHeartbeats 1000000 in
theorem sized_any (n d : Int) (w : World) :
    Calls Try.prog 77 #[.agg #[.int .i64 n, .int .i64 d]] w fun e w' => e = .returned (.bool (decide (FSize n d))) ∧ Below w.heap.size w w' := by
  have hB : ∀ o, Below w.heap.size w (w.alloc o) := fun o => (Below.refl _ _).alloc (Nat.le_refl _) _
  have HB := hid hB
  clear hB
  have hdec : ∀ b : Bool, (b = true ↔ FSize n d) → .returned (.bool b) = Ending.returned (.bool (decide (FSize n d))) := by
    intro b hb
    exact ret_bool (Bool.eq_iff_iff.2 (hb.trans decide_eq_true_iff.symm))
  have HD := hid hdec
  clear hdec
  rcases fsize_cases n d with hv | ⟨hv, h1⟩ | ⟨hv, h1, h2⟩ | ⟨hv, h1, h2, h3⟩ | ⟨hv, h1, h2, h3⟩
  · have HV := hid hv
    clear hv
    go_enter Try.func77, Try.ntmps77
    go_wp2_with fail
    have hk := Blk.new w #[.int .i64 n, .int .i64 d] 26
    have hb0 := HB.out (.cells #[.int .i64 n, .int .i64 d] 26)
    obtain ⟨w0, hw0⟩ : ∃ w0, w.alloc (.cells #[.int .i64 n, .int .i64 d] 26) = w0 := ⟨_, rfl⟩
    rw [hw0] at hk hb0 ⊢
    clear hw0
    refine (fValid_any n d _).mono ?_
    rintro e w1 ⟨rfl, hb1⟩
    rw [decide_eq_false HV.out]
    have c0 := (hk.below hb1).look 0 rfl
    have c1 := (hk.below hb1).look 1 rfl
    go_wp2
    go_ret
    exact ⟨HD.out _ ⟨fun h => (by cases h), fun h => absurd h.1 HV.out⟩, hb0.trans (hb1.mono hb0.size)⟩
  · have HV := hid hv
    have hd1 := hv.1
    have hd2 := hv.2.1
    clear hv
    go_enter Try.func77, Try.ntmps77
    go_wp2_with fail
    have hk := Blk.new w #[.int .i64 n, .int .i64 d] 26
    have hb0 := HB.out (.cells #[.int .i64 n, .int .i64 d] 26)
    obtain ⟨w0, hw0⟩ : ∃ w0, w.alloc (.cells #[.int .i64 n, .int .i64 d] 26) = w0 := ⟨_, rfl⟩
    rw [hw0] at hk hb0 ⊢
    clear hw0
    refine (fValid_any n d _).mono ?_
    rintro e w1 ⟨rfl, hb1⟩
    rw [decide_eq_true HV.out]
    have c0 := (hk.below hb1).look 0 rfl
    have c1 := (hk.below hb1).look 1 rfl
    go_wp2
    go_ret
    exact ⟨HD.out _ ⟨fun h => (by cases h), fun h => by have := h.2.1; omega⟩, hb0.trans (hb1.mono hb0.size)⟩
  · have HV := hid hv
    have hd1 := hv.1
    have hd2 := hv.2.1
    clear hv
    go_enter Try.func77, Try.ntmps77
    go_wp2_with fail
    have hk := Blk.new w #[.int .i64 n, .int .i64 d] 26
    have hb0 := HB.out (.cells #[.int .i64 n, .int .i64 d] 26)
    obtain ⟨w0, hw0⟩ : ∃ w0, w.alloc (.cells #[.int .i64 n, .int .i64 d] 26) = w0 := ⟨_, rfl⟩
    rw [hw0] at hk hb0 ⊢
    clear hw0
    refine (fValid_any n d _).mono ?_
    rintro e w1 ⟨rfl, hb1⟩
    rw [decide_eq_true HV.out]
    have c0 := (hk.below hb1).look 0 rfl
    have c1 := (hk.below hb1).look 1 rfl
    go_wp2
    go_ret
    exact ⟨HD.out _ ⟨fun h => (by cases h), fun h => by have := h.2.2.1; omega⟩, hb0.trans (hb1.mono hb0.size)⟩
  · have HV := hid hv
    have hd1 := hv.1
    have hd2 := hv.2.1
    clear hv
    go_enter Try.func77, Try.ntmps77
    go_wp2_with fail
    have hk := Blk.new w #[.int .i64 n, .int .i64 d] 26
    have hb0 := HB.out (.cells #[.int .i64 n, .int .i64 d] 26)
    obtain ⟨w0, hw0⟩ : ∃ w0, w.alloc (.cells #[.int .i64 n, .int .i64 d] 26) = w0 := ⟨_, rfl⟩
    rw [hw0] at hk hb0 ⊢
    clear hw0
    refine (fValid_any n d _).mono ?_
    rintro e w1 ⟨rfl, hb1⟩
    rw [decide_eq_true HV.out]
    have c0 := (hk.below hb1).look 0 rfl
    have c1 := (hk.below hb1).look 1 rfl
    go_wp2
    go_ret
    exact ⟨HD.out _ ⟨fun h => (by have := of_decide_eq_true h; omega), fun h => by have := h.2.2.2; omega⟩, hb0.trans (hb1.mono hb0.size)⟩
  · have HV := hid hv
    have hd1 := hv.1
    have hd2 := hv.2.1
    clear hv
    go_enter Try.func77, Try.ntmps77
    go_wp2_with fail
    have hk := Blk.new w #[.int .i64 n, .int .i64 d] 26
    have hb0 := HB.out (.cells #[.int .i64 n, .int .i64 d] 26)
    obtain ⟨w0, hw0⟩ : ∃ w0, w.alloc (.cells #[.int .i64 n, .int .i64 d] 26) = w0 := ⟨_, rfl⟩
    rw [hw0] at hk hb0 ⊢
    clear hw0
    refine (fValid_any n d _).mono ?_
    rintro e w1 ⟨rfl, hb1⟩
    rw [decide_eq_true HV.out]
    have c0 := (hk.below hb1).look 0 rfl
    have c1 := (hk.below hb1).look 1 rfl
    go_wp2
    go_ret
    exact ⟨HD.out _ ⟨fun _ => ⟨HV.out, h1, h2, h3⟩, fun _ => rfl⟩, hb0.trans (hb1.mono hb0.size)⟩
set_option maxHeartbeats 1000000 in
theorem Size_any (n d : Int) (w : World) :
    Calls Try.prog 54 #[.agg #[.int .i64 n, .int .i64 d]] w fun e w' => e = .returned (.bool (decide (FSize n d))) ∧ Below w.heap.size w w' := by
  have hB : ∀ o, Below w.heap.size w (w.alloc o) := fun o => (Below.refl _ _).alloc (Nat.le_refl _) _
  have HB := hid hB
  clear hB
  have hdec : ∀ b : Bool, (b = true ↔ FSize n d) → .returned (.bool b) = Ending.returned (.bool (decide (FSize n d))) := by
    intro b hb
    exact ret_bool (Bool.eq_iff_iff.2 (hb.trans decide_eq_true_iff.symm))
  have HD := hid hdec
  clear hdec
  rcases fsize_cases n d with hv | ⟨hv, h1⟩ | ⟨hv, h1, h2⟩ | ⟨hv, h1, h2, h3⟩ | ⟨hv, h1, h2, h3⟩
  · have HV := hid hv
    clear hv
    go_enter Try.func54, Try.ntmps54
    go_wp2_with fail
    have hk := Blk.new w #[.int .i64 n, .int .i64 d] 26
    have hb0 := HB.out (.cells #[.int .i64 n, .int .i64 d] 26)
    obtain ⟨w0, hw0⟩ : ∃ w0, w.alloc (.cells #[.int .i64 n, .int .i64 d] 26) = w0 := ⟨_, rfl⟩
    rw [hw0] at hk hb0 ⊢
    clear hw0
    refine (Valid_any n d _).mono ?_
    rintro e w1 ⟨rfl, hb1⟩
    rw [decide_eq_false HV.out]
    have c0 := (hk.below hb1).look 0 rfl
    have c1 := (hk.below hb1).look 1 rfl
    go_wp2
    go_ret
    exact ⟨HD.out _ ⟨fun h => (by cases h), fun h => absurd h.1 HV.out⟩, hb0.trans (hb1.mono hb0.size)⟩
  · have HV := hid hv
    have hd1 := hv.1
    have hd2 := hv.2.1
    clear hv
    go_enter Try.func54, Try.ntmps54
    go_wp2_with fail
    have hk := Blk.new w #[.int .i64 n, .int .i64 d] 26
    have hb0 := HB.out (.cells #[.int .i64 n, .int .i64 d] 26)
    obtain ⟨w0, hw0⟩ : ∃ w0, w.alloc (.cells #[.int .i64 n, .int .i64 d] 26) = w0 := ⟨_, rfl⟩
    rw [hw0] at hk hb0 ⊢
    clear hw0
    refine (Valid_any n d _).mono ?_
    rintro e w1 ⟨rfl, hb1⟩
    rw [decide_eq_true HV.out]
    have c0 := (hk.below hb1).look 0 rfl
    have c1 := (hk.below hb1).look 1 rfl
    go_wp2
    go_ret
    exact ⟨HD.out _ ⟨fun h => (by cases h), fun h => by have := h.2.1; omega⟩, hb0.trans (hb1.mono hb0.size)⟩
  · have HV := hid hv
    have hd1 := hv.1
    have hd2 := hv.2.1
    clear hv
    go_enter Try.func54, Try.ntmps54
    go_wp2_with fail
    have hk := Blk.new w #[.int .i64 n, .int .i64 d] 26
    have hb0 := HB.out (.cells #[.int .i64 n, .int .i64 d] 26)
    obtain ⟨w0, hw0⟩ : ∃ w0, w.alloc (.cells #[.int .i64 n, .int .i64 d] 26) = w0 := ⟨_, rfl⟩
    rw [hw0] at hk hb0 ⊢
    clear hw0
    refine (Valid_any n d _).mono ?_
    rintro e w1 ⟨rfl, hb1⟩
    rw [decide_eq_true HV.out]
    have c0 := (hk.below hb1).look 0 rfl
    have c1 := (hk.below hb1).look 1 rfl
    go_wp2
    go_ret
    exact ⟨HD.out _ ⟨fun h => (by cases h), fun h => by have := h.2.2.1; omega⟩, hb0.trans (hb1.mono hb0.size)⟩
  · have HV := hid hv
    have hd1 := hv.1
    have hd2 := hv.2.1
    clear hv
    go_enter Try.func54, Try.ntmps54
    go_wp2_with fail
    have hk := Blk.new w #[.int .i64 n, .int .i64 d] 26
    have hb0 := HB.out (.cells #[.int .i64 n, .int .i64 d] 26)
    obtain ⟨w0, hw0⟩ : ∃ w0, w.alloc (.cells #[.int .i64 n, .int .i64 d] 26) = w0 := ⟨_, rfl⟩
    rw [hw0] at hk hb0 ⊢
    clear hw0
    refine (Valid_any n d _).mono ?_
    rintro e w1 ⟨rfl, hb1⟩
    rw [decide_eq_true HV.out]
    have c0 := (hk.below hb1).look 0 rfl
    have c1 := (hk.below hb1).look 1 rfl
    go_wp2
    go_ret
    exact ⟨HD.out _ ⟨fun h => (by have := of_decide_eq_true h; omega), fun h => by have := h.2.2.2; omega⟩, hb0.trans (hb1.mono hb0.size)⟩
  · have HV := hid hv
    have hd1 := hv.1
    have hd2 := hv.2.1
    clear hv
    go_enter Try.func54, Try.ntmps54
    go_wp2_with fail
    have hk := Blk.new w #[.int .i64 n, .int .i64 d] 26
    have hb0 := HB.out (.cells #[.int .i64 n, .int .i64 d] 26)
    obtain ⟨w0, hw0⟩ : ∃ w0, w.alloc (.cells #[.int .i64 n, .int .i64 d] 26) = w0 := ⟨_, rfl⟩
    rw [hw0] at hk hb0 ⊢
    clear hw0
    refine (Valid_any n d _).mono ?_
    rintro e w1 ⟨rfl, hb1⟩
    rw [decide_eq_true HV.out]
    have c0 := (hk.below hb1).look 0 rfl
    have c1 := (hk.below hb1).look 1 rfl
    go_wp2
    go_ret
    exact ⟨HD.out _ ⟨fun _ => ⟨HV.out, h1, h2, h3⟩, fun _ => rfl⟩, hb0.trans (hb1.mono hb0.size)⟩

set_option maxHeartbeats 1000000 in
theorem Good_any (p : Pat) (n d : Int) (v : Value) (w : World) (h : PatF 0 w v p) :
    Calls Try.prog 27 #[v, .agg #[.int .i64 n, .int .i64 d]] w fun e w' => e = .returned (.bool (decide (PValid p) && decide (FSize n d))) ∧ Below w.heap.size w w' := by
  have h0 := h
  obtain ⟨s, rfl, _⟩ := h
  have hB : ∀ o1 o2, Below w.heap.size w ((w.alloc o1).alloc o2) := fun o1 o2 => ((Below.refl _ _).alloc (Nat.le_refl _) _).alloc (by simp) _
  have HB := hid hB
  clear hB
  by_cases hp : PValid p
  · rw [decide_eq_true hp]
    have HP := hid hp
    clear hp
    go_enter Try.func27, Try.ntmps27
    go_wp2_with fail
    have hk := Blk.new (w.alloc (.cells #[.int .i64 p.n, s] 24)) #[.int .i64 n, .int .i64 d] 26
    rw [World.size_alloc] at hk
    have hb0 := HB.out (.cells #[.int .i64 p.n, s] 24) (.cells #[.int .i64 n, .int .i64 d] 26)
    obtain ⟨w0, hw0⟩ : ∃ w0, (w.alloc (.cells #[.int .i64 p.n, s] 24)).alloc (.cells #[.int .i64 n, .int .i64 d] 26) = w0 := ⟨_, rfl⟩
    rw [hw0] at hk hb0 ⊢
    clear hw0
    refine (rValid_any p _ _ (h0.below hb0)).mono ?_
    rintro e w1 ⟨rfl, hb1⟩
    rw [decide_eq_true HP.out]
    have c0 := (hk.below hb1).look 0 rfl
    have c1 := (hk.below hb1).look 1 rfl
    go_wp2_with fail
    refine (Size_any n d _).mono ?_
    rintro e w2 ⟨rfl, hb2⟩
    obtain ⟨bb, hbb⟩ : ∃ bb, decide (FSize n d) = bb := ⟨_, rfl⟩
    rw [hbb]
    have HBB := hid hbb
    clear hbb
    go_wp2
    go_ret
    exact ⟨ret_bool (by rw [HBB.out]; simp), (hb0.trans (hb1.mono hb0.size)).trans (hb2.mono (Nat.le_trans hb0.size hb1.size))⟩
  · rw [decide_eq_false hp]
    have HP := hid hp
    clear hp
    go_enter Try.func27, Try.ntmps27
    go_wp2_with fail
    refine (rValid_any p _ _ (h0.below (HB.out _ _))).mono ?_
    rintro e w1 ⟨rfl, hb1⟩
    rw [decide_eq_false HP.out]
    go_wp2
    go_ret
    exact ⟨ret_bool (by simp), (HB.out _ _).trans (hb1.mono (HB.out _ _).size)⟩

/-- The weight of a rule at n/d, times d. -/
def wt (r : Rul) (n d : Int) : Int := r.c * d + r.d * n
theorem prod_bd {x y X Y : Int} (h1 : -X ≤ x) (h2 : x ≤ X) (h3 : 0 ≤ y) (h4 : y ≤ Y) : -(X * Y) ≤ x * y ∧ x * y ≤ X * Y := by
  have hX : 0 ≤ X := by omega
  have a1 : x * y ≤ X * y := Int.mul_le_mul_of_nonneg_right h2 h3
  have a2 : X * y ≤ X * Y := Int.mul_le_mul_of_nonneg_left h4 hX
  have a3 : -X * y ≤ x * y := Int.mul_le_mul_of_nonneg_right h1 h3
  rw [Int.neg_mul] at a3
  omega
theorem wt_bd {m n d : Int} {r : Rul} (hr : RV m r) (hs : FSize n d) : (-10000000 ≤ r.c * d ∧ r.c * d ≤ 10000000) ∧ (-40000000 ≤ r.d * n ∧ r.d * n ≤ 40000000) := by
  have h1 := prod_bd hr.2.2.2.2.1 hr.2.2.2.2.2.1 (show 0 ≤ d by have := hs.1.1; omega) hs.2.2.1
  have h2 := prod_bd hr.2.2.2.2.2.2.1 hr.2.2.2.2.2.2.2 hs.2.1 (show n ≤ 400000 by have := hs.2.2.1; have := hs.2.2.2; omega)
  omega
theorem wt_le {m n d : Int} {r : Rul} (hr : RV m r) (hs : FSize n d) : -50000000 ≤ wt r n d ∧ wt r n d ≤ 50000000 := by
  have := wt_bd hr hs; unfold wt; omega

set_option maxHeartbeats 1000000 in
theorem at_any (m : Int) (r : Rul) (n d : Int) (w : World) (hr : RV m r) (hs : FSize n d) :
    Calls Try.prog 80 #[.agg #[.int .i64 r.a, .int .i64 r.b, .int .i64 r.c, .int .i64 r.d], .agg #[.int .i64 n, .int .i64 d]] w fun e w' => e = .returned (.int .i64 (wt r n d)) ∧ Below w.heap.size w w' := by
  obtain ⟨⟨g1, g2⟩, g3, g4⟩ := wt_bd hr hs
  clear hr hs
  obtain ⟨ra, rb, rc, rd⟩ := r
  dsimp only at g1 g2 g3 g4 ⊢
  go_enter Try.func80, Try.ntmps80
  go_wp2
  go_ret
  exact ⟨rfl, ((Below.refl _ _).alloc (Nat.le_refl _) _).alloc (by simp) _⟩
set_option maxHeartbeats 1000000 in
theorem weight_any (m : Int) (r : Rul) (n d : Int) (w : World) (hr : RV m r) (hs : FSize n d) :
    Calls Try.prog 81 #[.agg #[.int .i64 r.a, .int .i64 r.b, .int .i64 r.c, .int .i64 r.d], .agg #[.int .i64 n, .int .i64 d]] w fun e w' => e = .returned (.int .i64 (wt r n d)) ∧ Below w.heap.size w w' := by
  obtain ⟨⟨g1, g2⟩, g3, g4⟩ := wt_bd hr hs
  clear hr hs
  obtain ⟨ra, rb, rc, rd⟩ := r
  dsimp only at g1 g2 g3 g4 ⊢
  go_enter Try.func81, Try.ntmps81
  go_wp2
  go_ret
  exact ⟨rfl, ((Below.refl _ _).alloc (Nat.le_refl _) _).alloc (by simp) _⟩

end Go.Proofs.Ytmknengmjepdaaa

/- Walks of the statements' of and pattern: a pattern of the program. -/
namespace Go.Proofs.Ytmknengmjepdaaa
open Go.RowKit

/-- wpList_app, where the heap's size is spelled otherwise. -/
theorem wpList_appH {P : Program} {w0 : World} {ops : Array Oper} {rest : List Oper} {o : Oper} {a : Act} {Q : Exit → Act → World → Prop} (hgd : o.guard = none) (s x : Operand) (t : TypeId)
    (ho : o.op = .call { callee := .builtin .append, args := #[s, x], argTypes := #[t, t] })
    (base : Nat) (e : TypeId) (z : Value) (size bytes : Nat) (ht : P.underlying t = some (.slice e)) (hi : (P.info? e).map (fun i => (i.zero, i.size, i.bytes)) = some (some z, size, bytes))
    (hzs : z.cells.size = size) (hsz : 0 < size) (te : TypeId)
    (v : Value) (n : Nat) (xs : List Value) (hs : a.eval s = v) (hown : w0.ownsRow base e size v n xs)
    (news : List Value) (H : Nat) (hH : w0.heap.size = H) (hx : a.eval x = .slice (some ⟨H, 0, none⟩) 1 1) (hl : news.length = size) (h1 : ∀ u ∈ news, u.oneCell' = true)
    (h63 : n + 1 ≤ maxLen) (hbytes : (n + 1) * bytes ≤ 140737488355328) (hbase : base ≤ w0.heap.size)
    (h : ∀ g cap w', w'.ownsRow base e size (.slice (some ⟨g, 0, none⟩) (n + 1) cap) (n + 1) (xs ++ news) → Below base w0 w' → w0.grownBy w' v.ownBlock → base ≤ g → g < w'.heap.size →
      wpList P ops Q rest (a.put o.dst (.slice (some ⟨g, 0, none⟩) (n + 1) cap)) w') :
    wpList P ops Q (o :: rest) a (w0.alloc (.cells news.toArray te)) := by
  subst hH
  exact wpList_app hgd s x t ho base e z size bytes ht hi hzs hsz te v n xs hs hown news hx hl h1 h63 hbytes hbase h

theorem infoRule : (Try.prog.info? 92).map (fun i => (i.zero, i.size, i.bytes)) = some (some (.agg #[.int .i64 0, .int .i64 0, .int .i64 0, .int .i64 0]), 4, 32) := by kernel_rfl
theorem ru_snoc {l : List Rul} {i : Nat} {r : Rul} (h : l[i]? = some r) : ruCells (l.take (i + 1)) = ruCells (l.take i) ++ [.int .i64 r.a, .int .i64 r.b, .int .i64 r.c, .int .i64 r.d] := by
  obtain ⟨hil, he⟩ := List.getElem?_eq_some_iff.1 h
  rw [List.take_succ_eq_append_getElem hil, ruCells_append, he]; rfl

set_option maxHeartbeats 2000000 in
theorem of_any (p : Pat) (v : Value) (w : World) (h : PatF 0 w v p) :
    Calls Try.prog 23 #[v] w fun e w' => ∃ v', e = .returned v' ∧ PatF w.heap.size w' v' ⟨p.n, p.rules.take 71⟩ ∧ Below w.heap.size w w' := by
  obtain ⟨ao, cap, rfl, hcap, hmax, hc⟩ := h.shape
  unfold maxLen at hmax
  clear h
  obtain ⟨L, hL⟩ : ∃ L, p.rules.length = L := ⟨_, rfl⟩
  have HL := hid hL
  rw [hL] at hcap ⊢
  clear hL
  go_enter Try.func23, Try.ntmps23
  go_wp2
  obtain ⟨w0, hw0, k0, k1, k2, hB, hsz⟩ := three_new w #[.int .i64 p.n, .slice ao L cap] #[.int .i64 0, .slice none 0 0] #[.int .i64 p.n, .slice none 0 0] 24 33 33
  rw [hw0]
  clear hw0
  go_loopw [12] (fun x wr => ∃ (i : Nat) (vq : Value), x = .int .i64 i ∧ i ≤ L ∧ i ≤ 71 ∧ Blk wr (w.heap.size + 1 + 1) #[.int .i64 p.n, vq] 33 ∧ Blk wr (w.heap.size + 1) #[.int .i64 0, .slice none 0 0] 33 ∧
    wr.ownsRow (w.heap.size + 1 + 1 + 1) 92 4 vq i (ruCells (p.rules.take i)) ∧ Below w.heap.size w wr ∧ w.heap.size + 1 + 1 + 1 ≤ wr.heap.size) (fun x _ => L - (intOf x).toNat)
  case atStart => exact ⟨0, _, rfl, Nat.zero_le _, by omega, k2, k1, World.ownsRow_nil _ _ _ _, hB, by omega⟩
  case round =>
    obtain ⟨i, vq, rfl, hi, hi2, kq, kr, hown, hbel, hs3⟩ := hrel
    have c0 := kq.look 0 rfl
    have c1 := kq.look 1 rfl
    have f0 := kq.frozen
    have g0 := kr.frozen
    have r0 := kr.look 0 rfl
    have r1 := kr.look 1 rfl
    by_cases hil : i < L ∧ i ≤ 70
    · obtain ⟨h1, h2⟩ := hil
      obtain ⟨r, hr⟩ := ex_rule (l := p.rules) (i := i) (by rw [HL.out]; exact h1)
      obtain ⟨b, off, rfl, hb, d0, d1, d2, d3⟩ := ru_cell hc hr
      have HRR := hid hr
      clear hr
      have e0 := (hbel.cell (p := ⟨b, off + i * 4, none⟩) hb).trans d0
      have e1 := (hbel.cell (p := ⟨b, off + i * 4 + 1, none⟩) hb).trans d1
      have e2 := (hbel.cell (p := ⟨b, off + i * 4 + 2, none⟩) hb).trans d2
      have e3 := (hbel.cell (p := ⟨b, off + i * 4 + 3, none⟩) hb).trans d3
      clear d0 d1 d2 d3
      obtain ⟨ra, rb, rc, rd⟩ := r
      dsimp only at e0 e1 e2 e3
      have hlt : w.heap.size + 1 + 1 < wr.heap.size := by omega
      go_wp2_with (at_builtin; refine wpList_appH rfl (.tmp 20) (.tmp 30) _ rfl (w.heap.size + 1 + 1 + 1) 92 (.agg #[.int .i64 0, .int .i64 0, .int .i64 0, .int .i64 0]) 4 32 Try.underlying31 infoRule rfl (by decide) 92 _ _ _ rfl (hown.alloc _) [.int .i64 ra, .int .i64 rb, .int .i64 rc, .int .i64 rd] (wr.heap.size + 1) (World.size_alloc _ _) rfl rfl (by simp [Value.oneCell']) (by unfold maxLen; omega) (by omega) (by simp; omega) ?_; intro g gcap w2 hown2 hb2 _ _ _; have kq2 := (kq.alloc (.cells #[.int .i64 ra, .int .i64 rb, .int .i64 rc, .int .i64 rd] 46)).below' hb2 (Nat.lt_succ_self _); have kr2 := (kr.alloc (.cells #[.int .i64 ra, .int .i64 rb, .int .i64 rc, .int .i64 rd] 46)).below' hb2 (Nat.lt_succ_of_lt (Nat.lt_succ_self _)); have cc1 := kq2.look 1 rfl; have ff := kq2.frozen)
      have hba : Below w.heap.size w w2 := (hbel.alloc hbel.size (.cells #[.int .i64 ra, .int .i64 rb, .int .i64 rc, .int .i64 rd] 46)).trans (hb2.mono (Nat.le_add_right _ 3))
      have hs4 := hb2.size
      rw [World.size_alloc] at hs4
      go_roundw
      case rel =>
        exact ⟨i + 1, _, by go_num, by omega, by omega, kq2.set 1 _, kr2.other (Nat.ne_of_lt (Nat.lt_succ_self _)) _, ownsRow_setCell_below (by rw [ru_snoc HRR.out]; exact hown2) (Nat.lt_succ_self _) _, hba.setCell (Nat.le_add_right _ 2) _, by simp [World.setCell]; omega⟩
      case measure => simp [intOf]; omega
    · have hsl := SlR.of_owns hown
      obtain ⟨vo, vcap, rfl, hsl'⟩ := hsl
      clear hsl'
      have hfin : ∀ w', Below w.heap.size w w' → w'.ownsRow (w.heap.size + 1 + 1 + 1) 92 4 (.slice vo i vcap) i (ruCells (p.rules.take i)) → i = min 71 L → PatF w.heap.size w' (.agg #[.int .i64 p.n, .slice vo i vcap]) ⟨p.n, p.rules.take 71⟩ := by
        intro w' _ ho hmin
        have e1 : p.rules.take i = p.rules.take 71 := by
          rw [hmin, ← HL.out]
          rcases Nat.le_total 71 p.rules.length with h | h
          · rw [Nat.min_eq_left h]
          · rw [Nat.min_eq_right h, List.take_length, List.take_of_length_le h]
        have e2 : (p.rules.take 71).length = i := by rw [List.length_take, HL.out, hmin]
        refine ⟨_, rfl, ?_⟩
        dsimp only
        rw [e2, ← e1]
        exact (SlR.of_owns ho).mono (Nat.le_add_right _ 3)
      have HF := hid hfin
      clear hfin
      have hcs : i = L ∨ (i = 71 ∧ i < L) := by omega
      rcases hcs with h1 | ⟨h1, h2⟩
      · subst h1
        go_wp2
        refine bodyPost_ret (v := .agg #[.int .i64 p.n, .slice vo i vcap]) (by simp [results, Try.results23, go_sem, r0, r1]) rfl ⟨_, rfl, ?_, (hbel.setCell (Nat.le_add_right _ 1) _).setCell (Nat.le_add_right _ 1) _⟩
        exact HF.out _ ((hbel.setCell (Nat.le_add_right _ 1) _).setCell (Nat.le_add_right _ 1) _) (ownsRow_setCell_below (ownsRow_setCell_below hown (Nat.lt_succ_of_lt (Nat.lt_succ_self _)) _) (Nat.lt_succ_of_lt (Nat.lt_succ_self _)) _) (by omega)
      · obtain ⟨r, hr⟩ := ex_rule (l := p.rules) (i := i) (by rw [HL.out]; exact h2)
        obtain ⟨b, off, rfl, hb, d0, d1, d2, d3⟩ := ru_cell hc hr
        clear hr
        have e0 := (hbel.cell (p := ⟨b, off + i * 4, none⟩) hb).trans d0
        have e1 := (hbel.cell (p := ⟨b, off + i * 4 + 1, none⟩) hb).trans d1
        have e2 := (hbel.cell (p := ⟨b, off + i * 4 + 2, none⟩) hb).trans d2
        have e3 := (hbel.cell (p := ⟨b, off + i * 4 + 3, none⟩) hb).trans d3
        clear d0 d1 d2 d3
        obtain ⟨ra, rb, rc, rd⟩ := r
        dsimp only at e0 e1 e2 e3
        have hlt : w.heap.size + 1 + 1 < wr.heap.size := by omega
        have hlt2 : w.heap.size + 1 < wr.heap.size := by omega
        have h1' : 70 < i := by omega
        have hmin : i = min 71 L := by omega
        have HM := hid hmin
        clear h1 hmin hil
        go_wp2
        have hX := ((kr.set 0 (.int .i64 p.n)).set 1 (.slice vo i vcap)).alloc (.cells #[.int .i64 ra, .int .i64 rb, .int .i64 rc, .int .i64 rd] 46)
        have x0 := hX.cell 0
        have x1 := hX.cell 1
        simp only [Array.getElem?_setIfInBounds] at x0 x1
        have hbf : Below w.heap.size w (((wr.setCell ⟨w.heap.size + 1, 0, none⟩ (.int .i64 p.n)).setCell ⟨w.heap.size + 1, 1, none⟩ (.slice vo i vcap)).alloc (.cells #[.int .i64 ra, .int .i64 rb, .int .i64 rc, .int .i64 rd] 46)) := ((hbel.setCell (Nat.le_add_right _ 1) _).setCell (Nat.le_add_right _ 1) _).alloc (by simp [World.setCell]; omega) _
        refine bodyPost_ret (v := .agg #[.int .i64 p.n, .slice vo i vcap]) (by simp [results, Try.results23, go_sem, x0, x1]) rfl ⟨_, rfl, ?_, hbf⟩
        exact HF.out _ hbf ((ownsRow_setCell_below (ownsRow_setCell_below hown (Nat.lt_succ_of_lt (Nat.lt_succ_self _)) _) (Nat.lt_succ_of_lt (Nat.lt_succ_self _)) _).alloc _) HM.out

end Go.Proofs.Ytmknengmjepdaaa

/- Walks of trankref04.All: the rules of a pattern and its ground rules, with their numbers. -/
namespace Go.Proofs.Ytmknengmjepdaaa
open Go.RowKit

/-- The cells of whole numbers. -/
def intCells (l : List Int) : List Value := l.map fun z => .int .i64 z
def IntsR (lo : Nat) (w : World) (v : Value) (l : List Int) : Prop := SlR lo w v l.length (intCells l)
def RusR (lo : Nat) (w : World) (v : Value) (l : List Rul) : Prop := SlR lo w v l.length (ruCells l)
theorem intCells_len (l : List Int) : (intCells l).length = l.length := by unfold intCells; exact List.length_map _
theorem intCells_append (a b : List Int) : intCells (a ++ b) = intCells a ++ intCells b := by unfold intCells; exact List.map_append
theorem int_cell {lo : Nat} {w : World} {ao : Option Addr} {l : List Int} (h : CellsOf lo w ao (intCells l)) {i : Nat} {z : Int} (hi : l[i]? = some z) :
    ∃ b off, ao = some ⟨b, off, none⟩ ∧ b < w.heap.size ∧ w.cell? ⟨b, off + i, none⟩ = some (.int .i64 z) := by
  have hil := (List.getElem?_eq_some_iff.1 hi).1
  obtain ⟨b, off, h1, _, h2, h3⟩ := h (by intro h0; have := congrArg List.length h0; rw [intCells_len, List.length_nil] at this; omega)
  refine ⟨b, off, h1, h2, ?_⟩
  rw [h3 i (by rw [intCells_len]; exact hil)]
  simp [intCells, List.getD_eq_getElem?_getD, List.getElem?_map, hi]

/-- The ground rule of i. -/
def ground (i : Nat) : Rul := ⟨i, 0, 0, 0⟩
/-- All rules of a pattern. -/
def ext (p : Pat) : List Rul := p.rules ++ (List.range (p.n.toNat - 1)).map fun i => ground (i + 1)
/-- Their numbers. -/
def nums (p : Pat) : List Int := (List.range p.rules.length).map (fun (k : Nat) => (k : Int)) ++ (List.range (p.n.toNat - 1)).map fun i => -((i + 1 : Nat) : Int)

theorem own_ne {w : World} {b1 b2 : Nat} {e1 e2 : TypeId} {s1 s2 : Nat} {v1 v2 : Value} {n1 n2 : Nat} {x1 x2 : List Value} (h1 : w.ownsRow b1 e1 s1 v1 n1 x1) (h2 : w.ownsRow b2 e2 s2 v2 n2 x2) (he : e1 ≠ e2) : v1.ownBlock = none ∨ v1.ownBlock ≠ v2.ownBlock := by
  obtain ⟨_, ⟨rfl, _⟩ | ⟨g, cap, cur, rfl, _, hh, _⟩⟩ := h1
  · exact .inl rfl
  · right
    obtain ⟨_, ⟨rfl, _⟩ | ⟨g', cap', cur', rfl, _, hh', _⟩⟩ := h2
    · intro h; cases h
    · intro h
      simp only [Value.ownBlock, Option.some.injEq] at h
      subst h
      rw [hh] at hh'
      simp at hh'
      exact he hh'.2
theorem infoRRule : (Try.prog.info? 46).map (fun i => (i.zero, i.size, i.bytes)) = some (some (.agg #[.int .i64 0, .int .i64 0, .int .i64 0, .int .i64 0]), 4, 32) := by kernel_rfl
theorem infoInt : (Try.prog.info? 3).map (fun i => (i.zero, i.size, i.bytes)) = some (some (.int .i64 0), 1, 8) := by kernel_rfl
theorem range_snoc {α : Type} (f : Nat → α) (i : Nat) : (List.range (i + 1)).map f = (List.range i).map f ++ [f i] := by rw [List.range_succ, List.map_append]; rfl

set_option maxHeartbeats 2000000 in
theorem All4_any (p : Pat) (v : Value) (w : World) (h : PatF 0 w v p) (hp1 : 1 ≤ p.n) (hp2 : p.n ≤ 16) (hp3 : p.rules.length ≤ 64) :
    Calls Try.prog 79 #[v] w fun e w' => ∃ v1 v2, e = .returned (.tuple #[v1, v2]) ∧ RusR w.heap.size w' v1 (ext p) ∧ IntsR w.heap.size w' v2 (nums p) ∧ Below w.heap.size w w' := by
  obtain ⟨ao, cap, rfl, hcap, hmax, hc⟩ := h.shape
  unfold maxLen at hmax
  clear h
  obtain ⟨N, hN⟩ : ∃ N : Nat, p.n = N := ⟨p.n.toNat, by omega⟩
  obtain ⟨L, hL⟩ : ∃ L, p.rules.length = L := ⟨_, rfl⟩
  have HL := hid hL
  have HN := hid hN
  rw [hL] at hcap hp3 ⊢
  rw [hN] at hp1 hp2 ⊢
  clear hL hN
  go_enter Try.func79, Try.ntmps79
  go_wp2
  have k0 := Blk.new w #[.int .i64 (N : Int), .slice ao L cap] 24
  have hB : Below w.heap.size w (w.alloc (.cells #[.int .i64 (N : Int), .slice ao L cap] 24)) := (Below.refl _ _).alloc (Nat.le_refl _) _
  obtain ⟨w0, hw0⟩ : ∃ w0, w.alloc (.cells #[.int .i64 (N : Int), .slice ao L cap] 24) = w0 := ⟨_, rfl⟩
  rw [hw0] at k0 hB ⊢
  clear hw0
  go_loopw [4, 5, 12] (fun x y z wr => ∃ i : Nat, z = .int .i64 i ∧ i ≤ L ∧ wr.ownsRow (w.heap.size + 1) 46 4 x i (ruCells (p.rules.take i)) ∧ wr.ownsRow (w.heap.size + 1) 3 1 y i (intCells ((List.range i).map fun (k : Nat) => (k : Int))) ∧
    Blk wr w.heap.size #[.int .i64 (N : Int), .slice ao L cap] 24 ∧ Below w.heap.size w wr) (fun _ _ z _ => L - (intOf z).toNat)
  case atStart => exact ⟨0, rfl, Nat.zero_le _, World.ownsRow_nil _ _ _ _, World.ownsRow_nil _ _ _ _, k0, hB⟩
  case round =>
    obtain ⟨i, rfl, hi, ho1, ho2, kp, hbel⟩ := hrel
    have c0 := kp.look 0 rfl
    have hlt := kp.lt
    by_cases hil : i < L
    · obtain ⟨r, hr⟩ := ex_rule (l := p.rules) (i := i) (by rw [HL.out]; exact hil)
      obtain ⟨b, off, rfl, hb, d0, d1, d2, d3⟩ := ru_cell hc hr
      have HRR := hid hr
      clear hr
      have e0 := (hbel.cell (p := ⟨b, off + i * 4, none⟩) hb).trans d0
      have e1 := (hbel.cell (p := ⟨b, off + i * 4 + 1, none⟩) hb).trans d1
      have e2 := (hbel.cell (p := ⟨b, off + i * 4 + 2, none⟩) hb).trans d2
      have e3 := (hbel.cell (p := ⟨b, off + i * 4 + 3, none⟩) hb).trans d3
      clear d0 d1 d2 d3
      obtain ⟨ra, rb, rc, rd⟩ := r
      dsimp only at e0 e1 e2 e3
      go_wp2_with (first
        | (at_builtin; refine wpList_appH rfl (.tmp 17) (.tmp 19) _ rfl (w.heap.size + 1) 46 (.agg #[.int .i64 0, .int .i64 0, .int .i64 0, .int .i64 0]) 4 32 Try.underlying22 infoRRule rfl (by decide) 46 _ _ _ rfl (ho1.alloc _) [.int .i64 ra, .int .i64 rb, .int .i64 rc, .int .i64 rd] (wr.heap.size + 1) (World.size_alloc _ _) rfl rfl (by simp [Value.oneCell']) (by unfold maxLen; omega) (by omega) (by simp; omega) ?_; intro g gcap w2 ho1' hb2 hgr _ _; have ho2' := (ho2.alloc (.cells #[.int .i64 ra, .int .i64 rb, .int .i64 rc, .int .i64 rd] 46)).kept hgr (own_ne ho2 ho1 (by decide)); have hb2' : Below (w.heap.size + 1) wr w2 := ((Below.refl (w.heap.size + 1) wr).alloc hlt _).trans hb2; have hs2 := hb2'.size)
        | (at_builtin; refine wpList_app rfl (.tmp 21) (.tmp 23) _ rfl (w.heap.size + 1) 3 (.int .i64 0) 1 8 Try.underlying49 infoInt rfl (by decide) 3 _ _ _ rfl ho2' [.int .i64 (i : Int)] rfl rfl (by simp [Value.oneCell']) (by unfold maxLen; omega) (by omega) (by omega) ?_; intro g3 g3cap w3 ho2'' hb3 hgr3 _ _; have ho1'' := ho1'.kept hgr3 (own_ne ho1' ho2' (by decide)); have hb3' := hb2'.trans hb3))
      go_roundw
      case rel => exact ⟨i + 1, by go_num, by omega, by rw [ru_snoc HRR.out]; exact ho1'', by rw [range_snoc, intCells_append]; exact ho2'', kp.below' hb3' (Nat.lt_succ_self _), hbel.trans (hb3'.mono (Nat.le_succ _))⟩
      case measure => simp [intOf]; omega
    · obtain rfl : i = L := by omega
      obtain ⟨wq, rfl⟩ : ∃ wq : World, wq = wr := ⟨_, rfl⟩
      have hrt : p.rules.take i = p.rules := by rw [← HL.out, List.take_length]
      rw [hrt] at ho1
      clear hrt
      go_wp2
      go_loopw [4, 5, 8] (fun x y z wr => ∃ j : Nat, z = .int .i64 ((j : Int) + 1) ∧ j + 1 ≤ N ∧ wr.ownsRow (w.heap.size + 1) 46 4 x (i + j) (ruCells (p.rules ++ (List.range j).map fun (i : Nat) => ground (i + 1))) ∧
        wr.ownsRow (w.heap.size + 1) 3 1 y (i + j) (intCells ((List.range i).map (fun (k : Nat) => (k : Int)) ++ (List.range j).map fun (i : Nat) => -((i + 1 : Nat) : Int))) ∧
        Blk wr w.heap.size #[.int .i64 (N : Int), .slice ao i cap] 24 ∧ Below w.heap.size w wr) (fun _ _ z _ => N - (intOf z).toNat)
      case atStart => exact ⟨0, rfl, by omega, by simpa using ho1, by simpa using ho2, kp, hbel⟩
      case round =>
        obtain ⟨j, rfl, hj, hp1', hp2', kp', hbel'⟩ := hrel
        have c0' := kp'.look 0 rfl
        have hlt' := kp'.lt
        by_cases hjl : j + 1 < N
        · go_wp2_with (first
            | (at_builtin; refine wpList_app rfl (.tmp 32) (.tmp 35) _ rfl (w.heap.size + 1) 46 (.agg #[.int .i64 0, .int .i64 0, .int .i64 0, .int .i64 0]) 4 32 Try.underlying22 infoRRule rfl (by decide) 46 _ _ _ rfl hp1' [.int .i64 ((j : Int) + 1), .int .i64 0, .int .i64 0, .int .i64 0] rfl rfl (by simp [Value.oneCell']) (by unfold maxLen; omega) (by omega) (by omega) ?_; intro g gcap w2 ho1' hb2 hgr _ _; have ho2' := hp2'.kept hgr (own_ne hp2' hp1' (by decide)); have hs2 := hb2.size)
            | (at_builtin; refine wpList_app rfl (.tmp 37) (.tmp 40) _ rfl (w.heap.size + 1) 3 (.int .i64 0) 1 8 Try.underlying49 infoInt rfl (by decide) 3 _ _ _ rfl ho2' [.int .i64 (-((j : Int) + 1))] rfl rfl (by simp [Value.oneCell']) (by unfold maxLen; omega) (by omega) (by omega) ?_; intro g3 g3cap w3 ho2'' hb3 hgr3 _ _; have ho1'' := ho1'.kept hgr3 (own_ne ho1' ho2' (by decide)); have hb3' := hb2.trans hb3))
          go_roundw
          case rel =>
            refine ⟨j + 1, by go_num, by omega, ?_, ?_, kp'.below' hb3' (Nat.lt_succ_self _), hbel'.trans (hb3'.mono (Nat.le_succ _))⟩
            · rw [range_snoc, ← List.append_assoc, ruCells_append]; exact ho1''
            · rw [range_snoc, ← List.append_assoc, intCells_append]; exact ho2''
          case measure => simp [intOf]; omega
        · obtain rfl : N = j + 1 := by omega
          have e1 : ext p = p.rules ++ (List.range j).map fun (i : Nat) => ground (i + 1) := by
            unfold ext; rw [HN.out]; rfl
          have e2 : nums p = (List.range i).map (fun (k : Nat) => (k : Int)) ++ (List.range j).map fun (i : Nat) => -((i + 1 : Nat) : Int) := by
            unfold nums; rw [HN.out, HL.out]; rfl
          have E1 := hid e1
          have E2 := hid e2
          clear e1 e2
          go_wp2
          go_ret2
          refine ⟨_, _, rfl, ?_, ?_, hbel'⟩
          · unfold RusR
            rw [E1.out, List.length_append, List.length_map, List.length_range, HL.out]
            exact (SlR.of_owns hp1').mono (Nat.le_succ _)
          · unfold IntsR
            rw [E2.out, List.length_append, List.length_map, List.length_range, List.length_map, List.length_range]
            exact (SlR.of_owns hp2').mono (Nat.le_succ _)

end Go.Proofs.Ytmknengmjepdaaa
