/- Patterns: their reading; walks of grade.Valid and trankref04.Valid. -/
import Derived.Test.YtmknengmjepdaaaFc
namespace Go.Proofs.Ytmknengmjepdaaa
open Go.RowKit

/-- A rule. -/
structure Rul where
  a : Int
  b : Int
  c : Int
  d : Int
/-- A pattern. -/
structure Pat where
  n : Int
  rules : List Rul
/-- A rule of a pattern of n unknowns. -/
def RV (n : Int) (r : Rul) : Prop := 0 ≤ r.a ∧ r.a < n ∧ 0 ≤ r.b ∧ r.b < n ∧ -1000 ≤ r.c ∧ r.c ≤ 1000 ∧ -100 ≤ r.d ∧ r.d ≤ 100
/-- A valid pattern. -/
def PValid (p : Pat) : Prop := 1 ≤ p.n ∧ p.n ≤ 16 ∧ p.rules.length ≤ 64 ∧ ∀ r ∈ p.rules, RV p.n r
instance (n : Int) (r : Rul) : Decidable (RV n r) := inferInstanceAs (Decidable (_ ∧ _))
instance (p : Pat) : Decidable (PValid p) := inferInstanceAs (Decidable (_ ∧ _))

/-- The cells of rules. -/
def ruCells (l : List Rul) : List Value := l.flatMap fun r => [.int .i64 r.a, .int .i64 r.b, .int .i64 r.c, .int .i64 r.d]
theorem ruCells_len (l : List Rul) : (ruCells l).length = l.length * 4 := by
  induction l with
  | nil => rfl
  | cons x xs ih => simp only [ruCells, List.flatMap_cons, List.length_append, List.length_cons, List.length_nil] at *; omega
theorem ruCells_append (a b : List Rul) : ruCells (a ++ b) = ruCells a ++ ruCells b := by unfold ruCells; exact List.flatMap_append
theorem ruCells_get (l : List Rul) (i : Nat) (r : Rul) (h : l[i]? = some r) : (ruCells l).getD (i * 4) undef = .int .i64 r.a ∧ (ruCells l).getD (i * 4 + 1) undef = .int .i64 r.b ∧ (ruCells l).getD (i * 4 + 2) undef = .int .i64 r.c ∧ (ruCells l).getD (i * 4 + 3) undef = .int .i64 r.d := by
  induction l generalizing i with
  | nil => simp at h
  | cons x xs ih =>
    cases i with
    | zero => simp at h; subst h; simp [ruCells]
    | succ i =>
      have := ih i (by simpa using h)
      rw [show (i + 1) * 4 = i * 4 + 1 + 1 + 1 + 1 by omega]
      simpa [ruCells] using this
/-- A pattern's value. -/
def PatF (lo : Nat) (w : World) (v : Value) (p : Pat) : Prop := ∃ s, v = .agg #[.int .i64 p.n, s] ∧ SlR lo w s p.rules.length (ruCells p.rules)
theorem PatF.below {lo : Nat} {w w' : World} {v : Value} {p : Pat} (h : PatF lo w v p) (hb : Below w.heap.size w w') : PatF lo w' v p := by
  obtain ⟨s, h1, h2⟩ := h
  exact ⟨s, h1, h2.below hb⟩
theorem PatF.mono {lo lo' : Nat} {w : World} {v : Value} {p : Pat} (h : PatF lo w v p) (hl : lo' ≤ lo) : PatF lo' w v p := by
  obtain ⟨s, h1, h2⟩ := h
  exact ⟨s, h1, h2.mono hl⟩
theorem PatF.setCell {lo : Nat} {w : World} {v : Value} {p : Pat} (h : PatF lo w v p) {q : Addr} (hq : q.block < lo) (u : Value) : PatF lo (w.setCell q u) v p := by
  obtain ⟨s, h1, h2⟩ := h
  exact ⟨s, h1, h2.setCell hq u⟩
theorem PatF.shape {lo : Nat} {w : World} {v : Value} {p : Pat} (h : PatF lo w v p) : ∃ ao cap, v = .agg #[.int .i64 p.n, .slice ao p.rules.length cap] ∧ p.rules.length ≤ cap ∧ cap ≤ maxLen ∧ CellsOf lo w ao (ruCells p.rules) := by
  obtain ⟨s, h1, ao, cap, h2, h3⟩ := h
  exact ⟨ao, cap, by rw [h1, h2], h3⟩
theorem ru_cell {lo : Nat} {w : World} {ao : Option Addr} {l : List Rul} (h : CellsOf lo w ao (ruCells l)) {i : Nat} {r : Rul} (hi : l[i]? = some r) :
    ∃ b off, ao = some ⟨b, off, none⟩ ∧ b < w.heap.size ∧ w.cell? ⟨b, off + i * 4, none⟩ = some (.int .i64 r.a) ∧ w.cell? ⟨b, off + i * 4 + 1, none⟩ = some (.int .i64 r.b) ∧ w.cell? ⟨b, off + i * 4 + 2, none⟩ = some (.int .i64 r.c) ∧ w.cell? ⟨b, off + i * 4 + 3, none⟩ = some (.int .i64 r.d) := by
  have hl := ruCells_len l
  have hil := (List.getElem?_eq_some_iff.1 hi).1
  obtain ⟨b, off, h1, _, h2, h3⟩ := h (by intro h0; rw [h0, List.length_nil] at hl; omega)
  obtain ⟨g1, g2, g3, g4⟩ := ruCells_get l i r hi
  refine ⟨b, off, h1, h2, ?_, ?_, ?_, ?_⟩
  · rw [h3 (i * 4) (by omega), g1]
  · rw [Nat.add_assoc, h3 (i * 4 + 1) (by omega), g2]
  · rw [Nat.add_assoc, h3 (i * 4 + 2) (by omega), g3]
  · rw [Nat.add_assoc, h3 (i * 4 + 3) (by omega), g4]
theorem ex_rule {l : List Rul} {i : Nat} (h : i < l.length) : ∃ r, l[i]? = some r := ⟨l[i], List.getElem?_eq_getElem h⟩
theorem take_rule {l : List Rul} {i : Nat} {r : Rul} (hi : l[i]? = some r) {P : Rul → Prop} (h : ∀ x ∈ l.take i, P x) (hr : P r) : ∀ x ∈ l.take (i + 1), P x := by
  intro x hx
  obtain ⟨hil, he⟩ := List.getElem?_eq_some_iff.1 hi
  rw [List.take_succ_eq_append_getElem hil] at hx
  rcases List.mem_append.1 hx with hx | hx
  · exact h x hx
  · have : x = l[i] := by simpa using hx
    rw [this, he]; exact hr
theorem rule_mem {l : List Rul} {i : Nat} {r : Rul} (hi : l[i]? = some r) : r ∈ l := List.mem_of_getElem? hi
/-- The first condition of a rule that fails. -/
theorem rv_cases (n : Int) (a b c d : Int) (h : ¬ RV n ⟨a, b, c, d⟩) : a < 0 ∨ (0 ≤ a ∧ n ≤ a) ∨ (0 ≤ a ∧ a < n ∧ b < 0) ∨ (0 ≤ a ∧ a < n ∧ 0 ≤ b ∧ n ≤ b) ∨ (0 ≤ a ∧ a < n ∧ 0 ≤ b ∧ b < n ∧ c < -1000) ∨ (0 ≤ a ∧ a < n ∧ 0 ≤ b ∧ b < n ∧ -1000 ≤ c ∧ 1000 < c) ∨
    (0 ≤ a ∧ a < n ∧ 0 ≤ b ∧ b < n ∧ -1000 ≤ c ∧ c ≤ 1000 ∧ d < -100) ∨ (0 ≤ a ∧ a < n ∧ 0 ≤ b ∧ b < n ∧ -1000 ≤ c ∧ c ≤ 1000 ∧ -100 ≤ d ∧ 100 < d) := by
  unfold RV at h
  dsimp only at h
  omega

set_option maxHeartbeats 4000000 in
theorem rValid_any (p : Pat) (v : Value) (w : World) (h : PatF 0 w v p) :
    Calls Try.prog 66 #[v] w fun e w' => e = .returned (.bool (decide (PValid p))) ∧ Below w.heap.size w w' := by
  obtain ⟨ao, cap, rfl, hcap, hmax, hc⟩ := h.shape
  unfold maxLen at hmax
  clear h
  obtain ⟨L, hL⟩ : ∃ L, p.rules.length = L := ⟨_, rfl⟩
  obtain ⟨n, hn⟩ : ∃ n, p.n = n := ⟨_, rfl⟩
  have HL := hid hL
  have HN := hid hn
  rw [hL] at hcap ⊢
  rw [hn]
  have hB : ∀ o, Below w.heap.size w (w.alloc o) := fun o => (Below.refl _ _).alloc (Nat.le_refl _) _
  have HB := hid hB
  clear hL hn hB
  by_cases h0 : 1 ≤ n ∧ n ≤ 16 ∧ L ≤ 64
  · obtain ⟨h1, h2, h3⟩ := h0
    obtain ⟨res, hres⟩ : ∃ b, decide (PValid p) = b := ⟨_, rfl⟩
    rw [hres]
    have HR := hid hres
    clear hres
    go_enter Try.func66, Try.ntmps66
    go_wp2
    have hk := Blk.new w #[.int .i64 n, .slice ao L cap] 24
    have hbw := HB.out (.cells #[.int .i64 n, .slice ao L cap] 24)
    obtain ⟨w0, hw0⟩ : ∃ w0, w.alloc (.cells #[.int .i64 n, .slice ao L cap] 24) = w0 := ⟨_, rfl⟩
    rw [hw0] at hk hbw ⊢
    clear hw0
    go_loopw [22] (fun x wr => ∃ i : Nat, x = .int .i64 i ∧ i ≤ L ∧ (∀ r ∈ p.rules.take i, RV n r) ∧ Below w0.heap.size w0 wr) (fun x _ => L - (intOf x).toNat)
    case atStart => exact ⟨0, rfl, Nat.zero_le _, by simp, Below.refl _ _⟩
    case round =>
      obtain ⟨i, rfl, hi, hall, hbel⟩ := hrel
      have HA := hid hall
      clear hall
      have hbw2 := hbw.trans (hbel.mono hbw.size)
      have c0 := (hk.below hbel).look 0 rfl
      have hsz := hbel.size
      have hlt := (hk.below hbel).lt
      by_cases hil : i < L
      · obtain ⟨r, hr⟩ := ex_rule (l := p.rules) (i := i) (by rw [HL.out]; exact hil)
        obtain ⟨b, off, rfl, hb, d0, d1, d2, d3⟩ := ru_cell hc hr
        have HRR := hid hr
        clear hr
        have e0 := (hbw2.cell (p := ⟨b, off + i * 4, none⟩) hb).trans d0
        have e1 := (hbw2.cell (p := ⟨b, off + i * 4 + 1, none⟩) hb).trans d1
        have e2 := (hbw2.cell (p := ⟨b, off + i * 4 + 2, none⟩) hb).trans d2
        have e3 := (hbw2.cell (p := ⟨b, off + i * 4 + 3, none⟩) hb).trans d3
        clear d0 d1 d2 d3
        obtain ⟨ra, rb, rc, rd⟩ := r
        dsimp only at e0 e1 e2 e3
        by_cases hv : RV n ⟨ra, rb, rc, rd⟩
        · have HV := hid hv
          obtain ⟨g1, g2, g3, g4, g5, g6, g7, g8⟩ := hv
          dsimp only at g1 g2 g3 g4 g5 g6 g7 g8
          go_wp2
          go_roundw
          case rel => exact ⟨i + 1, by go_num, by omega, take_rule HRR.out HA.out HV.out, hbel.alloc hsz _⟩
          case measure => simp [intOf]; omega
        · have HV := hid hv
          have hcs := rv_cases n ra rb rc rd hv
          clear hv
          have hfalse : false = res := by
            rw [← HR.out]; symm
            rw [decide_eq_false_iff_not]
            intro hh
            have := hh.2.2.2 _ (rule_mem HRR.out)
            rw [HN.out] at this
            exact HV.out this
          have HFL := hid hfalse
          clear hfalse
          rcases hcs with g1 | ⟨g1, g2⟩ | ⟨g1, g2, g3⟩ | ⟨g1, g2, g3, g4⟩ | ⟨g1, g2, g3, g4, g5⟩ | ⟨g1, g2, g3, g4, g5, g6⟩ | ⟨g1, g2, g3, g4, g5, g6, g7⟩ | ⟨g1, g2, g3, g4, g5, g6, g7, g8⟩
          all_goals
            go_wp2
            go_ret
            exact ⟨ret_bool HFL.out, hbw2.alloc (by omega) _⟩
      · obtain rfl : i = L := by omega
        go_wp2
        go_ret
        refine ⟨ret_bool ?_, hbw2⟩
        rw [← HR.out]; symm
        rw [decide_eq_true_eq]
        refine ⟨by rw [HN.out]; exact h1, by rw [HN.out]; exact h2, by rw [HL.out]; exact h3, ?_⟩
        have := HA.out
        rw [← HL.out, List.take_length, ← HN.out] at this
        exact this
  · have hres : decide (PValid p) = false := by
      rw [decide_eq_false_iff_not]
      intro hh
      apply h0
      rw [← HN.out, ← HL.out]
      exact ⟨hh.1, hh.2.1, hh.2.2.1⟩
    rw [hres]
    clear hres
    have hcs : n < 1 ∨ (1 ≤ n ∧ 16 < n) ∨ (1 ≤ n ∧ n ≤ 16 ∧ 64 < L) := by omega
    clear h0
    rcases hcs with h1 | ⟨h1, h2⟩ | ⟨h1, h2, h3⟩
    all_goals
      go_enter Try.func66, Try.ntmps66
      go_wp2
      go_ret
      exact ⟨rfl, HB.out _⟩

end Go.Proofs.Ytmknengmjepdaaa
