/- Several of my texts in one: Ca, Cb. -/
import Derived.Test.YtfkclcoipadhmaaGreatDoorQj
/- Curves plainly: points of rationals, slopes, normal form, values, rising lists. -/
namespace Go.Proofs.YtfkclcoipadhmaaGreatDoor
open Go.RowKit

/-- A point of a curve. -/
abbrev Pt := Rat × Rat
/-- The cells of a fraction in lowest terms, and of a point. -/
def frC (q : Rat) : List Value := [.int .i64 q.num, .int .i64 (q.den : Int)]
def ptC (p : Pt) : List Value := [.int .i64 p.1.num, .int .i64 (p.1.den : Int), .int .i64 p.2.num, .int .i64 (p.2.den : Int)]
def frsC (l : List Rat) : List Value := l.flatMap frC
def ptsC (l : List Pt) : List Value := l.flatMap ptC
/-- Slices of fractions and of points, read from the blocks from lo on. -/
def QsR (lo : Nat) (w : World) (v : Value) (l : List Rat) : Prop := SlR lo w v l.length (frsC l)
def PsR (lo : Nat) (w : World) (v : Value) (l : List Pt) : Prop := SlR lo w v l.length (ptsC l)
theorem QsR.below {lo : Nat} {w w' : World} {v : Value} {l : List Rat} (h : QsR lo w v l) (hb : Below w.heap.size w w') : QsR lo w' v l := SlR.below h hb
theorem PsR.below {lo : Nat} {w w' : World} {v : Value} {l : List Pt} (h : PsR lo w v l) (hb : Below w.heap.size w w') : PsR lo w' v l := SlR.below h hb
theorem QsR.mono {lo lo' : Nat} {w : World} {v : Value} {l : List Rat} (h : QsR lo w v l) (hl : lo' ≤ lo) : QsR lo' w v l := SlR.mono h hl
theorem PsR.mono {lo lo' : Nat} {w : World} {v : Value} {l : List Pt} (h : PsR lo w v l) (hl : lo' ≤ lo) : PsR lo' w v l := SlR.mono h hl
theorem frsC_append (a b : List Rat) : frsC (a ++ b) = frsC a ++ frsC b := by unfold frsC; exact List.flatMap_append
theorem ptsC_append (a b : List Pt) : ptsC (a ++ b) = ptsC a ++ ptsC b := by unfold ptsC; exact List.flatMap_append
theorem frsC_len (l : List Rat) : (frsC l).length = l.length * 2 := by
  induction l with
  | nil => rfl
  | cons a l ih => show ([_, _] ++ frsC l).length = _; rw [List.length_append, ih]; simp; omega
theorem ptsC_len (l : List Pt) : (ptsC l).length = l.length * 4 := by
  induction l with
  | nil => rfl
  | cons a l ih => show ([_, _, _, _] ++ ptsC l).length = _; rw [List.length_append, ih]; simp; omega
theorem frsC_get : ∀ (l : List Rat) (i : Nat), i < l.length → (frsC l).getD (i * 2) undef = .int .i64 (l.getD i 0).num ∧ (frsC l).getD (i * 2 + 1) undef = .int .i64 ((l.getD i 0).den : Int)
  | [], i, h => by cases h
  | a :: l, 0, _ => ⟨rfl, rfl⟩
  | a :: l, i + 1, h => by
    have := frsC_get l i (by simpa using h)
    have e1 : (i + 1) * 2 = i * 2 + 1 + 1 := by omega
    have e2 : (i + 1) * 2 + 1 = i * 2 + 1 + 1 + 1 := by omega
    rw [e2, e1]
    exact this
theorem ptsC_get : ∀ (l : List Pt) (i : Nat), i < l.length → (ptsC l).getD (i * 4) undef = .int .i64 (l.getD i (0, 0)).1.num ∧ (ptsC l).getD (i * 4 + 1) undef = .int .i64 ((l.getD i (0, 0)).1.den : Int) ∧
    (ptsC l).getD (i * 4 + 2) undef = .int .i64 (l.getD i (0, 0)).2.num ∧ (ptsC l).getD (i * 4 + 3) undef = .int .i64 ((l.getD i (0, 0)).2.den : Int)
  | [], i, h => by cases h
  | a :: l, 0, _ => ⟨rfl, rfl, rfl, rfl⟩
  | a :: l, i + 1, h => by
    have := ptsC_get l i (by simpa using h)
    have e1 : (i + 1) * 4 = i * 4 + 1 + 1 + 1 + 1 := by omega
    have e2 : (i + 1) * 4 + 1 = i * 4 + 1 + 1 + 1 + 1 + 1 := by omega
    have e3 : (i + 1) * 4 + 2 = i * 4 + 2 + 1 + 1 + 1 + 1 := by omega
    have e4 : (i + 1) * 4 + 3 = i * 4 + 3 + 1 + 1 + 1 + 1 := by omega
    rw [e2, e3, e4, e1]
    exact this
theorem q_cell {lo : Nat} {w : World} {ao : Option Addr} {l : List Rat} (h : CellsOf lo w ao (frsC l)) {i : Nat} (hi : i < l.length) :
    ∃ b off, ao = some ⟨b, off, none⟩ ∧ b < w.heap.size ∧ w.cell? ⟨b, off + i * 2, none⟩ = some (.int .i64 (l.getD i 0).num) ∧ w.cell? ⟨b, off + i * 2 + 1, none⟩ = some (.int .i64 ((l.getD i 0).den : Int)) := by
  have hne : frsC l ≠ [] := by
    intro he
    have := frsC_len l
    rw [he] at this
    simp at this
    omega
  obtain ⟨b, off, hao, -, hb, hx⟩ := h hne
  have hl := frsC_len l
  have h0 := hx (i * 2) (by omega)
  have h1 := hx (i * 2 + 1) (by omega)
  rw [(frsC_get l i hi).1] at h0
  rw [(frsC_get l i hi).2] at h1
  exact ⟨b, off, hao, hb, h0, h1⟩
theorem p_cell {lo : Nat} {w : World} {ao : Option Addr} {l : List Pt} (h : CellsOf lo w ao (ptsC l)) {i : Nat} (hi : i < l.length) :
    ∃ b off, ao = some ⟨b, off, none⟩ ∧ b < w.heap.size ∧ w.cell? ⟨b, off + i * 4, none⟩ = some (.int .i64 (l.getD i (0, 0)).1.num) ∧ w.cell? ⟨b, off + i * 4 + 1, none⟩ = some (.int .i64 ((l.getD i (0, 0)).1.den : Int)) ∧
      w.cell? ⟨b, off + i * 4 + 2, none⟩ = some (.int .i64 (l.getD i (0, 0)).2.num) ∧ w.cell? ⟨b, off + i * 4 + 3, none⟩ = some (.int .i64 ((l.getD i (0, 0)).2.den : Int)) := by
  have hne : ptsC l ≠ [] := by
    intro he
    have := ptsC_len l
    rw [he] at this
    simp at this
    omega
  obtain ⟨b, off, hao, -, hb, hx⟩ := h hne
  have hl := ptsC_len l
  have h0 := hx (i * 4) (by omega)
  have h1 := hx (i * 4 + 1) (by omega)
  have h2 := hx (i * 4 + 2) (by omega)
  have h3 := hx (i * 4 + 3) (by omega)
  have g := ptsC_get l i hi
  rw [g.1] at h0
  rw [g.2.1] at h1
  rw [g.2.2.1] at h2
  rw [g.2.2.2] at h3
  exact ⟨b, off, hao, hb, h0, h1, h2, h3⟩

/-- The result of an operation on fractions, if it is within the limits. -/
def fitO (q : Rat) : Option Rat := if fits q then some q else none
/-- The slope from a point to another one. -/
def slO (p q : Pt) : Option Rat := (fitO (q.2 - p.2)).bind fun dy => (fitO (q.1 - p.1)).bind fun dx => fitO (dy / dx)
/-- The slopes of the first k segments. -/
def slsO (c : List Pt) : Nat → Option (List Rat)
  | 0 => some []
  | k + 1 => (slsO c k).bind fun l => (slO (c.getD k (0, 0)) (c.getD (k + 1) (0, 0))).map fun s => l ++ [s]
/-- Is point i kept in the normal form? -/
def keepB (c : List Pt) (s : List Rat) (i : Nat) : Bool := decide (i = 0) || decide (i + 1 = c.length) || decide (s.getD (i - 1) 0 ≠ s.getD i 0)
def normTo (c : List Pt) (s : List Rat) (i : Nat) : List Pt := ((List.range i).filter (keepB c s)).map fun j => c.getD j (0, 0)
theorem normTo_yes {c : List Pt} {s : List Rat} {i : Nat} (h : keepB c s i = true) : normTo c s (i + 1) = normTo c s i ++ [c.getD i (0, 0)] := by
  unfold normTo; rw [List.range_succ, List.filter_append, List.map_append]; simp [h]
theorem normTo_no {c : List Pt} {s : List Rat} {i : Nat} (h : keepB c s i = false) : normTo c s (i + 1) = normTo c s i := by
  unfold normTo; rw [List.range_succ, List.filter_append, List.map_append]; simp [h]
theorem normTo_len (c : List Pt) (s : List Rat) (i : Nat) : (normTo c s i).length ≤ i := by
  unfold normTo; rw [List.length_map]
  have := List.length_filter_le (keepB c s) (List.range i)
  rw [List.length_range] at this
  exact this

/-- A curve. -/
structure CV (c : List Pt) : Prop where
  two : 2 ≤ c.length
  most : c.length ≤ 48
  first : c.getD 0 (0, 0) = (0, 0)
  fit : ∀ i, i < c.length → fits (c.getD i (0, 0)).1 ∧ fits (c.getD i (0, 0)).2
  rise : ∀ i, i + 1 < c.length → (c.getD i (0, 0)).1 < (c.getD (i + 1) (0, 0)).1 ∧ (c.getD i (0, 0)).2 < (c.getD (i + 1) (0, 0)).2
theorem CV.lt {c : List Pt} (h : CV c) {i j : Nat} (hij : i < j) (hj : j < c.length) : (c.getD i (0, 0)).1 < (c.getD j (0, 0)).1 ∧ (c.getD i (0, 0)).2 < (c.getD j (0, 0)).2 := by
  induction j with
  | zero => omega
  | succ j ih =>
    have hr := h.rise j hj
    by_cases hij' : i = j
    · rw [hij']; exact hr
    · have := ih (by omega) (by omega)
      constructor <;> grind

/-- The value between two points. -/
def segO (p q : Pt) (x : Rat) : Option Rat := (slO p q).bind fun s => (fitO (x - p.1)).bind fun d => (fitO (d * s)).bind fun m => fitO (p.2 + m)
/-- The value at x, x at most the X of point i and above that of the one before. -/
def atI (c : List Pt) (x : Rat) (i : Nat) : Option Rat := if (c.getD i (0, 0)).1 = x then some (c.getD i (0, 0)).2 else segO (c.getD (i - 1) (0, 0)) (c.getD i (0, 0)) x
/-- The first point that is not ahead of x. -/
def cutI (c : List Pt) (x : Rat) : Nat := (c.takeWhile fun p => decide (p.1 < x)).length
def atO (c : List Pt) (x : Rat) : Option Rat := atI c x (cutI c x)

/-- Rising lists are determined by their members. -/
def Rising (l : List Rat) : Prop := l.Pairwise (· < ·)
theorem rising_unique : ∀ {l m : List Rat}, Rising l → Rising m → (∀ x, x ∈ l ↔ x ∈ m) → l = m
  | [], [], _, _, _ => rfl
  | [], b :: m, _, _, h => absurd ((h b).2 (List.mem_cons_self ..)) (by simp)
  | a :: l, [], _, _, h => absurd ((h a).1 (List.mem_cons_self ..)) (by simp)
  | a :: l, b :: m, hl, hm, h => by
    obtain ⟨h1, h2⟩ := List.pairwise_cons.1 hl
    obtain ⟨k1, k2⟩ := List.pairwise_cons.1 hm
    have e : a = b := by
      rcases List.mem_cons.1 ((h a).1 (List.mem_cons_self ..)) with e | e
      · exact e
      · rcases List.mem_cons.1 ((h b).2 (List.mem_cons_self ..)) with e' | e'
        · exact e'.symm
        · have a1 := h1 b e'
          have a2 := k1 a e
          exfalso
          grind
    subst e
    congr 1
    refine rising_unique h2 k2 fun x => ⟨fun hx => ?_, fun hx => ?_⟩
    · rcases List.mem_cons.1 ((h x).1 (List.mem_cons_of_mem _ hx)) with e | e
      · subst e
        exact absurd (h1 _ hx) Rat.lt_irrefl
      · exact e
    · rcases List.mem_cons.1 ((h x).2 (List.mem_cons_of_mem _ hx)) with e | e
      · subst e
        exact absurd (k1 _ hx) Rat.lt_irrefl
      · exact e

end Go.Proofs.YtfkclcoipadhmaaGreatDoor

/- Curves plainly: where a value lies; grids. -/
namespace Go.Proofs.YtfkclcoipadhmaaGreatDoor
open Go.RowKit

theorem takeWhile_len {α : Type} {p : α → Bool} {d : α} : ∀ {l : List α} {i : Nat}, i ≤ l.length → (∀ j, j < i → p (l.getD j d) = true) → (i < l.length → p (l.getD i d) = false) → (l.takeWhile p).length = i
  | [], i, h, _, _ => by
    have : i = 0 := by simpa using h
    subst this
    rfl
  | a :: l, 0, _, _, h2 => by
    have : p a = false := h2 (by simp)
    rw [List.takeWhile_cons, this]
    rfl
  | a :: l, i + 1, h, h1, h2 => by
    have : p a = true := h1 0 (by omega)
    rw [List.takeWhile_cons, this]
    show (List.takeWhile p l).length + 1 = i + 1
    rw [takeWhile_len (d := d) (by simpa using h) (fun j hj => h1 (j + 1) (by omega)) (fun hi => h2 (by simpa using hi))]
theorem cut_at {c : List Pt} {x : Rat} {i : Nat} (hi : i < c.length) (h1 : ∀ j, j < i → (c.getD j (0, 0)).1 < x) (h2 : x ≤ (c.getD i (0, 0)).1) : cutI c x = i := by
  refine takeWhile_len (d := (0, 0)) (by omega) (fun j hj => decide_eq_true (h1 j hj)) (fun _ => decide_eq_false ?_)
  exact Rat.not_lt.2 h2
theorem at_same {c : List Pt} (hc : CV c) {x : Rat} {i : Nat} (hi : i < c.length) (h : (c.getD i (0, 0)).1 = x) : atO c x = some (c.getD i (0, 0)).2 := by
  unfold atO
  rw [cut_at hi (fun j hj => by rw [← h]; exact (hc.lt hj hi).1) (by rw [h]; exact Rat.le_refl)]
  unfold atI
  rw [if_pos h]
theorem at_between {c : List Pt} (hc : CV c) {x : Rat} {i : Nat} (hi : i + 1 < c.length) (h1 : (c.getD i (0, 0)).1 < x) (h2 : x < (c.getD (i + 1) (0, 0)).1) : atO c x = segO (c.getD i (0, 0)) (c.getD (i + 1) (0, 0)) x := by
  unfold atO
  rw [cut_at hi (fun j hj => ?_) (Rat.le_of_lt h2)]
  · unfold atI
    rw [if_neg (fun e => by rw [e] at h2; exact Rat.lt_irrefl h2)]
    rfl
  · by_cases hji : j = i
    · rw [hji]; exact h1
    · have := (hc.lt (show j < i by omega) (by omega)).1
      grind
/-- In the domain. -/
def InDom (c : List Pt) (x : Rat) : Prop := 0 ≤ x ∧ x ≤ (c.getD (c.length - 1) (0, 0)).1

/-- The points over a list of numbers. -/
def ptsO (f : Rat → Option Pt) (l : List Rat) : Nat → Option (List Pt)
  | 0 => some []
  | k + 1 => (ptsO f l k).bind fun o => (f (l.getD k 0)).map fun p => o ++ [p]
theorem ptsO_len {f : Rat → Option Pt} {l : List Rat} : ∀ {k : Nat} {o : List Pt}, ptsO f l k = some o → o.length = k
  | 0, o, h => by cases h; rfl
  | k + 1, o, h => by
    unfold ptsO at h
    cases h1 : ptsO f l k with
    | none => rw [h1] at h; cases h
    | some o' =>
      rw [h1] at h
      cases h2 : f (l.getD k 0) with
      | none => rw [h2] at h; cases h
      | some p =>
        rw [h2] at h
        cases h
        rw [List.length_append, ptsO_len h1]
        rfl
theorem ptsO_some {f : Rat → Option Pt} {l : List Rat} {k : Nat} {o : List Pt} {p : Pt} (h : ptsO f l k = some o) (h2 : f (l.getD k 0) = some p) : ptsO f l (k + 1) = some (o ++ [p]) := by
  unfold ptsO; rw [h, h2]; rfl
theorem ptsO_none {f : Rat → Option Pt} {l : List Rat} {k : Nat} (h2 : f (l.getD k 0) = none) : ptsO f l (k + 1) = none := by
  unfold ptsO
  cases ptsO f l k with
  | none => rfl
  | some o => rw [h2]; rfl
theorem ptsO_stay {f : Rat → Option Pt} {l : List Rat} {k : Nat} (h : ptsO f l k = none) : ∀ {m : Nat}, k ≤ m → ptsO f l m = none := by
  intro m hm
  induction m with
  | zero => obtain rfl : k = 0 := by omega
            exact h
  | succ m ih =>
    by_cases hk : k = m + 1
    · rw [← hk]; exact h
    · unfold ptsO; rw [ih (by omega)]; rfl
/-- The grid of a set of numbers up to a limit. -/
def GridOf (l : List Rat) (S : List Rat) (m : Rat) : Prop := Rising l ∧ ∀ x, x ∈ l ↔ x ∈ S ∧ x ≤ m
theorem grid_unique {l l' S S' : List Rat} {m : Rat} (h : GridOf l S m) (h' : GridOf l' S' m) (hS : ∀ x, x ∈ S ↔ x ∈ S') : l = l' :=
  rising_unique h.1 h'.1 fun x => by rw [h.2, h'.2, hS]

end Go.Proofs.YtfkclcoipadhmaaGreatDoor
