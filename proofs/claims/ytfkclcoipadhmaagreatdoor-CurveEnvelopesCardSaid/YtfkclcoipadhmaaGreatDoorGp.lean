/- Plainly: the grid of two curves, their crossings, the points of their envelopes. -/
import Derived.Test.YtfkclcoipadhmaaGreatDoorCz
namespace Go.Proofs.YtfkclcoipadhmaaGreatDoor
open Go.RowKit

theorem sn_left {α : Type} {d : α} {l : List α} {a : α} {j : Nat} (h : j < l.length) : (l ++ [a]).getD j d = l.getD j d := by
  rw [List.getD_eq_getElem?_getD, List.getElem?_append_left h, List.getD_eq_getElem?_getD]
theorem sn_end {α : Type} {d : α} {l : List α} {a : α} {k : Nat} (h : l.length = k) : (l ++ [a]).getD k d = a := by
  rw [List.getD_eq_getElem?_getD, List.getElem?_append_right (by omega), h, Nat.sub_self]
  rfl
/-- Where two curves cross between x and z, whose differences there are d and f. -/
def crsO (x z d f : Rat) : Option Rat := (fitO (d - f)).bind fun p => (fitO (d / p)).bind fun t => (fitO (z - x)).bind fun s => (fitO (t * s)).bind fun m => fitO (x + m)
/-- Do they change places? -/
def chgB (d f : Rat) : Bool := decide (d < 0 ∧ 0 < f ∨ 0 < d ∧ f < 0)
/-- The difference of two curves. -/
def dffO (A C : List Pt) (x : Rat) : Option Rat := (atO C x).bind fun z => (atO A x).bind fun y => fitO (z - y)
/-- A function's values over a list. -/
def valsO (f : Rat → Option Rat) (l : List Rat) : Nat → Option (List Rat)
  | 0 => some []
  | k + 1 => (valsO f l k).bind fun o => (f (l.getD k 0)).map fun p => o ++ [p]
theorem valsO_len {f : Rat → Option Rat} {l : List Rat} : ∀ {k : Nat} {o : List Rat}, valsO f l k = some o → o.length = k
  | 0, o, h => by cases h; rfl
  | k + 1, o, h => by
    unfold valsO at h
    cases h1 : valsO f l k with
    | none => rw [h1] at h; cases h
    | some o' =>
      rw [h1] at h
      cases h2 : f (l.getD k 0) with
      | none => rw [h2] at h; cases h
      | some p =>
        rw [h2] at h
        cases h
        rw [List.length_append, valsO_len h1]
        rfl
theorem valsO_get {f : Rat → Option Rat} {l : List Rat} : ∀ {k : Nat} {o : List Rat}, valsO f l k = some o → ∀ i, i < k → f (l.getD i 0) = some (o.getD i 0)
  | 0, o, h, i, hi => by omega
  | k + 1, o, h, i, hi => by
    unfold valsO at h
    cases h1 : valsO f l k with
    | none => rw [h1] at h; cases h
    | some o' =>
      rw [h1] at h
      cases h2 : f (l.getD k 0) with
      | none => rw [h2] at h; cases h
      | some p =>
        rw [h2] at h
        cases h
        have hl := valsO_len h1
        by_cases hik : i < k
        · rw [sn_left (by omega)]
          exact valsO_get h1 i hik
        · obtain rfl : i = k := by omega
          rw [sn_end hl, h2]
theorem valsO_some {f : Rat → Option Rat} {l : List Rat} {k : Nat} {o : List Rat} {p : Rat} (h : valsO f l k = some o) (h2 : f (l.getD k 0) = some p) : valsO f l (k + 1) = some (o ++ [p]) := by
  unfold valsO; rw [h, h2]; rfl
theorem valsO_none {f : Rat → Option Rat} {l : List Rat} {k : Nat} (h2 : f (l.getD k 0) = none) : valsO f l (k + 1) = none := by
  unfold valsO
  cases valsO f l k with
  | none => rfl
  | some o => rw [h2]; rfl
theorem valsO_stay {f : Rat → Option Rat} {l : List Rat} {k : Nat} (h : valsO f l k = none) : ∀ {m : Nat}, k ≤ m → valsO f l m = none := by
  intro m hm
  induction m with
  | zero => obtain rfl : k = 0 := by omega
            exact h
  | succ m ih =>
    by_cases hk : k = m + 1
    · rw [← hk]; exact h
    · unfold valsO; rw [ih (by omega)]; rfl
/-- The grid: all numbers, and the crossings between. -/
def grdO (l d : List Rat) : Nat → Option (List Rat × List Rat)
  | 0 => some ([], [])
  | k + 1 => (grdO l d k).bind fun g => if k + 1 < l.length ∧ chgB (d.getD k 0) (d.getD (k + 1) 0) = true then (crsO (l.getD k 0) (l.getD (k + 1) 0) (d.getD k 0) (d.getD (k + 1) 0)).map fun u => (g.1 ++ [l.getD k 0] ++ [u], g.2 ++ [u]) else some (g.1 ++ [l.getD k 0], g.2)
theorem grdO_stay {l d : List Rat} {k : Nat} (h : grdO l d k = none) : ∀ {m : Nat}, k ≤ m → grdO l d m = none := by
  intro m hm
  induction m with
  | zero => obtain rfl : k = 0 := by omega
            exact h
  | succ m ih =>
    by_cases hk : k = m + 1
    · rw [← hk]; exact h
    · unfold grdO; rw [ih (by omega)]; rfl
theorem grdO_yes {l d : List Rat} {k : Nat} {g : List Rat × List Rat} {u : Rat} (h : grdO l d k = some g) (h1 : k + 1 < l.length) (h2 : chgB (d.getD k 0) (d.getD (k + 1) 0) = true) (h3 : crsO (l.getD k 0) (l.getD (k + 1) 0) (d.getD k 0) (d.getD (k + 1) 0) = some u) : grdO l d (k + 1) = some (g.1 ++ [l.getD k 0] ++ [u], g.2 ++ [u]) := by
  unfold grdO
  rw [h]
  show (if _ then _ else _) = _
  rw [if_pos ⟨h1, h2⟩, h3]
  rfl
theorem grdO_bad {l d : List Rat} {k : Nat} (h1 : k + 1 < l.length) (h2 : chgB (d.getD k 0) (d.getD (k + 1) 0) = true) (h3 : crsO (l.getD k 0) (l.getD (k + 1) 0) (d.getD k 0) (d.getD (k + 1) 0) = none) : grdO l d (k + 1) = none := by
  unfold grdO
  cases grdO l d k with
  | none => rfl
  | some g =>
    show (if _ then _ else _) = _
    rw [if_pos ⟨h1, h2⟩, h3]
    rfl
theorem grdO_no {l d : List Rat} {k : Nat} {g : List Rat × List Rat} (h : grdO l d k = some g) (h1 : ¬ (k + 1 < l.length ∧ chgB (d.getD k 0) (d.getD (k + 1) 0) = true)) : grdO l d (k + 1) = some (g.1 ++ [l.getD k 0], g.2) := by
  unfold grdO
  rw [h]
  show (if _ then _ else _) = _
  rw [if_neg h1]
theorem crsO_val {x z d f u : Rat} (h : crsO x z d f = some u) : u = x + d / (d - f) * (z - x) ∧ fits u := by
  unfold crsO at h
  cases h1 : fitO (d - f) with
  | none => rw [h1] at h; cases h
  | some p =>
    rw [h1] at h
    simp only [Option.bind_some] at h
    cases h2 : fitO (d / p) with
    | none => rw [h2] at h; cases h
    | some t =>
      rw [h2] at h
      simp only [Option.bind_some] at h
      cases h3 : fitO (z - x) with
      | none => rw [h3] at h; cases h
      | some s =>
        rw [h3] at h
        simp only [Option.bind_some] at h
        cases h4 : fitO (t * s) with
        | none => rw [h4] at h; cases h
        | some m =>
          rw [h4] at h
          simp only [Option.bind_some] at h
          refine ⟨?_, (fitO_fits h).1⟩
          rw [(fitO_fits h).2, (fitO_fits h4).2, (fitO_fits h3).2, (fitO_fits h2).2, (fitO_fits h1).2]
theorem crs_part {d f : Rat} (h : chgB d f = true) : 0 < d / (d - f) ∧ d / (d - f) < 1 := by
  have h0 := of_decide_eq_true h
  have hne : d - f ≠ 0 := by rcases h0 with h0 | h0 <;> grind
  have e : d / (d - f) * (d - f) = d := Rat.div_mul_cancel hne
  generalize d / (d - f) = t at *
  rcases h0 with ⟨h1, h2⟩ | ⟨h1, h2⟩
  · constructor
    · apply Decidable.byContradiction
      intro hc
      have := Rat.mul_nonneg (show 0 ≤ -t by grind) (show 0 ≤ f - d by grind)
      grind
    · apply Decidable.byContradiction
      intro hc
      have := Rat.mul_nonneg (show 0 ≤ t - 1 by grind) (show 0 ≤ f - d by grind)
      grind
  · constructor
    · apply Decidable.byContradiction
      intro hc
      have := Rat.mul_nonneg (show 0 ≤ -t by grind) (show 0 ≤ d - f by grind)
      grind
    · apply Decidable.byContradiction
      intro hc
      have := Rat.mul_nonneg (show 0 ≤ t - 1 by grind) (show 0 ≤ d - f by grind)
      grind
theorem crs_between {x z d f u : Rat} (h : crsO x z d f = some u) (hc : chgB d f = true) (hxz : x < z) : x < u ∧ u < z := by
  obtain ⟨h1, h2⟩ := crs_part hc
  rw [(crsO_val h).1]
  generalize d / (d - f) = t at *
  have a1 := Rat.mul_pos h1 (show 0 < z - x by grind)
  have a2 := Rat.mul_pos (show 0 < 1 - t by grind) (show 0 < z - x by grind)
  constructor <;> grind
theorem ris_snoc {l : List Rat} {x : Rat} (h : Rising l) (hx : ∀ y ∈ l, y < x) : Rising (l ++ [x]) := by
  unfold Rising at *
  rw [List.pairwise_append]
  exact ⟨h, List.pairwise_singleton _ _, fun a ha b hb => by rw [List.mem_singleton] at hb; rw [hb]; exact hx a ha⟩
theorem ris_get {l : List Rat} (h : Rising l) {i j : Nat} (hij : i < j) (hj : j < l.length) : l.getD i 0 < l.getD j 0 := by
  have := List.pairwise_iff_getElem.1 h i j (by omega) hj hij
  rw [List.getD_eq_getElem?_getD, List.getD_eq_getElem?_getD, List.getElem?_eq_getElem (by omega), List.getElem?_eq_getElem hj]
  exact this
/-- What holds of the grid's first part. -/
structure GrdI (l d : List Rat) (k : Nat) (g : List Rat × List Rat) : Prop where
  rise : Rising g.1
  ronl : Rising g.2
  low : k < l.length → ∀ y ∈ g.1, y < l.getD k 0
  mem : ∀ y, y ∈ g.1 ↔ (∃ i, i < k ∧ l.getD i 0 = y) ∨ y ∈ g.2
  only : ∀ y ∈ g.2, ∃ i, i < k ∧ i + 1 < l.length ∧ l.getD i 0 < y ∧ y < l.getD (i + 1) 0 ∧ chgB (d.getD i 0) (d.getD (i + 1) 0) = true ∧ y = l.getD i 0 + d.getD i 0 / (d.getD i 0 - d.getD (i + 1) 0) * (l.getD (i + 1) 0 - l.getD i 0) ∧ fits y
  cross : ∀ i, i < k → i + 1 < l.length → chgB (d.getD i 0) (d.getD (i + 1) 0) = true → l.getD i 0 + d.getD i 0 / (d.getD i 0 - d.getD (i + 1) 0) * (l.getD (i + 1) 0 - l.getD i 0) ∈ g.2
  len : g.1.length = k + g.2.length
theorem grd_inv {l d : List Rat} (hl : Rising l) : ∀ {k : Nat} {g : List Rat × List Rat}, k ≤ l.length → grdO l d k = some g → GrdI l d k g
  | 0, g, _, h => by
    cases h
    refine ⟨List.Pairwise.nil, List.Pairwise.nil, fun _ y hy => (by cases hy), fun y => ⟨fun h => (by cases h), fun h => ?_⟩, fun y hy => (by cases hy), fun i hi => (by omega), rfl⟩
    rcases h with ⟨i, hi, _⟩ | h
    · omega
    · cases h
  | k + 1, g, hk, h => by
    cases h0 : grdO l d k with
    | none => rw [grdO_stay h0 (Nat.le_succ k)] at h; cases h
    | some g0 =>
      have ih := grd_inv hl (by omega) h0
      have hlow := ih.low (by omega)
      by_cases hc : k + 1 < l.length ∧ chgB (d.getD k 0) (d.getD (k + 1) 0) = true
      · cases h3 : crsO (l.getD k 0) (l.getD (k + 1) 0) (d.getD k 0) (d.getD (k + 1) 0) with
        | none => rw [grdO_bad hc.1 hc.2 h3] at h; cases h
        | some u =>
          rw [grdO_yes h0 hc.1 hc.2 h3] at h
          obtain rfl := (Option.some.inj h).symm
          have hlk := ris_get hl (show k < k + 1 by omega) hc.1
          obtain ⟨b1, b2⟩ := crs_between h3 hc.2 hlk
          have hv := crsO_val h3
          have hlow2 : ∀ y ∈ g0.1 ++ [l.getD k 0], y < u := by
            intro y hy
            rcases List.mem_append.1 hy with hy | hy
            · have := hlow y hy; grind
            · rw [List.mem_singleton] at hy; rw [hy]; exact b1
          refine ⟨ris_snoc (ris_snoc ih.rise hlow) hlow2, ris_snoc ih.ronl (fun y hy => ?_), fun _ y hy => ?_, fun y => ?_, fun y hy => ?_, fun i hi hil hch => ?_, ?_⟩
          · have := hlow y ((ih.mem y).2 (.inr hy)); grind
          · rcases List.mem_append.1 hy with hy | hy
            · have := hlow2 y hy; grind
            · rw [List.mem_singleton] at hy; rw [hy]; exact b2
          · constructor
            · intro hy
              rcases List.mem_append.1 hy with hy | hy
              · rcases List.mem_append.1 hy with hy | hy
                · rcases (ih.mem y).1 hy with ⟨i, hi, he⟩ | hy
                  · exact .inl ⟨i, by omega, he⟩
                  · exact .inr (List.mem_append_left _ hy)
                · rw [List.mem_singleton] at hy
                  exact .inl ⟨k, by omega, hy.symm⟩
              · exact .inr (List.mem_append_right _ hy)
            · intro hy
              rcases hy with ⟨i, hi, he⟩ | hy
              · by_cases hik : i < k
                · exact List.mem_append_left _ (List.mem_append_left _ ((ih.mem y).2 (.inl ⟨i, hik, he⟩)))
                · obtain rfl : i = k := by omega
                  exact List.mem_append_left _ (List.mem_append_right _ (by rw [he]; exact List.mem_singleton.2 rfl))
              · rcases List.mem_append.1 hy with hy | hy
                · exact List.mem_append_left _ (List.mem_append_left _ ((ih.mem y).2 (.inr hy)))
                · exact List.mem_append_right _ hy
          · rcases List.mem_append.1 hy with hy | hy
            · obtain ⟨i, h1, h2⟩ := ih.only y hy
              exact ⟨i, by omega, h2⟩
            · rw [List.mem_singleton] at hy
              subst hy
              exact ⟨k, by omega, hc.1, b1, b2, hc.2, hv⟩
          · by_cases hik : i < k
            · exact List.mem_append_left _ (ih.cross i hik hil hch)
            · obtain rfl : i = k := by omega
              exact List.mem_append_right _ (by rw [← hv.1]; exact List.mem_singleton.2 rfl)
          · simp only [List.length_append, List.length_singleton]
            have := ih.len
            omega
      · rw [grdO_no h0 hc] at h
        obtain rfl := (Option.some.inj h).symm
        refine ⟨ris_snoc ih.rise hlow, ih.ronl, fun hkl y hy => ?_, fun y => ?_, fun y hy => ?_, fun i hi hil hch => ?_, ?_⟩
        · have hlk := ris_get hl (show k < k + 1 by omega) hkl
          rcases List.mem_append.1 hy with hy | hy
          · have := hlow y hy; grind
          · rw [List.mem_singleton] at hy; rw [hy]; exact hlk
        · constructor
          · intro hy
            rcases List.mem_append.1 hy with hy | hy
            · rcases (ih.mem y).1 hy with ⟨i, hi, he⟩ | hy
              · exact .inl ⟨i, by omega, he⟩
              · exact .inr hy
            · rw [List.mem_singleton] at hy
              exact .inl ⟨k, by omega, hy.symm⟩
          · intro hy
            rcases hy with ⟨i, hi, he⟩ | hy
            · by_cases hik : i < k
              · exact List.mem_append_left _ ((ih.mem y).2 (.inl ⟨i, hik, he⟩))
              · obtain rfl : i = k := by omega
                exact List.mem_append_right _ (by rw [he]; exact List.mem_singleton.2 rfl)
            · exact List.mem_append_left _ ((ih.mem y).2 (.inr hy))
        · obtain ⟨i, h1, h2⟩ := ih.only y hy
          exact ⟨i, by omega, h2⟩
        · by_cases hik : i < k
          · exact ih.cross i hik hil hch
          · obtain rfl : i = k := by omega
            exact absurd ⟨hil, hch⟩ hc
        · simp only [List.length_append, List.length_singleton]
          have := ih.len
          omega
/-- The number l i is a crossing. -/
def zerB (l d : List Rat) (i : Nat) : Bool := decide (0 < i ∧ i + 1 < l.length ∧ d.getD i 0 = 0) && chgB (d.getD (i - 1) 0) (d.getD (i + 1) 0)
/-- Is u a crossing? The reference's loop. -/
def isTo (l d : List Rat) (u : Rat) : Nat → Bool
  | 0 => true
  | k + 1 => if l.getD k 0 = u then zerB l d k else isTo l d u k
theorem isTo_iff {l d : List Rat} (hl : Rising l) {u : Rat} : ∀ {k : Nat}, k ≤ l.length → (isTo l d u k = true ↔ ∀ i, i < k → l.getD i 0 = u → zerB l d i = true)
  | 0, _ => ⟨fun _ i hi => by omega, fun _ => rfl⟩
  | k + 1, hk => by
    have ih := isTo_iff (d := d) hl (u := u) (show k ≤ l.length by omega)
    unfold isTo
    by_cases he : l.getD k 0 = u
    · rw [if_pos he]
      constructor
      · intro h i hi hu
        by_cases hik : i = k
        · rw [hik]; exact h
        · have := ris_get hl (show i < k by omega) (by omega)
          exfalso
          grind
      · intro h
        exact h k (by omega) he
    · rw [if_neg he, ih]
      constructor
      · intro h i hi hu
        by_cases hik : i = k
        · rw [hik] at hu; exact absurd hu he
        · exact h i (by omega) hu
      · intro h i hi hu
        exact h i (by omega) hu
/-- The crossings, as the reference picks them. -/
def crsL (l d all : List Rat) : List Rat := all.filter fun u => isTo l d u l.length
/-- The zeros of the difference, as the code lists them. -/
def zerL (l d : List Rat) (k : Nat) : List Rat := ((List.range k).filter (zerB l d)).map fun i => l.getD i 0
theorem zerL_yes {l d : List Rat} {i : Nat} (h : zerB l d i = true) : zerL l d (i + 1) = zerL l d i ++ [l.getD i 0] := by
  unfold zerL; rw [List.range_succ, List.filter_append, List.map_append]; simp [h]
theorem zerL_no {l d : List Rat} {i : Nat} (h : zerB l d i = false) : zerL l d (i + 1) = zerL l d i := by
  unfold zerL; rw [List.range_succ, List.filter_append, List.map_append]; simp [h]
theorem zerL_mem {l d : List Rat} {k : Nat} {y : Rat} : y ∈ zerL l d k ↔ ∃ i, i < k ∧ zerB l d i = true ∧ l.getD i 0 = y := by
  unfold zerL
  rw [List.mem_map]
  constructor
  · rintro ⟨i, hi, rfl⟩
    rw [List.mem_filter, List.mem_range] at hi
    exact ⟨i, hi.1, hi.2, rfl⟩
  · rintro ⟨i, hi, h1, rfl⟩
    exact ⟨i, by rw [List.mem_filter, List.mem_range]; exact ⟨hi, h1⟩, rfl⟩
theorem zerL_rise {l d : List Rat} (hl : Rising l) : ∀ {k : Nat}, k ≤ l.length → Rising (zerL l d k)
  | 0, _ => List.Pairwise.nil
  | k + 1, hk => by
    have ih := zerL_rise (d := d) hl (show k ≤ l.length by omega)
    cases hz : zerB l d k with
    | false => rw [zerL_no hz]; exact ih
    | true =>
      rw [zerL_yes hz]
      refine ris_snoc ih (fun y hy => ?_)
      obtain ⟨i, hi, -, rfl⟩ := zerL_mem.1 hy
      exact ris_get hl hi (by omega)
/-- The code's sorted list is the reference's. -/
theorem crs_sorted {l d : List Rat} (hl : Rising l) {g : List Rat × List Rat} (hg : grdO l d l.length = some g) {s : List Rat} (hp : s.Perm (g.2 ++ zerL l d l.length)) (hs : ∀ i j, i ≤ j → j < s.length → s.getD i 0 ≤ s.getD j 0) : s = crsL l d g.1 := by
  have hi := grd_inv hl (Nat.le_refl _) hg
  have hz := zerL_rise (d := d) hl (Nat.le_refl _)
  have hdis : ∀ y, y ∈ g.2 → ∀ i, i < l.length → l.getD i 0 ≠ y := by
    intro y hy i hil he
    obtain ⟨j, h1, h2, h3, h4, -⟩ := hi.only y hy
    subst he
    by_cases hij : i ≤ j
    · by_cases hij2 : i = j
      · subst hij2; exact Rat.lt_irrefl h3
      · have := ris_get hl (show i < j by omega) (by omega)
        grind
    · by_cases hij2 : i = j + 1
      · subst hij2; exact Rat.lt_irrefl h4
      · have := ris_get hl (show j + 1 < i by omega) hil
        grind
  have hnd : s.Nodup := by
    rw [hp.nodup_iff, List.nodup_append]
    refine ⟨hi.ronl.imp (fun h e => by rw [e] at h; exact Rat.lt_irrefl h), hz.imp (fun h e => by rw [e] at h; exact Rat.lt_irrefl h), fun a ha b hb e => ?_⟩
    obtain ⟨i, h1, -, h3⟩ := zerL_mem.1 hb
    exact hdis a ha i h1 (h3.trans e.symm)
  have hrs : Rising s := by
    unfold Rising
    rw [List.pairwise_iff_getElem]
    intro i j h1 h2 hij
    have hle := hs i j (by omega) h2
    rw [List.getD_eq_getElem?_getD, List.getD_eq_getElem?_getD, List.getElem?_eq_getElem h1, List.getElem?_eq_getElem h2] at hle
    have hne : s[i] ≠ s[j] := List.pairwise_iff_getElem.1 hnd i j h1 h2 hij
    have hle2 : s[i] ≤ s[j] := hle
    grind
  refine rising_unique hrs (hi.rise.sublist List.filter_sublist) (fun y => ?_)
  rw [hp.mem_iff, List.mem_append]
  unfold crsL
  rw [List.mem_filter, isTo_iff hl (Nat.le_refl _)]
  constructor
  · rintro (h | h)
    · exact ⟨(hi.mem y).2 (.inr h), fun i hil he => absurd he (hdis y h i hil)⟩
    · obtain ⟨i, h1, h2, h3⟩ := zerL_mem.1 h
      refine ⟨(hi.mem y).2 (.inl ⟨i, h1, h3⟩), fun j hj he => ?_⟩
      have : i = j := by
        apply Decidable.byContradiction
        intro hne
        rcases Nat.lt_or_gt_of_ne hne with h | h
        · have := ris_get hl h hj; grind
        · have := ris_get hl h h1; grind
      rw [← this]; exact h2
  · rintro ⟨h1, h2⟩
    rcases (hi.mem y).1 h1 with ⟨i, hil, he⟩ | h
    · exact .inr (zerL_mem.2 ⟨i, hil, h2 i hil he, he⟩)
    · exact .inl h
/-- The point of an envelope. -/
def pickQ (up : Bool) (y z : Rat) : Rat := if up then (if z ≤ y then y else z) else (if y ≤ z then y else z)
def envO (up : Bool) (A C : List Pt) (u : Rat) : Option Pt := (atO A u).bind fun y => (atO C u).bind fun z => some (u, pickQ up y z)

/-- What compared makes of two curves: the differences, and the grid. -/
def cmpD (c d : List P4) : Option (List Rat) := valsO (dffO (toQ c) (toQ d)) (comG (toQ c) (toQ d)) (comG (toQ c) (toQ d)).length
def cmpG (c d : List P4) : Option (List Rat × List Rat) := (cmpD c d).bind fun l => grdO (comG (toQ c) (toQ d)) l (comG (toQ c) (toQ d)).length
def cmpE (c d : List P4) : Int := if comE c d = 0 then (match cmpG c d with | some g => if 48 < g.1.length then 3 else 0 | none => 5) else comE c d
def cmpV (c d : List P4) : List Rat := (cmpD c d).getD []
def cmpA (c d : List P4) : List Rat × List Rat := (cmpG c d).getD ([], [])
/-- What Upper, Lower, Crossings hand back. -/
def envE (up : Bool) (c d : List P4) : Int := if cmpE c d = 0 then madE (envO up (toQ c) (toQ d)) (cmpA c d).1 else cmpE c d
def envL (up : Bool) (c d : List P4) : List Pt := if cmpE c d = 0 then madL (envO up (toQ c) (toQ d)) (cmpA c d).1 else []
def croL (c d : List P4) : List Rat := if cmpE c d = 0 then crsL (comG (toQ c) (toQ d)) (cmpV c d) (cmpA c d).1 else []
theorem cmp_zero {c d : List P4} (h : cmpE c d = 0) : comE c d = 0 ∧ RV c ∧ RV d ∧ cmpD c d = some (cmpV c d) ∧ grdO (comG (toQ c) (toQ d)) (cmpV c d) (comG (toQ c) (toQ d)).length = some (cmpA c d) ∧ (cmpA c d).1.length ≤ 48 := by
  have h0 : comE c d = 0 := by
    apply Decidable.byContradiction
    intro hn
    unfold cmpE at h
    rw [if_neg hn] at h
    exact hn h
  obtain ⟨h1, h2, -, -⟩ := comE_zero h0
  refine ⟨h0, h1, h2, ?_⟩
  unfold cmpE at h
  rw [if_pos h0] at h
  unfold cmpV cmpA
  cases hd : cmpD c d with
  | none =>
    have : cmpG c d = none := by unfold cmpG; rw [hd]; rfl
    rw [this] at h
    cases h
  | some l =>
    have hg : cmpG c d = grdO (comG (toQ c) (toQ d)) l (comG (toQ c) (toQ d)).length := by unfold cmpG; rw [hd]; rfl
    rw [hg] at h ⊢
    cases hg2 : grdO (comG (toQ c) (toQ d)) l (comG (toQ c) (toQ d)).length with
    | none => rw [hg2] at h; cases h
    | some g =>
      rw [hg2] at h
      refine ⟨rfl, hg2, ?_⟩
      apply Decidable.byContradiction
      intro hn
      have h5 : (if 48 < g.1.length then (3 : Int) else 0) = 0 := h
      rw [if_pos (by show 48 < g.1.length; have h6 : ¬ g.1.length ≤ 48 := hn; omega)] at h5
      cases h5
/-- The grid's numbers lie in both domains. -/
theorem cmp_mem {c d : List P4} (h : cmpE c d = 0) {x : Rat} (hx : x ∈ (cmpA c d).1) : InDom (toQ c) x ∧ InDom (toQ d) x ∧ fits x := by
  obtain ⟨-, hc, hd, -, hg, -⟩ := cmp_zero h
  have hl := gridQ_grid ((toQ c).map (·.1) ++ (toQ d).map (·.1)) (lesQ (endQ (toQ c)).1 (endQ (toQ d)).1)
  have hi := grd_inv hl.1 (Nat.le_refl _) hg
  have key := fun y hy => comG_mem (x := y) (rv_cv hc) (rv_cv hd) hy
  rcases (hi.mem x).1 hx with ⟨i, hil, rfl⟩ | hx
  · exact key _ (getD_memQ hil)
  · obtain ⟨i, h1, h2, h3, h4, -, -, hf⟩ := hi.only x hx
    have a := key _ (getD_memQ h1)
    have b := key _ (getD_memQ h2)
    have a1 := a.1.1
    have b1 := b.1.2
    have b2 := b.2.1.2
    change (0 : Rat) ≤ (comG (toQ c) (toQ d)).getD i 0 at a1
    change (comG (toQ c) (toQ d)).getD (i + 1) 0 ≤ _ at b1
    change (comG (toQ c) (toQ d)).getD (i + 1) 0 ≤ _ at b2
    change (comG (toQ c) (toQ d)).getD i 0 < x at h3
    change x < (comG (toQ c) (toQ d)).getD (i + 1) 0 at h4
    exact ⟨⟨by grind, by grind⟩, ⟨by grind, by grind⟩, hf⟩

end Go.Proofs.YtfkclcoipadhmaaGreatDoor
