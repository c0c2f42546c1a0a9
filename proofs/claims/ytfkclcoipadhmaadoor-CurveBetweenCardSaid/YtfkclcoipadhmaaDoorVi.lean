/- Several of my texts in one: Fs, Gm, Gr, Gs, Gt, Gu. -/
import Derived.Test.YtfkclcoipadhmaaDoorQj
import Derived.Test.YtfkclcoipadhmaaDoorDy
import Derived.Test.YtfkclcoipadhmaaDoorRy
import Derived.Test.YtfkclcoipadhmaaDoorEa
/- Plainly: from corner to corner of a hull. -/
namespace Go.Proofs.YtfkclcoipadhmaaDoor
open Go.RowKit

/-- The last of the least among the first k. -/
def nxtJ (sg : Nat → Rat) : Nat → Nat
  | 0 => 0
  | k + 1 => if sg k ≤ sg (nxtJ sg k) then k else nxtJ sg k
theorem nxt_ok (sg : Nat → Rat) : ∀ k, nxtJ sg (k + 1) < k + 1 ∧ (∀ j, j < k + 1 → sg (nxtJ sg (k + 1)) ≤ sg j) ∧ ∀ j, nxtJ sg (k + 1) < j → j < k + 1 → sg (nxtJ sg (k + 1)) < sg j
  | 0 => by
    have e : nxtJ sg (0 + 1) = 0 := by unfold nxtJ; split <;> rfl
    rw [e]
    refine ⟨by omega, fun j hj => ?_, fun j h1 h2 => by omega⟩
    obtain rfl : j = 0 := by omega
    exact Rat.le_refl
  | k + 1 => by
    obtain ⟨h1, h2, h3⟩ := nxt_ok sg k
    by_cases hc : sg (k + 1) ≤ sg (nxtJ sg (k + 1))
    · have e : nxtJ sg (k + 1 + 1) = k + 1 := by rw [nxtJ, if_pos hc]
      rw [e]
      refine ⟨by omega, fun j hj => ?_, fun j h4 h5 => by omega⟩
      by_cases hj2 : j = k + 1
      · rw [hj2]; exact Rat.le_refl
      · have := h2 j (by omega)
        grind
    · have e : nxtJ sg (k + 1 + 1) = nxtJ sg (k + 1) := by rw [nxtJ, if_neg hc]
      rw [e]
      refine ⟨by omega, fun j hj => ?_, fun j h4 h5 => ?_⟩
      · by_cases hj2 : j = k + 1
        · rw [hj2]; grind
        · exact h2 j (by omega)
      · by_cases hj2 : j = k + 1
        · rw [hj2]; grind
        · exact h3 j h4 (by omega)
/-- A corner of the lower hull; s i j is the slope from i to j. -/
def CornerP (n : Nat) (s : Nat → Nat → Rat) (i : Nat) : Prop := ∀ k, k < i → ∀ l, i < l → l < n → s k i < s i l
/-- Slopes of points whose X rise. -/
def Mediant (n : Nat) (s : Nat → Nat → Rat) : Prop := ∀ a b c, a < b → b < c → c < n → ∃ u v : Rat, 0 < u ∧ 0 < v ∧ s a c * (u + v) = s a b * u + s b c * v
theorem med_lt1 {p q r u v : Rat} (hu : 0 < u) (hv : 0 < v) (h : p * (u + v) = q * u + r * v) (hq : q < p) : p < r := by
  apply Decidable.byContradiction
  intro hc
  have h1 := Rat.mul_pos (show 0 < p - q by grind) hu
  have h2 := Rat.mul_nonneg (show 0 ≤ p - r by grind) (show 0 ≤ v by grind)
  grind
theorem med_le {p q r u v : Rat} (hu : 0 < u) (hv : 0 < v) (h : p * (u + v) = q * u + r * v) (hq : p ≤ q) : r ≤ p := by
  apply Decidable.byContradiction
  intro hc
  have h1 := Rat.mul_pos (show 0 < r - p by grind) hv
  have h2 := Rat.mul_nonneg (show 0 ≤ q - p by grind) (show 0 ≤ u by grind)
  grind
theorem med_lt2 {p q r u v : Rat} (hu : 0 < u) (hv : 0 < v) (h : p * (u + v) = q * u + r * v) (hq : q < r) : p < r := by
  apply Decidable.byContradiction
  intro hc
  have h1 := Rat.mul_pos (show 0 < r - q by grind) hu
  have h2 := Rat.mul_nonneg (show 0 ≤ p - r by grind) (show 0 ≤ u + v by grind)
  grind
/-- From corner to corner. -/
theorem hull_step {n : Nat} {s : Nat → Nat → Rat} (hs : Mediant n s) {a : Nat} (ha : a + 1 < n) (hc : CornerP n s a) :
    ∃ b, b = a + 1 + nxtJ (fun j => s a (a + 1 + j)) (n - a - 1) ∧ a < b ∧ b < n ∧ CornerP n s b ∧ (∀ i, a < i → i < b → ¬ CornerP n s i) ∧ (∀ i, a < i → i < n → s a b ≤ s a i) := by
  obtain ⟨m, hm⟩ : ∃ m, n - a - 1 = m + 1 := ⟨n - a - 2, by omega⟩
  obtain ⟨h1, h2, h3⟩ := nxt_ok (fun j => s a (a + 1 + j)) m
  rw [hm]
  obtain ⟨q, hq⟩ : ∃ q, nxtJ (fun j => s a (a + 1 + j)) (m + 1) = q := ⟨_, rfl⟩
  rw [hq] at h1 h2 h3 ⊢
  have hmin : ∀ i, a < i → i < n → s a (a + 1 + q) ≤ s a i := fun i h4 h5 => by
    have := h2 (i - a - 1) (by omega)
    rw [show a + 1 + (i - a - 1) = i by omega] at this
    exact this
  have hstr : ∀ i, a + 1 + q < i → i < n → s a (a + 1 + q) < s a i := fun i h4 h5 => by
    have := h3 (i - a - 1) (by omega) (by omega)
    rw [show a + 1 + (i - a - 1) = i by omega] at this
    exact this
  obtain ⟨b, hb⟩ : ∃ b, a + 1 + q = b := ⟨_, rfl⟩
  rw [hb] at hmin hstr ⊢
  refine ⟨b, rfl, by omega, by omega, fun k hk l hl hln => ?_, fun i h4 h5 hco => ?_, hmin⟩
  · have r1 : s a b < s b l := by
      obtain ⟨u, v, hu, hv, he⟩ := hs a b l (by omega) hl hln
      exact Std.lt_of_lt_of_le (hstr l hl hln) (Rat.le_of_lt (med_lt1 hu hv he (hstr l hl hln)))
    have r2 : s k b ≤ s a b := by
      by_cases hka : k = a
      · rw [hka]; exact Rat.le_refl
      · by_cases hak : a < k
        · obtain ⟨u, v, hu, hv, he⟩ := hs a k b hak hk (by omega)
          exact med_le hu hv he (hmin k hak (by omega))
        · obtain ⟨u, v, hu, hv, he⟩ := hs k a b (by omega) (by omega) (by omega)
          exact Rat.le_of_lt (med_lt2 hu hv he (hc k (by omega) b (by omega) (by omega)))
    grind
  · have h6 := hco a h4 b h5 (by omega)
    obtain ⟨u, v, hu, hv, he⟩ := hs a i b h4 h5 (by omega)
    have h7 := med_le hu hv he (hmin i h4 (by omega))
    have h8 := hmin i h4 (by omega)
    grind

def cornerB (n : Nat) (s : Nat → Nat → Rat) (i : Nat) : Bool := (List.range i).all fun k => (List.range n).all fun l => !(decide (i < l)) || decide (s k i < s i l)
theorem cornerB_iff (n : Nat) (s : Nat → Nat → Rat) (i : Nat) : cornerB n s i = true ↔ CornerP n s i := by
  unfold cornerB CornerP
  rw [List.all_eq_true]
  constructor
  · intro h k hk l hl hln
    have h1 := List.all_eq_true.1 (h k (List.mem_range.2 hk)) l (List.mem_range.2 hln)
    simp [hl] at h1
    exact h1
  · intro h k hk
    rw [List.all_eq_true]
    intro l hl
    by_cases hil : i < l
    · have := h k (List.mem_range.1 hk) l hil (List.mem_range.1 hl)
      simp [this]
    · simp [hil]
/-- The corners below m. -/
def hullTo (n : Nat) (s : Nat → Nat → Rat) (m : Nat) : List Nat := (List.range m).filter (cornerB n s)
theorem hullTo_one (n : Nat) (s : Nat → Nat → Rat) : hullTo n s 1 = [0] := by
  have : cornerB n s 0 = true := (cornerB_iff n s 0).2 (fun k hk => by omega)
  unfold hullTo
  rw [List.range_one]
  simp [this]
theorem hullTo_yes {n : Nat} {s : Nat → Nat → Rat} {m : Nat} (h : CornerP n s m) : hullTo n s (m + 1) = hullTo n s m ++ [m] := by
  have := (cornerB_iff n s m).2 h
  unfold hullTo
  rw [List.range_succ, List.filter_append]
  simp [this]
theorem hullTo_no {n : Nat} {s : Nat → Nat → Rat} {m : Nat} (h : ¬ CornerP n s m) : hullTo n s (m + 1) = hullTo n s m := by
  have : cornerB n s m = false := by
    cases hb : cornerB n s m with
    | false => rfl
    | true => exact absurd ((cornerB_iff n s m).1 hb) h
  unfold hullTo
  rw [List.range_succ, List.filter_append]
  simp [this]
theorem hullTo_skip {n : Nat} {s : Nat → Nat → Rat} {a : Nat} : ∀ {b : Nat}, a ≤ b → (∀ i, a ≤ i → i < b → ¬ CornerP n s i) → hullTo n s b = hullTo n s a
  | 0, h, _ => by
    obtain rfl : a = 0 := by omega
    rfl
  | b + 1, h, hn => by
    by_cases he : a = b + 1
    · rw [he]
    · rw [hullTo_no (hn b (by omega) (by omega)), hullTo_skip (by omega) (fun i h1 h2 => hn i h1 (by omega))]
theorem hull_next {n : Nat} {s : Nat → Nat → Rat} (hs : Mediant n s) {a : Nat} (ha : a + 1 < n) (hc : CornerP n s a) :
    ∃ b, b = a + 1 + nxtJ (fun j => s a (a + 1 + j)) (n - a - 1) ∧ a < b ∧ b < n ∧ CornerP n s b ∧ hullTo n s (b + 1) = hullTo n s (a + 1) ++ [b] := by
  obtain ⟨b, h1, h2, h3, h4, h5, -⟩ := hull_step hs ha hc
  exact ⟨b, h1, h2, h3, h4, by rw [hullTo_yes h4, hullTo_skip (show a + 1 ≤ b by omega) (fun i h6 h7 => h5 i (by omega) h7)]⟩

end Go.Proofs.YtfkclcoipadhmaaDoor

/- Plainly: the hull of a curve, its corners, its slopes; the hull of the hull. -/
namespace Go.Proofs.YtfkclcoipadhmaaDoor
open Go.RowKit

theorem slO_is {p q : Pt} {s : Rat} (h : slO p q = some s) : s = (q.2 - p.2) / (q.1 - p.1) := by
  unfold slO at h
  cases h1 : fitO (q.2 - p.2) with
  | none => rw [h1] at h; cases h
  | some dy =>
    cases h2 : fitO (q.1 - p.1) with
    | none => rw [h1, h2] at h; cases h
    | some dx =>
      rw [h1, h2] at h
      simp only [Option.bind_some] at h
      rw [(fitO_fits h).2, (fitO_fits h2).2, (fitO_fits h1).2]
/-- The slope from point i to point j of a curve; turned about for the upper hull. -/
def slpQ (C : List Pt) (i j : Nat) : Rat := ((C.getD j (0, 0)).2 - (C.getD i (0, 0)).2) / ((C.getD j (0, 0)).1 - (C.getD i (0, 0)).1)
def slpW (up : Bool) (C : List Pt) (i j : Nat) : Rat := if up then -slpQ C i j else slpQ C i j
/-- All slopes are within the limits. -/
def HulF (C : List Pt) : Prop := ∀ i j, i < j → j < C.length → (slO (C.getD i (0, 0)) (C.getD j (0, 0))).isSome = true
noncomputable instance (C : List Pt) : Decidable (HulF C) := Classical.propDecidable _
/-- The points of the hull. -/
def hulL (up : Bool) (C : List Pt) : List Pt := (hullTo C.length (slpW up C) C.length).map fun i => C.getD i (0, 0)
theorem slp_of {C : List Pt} {i j : Nat} {s : Rat} (h : slO (C.getD i (0, 0)) (C.getD j (0, 0)) = some s) : s = slpQ C i j := slO_is h
theorem slp_mul {C : List Pt} (hc : CV C) {i j : Nat} (h : i < j) (hj : j < C.length) : slpQ C i j * ((C.getD j (0, 0)).1 - (C.getD i (0, 0)).1) = (C.getD j (0, 0)).2 - (C.getD i (0, 0)).2 := by
  have := (hc.lt h hj).1
  exact Rat.div_mul_cancel (by grind)
theorem slp_med {C : List Pt} (hc : CV C) (up : Bool) : Mediant C.length (slpW up C) := by
  intro a b c h1 h2 h3
  have hab := (hc.lt h1 (by omega)).1
  have hbc := (hc.lt h2 h3).1
  have e1 := slp_mul hc h1 (by omega)
  have e2 := slp_mul hc h2 h3
  have e3 := slp_mul hc (Nat.lt_trans h1 h2) h3
  refine ⟨(C.getD b (0, 0)).1 - (C.getD a (0, 0)).1, (C.getD c (0, 0)).1 - (C.getD b (0, 0)).1, by grind, by grind, ?_⟩
  unfold slpW
  cases up with
  | false =>
    show slpQ C a c * _ = slpQ C a b * _ + slpQ C b c * _
    grind
  | true =>
    show -slpQ C a c * _ = -slpQ C a b * _ + -slpQ C b c * _
    grind
theorem corner_zero (n : Nat) (s : Nat → Nat → Rat) : CornerP n s 0 := fun k hk => by omega
/-- One step of the code: from the corner at to the next one. -/
theorem hul_next {C : List Pt} (hc : CV C) (up : Bool) {a : Nat} (ha : a + 1 < C.length) (hco : CornerP C.length (slpW up C) a) :
    ∃ b, b = a + 1 + nxtJ (fun j => slpW up C a (a + 1 + j)) (C.length - a - 1) ∧ a < b ∧ b < C.length ∧ CornerP C.length (slpW up C) b ∧ hullTo C.length (slpW up C) (b + 1) = hullTo C.length (slpW up C) (a + 1) ++ [b] :=
  hull_next (slp_med hc up) ha hco

/-- The list of corners is a chain: each one's next one is least in slope. -/
structure ChainH (n : Nat) (s : Nat → Nat → Rat) (H : List Nat) : Prop where
  pos : 0 < H.length
  first : H.getD 0 0 = 0
  last : H.getD (H.length - 1) 0 + 1 = n
  lt : ∀ k, k + 1 < H.length → H.getD k 0 < H.getD (k + 1) 0
  bd : ∀ k, k < H.length → H.getD k 0 < n
  corner : ∀ k, k < H.length → CornerP n s (H.getD k 0)
  least : ∀ k, k + 1 < H.length → ∀ i, H.getD k 0 < i → i < n → s (H.getD k 0) (H.getD (k + 1) 0) ≤ s (H.getD k 0) i
theorem gd_left {α : Type} {d : α} {l : List α} {a : α} {j : Nat} (h : j < l.length) : (l ++ [a]).getD j d = l.getD j d := by
  rw [List.getD_eq_getElem?_getD, List.getElem?_append_left h, List.getD_eq_getElem?_getD]
theorem gd_end {α : Type} {d : α} {l : List α} {a : α} {k : Nat} (h : l.length = k) : (l ++ [a]).getD k d = a := by
  rw [List.getD_eq_getElem?_getD, List.getElem?_append_right (by omega), h, Nat.sub_self]
  rfl
structure ChainA (n : Nat) (s : Nat → Nat → Rat) (a : Nat) (H : List Nat) : Prop where
  pos : 0 < H.length
  first : H.getD 0 0 = 0
  last : H.getD (H.length - 1) 0 = a
  lt : ∀ k, k + 1 < H.length → H.getD k 0 < H.getD (k + 1) 0
  le : ∀ k, k < H.length → H.getD k 0 ≤ a
  corner : ∀ k, k < H.length → CornerP n s (H.getD k 0)
  least : ∀ k, k + 1 < H.length → ∀ i, H.getD k 0 < i → i < n → s (H.getD k 0) (H.getD (k + 1) 0) ≤ s (H.getD k 0) i
theorem chain_to {n : Nat} {s : Nat → Nat → Rat} (hs : Mediant n s) (hn : 0 < n) : ∀ t a, CornerP n s a → n - a ≤ t → a < n → ChainA n s a (hullTo n s (a + 1)) → ChainH n s (hullTo n s n)
  | t, a, hco, ht, ha, ⟨h1, h2, h3, h4, h5, h6, h7⟩ => by
    by_cases he : a + 1 = n
    · rw [he] at h1 h2 h3 h4 h5 h6 h7
      exact ⟨h1, h2, by rw [h3]; exact he, h4, fun k hk => by have := h5 k hk; omega, h6, h7⟩
    · match t with
      | 0 => omega
      | t + 1 =>
      obtain ⟨b, -, hab, hbn, hcb, hno, hmin⟩ := hull_step hs (show a + 1 < n by omega) hco
      have hH : hullTo n s (b + 1) = hullTo n s (a + 1) ++ [b] := by rw [hullTo_yes hcb, hullTo_skip (show a + 1 ≤ b by omega) (fun i h6 h7 => hno i (by omega) h7)]
      have L := h1
      refine chain_to hs hn t b hcb (by omega) hbn ?_
      rw [hH]
      generalize hullTo n s (a + 1) = H at *
      have hl : (H ++ [b]).length = H.length + 1 := by rw [List.length_append]; rfl
      refine ⟨by omega, by rw [gd_left L]; exact h2, by rw [hl]; exact gd_end rfl, fun k hk => ?_, fun k hk => ?_, fun k hk => ?_, fun k hk i hi hin => ?_⟩
      · rw [hl] at hk
        by_cases hk2 : k + 1 < H.length
        · rw [gd_left hk2, gd_left (by omega)]; exact h4 k hk2
        · rw [gd_left (by omega), gd_end (show H.length = k + 1 by omega)]
          have := h5 k (by omega)
          omega
      · rw [hl] at hk
        by_cases hk2 : k < H.length
        · rw [gd_left hk2]; have := h5 k hk2; omega
        · rw [gd_end (show H.length = k by omega)]; exact Nat.le_refl _
      · rw [hl] at hk
        by_cases hk2 : k < H.length
        · rw [gd_left hk2]; exact h6 k hk2
        · rw [gd_end (show H.length = k by omega)]; exact hcb
      · rw [hl] at hk
        by_cases hk2 : k + 1 < H.length
        · rw [gd_left hk2, gd_left (by omega)]
          rw [gd_left (by omega)] at hi
          exact h7 k hk2 i hi hin
        · rw [gd_left (by omega)] at hi ⊢
          have hk3 : k = H.length - 1 := by omega
          rw [gd_end (show H.length = k + 1 by omega)]
          rw [hk3, h3] at hi ⊢
          exact hmin i hi hin
theorem chain_all {n : Nat} {s : Nat → Nat → Rat} (hs : Mediant n s) (hn : 0 < n) : ChainH n s (hullTo n s n) := by
  refine chain_to hs hn n 0 (corner_zero n s) (by omega) hn ?_
  rw [hullTo_one]
  refine ⟨by simp, rfl, rfl, fun k hk => by simp at hk, fun k hk => ?_, fun k hk => ?_, fun k hk => by simp at hk⟩
  · obtain rfl : k = 0 := by simpa using hk
    exact Nat.le_refl _
  · obtain rfl : k = 0 := by simpa using hk
    exact corner_zero n s
theorem chain_len {n : Nat} {s : Nat → Nat → Rat} : (hullTo n s n).length ≤ n := by
  have := List.length_filter_le (cornerB n s) (List.range n)
  rw [List.length_range] at this
  exact this
theorem ChainH.mono {n : Nat} {s : Nat → Nat → Rat} {H : List Nat} (h : ChainH n s H) {i j : Nat} (hij : i < j) (hj : j < H.length) : H.getD i 0 < H.getD j 0 := by
  induction j with
  | zero => omega
  | succ j ih =>
    have hr := h.lt j hj
    by_cases he : i = j
    · rw [he]; exact hr
    · have := ih (by omega) (by omega)
      omega
theorem hul_len (up : Bool) (C : List Pt) : (hulL up C).length = (hullTo C.length (slpW up C) C.length).length := by unfold hulL; rw [List.length_map]
theorem hul_get (up : Bool) {C : List Pt} {k : Nat} (hk : k < (hulL up C).length) : (hulL up C).getD k (0, 0) = C.getD ((hullTo C.length (slpW up C) C.length).getD k 0) (0, 0) := by
  rw [hul_len] at hk
  unfold hulL
  rw [List.getD_eq_getElem?_getD, List.getElem?_map, List.getElem?_eq_getElem hk, List.getD_eq_getElem?_getD (l := hullTo _ _ _), List.getElem?_eq_getElem hk]
  rfl
theorem hul_chain {C : List Pt} (hc : CV C) (up : Bool) : ChainH C.length (slpW up C) (hullTo C.length (slpW up C) C.length) := chain_all (slp_med hc up) (by have := hc.two; omega)
theorem hul_two {C : List Pt} (hc : CV C) (up : Bool) : 2 ≤ (hulL up C).length := by
  have h := hul_chain hc up
  rw [hul_len]
  have h1 := h.pos
  have h2 := h.first
  have h3 := h.last
  have h4 := hc.two
  apply Decidable.byContradiction
  intro hh
  have e : (hullTo C.length (slpW up C) C.length).length - 1 = 0 := by omega
  rw [e, h2] at h3
  omega
theorem hul_cv {C : List Pt} (hc : CV C) (up : Bool) : CV (hulL up C) where
  two := hul_two hc up
  most := by have := hc.most; have := chain_len (n := C.length) (s := slpW up C); rw [hul_len]; omega
  first := by
    have h := hul_chain hc up
    rw [hul_get up (by have := hul_two hc up; omega), h.first]
    exact hc.first
  fit := fun i hi => by
    rw [hul_get up hi]
    have h := hul_chain hc up
    rw [hul_len] at hi
    exact hc.fit _ (h.bd i hi)
  rise := fun i hi => by
    rw [hul_get up hi, hul_get up (by omega)]
    have h := hul_chain hc up
    rw [hul_len] at hi
    exact hc.lt (h.lt i hi) (h.bd _ hi)
theorem hul_last {C : List Pt} (hc : CV C) (up : Bool) : (hulL up C).getD ((hulL up C).length - 1) (0, 0) = C.getD (C.length - 1) (0, 0) := by
  have h := hul_chain hc up
  rw [hul_get up (by have := hul_two hc up; omega), hul_len]
  have h3 := h.last
  rw [show (hullTo C.length (slpW up C) C.length).getD ((hullTo C.length (slpW up C) C.length).length - 1) 0 = C.length - 1 by omega]
theorem hul_mem {C : List Pt} (hc : CV C) (up : Bool) {k : Nat} (hk : k < (hulL up C).length) : ∃ j, j < C.length ∧ (hulL up C).getD k (0, 0) = C.getD j (0, 0) := by
  have h := hul_chain hc up
  have h2 := hk
  rw [hul_len] at h2
  exact ⟨_, h.bd k h2, hul_get up hk⟩
theorem lt_of_slopes {x0 y0 x1 y1 x2 y2 : Rat} (h1 : x0 < x1) (h2 : x1 < x2) (h : (y1 - y0) / (x1 - x0) < (y2 - y1) / (x2 - x1)) : (y1 - y0) * (x2 - x0) < (y2 - y0) * (x1 - x0) := by
  have e1 : (y1 - y0) / (x1 - x0) * (x1 - x0) = y1 - y0 := Rat.div_mul_cancel (by grind)
  have e2 : (y2 - y1) / (x2 - x1) * (x2 - x1) = y2 - y1 := Rat.div_mul_cancel (by grind)
  generalize (y1 - y0) / (x1 - x0) = a at *
  generalize (y2 - y1) / (x2 - x1) = b at *
  have h3 := Rat.mul_pos (Rat.mul_pos (show 0 < b - a by grind) (show 0 < x2 - x1 by grind)) (show 0 < x1 - x0 by grind)
  have i1 : y1 - y0 = a * (x1 - x0) := e1.symm
  have i2 : y2 - y0 = a * (x1 - x0) + b * (x2 - x1) := by grind
  rw [i1, i2]
  grind
/-- The slopes of the hull rise strictly. -/
theorem hul_rise {C : List Pt} (hc : CV C) {i : Nat} (hi : i + 2 < (hulL false C).length) :
    (((hulL false C).getD (i + 1) (0, 0)).2 - ((hulL false C).getD i (0, 0)).2) * (((hulL false C).getD (i + 2) (0, 0)).1 - ((hulL false C).getD i (0, 0)).1) < (((hulL false C).getD (i + 2) (0, 0)).2 - ((hulL false C).getD i (0, 0)).2) * (((hulL false C).getD (i + 1) (0, 0)).1 - ((hulL false C).getD i (0, 0)).1) := by
  have hv := hul_cv hc false
  have r1 := (hv.rise i (by omega)).1
  have r2 := (hv.rise (i + 1) (by omega)).1
  refine lt_of_slopes r1 r2 ?_
  rw [hul_get false (show i < _ by omega), hul_get false (show i + 1 < _ by omega), hul_get false (show i + 2 < _ by omega)]
  have h := hul_chain hc false
  rw [hul_len] at hi
  exact h.corner (i + 1) (by omega) _ (h.mono (show i < i + 1 by omega) (by omega)) _ (h.mono (show i + 1 < i + 2 by omega) (by omega)) (h.bd _ (by omega))
theorem not_below {x0 y0 x y x1 y1 : Rat} (h1 : x0 < x) (h2 : x0 < x1) (h : (y1 - y0) / (x1 - x0) ≤ (y - y0) / (x - x0)) : ¬ (y - y0) * (x1 - x0) < (y1 - y0) * (x - x0) := by
  have e1 : (y1 - y0) / (x1 - x0) * (x1 - x0) = y1 - y0 := Rat.div_mul_cancel (by grind)
  have e2 : (y - y0) / (x - x0) * (x - x0) = y - y0 := Rat.div_mul_cancel (by grind)
  generalize (y1 - y0) / (x1 - x0) = a at *
  generalize (y - y0) / (x - x0) = b at *
  have h3 := Rat.mul_nonneg (Rat.mul_nonneg (show 0 ≤ b - a by grind) (show 0 ≤ x - x0 by grind)) (show 0 ≤ x1 - x0 by grind)
  rw [← e1, ← e2]
  grind
/-- No point of the curve lies below the hull. -/
theorem hul_free {C : List Pt} (hc : CV C) {k m : Nat} (hk : k + 1 < (hulL false C).length) (hm : m < C.length) (h1 : ((hulL false C).getD k (0, 0)).1 ≤ (C.getD m (0, 0)).1) :
    ¬ ((C.getD m (0, 0)).2 - ((hulL false C).getD k (0, 0)).2) * (((hulL false C).getD (k + 1) (0, 0)).1 - ((hulL false C).getD k (0, 0)).1) < (((hulL false C).getD (k + 1) (0, 0)).2 - ((hulL false C).getD k (0, 0)).2) * ((C.getD m (0, 0)).1 - ((hulL false C).getD k (0, 0)).1) := by
  have hv := hul_cv hc false
  have r1 := (hv.rise k hk).1
  rw [hul_get false (show k < _ by omega)] at h1 r1 ⊢
  rw [hul_get false hk] at r1 ⊢
  have h := hul_chain hc false
  rw [hul_len] at hk
  have hb := h.bd k (by omega)
  have hl := h.least k hk
  generalize (hullTo C.length (slpW false C) C.length).getD k 0 = a at *
  generalize (hullTo C.length (slpW false C) C.length).getD (k + 1) 0 = b at *
  by_cases he : m = a
  · subst he
    grind
  · have ham : a < m := by
      apply Decidable.byContradiction
      intro hh
      have := (hc.lt (show m < a by omega) hb).1
      grind
    exact not_below (hc.lt ham hm).1 r1 (hl m ham hm)
/-- The hull of the hull is the hull. -/
theorem hul_fit {C : List Pt} (hc : CV C) (hf : HulF C) (up : Bool) : HulF (hulL up C) := by
  intro i j hij hj
  have h := hul_chain hc up
  rw [hul_get up hj, hul_get up (by omega)]
  rw [hul_len] at hj
  exact hf _ _ (h.mono hij hj) (h.bd j hj)
theorem map_range_getD {C : List Pt} : (List.range C.length).map (fun i => C.getD i (0, 0)) = C := by
  apply List.ext_getElem
  · simp
  · intro i h1 h2
    simp [List.getD_eq_getElem?_getD, List.getElem?_eq_getElem h2]
theorem hul_idem {C : List Pt} (hc : CV C) (up : Bool) : hulL up (hulL up C) = hulL up C := by
  have h := hul_chain hc up
  have hall : ∀ i, i < (hulL up C).length → CornerP (hulL up C).length (slpW up (hulL up C)) i := by
    intro i hi k hk l hl hln
    have e : ∀ a b, a < (hulL up C).length → b < (hulL up C).length → slpW up (hulL up C) a b = slpW up C ((hullTo C.length (slpW up C) C.length).getD a 0) ((hullTo C.length (slpW up C) C.length).getD b 0) := by
      intro a b ha hb
      have q : slpQ (hulL up C) a b = slpQ C ((hullTo C.length (slpW up C) C.length).getD a 0) ((hullTo C.length (slpW up C) C.length).getD b 0) := by
        show ((_ : Rat) - _) / (_ - _) = ((_ : Rat) - _) / (_ - _)
        rw [hul_get up ha, hul_get up hb]
      show (if up then -_ else _) = (if up then -_ else _)
      rw [q]
    rw [e k i (by omega) hi, e i l hi hln]
    rw [hul_len] at hi hln
    exact h.corner i hi _ (h.mono hk hi) _ (h.mono hl hln) (h.bd l hln)
  generalize hulL up C = D at *
  have e : hullTo D.length (slpW up D) D.length = List.range D.length := by
    unfold hullTo
    rw [List.filter_eq_self]
    intro i hi
    exact (cornerB_iff _ _ _).2 (hall i (List.mem_range.1 hi))
  unfold hulL
  rw [e]
  exact map_range_getD

end Go.Proofs.YtfkclcoipadhmaaDoor

/- Rationals in boxes; sizes of sums. -/
namespace Go.Proofs.YtfkclcoipadhmaaDoor
open Go.RowKit

theorem nat_row {lo : Nat} {W : World} {v : Value} {n bA : Nat} {b0 : Bool} {a1 a2 : Option Addr} {n1 c1 n2 c2 : Nat} {t : TypeId} (h : NatF lo W v n) (k : Blk W bA #[.bool b0, .slice a1 n1 c1, .slice a2 n2 c2] t) (cs : Array Value) : NatF lo (W.setRow bA cs) v n := by
  obtain ⟨ao, cap, rfl, h1, h2, hc⟩ := h
  refine ⟨ao, cap, rfl, h1, h2, fun hx => ?_⟩
  obtain ⟨b, off, rfl, hlo, hlt, hcell⟩ := hc hx
  have hne : b ≠ bA := by
    rintro rfl
    have hpos : 0 < (u32s (digs n)).length := List.length_pos_iff.2 hx
    have h3 := hcell 0 hpos
    rw [k.cell] at h3
    have h4 : (u32s (digs n)).getD 0 undef = .int .u32 (((digs n).getD 0 0 : Nat) : Int) := by
      have := u32s_getD (o := digs n) (j := 0) (by rwa [u32s_length] at hpos)
      rw [List.getD_eq_getElem?_getD, this]
      rfl
    rw [h4] at h3
    have h5 : off + 0 < 3 := by
      have := (Array.getElem?_eq_some_iff.1 h3).1
      simpa using this
    match off, h5 with
    | 0, _ => simp at h3
    | 1, _ => simp at h3
    | 2, _ => simp at h3
  refine ⟨b, off, rfl, hlo, by rw [row_size]; exact hlt, fun i hi => ?_⟩
  rw [World.cell?_of_block (row_other W bA cs hne)]
  exact hcell i hi
theorem q_row {lo : Nat} {W : World} {v : Value} {q : Rat} {bA : Nat} {b0 : Bool} {a1 a2 : Option Addr} {n1 c1 n2 c2 : Nat} {t : TypeId} (h : QF lo W v q) (k : Blk W bA #[.bool b0, .slice a1 n1 c1, .slice a2 n2 c2] t) (cs : Array Value) : QF lo (W.setRow bA cs) v q := by
  obtain ⟨n, d, rfl, h1, h2⟩ := h
  exact ⟨n, d, rfl, nat_row h1 k cs, nat_row h2 k cs⟩
/-- A rational in a box. -/
structure RBox (W : World) (B : Nat) (q : Rat) (b : Bool) (x1 : Option Addr) (m1 d1 : Nat) (x2 : Option Addr) (m2 d2 : Nat) : Prop where
  k : Blk W B #[.bool b, .slice x1 m1 d1, .slice x2 m2 d2] 43
  qf : QF 0 W (.agg #[.bool b, .slice x1 m1 d1, .slice x2 m2 d2]) q
section
variable {W W' : World} {B C : Nat} {q r : Rat} {b b' : Bool} {x1 x2 y1 y2 : Option Addr} {m1 d1 m2 d2 n1 e1 n2 e2 : Nat}
theorem RBox.below (h : RBox W B q b x1 m1 d1 x2 m2 d2) (hb : Below W.heap.size W W') : RBox W' B q b x1 m1 d1 x2 m2 d2 := ⟨h.k.below hb, h.qf.below hb⟩
theorem RBox.put (h : RBox W B q b x1 m1 d1 x2 m2 d2) (hq : QF 0 W (.agg #[.bool b', .slice y1 n1 e1, .slice y2 n2 e2]) r) :
    RBox (((W.setCell ⟨B, 0, none⟩ (.bool b')).setCell ⟨B, 1, none⟩ (.slice y1 n1 e1)).setCell ⟨B, 2, none⟩ (.slice y2 n2 e2)) B r b' y1 n1 e1 y2 n2 e2 :=
  ⟨(q_box hq h.k).2, (q_box hq h.k).1⟩
theorem RBox.keep (h : RBox W B q b x1 m1 d1 x2 m2 d2) {t : TypeId} {b0 : Bool} {a1 a2 : Option Addr} {f1 g1 f2 g2 : Nat} (k : Blk W C #[.bool b0, .slice a1 f1 g1, .slice a2 f2 g2] t) (hne : B ≠ C) :
    RBox (((W.setCell ⟨C, 0, none⟩ (.bool b')).setCell ⟨C, 1, none⟩ (.slice y1 n1 e1)).setCell ⟨C, 2, none⟩ (.slice y2 n2 e2)) B q b x1 m1 d1 x2 m2 d2 := by
  obtain ⟨hk, ⟨n, d, hv, h1, h2⟩⟩ := h
  have k1 := k.set 0 (.bool b')
  have k2 := k1.set 1 (.slice y1 n1 e1)
  exact ⟨((hk.other (p := ⟨C, 0, none⟩) hne _).other (p := ⟨C, 1, none⟩) hne _).other (p := ⟨C, 2, none⟩) hne _, ⟨n, d, hv, nat_box (nat_box (nat_box h1 k 0 _) k1 1 _) k2 2 _, nat_box (nat_box (nat_box h2 k 0 _) k1 1 _) k2 2 _⟩⟩
/-- A rational stored into a fresh box. -/
theorem RBox.fresh {w W : World} (hq : QF 0 w (.agg #[.bool b, .slice x1 m1 d1, .slice x2 m2 d2]) q) (hB : w.heap.size = B) (hW : w.alloc (.cells #[.bool b, .slice x1 m1 d1, .slice x2 m2 d2] 43) = W) : RBox W B q b x1 m1 d1 x2 m2 d2 := by
  subst hB
  subst hW
  exact ⟨Blk.new w _ _, hq.below (alloc_below w _)⟩
end
theorem pinfoQ : (Tryd.prog.info? 43).map (·.size) = some 3 := by kernel_rfl

/-- A rational in a box, whatever its parts. -/
def QBox (W : World) (B : Nat) (q : Rat) : Prop := ∃ b x1 m1 d1 x2 m2 d2, RBox W B q b x1 m1 d1 x2 m2 d2
theorem QBox.below {W W' : World} {B : Nat} {q : Rat} (h : QBox W B q) (hb : Below W.heap.size W W') : QBox W' B q := by
  obtain ⟨b, x1, m1, d1, x2, m2, d2, h⟩ := h
  exact ⟨_, _, _, _, _, _, _, h.below hb⟩
theorem QBox.lt {W : World} {B : Nat} {q : Rat} (h : QBox W B q) : B < W.heap.size := by
  obtain ⟨b, x1, m1, d1, x2, m2, d2, h⟩ := h
  exact h.k.lt
theorem RBox.q {W : World} {B : Nat} {q : Rat} {b : Bool} {x1 x2 : Option Addr} {m1 d1 m2 d2 : Nat} (h : RBox W B q b x1 m1 d1 x2 m2 d2) : QBox W B q := ⟨_, _, _, _, _, _, _, h⟩
theorem QBox.keep {W : World} {B C : Nat} {q : Rat} {b' : Bool} {y1 y2 : Option Addr} {n1 e1 n2 e2 : Nat} (h : QBox W B q) {t : TypeId} {b0 : Bool} {a1 a2 : Option Addr} {f1 g1 f2 g2 : Nat} (k : Blk W C #[.bool b0, .slice a1 f1 g1, .slice a2 f2 g2] t) (hne : B ≠ C) :
    QBox (((W.setCell ⟨C, 0, none⟩ (.bool b')).setCell ⟨C, 1, none⟩ (.slice y1 n1 e1)).setCell ⟨C, 2, none⟩ (.slice y2 n2 e2)) B q := by
  obtain ⟨b, x1, m1, d1, x2, m2, d2, h⟩ := h
  exact ⟨_, _, _, _, _, _, _, h.keep k hne⟩
theorem q_keep3 {lo : Nat} {W : World} {C : Nat} {q : Rat} {v : Value} {b' : Bool} {y1 y2 : Option Addr} {n1 e1 n2 e2 : Nat} (h : QF lo W v q) {t : TypeId} {b0 : Bool} {a1 a2 : Option Addr} {f1 g1 f2 g2 : Nat} (k : Blk W C #[.bool b0, .slice a1 f1 g1, .slice a2 f2 g2] t) :
    QF lo (((W.setCell ⟨C, 0, none⟩ (.bool b')).setCell ⟨C, 1, none⟩ (.slice y1 n1 e1)).setCell ⟨C, 2, none⟩ (.slice y2 n2 e2)) v q := by
  obtain ⟨n, d, hv, h1, h2⟩ := h
  have k1 := k.set 0 (.bool b')
  have k2 := k1.set 1 (.slice y1 n1 e1)
  exact ⟨n, d, hv, nat_box (nat_box (nat_box h1 k 0 _) k1 1 _) k2 2 _, nat_box (nat_box (nat_box h2 k 0 _) k1 1 _) k2 2 _⟩
theorem Below.set3 {S : Nat} {W W' : World} (h : Go.RowKit.Below S W W') {C : Nat} (hC : S ≤ C) (u0 u1 u2 : Value) : Go.RowKit.Below S W (((W'.setCell ⟨C, 0, none⟩ u0).setCell ⟨C, 1, none⟩ u1).setCell ⟨C, 2, none⟩ u2) :=
  Go.RowKit.Below.setCell (Go.RowKit.Below.setCell (Go.RowKit.Below.setCell h (p := ⟨C, 0, none⟩) hC u0) (p := ⟨C, 1, none⟩) hC u1) (p := ⟨C, 2, none⟩) hC u2
theorem digs_mul2 (a b : Nat) : (digs (a * b)).length ≤ (digs a).length + (digs b).length := digs_len_mul a b
theorem QS_add2 {k j : Nat} {a b : Rat} (ha : QS k a) (hb : QS j b) : QS (k + j + 1) (a + b) := by
  obtain ⟨a1, a2⟩ := ha
  obtain ⟨b1, b2⟩ := hb
  have m1 := digs_mul2 a.num.natAbs b.den
  have m2 := digs_mul2 b.num.natAbs a.den
  have m3 := digs_mul2 a.den b.den
  have hps := digs_len_add (a.num.natAbs * b.den) (b.num.natAbs * a.den)
  have hd := Nat.mul_ne_zero a.den_nz b.den_nz
  by_cases h : decide (a.num < 0) = decide (b.num < 0)
  · rw [← add_same h]
    exact QS_qmk hd (by omega) (by omega)
  · rcases Nat.le_total (b.num.natAbs * a.den) (a.num.natAbs * b.den) with hle | hle
    · rw [← add_diff h hle]
      exact QS_qmk hd (len_le_of_le (Nat.sub_le _ _) (by omega)) (by omega)
    · rw [← add_diff' h hle]
      exact QS_qmk hd (len_le_of_le (Nat.sub_le _ _) (by omega)) (by omega)

end Go.Proofs.YtfkclcoipadhmaaDoor

/- Walk of trankref02.steep. -/
namespace Go.Proofs.YtfkclcoipadhmaaDoor
open Go.RowKit
attribute [local irreducible] seqS seqST walkV walkJ

theorem sub_qs {a b : Rat} (ha : fits a) (hb : fits b) : QS 5 (a - b) := by
  have h2 : ∀ {q : Rat}, fits q → QS 2 q := fun {q} h => ⟨Nat.le_trans (digs_len_small (by have := h.1; omega)) (by decide), Nat.le_trans (digs_len_small (by have := h.2; omega)) (by decide)⟩
  exact QS_sub (h2 ha) (h2 hb)
theorem steep_qs {p q : Pt} (hp : fits p.1 ∧ fits p.2) (hq : fits q.1 ∧ fits q.2) (hne : p.1 < q.1) : QS 268435456 ((q.2 - p.2) / (q.1 - p.1)) :=
  (QS_div (sub_qs hq.2 hp.2) (sub_qs hq.1 hp.1) (by grind)).mono (by decide)

set_option maxHeartbeats 4000000 in
set_option maxRecDepth 100000 in
theorem steep_any (p q : Pt) (hp : fits p.1 ∧ fits p.2) (hq : fits q.1 ∧ fits q.2) (hne : p.1 < q.1) (w : World) :
    Calls Tryd.prog 129 #[ptQ p, ptQ q] w fun e w' => ∃ v', e = .returned v' ∧ QF w.heap.size w' v' ((q.2 - p.2) / (q.1 - p.1)) ∧ Below w.heap.size w w' := by
  have O1 := hid (fun w => ofQ_any q.2 hq.2 w)
  have O2 := hid (fun w => ofQ_any p.2 hp.2 w)
  have O3 := hid (fun w => ofQ_any q.1 hq.1 w)
  have O4 := hid (fun w => ofQ_any p.1 hp.1 w)
  have s1 := hid ((fits_S hq.2))
  have s2 := hid ((fits_S hp.2))
  have s3 := hid ((fits_S hq.1))
  have s4 := hid ((fits_S hp.1))
  have s5 := hid ((sub_qs hq.2 hp.2).mono (k' := 268435456) (by decide))
  have s6 := hid ((sub_qs hq.1 hp.1).mono (k' := 268435456) (by decide))
  have hn0 := hid (show q.1 - p.1 ≠ 0 by grind)
  unfold frQ at O1 O2 O3 O4
  unfold ptQ
  obtain ⟨p1, hp1⟩ : ∃ z, p.1.num = z := ⟨_, rfl⟩
  obtain ⟨p2, hp2⟩ : ∃ z, (p.1.den : Int) = z := ⟨_, rfl⟩
  obtain ⟨p3, hp3⟩ : ∃ z, p.2.num = z := ⟨_, rfl⟩
  obtain ⟨p4, hp4⟩ : ∃ z, (p.2.den : Int) = z := ⟨_, rfl⟩
  obtain ⟨q1, hq1⟩ : ∃ z, q.1.num = z := ⟨_, rfl⟩
  obtain ⟨q2, hq2⟩ : ∃ z, (q.1.den : Int) = z := ⟨_, rfl⟩
  obtain ⟨q3, hq3⟩ : ∃ z, q.2.num = z := ⟨_, rfl⟩
  obtain ⟨q4, hq4⟩ : ∃ z, (q.2.den : Int) = z := ⟨_, rfl⟩
  rw [hp1, hp2, hp3, hp4, hq1, hq2, hq3, hq4]
  rw [hq3, hq4] at O1
  rw [hp3, hp4] at O2
  rw [hq1, hq2] at O3
  rw [hp1, hp2] at O4
  clear hp1 hp2 hp3 hp4 hq1 hq2 hq3 hq4 hp hq hne
  obtain ⟨W, hW, k0, k1, k2, hB, hsz⟩ := three_new w #[.int .i64 p1, .int .i64 p2, .int .i64 p3, .int .i64 p4] #[.int .i64 q1, .int .i64 q2, .int .i64 q3, .int .i64 q4] #[.bool false, .slice none 0 0, .slice none 0 0] 52 52 43
  have HB := hid hB
  have HSZ := hid hsz
  clear hB hsz
  go_enter Tryd.func129, Tryd.ntmps129
  go_wp2_with fail
  clear hW
  have hd := (Below.refl W.heap.size W).drew
  have z0 := fun y : SubT (Below W.heap.size) W.drew => (k0.below (hd.trans y.b)).look 0 rfl
  have z1 := fun y : SubT (Below W.heap.size) W.drew => (k0.below (hd.trans y.b)).look 1 rfl
  have z2 := fun y : SubT (Below W.heap.size) W.drew => (k0.below (hd.trans y.b)).look 2 rfl
  have z3 := fun y : SubT (Below W.heap.size) W.drew => (k0.below (hd.trans y.b)).look 3 rfl
  have z4 := fun y : SubT (Below W.heap.size) W.drew => (k1.below (hd.trans y.b)).look 0 rfl
  have z5 := fun y : SubT (Below W.heap.size) W.drew => (k1.below (hd.trans y.b)).look 1 rfl
  have z6 := fun y : SubT (Below W.heap.size) W.drew => (k1.below (hd.trans y.b)).look 2 rfl
  have z7 := fun y : SubT (Below W.heap.size) W.drew => (k1.below (hd.trans y.b)).look 3 rfl
  refine wp_walkJ (T := Below (W.heap.size)) (belowV_pre _) (.rd 0 (.rd 1 (.rd 3 (.rd 4 (.rd 7 (.rd 8 (.rd 10 (.rd 11 (.mv 2 (.mv 5 (.mv 6 (.mv 9 (.bt 12 (.bt 13 (.bt 14 (.bt 15 (.inv []))))))))))))))))) (by kernel_rfl) rfl (by kernel_rfl) (by kernel_rfl) ?_
  iterate 8 (refine walkJ_rd rfl (fun K hK => ?_); go_simp; refine hK _ ?_; clear hK K)
  clear z0 z1 z2 z3 z4 z5 z6 z7
  (refine walkJ_mv rfl (fun K hK => ?_); go_simp; refine (O1.out _).mono ?_; rintro e w1 ⟨v1, rfl, h1, hb1⟩; refine ⟨_, rfl, hK _ _ hb1 ?_⟩; clear hK K)
  have d1 := hd.trans hb1
  (refine walkJ_mv rfl (fun K hK => ?_); go_simp; refine (O2.out _).mono ?_; rintro e w2 ⟨v2, rfl, h2, hb2⟩; refine ⟨_, rfl, hK _ _ (hb2.mono d1.size) ?_⟩; clear hK K)
  have d2 := d1.trans (hb2.mono d1.size)
  replace h1 := (h1.below hb2).mono (Nat.zero_le _)
  (refine walkJ_mv rfl (fun K hK => ?_); go_simp; refine (Less_any _ _ _ _ _ h1 (h2.mono (Nat.zero_le _)) s1.out s2.out).mono ?_; rintro e w3 ⟨v3, rfl, h3, hb3⟩; refine ⟨_, rfl, hK _ _ (hb3.mono d2.size) ?_⟩; clear hK K)
  have d3 := d2.trans (hb3.mono d2.size)
  (refine walkJ_mv rfl (fun K hK => ?_); go_simp; refine (O3.out _).mono ?_; rintro e w4 ⟨v4, rfl, h4, hb4⟩; refine ⟨_, rfl, hK _ _ (hb4.mono d3.size) ?_⟩; clear hK K)
  have d4 := d3.trans (hb4.mono d3.size)
  replace h3 := (h3.below hb4).mono (Nat.zero_le _)
  (refine walkJ_bt rfl (fun K hK => ?_); go_simp; refine (O4.out _).mono ?_; rintro e w5 ⟨v5, rfl, h5, hb5⟩; refine ⟨_, rfl, hK _ _ ?_⟩; clear hK K)
  have d5 := d4.trans (hb5.mono d4.size)
  replace h3 := h3.below hb5
  replace h4 := (h4.below hb5).mono (Nat.zero_le _)
  (refine walkJ_bt rfl (fun K hK => ?_); go_simp; refine (Less_any _ _ _ _ _ h4 (h5.mono (Nat.zero_le _)) s3.out s4.out).mono ?_; rintro e w6 ⟨v6, rfl, h6, hb6⟩; refine ⟨_, rfl, hK _ _ ?_⟩; clear hK K)
  have d6 := d5.trans (hb6.mono d5.size)
  replace h3 := h3.below hb6
  (refine walkJ_bt rfl (fun K hK => ?_); go_simp; refine (Over_any _ _ _ _ _ h3 (h6.mono (Nat.zero_le _)) s5.out s6.out hn0.out).mono ?_; rintro e w7 ⟨v7, rfl, h7, hb7⟩; refine ⟨_, rfl, hK _ _ ?_⟩; clear hK K)
  have d7 := d6.trans (hb7.mono d6.size)
  obtain ⟨a3, n3, c3, a4, n4, c4, hv⟩ := q_shape h7
  generalize decide (((q.2 - p.2) / (q.1 - p.1)).num < 0) = vb at hv
  subst hv
  have k27 := k2.below d7
  have q0 := k27.look 0 rfl
  have q1' := k27.look 1 rfl
  have q2' := k27.look 2 rfl
  have f2 := k27.frozen
  have hq8 := q_box h7 k27
  have hs6 := d6.size
  have F1 := hid (hq8.1.mono (show w.heap.size ≤ w6.heap.size by have := HB.out.size; omega))
  have K8 := hid hq8.2
  have F2 := hid (Below.set3 (HB.out.trans (d7.mono HB.out.size)) (show w.heap.size ≤ w.heap.size + 1 + 1 by omega) (.bool vb) (.slice a3 n3 c3) (.slice a4 n4 c4))
  clear h1 h2 h3 h4 h5 h6 h7 hb1 hb2 hb3 hb4 hb5 hb6 hb7 d1 d2 d3 d4 d5 d6 d7 hq8 k27 k0 k1 k2 hd hs6
  (refine walkJ_bt rfl (fun K hK => ?_); go_simp; refine hK _ _ ?_; clear hK K)
  refine walkJ_nil ?_
  go_wp2
  refine bodyPost_ret (v := .agg #[.bool vb, .slice a3 n3 c3, .slice a4 n4 c4]) ?_ rfl ⟨_, rfl, F1.out, F2.out⟩
  have r0 := K8.out.look 0 rfl
  have r1 := K8.out.look 1 rfl
  have r2 := K8.out.look 2 rfl
  simp [results, Tryd.results129, go_sem, r0, r1, r2]

end Go.Proofs.YtfkclcoipadhmaaDoor

/- Plainly: the reference's test of a corner. -/
namespace Go.Proofs.YtfkclcoipadhmaaDoor
open Go.RowKit

/-- The reference's greatest slope before, its least one behind (for the lower hull). -/
def swV (up : Bool) (x : Rat) : Rat := if up then -x else x
def befT (up : Bool) (C : List Pt) (i : Nat) : Nat → Rat
  | 0 => slpQ C 0 i
  | t + 1 => if t < i ∧ swV up (befT up C i t) < swV up (slpQ C t i) then slpQ C t i else befT up C i t
def behT (up : Bool) (C : List Pt) (i : Nat) : Nat → Rat
  | 0 => slpQ C i (C.length - 1)
  | t + 1 => if i < t ∧ swV up (slpQ C i t) < swV up (behT up C i t) then slpQ C i t else behT up C i t
theorem bef_one (up : Bool) (C : List Pt) {i : Nat} (hi : 0 < i) : ∀ t, ∃ j, j < i ∧ befT up C i t = slpQ C j i
  | 0 => ⟨0, hi, rfl⟩
  | t + 1 => by
    unfold befT
    split
    · rename_i h
      exact ⟨t, h.1, rfl⟩
    · exact bef_one up C hi t
theorem beh_one (up : Bool) (C : List Pt) {i : Nat} (hi : i + 1 < C.length) : ∀ t, t ≤ C.length → ∃ j, i < j ∧ j < C.length ∧ behT up C i t = slpQ C i j
  | 0, _ => ⟨C.length - 1, by omega, by omega, rfl⟩
  | t + 1, ht => by
    unfold behT
    split
    · rename_i h
      exact ⟨t, h.1, by omega, rfl⟩
    · exact beh_one up C hi t (by omega)
theorem bef_ge (up : Bool) (C : List Pt) {i : Nat} : ∀ t k, k < t → k < i → swV up (slpQ C k i) ≤ swV up (befT up C i t)
  | 0, k, h, _ => by omega
  | t + 1, k, h, hk => by
    unfold befT
    by_cases he : k = t
    · subst he
      split
      · exact Rat.le_refl
      · rename_i hh
        exact Rat.not_lt.1 (fun h2 => hh ⟨hk, h2⟩)
    · have ih := bef_ge up C (i := i) t k (by omega) hk
      split
      · rename_i hh
        have := hh.2
        grind
      · exact ih
theorem beh_le (up : Bool) (C : List Pt) {i : Nat} : ∀ t k, k < t → i < k → swV up (behT up C i t) ≤ swV up (slpQ C i k)
  | 0, k, h, _ => by omega
  | t + 1, k, h, hk => by
    unfold behT
    by_cases he : k = t
    · subst he
      split
      · exact Rat.le_refl
      · rename_i hh
        exact Rat.not_lt.1 (fun h2 => hh ⟨hk, h2⟩)
    · have ih := beh_le up C (i := i) t k (by omega) hk
      split
      · rename_i hh
        have := hh.2
        grind
      · exact ih
theorem slpW_sw (up : Bool) (C : List Pt) (i j : Nat) : slpW up C i j = swV up (slpQ C i j) := rfl
/-- The reference's test. -/
theorem corner_ref (up : Bool) (C : List Pt) {i : Nat} (hi : 0 < i) (hin : i + 1 < C.length) : decide (swV up (befT up C i C.length) < swV up (behT up C i C.length)) = cornerB C.length (slpW up C) i := by
  by_cases h : swV up (befT up C i C.length) < swV up (behT up C i C.length)
  · rw [decide_eq_true h]
    refine ((cornerB_iff _ _ _).2 fun k hk l hl hln => ?_).symm
    rw [slpW_sw, slpW_sw]
    have h1 := bef_ge up C (i := i) C.length k (by omega) hk
    have h2 := beh_le up C (i := i) C.length l hln hl
    grind
  · rw [decide_eq_false h]
    cases hc : cornerB C.length (slpW up C) i with
    | false => rfl
    | true =>
      exfalso
      have hP := (cornerB_iff _ _ _).1 hc
      obtain ⟨j, hj, e1⟩ := bef_one up C hi C.length
      obtain ⟨k, hk, hkn, e2⟩ := beh_one up C hin C.length (Nat.le_refl _)
      have := hP j hj k hk hkn
      rw [slpW_sw, slpW_sw, ← e1, ← e2] at this
      exact h this
theorem corner_end (up : Bool) {C : List Pt} {i : Nat} (h : i = 0 ∨ i + 1 = C.length) : cornerB C.length (slpW up C) i = true := by
  refine (cornerB_iff _ _ _).2 fun k hk l hl hln => ?_
  rcases h with h | h <;> omega
/-- What Order says of two rationals, turned about. -/
theorem sgn_sw (up : Bool) (x y : Rat) : (sgnQ (x - y) == (if up then (-1 : Int) else 1)) = decide (swV up y < swV up x) := by
  unfold sgnQ swV
  cases up with
  | true =>
    simp only [if_true]
    by_cases h : x - y < 0
    · rw [if_pos h, decide_eq_true (by grind)]; rfl
    · rw [if_neg h, decide_eq_false (by grind)]
      by_cases h2 : x - y = 0
      · rw [if_pos h2]; rfl
      · rw [if_neg h2]; rfl
  | false =>
    simp only [if_false, Bool.false_eq_true]
    by_cases h : x - y < 0
    · rw [if_pos h, decide_eq_false (by grind)]; rfl
    · rw [if_neg h]
      by_cases h2 : x - y = 0
      · rw [if_pos h2, decide_eq_false (by grind)]; rfl
      · rw [if_neg h2, decide_eq_true (by grind)]; rfl
theorem sgn_ws (up : Bool) (x y : Rat) : (sgnQ (x - y) == (if up then (1 : Int) else -1)) = decide (swV up x < swV up y) := by
  unfold sgnQ swV
  cases up with
  | true =>
    simp only [if_true]
    by_cases h : x - y < 0
    · rw [if_pos h, decide_eq_false (by grind)]; rfl
    · rw [if_neg h]
      by_cases h2 : x - y = 0
      · rw [if_pos h2, decide_eq_false (by grind)]; rfl
      · rw [if_neg h2, decide_eq_true (by grind)]; rfl
  | false =>
    simp only [if_false, Bool.false_eq_true]
    by_cases h : x - y < 0
    · rw [if_pos h, decide_eq_true (by grind)]; rfl
    · rw [if_neg h, decide_eq_false (by grind)]
      by_cases h2 : x - y = 0
      · rw [if_pos h2]; rfl
      · rw [if_neg h2]; rfl

end Go.Proofs.YtfkclcoipadhmaaDoor

/- Walk of trankref02.corner. -/
namespace Go.Proofs.YtfkclcoipadhmaaDoor
open Go.RowKit
attribute [local irreducible] seqS seqST walkV walkJ

/-- A variable that a region makes and fills with a rational. -/
def QVar (B : Nat) (w : World) (v : Value) (st : Bool) (q : Rat) : Prop :=
  ∃ g b a1 n1 c1 a2 n2 c2, v = .pointer (some ⟨g, 0, none⟩) ∧ B ≤ g ∧ Blk w g #[.bool b, .slice a1 n1 c1, .slice a2 n2 c2] 43 ∧ (st = true → QF 0 w (.agg #[.bool b, .slice a1 n1 c1, .slice a2 n2 c2]) q)
theorem QVar.below {B : Nat} {w w' : World} {v : Value} {st : Bool} {q : Rat} (h : QVar B w v st q) (hb : Below w.heap.size w w') : QVar B w' v st q := by
  obtain ⟨g, b, a1, n1, c1, a2, n2, c2, e1, e2, e3, e4⟩ := h
  exact ⟨g, b, a1, n1, c1, a2, n2, c2, e1, e2, e3.below hb, fun y => (e4 y).below hb⟩
structure CorI (B : Nat) (w0 : World) (s1 s2 : Rat) (l : Nat → Bool) (V : Nat → Value) (w : World) : Prop where
  b : Below B w0 w
  c7 : l 7 = true → QF 0 w (V 7) s1
  c18 : l 18 = true → QF 0 w (V 18) s2
  a19 : l 19 = true → QVar B w (V 19) (l 21) s1
  a20 : l 20 = true → QVar B w (V 20) (l 22) s2
  ne : l 19 = true → l 20 = true → V 19 ≠ V 20
theorem CorI.below {B : Nat} {w0 : World} {s1 s2 : Rat} {l : Nat → Bool} {V : Nat → Value} {w w' : World} (h : CorI B w0 s1 s2 l V w) (hb : Below w.heap.size w w') (hB : B ≤ w.heap.size) : CorI B w0 s1 s2 l V w' :=
  ⟨h.b.trans (hb.mono hB), fun x => (h.c7 x).below hb, fun x => (h.c18 x).below hb, fun x => (h.a19 x).below hb, fun x => (h.a20 x).below hb, h.ne⟩
theorem slp_steep (C : List Pt) (i j : Nat) : ((C.getD j (0, 0)).2 - (C.getD i (0, 0)).2) / ((C.getD j (0, 0)).1 - (C.getD i (0, 0)).1) = slpQ C i j := rfl
theorem slp_qs {C : List Pt} (hc : CV C) {i j : Nat} (h : i < j) (hj : j < C.length) : QS 268435456 (slpQ C i j) := steep_qs (hc.fit i (by omega)) (hc.fit j hj) (hc.lt h hj).1

set_option maxHeartbeats 8000000 in
set_option maxRecDepth 100000 in
theorem corner_any (C : List Pt) (v : Value) (hc : CV C) (up : Bool) (i : Nat) (hi : i < C.length) (w : World) (h : PsR 0 w v C) :
    Calls Tryd.prog 95 #[v, .int .i64 (i : Int), .int .i64 (if up then 1 else -1)] w fun r w' => r = .returned (.bool (cornerB C.length (slpW up C) i)) ∧ Below w.heap.size w w' := by
  obtain ⟨ao, cap, rfl, hcap, hmax, hcc⟩ := h
  unfold maxLen at hmax
  have HEND := hid (fun h => corner_end up (C := C) (i := i) h)
  have HREF := hid (fun h1 h2 => corner_ref up C (i := i) h1 h2)
  obtain ⟨R, hR⟩ : ∃ R, cornerB C.length (slpW up C) i = R := ⟨_, rfl⟩
  rw [hR] at HEND HREF ⊢
  have HCC := hid hcc
  have HCV := hid hc
  have h2 := hc.two
  have h48 := hc.most
  obtain ⟨L, hL⟩ : ∃ L, C.length = L := ⟨_, rfl⟩
  have HL := hid hL
  rw [hL] at hcap h2 h48 hi HEND HREF ⊢
  have hget : ∀ (k : Nat), k < L → ∃ b off, ao = some ⟨b, off, none⟩ ∧ b < w.heap.size ∧ ∀ W, Below w.heap.size w W → W.cell? ⟨b, off + k * 4, none⟩ = some (.int .i64 (C.getD k (0, 0)).1.num) ∧ W.cell? ⟨b, off + k * 4 + 1, none⟩ = some (.int .i64 ((C.getD k (0, 0)).1.den : Int)) ∧ W.cell? ⟨b, off + k * 4 + 2, none⟩ = some (.int .i64 (C.getD k (0, 0)).2.num) ∧ W.cell? ⟨b, off + k * 4 + 3, none⟩ = some (.int .i64 ((C.getD k (0, 0)).2.den : Int)) := by
    intro k hk
    obtain ⟨b, off, he, hb, x0, x1, x2, x3⟩ := p_cell HCC.out (show k < C.length by rw [HL.out]; exact hk)
    exact ⟨b, off, he, hb, fun W hW => ⟨(hW.cell (p := ⟨b, off + k * 4, none⟩) hb).trans x0, (hW.cell (p := ⟨b, off + k * 4 + 1, none⟩) hb).trans x1, (hW.cell (p := ⟨b, off + k * 4 + 2, none⟩) hb).trans x2, (hW.cell (p := ⟨b, off + k * 4 + 3, none⟩) hb).trans x3⟩⟩
  have HGET := hid hget
  obtain ⟨wy, hwy⟩ : ∃ z : Int, (if up then 1 else -1) = z := ⟨_, rfl⟩
  obtain ⟨nw, hnw⟩ : ∃ z : Int, (if up then -1 else 1) = z := ⟨_, rfl⟩
  have wN : IntKind.i64.wrap (-wy) = nw := by rw [← hwy, ← hnw]; cases up <;> decide
  have SW := hid (fun x y => (sgn_sw up x y).symm.trans (show _ = (sgnQ (x - y) == nw) by rw [hnw]))
  have WS := hid (fun x y => (sgn_ws up x y).symm.trans (show _ = (sgnQ (x - y) == wy) by rw [hwy]))
  rw [hwy]
  clear hc hcc hR hL hget hwy hnw
  have wL : IntKind.i64.wrap ((L : Int) - 1) = ((L - 1 : Nat) : Int) := by rw [IntWalk.i64_left]; unfold wrap64; omega
  go_enter Tryd.func95, Tryd.ntmps95
  by_cases hi0 : i = 0
  case pos =>
    obtain rfl : R = true := HEND.out (.inl hi0)
    subst hi0
    go_wp2
    go_ret
    exact ⟨rfl, Below.refl _ _⟩
  have hne0 : ((i : Int) == 0) = false := by simp; exact hi0
  by_cases hi1 : i + 1 = L
  case pos =>
    obtain rfl : R = true := HEND.out (.inr hi1)
    have hne1 : ((i : Int) == ((L - 1 : Nat) : Int)) = true := by simp; omega
    clear hi1
    go_wp2
    go_ret
    exact ⟨rfl, Below.refl _ _⟩
  have hne1 : ((i : Int) == ((L - 1 : Nat) : Int)) = false := by simp; omega
  have hin : i + 1 < L := by omega
  have hip : 0 < i := by omega
  have hRef := HREF.out (by omega) hin
  have HRF := hid hRef
  have hi2 : (i : Int) < (L : Int) := by omega
  have hL1 : ((L - 1 : Nat) : Int) < (L : Int) := by omega
  have hL0 : (0 : Int) < (L : Int) := by omega
  have hL3 : 0 < L := by omega
  have hL4 : L - 1 < L := by omega
  obtain ⟨b, off, rfl, hb, G0⟩ := HGET.out 0 (by omega)
  obtain ⟨bi, ofi, hei, hbi, GI⟩ := HGET.out i (by omega)
  obtain ⟨rfl, rfl⟩ : b = bi ∧ off = ofi := by simpa using hei
  obtain ⟨bn, ofn, hen, hbn, GN⟩ := HGET.out (L - 1) (by omega)
  obtain ⟨rfl, rfl⟩ : b = bn ∧ off = ofn := by simpa using hen
  simp only [Nat.zero_mul, Nat.add_zero] at G0
  have ST1 := hid (fun w => steep_any (C.getD 0 (0, 0)) (C.getD i (0, 0)) (HCV.out.fit 0 (by rw [HL.out]; omega)) (HCV.out.fit i (by rw [HL.out]; omega)) (HCV.out.lt (by omega) (by rw [HL.out]; omega)).1 w)
  have ST2 := hid (fun w => steep_any (C.getD i (0, 0)) (C.getD (L - 1) (0, 0)) (HCV.out.fit i (by rw [HL.out]; omega)) (HCV.out.fit (L - 1) (by rw [HL.out]; omega)) (HCV.out.lt (by omega) (by rw [HL.out]; omega)).1 w)
  rw [slp_steep] at ST1 ST2
  have eB0 : befT up C i 0 = slpQ C 0 i := rfl
  have eH0 : behT up C i 0 = slpQ C i (L - 1) := by show slpQ C i (C.length - 1) = _; rw [HL.out]
  have EB0 := hid eB0
  have EH0 := hid eH0
  unfold ptQ at ST1 ST2
  clear hi0 hi1 hRef HREF HEND hei hen hbi hbn eB0 eH0
  obtain ⟨P0, hP0⟩ : ∃ P, C.getD 0 (0, 0) = P := ⟨_, rfl⟩
  obtain ⟨PI, hPI⟩ : ∃ P, C.getD i (0, 0) = P := ⟨_, rfl⟩
  obtain ⟨PN, hPN⟩ : ∃ P, C.getD (L - 1) (0, 0) = P := ⟨_, rfl⟩
  rw [hP0] at G0 ST1
  rw [hPI] at GI ST1 ST2
  rw [hPN] at GN ST2
  have HPI := hid hPI
  clear hP0 hPI hPN
  go_wp2_with fail
  have hd0 := (Below.refl w.heap.size w).drew
  have z0 := fun y : SubT (Below w.heap.size) w.drew => (G0 y.w (hd0.trans y.b)).1
  have z1 := fun y : SubT (Below w.heap.size) w.drew => (G0 y.w (hd0.trans y.b)).2.1
  have z2 := fun y : SubT (Below w.heap.size) w.drew => (G0 y.w (hd0.trans y.b)).2.2.1
  have z3 := fun y : SubT (Below w.heap.size) w.drew => (G0 y.w (hd0.trans y.b)).2.2.2
  have z4 := fun y : SubT (Below w.heap.size) w.drew => (GI y.w (hd0.trans y.b)).1
  have z5 := fun y : SubT (Below w.heap.size) w.drew => (GI y.w (hd0.trans y.b)).2.1
  have z6 := fun y : SubT (Below w.heap.size) w.drew => (GI y.w (hd0.trans y.b)).2.2.1
  have z7 := fun y : SubT (Below w.heap.size) w.drew => (GI y.w (hd0.trans y.b)).2.2.2
  have z8 := fun y : SubT (Below w.heap.size) w.drew => (GN y.w (hd0.trans y.b)).1
  have z9 := fun y : SubT (Below w.heap.size) w.drew => (GN y.w (hd0.trans y.b)).2.1
  have z10 := fun y : SubT (Below w.heap.size) w.drew => (GN y.w (hd0.trans y.b)).2.2.1
  have z11 := fun y : SubT (Below w.heap.size) w.drew => (GN y.w (hd0.trans y.b)).2.2.2
  have HG0 := hid G0
  have HGI := hid GI
  have HGN := hid GN
  clear G0 GI GN
  refine wp_walkJ (T := Below (w.heap.size)) (belowV_pre _) (.rd 0 (.rd 1 (.rd 2 (.rd 3 (.rd 4 (.rd 5 (.rd 6 (.rd 8 (.rd 9 (.rd 10 (.rd 11 (.rd 12 (.rd 13 (.rd 14 (.rd 15 (.rd 16 (.rd 17 (.inv [7, 18, 19, 20, 21, 22])))))))))))))))))) (by kernel_rfl) rfl (by kernel_rfl) (by kernel_rfl) ?_
  iterate 17 (refine walkJ_rd rfl (fun K hK => ?_); go_simp; refine hK _ ?_; clear hK K)
  clear z0 z1 z2 z3 z4 z5 z6 z7 z8 z9 z10 z11
  obtain ⟨Wd, hWd⟩ : ∃ Wd, w.drew = Wd := ⟨_, rfl⟩
  have hs9 : w.heap.size = Wd.heap.size := by rw [← hWd]; rfl
  rw [hWd] at hd0 ⊢
  clear hWd
  have HS9 := hid hs9
  clear hs9
  refine walkJ_inv (CorI w.heap.size w (slpQ C 0 i) (slpQ C i (L - 1))) [(7, 27), (18, 38), (19, 7), (20, 8)] (by kernel_rfl) ?_ ?_ ?_
  · exact ⟨hd0, fun h => (by cases h), fun h => (by cases h), fun h => (by cases h), fun h => (by cases h), fun h => (by cases h)⟩
  · refine stepsI_cons [] [18, 21, 22] [] rfl (by kernel_rfl) (by kernel_rfl) (by kernel_rfl) (fun K l V x hx hl hds hn hI hK => ?_) ?_
    · go_simp
      have hsx : w.heap.size ≤ x.heap.size := by rw [HS9.out]; exact hx.size
      refine (ST1.out _).mono ?_
      rintro e w9 ⟨v9, rfl, hq9, hb9⟩
      refine ⟨_, rfl, hK _ _ (hb9.mono hsx) ?_⟩
      have h2 := hI.below hb9 hsx
      exact ⟨h2.b, fun _ => hq9.mono (Nat.zero_le _), fun h => h2.c18 h, fun h => h2.a19 h, fun h => h2.a20 h, fun h h' => h2.ne h h'⟩
    refine stepsI_cons [7] [21, 22] [(7, 27)] rfl (by kernel_rfl) (by kernel_rfl) (by kernel_rfl) (fun K l V x hx hl hds hn hI hK => ?_) ?_
    · go_simp
      have hsx : w.heap.size ≤ x.heap.size := by rw [HS9.out]; exact hx.size
      refine (ST2.out _).mono ?_
      rintro e w9 ⟨v9, rfl, hq9, hb9⟩
      refine ⟨_, rfl, hK _ _ (hb9.mono hsx) ?_⟩
      have h2 := hI.below hb9 hsx
      exact ⟨h2.b, fun h => h2.c7 h, fun _ => hq9.mono (Nat.zero_le _), fun h => h2.a19 h, fun h => h2.a20 h, fun h h' => h2.ne h h'⟩
    refine stepsI_cons [] [21, 22] [] rfl (by kernel_rfl) (by kernel_rfl) (by kernel_rfl) (fun K l V x hx hl hds hn hI hK => ?_) ?_
    · go_simp
      have hsx : w.heap.size ≤ x.heap.size := by rw [HS9.out]; exact hx.size
      have hb9 := alloc_below x (.cells #[.bool false, .slice none 0 0, .slice none 0 0] 43)
      refine hK _ _ (hb9.mono hsx) ?_
      have h2 := hI.below hb9 hsx
      refine ⟨h2.b, fun h => h2.c7 h, fun h => h2.c18 h, fun _ => ⟨x.heap.size, false, none, 0, 0, none, 0, 0, rfl, hsx, Blk.new x _ _, fun h => ?_⟩, fun h => h2.a20 h, fun _ h' e => ?_⟩
      · have h3 : l 21 = true := h
        rw [hds.1] at h3
        cases h3
      · obtain ⟨g, b', a1, n1, c1, a2, n2, c2, e1, -, e3, -⟩ := hI.a20 h'
        have h3 : Value.pointer (some ⟨x.heap.size, 0, none⟩) = V 20 := e
        rw [e1] at h3
        have h4 := e3.lt
        injection h3 with h5
        injection h5 with h6
        injection h6 with h7
        omega
    refine stepsI_cons [] [21, 22] [] rfl (by kernel_rfl) (by kernel_rfl) (by kernel_rfl) (fun K l V x hx hl hds hn hI hK => ?_) ?_
    · go_simp
      have hsx : w.heap.size ≤ x.heap.size := by rw [HS9.out]; exact hx.size
      have hb9 := alloc_below x (.cells #[.bool false, .slice none 0 0, .slice none 0 0] 43)
      refine hK _ _ (hb9.mono hsx) ?_
      have h2 := hI.below hb9 hsx
      refine ⟨h2.b, fun h => h2.c7 h, fun h => h2.c18 h, fun h => h2.a19 h, fun _ => ⟨x.heap.size, false, none, 0, 0, none, 0, 0, rfl, hsx, Blk.new x _ _, fun h => ?_⟩, fun h' _ e => ?_⟩
      · have h3 : l 22 = true := h
        rw [hds.2.1] at h3
        cases h3
      · obtain ⟨g, b', a1, n1, c1, a2, n2, c2, e1, -, e3, -⟩ := hI.a19 h'
        have h3 : V 19 = Value.pointer (some ⟨x.heap.size, 0, none⟩) := e
        rw [e1] at h3
        have h4 := e3.lt
        injection h3 with h5
        injection h5 with h6
        injection h6 with h7
        omega
    refine stepsI_cons [7, 18, 19, 20] [22] [(7, 27), (18, 38), (19, 7), (20, 8)] rfl (by kernel_rfl) (by kernel_rfl) (by kernel_rfl) (fun K l V x hx hl hds hn hI hK => ?_) ?_
    · obtain ⟨g, b', a1, n1, c1, a2, n2, c2, e1, e2, e3, -⟩ := hI.a19 hl.2.2.1
      obtain ⟨y1, y2, y3, y4, y5, y6, hv⟩ := q_shape (hI.c7 hl.1)
      have hb9 := row_below (Below.refl w.heap.size x) e2 #[.bool (decide ((slpQ C 0 i).num < 0)), .slice y1 y2 y3, .slice y4 y5 y6]
      refine ⟨rfl, gives_store_row 43 (.tmp 7) (.tmp 27) rfl g _ e1 hv 43 _ e3 pinfoQ rfl (by simp [Value.oneCell']) (hK _ _ hb9 ?_)⟩
      refine ⟨hI.b.trans hb9, fun h => q_row (hI.c7 h) e3 _, fun h => q_row (hI.c18 h) e3 _, fun _ => ⟨g, _, y1, y2, y3, y4, y5, y6, e1, e2, row_blk e3, fun _ => ?_⟩, fun h => ?_, fun h h' => hI.ne h h'⟩
      · have h4 := q_row (hI.c7 hl.1) e3 #[.bool (decide ((slpQ C 0 i).num < 0)), .slice y1 y2 y3, .slice y4 y5 y6]
        rw [hv] at h4
        exact h4
      · obtain ⟨g2, b2, f1, f2, f3, f4, f5, f6, k1, k2, k3, k4⟩ := hI.a20 h
        refine ⟨g2, b2, f1, f2, f3, f4, f5, f6, k1, k2, row_blk_other k3 (fun e => ?_), fun y => q_row (k4 y) e3 _⟩
        exact hI.ne hl.2.2.1 h (by rw [e1, k1, e])
    refine stepsI_cons [7, 18, 19, 20, 21] [] [(7, 27), (18, 38), (19, 7), (20, 8)] rfl (by kernel_rfl) (by kernel_rfl) (by kernel_rfl) (fun K l V x hx hl hds hn hI hK => ?_) ?_
    · obtain ⟨g, b', a1, n1, c1, a2, n2, c2, e1, e2, e3, -⟩ := hI.a20 hl.2.2.2.1
      obtain ⟨y1, y2, y3, y4, y5, y6, hv⟩ := q_shape (hI.c18 hl.2.1)
      have hb9 := row_below (Below.refl w.heap.size x) e2 #[.bool (decide ((slpQ C i (L - 1)).num < 0)), .slice y1 y2 y3, .slice y4 y5 y6]
      refine ⟨rfl, gives_store_row 43 (.tmp 8) (.tmp 38) rfl g _ e1 hv 43 _ e3 pinfoQ rfl (by simp [Value.oneCell']) (hK _ _ hb9 ?_)⟩
      refine ⟨hI.b.trans hb9, fun h => q_row (hI.c7 h) e3 _, fun h => q_row (hI.c18 h) e3 _, fun h => ?_, fun _ => ⟨g, _, y1, y2, y3, y4, y5, y6, e1, e2, row_blk e3, fun _ => ?_⟩, fun h h' => hI.ne h h'⟩
      · obtain ⟨g2, b2, f1, f2, f3, f4, f5, f6, k1, k2, k3, k4⟩ := hI.a19 h
        refine ⟨g2, b2, f1, f2, f3, f4, f5, f6, k1, k2, row_blk_other k3 (fun e => ?_), fun y => q_row (k4 y) e3 _⟩
        exact hI.ne h hl.2.2.2.1 (by rw [e1, k1, e])
      · have h4 := q_row (hI.c18 hl.2.1) e3 #[.bool (decide ((slpQ C i (L - 1)).num < 0)), .slice y1 y2 y3, .slice y4 y5 y6]
        rw [hv] at h4
        exact h4
    exact stepsI_nil
  intro V W2 hW2 hI
  obtain ⟨B7, j1, j2, j3, j4, j5, j6, j7, e7, g7, k7, q7⟩ := hI.a19 rfl
  obtain ⟨B8, j1', j2', j3', j4', j5', j6', j7', e8, g8, k8, q8⟩ := hI.a20 rfl
  have hne78 : B7 ≠ B8 := fun e => hI.ne rfl rfl (by rw [e7, e8, e])
  have Q7 : Hid (QBox W2 B7 (befT up C i 0)) := hid (by rw [EB0.out]; exact RBox.q ⟨k7, q7 rfl⟩)
  have Q8 : Hid (QBox W2 B8 (behT up C i 0)) := hid (by rw [EH0.out]; exact RBox.q ⟨k8, q8 rfl⟩)
  have HNE := hid hne78
  have hbI := hI.b
  obtain ⟨v7, e70⟩ : ∃ v, V 7 = v := ⟨_, rfl⟩
  obtain ⟨v18, e18⟩ : ∃ v, V 18 = v := ⟨_, rfl⟩
  simp only [putsP, e7, e8, e70, e18]
  clear hI q7 q8 k7 k8 e7 e8 e70 e18 hd0 HS9 hW2 ST1 ST2 EB0 EH0
  go_simp
  go_wp2_with fail
  go_loopw [41] (fun x wr => ∃ t : Nat, x = .int .i64 t ∧ t ≤ L ∧ Hid (QBox wr B7 (befT up C i t)) ∧ Hid (QBox wr B8 (behT up C i t)) ∧ Below w.heap.size w wr) (fun x _ => L - (intOf x).toNat)
  case atStart => exact ⟨0, rfl, Nat.zero_le _, Q7, Q8, hbI⟩
  case round =>
    clear Q7 Q8 hbI
    obtain ⟨t, rfl, ht, Q7, Q8, hbel⟩ := hrel
    have hsr := hbel.size
    by_cases htL : t < L
    case pos =>
      have ht2 : (t : Int) < (L : Int) := by omega
      obtain ⟨bt, oft, het, hbt, GT⟩ := HGET.out t htL
      obtain ⟨rfl, rfl⟩ : b = bt ∧ off = oft := by simpa using het
      obtain ⟨x0, x1, x2, x3⟩ := GT wr hbel
      have stB : befT up C i (t + 1) = if t < i ∧ swV up (befT up C i t) < swV up (slpQ C t i) then slpQ C t i else befT up C i t := rfl
      have stH : behT up C i (t + 1) = if i < t ∧ swV up (slpQ C i t) < swV up (behT up C i t) then slpQ C i t else behT up C i t := rfl
      have fT := HCV.out.fit t (by rw [HL.out]; omega)
      have fI := HCV.out.fit i (by rw [HL.out]; omega)
      have lt1 := fun (h : t < i) => (HCV.out.lt h (by rw [HL.out]; omega)).1
      have lt2 := fun (h : i < t) => (HCV.out.lt h (by rw [HL.out]; exact htL)).1
      have qsB : QS 268435456 (befT up C i t) := by
        obtain ⟨j, hj, e⟩ := bef_one up C (i := i) (by omega) t
        rw [e]
        exact slp_qs HCV.out hj (by rw [HL.out]; omega)
      have qsH : QS 268435456 (behT up C i t) := by
        obtain ⟨j, hj, hjn, e⟩ := beh_one up C (i := i) (by rw [HL.out]; omega) t (by rw [HL.out]; omega)
        rw [e]
        exact slp_qs HCV.out hj hjn
      have ST1 := hid (fun (h : t < i) (w : World) => steep_any (C.getD t (0, 0)) (C.getD i (0, 0)) fT fI (lt1 h) w)
      have ST2 := hid (fun (h : i < t) (w : World) => steep_any (C.getD i (0, 0)) (C.getD t (0, 0)) fI fT (lt2 h) w)
      have SQ1 := hid (fun (h : t < i) => slp_qs HCV.out h (by rw [HL.out]; omega))
      have SQ2 := hid (fun (h : i < t) => slp_qs HCV.out h (by rw [HL.out]; exact htL))
      rw [slp_steep] at ST1 ST2
      rw [HPI.out] at ST1 ST2
      obtain ⟨PT, hPT⟩ : ∃ P, C.getD t (0, 0) = P := ⟨_, rfl⟩
      rw [hPT] at x0 x1 x2 x3 ST1 ST2
      have STB := hid stB
      have STH := hid stH
      have QSB := hid qsB
      have QSH := hid qsH
      obtain ⟨t1, ht1⟩ : ∃ z, PT.1.num = z := ⟨_, rfl⟩
      obtain ⟨t2, ht2'⟩ : ∃ z, (PT.1.den : Int) = z := ⟨_, rfl⟩
      obtain ⟨t3, ht3⟩ : ∃ z, PT.2.num = z := ⟨_, rfl⟩
      obtain ⟨t4, ht4⟩ : ∃ z, (PT.2.den : Int) = z := ⟨_, rfl⟩
      unfold ptQ at ST1 ST2
      rw [ht1, ht2', ht3, ht4] at ST1 ST2
      rw [ht1] at x0
      rw [ht2'] at x1
      rw [ht3] at x2
      rw [ht4] at x3
      have kP := Blk.new wr #[.int .i64 t1, .int .i64 t2, .int .i64 t3, .int .i64 t4] 52
      have bP := alloc_below wr (.cells #[.int .i64 t1, .int .i64 t2, .int .i64 t3, .int .i64 t4] 52)
      have Q7P := hid (Q7.out.below bP)
      have Q8P := hid (Q8.out.below bP)
      have hbP := hbel.trans (bP.mono hsr)
      clear het hbt GT stB stH fT fI lt1 lt2 qsB qsH hPT ht1 ht2' ht3 ht4 Q7 Q8 hbel
      go_wp2_with fail
      obtain ⟨W, hW⟩ : ∃ W, wr.alloc (.cells #[.int .i64 t1, .int .i64 t2, .int .i64 t3, .int .i64 t4] 52) = W := ⟨_, rfl⟩
      obtain ⟨gP, hgP⟩ : ∃ g, wr.heap.size = g := ⟨_, rfl⟩
      rw [hW] at kP Q7P Q8P hbP ⊢
      rw [hgP] at kP hsr ⊢
      clear hW hgP bP x0 x1 x2 x3
      have hsP := hbP.size
      have hd := (Below.refl W.heap.size W).drew
      by_cases hti : t < i
      case pos =>
        have hti2 : (t : Int) < (i : Int) := by omega
        have hti3 : ¬ i < t := by omega
        have hti4 : ¬ (i : Int) < (t : Int) := by omega
        have stH : behT up C i (t + 1) = behT up C i t := by rw [STH.out, if_neg (fun h => hti3 h.1)]
        have stB := STB.out
        have HSH := hid stH
        obtain ⟨b7, y1, m1, d1, y2, m2, d2, R7⟩ := Q7P.out
        have qs1 := SQ1.out hti
        have sw := SW.out (slpQ C t i) (befT up C i t)
        have S1 := hid (ST1.out hti)
        have OR := hid (fun u v w h1 h2 => Order_any (slpQ C t i) (befT up C i t) u v w h1 h2 qs1 QSB.out)
        obtain ⟨zo, hzo⟩ : ∃ z, sgnQ (slpQ C t i - befT up C i t) = z := ⟨_, rfl⟩
        rw [hzo] at OR sw
        have z0 := fun y : SubT (Below W.heap.size) W.drew => (kP.below (hd.trans y.b)).look 0 rfl
        have z1 := fun y : SubT (Below W.heap.size) W.drew => (kP.below (hd.trans y.b)).look 1 rfl
        have z2 := fun y : SubT (Below W.heap.size) W.drew => (kP.below (hd.trans y.b)).look 2 rfl
        have z3 := fun y : SubT (Below W.heap.size) W.drew => (kP.below (hd.trans y.b)).look 3 rfl
        have z4 := fun y : SubT (Below W.heap.size) W.drew => (HGI.out y.w (hbP.trans ((hd.trans y.b).mono hsP))).1
        have z5 := fun y : SubT (Below W.heap.size) W.drew => (HGI.out y.w (hbP.trans ((hd.trans y.b).mono hsP))).2.1
        have z6 := fun y : SubT (Below W.heap.size) W.drew => (HGI.out y.w (hbP.trans ((hd.trans y.b).mono hsP))).2.2.1
        have z7 := fun y : SubT (Below W.heap.size) W.drew => (HGI.out y.w (hbP.trans ((hd.trans y.b).mono hsP))).2.2.2
        have z8 := fun y : SubT (Below W.heap.size) W.drew => (R7.k.below (hd.trans y.b)).look 0 rfl
        have z9 := fun y : SubT (Below W.heap.size) W.drew => (R7.k.below (hd.trans y.b)).look 1 rfl
        have z10 := fun y : SubT (Below W.heap.size) W.drew => (R7.k.below (hd.trans y.b)).look 2 rfl
        clear hzo ST1 ST2 SQ1 SQ2 stH
        have SWH := hid sw
        have STB2 := hid stB
        clear sw stB
        refine wp_walkJ (T := Below (W.heap.size)) (belowV_pre _) (.rd 0 (.rd 1 (.rd 2 (.rd 3 (.rd 4 (.rd 5 (.rd 6 (.rd 7 (.rd 8 (.rd 10 (.rd 12 (.rd 13 (.mv 9 (.mv 11 (.rd 14 (.rd 15 (.inv []))))))))))))))))) (by kernel_rfl) rfl (by kernel_rfl) (by kernel_rfl) ?_
        iterate 12 (refine walkJ_rd rfl (fun K hK => ?_); go_simp; refine hK _ ?_; clear hK K)
        clear z0 z1 z2 z3 z4 z5 z6 z7 z8 z9 z10
        (refine walkJ_mv rfl (fun K hK => ?_); go_simp; refine (S1.out _).mono ?_; rintro e w1 ⟨v1, rfl, h1, hb1⟩; refine ⟨_, rfl, hK _ _ hb1 ?_⟩; clear hK K)
        have d1' := hd.trans hb1
        (refine walkJ_mv rfl (fun K hK => ?_); go_simp; refine (OR.out _ _ _ (h1.mono (Nat.zero_le _)) (R7.qf.below d1')).mono ?_; rintro e w2 ⟨rfl, hb2⟩; refine ⟨_, rfl, hK _ _ (hb2.mono d1'.size) ?_⟩; clear hK K)
        have d2' := d1'.trans (hb2.mono d1'.size)
        have hb2' := hbP.trans (d2'.mono hsP)
        have Q72 := hid (Q7P.out.below d2')
        have Q82 := hid (Q8P.out.below d2')
        have kP2 := kP.below d2'
        clear h1 hb1 hb2 d1' d2' hd R7 Q7P Q8P kP hbP OR
        cases hcond : (zo == nw) with
        | false =>
          have hst : befT up C i (t + 1) = befT up C i t := by
            rw [STB2.out, if_neg]
            rintro ⟨-, h⟩
            have := SWH.out
            rw [hcond, decide_eq_true h] at this
            cases this
          have HSB := hid hst
          clear hst SWH STB2
          iterate 2 (refine walkJ_rd rfl (fun K hK => ?_); go_simp; refine hK _ ?_; clear hK K)
          refine walkJ_nil ?_
          go_wp2_with fail
          have hdz := (Below.refl w2.heap.size w2).drew
          refine wp_walkJ (T := Below (w2.heap.size)) (belowV_pre _) (.rd 0 (.rd 1 (.rd 2 (.rd 3 (.rd 4 (.rd 5 (.rd 6 (.rd 7 (.rd 8 (.rd 10 (.rd 12 (.mv 9 (.mv 11 (.rd 13 (.rd 14 (.inv [])))))))))))))))) (by kernel_rfl) rfl (by kernel_rfl) (by kernel_rfl) ?_
          iterate 11 (refine walkJ_rd rfl (fun K hK => ?_); go_simp; refine hK _ ?_; clear hK K)
          (refine walkJ_sk rfl (fun K hK => ?_); go_simp; refine hK _ ?_; clear hK K)
          (refine walkJ_sk rfl (fun K hK => ?_); go_simp; refine hK _ ?_; clear hK K)
          iterate 2 (refine walkJ_rd rfl (fun K hK => ?_); go_simp; refine hK _ ?_; clear hK K)
          refine walkJ_nil ?_
          have Q7F := hid (Q72.out.below hdz)
          have Q8F := hid (Q82.out.below hdz)
          have hbF := hb2'.trans (hdz.mono hb2'.size)
          clear hdz Q72 Q82 hb2'
          go_wp2
          go_roundw
          case rel => exact ⟨t + 1, by go_num, by omega, by rw [HSB.out]; exact Q7F, by rw [HSH.out]; exact Q8F, hbF⟩
          case measure => simp [intOf] <;> omega
        | true =>
          have hst : befT up C i (t + 1) = slpQ C t i := by
            have h9 := SWH.out
            rw [hcond] at h9
            rw [STB2.out, if_pos ⟨hti, of_decide_eq_true h9⟩]
          have HSB := hid hst
          clear hst SWH STB2
          iterate 2 (refine walkJ_rd rfl (fun K hK => ?_); go_simp; refine hK _ ?_; clear hK K)
          refine walkJ_nil ?_
          go_wp2_with fail
          have hd := (Below.refl w2.heap.size w2).drew
          have z0 := fun y : SubT (Below w2.heap.size) w2.drew => (kP2.below (hd.trans y.b)).look 0 rfl
          have z1 := fun y : SubT (Below w2.heap.size) w2.drew => (kP2.below (hd.trans y.b)).look 1 rfl
          have z2 := fun y : SubT (Below w2.heap.size) w2.drew => (kP2.below (hd.trans y.b)).look 2 rfl
          have z3 := fun y : SubT (Below w2.heap.size) w2.drew => (kP2.below (hd.trans y.b)).look 3 rfl
          have z4 := fun y : SubT (Below w2.heap.size) w2.drew => (HGI.out y.w (hb2'.trans ((hd.trans y.b).mono hb2'.size))).1
          have z5 := fun y : SubT (Below w2.heap.size) w2.drew => (HGI.out y.w (hb2'.trans ((hd.trans y.b).mono hb2'.size))).2.1
          have z6 := fun y : SubT (Below w2.heap.size) w2.drew => (HGI.out y.w (hb2'.trans ((hd.trans y.b).mono hb2'.size))).2.2.1
          have z7 := fun y : SubT (Below w2.heap.size) w2.drew => (HGI.out y.w (hb2'.trans ((hd.trans y.b).mono hb2'.size))).2.2.2
          refine wp_walkJ (T := Below (w2.heap.size)) (belowV_pre _) (.rd 0 (.rd 1 (.rd 2 (.rd 3 (.rd 4 (.bt 5 (.bt 6 (.inv [])))))))) (by kernel_rfl) rfl (by kernel_rfl) (by kernel_rfl) ?_
          iterate 5 (refine walkJ_rd rfl (fun K hK => ?_); go_simp; refine hK _ ?_; clear hK K)
          clear z0 z1 z2 z3 z4 z5 z6 z7
          (refine walkJ_bt rfl (fun K hK => ?_); go_simp; refine (S1.out _).mono ?_; rintro e w3 ⟨v3, rfl, h3, hb3⟩; refine ⟨_, rfl, hK _ _ ?_⟩; clear hK K)
          have d3 := hd.trans (hb3.mono hd.size)
          replace h3 := h3.mono (Nat.zero_le _)
          obtain ⟨s1, s2, s3, s4, s5, s6, hv⟩ := q_shape h3
          generalize decide ((slpQ C t i).num < 0) = sb at hv
          subst hv
          obtain ⟨r1, r2, r3, r4, r5, r6, r7, R73⟩ := Q72.out.below d3
          have q0 := R73.k.look 0 rfl
          have q1 := R73.k.look 1 rfl
          have q2 := R73.k.look 2 rfl
          have f2 := R73.k.frozen
          have Q73 := hid (R73.put h3).q
          have Q83 := hid ((Q82.out.below d3).keep (b' := sb) (y1 := s1) (y2 := s4) (n1 := s2) (e1 := s3) (n2 := s5) (e2 := s6) R73.k (Ne.symm HNE.out))
          have hb3' := hid (Below.set3 (hb2'.trans (d3.mono hb2'.size)) (show w.heap.size ≤ B7 from g7) (.bool sb) (.slice s1 s2 s3) (.slice s4 s5 s6))
          clear h3 hb3 d3 hd R73 Q72 Q82 kP2 hb2'
          (refine walkJ_bt rfl (fun K hK => ?_); go_simp; refine hK _ _ ?_; clear hK K)
          refine walkJ_nil ?_
          obtain ⟨w2', hw2⟩ : ∃ W, ((w3.setCell ⟨B7, 0, none⟩ (.bool sb)).setCell ⟨B7, 1, none⟩ (.slice s1 s2 s3)).setCell ⟨B7, 2, none⟩ (.slice s4 s5 s6) = W := ⟨_, rfl⟩
          rw [hw2] at Q73 Q83 hb3' ⊢
          obtain ⟨w2, rfl⟩ : ∃ W, W = w2' := ⟨_, rfl⟩
          have Q72 := Q73
          have Q82 := Q83
          have hb2' := hb3'.out
          clear hw2 q0 q1 q2 f2 Q73 Q83 hb3'
          go_wp2_with fail
          have hdz := (Below.refl w2.heap.size w2).drew
          refine wp_walkJ (T := Below (w2.heap.size)) (belowV_pre _) (.rd 0 (.rd 1 (.rd 2 (.rd 3 (.rd 4 (.rd 5 (.rd 6 (.rd 7 (.rd 8 (.rd 10 (.rd 12 (.mv 9 (.mv 11 (.rd 13 (.rd 14 (.inv [])))))))))))))))) (by kernel_rfl) rfl (by kernel_rfl) (by kernel_rfl) ?_
          iterate 11 (refine walkJ_rd rfl (fun K hK => ?_); go_simp; refine hK _ ?_; clear hK K)
          (refine walkJ_sk rfl (fun K hK => ?_); go_simp; refine hK _ ?_; clear hK K)
          (refine walkJ_sk rfl (fun K hK => ?_); go_simp; refine hK _ ?_; clear hK K)
          iterate 2 (refine walkJ_rd rfl (fun K hK => ?_); go_simp; refine hK _ ?_; clear hK K)
          refine walkJ_nil ?_
          have Q7F := hid (Q72.out.below hdz)
          have Q8F := hid (Q82.out.below hdz)
          have hbF := hb2'.trans (hdz.mono hb2'.size)
          clear hdz Q72 Q82 hb2'
          go_wp2
          go_roundw
          case rel => exact ⟨t + 1, by go_num, by omega, by rw [HSB.out]; exact Q7F, by rw [HSH.out]; exact Q8F, hbF⟩
          case measure => simp [intOf] <;> omega
      case neg =>
        have hti3 : ¬ (t : Int) < (i : Int) := by omega
        have stB : befT up C i (t + 1) = befT up C i t := by rw [STB.out, if_neg (fun h => hti h.1)]
        have HSB := hid stB
        clear stB STB
        by_cases hit : i < t
        case neg =>
          have stH : behT up C i (t + 1) = behT up C i t := by rw [STH.out, if_neg (fun h => hit h.1)]
          have HSH := hid stH
          clear stH STH
          refine wp_walkJ (T := Below (W.heap.size)) (belowV_pre _) (.rd 0 (.rd 1 (.rd 2 (.rd 3 (.rd 4 (.rd 5 (.rd 6 (.rd 7 (.rd 8 (.rd 10 (.rd 12 (.rd 13 (.mv 9 (.mv 11 (.rd 14 (.rd 15 (.inv []))))))))))))))))) (by kernel_rfl) rfl (by kernel_rfl) (by kernel_rfl) ?_
          iterate 12 (refine walkJ_rd rfl (fun K hK => ?_); go_simp; refine hK _ ?_; clear hK K)
          (refine walkJ_sk rfl (fun K hK => ?_); go_simp; refine hK _ ?_; clear hK K)
          (refine walkJ_sk rfl (fun K hK => ?_); go_simp; refine hK _ ?_; clear hK K)
          iterate 2 (refine walkJ_rd rfl (fun K hK => ?_); go_simp; refine hK _ ?_; clear hK K)
          refine walkJ_nil ?_
          obtain ⟨w2, hw2⟩ : ∃ w2, W.drew = w2 := ⟨_, rfl⟩
          rw [hw2] at hd ⊢
          have Q72 := hid (Q7P.out.below hd)
          have Q82 := hid (Q8P.out.below hd)
          have kP2 := kP.below hd
          have hb2' := hbP.trans (hd.mono hsP)
          clear hw2 hd Q7P Q8P kP hbP hsP
          go_wp2_with fail
          have hdz := (Below.refl w2.heap.size w2).drew
          refine wp_walkJ (T := Below (w2.heap.size)) (belowV_pre _) (.rd 0 (.rd 1 (.rd 2 (.rd 3 (.rd 4 (.rd 5 (.rd 6 (.rd 7 (.rd 8 (.rd 10 (.rd 12 (.mv 9 (.mv 11 (.rd 13 (.rd 14 (.inv [])))))))))))))))) (by kernel_rfl) rfl (by kernel_rfl) (by kernel_rfl) ?_
          iterate 11 (refine walkJ_rd rfl (fun K hK => ?_); go_simp; refine hK _ ?_; clear hK K)
          (refine walkJ_sk rfl (fun K hK => ?_); go_simp; refine hK _ ?_; clear hK K)
          (refine walkJ_sk rfl (fun K hK => ?_); go_simp; refine hK _ ?_; clear hK K)
          iterate 2 (refine walkJ_rd rfl (fun K hK => ?_); go_simp; refine hK _ ?_; clear hK K)
          refine walkJ_nil ?_
          have Q7F := hid (Q72.out.below hdz)
          have Q8F := hid (Q82.out.below hdz)
          have hbF := hb2'.trans (hdz.mono hb2'.size)
          clear hdz Q72 Q82 hb2'
          go_wp2
          go_roundw
          case rel => exact ⟨t + 1, by go_num, by omega, by rw [HSB.out]; exact Q7F, by rw [HSH.out]; exact Q8F, hbF⟩
          case measure => simp [intOf] <;> omega
        case pos =>
          have hit2 : (i : Int) < (t : Int) := by omega
          have stH := STH.out
          have qs1 := SQ2.out hit
          have sw := WS.out (slpQ C i t) (behT up C i t)
          have S1 := hid (ST2.out hit)
          have OR := hid (fun u v w h1 h2 => Order_any (slpQ C i t) (behT up C i t) u v w h1 h2 qs1 QSH.out)
          obtain ⟨zo, hzo⟩ : ∃ z, sgnQ (slpQ C i t - behT up C i t) = z := ⟨_, rfl⟩
          rw [hzo] at OR sw
          have SWH := hid sw
          have STH2 := hid stH
          clear hzo ST1 ST2 SQ1 SQ2 stH sw
          refine wp_walkJ (T := Below (W.heap.size)) (belowV_pre _) (.rd 0 (.rd 1 (.rd 2 (.rd 3 (.rd 4 (.rd 5 (.rd 6 (.rd 7 (.rd 8 (.rd 10 (.rd 12 (.rd 13 (.mv 9 (.mv 11 (.rd 14 (.rd 15 (.inv []))))))))))))))))) (by kernel_rfl) rfl (by kernel_rfl) (by kernel_rfl) ?_
          iterate 12 (refine walkJ_rd rfl (fun K hK => ?_); go_simp; refine hK _ ?_; clear hK K)
          (refine walkJ_sk rfl (fun K hK => ?_); go_simp; refine hK _ ?_; clear hK K)
          (refine walkJ_sk rfl (fun K hK => ?_); go_simp; refine hK _ ?_; clear hK K)
          iterate 2 (refine walkJ_rd rfl (fun K hK => ?_); go_simp; refine hK _ ?_; clear hK K)
          refine walkJ_nil ?_
          obtain ⟨w2, hw2⟩ : ∃ w2, W.drew = w2 := ⟨_, rfl⟩
          rw [hw2] at hd ⊢
          have Q72 := hid (Q7P.out.below hd)
          have Q82 := hid (Q8P.out.below hd)
          have kP2 := kP.below hd
          have hb2' := hbP.trans (hd.mono hsP)
          clear hw2 hd Q7P Q8P kP hbP hsP
          go_wp2_with fail
          have hd := (Below.refl w2.heap.size w2).drew
          obtain ⟨b7, y1, m1, d1, y2, m2, d2, R8⟩ := Q82.out
          have z0 := fun y : SubT (Below w2.heap.size) w2.drew => (kP2.below (hd.trans y.b)).look 0 rfl
          have z1 := fun y : SubT (Below w2.heap.size) w2.drew => (kP2.below (hd.trans y.b)).look 1 rfl
          have z2 := fun y : SubT (Below w2.heap.size) w2.drew => (kP2.below (hd.trans y.b)).look 2 rfl
          have z3 := fun y : SubT (Below w2.heap.size) w2.drew => (kP2.below (hd.trans y.b)).look 3 rfl
          have z4 := fun y : SubT (Below w2.heap.size) w2.drew => (HGI.out y.w (hb2'.trans ((hd.trans y.b).mono hb2'.size))).1
          have z5 := fun y : SubT (Below w2.heap.size) w2.drew => (HGI.out y.w (hb2'.trans ((hd.trans y.b).mono hb2'.size))).2.1
          have z6 := fun y : SubT (Below w2.heap.size) w2.drew => (HGI.out y.w (hb2'.trans ((hd.trans y.b).mono hb2'.size))).2.2.1
          have z7 := fun y : SubT (Below w2.heap.size) w2.drew => (HGI.out y.w (hb2'.trans ((hd.trans y.b).mono hb2'.size))).2.2.2
          have z8 := fun y : SubT (Below w2.heap.size) w2.drew => (R8.k.below (hd.trans y.b)).look 0 rfl
          have z9 := fun y : SubT (Below w2.heap.size) w2.drew => (R8.k.below (hd.trans y.b)).look 1 rfl
          have z10 := fun y : SubT (Below w2.heap.size) w2.drew => (R8.k.below (hd.trans y.b)).look 2 rfl
          refine wp_walkJ (T := Below (w2.heap.size)) (belowV_pre _) (.rd 0 (.rd 1 (.rd 2 (.rd 3 (.rd 4 (.rd 5 (.rd 6 (.rd 7 (.rd 8 (.rd 10 (.rd 12 (.mv 9 (.mv 11 (.rd 13 (.rd 14 (.inv [])))))))))))))))) (by kernel_rfl) rfl (by kernel_rfl) (by kernel_rfl) ?_
          iterate 11 (refine walkJ_rd rfl (fun K hK => ?_); go_simp; refine hK _ ?_; clear hK K)
          clear z0 z1 z2 z3 z4 z5 z6 z7 z8 z9 z10
          (refine walkJ_mv rfl (fun K hK => ?_); go_simp; refine (S1.out _).mono ?_; rintro e w3 ⟨v3, rfl, h3, hb3⟩; refine ⟨_, rfl, hK _ _ hb3 ?_⟩; clear hK K)
          have d1' := hd.trans hb3
          (refine walkJ_mv rfl (fun K hK => ?_); go_simp; refine (OR.out _ _ _ (h3.mono (Nat.zero_le _)) (R8.qf.below d1')).mono ?_; rintro e w4 ⟨rfl, hb4⟩; refine ⟨_, rfl, hK _ _ (hb4.mono d1'.size) ?_⟩; clear hK K)
          have d4 := d1'.trans (hb4.mono d1'.size)
          have hb4' := hb2'.trans (d4.mono hb2'.size)
          have Q74 := hid (Q72.out.below d4)
          have Q84 := hid (Q82.out.below d4)
          have kP4 := kP2.below d4
          clear h3 hb3 hb4 d1' d4 hd R8 Q72 Q82 kP2 hb2' OR
          cases hcond : (zo == wy) with
          | false =>
            have hst : behT up C i (t + 1) = behT up C i t := by
              rw [STH2.out, if_neg]
              rintro ⟨-, h⟩
              have := SWH.out
              rw [hcond, decide_eq_true h] at this
              cases this
            have HSH := hid hst
            clear hst SWH STH2
            iterate 2 (refine walkJ_rd rfl (fun K hK => ?_); go_simp; refine hK _ ?_; clear hK K)
            refine walkJ_nil ?_
            go_wp2
            go_roundw
            case rel => exact ⟨t + 1, by go_num, by omega, by rw [HSB.out]; exact Q74, by rw [HSH.out]; exact Q84, hb4'⟩
            case measure => simp [intOf] <;> omega
          | true =>
            have hst : behT up C i (t + 1) = slpQ C i t := by
              have h9 := SWH.out
              rw [hcond] at h9
              rw [STH2.out, if_pos ⟨hit, of_decide_eq_true h9⟩]
            have HSH := hid hst
            clear hst SWH STH2
            iterate 2 (refine walkJ_rd rfl (fun K hK => ?_); go_simp; refine hK _ ?_; clear hK K)
            refine walkJ_nil ?_
            obtain ⟨w2, rfl⟩ : ∃ W, W = w4 := ⟨_, rfl⟩
            have Q72 := Q74
            have Q82 := Q84
            have kP2 := kP4
            have hb2' := hb4'
            clear Q74 Q84 kP4 hb4'
            go_wp2_with fail
            have hd := (Below.refl w2.heap.size w2).drew
            have z0 := fun y : SubT (Below w2.heap.size) w2.drew => (kP2.below (hd.trans y.b)).look 0 rfl
            have z1 := fun y : SubT (Below w2.heap.size) w2.drew => (kP2.below (hd.trans y.b)).look 1 rfl
            have z2 := fun y : SubT (Below w2.heap.size) w2.drew => (kP2.below (hd.trans y.b)).look 2 rfl
            have z3 := fun y : SubT (Below w2.heap.size) w2.drew => (kP2.below (hd.trans y.b)).look 3 rfl
            have z4 := fun y : SubT (Below w2.heap.size) w2.drew => (HGI.out y.w (hb2'.trans ((hd.trans y.b).mono hb2'.size))).1
            have z5 := fun y : SubT (Below w2.heap.size) w2.drew => (HGI.out y.w (hb2'.trans ((hd.trans y.b).mono hb2'.size))).2.1
            have z6 := fun y : SubT (Below w2.heap.size) w2.drew => (HGI.out y.w (hb2'.trans ((hd.trans y.b).mono hb2'.size))).2.2.1
            have z7 := fun y : SubT (Below w2.heap.size) w2.drew => (HGI.out y.w (hb2'.trans ((hd.trans y.b).mono hb2'.size))).2.2.2
            refine wp_walkJ (T := Below (w2.heap.size)) (belowV_pre _) (.rd 0 (.rd 1 (.rd 2 (.rd 3 (.rd 4 (.bt 5 (.bt 6 (.inv [])))))))) (by kernel_rfl) rfl (by kernel_rfl) (by kernel_rfl) ?_
            iterate 5 (refine walkJ_rd rfl (fun K hK => ?_); go_simp; refine hK _ ?_; clear hK K)
            clear z0 z1 z2 z3 z4 z5 z6 z7
            (refine walkJ_bt rfl (fun K hK => ?_); go_simp; refine (S1.out _).mono ?_; rintro e w3 ⟨v3, rfl, h3, hb3⟩; refine ⟨_, rfl, hK _ _ ?_⟩; clear hK K)
            have d3 := hd.trans (hb3.mono hd.size)
            replace h3 := h3.mono (Nat.zero_le _)
            obtain ⟨s1, s2, s3, s4, s5, s6, hv⟩ := q_shape h3
            generalize decide ((slpQ C i t).num < 0) = sb at hv
            subst hv
            obtain ⟨r1, r2, r3, r4, r5, r6, r7, R83⟩ := Q82.out.below d3
            have q0 := R83.k.look 0 rfl
            have q1 := R83.k.look 1 rfl
            have q2 := R83.k.look 2 rfl
            have f2 := R83.k.frozen
            have Q83 := hid (R83.put h3).q
            have Q73 := hid ((Q72.out.below d3).keep (b' := sb) (y1 := s1) (y2 := s4) (n1 := s2) (e1 := s3) (n2 := s5) (e2 := s6) R83.k HNE.out)
            have hb3' := hid (Below.set3 (hb2'.trans (d3.mono hb2'.size)) (show w.heap.size ≤ B8 from g8) (.bool sb) (.slice s1 s2 s3) (.slice s4 s5 s6))
            clear h3 hb3 d3 hd R83 Q72 Q82 kP2 hb2'
            (refine walkJ_bt rfl (fun K hK => ?_); go_simp; refine hK _ _ ?_; clear hK K)
            refine walkJ_nil ?_
            go_wp2
            go_roundw
            case rel => exact ⟨t + 1, by go_num, by omega, by rw [HSB.out]; exact Q73, by rw [HSH.out]; exact Q83, hb3'.out⟩
            case measure => simp [intOf] <;> omega
    case neg =>
      obtain rfl : L = t := by omega
      have ht2 : ¬ (L : Int) < (L : Int) := by omega
      have hw := WS.out (befT up C i L) (behT up C i L)
      rw [HRF.out] at hw
      have qsB : QS 268435456 (befT up C i L) := by
        obtain ⟨j, hj, e⟩ := bef_one up C (i := i) hip L
        rw [e]
        exact slp_qs HCV.out hj (by rw [HL.out]; omega)
      have qsH : QS 268435456 (behT up C i L) := by
        obtain ⟨j, hj, hjn, e⟩ := beh_one up C (i := i) (by rw [HL.out]; omega) L (by rw [HL.out]; omega)
        rw [e]
        exact slp_qs HCV.out hj hjn
      obtain ⟨b7, y1, m1, d1, y2, m2, d2, R7⟩ := Q7.out
      obtain ⟨b8, y1', m1', d1', y2', m2', d2', R8⟩ := Q8.out
      have OR := hid (Order_any _ _ _ _ wr R7.qf R8.qf qsB qsH)
      obtain ⟨zo, hzo⟩ : ∃ z, sgnQ (befT up C i L - behT up C i L) = z := ⟨_, rfl⟩
      rw [hzo] at OR hw
      have HW := hid hw
      have z0 := R7.k.look 0 rfl
      have z1 := R7.k.look 1 rfl
      have z2 := R7.k.look 2 rfl
      have z3 := R8.k.look 0 rfl
      have z4 := R8.k.look 1 rfl
      have z5 := R8.k.look 2 rfl
      clear hzo hw qsB qsH R7 R8 Q7 Q8
      go_wp2_with fail
      refine OR.out.mono ?_
      rintro r w2 ⟨rfl, hb2⟩
      have hb2' := hbel.trans (hb2.mono hsr)
      clear hb2 z0 z1 z2 z3 z4 z5
      go_wp2
      go_ret
      exact ⟨by rw [HW.out]; first | rfl | (congr 2; done) | simp, hb2'⟩

end Go.Proofs.YtfkclcoipadhmaaDoor
