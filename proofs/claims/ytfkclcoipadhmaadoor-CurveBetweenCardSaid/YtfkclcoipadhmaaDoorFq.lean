/- Plainly: exact values and areas; they add over a grid; the normal form keeps the values. -/
import Derived.Test.YtfkclcoipadhmaaDoorFp
namespace Go.Proofs.YtfkclcoipadhmaaDoor
open Go.RowKit

/-- The X of a list of points rise. -/
def RiX (C : List Pt) : Prop := ∀ i, i + 1 < C.length → (C.getD i (0, 0)).1 < (C.getD (i + 1) (0, 0)).1
theorem RiX.lt {C : List Pt} (h : RiX C) {i j : Nat} (hij : i < j) (hj : j < C.length) : (C.getD i (0, 0)).1 < (C.getD j (0, 0)).1 := by
  induction j with
  | zero => omega
  | succ j ih =>
    have hr := h j hj
    by_cases hij' : i = j
    · rw [hij']; exact hr
    · have := ih (by omega) (by omega)
      grind
theorem RiX.le {C : List Pt} (h : RiX C) {i j : Nat} (hij : i ≤ j) (hj : j < C.length) : (C.getD i (0, 0)).1 ≤ (C.getD j (0, 0)).1 := by
  by_cases he : i = j
  · rw [he]; exact Rat.le_refl
  · exact Rat.le_of_lt (h.lt (by omega) hj)
theorem CV.rix {C : List Pt} (h : CV C) : RiX C := fun i hi => (h.rise i hi).1
/-- The line through two points at x; the exact value of a curve. -/
def segV (p q : Pt) (x : Rat) : Rat := p.2 + (x - p.1) * ((q.2 - p.2) / (q.1 - p.1))
def valQ (C : List Pt) (x : Rat) : Rat := if (C.getD (cutI C x) (0, 0)).1 = x then (C.getD (cutI C x) (0, 0)).2 else segV (C.getD (cutI C x - 1) (0, 0)) (C.getD (cutI C x) (0, 0)) x
theorem val_at {C : List Pt} {x y : Rat} (h : atO C x = some y) : y = valQ C x := by
  unfold atO atI at h
  unfold valQ
  by_cases he : (C.getD (cutI C x) (0, 0)).1 = x
  · rw [if_pos he] at h ⊢
    exact (Option.some.inj h).symm
  · rw [if_neg he] at h ⊢
    exact segO_val h
theorem val_same {C : List Pt} (hc : RiX C) {i : Nat} (hi : i < C.length) : valQ C (C.getD i (0, 0)).1 = (C.getD i (0, 0)).2 := by
  unfold valQ
  rw [cut_at hi (fun j hj => hc.lt hj hi) Rat.le_refl, if_pos rfl]
theorem segV_left (p q : Pt) : segV p q p.1 = p.2 := by unfold segV; grind
theorem segV_right {p q : Pt} (h : p.1 < q.1) : segV p q q.1 = q.2 := by
  unfold segV
  have : (q.1 - p.1) * ((q.2 - p.2) / (q.1 - p.1)) = q.2 - p.2 := by grind
  rw [this]; grind
theorem val_seg {C : List Pt} (hc : RiX C) {x : Rat} {i : Nat} (hi : i + 1 < C.length) (h1 : (C.getD i (0, 0)).1 ≤ x) (h2 : x ≤ (C.getD (i + 1) (0, 0)).1) : valQ C x = segV (C.getD i (0, 0)) (C.getD (i + 1) (0, 0)) x := by
  by_cases e1 : (C.getD i (0, 0)).1 = x
  · rw [← e1, val_same hc (by omega), segV_left]
  · by_cases e2 : (C.getD (i + 1) (0, 0)).1 = x
    · rw [← e2, val_same hc hi, segV_right (hc i hi)]
    · have hcut : cutI C x = i + 1 := cut_at hi (fun j hj => by
        have := hc.le (show j ≤ i by omega) (by omega)
        grind) h2
      unfold valQ
      rw [hcut, if_neg e2, Nat.add_sub_cancel]
/-- The exact area of the first k segments up to x. -/
def pieceQ (C : List Pt) (x : Rat) (k : Nat) : Rat := if (C.getD (k + 1) (0, 0)).1 ≤ x then ((C.getD k (0, 0)).2 + (C.getD (k + 1) (0, 0)).2) / 2 * ((C.getD (k + 1) (0, 0)).1 - (C.getD k (0, 0)).1) else if (C.getD k (0, 0)).1 < x then ((C.getD k (0, 0)).2 + valQ C x) / 2 * (x - (C.getD k (0, 0)).1) else 0
def areaQ (C : List Pt) (x : Rat) : Nat → Rat
  | 0 => 0
  | k + 1 => areaQ C x k + pieceQ C x k
theorem stripO_val {w r : Rat} {p q : Pt} (h : stripO w p q = some r) : r = w + (p.2 + q.2) / 2 * (q.1 - p.1) := by
  unfold stripO at h
  cases h1 : fitO (p.2 + q.2) with
  | none => rw [h1] at h; cases h
  | some a =>
    rw [h1] at h
    simp only [Option.bind_some] at h
    cases h2 : fitO (a / 2) with
    | none => rw [h2] at h; cases h
    | some m =>
      rw [h2] at h
      simp only [Option.bind_some] at h
      cases h3 : fitO (q.1 - p.1) with
      | none => rw [h3] at h; cases h
      | some d =>
        rw [h3] at h
        simp only [Option.bind_some] at h
        cases h4 : fitO (m * d) with
        | none => rw [h4] at h; cases h
        | some e =>
          rw [h4] at h
          simp only [Option.bind_some] at h
          rw [(fitO_fits h).2, (fitO_fits h4).2, (fitO_fits h3).2, (fitO_fits h2).2, (fitO_fits h1).2]
theorem work_val {C : List Pt} {x : Rat} : ∀ {k : Nat} {w : Rat}, workO C x k = some w → w = areaQ C x k
  | 0, w, h => (Option.some.inj h).symm
  | k + 1, w, h => by
    rw [work_step] at h
    show w = areaQ C x k + pieceQ C x k
    cases h1 : workO C x k with
    | none => rw [h1] at h; cases h
    | some v =>
      rw [h1] at h
      simp only [Option.bind_some] at h
      rw [← work_val h1]
      unfold pieceQ
      by_cases c1 : (C.getD (k + 1) (0, 0)).1 ≤ x
      · rw [if_pos c1] at h ⊢
        exact stripO_val h
      · rw [if_neg c1] at h ⊢
        by_cases c2 : (C.getD k (0, 0)).1 < x
        · rw [if_pos c2] at h ⊢
          cases h2 : atO C x with
          | none => rw [h2] at h; cases h
          | some y =>
            rw [h2] at h
            rw [← val_at h2]
            exact stripO_val h
        · rw [if_neg c2] at h ⊢
          rw [← Option.some.inj h]
          grind
theorem area_ring (p P s u v : Rat) : (P + (P + (v - p) * s)) / 2 * (v - p) - (P + (P + (u - p) * s)) / 2 * (u - p) = ((P + (u - p) * s) + (P + (v - p) * s)) / 2 * (v - u) := by grind
theorem piece_in {C : List Pt} (hc : RiX C) {x : Rat} {i : Nat} (hi : i + 1 < C.length) (h1 : (C.getD i (0, 0)).1 ≤ x) (h2 : x ≤ (C.getD (i + 1) (0, 0)).1) : pieceQ C x i = ((C.getD i (0, 0)).2 + valQ C x) / 2 * (x - (C.getD i (0, 0)).1) := by
  unfold pieceQ
  by_cases c1 : (C.getD (i + 1) (0, 0)).1 ≤ x
  · have e : (C.getD (i + 1) (0, 0)).1 = x := by grind
    rw [if_pos c1, ← e, val_same hc hi]
  · rw [if_neg c1]
    by_cases c2 : (C.getD i (0, 0)).1 < x
    · rw [if_pos c2]
    · have e : (C.getD i (0, 0)).1 = x := by grind
      rw [if_neg c2, e]
      grind
/-- Between two numbers within one segment the area grows by the trapezoid. -/
theorem area_diff {C : List Pt} (hc : RiX C) {u v : Rat} {i : Nat} (hi : i + 1 < C.length) (h1 : (C.getD i (0, 0)).1 ≤ u) (h2 : u ≤ v) (h3 : v ≤ (C.getD (i + 1) (0, 0)).1) : ∀ k, k < C.length → areaQ C v k - areaQ C u k = if i < k then (valQ C u + valQ C v) / 2 * (v - u) else 0
  | 0, _ => by
    rw [if_neg (by omega)]
    show (0 : Rat) - 0 = 0
    grind
  | k + 1, hk => by
    have ih := area_diff hc hi h1 h2 h3 k (by omega)
    show areaQ C v k + pieceQ C v k - (areaQ C u k + pieceQ C u k) = _
    by_cases hki : k < i
    · have hle := hc.le (show k + 1 ≤ i by omega) (by omega)
      have e : pieceQ C v k = pieceQ C u k := by
        unfold pieceQ
        rw [if_pos (by grind), if_pos (by grind)]
      rw [if_neg (by omega)] at ih ⊢
      rw [e]
      grind
    · by_cases hki2 : k = i
      · subst hki2
        rw [if_neg (by omega)] at ih
        rw [if_pos (by omega), piece_in hc hi (by grind) h3, piece_in hc hi h1 (by grind), val_seg hc hi h1 (by grind), val_seg hc hi (by grind) h3]
        unfold segV
        have hr := area_ring (C.getD k (0, 0)).1 (C.getD k (0, 0)).2 (((C.getD (k + 1) (0, 0)).2 - (C.getD k (0, 0)).2) / ((C.getD (k + 1) (0, 0)).1 - (C.getD k (0, 0)).1)) u v
        generalize ((C.getD (k + 1) (0, 0)).2 - (C.getD k (0, 0)).2) / ((C.getD (k + 1) (0, 0)).1 - (C.getD k (0, 0)).1) = s at hr ⊢
        rw [← hr]
        grind
      · have hle := hc.le (show i + 1 ≤ k by omega) (by omega)
        have hlt := hc k hk
        have e1 : pieceQ C v k = 0 := by
          unfold pieceQ
          rw [if_neg (by grind), if_neg (by grind)]
        have e2 : pieceQ C u k = 0 := by
          unfold pieceQ
          rw [if_neg (by grind), if_neg (by grind)]
        rw [if_pos (by omega)] at ih ⊢
        rw [e1, e2]
        grind

/-- Two numbers between which no point lies are within one segment. -/
theorem seg_of {C : List Pt} {u v : Rat} (huv : u < v) (h0 : (C.getD 0 (0, 0)).1 ≤ u) (h1 : v ≤ (C.getD (C.length - 1) (0, 0)).1) (hL : 0 < C.length) (hno : ∀ i, i < C.length → (C.getD i (0, 0)).1 ≤ u ∨ v ≤ (C.getD i (0, 0)).1) :
    ∃ i, i + 1 < C.length ∧ (C.getD i (0, 0)).1 ≤ u ∧ v ≤ (C.getD (i + 1) (0, 0)).1 := by
  have key : ∀ n, n < C.length → v ≤ (C.getD n (0, 0)).1 → ∃ i, i + 1 < C.length ∧ (C.getD i (0, 0)).1 ≤ u ∧ v ≤ (C.getD (i + 1) (0, 0)).1 := by
    intro n
    induction n with
    | zero => intro _ hx; exfalso; grind
    | succ n ih =>
      intro hn hx
      rcases hno n (by omega) with h | h
      · exact ⟨n, hn, h, hx⟩
      · exact ih (by omega) h
  exact key (C.length - 1) (by omega) h1
theorem interp {p P s u v x : Rat} (h : u < v) : P + (x - p) * s = (P + (u - p) * s) + (x - u) * (((P + (v - p) * s) - (P + (u - p) * s)) / (v - u)) := by
  have e : ((P + (v - p) * s) - (P + (u - p) * s)) / (v - u) = s := by
    have hne : v - u ≠ 0 := by grind
    have : (P + (v - p) * s) - (P + (u - p) * s) = s * (v - u) := by grind
    rw [this]
    exact Rat.mul_div_cancel hne
  rw [e]; grind
theorem val_interp {C : List Pt} (hc : RiX C) {u v x : Rat} {i : Nat} (hi : i + 1 < C.length) (h1 : (C.getD i (0, 0)).1 ≤ u) (huv : u < v) (h3 : v ≤ (C.getD (i + 1) (0, 0)).1) (hux : u ≤ x) (hxv : x ≤ v) : valQ C x = segV (u, valQ C u) (v, valQ C v) x := by
  rw [val_seg hc hi (by grind) (by grind : x ≤ _), val_seg hc hi h1 (by grind : u ≤ _), val_seg hc hi (by grind) h3]
  unfold segV
  exact interp huv
theorem interp_add (u v x a b a' b' : Rat) : (a + b) + (x - u) * ((a' + b' - (a + b)) / (v - u)) = (a + (x - u) * ((a' - a) / (v - u))) + (b + (x - u) * ((b' - b) / (v - u))) := by
  rw [Rat.div_def, Rat.div_def, Rat.div_def]
  grind
theorem area_zero {C : List Pt} (hc : RiX C) : ∀ k, k < C.length → areaQ C (C.getD 0 (0, 0)).1 k = 0
  | 0, _ => rfl
  | k + 1, hk => by
    show areaQ C (C.getD 0 (0, 0)).1 k + pieceQ C (C.getD 0 (0, 0)).1 k = 0
    rw [area_zero hc k (by omega)]
    unfold pieceQ
    have h1 := hc.lt (show 0 < k + 1 by omega) hk
    have h2 := hc.le (show 0 ≤ k by omega) (by omega)
    rw [if_neg (by grind), if_neg (by grind)]
    grind
/-- A curve over a grid: no point of it lies between two neighbours of the grid. -/
structure OnGrid (M : List Rat) (C : List Pt) : Prop where
  rix : RiX C
  pos : 0 < C.length
  first : (C.getD 0 (0, 0)).1 = M.getD 0 0
  last : ∀ k, k < M.length → M.getD k 0 ≤ (C.getD (C.length - 1) (0, 0)).1
  free : ∀ k, k + 1 < M.length → ∀ i, i < C.length → (C.getD i (0, 0)).1 ≤ M.getD k 0 ∨ M.getD (k + 1) 0 ≤ (C.getD i (0, 0)).1
theorem rise_le {M : List Rat} (hM : ∀ k, k + 1 < M.length → M.getD k 0 < M.getD (k + 1) 0) : ∀ k, k < M.length → M.getD 0 0 ≤ M.getD k 0
  | 0, _ => Rat.le_refl
  | k + 1, hk => by
    have := rise_le hM k (by omega)
    have := hM k hk
    grind
theorem OnGrid.seg {M : List Rat} {C : List Pt} (h : OnGrid M C) (hM : ∀ k, k + 1 < M.length → M.getD k 0 < M.getD (k + 1) 0) {k : Nat} (hk : k + 1 < M.length) : ∃ i, i + 1 < C.length ∧ (C.getD i (0, 0)).1 ≤ M.getD k 0 ∧ M.getD (k + 1) 0 ≤ (C.getD (i + 1) (0, 0)).1 :=
  seg_of (hM k hk) (by rw [h.first]; exact rise_le hM k (by omega)) (h.last _ hk) h.pos (h.free k hk)
/-- Values and areas add. -/
theorem add_grid {M : List Rat} {A B C : List Pt} (hM : ∀ k, k + 1 < M.length → M.getD k 0 < M.getD (k + 1) 0) (hA : OnGrid M A) (hB : OnGrid M B) (hC : OnGrid M C)
    (hv : ∀ k, k < M.length → valQ C (M.getD k 0) = valQ A (M.getD k 0) + valQ B (M.getD k 0)) :
    ∀ k, k < M.length → ∀ x, M.getD 0 0 ≤ x → x ≤ M.getD k 0 → valQ C x = valQ A x + valQ B x ∧ areaQ C x (C.length - 1) = areaQ A x (A.length - 1) + areaQ B x (B.length - 1)
  | 0, hk, x, h1, h2 => by
    have e : x = M.getD 0 0 := by grind
    rw [e]
    refine ⟨hv 0 hk, ?_⟩
    have a1 := area_zero hA.rix (A.length - 1) (by have := hA.pos; omega)
    have a2 := area_zero hB.rix (B.length - 1) (by have := hB.pos; omega)
    have a3 := area_zero hC.rix (C.length - 1) (by have := hC.pos; omega)
    rw [hA.first] at a1
    rw [hB.first] at a2
    rw [hC.first] at a3
    rw [a1, a2, a3]
    grind
  | k + 1, hk, x, h1, h2 => by
    by_cases hx : x ≤ M.getD k 0
    · exact add_grid hM hA hB hC hv k (by omega) x h1 hx
    · have hux : M.getD k 0 ≤ x := by grind
      have huv := hM k hk
      obtain ⟨i, a1, a2, a3⟩ := hA.seg hM hk
      obtain ⟨j, b1, b2, b3⟩ := hB.seg hM hk
      obtain ⟨l, c1, c2, c3⟩ := hC.seg hM hk
      have v0 := hv k (by omega)
      have v1 := hv (k + 1) hk
      have ih := (add_grid hM hA hB hC hv k (by omega) (M.getD k 0) (rise_le hM k (by omega)) Rat.le_refl).2
      have iA := val_interp hA.rix a1 a2 huv a3 hux h2
      have iB := val_interp hB.rix b1 b2 huv b3 hux h2
      have iC := val_interp hC.rix c1 c2 huv c3 hux h2
      have vx : valQ C x = valQ A x + valQ B x := by
        rw [iA, iB, iC, v0, v1]
        unfold segV
        exact interp_add _ _ _ _ _ _ _
      refine ⟨vx, ?_⟩
      have dA := area_diff hA.rix a1 a2 hux (by grind) (A.length - 1) (by omega)
      have dB := area_diff hB.rix b1 b2 hux (by grind) (B.length - 1) (by omega)
      have dC := area_diff hC.rix c1 c2 hux (by grind) (C.length - 1) (by omega)
      rw [if_pos (by omega)] at dA dB dC
      rw [vx, v0] at dC
      have e : (valQ A (M.getD k 0) + valQ B (M.getD k 0) + (valQ A x + valQ B x)) / 2 * (x - M.getD k 0) = (valQ A (M.getD k 0) + valQ A x) / 2 * (x - M.getD k 0) + (valQ B (M.getD k 0) + valQ B x) / 2 * (x - M.getD k 0) := by grind
      grind

theorem app_left {N : List Pt} (p : Pt) {i : Nat} (hi : i < N.length) : (N ++ [p]).getD i (0, 0) = N.getD i (0, 0) := by
  rw [List.getD_eq_getElem?_getD, List.getElem?_append_left hi, List.getD_eq_getElem?_getD]
theorem app_last (N : List Pt) (p : Pt) : (N ++ [p]).getD N.length (0, 0) = p := by
  rw [List.getD_eq_getElem?_getD, List.getElem?_append_right (Nat.le_refl _), Nat.sub_self]; rfl
theorem cut_least {N : List Pt} (hN : RiX N) {x : Rat} : ∀ n, n < N.length → x ≤ (N.getD n (0, 0)).1 → ∃ i, i ≤ n ∧ (∀ j, j < i → (N.getD j (0, 0)).1 < x) ∧ x ≤ (N.getD i (0, 0)).1
  | 0, _, h => ⟨0, Nat.le_refl _, fun j hj => by omega, h⟩
  | n + 1, hn, h => by
    by_cases h1 : x ≤ (N.getD n (0, 0)).1
    · obtain ⟨i, a, b, c⟩ := cut_least hN n (by omega) h1
      exact ⟨i, by omega, b, c⟩
    · refine ⟨n + 1, Nat.le_refl _, fun j hj => ?_, h⟩
      have := hN.le (show j ≤ n by omega) (by omega)
      grind
theorem val_app {N : List Pt} (hN : RiX N) (p : Pt) {x : Rat} (h0 : 0 < N.length) (hx : x ≤ (N.getD (N.length - 1) (0, 0)).1) : valQ (N ++ [p]) x = valQ N x := by
  obtain ⟨i, a, b, c⟩ := cut_least hN (N.length - 1) (by omega) hx
  have hi : i < N.length := by omega
  have e1 : cutI N x = i := cut_at hi b c
  have e2 : cutI (N ++ [p]) x = i := cut_at (by rw [List.length_append]; omega) (fun j hj => by rw [app_left p (by omega)]; exact b j hj) (by rw [app_left p hi]; exact c)
  unfold valQ
  rw [e1, e2, app_left p hi, app_left p (by omega)]
theorem rix_app {N : List Pt} (hN : RiX N) {p : Pt} (h : N.length ≠ 0 → (N.getD (N.length - 1) (0, 0)).1 < p.1) : RiX (N ++ [p]) := by
  intro i hi
  rw [List.length_append, List.length_singleton] at hi
  by_cases h1 : i + 1 < N.length
  · rw [app_left p h1, app_left p (by omega)]
    exact hN i h1
  · have e : i + 1 = N.length := by omega
    rw [e, app_last, app_left p (by omega)]
    have := h (by omega)
    rwa [← e, Nat.add_sub_cancel] at this
/-- What holds of the first part of a normal form. -/
structure NormI (c : List Pt) (s : List Rat) (i a : Nat) (N : List Pt) : Prop where
  ai : a < i
  pos : 0 < N.length
  last : N.getD (N.length - 1) (0, 0) = c.getD a (0, 0)
  whole : i = c.length → a + 1 = c.length
  line : ∀ j, a ≤ j → j < i → j + 1 < c.length → s.getD j 0 = s.getD a 0
  rix : RiX N
  vals : ∀ k, k ≤ a → valQ N (c.getD k (0, 0)).1 = (c.getD k (0, 0)).2
  first : N.getD 0 (0, 0) = c.getD 0 (0, 0)
theorem on_line {c : List Pt} (hc : RiX c) {s : List Rat} (hs : ∀ k, k + 1 < c.length → s.getD k 0 = ((c.getD (k + 1) (0, 0)).2 - (c.getD k (0, 0)).2) / ((c.getD (k + 1) (0, 0)).1 - (c.getD k (0, 0)).1)) {a : Nat} :
    ∀ k, a ≤ k → k < c.length → (∀ j, a ≤ j → j < k → s.getD j 0 = s.getD a 0) → (c.getD k (0, 0)).2 = (c.getD a (0, 0)).2 + ((c.getD k (0, 0)).1 - (c.getD a (0, 0)).1) * s.getD a 0
  | 0, h, hk, _ => by
    obtain rfl : a = 0 := by omega
    grind
  | k + 1, h, hk, hl => by
    by_cases he : a = k + 1
    · rw [he]; grind
    · have ih := on_line hc hs k (by omega) (by omega) (fun j h1 h2 => hl j h1 (by omega))
      have h1 := hs k hk
      rw [hl k (by omega) (by omega)] at h1
      have hlt := hc k hk
      have e : s.getD a 0 * ((c.getD (k + 1) (0, 0)).1 - (c.getD k (0, 0)).1) = (c.getD (k + 1) (0, 0)).2 - (c.getD k (0, 0)).2 := by
        rw [h1]
        exact Rat.div_mul_cancel (by grind)
      grind
theorem norm_inv {c : List Pt} (hc : RiX c) {s : List Rat} (hs : ∀ k, k + 1 < c.length → s.getD k 0 = ((c.getD (k + 1) (0, 0)).2 - (c.getD k (0, 0)).2) / ((c.getD (k + 1) (0, 0)).1 - (c.getD k (0, 0)).1)) :
    ∀ i, i + 1 ≤ c.length → ∃ a, NormI c s (i + 1) a (normTo c s (i + 1))
  | 0, h => by
    have e : normTo c s (0 + 1) = [c.getD 0 (0, 0)] := by
      rw [normTo_yes (by unfold keepB; simp)]
      rfl
    rw [e]
    refine ⟨0, ⟨by omega, by simp, rfl, fun h => by omega, fun j h1 h2 h3 => congrArg (fun j => s.getD j 0) (show j = 0 by omega), fun i hi => by simp at hi, fun k hk => ?_, rfl⟩⟩
    obtain rfl : k = 0 := by omega
    exact val_same (C := [c.getD 0 (0, 0)]) (i := 0) (fun i hi => by simp at hi) (by simp)
  | i + 1, h => by
    obtain ⟨a, ih⟩ := norm_inv hc hs i (by omega)
    have hai := ih.ai
    cases hk : keepB c s (i + 1) with
    | false =>
      rw [normTo_no hk]
      unfold keepB at hk
      simp at hk
      refine ⟨a, ⟨by omega, ih.pos, ih.last, fun h => absurd h hk.1, fun j h1 h2 h3 => ?_, ih.rix, ih.vals, ih.first⟩⟩
      by_cases hj : j = i + 1
      · subst hj
        have h4 := ih.line i (by omega) (by omega) (by omega)
        have h5 := hk.2
        rw [← h4, List.getD_eq_getElem?_getD, List.getD_eq_getElem?_getD]
        exact h5.symm
      · exact ih.line j h1 (by omega) h3
    | true =>
      rw [normTo_yes hk]
      have hp := ih.pos
      have hlt := hc.lt hai (show i + 1 < c.length by omega)
      have hrx := rix_app ih.rix (p := c.getD (i + 1) (0, 0)) (fun _ => by rw [ih.last]; exact hlt)
      have hlen : (normTo c s (i + 1) ++ [c.getD (i + 1) (0, 0)]).length = (normTo c s (i + 1)).length + 1 := by simp
      refine ⟨i + 1, ⟨by omega, by rw [hlen]; omega, by rw [hlen, Nat.add_sub_cancel, app_last], fun h => h, fun j h1 h2 h3 => congrArg (fun j => s.getD j 0) (show j = i + 1 by omega), hrx, fun k hk2 => ?_, by rw [app_left _ hp]; exact ih.first⟩⟩
      by_cases hka : k ≤ a
      · rw [val_app ih.rix _ hp (by rw [ih.last]; exact hc.le hka (by omega))]
        exact ih.vals k hka
      · have e1 : (normTo c s (i + 1)).length - 1 + 1 = (normTo c s (i + 1)).length := by omega
        have g1 := app_left (c.getD (i + 1) (0, 0)) (N := normTo c s (i + 1)) (i := (normTo c s (i + 1)).length - 1) (by omega)
        have g2 := app_last (normTo c s (i + 1)) (c.getD (i + 1) (0, 0))
        rw [ih.last] at g1
        rw [← e1] at g2
        have hv := val_seg hrx (x := (c.getD k (0, 0)).1) (i := (normTo c s (i + 1)).length - 1) (by rw [hlen]; omega) (by rw [g1]; exact hc.le (by omega) (by omega)) (by rw [g2]; exact hc.le hk2 (by omega))
        rw [hv, g1, g2]
        have hl : ∀ j, a ≤ j → j < i + 1 → s.getD j 0 = s.getD a 0 := fun j h1 h2 => ih.line j h1 h2 (by omega)
        have l1 := on_line hc hs k (by omega) (by omega) (fun j h1 h2 => hl j h1 (by omega))
        have l2 := on_line hc hs (i + 1) (by omega) (by omega) hl
        unfold segV
        have e2 : ((c.getD (i + 1) (0, 0)).2 - (c.getD a (0, 0)).2) / ((c.getD (i + 1) (0, 0)).1 - (c.getD a (0, 0)).1) = s.getD a 0 := by
          have hne : (c.getD (i + 1) (0, 0)).1 - (c.getD a (0, 0)).1 ≠ 0 := by grind
          have : (c.getD (i + 1) (0, 0)).2 - (c.getD a (0, 0)).2 = s.getD a 0 * ((c.getD (i + 1) (0, 0)).1 - (c.getD a (0, 0)).1) := by grind
          rw [this]
          exact Rat.mul_div_cancel hne
        rw [e2]
        exact l1.symm
theorem norm_mem {c : List Pt} {s : List Rat} {i : Nat} {p : Pt} (h : p ∈ normTo c s i) : ∃ j, j < i ∧ p = c.getD j (0, 0) := by
  unfold normTo at h
  obtain ⟨j, hj, rfl⟩ := List.mem_map.1 h
  exact ⟨j, List.mem_range.1 (List.mem_filter.1 hj).1, rfl⟩
/-- The normal form: its values at the old points, and how it lies over their X. -/
theorem norm_grid {c : List Pt} (hc : RiX c) (h0 : 0 < c.length) {s : List Rat} (hs : ∀ k, k + 1 < c.length → s.getD k 0 = ((c.getD (k + 1) (0, 0)).2 - (c.getD k (0, 0)).2) / ((c.getD (k + 1) (0, 0)).1 - (c.getD k (0, 0)).1)) :
    OnGrid (c.map (·.1)) (normTo c s c.length) ∧ ∀ k, k < c.length → valQ (normTo c s c.length) (c.getD k (0, 0)).1 = (c.getD k (0, 0)).2 := by
  obtain ⟨n, hn⟩ : ∃ n, c.length = n + 1 := ⟨c.length - 1, by omega⟩
  obtain ⟨a, ha⟩ := norm_inv hc hs n (by omega)
  rw [← hn] at ha
  have haw := ha.whole rfl
  have gm : ∀ k, k < c.length → (c.map (·.1)).getD k 0 = (c.getD k (0, 0)).1 := fun k hk => by
    rw [List.getD_eq_getElem?_getD, List.getElem?_map, List.getD_eq_getElem?_getD, List.getElem?_eq_getElem hk]
    rfl
  refine ⟨⟨ha.rix, ha.pos, by rw [gm 0 h0, ha.first], fun k hk => ?_, fun k hk i hi => ?_⟩, fun k hk => ha.vals k (by omega)⟩
  · rw [List.length_map] at hk
    rw [gm k hk, ha.last]
    exact hc.le (by omega) (by omega)
  · rw [List.length_map] at hk
    rw [gm k (by omega), gm (k + 1) hk]
    have hm : (normTo c s c.length).getD i (0, 0) ∈ normTo c s c.length := by
      rw [List.getD_eq_getElem?_getD, List.getElem?_eq_getElem hi]
      exact List.getElem_mem _
    obtain ⟨j, hj, e⟩ := norm_mem hm
    rw [e]
    by_cases hjk : j ≤ k
    · exact .inl (hc.le hjk (by omega))
    · exact .inr (hc.le (by omega) hj)

end Go.Proofs.YtfkclcoipadhmaaDoor
