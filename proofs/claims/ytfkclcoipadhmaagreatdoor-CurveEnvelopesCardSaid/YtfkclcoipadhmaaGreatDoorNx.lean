/- Several of my texts in one: Pn, Bs, Na, Nb, Nc, Nd, Ne, Nf, Ng, Nh. -/
import Derived.Test.YtfkclcoipadhmaaGreatDoorRows
import Derived.WalkKit
import Derived.WalkSpells
import Derived.WalkLawsBesides
import Derived.BigQuiet
import Derived.Deep.QuietTactic
import Derived.WalkSmall
import Derived.Maps.AppendAt
import Derived.Deep.LoopGhost
/- Plain numbers: the digits of a natural number to the base 2^32; no program in sight. -/
namespace Go.Proofs.YtfkclcoipadhmaaGreatDoor

/-- The digits of n to the base 2^32, the lowest first. -/
def digs (n : Nat) : List Nat := if h : n = 0 then [] else (n % 4294967296) :: digs (n / 4294967296)
termination_by n
decreasing_by omega

/-- The value of digits. -/
def dval : List Nat → Nat
  | [] => 0
  | d :: ds => d + 4294967296 * dval ds

theorem digs_zero : digs 0 = [] := by rw [digs]; simp
theorem digs_pos {n : Nat} (h : n ≠ 0) : digs n = (n % 4294967296) :: digs (n / 4294967296) := by rw [digs, dif_neg h]
theorem dval_digs (n : Nat) : dval (digs n) = n := by
  induction n using Nat.strongRecOn with
  | _ n ih =>
    by_cases h : n = 0
    · subst h; rw [digs_zero]; rfl
    · rw [digs_pos h, dval, ih _ (by omega)]; omega
theorem digs_lt (n : Nat) : ∀ d ∈ digs n, d < 4294967296 := by
  induction n using Nat.strongRecOn with
  | _ n ih =>
    by_cases h : n = 0
    · subst h; rw [digs_zero]; simp
    · rw [digs_pos h]
      intro d hd
      rcases List.mem_cons.1 hd with rfl | hd
      · omega
      · exact ih _ (by omega) d hd
theorem digs_nil {n : Nat} : digs n = [] ↔ n = 0 := by
  constructor
  · intro h
    by_cases h0 : n = 0
    · exact h0
    · rw [digs_pos h0] at h; cases h
  · rintro rfl; exact digs_zero
theorem digs_len_zero {n : Nat} : (digs n).length = 0 ↔ n = 0 := by rw [List.length_eq_zero_iff, digs_nil]
theorem digs_one {n : Nat} (h : n ≠ 0) (hn : n < 4294967296) : digs n = [n] := by
  rw [digs_pos h, Nat.mod_eq_of_lt hn, Nat.div_eq_of_lt hn, digs_zero]
theorem dval_append (a b : List Nat) : dval (a ++ b) = dval a + 4294967296 ^ a.length * dval b := by
  induction a with
  | nil => simp [dval]
  | cons d ds ih => simp only [List.cons_append, dval, ih, List.length_cons, Nat.pow_succ]; rw [Nat.mul_add, Nat.add_assoc, Nat.mul_comm (4294967296 ^ ds.length) 4294967296, Nat.mul_assoc]
theorem dval_lt (a : List Nat) (h : ∀ d ∈ a, d < 4294967296) : dval a < 4294967296 ^ a.length := by
  induction a with
  | nil => simp [dval]
  | cons d ds ih =>
    have h1 := h d (by simp)
    have h2 := ih (fun x hx => h x (by simp [hx]))
    simp only [dval, List.length_cons, Nat.pow_succ]
    omega
theorem dval_snoc_zero (a : List Nat) : dval (a ++ [0]) = dval a := by rw [dval_append]; simp [dval]
/-- Digits whose last one is not zero are the digits of their value. -/
theorem digs_dval (a : List Nat) (h : ∀ d ∈ a, d < 4294967296) (hl : ∀ x, a.getLast? = some x → x ≠ 0) : digs (dval a) = a := by
  induction a with
  | nil => exact digs_zero
  | cons d ds ih =>
    have h1 := h d (by simp)
    have h2 := ih (fun x hx => h x (by simp [hx])) (fun x hx => by
      cases ds with
      | nil => simp at hx
      | cons y ys => exact hl x (by simpa [List.getLast?_cons_cons] using hx))
    have hne : dval (d :: ds) ≠ 0 := by
      simp only [dval]
      intro hz
      have hd : d = 0 := by omega
      have hv : dval ds = 0 := by omega
      cases ds with
      | nil => exact hl d (by simp) hd
      | cons y ys => rw [hv, digs_zero] at h2; cases h2
    rw [digs_pos hne]
    simp only [dval] at *
    rw [show (d + 4294967296 * dval ds) % 4294967296 = d by omega, show (d + 4294967296 * dval ds) / 4294967296 = dval ds by omega, h2]
theorem digs_last (n : Nat) : ∀ x, (digs n).getLast? = some x → x ≠ 0 := by
  induction n using Nat.strongRecOn with
  | _ n ih =>
    intro x hx
    by_cases h : n = 0
    · subst h; rw [digs_zero] at hx; cases hx
    · rw [digs_pos h] at hx
      by_cases h2 : n / 4294967296 = 0
      · rw [h2, digs_zero] at hx; simp at hx; omega
      · rw [digs_pos h2, List.getLast?_cons_cons, ← digs_pos h2] at hx
        exact ih _ (by omega) x hx
/-- The digits of a value: what is left of the digits when trailing zeros are cut off. -/
theorem digs_dval_take (a : List Nat) (h : ∀ d ∈ a, d < 4294967296) (k : Nat) (hk : k ≤ a.length) (hz : dval (a.drop k) = 0) (hl : k = 0 ∨ a.getD (k - 1) 0 ≠ 0) :
    digs (dval a) = a.take k := by
  have h1 : dval a = dval (a.take k) := by
    conv => lhs; rw [← List.take_append_drop k a, dval_append, hz]
    simp
  rw [h1]
  refine digs_dval _ (fun d hd => h d (List.mem_of_mem_take hd)) (fun x hx => ?_)
  rcases hl with rfl | hl
  · simp at hx
  · intro hx0
    subst hx0
    rw [List.getLast?_eq_getElem?] at hx
    have : (a.take k).length = k := by simp [hk]
    rw [this] at hx
    by_cases hk0 : k = 0
    · subst hk0; simp at hx
    · rw [List.getElem?_take_of_lt (by omega)] at hx
      apply hl
      rw [List.getD_eq_getElem?_getD, hx]; rfl
theorem digs_len_le {n k : Nat} (h : n < 4294967296 ^ k) : (digs n).length ≤ k := by
  induction k generalizing n with
  | zero => have : n = 0 := by simpa using h
            subst this; rw [digs_zero]; simp
  | succ k ih =>
    by_cases h0 : n = 0
    · subst h0; rw [digs_zero]; simp
    · rw [digs_pos h0, List.length_cons]
      have := ih (n := n / 4294967296) (by rw [Nat.div_lt_iff_lt_mul (by omega)]; rwa [Nat.pow_succ] at h)
      omega
theorem lt_pow_digs (n : Nat) : n < 4294967296 ^ (digs n).length := by
  have := dval_lt (digs n) (digs_lt n)
  rwa [dval_digs] at this
theorem pow_le_digs {n : Nat} (h : n ≠ 0) : 4294967296 ^ ((digs n).length - 1) ≤ n := by
  induction n using Nat.strongRecOn with
  | _ n ih =>
    rw [digs_pos h, List.length_cons, Nat.add_sub_cancel]
    by_cases h2 : n / 4294967296 = 0
    · rw [h2, digs_zero]; simp; omega
    · have := ih _ (by omega) h2
      rw [digs_pos h2, List.length_cons, Nat.add_sub_cancel] at this
      rw [digs_pos h2, List.length_cons, Nat.pow_succ]
      omega
theorem digs_mono_len {a b : Nat} (h : a ≤ b) : (digs a).length ≤ (digs b).length := digs_len_le (Nat.lt_of_le_of_lt h (lt_pow_digs b))
theorem lt_of_digs_len {a b : Nat} (h : (digs a).length < (digs b).length) : a < b := by
  rcases Nat.lt_or_ge a b with h1 | h1
  · exact h1
  · have := digs_mono_len h1; omega
theorem digs_len_add (a b : Nat) : (digs (a + b)).length ≤ max (digs a).length (digs b).length + 1 := by
  apply digs_len_le
  have h1 := lt_pow_digs a
  have h2 := lt_pow_digs b
  have h3 : 4294967296 ^ (digs a).length ≤ 4294967296 ^ max (digs a).length (digs b).length := Nat.pow_le_pow_right (by omega) (Nat.le_max_left _ _)
  have h4 : 4294967296 ^ (digs b).length ≤ 4294967296 ^ max (digs a).length (digs b).length := Nat.pow_le_pow_right (by omega) (Nat.le_max_right _ _)
  rw [Nat.pow_succ]
  omega
theorem digs_len_mul (a b : Nat) : (digs (a * b)).length ≤ (digs a).length + (digs b).length := by
  apply digs_len_le
  rw [Nat.pow_add]
  exact Nat.mul_lt_mul'' (lt_pow_digs a) (lt_pow_digs b)
theorem digs_len_small {n : Nat} (h : n < 4294967296) : (digs n).length ≤ 1 := digs_len_le (by simpa using h)
theorem digs_len_two {n : Nat} (h : n < 18446744073709551616) : (digs n).length ≤ 2 := digs_len_le (by simpa using h)
/-- Two numbers of as many digits: the first digit from above in which they part decides. -/
theorem lt_of_digit (a b : List Nat) (ha : ∀ d ∈ a, d < 4294967296) (i : Nat) (hia : i < a.length) (hlen : a.length = b.length)
    (heq : a.drop (i + 1) = b.drop (i + 1)) (hlt : a.getD i 0 < b.getD i 0) : dval a < dval b := by
  have e1 : a = a.take i ++ (a.getD i 0 :: a.drop (i + 1)) := by
    rw [List.getD_eq_getElem?_getD, List.getElem?_eq_getElem hia]; simp
  have e2 : b = b.take i ++ (b.getD i 0 :: b.drop (i + 1)) := by
    rw [List.getD_eq_getElem?_getD, List.getElem?_eq_getElem (by omega)]; simp
  rw [e1, e2, dval_append, dval_append, dval, dval, heq]
  have h1 := dval_lt (a.take i) (fun d hd => ha d (List.mem_of_mem_take hd))
  have l1 : (a.take i).length = i := by simp; omega
  have l2 : (b.take i).length = i := by simp; omega
  rw [l1] at h1 ⊢
  rw [l2]
  generalize dval (a.take i) = x at h1
  generalize dval (b.take i) = y
  generalize dval (b.drop (i + 1)) = z
  generalize a.getD i 0 = p at hlt ⊢
  generalize b.getD i 0 = q at hlt ⊢
  generalize 4294967296 ^ i = c at h1 ⊢
  have : c * (p + 4294967296 * z) + c ≤ c * (q + 4294967296 * z) := by
    rw [← Nat.mul_succ]; exact Nat.mul_le_mul_left _ (by omega)
  omega

theorem dval_replicate (n : Nat) : dval (List.replicate n 0) = 0 := by
  induction n with
  | zero => rfl
  | succ n ih => rw [List.replicate_succ, dval, ih]
theorem dval_set (o : List Nat) (j d : Nat) (h : j < o.length) : dval (o.set j d) + 4294967296 ^ j * o.getD j 0 = dval o + 4294967296 ^ j * d := by
  induction o generalizing j with
  | nil => simp at h
  | cons x xs ih =>
    cases j with
    | zero => simp [dval]; omega
    | succ j =>
      have := ih j (by simpa using h)
      simp only [List.set_cons_succ, dval, List.getD_cons_succ, Nat.pow_succ]
      have e1 : 4294967296 ^ j * 4294967296 * xs.getD j 0 = 4294967296 * (4294967296 ^ j * xs.getD j 0) := by rw [Nat.mul_comm (4294967296 ^ j) 4294967296, Nat.mul_assoc]
      have e2 : 4294967296 ^ j * 4294967296 * d = 4294967296 * (4294967296 ^ j * d) := by rw [Nat.mul_comm (4294967296 ^ j) 4294967296, Nat.mul_assoc]
      rw [e1, e2]
      omega
theorem mem_set_lt {o : List Nat} {j d : Nat} (h : ∀ x ∈ o, x < 4294967296) (hd : d < 4294967296) : ∀ x ∈ o.set j d, x < 4294967296 := by
  intro x hx
  rcases List.mem_or_eq_of_mem_set hx with hx | rfl
  · exact h x hx
  · exact hd
theorem getD_set_ne {o : List Nat} {j k d : Nat} (h : j ≠ k) : (o.set j d).getD k 0 = o.getD k 0 := by
  rw [List.getD_eq_getElem?_getD, List.getD_eq_getElem?_getD, List.getElem?_set_ne h]
/-- A round of the inner loop of times. -/
theorem times_step {o : List Nat} {c s x y j D : Nat} (hj : j < o.length) (hs : s = c + (o.getD j 0 + x * y)) (h : dval o + 4294967296 ^ j * c = D) :
    dval (o.set j (s % 4294967296)) + 4294967296 ^ (j + 1) * (s / 4294967296) = D + 4294967296 ^ j * (x * y) := by
  have h1 := dval_set o j (s % 4294967296) hj
  have h2 : s % 4294967296 + 4294967296 * (s / 4294967296) = s := by omega
  have h3 : 4294967296 ^ j * (s % 4294967296) + 4294967296 ^ (j + 1) * (s / 4294967296) = 4294967296 ^ j * s := by
    rw [Nat.pow_succ, Nat.mul_assoc, ← Nat.mul_add, h2]
  have h4 : 4294967296 ^ j * s = 4294967296 ^ j * c + 4294967296 ^ j * o.getD j 0 + 4294967296 ^ j * (x * y) := by
    rw [hs, Nat.mul_add, Nat.mul_add, Nat.add_assoc]
  generalize 4294967296 ^ j * o.getD j 0 = p at *
  generalize 4294967296 ^ j * (s % 4294967296) = q at *
  generalize 4294967296 ^ (j + 1) * (s / 4294967296) = r at *
  generalize 4294967296 ^ j * c = t at *
  generalize 4294967296 ^ j * (x * y) = u at *
  omega
theorem prod_lt {x y : Nat} (hx : x < 4294967296) (hy : y < 4294967296) : x * y ≤ 18446744065119617025 := by
  have := Nat.mul_le_mul (show x ≤ 4294967295 by omega) (show y ≤ 4294967295 by omega)
  omega

end Go.Proofs.YtfkclcoipadhmaaGreatDoor

/- What a value reads as in a world: slices by their cells; kept by whatever leaves old blocks alone. -/
namespace Go.Proofs.YtfkclcoipadhmaaGreatDoor
open Go.RowKit

theorem hid {p : Prop} (h : p) : Hid p := h
theorem ret_int {k : IntKind} {a b : Int} (h : a = b) : Ending.returned (.int k a) = .returned (.int k b) := by rw [h]
theorem ret_bool {a b : Bool} (h : a = b) : Ending.returned (.bool a) = .returned (.bool b) := by rw [h]

theorem drewN_drewN (w : World) (a b : Nat) : (w.drewN a).drewN b = w.drewN (a + b) := by
  induction b with
  | zero => rfl
  | succ b ih => exact congrArg World.drew ih
theorem dr0 (w : World) : ∃ n, w = w.drewN n := ⟨0, rfl⟩
theorem dr1 (w : World) (a : Nat) : ∃ n, w.drewN a = w.drewN n := ⟨a, rfl⟩
theorem dr2 (w : World) (a b : Nat) : ∃ n, (w.drewN a).drewN b = w.drewN n := ⟨_, drewN_drewN w a b⟩
theorem dr3 (w : World) (a b c : Nat) : ∃ n, ((w.drewN a).drewN b).drewN c = w.drewN n := ⟨a + (b + c), by rw [drewN_drewN, drewN_drewN]⟩
theorem below_drewN0 {B : Nat} {w w' : World} (h : Below B w w') (n : Nat) : Below B w (w'.drewN n) := by
  induction n with
  | zero => exact h
  | succ n ih => exact ih.drew

/-- The cells xs lie from the address on, in a block from lo on (nothing is asked of the address where there are none). -/
def CellsOf (lo : Nat) (w : World) (ao : Option Addr) (xs : List Value) : Prop :=
  xs ≠ [] → ∃ b off, ao = some ⟨b, off, none⟩ ∧ lo ≤ b ∧ b < w.heap.size ∧ ∀ j, j < xs.length → w.cell? ⟨b, off + j, none⟩ = some (xs.getD j undef)
/-- A slice value of n elements whose cells are xs. -/
def SlR (lo : Nat) (w : World) (v : Value) (n : Nat) (xs : List Value) : Prop :=
  ∃ ao cap, v = .slice ao n cap ∧ n ≤ cap ∧ cap ≤ maxLen ∧ CellsOf lo w ao xs

theorem CellsOf.below {lo : Nat} {w w' : World} {ao : Option Addr} {xs : List Value} (h : CellsOf lo w ao xs) (hb : Below w.heap.size w w') : CellsOf lo w' ao xs := by
  intro hx
  obtain ⟨b, off, rfl, hlo, hlt, hc⟩ := h hx
  exact ⟨b, off, rfl, hlo, Nat.lt_of_lt_of_le hlt hb.size, fun j hj => (hb.cell (p := ⟨b, off + j, none⟩) hlt).trans (hc j hj)⟩
theorem CellsOf.mono {lo lo' : Nat} {w : World} {ao : Option Addr} {xs : List Value} (h : CellsOf lo w ao xs) (hl : lo' ≤ lo) : CellsOf lo' w ao xs := by
  intro hx
  obtain ⟨b, off, rfl, hlo, hlt, hc⟩ := h hx
  exact ⟨b, off, rfl, by omega, hlt, hc⟩
theorem CellsOf.setCell {lo : Nat} {w : World} {ao : Option Addr} {xs : List Value} (h : CellsOf lo w ao xs) {p : Addr} (hp : p.block < lo) (u : Value) : CellsOf lo (w.setCell p u) ao xs := by
  intro hx
  obtain ⟨b, off, rfl, hlo, hlt, hc⟩ := h hx
  refine ⟨b, off, rfl, hlo, by simpa [World.setCell] using hlt, fun j hj => ?_⟩
  rw [World.cell?_of_block (Below.heap_setCell w p u b (by omega))]
  exact hc j hj
theorem SlR.below {lo : Nat} {w w' : World} {v : Value} {n : Nat} {xs : List Value} (h : SlR lo w v n xs) (hb : Below w.heap.size w w') : SlR lo w' v n xs := by
  obtain ⟨ao, cap, rfl, h1, h2, h3⟩ := h
  exact ⟨ao, cap, rfl, h1, h2, h3.below hb⟩
theorem SlR.mono {lo lo' : Nat} {w : World} {v : Value} {n : Nat} {xs : List Value} (h : SlR lo w v n xs) (hl : lo' ≤ lo) : SlR lo' w v n xs := by
  obtain ⟨ao, cap, rfl, h1, h2, h3⟩ := h
  exact ⟨ao, cap, rfl, h1, h2, h3.mono hl⟩
theorem SlR.setCell {lo : Nat} {w : World} {v : Value} {n : Nat} {xs : List Value} (h : SlR lo w v n xs) {p : Addr} (hp : p.block < lo) (u : Value) : SlR lo (w.setCell p u) v n xs := by
  obtain ⟨ao, cap, rfl, h1, h2, h3⟩ := h
  exact ⟨ao, cap, rfl, h1, h2, h3.setCell hp u⟩
theorem SlR.nil (lo : Nat) (w : World) : SlR lo w (.slice none 0 0) 0 [] := ⟨none, 0, rfl, Nat.le_refl _, Nat.zero_le _, fun h => absurd rfl h⟩
theorem owns_below {w w' : World} {base : Nat} {e : TypeId} {size : Nat} {v : Value} {n : Nat} {xs : List Value} (h : w.ownsRow base e size v n xs) (hb : Below w.heap.size w w') : w'.ownsRow base e size v n xs :=
  h.kept (row := none) ⟨hb.os, hb.tape, hb.output, hb.size, fun k hk _ => hb.block k hk⟩ (by cases h : v.ownBlock <;> simp)
theorem getD_some {xs : List Value} {j : Nat} (h : j < xs.length) : xs[j]? = some (xs.getD j undef) := by
  rw [List.getD_eq_getElem?_getD, List.getElem?_eq_getElem h]; rfl
/-- What the call owns reads as its cells. -/
theorem SlR.of_owns {w : World} {base : Nat} {e : TypeId} {size : Nat} {v : Value} {n : Nat} {xs : List Value} (h : w.ownsRow base e size v n xs) : SlR base w v n xs := by
  have h0 := h
  obtain ⟨hl, ⟨rfl, rfl⟩ | ⟨g, cap, cur, rfl, hg, hh, hn, hm, hs, hx⟩⟩ := h
  · have : xs = [] := by simpa using hl
    subst this
    exact SlR.nil _ w
  · refine ⟨_, cap, rfl, hn, hm, fun _ => ⟨g, 0, rfl, hg, (Array.getElem?_eq_some_iff.1 hh).1, fun j hj => ?_⟩⟩
    have := h0.cells (g := g) rfl j _ (getD_some hj)
    by_cases hj0 : j = 0
    · subst hj0; simpa [Addr.add] using this
    · simpa [Addr.add, hj0] using this
theorem owns_head {w : World} {base : Nat} {e : TypeId} {size : Nat} {v : Value} {k : Nat} {xs : List Value} (h : w.ownsRow base e size v (k + 1) xs) :
    ∃ g cap, v = .slice (some ⟨g, 0, none⟩) (k + 1) cap ∧ base ≤ g ∧ g < w.heap.size := by
  obtain ⟨_, ⟨_, h0⟩ | ⟨g, cap, cur, hv, hg, hh, _⟩⟩ := h
  · omega
  · exact ⟨g, cap, hv, hg, (Array.getElem?_eq_some_iff.1 hh).1⟩
theorem below_grown {w w' : World} {base : Nat} {e : TypeId} {size : Nat} {v : Value} {n : Nat} {xs : List Value} (h : w.ownsRow base e size v n xs) (hg : w.grownBy w' v.ownBlock) (hb : base ≤ w.heap.size) : Below base w w' :=
  (Below.refl base w).grown hg hb (fun k hk => (h.lt k hk).1)

/-- Block b is a variable of the call's own: its cells, none of them frozen. -/
def Blk (w : World) (b : Nat) (cs : Array Value) (t : TypeId) : Prop := w.heap[b]? = some (.cells cs t (0, 0))
theorem Blk.lt {w : World} {b : Nat} {cs : Array Value} {t : TypeId} (h : Blk w b cs t) : b < w.heap.size := (Array.getElem?_eq_some_iff.1 h).1
theorem Blk.cell {w : World} {b : Nat} {cs : Array Value} {t : TypeId} (h : Blk w b cs t) (j : Nat) : w.cell? ⟨b, j, none⟩ = cs[j]? := by
  unfold World.cell?
  rw [show w.heap[(⟨b, j, none⟩ : Addr).block]? = _ from h]
  rfl
theorem Blk.look {w : World} {b : Nat} {cs : Array Value} {t : TypeId} (h : Blk w b cs t) (j : Nat) {u : Value} (hj : cs[j]? = some u) : w.cell? ⟨b, j, none⟩ = some u := (h.cell j).trans hj
theorem Blk.frozen {w : World} {b : Nat} {cs : Array Value} {t : TypeId} (h : Blk w b cs t) (j : Nat) : w.frozen? ⟨b, j, none⟩ = false := by
  unfold World.frozen?
  rw [show w.heap[(⟨b, j, none⟩ : Addr).block]? = _ from h]
  simp
theorem Blk.below {w w' : World} {b : Nat} {cs : Array Value} {t : TypeId} (h : Blk w b cs t) (hb : Below w.heap.size w w') : Blk w' b cs t := (hb.block b h.lt).trans h
theorem Blk.below' {w w' : World} {b n : Nat} {cs : Array Value} {t : TypeId} (h : Blk w b cs t) (hb : Below n w w') (hn : b < n) : Blk w' b cs t := (hb.block b hn).trans h
theorem Blk.new (w : World) (cs : Array Value) (t : TypeId) : Blk (w.alloc (.cells cs t)) w.heap.size cs t := heap_alloc_new w _
theorem Blk.alloc {w : World} {b : Nat} {cs : Array Value} {t : TypeId} (h : Blk w b cs t) (o : Obj) : Blk (w.alloc o) b cs t := (Below.heap_alloc w o b h.lt).trans h
theorem Blk.drew {w : World} {b : Nat} {cs : Array Value} {t : TypeId} (h : Blk w b cs t) : Blk w.drew b cs t := h
theorem Blk.set {w : World} {b : Nat} {cs : Array Value} {t : TypeId} (h : Blk w b cs t) (j : Nat) (u : Value) : Blk (w.setCell ⟨b, j, none⟩ u) b (cs.setIfInBounds j u) t := heap_setCell_same w b j cs t u h
theorem Blk.other {w : World} {b : Nat} {cs : Array Value} {t : TypeId} (h : Blk w b cs t) {p : Addr} (hp : b ≠ p.block) (u : Value) : Blk (w.setCell p u) b cs t := (Below.heap_setCell w p u b hp).trans h

/-- 'x = append(x, v)' of ONE element of whatever size, x nil or the call's own: the element lies in a new block of its own. -/
theorem wpList_app {P : Program} {w0 : World} {ops : Array Oper} {rest : List Oper} {o : Oper} {a : Act} {Q : Exit → Act → World → Prop} (hgd : o.guard = none) (s x : Operand) (t : TypeId)
    (ho : o.op = .call { callee := .builtin .append, args := #[s, x], argTypes := #[t, t] })
    (base : Nat) (e : TypeId) (z : Value) (size bytes : Nat) (ht : P.underlying t = some (.slice e)) (hi : (P.info? e).map (fun i => (i.zero, i.size, i.bytes)) = some (some z, size, bytes))
    (hzs : z.cells.size = size) (hsz : 0 < size) (te : TypeId)
    (v : Value) (n : Nat) (xs : List Value) (hs : a.eval s = v) (hown : w0.ownsRow base e size v n xs)
    (news : List Value) (hx : a.eval x = .slice (some ⟨w0.heap.size, 0, none⟩) 1 1) (hl : news.length = size) (h1 : ∀ u ∈ news, u.oneCell' = true)
    (h63 : n + 1 ≤ maxLen) (hbytes : (n + 1) * bytes ≤ 140737488355328) (hbase : base ≤ w0.heap.size)
    (h : ∀ g cap w', w'.ownsRow base e size (.slice (some ⟨g, 0, none⟩) (n + 1) cap) (n + 1) (xs ++ news) → Below base w0 w' → w0.grownBy w' v.ownBlock → base ≤ g → g < w'.heap.size →
      wpList P ops Q rest (a.put o.dst (.slice (some ⟨g, 0, none⟩) (n + 1) cap)) w') :
    wpList P ops Q (o :: rest) a (w0.alloc (.cells news.toArray te)) := by
  obtain ⟨i, hi0, hz, hsize, hby⟩ := info_parts hi
  refine wpList_append_own _ hgd s x t ho base e i z size bytes ht hi0 hz hsize hby hzs hsz v n xs hs (hown.alloc _) ⟨w0.heap.size, 0, none⟩ 1 1 news hx (by omega) ?_ h1 h63 hbytes (by simp; omega) ?_
  · intro j u hj
    have hj' : news.toArray[j]? = some u := by simpa using hj
    have h2 : (w0.alloc (.cells news.toArray te)).heap[w0.heap.size]? = some (.cells news.toArray te) := heap_alloc_new w0 _
    have h3 : ∀ k, (w0.alloc (.cells news.toArray te)).cell? ⟨w0.heap.size, k, none⟩ = news.toArray[k]? := fun k => by
      unfold World.cell?
      rw [h2]
      rfl
    by_cases hj0 : j = 0
    · subst hj0
      exact (h3 0).trans hj'
    · have h4 : (⟨w0.heap.size, 0, none⟩ : Addr).add j = ⟨w0.heap.size, j, none⟩ := by simp [Addr.add, hj0]
      rw [h4]
      exact (h3 j).trans hj'
  · intro v' w' hown' hgr _
    obtain ⟨g, cap, rfl, hg1, hg2⟩ := owns_head hown'
    have hgr0 : w0.grownBy w' v.ownBlock := (World.grownBy_alloc w0 _ _).trans hgr
    exact h g cap w' hown' (below_grown hown hgr0 hbase) hgr0 hg1 hg2

/-- 'make([]T, n)' of elements of one cell. -/
theorem wpList_mk {P : Program} {w : World} {ops : Array Oper} {rest : List Oper} {o : Oper} {a : Act} {Q : Exit → Act → World → Prop} (hgd : o.guard = none) (l c : Operand) (t : TypeId) (ho : o.op = Op.makeSlice t l c)
    (base : Nat) (e : TypeId) (z : Value) (bytes : Nat) (ht : P.underlying t = some (.slice e)) (hi : (P.info? e).map (fun i => (i.zero, i.size, i.bytes)) = some (some z, 1, bytes)) (hz : z.cells = #[z])
    (kl kc : IntKind) (L C : Int) (n : Nat) (hl : a.eval l = .int kl L) (hc : a.eval c = .int kc C) (hL : L = (n : Int)) (hC : C = (n : Int)) (b2 : bytes * n ≤ 281474976710656) (b3 : n ≤ maxLen) (b4 : base ≤ w.heap.size)
    (h : ∀ w', w'.ownsRow base e 1 (.slice (some ⟨w.heap.size, 0, none⟩) n n) n (List.replicate n z) → Below base w w' → w.heap.size < w'.heap.size → w.grownBy w' none →
      wpList P ops Q rest (a.put o.dst (.slice (some ⟨w.heap.size, 0, none⟩) n n)) w') : wpList P ops Q (o :: rest) a w := by
  obtain ⟨i, hi0, hz0, hsize, hby⟩ := info_parts hi
  refine wpList_make_full w hgd l c t ho base e i z 1 ht hi0 hz0 hsize kl kc L C n hl hc hL hC (by rw [hby]; exact b2) b3 b4 ?_
  intro w' hown hgr
  rw [hz, Nat.mul_one, toList_madeCells_one] at hown
  refine h w' hown ((Below.refl base w).grown hgr b4 (fun k hk => by cases hk)) ?_ hgr
  have := hown.lt w.heap.size rfl
  exact this.2

/-- The cells of digits. -/
def u32s (ds : List Nat) : List Value := ds.map fun (d : Nat) => Value.int .u32 (d : Int)
/-- A slice of digits. -/
def DsR (lo : Nat) (w : World) (v : Value) (ds : List Nat) : Prop := SlR lo w v ds.length (u32s ds)
/-- A natural number, in blocks from lo on. -/
def NatF (lo : Nat) (w : World) (v : Value) (n : Nat) : Prop := DsR lo w v (digs n)
/-- A natural number. -/
abbrev NatR (w : World) (v : Value) (n : Nat) : Prop := NatF 0 w v n
theorem DsR.below {lo : Nat} {w w' : World} {v : Value} {ds : List Nat} (h : DsR lo w v ds) (hb : Below w.heap.size w w') : DsR lo w' v ds := SlR.below h hb
theorem NatF.below {lo : Nat} {w w' : World} {v : Value} {n : Nat} (h : NatF lo w v n) (hb : Below w.heap.size w w') : NatF lo w' v n := SlR.below h hb
theorem NatF.mono {lo lo' : Nat} {w : World} {v : Value} {n : Nat} (h : NatF lo w v n) (hl : lo' ≤ lo) : NatF lo' w v n := SlR.mono h hl
theorem NatF.nat {lo : Nat} {w : World} {v : Value} {n : Nat} (h : NatF lo w v n) : NatR w v n := SlR.mono h (Nat.zero_le _)
theorem u32s_append (a b : List Nat) : u32s (a ++ b) = u32s a ++ u32s b := by unfold u32s; exact List.map_append
theorem u32s_length (a : List Nat) : (u32s a).length = a.length := by unfold u32s; exact List.length_map _
theorem u32s_cell {lo : Nat} {w : World} {ao : Option Addr} {ds : List Nat} (h : CellsOf lo w ao (u32s ds)) {i : Nat} (hi : i < ds.length) :
    ∃ b off, ao = some ⟨b, off, none⟩ ∧ b < w.heap.size ∧ w.cell? ⟨b, off + i, none⟩ = some (.int .u32 ((ds.getD i 0 : Nat) : Int)) := by
  obtain ⟨b, off, h1, _, h2, h3⟩ := h (by intro h0; have := congrArg List.length h0; rw [u32s_length] at this; simp at this; subst this; simp at hi)
  refine ⟨b, off, h1, h2, ?_⟩
  rw [h3 i (by rw [u32s_length]; exact hi)]
  simp [u32s, List.getD_eq_getElem?_getD, List.getElem?_map, List.getElem?_eq_getElem hi]

theorem u32s_getD {o : List Nat} {j : Nat} (h : j < o.length) : (u32s o)[j]? = some (.int .u32 ((o.getD j 0 : Nat) : Int)) := by
  simp [u32s, List.getD_eq_getElem?_getD, List.getElem?_map, List.getElem?_eq_getElem h]
theorem dig_cell {w : World} {base g n cap : Nat} {e : TypeId} {o : List Nat} (h : w.ownsRow base e 1 (.slice (some ⟨g, 0, none⟩) n cap) n (u32s o)) {j : Nat} (hj : j < o.length) :
    w.cell? ⟨g, j, none⟩ = some (.int .u32 ((o.getD j 0 : Nat) : Int)) := by
  have hl := h.1
  rw [u32s_length] at hl
  rw [h.cellAt j (by omega), u32s_getD hj]
theorem dig_set {w : World} {base g n cap : Nat} {e : TypeId} {o : List Nat} (h : w.ownsRow base e 1 (.slice (some ⟨g, 0, none⟩) n cap) n (u32s o)) (j : Nat) {z : Int} (d : Nat) (hz : z = (d : Int)) :
    (w.setCell ⟨g, j, none⟩ (.int .u32 z)).ownsRow base e 1 (.slice (some ⟨g, 0, none⟩) n cap) n (u32s (o.set j d)) := by
  subst hz
  have := (h.stored j (.int .u32 (d : Int))).1
  unfold u32s at *
  rw [List.map_set]; exact this

end Go.Proofs.YtfkclcoipadhmaaGreatDoor

/- Walks of trankref01's natural numbers: natural, trimmed. -/
namespace Go.Proofs.YtfkclcoipadhmaaGreatDoor
open Go.RowKit

theorem infoU32 : (Tryz.prog.info? 126).map (fun i => (i.zero, i.size, i.bytes)) = some (some (.int .u32 0), 1, 4) := by kernel_rfl

theorem digs_split {n m : Nat} {outs : List Nat} (h : outs ++ digs m = digs n) (hm : m ≠ 0) : (outs ++ [m % 4294967296]) ++ digs (m / 4294967296) = digs n := by
  rw [← h, digs_pos hm, List.append_assoc]; rfl

set_option maxHeartbeats 400000 in
theorem natural_any (n : Nat) (w : World) (hn : n < 18446744073709551616) :
    Calls Tryz.prog 142 #[.int .u64 n] w fun e w' => ∃ v, e = .returned v ∧ NatF w.heap.size w' v n ∧ Below w.heap.size w w' := by
  go_enter Tryz.func142, Tryz.ntmps142
  go_wp2
  go_loopw [0, 3] (fun x v wr => ∃ (m : Nat) (outs : List Nat), x = .int .u64 m ∧ m < 18446744073709551616 ∧ wr.ownsRow w.heap.size 126 1 v outs.length (u32s outs) ∧ outs ++ digs m = digs n ∧ Below w.heap.size w wr) (fun x _ _ => (intOf x).toNat)
  case atStart => exact ⟨n, [], rfl, hn, World.ownsRow_nil _ _ _ _, rfl, Below.refl _ _⟩
  case round =>
    obtain ⟨m, outs, rfl, hm, hown, hd, hb⟩ := hrel
    have HD := hid hd
    clear hd
    by_cases h0 : m = 0
    · subst h0
      go_wp2
      go_ret
      refine ⟨_, rfl, ?_, hb⟩
      have h := HD.out
      rw [digs_zero, List.append_nil] at h
      subst h
      exact SlR.of_owns hown
    · have hl : outs.length ≤ 2 := by have := digs_len_two hn; rw [← HD.out, List.length_append] at this; omega
      have hsz := hb.size
      go_wp2_with (at_builtin; refine wpList_app rfl (.tmp 6) (.tmp 9) _ rfl w.heap.size 126 (.int .u32 0) 1 4 Tryz.underlying84 infoU32 rfl (by decide) 126 _ _ _ rfl hown [.int .u32 ((m % 4294967296 : Nat) : Int)] rfl rfl (by simp [Value.oneCell']) (by unfold maxLen; omega) (by omega) (by omega) ?_; intro g cap w2 hown2 hb2 _ _ _)
      go_roundw
      case rel => exact ⟨m / 4294967296, outs ++ [m % 4294967296], by go_num, by omega, by rw [u32s_append, List.length_append]; exact hown2, digs_split HD.out h0, hb.trans hb2⟩
      case measure => simp [intOf]; omega

theorem DsR.take {lo : Nat} {w : World} {ao : Option Addr} {len cap k : Nat} {ds : List Nat} (h : CellsOf lo w ao (u32s ds)) (hlen : ds.length = len) (hcap : len ≤ cap) (hm : cap ≤ maxLen) (hk : k ≤ len) : DsR lo w (.slice ao k cap) (ds.take k) := by
  have hl : (ds.take k).length = k := by rw [List.length_take]; omega
  unfold maxLen at hm
  refine ⟨ao, cap, by rw [hl], by rw [hl]; omega, by unfold maxLen; exact hm, fun hne => ?_⟩
  obtain ⟨b, off, h1, hlo, h2, h3⟩ := h (by intro h0; apply hne; have := congrArg List.length h0; rw [u32s_length, List.length_nil] at this; apply List.eq_nil_of_length_eq_zero; rw [u32s_length, hl]; omega)
  refine ⟨b, off, h1, hlo, h2, fun j hj => ?_⟩
  rw [u32s_length, hl] at hj
  rw [h3 j (by rw [u32s_length]; omega)]
  simp [u32s, List.getD_eq_getElem?_getD, List.getElem?_map, List.getElem?_take_of_lt hj]

theorem trim_done {lo : Nat} {w : World} {ao : Option Addr} {cap k : Nat} {ds : List Nat} (h : CellsOf lo w ao (u32s ds)) (hds : ∀ d ∈ ds, d < 4294967296) (hcap : ds.length ≤ cap) (hm : cap ≤ maxLen) (hk : k ≤ ds.length)
    (hz : dval (ds.drop k) = 0) (hl : k = 0 ∨ ds.getD (k - 1) 0 ≠ 0) : NatF lo w (.slice ao k cap) (dval ds) := by
  unfold NatF
  rw [digs_dval_take ds hds k hk hz hl]
  exact DsR.take h rfl hcap hm hk
theorem trim_step {k : Nat} {ds : List Nat} (hk : k ≠ 0) (hle : k ≤ ds.length) (hz : dval (ds.drop k) = 0) (h0 : ds.getD (k - 1) 0 = 0) : dval (ds.drop (k - 1)) = 0 := by
  have h1 : ds.drop (k - 1) = ds.getD (k - 1) 0 :: ds.drop k := by
    rw [List.drop_eq_getElem_cons (by omega), List.getD_eq_getElem?_getD, List.getElem?_eq_getElem (by omega), show k - 1 + 1 = k by omega]; rfl
  rw [h1, dval, h0, hz]
/-- The length in a slice value, for a loop's measure. -/
def lenOf : Value → Nat | .slice _ k _ => k | _ => 0

set_option maxHeartbeats 400000 in
theorem trimmed_any (lo : Nat) (ds : List Nat) (v : Value) (w : World) (hds : ∀ d ∈ ds, d < 4294967296) (h : DsR lo w v ds) :
    Calls Tryz.prog 139 #[v] w fun e w' => ∃ v', e = .returned v' ∧ NatF lo w v' (dval ds) ∧ w = w' := by
  obtain ⟨ao, cap, rfl, hcap, hmax, hc⟩ := h
  have hmax' := hmax
  unfold maxLen at hmax'
  go_enter Tryz.func139, Tryz.ntmps139
  go_wp2
  go_loop [0] (fun x => ∃ k : Nat, x = .slice ao k cap ∧ k ≤ ds.length ∧ dval (ds.drop k) = 0) (fun x => lenOf x)
  case atStart => exact ⟨ds.length, rfl, Nat.le_refl _, by rw [List.drop_length]; rfl⟩
  case round =>
    obtain ⟨k, rfl, hk, hz⟩ := hrel
    have HZ := hid hz
    clear hz
    by_cases h0 : k = 0
    · subst h0
      go_wp2
      go_ret
      exact ⟨_, rfl, trim_done hc hds hcap hmax hk HZ.out (.inl rfl), rfl⟩
    · obtain ⟨b, off, rfl, hb, hcell⟩ := u32s_cell hc (i := k - 1) (by omega)
      obtain ⟨d, hd⟩ : ∃ d, ds.getD (k - 1) 0 = d := ⟨_, rfl⟩
      rw [hd] at hcell
      have HD := hid hd
      clear hd
      by_cases hd0 : d = 0
      · subst hd0
        go_wp2
        go_round
        case rel => exact ⟨k - 1, rfl, by omega, trim_step h0 hk HZ.out HD.out⟩
        case measure => simp [lenOf]; omega
      · go_wp2
        go_ret
        exact ⟨_, rfl, trim_done hc hds hcap hmax hk HZ.out (.inr (by rw [HD.out]; exact hd0)), rfl⟩

end Go.Proofs.YtfkclcoipadhmaaGreatDoor

/- Walks of trankref01's natural numbers: compare, plus, less. -/
namespace Go.Proofs.YtfkclcoipadhmaaGreatDoor
open Go.RowKit

/-- -1, 0 or 1. -/
def cmpN (a b : Nat) : Int := if a < b then -1 else if a = b then 0 else 1
theorem cmpN_lt {a b : Nat} (h : a < b) : -1 = cmpN a b := by unfold cmpN; rw [if_pos h]
theorem cmpN_gt {a b : Nat} (h : b < a) : 1 = cmpN a b := by unfold cmpN; rw [if_neg (by omega), if_neg (by omega)]
theorem cmpN_eq {a b : Nat} (h : a = b) : 0 = cmpN a b := by unfold cmpN; rw [if_neg (by omega), if_pos h]
theorem drop_step {k : Nat} {a b : List Nat} (hk : k ≠ 0) (ha : k ≤ a.length) (hb : k ≤ b.length) (h : a.drop k = b.drop k) (hd : a.getD (k - 1) 0 = b.getD (k - 1) 0) : a.drop (k - 1) = b.drop (k - 1) := by
  have h1 : a.drop (k - 1) = a.getD (k - 1) 0 :: a.drop k := by
    rw [List.drop_eq_getElem_cons (by omega), List.getD_eq_getElem?_getD, List.getElem?_eq_getElem (by omega), show k - 1 + 1 = k by omega]; rfl
  have h2 : b.drop (k - 1) = b.getD (k - 1) 0 :: b.drop k := by
    rw [List.drop_eq_getElem_cons (by omega), List.getD_eq_getElem?_getD, List.getElem?_eq_getElem (by omega), show k - 1 + 1 = k by omega]; rfl
  rw [h1, h2, h, hd]
theorem digit_lt {a b k : Nat} (hk : k ≠ 0) (hl : (digs a).length = (digs b).length) (ha : k ≤ (digs a).length) (h : (digs a).drop k = (digs b).drop k) (hd : (digs a).getD (k - 1) 0 < (digs b).getD (k - 1) 0) : a < b := by
  have := lt_of_digit (digs a) (digs b) (digs_lt a) (k - 1) (by omega) hl (by rw [show k - 1 + 1 = k by omega]; exact h) hd
  rwa [dval_digs, dval_digs] at this

set_option maxHeartbeats 400000 in
theorem compare_any (a b : Nat) (u v : Value) (w : World) (ha : NatR w u a) (hb : NatR w v b) :
    Calls Tryz.prog 117 #[u, v] w fun e w' => e = .returned (.int .i64 (cmpN a b)) ∧ ∃ n, w' = w.drewN n := by
  obtain ⟨ao, cap, rfl, hcap, hmax, hc⟩ := ha
  obtain ⟨bo, bcap, rfl, hbcap, hbmax, hbc⟩ := hb
  unfold maxLen at hmax hbmax
  rcases Nat.lt_trichotomy (digs a).length (digs b).length with hl | hl | hl
  · go_enter Tryz.func117, Tryz.ntmps117
    go_wp2
    go_ret
    exact ⟨ret_int (cmpN_lt (lt_of_digs_len hl)), 0, rfl⟩
  · have HL := hid hl
    obtain ⟨L, hL⟩ : ∃ L, (digs a).length = L := ⟨_, rfl⟩
    have hLb : (digs b).length = L := by omega
    have HLa := hid hL
    have HLb := hid hLb
    rw [hL] at hcap ⊢
    rw [hLb] at hbcap ⊢
    clear hL hLb hl
    go_enter Tryz.func117, Tryz.ntmps117
    go_wp2
    go_loopw [5] (fun x wr => ∃ k : Nat, x = .int .i64 ((k : Int) - 1) ∧ k ≤ L ∧ (digs a).drop k = (digs b).drop k ∧ ∃ n, wr = w.drewN n) (fun x _ => (intOf x + 1).toNat)
    case atStart => exact ⟨L, rfl, Nat.le_refl _, by rw [List.drop_of_length_le (by rw [HLa.out]; exact Nat.le_refl _), List.drop_of_length_le (by rw [HLb.out]; exact Nat.le_refl _)], dr0 w⟩
    case round =>
      obtain ⟨k, rfl, hk, hd, n, rfl⟩ := hrel
      have HD := hid hd
      clear hd
      by_cases h0 : k = 0
      · subst h0
        go_wp2
        go_ret
        exact ⟨ret_int (cmpN_eq (by have := HD.out; rw [List.drop_zero, List.drop_zero] at this; rw [← dval_digs a, this, dval_digs])), n, rfl⟩
      · obtain ⟨b1, off1, rfl, hb1, hcell1⟩ := u32s_cell hc (i := k - 1) (by rw [HLa.out]; omega)
        obtain ⟨b2, off2, rfl, hb2, hcell2⟩ := u32s_cell hbc (i := k - 1) (by rw [HLb.out]; omega)
        obtain ⟨d1, hd1⟩ : ∃ d, (digs a).getD (k - 1) 0 = d := ⟨_, rfl⟩
        obtain ⟨d2, hd2⟩ : ∃ d, (digs b).getD (k - 1) 0 = d := ⟨_, rfl⟩
        rw [hd1] at hcell1
        rw [hd2] at hcell2
        have HD1 := hid hd1
        have HD2 := hid hd2
        clear hd1 hd2
        rcases Nat.lt_trichotomy d1 d2 with hlt | hlt | hlt
        · go_wp2
          go_quiet (fail)
          go_wp2
          go_quiet (fail)
          go_wp2
          go_ret
          exact ⟨ret_int (cmpN_lt (digit_lt h0 HL.out (by rw [HLa.out]; exact hk) HD.out (by rw [HD1.out, HD2.out]; exact hlt))), dr3 _ _ _ _⟩
        · subst hlt
          go_wp2
          go_quiet (fail)
          go_wp2
          go_roundw
          case rel => exact ⟨k - 1, by go_num, by omega, drop_step h0 (by rw [HLa.out]; exact hk) (by rw [HLb.out]; exact hk) HD.out (by rw [HD1.out, HD2.out]), dr1 _ _⟩
          case measure => simp [intOf]; omega
        · go_wp2
          go_quiet (fail)
          go_wp2
          go_quiet (fail)
          go_wp2
          go_ret
          exact ⟨ret_int (cmpN_gt (digit_lt h0 HL.out.symm (by rw [HLb.out]; exact hk) HD.out.symm (by rw [HD1.out, HD2.out]; exact hlt))), dr3 _ _ _ _⟩
  · go_enter Tryz.func117, Tryz.ntmps117
    go_wp2
    go_ret
    exact ⟨ret_int (cmpN_gt (lt_of_digs_len hl)), 0, rfl⟩

end Go.Proofs.YtfkclcoipadhmaaGreatDoor

/- Walks of trankref01's natural numbers: plus. -/
namespace Go.Proofs.YtfkclcoipadhmaaGreatDoor
open Go.RowKit

theorem take_step {a : List Nat} {i : Nat} (h : i < a.length) : dval (a.take (i + 1)) = dval (a.take i) + 4294967296 ^ i * a.getD i 0 := by
  rw [List.take_succ_eq_append_getElem h, dval_append, List.length_take, Nat.min_eq_left (by omega), List.getD_eq_getElem?_getD, List.getElem?_eq_getElem h]
  simp [dval]
theorem take_stay {a : List Nat} {i : Nat} (h : a.length ≤ i) : dval (a.take (i + 1)) = dval (a.take i) := by
  rw [List.take_of_length_le (by omega), List.take_of_length_le h]
/-- What a round of plus does to the sums. -/
theorem plus_step {outs : List Nat} {i c s x y X Y X' Y' : Nat} (hl : outs.length = i) (h : dval outs + 4294967296 ^ i * c = X + Y) (hX : X' = X + 4294967296 ^ i * x) (hY : Y' = Y + 4294967296 ^ i * y)
    (hs : s = c + x + y) : dval (outs ++ [s % 4294967296]) + 4294967296 ^ (i + 1) * (s / 4294967296) = X' + Y' := by
  rw [dval_append, hl, hX, hY, Nat.pow_succ]
  simp only [dval, Nat.mul_zero, Nat.add_zero]
  have h1 : s % 4294967296 + 4294967296 * (s / 4294967296) = s := by omega
  rw [Nat.mul_assoc, Nat.add_assoc, ← Nat.mul_add, h1, hs, Nat.mul_add, Nat.mul_add]
  generalize 4294967296 ^ i * c = p at *
  generalize 4294967296 ^ i * x = q at *
  generalize 4294967296 ^ i * y = r at *
  omega
theorem all_snoc {outs : List Nat} {s : Nat} (h : ∀ d ∈ outs, d < 4294967296) : ∀ d ∈ outs ++ [s % 4294967296], d < 4294967296 := by
  intro d hd
  rcases List.mem_append.1 hd with hd | hd
  · exact h d hd
  · simp at hd; omega

set_option maxHeartbeats 1000000 in
theorem plus_any (a b : Nat) (u v : Value) (w : World) (ha : NatR w u a) (hb : NatR w v b) (la : (digs a).length ≤ 1099511627776) (lb : (digs b).length ≤ 1099511627776) :
    Calls Tryz.prog 116 #[u, v] w fun e w' => ∃ v', e = .returned v' ∧ NatF w.heap.size w' v' (a + b) ∧ Below w.heap.size w w' := by
  obtain ⟨ao, cap, rfl, hcap, hmax, hc⟩ := ha
  obtain ⟨bo, bcap, rfl, hbcap, hbmax, hbc⟩ := hb
  unfold maxLen at hmax hbmax
  obtain ⟨L, hL⟩ : ∃ L, (digs a).length = L := ⟨_, rfl⟩
  obtain ⟨M, hM⟩ : ∃ M, (digs b).length = M := ⟨_, rfl⟩
  have HL := hid hL
  have HM := hid hM
  have hda := digs_lt a
  have hdb := digs_lt b
  have HA := hid hda
  have HB := hid hdb
  rw [hL] at hcap la ⊢
  rw [hM] at hbcap lb ⊢
  clear hL hM hda hdb
  go_enter Tryz.func116, Tryz.ntmps116
  go_wp2
  go_loopw [5, 6, 7] (fun v x y wr => ∃ (i c : Nat) (outs : List Nat), x = .int .u64 c ∧ y = .int .i64 i ∧ c ≤ 1 ∧ outs.length = i ∧ i ≤ max L M + 1 ∧ (i ≤ max L M ∨ c = 0) ∧ (∀ d ∈ outs, d < 4294967296) ∧ wr.ownsRow w.heap.size 126 1 v outs.length (u32s outs) ∧
      dval outs + 4294967296 ^ i * c = dval ((digs a).take i) + dval ((digs b).take i) ∧ Below w.heap.size w wr) (fun _ _ y _ => max L M + 1 - (intOf y).toNat)
  case atStart => exact ⟨0, 0, [], rfl, rfl, by omega, rfl, by omega, .inr rfl, by simp, World.ownsRow_nil _ _ _ _, by simp [dval], Below.refl _ _⟩
  case round =>
    obtain ⟨i, c, outs, rfl, rfl, hc1, hlen, hi, hic, hall, hown, hsum, hbel⟩ := hrel
    have HLen := hid hlen
    have HAll := hid hall
    have HS := hid hsum
    have hsz := hbel.size
    rw [hlen] at hown
    clear hlen hall hsum
    by_cases h1 : i < L
    · obtain ⟨b1, off1, rfl, hb1, hcell1⟩ := u32s_cell hc (i := i) (by rw [HL.out]; omega)
      have hcr1 := (hbel.cell (p := ⟨b1, off1 + i, none⟩) hb1).trans hcell1
      obtain ⟨x, hx⟩ : ∃ d, (digs a).getD i 0 = d := ⟨_, rfl⟩
      have hxl : x < 4294967296 := by rw [← hx, List.getD_eq_getElem?_getD, List.getElem?_eq_getElem (by rw [HL.out]; omega)]; exact HA.out _ (List.getElem_mem _)
      rw [hx] at hcr1
      have HX := hid hx
      clear hx hcell1
      by_cases h2 : i < M
      · obtain ⟨b2, off2, rfl, hb2, hcell2⟩ := u32s_cell hbc (i := i) (by rw [HM.out]; omega)
        have hcr2 := (hbel.cell (p := ⟨b2, off2 + i, none⟩) hb2).trans hcell2
        obtain ⟨y, hy⟩ : ∃ d, (digs b).getD i 0 = d := ⟨_, rfl⟩
        have hyl : y < 4294967296 := by rw [← hy, List.getD_eq_getElem?_getD, List.getElem?_eq_getElem (by rw [HM.out]; omega)]; exact HB.out _ (List.getElem_mem _)
        rw [hy] at hcr2
        have HY := hid hy
        clear hy hcell2 hb2
        go_wp2_with (at_builtin; refine wpList_app rfl (.tmp 46) (.tmp 49) _ rfl w.heap.size 126 (.int .u32 0) 1 4 Tryz.underlying84 infoU32 rfl (by decide) 126 _ _ _ rfl hown [_] rfl rfl (by simp [Value.oneCell']) (by unfold maxLen; omega) (by omega) (by omega) ?_; intro g gcap w2 hown2 hb2 _ _ _)
        go_roundw
        case rel => exact ⟨i + 1, (c + x + y) / 4294967296, outs ++ [(c + x + y) % 4294967296], by go_num, by go_num, by omega, by rw [List.length_append, HLen.out]; rfl, by omega, by omega, all_snoc HAll.out, by rw [u32s_append, List.length_append, HLen.out]; exact hown2, plus_step HLen.out HS.out (x := x) (y := y) (by rw [take_step (by rw [HL.out]; omega), HX.out]) (by rw [take_step (by rw [HM.out]; omega), HY.out]) (by omega), hbel.trans hb2⟩
        case measure => simp [intOf]; omega
      · have hM2 := Nat.le_of_not_lt h2
        go_wp2_with (at_builtin; refine wpList_app rfl (.tmp 46) (.tmp 49) _ rfl w.heap.size 126 (.int .u32 0) 1 4 Tryz.underlying84 infoU32 rfl (by decide) 126 _ _ _ rfl hown [_] rfl rfl (by simp [Value.oneCell']) (by unfold maxLen; omega) (by omega) (by omega) ?_; intro g gcap w2 hown2 hb2 _ _ _)
        go_roundw
        case rel => exact ⟨i + 1, (c + x) / 4294967296, outs ++ [(c + x) % 4294967296], by go_num, by go_num, by omega, by rw [List.length_append, HLen.out]; rfl, by omega, by omega, all_snoc HAll.out, by rw [u32s_append, List.length_append, HLen.out]; exact hown2, plus_step HLen.out HS.out (x := x) (y := 0) (by rw [take_step (by rw [HL.out]; omega), HX.out]) (take_stay (by rw [HM.out]; omega)) (by omega), hbel.trans hb2⟩
        case measure => simp [intOf]; omega
    · by_cases h2 : i < M
      · obtain ⟨b2, off2, rfl, hb2, hcell2⟩ := u32s_cell hbc (i := i) (by rw [HM.out]; omega)
        have hcr2 := (hbel.cell (p := ⟨b2, off2 + i, none⟩) hb2).trans hcell2
        obtain ⟨y, hy⟩ : ∃ d, (digs b).getD i 0 = d := ⟨_, rfl⟩
        have hyl : y < 4294967296 := by rw [← hy, List.getD_eq_getElem?_getD, List.getElem?_eq_getElem (by rw [HM.out]; omega)]; exact HB.out _ (List.getElem_mem _)
        rw [hy] at hcr2
        have HY := hid hy
        clear hy hcell2 hb2
        go_wp2_with (at_builtin; refine wpList_app rfl (.tmp 46) (.tmp 49) _ rfl w.heap.size 126 (.int .u32 0) 1 4 Tryz.underlying84 infoU32 rfl (by decide) 126 _ _ _ rfl hown [_] rfl rfl (by simp [Value.oneCell']) (by unfold maxLen; omega) (by omega) (by omega) ?_; intro g gcap w2 hown2 hb2 _ _ _)
        go_roundw
        case rel => exact ⟨i + 1, (c + y) / 4294967296, outs ++ [(c + y) % 4294967296], by go_num, by go_num, by omega, by rw [List.length_append, HLen.out]; rfl, by omega, by omega, all_snoc HAll.out, by rw [u32s_append, List.length_append, HLen.out]; exact hown2, plus_step HLen.out HS.out (x := 0) (y := y) (take_stay (by rw [HL.out]; omega)) (by rw [take_step (by rw [HM.out]; omega), HY.out]) (by omega), hbel.trans hb2⟩
        case measure => simp [intOf]; omega
      · by_cases h3 : c = 0
        · subst h3
          go_wp2_with (go_at_call 139; refine (trimmed_any w.heap.size outs _ _ HAll.out (by unfold DsR; rw [HLen.out]; exact SlR.of_owns hown)).mono ?_; rintro e w' ⟨v', rfl, hv', rfl⟩)
          go_ret
          refine ⟨_, rfl, ?_, hbel⟩
          have h := HS.out
          rw [List.take_of_length_le (by rw [HL.out]; omega), List.take_of_length_le (by rw [HM.out]; omega), dval_digs, dval_digs] at h
          rw [← h]; simpa using hv'
        · obtain rfl : c = 1 := by omega
          go_wp2_with (at_builtin; refine wpList_app rfl (.tmp 46) (.tmp 49) _ rfl w.heap.size 126 (.int .u32 0) 1 4 Tryz.underlying84 infoU32 rfl (by decide) 126 _ _ _ rfl hown [.int .u32 ((1 : Nat) : Int)] rfl rfl (by simp [Value.oneCell']) (by unfold maxLen; omega) (by omega) (by omega) ?_; intro g gcap w2 hown2 hb2 _ _ _)
          go_roundw
          case rel => exact ⟨i + 1, 0, outs ++ [1], by go_num, by go_num, by omega, by rw [List.length_append, HLen.out]; rfl, by omega, by omega, all_snoc (s := 1) HAll.out, by rw [u32s_append, List.length_append, HLen.out]; exact hown2, plus_step HLen.out HS.out (s := 1) (x := 0) (y := 0) (take_stay (by rw [HL.out]; omega)) (take_stay (by rw [HM.out]; omega)) rfl, hbel.trans hb2⟩
          case measure => simp [intOf]; omega

end Go.Proofs.YtfkclcoipadhmaaGreatDoor

/- Walks of trankref01's natural numbers: less. -/
namespace Go.Proofs.YtfkclcoipadhmaaGreatDoor
open Go.RowKit

theorem own_snoc {w : World} {base : Nat} {e : TypeId} {v : Value} {n : Nat} {outs : List Nat} {z : Int} {r : Nat} (h : w.ownsRow base e 1 v n (u32s outs ++ [.int .u32 z])) (hn : outs.length + 1 = n) (hz : z = (r : Int)) :
    w.ownsRow base e 1 v (outs ++ [r]).length (u32s (outs ++ [r])) := by
  subst hz; subst hn
  rw [u32s_append, List.length_append]; exact h
theorem less_step {outs : List Nat} {i c c' r x y X Y X' Y' : Nat} (hl : outs.length = i) (h : dval outs + Y = X + 4294967296 ^ i * c) (hX : X' = X + 4294967296 ^ i * x) (hY : Y' = Y + 4294967296 ^ i * y)
    (hs : r + c + y = x + 4294967296 * c') : dval (outs ++ [r]) + Y' = X' + 4294967296 ^ (i + 1) * c' := by
  rw [dval_append, hl, hX, hY, Nat.pow_succ]
  simp only [dval, Nat.mul_zero, Nat.add_zero]
  rw [Nat.mul_assoc]
  have h1 : 4294967296 ^ i * r + 4294967296 ^ i * c + 4294967296 ^ i * y = 4294967296 ^ i * x + 4294967296 ^ i * (4294967296 * c') := by
    rw [← Nat.mul_add, ← Nat.mul_add, ← Nat.mul_add, hs]
  omega
theorem all_snoc' {outs : List Nat} {s : Nat} (h : ∀ d ∈ outs, d < 4294967296) (hs : s < 4294967296) : ∀ d ∈ outs ++ [s], d < 4294967296 := by
  intro d hd
  rcases List.mem_append.1 hd with hd | hd
  · exact h d hd
  · simp at hd; omega
theorem digit_at {ds : List Nat} (h : ∀ d ∈ ds, d < 4294967296) {i : Nat} : ∃ d, ds.getD i 0 = d ∧ d < 4294967296 := by
  refine ⟨_, rfl, ?_⟩
  rw [List.getD_eq_getElem?_getD]
  by_cases hi : i < ds.length
  · rw [List.getElem?_eq_getElem hi]; exact h _ (List.getElem_mem _)
  · rw [List.getElem?_eq_none (by omega)]; decide
theorem less_end {a b c : Nat} {outs : List Nat} (hl : outs.length = (digs a).length) (hall : ∀ d ∈ outs, d < 4294967296) (hc : c ≤ 1) (hle : b ≤ a)
    (h : dval outs + dval ((digs b).take (digs a).length) = dval ((digs a).take (digs a).length) + 4294967296 ^ (digs a).length * c) : dval outs = a - b := by
  rw [List.take_of_length_le (Nat.le_refl _), List.take_of_length_le (digs_mono_len hle), dval_digs, dval_digs] at h
  have h2 := dval_lt outs hall
  rw [hl] at h2
  rcases (show c = 0 ∨ c = 1 by omega) with rfl | rfl
  · omega
  · omega

set_option maxHeartbeats 1000000 in
theorem less_any (a b : Nat) (u v : Value) (w : World) (ha : NatR w u a) (hb : NatR w v b) (hle : b ≤ a) (la : (digs a).length ≤ 1099511627776) :
    Calls Tryz.prog 118 #[u, v] w fun e w' => ∃ v', e = .returned v' ∧ NatF w.heap.size w' v' (a - b) ∧ Below w.heap.size w w' := by
  have lb := Nat.le_trans (digs_mono_len hle) la
  have HLe := hid hle
  clear hle
  obtain ⟨ao, cap, rfl, hcap, hmax, hc⟩ := ha
  obtain ⟨bo, bcap, rfl, hbcap, hbmax, hbc⟩ := hb
  unfold maxLen at hmax hbmax
  obtain ⟨L, hL⟩ : ∃ L, (digs a).length = L := ⟨_, rfl⟩
  obtain ⟨M, hM⟩ : ∃ M, (digs b).length = M := ⟨_, rfl⟩
  have HL := hid hL
  have HM := hid hM
  have hda := digs_lt a
  have hdb := digs_lt b
  have HA := hid hda
  have HB := hid hdb
  rw [hL] at hcap la ⊢
  rw [hM] at hbcap lb ⊢
  clear hL hM hda hdb
  go_enter Tryz.func118, Tryz.ntmps118
  go_wp2
  go_loopw [5, 6, 11] (fun v x y wr => ∃ (i c : Nat) (outs : List Nat), x = .int .i64 c ∧ y = .int .i64 i ∧ c ≤ 1 ∧ outs.length = i ∧ i ≤ L ∧ (∀ d ∈ outs, d < 4294967296) ∧ wr.ownsRow w.heap.size 126 1 v outs.length (u32s outs) ∧
      dval outs + dval ((digs b).take i) = dval ((digs a).take i) + 4294967296 ^ i * c ∧ Below w.heap.size w wr) (fun _ _ y _ => L - (intOf y).toNat)
  case atStart => exact ⟨0, 0, [], rfl, rfl, by omega, rfl, by omega, by simp, World.ownsRow_nil _ _ _ _, by simp [dval], Below.refl _ _⟩
  case round =>
    obtain ⟨i, c, outs, rfl, rfl, hc1, hlen, hi, hall, hown, hsum, hbel⟩ := hrel
    have HLen := hid hlen
    have HAll := hid hall
    have HS := hid hsum
    have hsz := hbel.size
    rw [hlen] at hown
    clear hlen hall hsum
    by_cases h1 : i < L
    · obtain ⟨b1, off1, rfl, hb1, hcell1⟩ := u32s_cell hc (i := i) (by rw [HL.out]; omega)
      have hcr1 := (hbel.cell (p := ⟨b1, off1 + i, none⟩) hb1).trans hcell1
      obtain ⟨x, hx, hxl⟩ := digit_at HA.out (i := i)
      rw [hx] at hcr1
      have HX := hid hx
      clear hx hcell1 hb1
      by_cases h2 : i < M
      · obtain ⟨b2, off2, rfl, hb2, hcell2⟩ := u32s_cell hbc (i := i) (by rw [HM.out]; omega)
        have hcr2 := (hbel.cell (p := ⟨b2, off2 + i, none⟩) hb2).trans hcell2
        obtain ⟨y, hy, hyl⟩ := digit_at HB.out (i := i)
        rw [hy] at hcr2
        have HY := hid hy
        clear hy hcell2 hb2
        by_cases hn : x < c + y
        · go_wp2_with (at_builtin; refine wpList_app rfl (.tmp 36) (.tmp 39) _ rfl w.heap.size 126 (.int .u32 0) 1 4 Tryz.underlying84 infoU32 rfl (by decide) 126 _ _ _ rfl hown [_] rfl rfl (by simp [Value.oneCell']) (by unfold maxLen; omega) (by omega) (by omega) ?_; intro g gcap w2 hown2 hb2 _ _ _)
          go_roundw
          case rel => exact ⟨i + 1, 1, outs ++ [x + 4294967296 - c - y], by go_num, by go_num, by omega, by rw [List.length_append, HLen.out]; rfl, by omega, all_snoc' HAll.out (by omega), own_snoc hown2 (by rw [HLen.out]) (by omega), less_step HLen.out HS.out (x := x) (y := y) (by rw [take_step (by rw [HL.out]; omega), HX.out]) (by rw [take_step (by rw [HM.out]; omega), HY.out]) (by omega), hbel.trans hb2⟩
          case measure => simp [intOf]; omega
        · go_wp2_with (at_builtin; refine wpList_app rfl (.tmp 36) (.tmp 39) _ rfl w.heap.size 126 (.int .u32 0) 1 4 Tryz.underlying84 infoU32 rfl (by decide) 126 _ _ _ rfl hown [_] rfl rfl (by simp [Value.oneCell']) (by unfold maxLen; omega) (by omega) (by omega) ?_; intro g gcap w2 hown2 hb2 _ _ _)
          go_roundw
          case rel => exact ⟨i + 1, 0, outs ++ [x - c - y], by go_num, by go_num, by omega, by rw [List.length_append, HLen.out]; rfl, by omega, all_snoc' HAll.out (by omega), own_snoc hown2 (by rw [HLen.out]) (by omega), less_step HLen.out HS.out (x := x) (y := y) (by rw [take_step (by rw [HL.out]; omega), HX.out]) (by rw [take_step (by rw [HM.out]; omega), HY.out]) (by omega), hbel.trans hb2⟩
          case measure => simp [intOf]; omega
      · have hM2 := Nat.le_of_not_lt h2
        by_cases hn : x < c
        · go_wp2_with (at_builtin; refine wpList_app rfl (.tmp 36) (.tmp 39) _ rfl w.heap.size 126 (.int .u32 0) 1 4 Tryz.underlying84 infoU32 rfl (by decide) 126 _ _ _ rfl hown [_] rfl rfl (by simp [Value.oneCell']) (by unfold maxLen; omega) (by omega) (by omega) ?_; intro g gcap w2 hown2 hb2 _ _ _)
          go_roundw
          case rel => exact ⟨i + 1, 1, outs ++ [x + 4294967296 - c], by go_num, by go_num, by omega, by rw [List.length_append, HLen.out]; rfl, by omega, all_snoc' HAll.out (by omega), own_snoc hown2 (by rw [HLen.out]) (by omega), less_step HLen.out HS.out (x := x) (y := 0) (by rw [take_step (by rw [HL.out]; omega), HX.out]) (take_stay (by rw [HM.out]; omega)) (by omega), hbel.trans hb2⟩
          case measure => simp [intOf]; omega
        · go_wp2_with (at_builtin; refine wpList_app rfl (.tmp 36) (.tmp 39) _ rfl w.heap.size 126 (.int .u32 0) 1 4 Tryz.underlying84 infoU32 rfl (by decide) 126 _ _ _ rfl hown [_] rfl rfl (by simp [Value.oneCell']) (by unfold maxLen; omega) (by omega) (by omega) ?_; intro g gcap w2 hown2 hb2 _ _ _)
          go_roundw
          case rel => exact ⟨i + 1, 0, outs ++ [x - c], by go_num, by go_num, by omega, by rw [List.length_append, HLen.out]; rfl, by omega, all_snoc' HAll.out (by omega), own_snoc hown2 (by rw [HLen.out]) (by omega), less_step HLen.out HS.out (x := x) (y := 0) (by rw [take_step (by rw [HL.out]; omega), HX.out]) (take_stay (by rw [HM.out]; omega)) (by omega), hbel.trans hb2⟩
          case measure => simp [intOf]; omega
    · obtain rfl : i = L := by omega
      go_wp2_with (go_at_call 139; refine (trimmed_any w.heap.size outs _ _ HAll.out (by unfold DsR; rw [HLen.out]; exact SlR.of_owns hown)).mono ?_; rintro e w' ⟨v', rfl, hv', rfl⟩)
      go_ret
      refine ⟨_, rfl, ?_, hbel⟩
      rw [less_end (a := a) (b := b) (by rw [HLen.out, HL.out]) HAll.out hc1 HLe.out (by rw [HL.out]; exact HS.out)] at hv'
      exact hv'

end Go.Proofs.YtfkclcoipadhmaaGreatDoor

/- Walks of trankref01's natural numbers: times. -/
namespace Go.Proofs.YtfkclcoipadhmaaGreatDoor
open Go.RowKit

theorem times_inner {D i k x y Y Y' : Nat} (hY : Y' = Y + 4294967296 ^ k * y) : D + 4294967296 ^ i * (x * Y) + 4294967296 ^ (i + k) * (x * y) = D + 4294967296 ^ i * (x * Y') := by
  rw [hY, Nat.pow_add, Nat.mul_assoc, Nat.add_assoc, ← Nat.mul_add]
  congr 2
  rw [Nat.mul_add, Nat.mul_left_comm]
theorem times_row {o : List Nat} {j c i x b X X' : Nat} (hj : j < o.length) (h0 : o.getD j 0 = 0) (h : dval o + 4294967296 ^ j * c = X * b + 4294967296 ^ i * (x * b)) (hX : X' = X + 4294967296 ^ i * x) : dval (o.set j c) = X' * b := by
  have h1 := dval_set o j c hj
  rw [h0, Nat.mul_zero, Nat.add_zero, h] at h1
  rw [h1, hX, Nat.add_mul, Nat.mul_assoc]
theorem getD_repl (n j : Nat) : (List.replicate n 0).getD j 0 = 0 := by
  rw [List.getD_eq_getElem?_getD, List.getElem?_replicate]
  split <;> rfl
theorem u32s_repl (n : Nat) : u32s (List.replicate n 0) = List.replicate n (.int .u32 0) := by
  unfold u32s; rw [List.map_replicate]; rfl

set_option maxHeartbeats 2000000 in
theorem times_any (a b : Nat) (u v : Value) (w : World) (ha : NatR w u a) (hb : NatR w v b) (la : (digs a).length ≤ 1099511627776) (lb : (digs b).length ≤ 1099511627776) :
    Calls Tryz.prog 114 #[u, v] w fun e w' => ∃ v', e = .returned v' ∧ NatF w.heap.size w' v' (a * b) ∧ Below w.heap.size w w' := by
  obtain ⟨ao, cap, rfl, hcap, hmax, hc⟩ := ha
  obtain ⟨bo, bcap, rfl, hbcap, hbmax, hbc⟩ := hb
  unfold maxLen at hmax hbmax
  obtain ⟨L, hL⟩ : ∃ L, (digs a).length = L := ⟨_, rfl⟩
  obtain ⟨M, hM⟩ : ∃ M, (digs b).length = M := ⟨_, rfl⟩
  have HL := hid hL
  have HM := hid hM
  have hda := digs_lt a
  have hdb := digs_lt b
  have HA := hid hda
  have HB := hid hdb
  rw [hL] at hcap la ⊢
  rw [hM] at hbcap lb ⊢
  clear hL hM hda hdb
  go_enter Tryz.func114, Tryz.ntmps114
  go_wp2_with (at_make; refine wpList_mk rfl (.tmp 16) (.tmp 16) _ rfl w.heap.size 126 (.int .u32 0) 4 Tryz.underlying84 infoU32 rfl _ _ _ _ (L + M + 1) rfl rfl (by omega) (by omega) (by omega) (by unfold maxLen; omega) (Nat.le_refl _) ?_; intro w1 hown1 hb1 hlt1 _)
  rw [← u32s_repl] at hown1
  go_loopw [20] (fun x wr => ∃ (i : Nat) (o : List Nat), x = .int .i64 i ∧ i ≤ L ∧ o.length = L + M + 1 ∧ (∀ d ∈ o, d < 4294967296) ∧ wr.ownsRow w.heap.size 126 1 (.slice (some ⟨w.heap.size, 0, none⟩) (L + M + 1) (L + M + 1)) (L + M + 1) (u32s o) ∧
      dval o = dval ((digs a).take i) * b ∧ (∀ j, i + M ≤ j → o.getD j 0 = 0) ∧ Below w.heap.size w wr) (fun x _ => L - (intOf x).toNat)
  case atStart => exact ⟨0, List.replicate (L + M + 1) 0, rfl, by omega, by simp, fun d hd => by rw [List.eq_of_mem_replicate hd]; decide, hown1, by rw [dval_replicate]; simp [dval], fun j _ => getD_repl _ _, hb1⟩
  case round =>
    obtain ⟨i, o, rfl, hi, hlen, hall, hown, hsum, hzero, hbel⟩ := hrel
    have HLen := hid hlen
    have HAll := hid hall
    have HS := hid hsum
    have HZ := hid hzero
    clear hlen hall hsum hzero
    by_cases h1 : i < L
    · obtain ⟨b1, off1, rfl, hb1, hcell1⟩ := u32s_cell hc (i := i) (by rw [HL.out]; omega)
      have hcr1 := (hbel.cell (p := ⟨b1, off1 + i, none⟩) hb1).trans hcell1
      obtain ⟨x, hx, hxl⟩ := digit_at HA.out (i := i)
      rw [hx] at hcr1
      have HX := hid hx
      clear hx hcell1 hb1
      obtain ⟨wo, rfl⟩ : ∃ wo : World, wo = wr := ⟨_, rfl⟩
      go_wp2
      go_loopw [8, 27] (fun y z wr => ∃ (k c : Nat) (o' : List Nat), y = .int .u64 c ∧ z = .int .i64 k ∧ k ≤ M ∧ c < 4294967296 ∧ o'.length = L + M + 1 ∧ (∀ d ∈ o', d < 4294967296) ∧ wr.ownsRow w.heap.size 126 1 (.slice (some ⟨w.heap.size, 0, none⟩) (L + M + 1) (L + M + 1)) (L + M + 1) (u32s o') ∧
        dval o' + 4294967296 ^ (i + k) * c = dval o + 4294967296 ^ i * (x * dval ((digs b).take k)) ∧ (∀ j, i + M ≤ j → o'.getD j 0 = 0) ∧ Below w.heap.size w wr) (fun _ z _ => M - (intOf z).toNat)
      case atStart => exact ⟨0, 0, o, rfl, rfl, by omega, by omega, HLen.out, HAll.out, hown, by simp only [List.take_zero, dval, Nat.mul_zero, Nat.add_zero], HZ.out, hbel⟩
      case round =>
        obtain ⟨k, c, o', rfl, rfl, hk, hcl, hlen', hall', hown', hsum', hzero', hbel'⟩ := hrel
        have HLen' := hid hlen'
        have HAll' := hid hall'
        have HS' := hid hsum'
        have HZ' := hid hzero'
        clear hlen' hall' hsum' hzero'
        by_cases h2 : k < M
        · obtain ⟨b2, off2, rfl, hb2, hcell2⟩ := u32s_cell hbc (i := k) (by rw [HM.out]; omega)
          have hcr2 := (hbel'.cell (p := ⟨b2, off2 + k, none⟩) hb2).trans hcell2
          obtain ⟨y, hy, hyl⟩ := digit_at HB.out (i := k)
          rw [hy] at hcr2
          have HY := hid hy
          clear hy hcell2 hb2
          have hco := dig_cell hown' (j := i + k) (by rw [HLen'.out]; omega)
          have hfo := hown'.frozenAt (i + k)
          obtain ⟨z, hz, hzl⟩ := digit_at HAll'.out (i := i + k)
          rw [hz] at hco
          have HZZ := hid hz
          clear hz
          have hxy : (x : Int) * (y : Int) ≤ 18446744065119617025 := by rw [← Int.natCast_mul]; have := prod_lt hxl hyl; omega
          have hxy0 : 0 ≤ (x : Int) * (y : Int) := by rw [← Int.natCast_mul]; omega
          go_wp2
          go_roundw
          case rel =>
            have hp := prod_lt hxl hyl
            exact ⟨k + 1, (c + (z + x * y)) / 4294967296, o'.set (i + k) ((c + (z + x * y)) % 4294967296), congrArg (Value.int .u64) (by rw [Int.natCast_ediv, Int.natCast_add, Int.natCast_add, Int.natCast_mul]; rfl), by go_num, by omega, by omega, by rw [List.length_set]; exact HLen'.out, mem_set_lt HAll'.out (by omega),
              dig_set hown' _ _ (by rw [Int.natCast_emod, Int.natCast_add, Int.natCast_add, Int.natCast_mul]; rfl), by rw [← times_inner (take_step (by rw [HM.out]; omega)), HY.out]; exact times_step (by rw [HLen'.out]; omega) (by rw [HZZ.out]) HS'.out,
              fun j hj => by rw [getD_set_ne (by omega)]; exact HZ'.out j hj, hbel'.setCell (Nat.le_refl _) _⟩
          case measure => simp [intOf]; omega
        · obtain rfl : k = M := by omega
          have hco := dig_cell hown' (j := i + k) (by rw [HLen'.out]; omega)
          have hfo := hown'.frozenAt (i + k)
          rw [HZ'.out _ (Nat.le_refl _)] at hco
          go_wp2
          go_roundw
          case rel =>
            have hs := HS'.out
            rw [List.take_of_length_le (by rw [HM.out]; omega), dval_digs, HS.out] at hs
            exact ⟨i + 1, o'.set (i + k) c, by go_num, by omega, by rw [List.length_set]; exact HLen'.out, mem_set_lt HAll'.out hcl, dig_set hown' _ _ (by first | rfl | omega),
              times_row (by rw [HLen'.out]; omega) (HZ'.out _ (Nat.le_refl _)) hs (by rw [take_step (by rw [HL.out]; omega), HX.out]), fun j hj => by rw [getD_set_ne (by omega)]; exact HZ'.out j (by omega), hbel'.setCell (Nat.le_refl _) _⟩
          case measure => simp [intOf]; omega
    · obtain rfl : i = L := by omega
      go_wp2_with (go_at_call 139; refine (trimmed_any w.heap.size o _ _ HAll.out (by unfold DsR; rw [HLen.out]; exact SlR.of_owns hown)).mono ?_; rintro e w' ⟨v', rfl, hv', rfl⟩)
      go_ret
      refine ⟨_, rfl, ?_, hbel⟩
      rw [HS.out, List.take_of_length_le (by rw [HL.out]; omega), dval_digs] at hv'
      exact hv'

end Go.Proofs.YtfkclcoipadhmaaGreatDoor

/- Walks of trankref01's natural numbers: short, divided, divisor. -/
namespace Go.Proofs.YtfkclcoipadhmaaGreatDoor
open Go.RowKit

theorem drop_get {ds : List Nat} {k : Nat} (hk : k ≠ 0) (hle : k ≤ ds.length) : ds.drop (k - 1) = ds.getD (k - 1) 0 :: ds.drop k := by
  rw [List.drop_eq_getElem_cons (by omega), List.getD_eq_getElem?_getD, List.getElem?_eq_getElem (by omega), show k - 1 + 1 = k by omega]; rfl

theorem or_add {a b i : Nat} (hb : b < 2 ^ i) : (a * 2 ^ i) ||| b = a * 2 ^ i + b := by
  rw [Nat.mul_comm a, ← Nat.two_pow_add_eq_or_of_lt hb]
theorem shl_or {acc x : Nat} (ha : acc < 4294967296) (hx : x < 4294967296) : bits .or .u64 ((acc : Int) * 4294967296) (x : Int) = ((x + 4294967296 * acc : Nat) : Int) := by
  have h1 : (acc : Int) * 4294967296 = ((acc * 4294967296 : Nat) : Int) := by omega
  rw [h1, u64_or_nat _ _ (by omega) (by omega)]
  have := or_add (a := acc) (b := x) (i := 32) (by omega)
  rw [show (2 : Nat) ^ 32 = 4294967296 from rfl] at this
  rw [this]; omega

set_option maxHeartbeats 400000 in
theorem short_any (n : Nat) (v : Value) (w : World) (hn : n < 18446744073709551616) (h : NatR w v n) :
    Calls Tryz.prog 143 #[v] w fun e w' => e = .returned (.int .u64 n) ∧ w = w' := by
  obtain ⟨ao, cap, rfl, hcap, hmax, hc⟩ := h
  unfold maxLen at hmax
  obtain ⟨L, hL⟩ : ∃ L, (digs n).length = L := ⟨_, rfl⟩
  have hL2 := digs_len_two hn
  have HL := hid hL
  have hda := digs_lt n
  have HA := hid hda
  rw [hL] at hcap hL2 ⊢
  clear hL hda
  go_enter Tryz.func143, Tryz.ntmps143
  go_wp2
  go_loop [3, 4] (fun x y => ∃ (k acc : Nat), x = .int .u64 acc ∧ y = .int .i64 ((k : Int) - 1) ∧ k ≤ L ∧ acc = dval ((digs n).drop k)) (fun _ y => (intOf y + 1).toNat)
  case atStart => exact ⟨L, 0, rfl, rfl, Nat.le_refl _, by rw [List.drop_of_length_le (by rw [HL.out]; exact Nat.le_refl _)]; rfl⟩
  case round =>
    obtain ⟨k, acc, rfl, rfl, hk, hacc⟩ := hrel
    have HC := hid hacc
    clear hacc
    by_cases h0 : k = 0
    · subst h0
      go_wp2
      go_ret
      exact ⟨ret_int (by rw [HC.out, List.drop_zero, dval_digs]), rfl⟩
    · obtain ⟨b1, off1, rfl, hb1, hcell1⟩ := u32s_cell hc (i := k - 1) (by rw [HL.out]; omega)
      obtain ⟨x, hx, hxl⟩ := digit_at HA.out (i := k - 1)
      rw [hx] at hcell1
      have HX := hid hx
      clear hx
      have hacl : acc < 4294967296 := by
        rw [HC.out]
        have h2 := dval_lt ((digs n).drop k) (fun d hd => HA.out d (List.mem_of_mem_drop hd))
        have h3 : ((digs n).drop k).length ≤ 1 := by rw [List.length_drop, HL.out]; omega
        have h4 := Nat.pow_le_pow_right (show 0 < 4294967296 by omega) h3
        omega
      go_wp2
      go_round
      case rel => exact ⟨k - 1, x + 4294967296 * acc, by rw [shl_or hacl hxl], by go_num, by omega, by rw [drop_get h0 (by rw [HL.out]; omega), dval, HX.out, HC.out]⟩
      case measure => simp [intOf]; omega

end Go.Proofs.YtfkclcoipadhmaaGreatDoor

/- Plain numbers: bits of digits, a step of long division. -/
namespace Go.Proofs.YtfkclcoipadhmaaGreatDoor

theorem dval_getD (o : List Nat) (h : ∀ d ∈ o, d < 4294967296) (j : Nat) : o.getD j 0 = dval o / 4294967296 ^ j % 4294967296 := by
  induction o generalizing j with
  | nil => simp [dval]
  | cons x xs ih =>
    have hx := h x (by simp)
    cases j with
    | zero => simp [dval]; omega
    | succ j =>
      rw [List.getD_cons_succ, ih (fun d hd => h d (by simp [hd])) j, dval, Nat.pow_succ, Nat.mul_comm (4294967296 ^ j), ← Nat.div_div_eq_div_mul]
      rw [show (x + 4294967296 * dval xs) / 4294967296 = dval xs by omega]
theorem digs_getD (a j : Nat) : (digs a).getD j 0 = a / 4294967296 ^ j % 4294967296 := by
  rw [dval_getD _ (digs_lt a), dval_digs]
theorem pow_split (i : Nat) : (2 : Nat) ^ i = 4294967296 ^ (i / 32) * 2 ^ (i % 32) := by
  conv => lhs; rw [show i = 32 * (i / 32) + i % 32 by omega]
  rw [Nat.pow_add, Nat.pow_mul]
/-- Bit i of a number, read off its digits. -/
theorem bit_of (a i : Nat) : (digs a).getD (i / 32) 0 / 2 ^ (i % 32) % 2 = a / 2 ^ i % 2 := by
  rw [digs_getD, pow_split i, ← Nat.div_div_eq_div_mul]
  generalize a / 4294967296 ^ (i / 32) = c
  have hr : i % 32 < 32 := Nat.mod_lt _ (by omega)
  generalize i % 32 = r at hr
  have h1 : (4294967296 : Nat) = 2 ^ r * 2 ^ (32 - r) := by rw [← Nat.pow_add, show r + (32 - r) = 32 by omega]
  rw [h1, Nat.mod_mul_right_div_self]
  have h2 : 2 ^ (32 - r) = 2 * 2 ^ (31 - r) := by rw [show 32 - r = (31 - r) + 1 by omega, Nat.pow_succ, Nat.mul_comm]
  exact Nat.mod_mod_of_dvd _ ⟨_, h2⟩
/-- The digit in which bit i lies, of a number without bits up to i. -/
theorem digit_free (o : List Nat) (h : ∀ d ∈ o, d < 4294967296) (i Q : Nat) (hq : dval o = Q * 2 ^ (i + 1)) : ∃ t, o.getD (i / 32) 0 = t * 2 ^ (i % 32 + 1) ∧ t * 2 ^ (i % 32 + 1) + 2 ^ (i % 32) < 4294967296 := by
  have hr : i % 32 < 32 := Nat.mod_lt _ (by omega)
  have e1 : dval o / 4294967296 ^ (i / 32) = Q * 2 ^ (i % 32 + 1) := by
    rw [hq, Nat.pow_succ, pow_split i, show Q * (4294967296 ^ (i / 32) * 2 ^ (i % 32) * 2) = 4294967296 ^ (i / 32) * (Q * 2 ^ (i % 32 + 1)) by
      rw [Nat.pow_succ]; generalize 4294967296 ^ (i / 32) = x; generalize 2 ^ (i % 32) = y; rw [Nat.mul_assoc x y 2, Nat.mul_left_comm]]
    exact Nat.mul_div_cancel_left _ (Nat.pow_pos (by omega))
  have e2 : (4294967296 : Nat) = 2 ^ (31 - i % 32) * 2 ^ (i % 32 + 1) := by rw [← Nat.pow_add, show 31 - i % 32 + (i % 32 + 1) = 32 by omega]
  refine ⟨Q % 2 ^ (31 - i % 32), ?_, ?_⟩
  · rw [dval_getD o h, e1]
    conv => lhs; rw [e2]
    exact Nat.mul_mod_mul_right _ _ _
  · have h3 : Q % 2 ^ (31 - i % 32) < 2 ^ (31 - i % 32) := Nat.mod_lt _ (Nat.pow_pos (by omega))
    have h4 : (Q % 2 ^ (31 - i % 32) + 1) * 2 ^ (i % 32 + 1) ≤ 4294967296 := by
      conv => rhs; rw [e2]
      exact Nat.mul_le_mul_right _ h3
    rw [Nat.add_mul, Nat.one_mul] at h4
    have h5 : 2 ^ (i % 32) < 2 ^ (i % 32 + 1) := Nat.pow_lt_pow_right (by omega) (by omega)
    omega
theorem or_free (t r : Nat) : (t * 2 ^ (r + 1)) ||| 2 ^ r = t * 2 ^ (r + 1) + 2 ^ r := by
  rw [Nat.mul_comm t, ← Nat.two_pow_add_eq_or_of_lt (Nat.pow_lt_pow_right (by omega) (by omega))]
/-- A step of long division. -/
theorem div_step {a b k : Nat} (hk : k ≠ 0) (_hb : 0 < b) : let A := a / 2 ^ k; let A' := a / 2 ^ (k - 1); let r1 := 2 * (A % b) + A' % 2;
    (b ≤ r1 → A' % b = r1 - b ∧ A' / b * 2 ^ (k - 1) = A / b * 2 ^ k + 2 ^ (k - 1)) ∧ (¬ b ≤ r1 → A' % b = r1 ∧ A' / b * 2 ^ (k - 1) = A / b * 2 ^ k) := by
  intro A A' r1
  have e : (2 : Nat) ^ k = 2 * 2 ^ (k - 1) := by rw [show k = (k - 1) + 1 by omega, Nat.pow_succ, Nat.mul_comm, Nat.add_sub_cancel]
  have h1 : A = A' / 2 := by show a / 2 ^ k = a / 2 ^ (k - 1) / 2; rw [e, Nat.mul_comm, Nat.div_div_eq_div_mul]
  have h2 : A' = 2 * A + A' % 2 := by omega
  have h3 : A = b * (A / b) + A % b := (Nat.div_add_mod A b).symm
  have h4 : A % b < b := Nat.mod_lt _ (by omega)
  have h5 : A' = b * (2 * (A / b)) + r1 := by
    show _ = b * (2 * (A / b)) + (2 * (A % b) + A' % 2)
    rw [Nat.mul_left_comm]
    generalize b * (A / b) = x at *
    omega
  have h6 : r1 < 2 * b := by show 2 * (A % b) + A' % 2 < 2 * b; omega
  have fin : ∀ q r, A' = b * q + r → r < b → A' / b = q ∧ A' % b = r := by
    intro q r hA hr
    constructor
    · rw [hA, Nat.mul_add_div (by omega), Nat.div_eq_of_lt hr, Nat.add_zero]
    · rw [hA, Nat.mul_add_mod, Nat.mod_eq_of_lt hr]
  constructor
  · intro hle
    obtain ⟨q1, q2⟩ := fin (2 * (A / b) + 1) (r1 - b) (by rw [Nat.mul_add, Nat.mul_one]; omega) (by omega)
    refine ⟨q2, ?_⟩
    rw [q1, e, Nat.add_mul, Nat.one_mul, Nat.mul_left_comm, Nat.mul_assoc]
  · intro hle
    obtain ⟨q1, q2⟩ := fin (2 * (A / b)) r1 h5 (by omega)
    refine ⟨q2, ?_⟩
    rw [q1, e, Nat.mul_left_comm, Nat.mul_assoc]
theorem set_bit {o : List Nat} {i t : Nat} (hi : i / 32 < o.length) (ht : o.getD (i / 32) 0 = t * 2 ^ (i % 32 + 1)) : dval (o.set (i / 32) (t * 2 ^ (i % 32 + 1) + 2 ^ (i % 32))) = dval o + 2 ^ i := by
  have := dval_set o (i / 32) (t * 2 ^ (i % 32 + 1) + 2 ^ (i % 32)) hi
  rw [ht, Nat.mul_add, ← pow_split i] at this
  omega
theorem shift_all (a : Nat) {L : Nat} (h : (digs a).length ≤ L) : a / 2 ^ (32 * L) = 0 := by
  apply Nat.div_eq_of_lt
  rw [Nat.pow_mul]
  exact Nat.lt_of_lt_of_le (lt_pow_digs a) (Nat.pow_le_pow_right (by omega) h)

theorem div_ge {a b k r e R : Nat} (hk : k ≠ 0) (hb : 0 < b) (hr : a / 2 ^ k % b = r) (he : a / 2 ^ (k - 1) % 2 = e) (hR : r + r + e = R) (h : b ≤ R) :
    a / 2 ^ (k - 1) % b = R - b ∧ a / 2 ^ (k - 1) / b * 2 ^ (k - 1) = a / 2 ^ k / b * 2 ^ k + 2 ^ (k - 1) := by
  have := (div_step (a := a) hk hb).1
  simp only [hr, he] at this
  rw [show 2 * r + e = R by omega] at this
  exact this h
theorem div_lt {a b k r e R : Nat} (hk : k ≠ 0) (hb : 0 < b) (hr : a / 2 ^ k % b = r) (he : a / 2 ^ (k - 1) % 2 = e) (hR : r + r + e = R) (h : ¬ b ≤ R) :
    a / 2 ^ (k - 1) % b = R ∧ a / 2 ^ (k - 1) / b * 2 ^ (k - 1) = a / 2 ^ k / b * 2 ^ k := by
  have := (div_step (a := a) hk hb).2
  simp only [hr, he] at this
  rw [show 2 * r + e = R by omega] at this
  exact this h

end Go.Proofs.YtfkclcoipadhmaaGreatDoor

/- Walks of trankref01's natural numbers: divided, divisor. -/
namespace Go.Proofs.YtfkclcoipadhmaaGreatDoor
open Go.RowKit

theorem natR_one (w : World) (t : TypeId) : NatF w.heap.size (w.alloc (.cells #[.int .u32 1] t)) (.slice (some ⟨w.heap.size, 0, none⟩) 1 1) 1 := by
  have e : digs 1 = [1] := by rw [digs_pos (by decide), show 1 / 4294967296 = 0 from rfl, digs_zero]
  unfold NatF DsR
  rw [e]
  refine ⟨_, 1, rfl, Nat.le_refl _, by unfold maxLen; omega, fun _ => ⟨w.heap.size, 0, rfl, Nat.le_refl _, by simp, fun j hj => ?_⟩⟩
  have : j = 0 := by simp [u32s] at hj; exact hj
  subst this
  simp [u32s]
theorem len_le_of_le {a b : Nat} {k : Nat} (h : a ≤ b) (hb : (digs b).length ≤ k) : (digs a).length ≤ k := Nat.le_trans (digs_mono_len h) hb
theorem len_dbl {a : Nat} : (digs (a + a)).length ≤ (digs a).length + 1 := by have := digs_len_add a a; omega
theorem small_lt {n : Nat} (h : (digs n).length ≤ 2) : n < 18446744073709551616 := by
  have h1 := lt_pow_digs n
  have h2 := Nat.pow_le_pow_right (show 0 < 4294967296 by omega) h
  omega

theorem natural_z (n : Nat) (z : Int) (w : World) (hz : z = (n : Int)) (hn : n < 18446744073709551616) :
    Calls Tryz.prog 142 #[.int .u64 z] w fun e w' => ∃ v, e = .returned v ∧ NatF w.heap.size w' v n ∧ Below w.heap.size w w' := by
  subst hz; exact natural_any n w hn

theorem wrap_nat {n : Nat} (h : n < 18446744073709551616) : IntKind.u64.wrap (n : Int) = (n : Int) := by rw [IntKind.wrap_u64]; omega

set_option maxHeartbeats 1000000 in
theorem divided_small (a b : Nat) (u v : Value) (w : World) (ha : NatR w u a) (hb : NatR w v b) (h0 : 0 < b) (la : (digs a).length ≤ 2) (lb : (digs b).length ≤ 2) :
    Calls Tryz.prog 141 #[u, v] w fun e w' => ∃ v1 v2, e = .returned (.tuple #[v1, v2]) ∧ NatF w.heap.size w' v1 (a / b) ∧ NatF w.heap.size w' v2 (a % b) ∧ Below w.heap.size w w' := by
  have ha0 := ha
  have hb0 := hb
  have hal := small_lt la
  have hbl := small_lt lb
  have hq : a / b < 18446744073709551616 := Nat.lt_of_le_of_lt (Nat.div_le_self _ _) hal
  have hr : a % b < 18446744073709551616 := Nat.lt_of_le_of_lt (Nat.mod_le _ _) hal
  obtain ⟨ao, cap, rfl, hcap, hmax, hc⟩ := ha
  obtain ⟨bo, bcap, rfl, hbcap, hbmax, hbc⟩ := hb
  obtain ⟨L, hL⟩ : ∃ L, (digs a).length = L := ⟨_, rfl⟩
  obtain ⟨M, hM⟩ : ∃ M, (digs b).length = M := ⟨_, rfl⟩
  rw [hL] at ha0 la ⊢
  rw [hM] at hb0 lb ⊢
  clear hL hM hcap hmax hc hbcap hbmax hbc
  go_enter Tryz.func141, Tryz.ntmps141
  go_wp2_with fail
  refine (short_any a _ _ hal ha0).mono ?_
  rintro e w' ⟨rfl, rfl⟩
  go_wp2_with fail
  refine (short_any b _ _ hbl hb0).mono ?_
  rintro e w' ⟨rfl, rfl⟩
  go_wp2_with fail
  refine (natural_z (a / b) _ _ (by rw [← Int.natCast_ediv]; exact wrap_nat hq) hq).mono ?_
  rintro e w1 ⟨v1, rfl, hv1, hb1⟩
  have ha1 := ha0.below hb1
  have hb2 := hb0.below hb1
  go_wp2_with fail
  refine (short_any a _ _ hal ha1).mono ?_
  rintro e w' ⟨rfl, rfl⟩
  go_wp2_with fail
  refine (short_any b _ _ hbl hb2).mono ?_
  rintro e w' ⟨rfl, rfl⟩
  go_wp2_with fail
  refine (natural_z (a % b) _ _ (by rw [← Int.natCast_emod]) hr).mono ?_
  rintro e w2 ⟨v2, rfl, hv2, hb3⟩
  go_wp2_with fail
  go_ret2
  exact ⟨v1, v2, rfl, hv1.below hb3, hv2.mono hb1.size, hb1.trans (hb3.mono hb1.size)⟩

theorem and_bit (x r : Nat) (hx : x < 4294967296) : bits BinOp.and IntKind.u32 ((x : Int) / 2 ^ r) 1 = ((x / 2 ^ r % 2 : Nat) : Int) := by
  have h1 : (x : Int) / 2 ^ r = ((x / 2 ^ r : Nat) : Int) := by rw [Int.natCast_ediv]; norm_cast
  have h2 : x / 2 ^ r < 4294967296 := Nat.lt_of_le_of_lt (Nat.div_le_self _ _) hx
  have := u32_and_nat (x / 2 ^ r) 1 h2 (by omega)
  rw [Nat.and_one_is_mod] at this
  rw [h1]; exact this
theorem or_bit {q t r : Nat} (hr : r < 32) (hq : q = t * 2 ^ (r + 1)) (hb : t * 2 ^ (r + 1) + 2 ^ r < 4294967296) : bits BinOp.or IntKind.u32 (q : Int) ((2 : Int) ^ r % 4294967296) = ((t * 2 ^ (r + 1) + 2 ^ r : Nat) : Int) := by
  have h1 : (2 : Int) ^ r % 4294967296 = ((2 ^ r : Nat) : Int) := by
    have h2 : (2 : Int) ^ r = ((2 ^ r : Nat) : Int) := by norm_cast
    have h3 : 2 ^ r < 2 ^ 32 := Nat.pow_lt_pow_right (by omega) hr
    rw [h2]; exact Int.emod_eq_of_lt (Int.natCast_nonneg _) (Int.ofNat_lt.2 h3)
  have h5 : 2 ^ r < 2 ^ 32 := Nat.pow_lt_pow_right (by omega) hr
  rw [h1, u32_or_nat _ _ (by omega) h5, hq, or_free]
theorem NatF.setCell {lo : Nat} {w : World} {v : Value} {n : Nat} (h : NatF lo w v n) {p : Addr} (hp : p.block < lo) (u : Value) : NatF lo (w.setCell p u) v n := SlR.setCell h hp u
theorem NatF.drew {lo : Nat} {w : World} {v : Value} {n : Nat} (h : NatF lo w v n) : NatF lo w.drew v n := h.below (Below.refl _ _).drew
theorem compare_ge (a b : Nat) (u v : Value) (w : World) (ha : NatR w u a) (hb : NatR w v b) (h : b ≤ a) :
    Calls Tryz.prog 117 #[u, v] w fun e w' => ∃ z : Int, e = .returned (.int .i64 z) ∧ 0 ≤ z ∧ ∃ n, w' = w.drewN n :=
  (compare_any a b u v w ha hb).mono fun _ _ ⟨h1, h2⟩ => ⟨_, h1, by unfold cmpN; rw [if_neg (by omega)]; split <;> omega, h2⟩
theorem compare_lt (a b : Nat) (u v : Value) (w : World) (ha : NatR w u a) (hb : NatR w v b) (h : a < b) :
    Calls Tryz.prog 117 #[u, v] w fun e w' => e = .returned (.int .i64 (-1)) ∧ ∃ n, w' = w.drewN n :=
  (compare_any a b u v w ha hb).mono fun _ _ ⟨h1, h2⟩ => ⟨by rw [h1]; exact ret_int (cmpN_lt h).symm, h2⟩

set_option maxHeartbeats 2000000 in
theorem divided_big (a b : Nat) (u v : Value) (w : World) (ha : NatR w u a) (hb : NatR w v b) (h0 : 0 < b) (la : (digs a).length ≤ 1073741824) (lb : (digs b).length ≤ 1073741824)
    (hbig : ((digs a).length ≤ 2 ∧ 2 < (digs b).length) ∨ 2 < (digs a).length) :
    Calls Tryz.prog 141 #[u, v] w fun e w' => ∃ v1 v2, e = .returned (.tuple #[v1, v2]) ∧ NatF w.heap.size w' v1 (a / b) ∧ NatF w.heap.size w' v2 (a % b) ∧ Below w.heap.size w w' := by
  have hb0 := hb
  obtain ⟨ao, cap, rfl, hcap, hmax, hc⟩ := ha
  obtain ⟨bo, bcap, rfl, hbcap, hbmax, hbc⟩ := hb
  unfold maxLen at hmax hbmax
  obtain ⟨L, hL⟩ : ∃ L, (digs a).length = L := ⟨_, rfl⟩
  obtain ⟨M, hM⟩ : ∃ M, (digs b).length = M := ⟨_, rfl⟩
  have HL := hid hL
  have HM := hid hM
  have hda := digs_lt a
  have HA := hid hda
  rw [hL] at hcap la hbig ⊢
  rw [hM] at hbcap lb hbig hb0 ⊢
  clear hL hM hda hbc
  have HB0 := hid hb0
  clear hb0
  rcases hbig with ⟨hb1, hb2⟩ | hb1
  all_goals
    go_enter Tryz.func141, Tryz.ntmps141
    go_wp2_with (at_make; refine wpList_mk rfl (.tmp 30) (.tmp 30) _ rfl w.heap.size 126 (.int .u32 0) 4 Tryz.underlying84 infoU32 rfl _ _ _ _ L rfl rfl (by omega) (by omega) (by omega) (by unfold maxLen; omega) (Nat.le_refl _) ?_; intro w1 hown1 hbw1 hlt1 _)
    rw [← u32s_repl] at hown1
    go_loopw [7, 8] (fun x y wr => ∃ (k : Nat) (o : List Nat), y = .int .i64 ((k : Int) - 1) ∧ k ≤ 32 * L ∧ NatF (w.heap.size + 1) wr x (a / 2 ^ k % b) ∧ o.length = L ∧ (∀ d ∈ o, d < 4294967296) ∧
      wr.ownsRow w.heap.size 126 1 (.slice (some ⟨w.heap.size, 0, none⟩) L L) L (u32s o) ∧ dval o = a / 2 ^ k / b * 2 ^ k ∧ Below w.heap.size w wr ∧ w.heap.size < wr.heap.size) (fun _ y _ => (intOf y + 1).toNat)
    case atStart =>
      exact ⟨32 * L, List.replicate L 0, by go_num, Nat.le_refl _, by rw [shift_all a (by rw [HL.out]; omega), Nat.zero_mod]; unfold NatF DsR; rw [digs_zero]; exact SlR.nil _ _, by simp, fun d hd => by rw [List.eq_of_mem_replicate hd]; decide, hown1,
        by rw [shift_all a (by rw [HL.out]; omega), Nat.zero_div, Nat.zero_mul, dval_replicate], hbw1, hlt1⟩
    case round =>
      obtain ⟨k, o, rfl, hk, hrest, hlen, hall, hown, hq, hbel, hsz⟩ := hrel
      have HLen := hid hlen
      have HAll := hid hall
      have HQ := hid hq
      clear hlen hall hq
      by_cases hk0 : k = 0
      · subst hk0
        go_wp2_with (go_at_call 139; refine (trimmed_any w.heap.size o _ _ HAll.out (by unfold DsR; rw [HLen.out]; exact SlR.of_owns hown)).mono ?_; rintro e w' ⟨v', rfl, hv', rfl⟩)
        go_ret2
        have h1 := HQ.out
        simp only [Nat.pow_zero, Nat.div_one, Nat.mul_one] at h1 hrest
        rw [h1] at hv'
        exact ⟨_, _, rfl, hv', hrest.mono (by omega), hbel⟩
      · obtain ⟨r, hr⟩ : ∃ r, a / 2 ^ k % b = r := ⟨_, rfl⟩
        have hrb : r < b := by rw [← hr]; exact Nat.mod_lt _ h0
        have hrl : (digs r).length ≤ 1073741824 := len_le_of_le (Nat.le_of_lt hrb) (by rw [HM.out]; exact lb)
        have hrl2 : (digs (r + r)).length ≤ 1073741825 := by have := @len_dbl r; omega
        rw [hr] at hrest
        have HR := hid hr
        clear hr
        obtain ⟨b1, off1, rfl, hb1, hcell1⟩ := u32s_cell hc (i := (k - 1) / 32) (by rw [HL.out]; omega)
        obtain ⟨x, hx, hxl⟩ := digit_at HA.out (i := (k - 1) / 32)
        rw [hx] at hcell1
        have HX := hid hx
        clear hx
        go_wp2_with fail
        refine (plus_any r r _ _ _ hrest.nat hrest.nat (by omega) (by omega)).mono ?_
        rintro e w1 ⟨v1, rfl, hv1, hw1⟩
        have hbel1 : Below w.heap.size w w1 := hbel.trans (hw1.mono hbel.size)
        have hcr1 := (hbel1.cell (p := ⟨b1, off1 + (k - 1) / 32, none⟩) hb1).trans hcell1
        obtain ⟨e, he⟩ : ∃ e, a / 2 ^ (k - 1) % 2 = e := ⟨_, rfl⟩
        have hbit := and_bit x ((k - 1) % 32) hxl
        have hbe : x / 2 ^ ((k - 1) % 32) % 2 = e := by rw [← he, ← bit_of a (k - 1), HX.out]
        rw [hbe] at hbit
        have HE := hid he
        clear he hbe
        obtain ⟨R, hR⟩ : ∃ R, r + r + e = R := ⟨_, rfl⟩
        have he2 : e ≤ 1 := by have := HE.out; omega
        have hRl : (digs R).length ≤ 1073741826 := by rw [← hR]; exact Nat.le_trans (digs_len_add _ _) (by have := digs_len_small (n := e) (by omega); omega)
        have HRR := hid hR
        have key : ∃ (x0 : Bool), (bits BinOp.and IntKind.u32 ((x : Int) / 2 ^ ((k - 1) % 32)) 1 == 1) = x0 ∧ ((x0 = false ∧ R = r + r) ∨ (x0 = true ∧ R = r + r + 1)) := by
          rw [hbit]
          rcases (show e = 0 ∨ e = 1 by omega) with h | h
          · exact ⟨false, by rw [h]; rfl, .inl ⟨rfl, by omega⟩⟩
          · exact ⟨true, by rw [h]; rfl, .inr ⟨rfl, by omega⟩⟩
        clear hbit hR
        obtain ⟨x0, hb', hx0⟩ := key
        rcases hx0 with ⟨rfl, hRr⟩ | ⟨rfl, hRr⟩
        · obtain ⟨v2, rfl⟩ : ∃ v, v = v1 := ⟨_, rfl⟩
          have hv2 : NatF (w.heap.size + 1) w1 v2 R := by rw [hRr]; exact hv1.mono (by omega)
          obtain ⟨w2, rfl⟩ : ∃ w', w' = w1 := ⟨_, rfl⟩
          have hown2 := owns_below hown hw1
          have hbel2 := hbel1
          have hsz2 : w.heap.size < w2.heap.size := Nat.lt_of_lt_of_le hsz hw1.size
          clear hRr
          by_cases hge : b ≤ R
          · go_wp2_with fail
            refine (compare_ge R b _ _ _ hv2.nat (HB0.out.below hbel2) hge).mono ?_
            rintro e w3 ⟨z, rfl, hz, n, rfl⟩
            have hd3 := below_drewN0 (Below.refl w2.heap.size w2) n
            have hbel3 := below_drewN0 hbel2 n
            go_wp2_with fail
            refine (less_any R b _ _ _ (hv2.below hd3).nat (HB0.out.below hbel3) hge (by omega)).mono ?_
            rintro e w4 ⟨v4, rfl, hv4, hw4⟩
            have hown4 := owns_below (owns_below hown2 hd3) hw4
            have hbel4 : Below w.heap.size w w4 := hbel3.trans (hw4.mono hbel3.size)
            have hsz4 : w.heap.size < w4.heap.size := Nat.lt_of_lt_of_le hsz2 (Nat.le_trans hd3.size hw4.size)
            have hco := dig_cell hown4 (j := (k - 1) / 32) (by rw [HLen.out]; omega)
            have hfo := hown4.frozenAt ((k - 1) / 32)
            obtain ⟨q, hq⟩ : ∃ q, o.getD ((k - 1) / 32) 0 = q := ⟨_, rfl⟩
            rw [hq] at hco
            have HQQ := hid hq
            clear hq
            go_wp2
            go_region
            all_goals go_wp2
            go_roundw
            case rel =>
              obtain ⟨g1, g2⟩ := div_ge hk0 h0 HR.out HE.out HRR.out hge
              have hqq := HQ.out
              obtain ⟨t, ht, htl⟩ := digit_free o HAll.out (k - 1) (a / 2 ^ k / b) (by rw [show k - 1 + 1 = k by omega]; exact hqq)
              refine ⟨k - 1, o.set ((k - 1) / 32) (t * 2 ^ ((k - 1) % 32 + 1) + 2 ^ ((k - 1) % 32)), by go_num, by omega, ?_, by rw [List.length_set]; exact HLen.out, mem_set_lt HAll.out htl, ?_, ?_, ((hbel4.setCell (Nat.le_refl _) _).drew), by simpa [World.setCell] using hsz4⟩
              · rw [g1]; exact (NatF.setCell (hv4.mono (Nat.le_trans hsz2 hd3.size)) (Nat.lt_succ_self _) _).drew
              · exact (dig_set hown4 _ _ (or_bit (Nat.mod_lt _ (by omega)) (HQQ.out.symm.trans ht) htl)).drew
              · rw [set_bit (by rw [HLen.out]; omega) ht, g2, hqq]
            case measure => simp [intOf]; omega
          · go_wp2_with fail
            refine (compare_lt R b _ _ _ hv2.nat (HB0.out.below hbel2) (by omega)).mono ?_
            rintro e w3 ⟨rfl, n, rfl⟩
            go_wp2
            go_roundw
            case rel =>
              obtain ⟨g1, g2⟩ := div_lt hk0 h0 HR.out HE.out HRR.out hge
              have hd3 := below_drewN0 (Below.refl w2.heap.size w2) n
              exact ⟨k - 1, o, by go_num, by omega, by rw [g1]; exact hv2.below hd3, HLen.out, HAll.out, owns_below hown2 hd3, by rw [g2]; exact HQ.out, below_drewN0 hbel2 n, Nat.lt_of_lt_of_le hsz2 hd3.size⟩
            case measure => simp [intOf]; omega
        · have hRR := hid hRr
          clear hRr
          go_wp2_with fail
          refine (plus_any (r + r) 1 _ _ _ (hv1.below ((Below.refl _ _).alloc (Nat.le_refl _) _)).nat (natR_one _ _).nat (by omega) (by rw [digs_one (by decide) (by decide)]; decide)).mono ?_
          rintro e w2 ⟨v2, rfl, hv2', hw2⟩
          have hw12 : Below w1.heap.size w1 w2 := ((Below.refl _ _).alloc (Nat.le_refl _) _).trans (hw2.mono (by simp))
          have hv2 : NatF (w.heap.size + 1) w2 v2 R := by rw [hRR.out]; exact hv2'.mono (by have := hw1.size; simp; omega)
          have hown2 := owns_below (owns_below hown hw1) hw12
          have hbel2 : Below w.heap.size w w2 := hbel1.trans (hw12.mono hbel1.size)
          have hsz2 : w.heap.size < w2.heap.size := Nat.lt_of_lt_of_le hsz (Nat.le_trans hw1.size hw12.size)
          by_cases hge : b ≤ R
          · go_wp2_with fail
            refine (compare_ge R b _ _ _ hv2.nat (HB0.out.below hbel2) hge).mono ?_
            rintro e w3 ⟨z, rfl, hz, n, rfl⟩
            have hd3 := below_drewN0 (Below.refl w2.heap.size w2) n
            have hbel3 := below_drewN0 hbel2 n
            go_wp2_with fail
            refine (less_any R b _ _ _ (hv2.below hd3).nat (HB0.out.below hbel3) hge (by omega)).mono ?_
            rintro e w4 ⟨v4, rfl, hv4, hw4⟩
            have hown4 := owns_below (owns_below hown2 hd3) hw4
            have hbel4 : Below w.heap.size w w4 := hbel3.trans (hw4.mono hbel3.size)
            have hsz4 : w.heap.size < w4.heap.size := Nat.lt_of_lt_of_le hsz2 (Nat.le_trans hd3.size hw4.size)
            have hco := dig_cell hown4 (j := (k - 1) / 32) (by rw [HLen.out]; omega)
            have hfo := hown4.frozenAt ((k - 1) / 32)
            obtain ⟨q, hq⟩ : ∃ q, o.getD ((k - 1) / 32) 0 = q := ⟨_, rfl⟩
            rw [hq] at hco
            have HQQ := hid hq
            clear hq
            go_wp2
            go_region
            all_goals go_wp2
            go_roundw
            case rel =>
              obtain ⟨g1, g2⟩ := div_ge hk0 h0 HR.out HE.out HRR.out hge
              have hqq := HQ.out
              obtain ⟨t, ht, htl⟩ := digit_free o HAll.out (k - 1) (a / 2 ^ k / b) (by rw [show k - 1 + 1 = k by omega]; exact hqq)
              refine ⟨k - 1, o.set ((k - 1) / 32) (t * 2 ^ ((k - 1) % 32 + 1) + 2 ^ ((k - 1) % 32)), by go_num, by omega, ?_, by rw [List.length_set]; exact HLen.out, mem_set_lt HAll.out htl, ?_, ?_, ((hbel4.setCell (Nat.le_refl _) _).drew), by simpa [World.setCell] using hsz4⟩
              · rw [g1]; exact (NatF.setCell (hv4.mono (Nat.le_trans hsz2 hd3.size)) (Nat.lt_succ_self _) _).drew
              · exact (dig_set hown4 _ _ (or_bit (Nat.mod_lt _ (by omega)) (HQQ.out.symm.trans ht) htl)).drew
              · rw [set_bit (by rw [HLen.out]; omega) ht, g2, hqq]
            case measure => simp [intOf]; omega
          · go_wp2_with fail
            refine (compare_lt R b _ _ _ hv2.nat (HB0.out.below hbel2) (by omega)).mono ?_
            rintro e w3 ⟨rfl, n, rfl⟩
            go_wp2
            go_roundw
            case rel =>
              obtain ⟨g1, g2⟩ := div_lt hk0 h0 HR.out HE.out HRR.out hge
              have hd3 := below_drewN0 (Below.refl w2.heap.size w2) n
              exact ⟨k - 1, o, by go_num, by omega, by rw [g1]; exact hv2.below hd3, HLen.out, HAll.out, owns_below hown2 hd3, by rw [g2]; exact HQ.out, below_drewN0 hbel2 n, Nat.lt_of_lt_of_le hsz2 hd3.size⟩
            case measure => simp [intOf]; omega

theorem divided_any (a b : Nat) (u v : Value) (w : World) (ha : NatR w u a) (hb : NatR w v b) (h0 : 0 < b) (la : (digs a).length ≤ 1073741824) (lb : (digs b).length ≤ 1073741824) :
    Calls Tryz.prog 141 #[u, v] w fun e w' => ∃ v1 v2, e = .returned (.tuple #[v1, v2]) ∧ NatF w.heap.size w' v1 (a / b) ∧ NatF w.heap.size w' v2 (a % b) ∧ Below w.heap.size w w' := by
  by_cases h1 : (digs a).length ≤ 2
  · by_cases h2 : (digs b).length ≤ 2
    · exact divided_small a b u v w ha hb h0 h1 h2
    · exact divided_big a b u v w ha hb h0 la lb (.inl ⟨h1, by omega⟩)
  · exact divided_big a b u v w ha hb h0 la lb (.inr (by omega))

theorem gcd_step {i j g : Nat} (h : Nat.gcd i j = g) : Nat.gcd j (i % j) = g := by rw [← h, Nat.gcd_comm i j, Nat.gcd_rec j i, Nat.gcd_comm]

set_option maxHeartbeats 1000000 in
theorem divisor_any (a b : Nat) (u v : Value) (w : World) (ha : NatR w u a) (hb : NatR w v b) (la : (digs a).length ≤ 1073741824) (lb : (digs b).length ≤ 1073741824) :
    Calls Tryz.prog 140 #[u, v] w fun e w' => ∃ v', e = .returned v' ∧ NatR w' v' (Nat.gcd a b) ∧ Below w.heap.size w w' := by
  go_enter Tryz.func140, Tryz.ntmps140
  go_wp2
  go_loopg [0, 1] b (fun j x y wr => ∃ i : Nat, NatR wr x i ∧ NatR wr y j ∧ (digs i).length ≤ 1073741824 ∧ (digs j).length ≤ 1073741824 ∧ Nat.gcd i j = Nat.gcd a b ∧ Below w.heap.size w wr)
  case atStart => exact ⟨a, ha, hb, la, lb, rfl, Below.refl _ _⟩
  case round =>
    obtain ⟨i, hx, hy, lx, ly, hg, hbel⟩ := hrel
    have HG := hid hg
    clear hg
    by_cases h0 : gk = 0
    · subst h0
      obtain ⟨yo, ycap, rfl, _⟩ := hy
      rw [digs_zero] at *
      go_wp2
      go_ret
      exact ⟨_, rfl, by rw [← HG.out, Nat.gcd_zero_right]; exact hx, hbel⟩
    · have hy0 := hy
      obtain ⟨yo, ycap, rfl, _⟩ := hy
      have hpos : 0 < (digs gk).length := by have := @digs_len_zero gk; omega
      go_wp2_with (go_at_call 141; refine (divided_any i gk _ _ _ hx hy0 (by omega) lx ly).mono ?_; rintro e w1 ⟨v1, v2, rfl, _, hv2, hb1⟩)
      go_roundg (i % gk)
      case measure => exact Nat.mod_lt _ (by omega)
      case rel => exact ⟨gk, hy0.below hb1, hv2.nat, ly, len_le_of_le (Nat.le_of_lt (Nat.mod_lt _ (by omega))) ly, gcd_step HG.out, hbel.trans (hb1.mono hbel.size)⟩

end Go.Proofs.YtfkclcoipadhmaaGreatDoor
