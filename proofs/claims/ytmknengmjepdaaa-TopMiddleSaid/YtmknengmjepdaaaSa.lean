/- Feasible sizes, plainly: what the searches for the ends of the interval keep. -/
import Derived.Test.YtmknengmjepdaaaVa
namespace Go.Proofs.Ytmknengmjepdaaa
open Go.RowKit

/-- The sums of C and of D. -/
def cS (l : List Rul) : Int := (l.map fun r => r.c).sum
def dS (l : List Rul) : Int := (l.map fun r => r.d).sum
theorem cS_cons (r : Rul) (l : List Rul) : cS (r :: l) = r.c + cS l := by simp [cS]
theorem dS_cons (r : Rul) (l : List Rul) : dS (r :: l) = r.d + dS l := by simp [dS]
theorem cS_append (l m : List Rul) : cS (l ++ m) = cS l + cS m := by simp [cS]
theorem dS_append (l m : List Rul) : dS (l ++ m) = dS l + dS m := by simp [dS]
theorem wts_cd (n d : Int) (l : List Rul) : wts n d l = cS l * d + dS l * n := by
  induction l with
  | nil => simp [wts_nil, cS, dS]
  | cons r l ih =>
    rw [wts_cons, ih, cS_cons, dS_cons]
    unfold wt
    grind
theorem sumC_eq (es : List (Int × Rul)) : sumC es = cS (es.map (·.2)) := by unfold sumC cS; rw [List.map_map]; rfl
theorem sumD_eq (es : List (Int × Rul)) : sumD es = dS (es.map (·.2)) := by unfold sumD dS; rw [List.map_map]; rfl
theorem cd_bd {p : Pat} (hp : PValid p) : ∀ (l : List Rul), (∀ r ∈ l, r ∈ ext p) → -(1000 * (l.length : Int)) ≤ cS l ∧ cS l ≤ 1000 * l.length ∧ -(100 * (l.length : Int)) ≤ dS l ∧ dS l ≤ 100 * l.length
  | [], _ => by simp [cS, dS]
  | r :: l, h => by
    have h1 := cd_bd hp l (fun x hx => h x (List.mem_cons_of_mem _ hx))
    have h2 := ext_rv hp.1 hp.2.2.2 r (h r (List.mem_cons_self ..))
    obtain ⟨_, _, _, _, a1, a2, a3, a4⟩ := h2
    rw [cS_cons, dS_cons, List.length_cons]
    omega

theorem sign_mul {q : Rat} {d z : Int} (hd : 1 ≤ d) (h : q * (d : Rat) = (z : Rat)) : q ≤ 0 ↔ z ≤ 0 := by
  have hd' : (0 : Rat) < (d : Rat) := Rat.intCast_pos.2 (by omega)
  constructor
  · intro hq
    have := Rat.mul_le_mul_of_nonneg_right hq (Rat.le_of_lt hd')
    rw [h, Rat.zero_mul] at this
    exact Rat.intCast_le_intCast.1 (by simpa only [Rat.intCast_zero] using this)
  · intro hz
    apply Decidable.byContradiction
    intro hn
    have h1 := Rat.mul_pos (Rat.not_le.1 hn) hd'
    rw [h] at h1
    have := Rat.intCast_pos.1 h1
    omega
theorem rat_pos {d : Int} (h : 1 ≤ d) : (0 : Rat) < (d : Rat) := Rat.intCast_pos.2 (by omega)
theorem rat_ne {d : Int} (h : 1 ≤ d) : (d : Rat) ≠ 0 := fun e => by have := rat_pos h; rw [e] at this; exact absurd this (Rat.not_lt.2 Rat.le_refl)
theorem le_at {c e n d : Int} (hd : 1 ≤ d) : (c : Rat) + (e : Rat) * ((n : Rat) / (d : Rat)) ≤ 0 ↔ c * d + e * n ≤ 0 := by
  refine sign_mul hd ?_
  have := rat_ne hd
  push_cast
  grind
theorem div_le_div {a b c e : Int} (hb : 1 ≤ b) (he : 1 ≤ e) : (a : Rat) / (b : Rat) ≤ (c : Rat) / (e : Rat) ↔ a * e ≤ c * b := by
  have h1 := rat_ne hb
  have h2 := rat_ne he
  have h3 : 1 ≤ b * e := by have := Int.mul_le_mul hb he (by decide) (by omega); omega
  have key : ((a : Rat) / (b : Rat) - (c : Rat) / (e : Rat)) * ((b * e : Int) : Rat) = ((a * e - c * b : Int) : Rat) := by
    push_cast
    grind
  have := sign_mul h3 key
  constructor
  · intro h
    have h4 : (a : Rat) / (b : Rat) - (c : Rat) / (e : Rat) ≤ 0 := by grind
    have := this.1 h4
    omega
  · intro h
    have := this.2 (by omega)
    grind
theorem div_lt_div {a b c e : Int} (hb : 1 ≤ b) (he : 1 ≤ e) : (a : Rat) / (b : Rat) < (c : Rat) / (e : Rat) ↔ a * e < c * b := by
  rw [← Rat.not_le, div_le_div he hb]; omega
theorem div_eq_div {a b c e : Int} (hb : 1 ≤ b) (he : 1 ≤ e) : (a : Rat) / (b : Rat) = (c : Rat) / (e : Rat) ↔ a * e = c * b := by
  constructor
  · intro h
    have h1 := (div_le_div hb he).1 (by rw [h]; exact Rat.le_refl)
    have h2 := (div_le_div he hb).1 (by rw [h]; exact Rat.le_refl)
    omega
  · intro h
    exact Rat.le_antisymm ((div_le_div hb he).2 (by omega)) ((div_le_div he hb).2 (by omega))

/-- No loop has a weight above 0 at size s. -/
def Feas (p : Pat) (s : Rat) : Prop := ∀ (l : List Rul) (a : Nat), (∀ r ∈ l, r ∈ ext p) → isWalk l a a → (cS l : Rat) + (dS l : Rat) * s ≤ 0
theorem feas_iff {p : Pat} {n d : Int} (hd : 1 ≤ d) : NoPos p n d ↔ Feas p ((n : Rat) / (d : Rat)) := by
  constructor
  · intro h l a hl hw
    have := h l a hl hw
    rw [wts_cd] at this
    exact (le_at hd).2 this
  · intro h l a hl hw
    rw [wts_cd]
    exact (le_at hd).1 (h l a hl hw)
/-- No size below s is feasible; none above. -/
def LoF (p : Pat) (s : Rat) : Prop := ∀ t : Rat, 0 ≤ t → t < s → ¬ Feas p t
def HiF (p : Pat) (s : Rat) : Prop := ∀ t : Rat, t ≤ 40 → s < t → ¬ Feas p t
/-- No size is feasible. -/
def SzNo (p : Pat) : Prop := ∀ t : Rat, 0 ≤ t → t ≤ 40 → ¬ Feas p t
/-- A loop whose weight is above 0 at s. -/
def BadAt (p : Pat) (s : Rat) (c e : Int) : Prop := ∃ (l : List Rul) (a : Nat), (∀ r ∈ l, r ∈ ext p) ∧ isWalk l a a ∧ cS l = c ∧ dS l = e ∧ l.length ≤ 16 ∧ 0 < (c : Rat) + (e : Rat) * s

theorem BadAt.not {p : Pat} {s t : Rat} {c e : Int} (h : BadAt p s c e) (ht : 0 < (c : Rat) + (e : Rat) * t) : ¬ Feas p t := by
  obtain ⟨l, a, h1, h2, rfl, rfl, -, -⟩ := h
  exact fun hf => absurd ht (Rat.not_lt.2 (hf l a h1 h2))
theorem BadAt.bd {p : Pat} {s : Rat} {c e : Int} (hp : PValid p) (h : BadAt p s c e) : -16000 ≤ c ∧ c ≤ 16000 ∧ -1600 ≤ e ∧ e ≤ 1600 := by
  obtain ⟨l, a, h1, -, rfl, rfl, h3, -⟩ := h
  have := cd_bd hp l h1
  omega
theorem BadAt.pos {p : Pat} {s : Rat} {c e : Int} (h : BadAt p s c e) : 0 < (c : Rat) + (e : Rat) * s := by
  obtain ⟨l, a, h1, -, rfl, rfl, h3, h4⟩ := h
  exact h4
theorem bad_ge {p : Pat} {s : Rat} {c e : Int} (h : BadAt p s c e) (he : 0 ≤ e) (hl : LoF p s) : SzNo p := by
  intro t h0 _
  by_cases hts : t < s
  · exact hl t h0 hts
  · refine h.not ?_
    have h1 := h.pos
    have h2 : (0 : Rat) ≤ (e : Rat) := Rat.intCast_nonneg.2 he
    have h3 := Rat.mul_le_mul_of_nonneg_left (Rat.not_lt.1 hts) h2
    grind
theorem zero_lt {c e : Int} (he : e < 0) {t : Rat} (ht : t < (c : Rat) / ((-e : Int) : Rat)) : 0 < (c : Rat) + (e : Rat) * t := by
  have h1 := rat_pos (show 1 ≤ -e by omega)
  have h0 := rat_ne (show 1 ≤ -e by omega)
  have h2 : (c : Rat) / ((-e : Int) : Rat) * ((-e : Int) : Rat) = (c : Rat) := by grind
  have h3 : ((-e : Int) : Rat) = - (e : Rat) := by push_cast; rfl
  have h4 : 0 < (c : Rat) / ((-e : Int) : Rat) - t := by grind
  have h5 := Rat.mul_pos h4 h1
  generalize (c : Rat) / ((-e : Int) : Rat) = q at *
  rw [h3] at h2 h5
  grind
theorem bad_past {p : Pat} {s : Rat} {c e : Int} (h : BadAt p s c e) (he : e < 0) (hc : -40 * e < c) : SzNo p := by
  intro t _ h40
  refine h.not ?_
  have h1 : (e : Rat) ≤ 0 := by have := Rat.intCast_le_intCast (a := e) (b := 0); rw [Rat.intCast_zero] at this; exact this.2 (by omega)
  have h2 : ((-40 * e : Int) : Rat) < (c : Rat) := Rat.intCast_lt_intCast.2 hc
  push_cast at h2
  have h3 : (0 : Rat) ≤ -(e : Rat) := by grind
  have h4 := Rat.mul_le_mul_of_nonneg_left h40 h3
  grind
theorem bad_next {p : Pat} {s : Rat} {c e : Int} (h : BadAt p s c e) (he : e < 0) (hs : 0 ≤ s) :
    s < (c : Rat) / ((-e : Int) : Rat) ∧ LoF p ((c : Rat) / ((-e : Int) : Rat)) ∧ 0 ≤ c := by
  have hp := h.pos
  have h1 := rat_pos (show 1 ≤ -e by omega)
  have h0 := rat_ne (show 1 ≤ -e by omega)
  have h2 : (c : Rat) / ((-e : Int) : Rat) * ((-e : Int) : Rat) = (c : Rat) := by grind
  have h3 : ((-e : Int) : Rat) = - (e : Rat) := by push_cast; rfl
  have hes : (e : Rat) * s ≤ 0 := by
    have := Rat.mul_le_mul_of_nonneg_right (show (e : Rat) ≤ 0 by rw [h3] at h1; grind) hs
    rwa [Rat.zero_mul] at this
  refine ⟨?_, fun t _ ht => h.not (zero_lt he ht), ?_⟩
  · apply Decidable.byContradiction
    intro hn
    have h4 := Rat.mul_le_mul_of_nonneg_right (Rat.not_lt.1 hn) (Rat.le_of_lt h1)
    rw [h2, h3] at h4
    grind
  · have : (0 : Rat) < (c : Rat) := by grind
    have := Rat.intCast_pos.1 this
    omega
theorem bad_hi {p : Pat} {lo s : Rat} {c e : Int} (h : BadAt p s c e) (hf : Feas p lo) (hle : lo ≤ s) (h0 : 0 ≤ lo) (hs : s ≤ 40) :
    0 < e ∧ c ≤ 0 ∧ -c ≤ 40 * e ∧ lo ≤ ((-c : Int) : Rat) / (e : Rat) ∧ ((-c : Int) : Rat) / (e : Rat) < s ∧ HiF p (((-c : Int) : Rat) / (e : Rat)) := by
  have hp := h.pos
  have hl : (c : Rat) + (e : Rat) * lo ≤ 0 := by
    obtain ⟨l, a, h1, h2, rfl, rfl, -, -⟩ := h
    exact hf l a h1 h2
  have he : 0 < e := by
    apply Decidable.byContradiction
    intro hn
    have h1 : (e : Rat) ≤ 0 := by have := Rat.intCast_le_intCast (a := e) (b := 0); rw [Rat.intCast_zero] at this; exact this.2 (by omega)
    have h3 : (0 : Rat) ≤ -(e : Rat) := by grind
    have h4 := Rat.mul_le_mul_of_nonneg_left hle h3
    grind
  have h1 := rat_pos (show 1 ≤ e by omega)
  have hne := rat_ne (show 1 ≤ e by omega)
  have h2 : ((-c : Int) : Rat) / (e : Rat) * (e : Rat) = ((-c : Int) : Rat) := by grind
  have h3 : ((-c : Int) : Rat) = - (c : Rat) := by push_cast; rfl
  have hlo := Rat.mul_le_mul_of_nonneg_left h0 (Rat.le_of_lt h1)
  rw [Rat.mul_zero] at hlo
  have hc : c ≤ 0 := by
    have : (c : Rat) ≤ 0 := by grind
    exact Rat.intCast_le_intCast.1 (by simpa only [Rat.intCast_zero] using this)
  have h40 := Rat.mul_le_mul_of_nonneg_left hs (Rat.le_of_lt h1)
  have hc40 : -c ≤ 40 * e := by
    have : ((-c : Int) : Rat) ≤ ((40 * e : Int) : Rat) := by push_cast; grind
    exact Rat.intCast_le_intCast.1 this
  obtain ⟨q, hq⟩ : ∃ q, ((-c : Int) : Rat) / (e : Rat) = q := ⟨_, rfl⟩
  rw [hq] at h2 ⊢
  rw [h3] at h2
  refine ⟨he, hc, hc40, ?_, ?_, fun t _ ht => h.not ?_⟩
  · apply Decidable.byContradiction
    intro hn
    have h4 := Rat.mul_pos (show 0 < lo - q by have := Rat.not_le.1 hn; grind) h1
    grind
  · apply Decidable.byContradiction
    intro hn
    have h4 := Rat.mul_le_mul_of_nonneg_right (Rat.not_lt.1 hn) (Rat.le_of_lt h1)
    grind
  · have h4 := Rat.mul_pos (show 0 < t - q by grind) h1
    grind

/-- The ends of the interval. -/
structure SzOk (p : Pat) (ln ld hn hd : Int) : Prop where
  l : FSize ln ld
  h : FSize hn hd
  dl : ld ≤ 1600
  dh : hd ≤ 1600
  fl : Feas p ((ln : Rat) / (ld : Rat))
  fh : Feas p ((hn : Rat) / (hd : Rat))
  lo : LoF p ((ln : Rat) / (ld : Rat))
  hi : HiF p ((hn : Rat) / (hd : Rat))
theorem rat_ne_cases {x y : Rat} (h : x ≠ y) : x < y ∨ y < x := by
  by_cases h1 : x < y
  · exact .inl h1
  · exact .inr (Rat.not_le.1 fun h2 => h (Rat.le_antisymm h2 (Rat.not_lt.1 h1)))
theorem fv_eq {a b c e : Int} (h : FV a b) (k : FV c e) (he : (a : Rat) / (b : Rat) = (c : Rat) / (e : Rat)) : a = c ∧ b = e := by
  have h1 := h.num
  have h2 := h.den
  have k1 := k.num
  have k2 := k.den
  rw [he] at h1 h2
  omega
theorem size_bd {n d : Int} (h : FSize n d) : 0 ≤ (n : Rat) / (d : Rat) ∧ (n : Rat) / (d : Rat) ≤ 40 := by
  have h1 := h.1.1
  have a1 := (div_le_div (a := 0) (b := 1) (c := n) (e := d) (by decide) h1).2 (by have := h.2.1; omega)
  have a2 := (div_le_div (a := n) (b := d) (c := 40) (e := 1) h1 (by decide)).2 (by have := h.2.2.2; omega)
  have e1 : ((0 : Int) : Rat) / ((1 : Int) : Rat) = 0 := by grind
  have e2 : ((40 : Int) : Rat) / ((1 : Int) : Rat) = 40 := by grind
  rw [e1] at a1
  rw [e2] at a2
  exact ⟨a1, a2⟩
theorem szok_unique {p : Pat} {a b c e a' b' c' e' : Int} (h : SzOk p a b c e) (k : SzOk p a' b' c' e') : a = a' ∧ b = b' ∧ c = c' ∧ e = e' := by
  have h1 := size_bd h.l
  have h2 := size_bd h.h
  have k1 := size_bd k.l
  have k2 := size_bd k.h
  have e1 : (a : Rat) / (b : Rat) = (a' : Rat) / (b' : Rat) := by
    apply Decidable.byContradiction
    intro hn
    rcases rat_ne_cases hn with hlt | hlt
    · exact k.lo _ h1.1 hlt h.fl
    · exact h.lo _ k1.1 hlt k.fl
  have e2 : (c : Rat) / (e : Rat) = (c' : Rat) / (e' : Rat) := by
    apply Decidable.byContradiction
    intro hn
    rcases rat_ne_cases hn with hlt | hlt
    · exact h.hi _ k2.2 hlt k.fh
    · exact k.hi _ h2.2 hlt h.fh
  obtain ⟨x1, x2⟩ := fv_eq h.l.1 k.l.1 e1
  obtain ⟨x3, x4⟩ := fv_eq h.h.1 k.h.1 e2
  exact ⟨x1, x2, x3, x4⟩
theorem szok_no {p : Pat} {a b c e : Int} (h : SzOk p a b c e) (k : SzNo p) : False := k _ (size_bd h.l).1 (size_bd h.l).2 h.fl

/-- The size at which a loop's weight is 0. -/
theorem new_sz {c e : Int} (he1 : 1 ≤ e) (he2 : e ≤ 1600) (hc1 : 0 ≤ c) (hc2 : c ≤ 40 * e) : FSize (newN c e) (newD c e) ∧ newD c e ≤ 1600 ∧ ((newN c e : Int) : Rat) / ((newD c e : Int) : Rat) = (c : Rat) / (e : Rat) ∧ newE c e = 0 := by
  obtain ⟨h1, h2⟩ := new_fv (z := c) (d := e) he1 (by omega) (by omega) (by omega)
  have hf := fits_of (n := c) (d := e) he1 (by omega) (by omega) (by omega)
  have h3 : newD c e ≤ 1600 := by
    have e2 : newD c e = (((c : Rat) / (e : Rat)).den : Int) := by unfold newD fitD; rw [if_neg (by omega), if_pos hf]
    rw [e2, div_den c (by omega)]
    have := Nat.div_le_self e.natAbs (Nat.gcd e.natAbs c.natAbs)
    omega
  have h4 := (div_eq_div h1.1 he1).1 h2
  refine ⟨⟨h1, ?_, by omega, ?_⟩, h3, h2, ?_⟩
  · apply Decidable.byContradiction
    intro hn
    have a1 : newN c e * e < 0 := Int.mul_neg_of_neg_of_pos (by omega) (by omega)
    have a2 : 0 ≤ c * newD c e := Int.mul_nonneg hc1 (by have := h1.1; omega)
    omega
  · have a1 : c * newD c e ≤ (40 * e) * newD c e := Int.mul_le_mul_of_nonneg_right hc2 (by have := h1.1; omega)
    rw [← h4, Int.mul_comm 40 e, Int.mul_assoc, Int.mul_comm e] at a1
    exact Int.le_of_mul_le_mul_right a1 (by omega)
  · unfold newE fitE
    rw [if_neg (by omega), if_pos hf]

/-- How far a size has come. -/
def muS (n d : Int) : Int := (2560000 * n) / d
theorem muS_lt {n d n' d' : Int} (h1 : 1 ≤ d) (h2 : d ≤ 1600) (k1 : 1 ≤ d') (k2 : d' ≤ 1600) (h : (n : Rat) / (d : Rat) < (n' : Rat) / (d' : Rat)) : muS n d < muS n' d' := by
  have hx := (div_lt_div h1 k1).1 h
  unfold muS
  have hq := Int.ediv_mul_le (2560000 * n) (show d ≠ 0 by omega)
  obtain ⟨q, hqe⟩ : ∃ q, 2560000 * n / d = q := ⟨_, rfl⟩
  rw [hqe] at hq ⊢
  have hdd : d * d' ≤ 2560000 := by have := Int.mul_le_mul h2 k2 (by omega) (by decide); omega
  have a1 : (q * d) * d' ≤ (2560000 * n) * d' := Int.mul_le_mul_of_nonneg_right hq (by omega)
  have a2 : ((q + 1) * d') * d ≤ (2560000 * n') * d := by
    have e1 : ((q + 1) * d') * d = (q * d) * d' + d * d' := by grind
    have e2 : (2560000 * n) * d' = 2560000 * (n * d') := by grind
    have e3 : (2560000 * n') * d = 2560000 * (n' * d) := by grind
    rw [e1, e3]
    rw [e2] at a1
    omega
  have a3 := Int.le_of_mul_le_mul_right a2 (by omega)
  have := (Int.le_ediv_iff_mul_le (show 0 < d' by omega)).2 a3
  omega
theorem muS_bd {n d : Int} (h : FSize n d) : 0 ≤ muS n d ∧ muS n d ≤ 102400000 := by
  unfold muS
  have h1 := h.1.1
  have h2 := h.2.1
  have h3 := h.2.2.2
  refine ⟨Int.ediv_nonneg (by omega) (by omega), ?_⟩
  exact Int.ediv_le_of_le_mul (by omega) (by omega)

end Go.Proofs.Ytmknengmjepdaaa
