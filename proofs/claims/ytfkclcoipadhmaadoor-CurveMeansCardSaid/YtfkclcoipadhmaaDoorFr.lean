/- Plainly: pooled blocks of a sequence; they come to the greatest of the least means, and no other non-decreasing sequence is nearer. -/
import Derived.Test.YtfkclcoipadhmaaDoorQj
namespace Go.Proofs.YtfkclcoipadhmaaDoor
open Go.RowKit

/-- The blocks of the smoothed sequence, the last one first: sum and length. -/
def mergeB : List (Int × Int) → Int × Int → List (Int × Int)
  | [], b => [b]
  | p :: r, b => if b.1 * p.2 ≤ p.1 * b.2 then mergeB r (p.1 + b.1, p.2 + b.2) else b :: p :: r
def meanB (b : Int × Int) : Rat := (b.1 : Rat) / (b.2 : Rat)
/-- One block from s to e, and what lies before it. -/
structure BlockI (S : Nat → Rat) (b : Int × Int) (s e : Nat) : Prop where
  lt : s < e
  len : (b.2 : Rat) = (e : Rat) - (s : Rat)
  sum : (b.1 : Rat) = S e - S s
  pre : ∀ t, s ≤ t → t ≤ e → meanB b * ((t : Rat) - (s : Rat)) ≤ S t - S s
def GoodB (S : Nat → Rat) : List (Int × Int) → Nat → Prop
  | [], e => e = 0
  | b :: r, e => ∃ s, BlockI S b s e ∧ GoodB S r s ∧ ∀ p, r.head? = some p → meanB p < meanB b
theorem natR_le {a b : Nat} (h : a ≤ b) : (a : Rat) ≤ (b : Rat) := by exact_mod_cast h
theorem natR_lt {a b : Nat} (h : a < b) : (a : Rat) < (b : Rat) := by exact_mod_cast h
theorem BlockI.pos {S : Nat → Rat} {b : Int × Int} {s e : Nat} (h : BlockI S b s e) : (0 : Rat) < (b.2 : Rat) := by
  have := natR_lt h.lt
  rw [h.len]
  grind
theorem BlockI.whole {S : Nat → Rat} {b : Int × Int} {s e : Nat} (h : BlockI S b s e) : meanB b * (b.2 : Rat) = (b.1 : Rat) := by
  unfold meanB
  exact Rat.div_mul_cancel (by have := h.pos; grind)
theorem cross_le {p b : Int × Int} (hp : (0 : Rat) < (p.2 : Rat)) (hb : (0 : Rat) < (b.2 : Rat)) : b.1 * p.2 ≤ p.1 * b.2 ↔ meanB b ≤ meanB p := by
  have e1 : meanB b * (b.2 : Rat) = (b.1 : Rat) := Rat.div_mul_cancel (by grind)
  have e2 : meanB p * (p.2 : Rat) = (p.1 : Rat) := Rat.div_mul_cancel (by grind)
  have h0 : b.1 * p.2 ≤ p.1 * b.2 ↔ (b.1 : Rat) * (p.2 : Rat) ≤ (p.1 : Rat) * (b.2 : Rat) := by
    rw [← Rat.intCast_mul, ← Rat.intCast_mul, Rat.intCast_le_intCast]
  have hpos := Rat.mul_pos hp hb
  rw [h0, ← e1, ← e2]
  have h1 : meanB b * (b.2 : Rat) * (p.2 : Rat) = meanB b * ((p.2 : Rat) * (b.2 : Rat)) := by grind
  have h2 : meanB p * (p.2 : Rat) * (b.2 : Rat) = meanB p * ((p.2 : Rat) * (b.2 : Rat)) := by grind
  rw [h1, h2]
  constructor
  · intro h
    exact Rat.le_of_mul_le_mul_right h hpos
  · intro h
    exact Rat.mul_le_mul_of_nonneg_right h (Rat.le_of_lt hpos)
theorem pre_alg {m mb a b S' Ss St Se s' s t e : Rat} (l1 : a = s - s') (l2 : b = e - s) (hm : m * (a + b) = (Ss - S') + (Se - Ss)) (b2 : mb * b = Se - Ss) (h3 : mb * (t - s) ≤ St - Ss) (h4 : 0 ≤ (m - mb) * (e - t)) : m * (t - s') ≤ St - S' := by
  subst l1 l2
  have e1 : m * (t - s') = m * (s - s' + (e - s)) - (m - mb) * (e - t) - mb * (e - s) + mb * (t - s) := by grind
  rw [e1, hm, b2]
  grind
theorem block_merge {S : Nat → Rat} {p b : Int × Int} {s' s e : Nat} (hp : BlockI S p s' s) (hb : BlockI S b s e) (h : meanB b ≤ meanB p) : BlockI S (p.1 + b.1, p.2 + b.2) s' e := by
  have p1 := hp.pos
  have b1 := hb.pos
  have p2 := hp.whole
  have b2 := hb.whole
  have hlen : (((p.2 + b.2 : Int)) : Rat) = (p.2 : Rat) + (b.2 : Rat) := Rat.intCast_add ..
  have hsum : (((p.1 + b.1 : Int)) : Rat) = (p.1 : Rat) + (b.1 : Rat) := Rat.intCast_add ..
  have hm : meanB (p.1 + b.1, p.2 + b.2) * ((p.2 : Rat) + (b.2 : Rat)) = (p.1 : Rat) + (b.1 : Rat) := by
    unfold meanB
    rw [hlen, hsum]
    exact Rat.div_mul_cancel (by grind)
  obtain ⟨m, hmm⟩ : ∃ m, meanB (p.1 + b.1, p.2 + b.2) = m := ⟨_, rfl⟩
  obtain ⟨mp, hmp⟩ : ∃ m, meanB p = m := ⟨_, rfl⟩
  obtain ⟨mb, hmb⟩ : ∃ m, meanB b = m := ⟨_, rfl⟩
  have hpre := hp.pre
  have hbre := hb.pre
  rw [hmm] at hm
  rw [hmp] at p2 h hpre
  rw [hmb] at b2 h hbre
  have l1 := hp.len
  have l2 := hb.len
  have s1 := hp.sum
  have s2 := hb.sum
  have x1 : mb ≤ m := by
    apply Decidable.byContradiction
    intro hc
    have h1 : 0 < (mb - m) * (p.2 : Rat) := Rat.mul_pos (by grind) p1
    have h2 : 0 < (mb - m) * (b.2 : Rat) := Rat.mul_pos (by grind) b1
    have h3 : 0 ≤ (mp - mb) * (p.2 : Rat) := Rat.mul_nonneg (by grind) (by grind)
    grind
  have x2 : m ≤ mp := by
    apply Decidable.byContradiction
    intro hc
    have h1 : 0 < (m - mp) * (p.2 : Rat) := Rat.mul_pos (by grind) p1
    have h2 : 0 < (m - mp) * (b.2 : Rat) := Rat.mul_pos (by grind) b1
    have h3 : 0 ≤ (mp - mb) * (b.2 : Rat) := Rat.mul_nonneg (by grind) (by grind)
    grind
  refine ⟨Nat.lt_trans hp.lt hb.lt, by rw [hlen, l1, l2]; grind, by rw [hsum, s1, s2]; grind, fun t h1 h2 => ?_⟩
  rw [hmm]
  by_cases ht : t ≤ s
  · have h3 := hpre t h1 ht
    have h4 : 0 ≤ (mp - m) * ((t : Rat) - (s' : Rat)) := Rat.mul_nonneg (by grind) (by have := natR_le h1; grind)
    grind
  · have h3 := hbre t (by omega) h2
    have h4 : 0 ≤ (m - mb) * ((e : Rat) - (t : Rat)) := Rat.mul_nonneg (by grind) (by have := natR_le h2; grind)
    rw [s1, s2] at hm
    rw [s2] at b2
    exact pre_alg l1 l2 hm b2 h3 h4
theorem merge_good {S : Nat → Rat} : ∀ {st : List (Int × Int)} {b : Int × Int} {s e : Nat}, GoodB S st s → BlockI S b s e → GoodB S (mergeB st b) e
  | [], b, s, e, hg, hb => ⟨s, hb, hg, fun p hp => by cases hp⟩
  | p :: r, b, s, e, hg, hb => by
    obtain ⟨s', hp, hr, hlt⟩ := hg
    unfold mergeB
    by_cases hc : b.1 * p.2 ≤ p.1 * b.2
    · rw [if_pos hc]
      exact merge_good hr (block_merge hp hb ((cross_le hp.pos hb.pos).1 hc))
    · rw [if_neg hc]
      refine ⟨s, hb, ⟨s', hp, hr, hlt⟩, fun q hq => ?_⟩
      cases hq
      have : ¬ meanB b ≤ meanB p := fun h => hc ((cross_le hp.pos hb.pos).2 h)
      grind
theorem block_one {S : Nat → Rat} {x : Int} {e : Nat} (h : S (e + 1) = S e + (x : Rat)) : BlockI S (x, 1) e (e + 1) := by
  have hm : meanB (x, 1) = (x : Rat) := by unfold meanB; show (x : Rat) / ((1 : Int) : Rat) = x; have : ((1 : Int) : Rat) = 1 := rfl; rw [this]; grind
  have hc : (((e + 1 : Nat)) : Rat) = (e : Rat) + 1 := by exact_mod_cast rfl
  refine ⟨by omega, ?_, ?_, fun t h1 h2 => ?_⟩
  · rw [hc]; show ((1 : Int) : Rat) = _; have : ((1 : Int) : Rat) = 1 := rfl; rw [this]; grind
  · rw [h]; show (x : Rat) = _; grind
  · rw [hm]
    by_cases ht : t = e
    · rw [ht]; grind
    · obtain rfl : t = e + 1 := by omega
      rw [hc, h]; grind
/-- What is known of element i of the smoothed sequence: m is its value. -/
structure IsoI (S : Nat → Rat) (n i : Nat) (m : Rat) (s e : Nat) : Prop where
  lo : s ≤ i
  hi : i < e
  en : e ≤ n
  eq : S e - S s = m * ((e : Rat) - (s : Rat))
  up : ∀ t, s ≤ t → t ≤ n → m * ((t : Rat) - (s : Rat)) ≤ S t - S s
  dn : ∀ j, j < e → S e - S j ≤ m * ((e : Rat) - (j : Rat))
theorem good_dn {S : Nat → Rat} : ∀ {r : List (Int × Int)} {b : Int × Int} {e : Nat}, GoodB S (b :: r) e → ∀ j, j ≤ e → S e - S j ≤ meanB b * ((e : Rat) - (j : Rat))
  | r, b, e, ⟨s, hb, hr, hlt⟩, j, hj => by
    have b2 := hb.whole
    have l2 := hb.len
    have s2 := hb.sum
    have hm : meanB b * ((e : Rat) - (s : Rat)) = S e - S s := by rw [← l2, ← s2]; exact b2
    by_cases hjs : s ≤ j
    · have h3 := hb.pre j hjs hj
      grind
    · cases r with
      | nil =>
        have hs0 : s = 0 := hr
        omega
      | cons p r' =>
        have hd := good_dn hr j (by omega)
        have h4 : 0 ≤ (meanB b - meanB p) * ((s : Rat) - (j : Rat)) := Rat.mul_nonneg (by have := hlt p rfl; grind) (by have := natR_le (show j ≤ s by omega); grind)
        grind
/-- The expanded sequence. -/
def flatB (st : List (Int × Int)) : List Rat := st.reverse.flatMap fun b => List.replicate b.2.toNat (meanB b)
theorem flatB_cons (b : Int × Int) (r : List (Int × Int)) : flatB (b :: r) = flatB r ++ List.replicate b.2.toNat (meanB b) := by
  unfold flatB
  rw [List.reverse_cons, List.flatMap_append]
  simp
theorem BlockI.nat {S : Nat → Rat} {b : Int × Int} {s e : Nat} (h : BlockI S b s e) : b.2.toNat = e - s := by
  have h1 := h.len
  have h2 := h.lt
  have h3 : ((b.2 : Int) : Rat) = (((e : Int) - (s : Int) : Int) : Rat) := by
    rw [h1, Rat.intCast_sub]; rfl
  have h4 : b.2 = (e : Int) - (s : Int) := by exact_mod_cast h3
  omega
theorem flatB_len {S : Nat → Rat} : ∀ {st : List (Int × Int)} {e : Nat}, GoodB S st e → (flatB st).length = e
  | [], e, h => by have : e = 0 := h
                   rw [this]; rfl
  | b :: r, e, ⟨s, hb, hr, _⟩ => by
    rw [flatB_cons, List.length_append, flatB_len hr, List.length_replicate, hb.nat]
    have := hb.lt
    omega
theorem good_iso {S : Nat → Rat} : ∀ {st : List (Int × Int)} {n : Nat}, GoodB S st n → ∀ i, i < n → ∃ s e, IsoI S n i ((flatB st).getD i 0) s e ∧ ∀ b, st.head? = some b → (flatB st).getD i 0 ≤ meanB b
  | [], n, h, i, hi => by have : n = 0 := h
                          omega
  | b :: r, n, hg, i, hi => by
    obtain ⟨s, hb, hr, hlt⟩ := id hg
    have b2 := hb.whole
    have l2 := hb.len
    have s2 := hb.sum
    have hfl := flatB_len hr
    rw [flatB_cons]
    have hm : meanB b * ((n : Rat) - (s : Rat)) = S n - S s := by rw [← l2, ← s2]; exact b2
    by_cases his : s ≤ i
    · have e1 : (flatB r ++ List.replicate b.2.toNat (meanB b)).getD i 0 = meanB b := by
        rw [List.getD_eq_getElem?_getD, List.getElem?_append_right (by omega), hfl, List.getElem?_replicate, hb.nat, if_pos (by omega)]
        rfl
      rw [e1]
      exact ⟨s, n, ⟨his, hi, Nat.le_refl _, hm.symm, fun t h1 h2 => hb.pre t h1 h2, fun j hj => good_dn hg j (by omega)⟩, fun c hc => by cases hc; exact Rat.le_refl⟩
    · have e1 : (flatB r ++ List.replicate b.2.toNat (meanB b)).getD i 0 = (flatB r).getD i 0 := by
        rw [List.getD_eq_getElem?_getD, List.getElem?_append_left (by omega), List.getD_eq_getElem?_getD]
      rw [e1]
      obtain ⟨s', e', hI, htop⟩ := good_iso hr i (by omega)
      have hmb : (flatB r).getD i 0 ≤ meanB b := by
        cases r with
        | nil => have : s = 0 := hr
                 omega
        | cons p r' =>
          have := htop p rfl
          have := hlt p rfl
          grind
      refine ⟨s', e', ⟨hI.lo, hI.hi, by have := hI.en; have := hb.lt; omega, hI.eq, fun t h1 h2 => ?_, hI.dn⟩, fun c hc => by cases hc; exact hmb⟩
      by_cases hts : t ≤ s
      · exact hI.up t h1 hts
      · have h3 := hb.pre t (by omega) h2
        have h4 := hI.up s (by have := hI.lo; have := hI.hi; have := hI.en; omega) (Nat.le_refl _)
        have h5 : 0 ≤ (meanB b - (flatB r).getD i 0) * ((t : Rat) - (s : Rat)) := Rat.mul_nonneg (by grind) (by have := natR_le (show s ≤ t by omega); grind)
        grind

/-- The mean of the elements from j to k. -/
def meanS (S : Nat → Rat) (j k : Nat) : Rat := (S (k + 1) - S j) / (((k + 1 : Nat) : Rat) - (j : Rat))
/-- The reference's least mean, over the ends below k; its greatest of these, over the starts below j. -/
def lowTo (S : Nat → Rat) (i j : Nat) : Nat → Rat
  | 0 => 1000000000
  | k + 1 => if i ≤ k ∧ meanS S j k < lowTo S i j k then meanS S j k else lowTo S i j k
def bestTo (S : Nat → Rat) (n i : Nat) : Nat → Rat
  | 0 => -1
  | j + 1 => if bestTo S n i j < lowTo S i j n then lowTo S i j n else bestTo S n i j
theorem lowTo_le {S : Nat → Rat} {i j : Nat} : ∀ {k t : Nat}, t < k → i ≤ t → lowTo S i j k ≤ meanS S j t
  | 0, t, h, _ => by omega
  | k + 1, t, h, hi => by
    unfold lowTo
    by_cases he : t = k
    · subst he
      split <;> grind
    · have := lowTo_le (S := S) (j := j) (show t < k by omega) hi
      split <;> grind
theorem lowTo_ge {S : Nat → Rat} {i j : Nat} {m : Rat} (hm : m ≤ 1000000000) : ∀ {k : Nat}, (∀ t, t < k → i ≤ t → m ≤ meanS S j t) → m ≤ lowTo S i j k
  | 0, _ => hm
  | k + 1, h => by
    have ih := lowTo_ge hm (k := k) (fun t h1 h2 => h t (by omega) h2)
    unfold lowTo
    split
    · exact h k (by omega) (by omega)
    · exact ih
theorem bestTo_le {S : Nat → Rat} {n i : Nat} {m : Rat} (hm : -1 ≤ m) : ∀ {k : Nat}, (∀ j, j < k → lowTo S i j n ≤ m) → bestTo S n i k ≤ m
  | 0, _ => hm
  | k + 1, h => by
    have ih := bestTo_le hm (k := k) (fun t h1 => h t (by omega))
    have h1 := h k (by omega)
    unfold bestTo
    split
    · exact h1
    · exact ih
theorem bestTo_ge {S : Nat → Rat} {n i : Nat} : ∀ {k j : Nat}, j < k → lowTo S i j n ≤ bestTo S n i k
  | 0, j, h => by omega
  | k + 1, j, h => by
    unfold bestTo
    by_cases he : j = k
    · subst he
      split <;> grind
    · have := bestTo_ge (S := S) (n := n) (i := i) (show j < k by omega)
      split <;> grind
theorem iso_ref {S : Nat → Rat} {n i s e : Nat} {m : Rat} (h : IsoI S n i m s e) (h1 : -1 ≤ m) (h2 : m ≤ 1000000000) : bestTo S n i (i + 1) = m := by
  have a1 := h.lo
  have a2 := h.hi
  have a3 := h.en
  have le1 : bestTo S n i (i + 1) ≤ m := by
    refine bestTo_le h1 fun j hj => ?_
    have hl := lowTo_le (S := S) (i := i) (j := j) (k := n) (t := e - 1) (by omega) (by omega)
    have hd := h.dn j (by omega)
    have hp : (0 : Rat) < (e : Rat) - (j : Rat) := by have := natR_lt (show j < e by omega); grind
    have e1 : meanS S j (e - 1) * ((e : Rat) - (j : Rat)) = S e - S j := by
      unfold meanS
      rw [show e - 1 + 1 = e by omega]
      exact Rat.div_mul_cancel (by grind)
    have : meanS S j (e - 1) ≤ m := by
      apply Decidable.byContradiction
      intro hc
      have := Rat.mul_pos (show 0 < meanS S j (e - 1) - m by grind) hp
      grind
    grind
  have ge1 : m ≤ bestTo S n i (i + 1) := by
    have hb := bestTo_ge (S := S) (n := n) (i := i) (k := i + 1) (j := s) (by omega)
    have hl : m ≤ lowTo S i s n := by
      refine lowTo_ge h2 fun t ht hit => ?_
      have hu := h.up (t + 1) (by omega) (by omega)
      have hp : (0 : Rat) < ((t + 1 : Nat) : Rat) - (s : Rat) := by have := natR_lt (show s < t + 1 by omega); grind
      have e1 : meanS S s t * (((t + 1 : Nat) : Rat) - (s : Rat)) = S (t + 1) - S s := by
        unfold meanS
        exact Rat.div_mul_cancel (by grind)
      apply Decidable.byContradiction
      intro hc
      have := Rat.mul_pos (show 0 < m - meanS S s t by grind) hp
      grind
    grind
  grind
theorem sum_bd {S : Nat → Rat} {n : Nat} (hS : ∀ t, t < n → 0 ≤ S (t + 1) - S t ∧ S (t + 1) - S t ≤ 1000000) {s : Nat} : ∀ e, s ≤ e → e ≤ n → 0 ≤ S e - S s ∧ S e - S s ≤ 1000000 * ((e : Rat) - (s : Rat))
  | 0, h, _ => by
    obtain rfl : s = 0 := by omega
    constructor <;> grind
  | e + 1, h, he => by
    by_cases hs : s = e + 1
    · rw [hs]; constructor <;> grind
    · have ih := sum_bd hS (s := s) e (by omega) (by omega)
      have h1 := hS e (by omega)
      have hc : (((e + 1 : Nat)) : Rat) = (e : Rat) + 1 := by exact_mod_cast rfl
      rw [hc]
      constructor <;> grind
theorem iso_bd {S : Nat → Rat} {n i s e : Nat} {m : Rat} (hS : ∀ t, t < n → 0 ≤ S (t + 1) - S t ∧ S (t + 1) - S t ≤ 1000000) (h : IsoI S n i m s e) : 0 ≤ m ∧ m ≤ 1000000 := by
  have h1 := sum_bd hS e (s := s) (by have := h.lo; have := h.hi; omega) h.en
  have h2 := h.eq
  have hp : (0 : Rat) < (e : Rat) - (s : Rat) := by have := natR_lt (show s < e by have := h.lo; have := h.hi; omega); grind
  rw [h2] at h1
  constructor
  · apply Decidable.byContradiction
    intro hc
    have := Rat.mul_pos (show 0 < -m by grind) hp
    grind
  · apply Decidable.byContradiction
    intro hc
    have := Rat.mul_pos (show 0 < m - 1000000 by grind) hp
    grind
/-- The stack behind the first k elements. -/
def stackB (l : List Int) : Nat → List (Int × Int)
  | 0 => []
  | k + 1 => mergeB (stackB l k) (l.getD k 0, 1)
/-- Sums of the first elements. -/
def sumT (l : List Int) : Nat → Rat
  | 0 => 0
  | k + 1 => sumT l k + ((l.getD k 0 : Int) : Rat)
theorem stack_good (l : List Int) : ∀ k, GoodB (sumT l) (stackB l k) k
  | 0 => rfl
  | k + 1 => merge_good (stack_good l k) (block_one rfl)
/-- Isotone is what the reference says. -/
theorem isotone_ref {l : List Int} (hl : ∀ i, i < l.length → 0 ≤ l.getD i 0 ∧ l.getD i 0 ≤ 1000000) {i : Nat} (hi : i < l.length) :
    (flatB (stackB l l.length)).getD i 0 = bestTo (sumT l) l.length i (i + 1) ∧ 0 ≤ (flatB (stackB l l.length)).getD i 0 ∧ (flatB (stackB l l.length)).getD i 0 ≤ 1000000 := by
  have hS : ∀ t, t < l.length → 0 ≤ sumT l (t + 1) - sumT l t ∧ sumT l (t + 1) - sumT l t ≤ 1000000 := by
    intro t ht
    obtain ⟨h1, h2⟩ := hl t ht
    have e : sumT l (t + 1) - sumT l t = ((l.getD t 0 : Int) : Rat) := by
      show sumT l t + ((l.getD t 0 : Int) : Rat) - sumT l t = _
      grind
    rw [e]
    refine ⟨by exact_mod_cast h1, ?_⟩
    have e2 : (1000000 : Rat) = ((1000000 : Int) : Rat) := rfl
    rw [e2, Rat.intCast_le_intCast]
    exact h2
  obtain ⟨s, e, hI, -⟩ := good_iso (stack_good l l.length) i hi
  have hb := iso_bd hS hI
  exact ⟨(iso_ref hI (by grind) (by grind)).symm, hb⟩

/-- Sums over the first k indices. -/
def sumF (f : Nat → Rat) : Nat → Rat
  | 0 => 0
  | k + 1 => sumF f k + f k
theorem sumF_congr {f g : Nat → Rat} : ∀ {k : Nat}, (∀ i, i < k → f i = g i) → sumF f k = sumF g k
  | 0, _ => rfl
  | k + 1, h => by
    show sumF f k + f k = sumF g k + g k
    rw [sumF_congr (fun i hi => h i (by omega)), h k (by omega)]
theorem sumF_zero {f : Nat → Rat} : ∀ {k : Nat}, (∀ i, i < k → f i = 0) → sumF f k = 0
  | 0, _ => rfl
  | k + 1, h => by
    show sumF f k + f k = 0
    rw [sumF_zero (fun i hi => h i (by omega)), h k (by omega)]
    grind
theorem sumF_nonneg {f : Nat → Rat} : ∀ {k : Nat}, (∀ i, i < k → 0 ≤ f i) → 0 ≤ sumF f k
  | 0, _ => Rat.le_refl
  | k + 1, h => by
    show 0 ≤ sumF f k + f k
    have := sumF_nonneg (k := k) (fun i hi => h i (by omega))
    have := h k (by omega)
    grind
theorem sumF_part {f : Nat → Rat} : ∀ {k i : Nat}, (∀ i, i < k → 0 ≤ f i) → i < k → f i ≤ sumF f k
  | 0, i, _, h => by omega
  | k + 1, i, h, hi => by
    show f i ≤ sumF f k + f k
    have h1 := sumF_nonneg (f := f) (k := k) (fun i hi => h i (by omega))
    have h2 := h k (by omega)
    by_cases he : i = k
    · subst he; grind
    · have := sumF_part (f := f) (k := k) (i := i) (fun i hi => h i (by omega)) (by omega)
      grind
/-- Within a block. -/
theorem abel {S : Nat → Rat} {l : Nat → Rat} (hS : ∀ k, S (k + 1) = S k + l k) {m : Rat} {s e : Nat} (hpre : ∀ t, s ≤ t → t ≤ e → m * ((t : Rat) - (s : Rat)) ≤ S t - S s) {o : Nat → Rat} (ho : ∀ i, i + 1 < e → o i ≤ o (i + 1)) (c : Rat) :
    ∀ t, s + t + 1 ≤ e → c + (o (s + t) - m) * (m * (((s + t + 1 : Nat) : Rat) - (s : Rat)) - (S (s + t + 1) - S s)) ≤ c + (sumF (fun i => (o i - m) * (m - l i)) (s + t + 1) - sumF (fun i => (o i - m) * (m - l i)) s)
  | 0, h => by
    have hc : (((s + 0 + 1 : Nat)) : Rat) = (s : Rat) + 1 := by exact_mod_cast rfl
    have e1 : sumF (fun i => (o i - m) * (m - l i)) (s + 0 + 1) = sumF (fun i => (o i - m) * (m - l i)) s + (o s - m) * (m - l s) := rfl
    rw [hc, e1, hS (s + 0)]
    show c + (o s - m) * _ ≤ _
    have e2 : m * ((s : Rat) + 1 - (s : Rat)) - (S (s + 0) + l (s + 0) - S s) = m - l s := by
      show m * ((s : Rat) + 1 - (s : Rat)) - (S s + l s - S s) = m - l s
      grind
    rw [e2]
    grind
  | t + 1, h => by
    have ih := abel hS hpre ho c t (by omega)
    have hc : (((s + (t + 1) + 1 : Nat)) : Rat) = ((s + t + 1 : Nat) : Rat) + 1 := by exact_mod_cast rfl
    have e1 : sumF (fun i => (o i - m) * (m - l i)) (s + (t + 1) + 1) = sumF (fun i => (o i - m) * (m - l i)) (s + t + 1) + (o (s + t + 1) - m) * (m - l (s + t + 1)) := rfl
    rw [hc, e1, show s + (t + 1) + 1 = s + t + 1 + 1 from rfl, hS (s + t + 1)]
    show c + (o (s + t + 1) - m) * _ ≤ _
    have hp := hpre (s + t + 1) (by omega) (by omega)
    have hoo := ho (s + t) (by omega)
    generalize (((s + t + 1 : Nat)) : Rat) = T at *
    generalize S (s + t + 1) = U at *
    generalize o (s + t + 1) = q at *
    generalize o (s + t) = p at *
    have hk : 0 ≤ (q - p) * ((U - S s) - m * (T - (s : Rat))) := Rat.mul_nonneg (by grind) (by grind)
    have e3 : (q - m) * (m * (T + 1 - (s : Rat)) - (U + l (s + t + 1) - S s)) = (p - m) * (m * (T - (s : Rat)) - (U - S s)) - (q - p) * ((U - S s) - m * (T - (s : Rat))) + (q - m) * (m - l (s + t + 1)) := by grind
    rw [e3]
    grind
theorem flat_left {b : Int × Int} {r : List (Int × Int)} {i s : Nat} (hl : (flatB r).length = s) (h : i < s) : (flatB (b :: r)).getD i 0 = (flatB r).getD i 0 := by
  rw [flatB_cons, List.getD_eq_getElem?_getD, List.getElem?_append_left (by omega), List.getD_eq_getElem?_getD]
theorem flat_right {S : Nat → Rat} {b : Int × Int} {r : List (Int × Int)} {i s e : Nat} (hb : BlockI S b s e) (hl : (flatB r).length = s) (h : s ≤ i) (h2 : i < e) : (flatB (b :: r)).getD i 0 = meanB b := by
  rw [flatB_cons, List.getD_eq_getElem?_getD, List.getElem?_append_right (by omega), hl, List.getElem?_replicate, hb.nat, if_pos (by omega)]
  rfl
theorem sumF_block {f g : Nat → Rat} {s : Nat} (h1 : sumF f s = sumF g s) : ∀ {e : Nat}, s ≤ e → (∀ i, s ≤ i → i < e → f i = g i) → sumF f e = sumF g e
  | 0, h, _ => by
    obtain rfl : s = 0 := by omega
    exact h1
  | e + 1, h, h2 => by
    by_cases he : s = e + 1
    · rw [← he]; exact h1
    · show sumF f e + f e = sumF g e + g e
      rw [sumF_block h1 (by omega) (fun i h3 h4 => h2 i h3 (by omega)), h2 e (by omega) (by omega)]
theorem sumF_diff {f g : Nat → Rat} {s : Nat} : ∀ {e : Nat}, s ≤ e → (∀ i, s ≤ i → i < e → f i = g i) → sumF f e - sumF f s = sumF g e - sumF g s
  | 0, h, _ => by
    obtain rfl : s = 0 := by omega
    show (0 : Rat) - 0 = 0 - 0
    rfl
  | e + 1, h, h2 => by
    by_cases he : s = e + 1
    · rw [← he]; grind
    · have ih := sumF_diff (f := f) (g := g) (show s ≤ e by omega) (fun i h3 h4 => h2 i h3 (by omega))
      have := h2 e (by omega) (by omega)
      show sumF f e + f e - sumF f s = sumF g e + g e - sumF g s
      grind
theorem dot_good {S : Nat → Rat} {l : Nat → Rat} (hS : ∀ k, S (k + 1) = S k + l k) : ∀ {st : List (Int × Int)} {n : Nat} {o : Nat → Rat}, GoodB S st n → (∀ i, i + 1 < n → o i ≤ o (i + 1)) →
    0 ≤ sumF (fun i => (o i - (flatB st).getD i 0) * ((flatB st).getD i 0 - l i)) n ∧ sumF (fun i => (flatB st).getD i 0 - l i) n = 0
  | [], n, o, h, _ => by
    have h0 : n = 0 := h
    subst h0
    exact ⟨Rat.le_refl, rfl⟩
  | b :: r, n, o, ⟨s, hb, hr, hlt⟩, ho => by
    have hfl := flatB_len hr
    have hsn := hb.lt
    obtain ⟨ih1, ih2⟩ := dot_good hS (o := o) hr (fun i hi => ho i (by omega))
    have b2 := hb.whole
    have l2 := hb.len
    have s2 := hb.sum
    have hm : meanB b * ((n : Rat) - (s : Rat)) = S n - S s := by rw [← l2, ← s2]; exact b2
    have ha := abel hS hb.pre ho 0 (n - s - 1) (by omega)
    rw [show s + (n - s - 1) + 1 = n by omega, hm] at ha
    have c1 : sumF (fun i => (o i - (flatB (b :: r)).getD i 0) * ((flatB (b :: r)).getD i 0 - l i)) s = sumF (fun i => (o i - (flatB r).getD i 0) * ((flatB r).getD i 0 - l i)) s := sumF_congr (fun i hi => by rw [flat_left hfl hi])
    have c2 := sumF_diff (f := fun i => (o i - (flatB (b :: r)).getD i 0) * ((flatB (b :: r)).getD i 0 - l i)) (g := fun i => (o i - meanB b) * (meanB b - l i)) (s := s) (e := n) (by omega) (fun i h1 h2 => by
      show (o i - (flatB (b :: r)).getD i 0) * ((flatB (b :: r)).getD i 0 - l i) = _
      rw [flat_right hb hfl h1 h2])
    have c3 : sumF (fun i => (flatB (b :: r)).getD i 0 - l i) s = sumF (fun i => (flatB r).getD i 0 - l i) s := sumF_congr (fun i hi => by rw [flat_left hfl hi])
    have c4 := sumF_diff (f := fun i => (flatB (b :: r)).getD i 0 - l i) (g := fun i => meanB b - l i) (s := s) (e := n) (by omega) (fun i h1 h2 => by
      show (flatB (b :: r)).getD i 0 - l i = _
      rw [flat_right hb hfl h1 h2])
    have c5 : ∀ t, s ≤ t → sumF (fun i => meanB b - l i) t - sumF (fun i => meanB b - l i) s = meanB b * ((t : Rat) - (s : Rat)) - (S t - S s) := by
      intro t
      induction t with
      | zero =>
        intro h
        obtain rfl : s = 0 := by omega
        grind
      | succ t ih =>
        intro h
        by_cases he : s = t + 1
        · rw [← he]; grind
        · have := ih (by omega)
          have hc : (((t + 1 : Nat)) : Rat) = (t : Rat) + 1 := by exact_mod_cast rfl
          rw [hc, hS t]
          show sumF (fun i => meanB b - l i) t + (meanB b - l t) - sumF (fun i => meanB b - l i) s = _
          grind
    have c6 := c5 n (by omega)
    rw [hm] at c6
    constructor <;> grind
/-- No other non-decreasing sequence is nearer. -/
theorem near_far {S : Nat → Rat} {l : Nat → Rat} (hS : ∀ k, S (k + 1) = S k + l k) {st : List (Int × Int)} {n : Nat} {o : Nat → Rat} (hg : GoodB S st n) (ho : ∀ i, i + 1 < n → o i ≤ o (i + 1)) :
    sumF (fun i => ((flatB st).getD i 0 - l i) * ((flatB st).getD i 0 - l i)) n ≤ sumF (fun i => (o i - l i) * (o i - l i)) n := by
  have hd := (dot_good hS hg ho).1
  have key : ∀ (f : Nat → Rat) k, sumF (fun i => (o i - l i) * (o i - l i)) k = sumF (fun i => (f i - l i) * (f i - l i)) k + sumF (fun i => (o i - f i) * (o i - f i)) k + 2 * sumF (fun i => (o i - f i) * (f i - l i)) k := by
    intro f k
    induction k with
    | zero => show (0 : Rat) = 0 + 0 + 2 * 0; grind
    | succ k ih =>
      show sumF (fun i => (o i - l i) * (o i - l i)) k + _ = sumF (fun i => (f i - l i) * (f i - l i)) k + _ + (sumF (fun i => (o i - f i) * (o i - f i)) k + _) + 2 * (sumF (fun i => (o i - f i) * (f i - l i)) k + _)
      grind
  have hk := key (fun i => (flatB st).getD i 0) n
  have hsq := sumF_nonneg (f := fun i => (o i - (flatB st).getD i 0) * (o i - (flatB st).getD i 0)) (k := n) (fun i _ => by
    rcases Rat.le_total (a := 0) (b := o i - (flatB st).getD i 0) with h | h
    · exact Rat.mul_nonneg h h
    · have := Rat.mul_nonneg (show 0 ≤ -(o i - (flatB st).getD i 0) by grind) (show 0 ≤ -(o i - (flatB st).getD i 0) by grind)
      grind)
  grind
theorem flat_rise {S : Nat → Rat} : ∀ {st : List (Int × Int)} {n : Nat}, GoodB S st n → ∀ i, i + 1 < n → (flatB st).getD i 0 ≤ (flatB st).getD (i + 1) 0
  | [], n, h, i, hi => by
    have h0 : n = 0 := h
    omega
  | b :: r, n, hg, i, hi => by
    obtain ⟨s, hb, hr, hlt⟩ := id hg
    have hfl := flatB_len hr
    by_cases h1 : i + 1 < s
    · rw [flat_left hfl h1, flat_left hfl (by omega)]
      exact flat_rise hr i h1
    · by_cases h2 : i < s
      · rw [flat_left hfl h2, flat_right hb hfl (by omega) hi]
        obtain ⟨_, _, _, htop⟩ := good_iso hr i h2
        cases r with
        | nil => have : s = 0 := hr
                 omega
        | cons p r' =>
          have := htop p rfl
          have := hlt p rfl
          grind
      · rw [flat_right hb hfl (by omega) hi, flat_right hb hfl (by omega) (by omega)]
        exact Rat.le_refl

end Go.Proofs.YtfkclcoipadhmaaDoor
