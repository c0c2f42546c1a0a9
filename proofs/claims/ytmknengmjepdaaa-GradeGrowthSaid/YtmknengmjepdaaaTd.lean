/- Short chains; the least measures are small fractions; they grow with the size. -/
import Derived.Test.YtmknengmjepdaaaTc
import Derived.Test.YtmknengmjepdaaaJa
namespace Go.Proofs.Ytmknengmjepdaaa
open Go.RowKit

/-- The i-th unknown of a chain. -/
def vert : List Rul → Nat → Nat → Nat
  | [], a, _ => a
  | _ :: _, a, 0 => a
  | r :: l, _, i + 1 => vert l r.b.toNat i
theorem vert_zero (l : List Rul) (a : Nat) : vert l a 0 = a := by cases l <;> rfl
theorem walk_cut : ∀ (l : List Rul) (a b i : Nat), isWalk l a b → i ≤ l.length → isWalk (l.take i) a (vert l a i) ∧ isWalk (l.drop i) (vert l a i) b
  | [], a, b, i, h, hi => by
    have : i = 0 := by simpa using hi
    subst this
    exact ⟨rfl, h⟩
  | r :: l, a, b, 0, h, _ => ⟨rfl, h⟩
  | r :: l, a, b, i + 1, h, hi => by
    obtain ⟨h1, h2⟩ := walk_cut l r.b.toNat b i h.2 (by simpa using hi)
    exact ⟨⟨h.1, h1⟩, h2⟩
theorem vert_take : ∀ (l : List Rul) (a i j : Nat), i ≤ j → vert (l.take j) a i = vert l a i
  | [], a, i, j, _ => by simp [vert]
  | r :: l, a, 0, j, _ => by rw [vert_zero, vert_zero]
  | r :: l, a, i + 1, 0, h => by omega
  | r :: l, a, i + 1, j + 1, h => by
    rw [List.take_succ_cons]
    exact vert_take l r.b.toNat i j (by omega)
theorem vert_lt {p : Pat} (hp : PValid p) : ∀ (l : List Rul) (a i : Nat), (∀ r ∈ l, r ∈ ext p) → a < p.n.toNat → vert l a i < p.n.toNat
  | [], a, i, _, h => h
  | r :: l, a, 0, _, h => h
  | r :: l, a, i + 1, hl, h => by
    have := ext_rv hp.1 hp.2.2.2 r (hl r (List.mem_cons_self ..))
    refine vert_lt hp l _ i (fun r hr => hl r (List.mem_cons_of_mem _ hr)) ?_
    have a1 := this.2.2.1
    have a2 := this.2.2.2.1
    omega

theorem walk_short {p : Pat} {n d : Int} (hp : PValid p) (hn : NoPos p n d) : ∀ (m : Nat) (l : List Rul) (a b : Nat), l.length = m → (∀ r ∈ l, r ∈ ext p) → a < p.n.toNat → isWalk l a b →
    ∃ l', (∀ r ∈ l', r ∈ ext p) ∧ isWalk l' a b ∧ l'.length < p.n.toNat ∧ wts n d l ≤ wts n d l' := by
  intro m
  induction m using Nat.strongRecOn with
  | _ m ih =>
    intro l a b hm hl ha hw
    by_cases hlt : l.length < p.n.toNat
    · exact ⟨l, hl, hw, hlt, Int.le_refl _⟩
    · obtain ⟨i, j, hij, hjN, he⟩ := pigeon p.n.toNat (fun i => vert l a i) (fun i _ => vert_lt hp l a i hl ha)
      obtain ⟨w1, w2⟩ := walk_cut l a b j hw (by omega)
      have hlen : (l.take j).length = j := by rw [List.length_take]; omega
      obtain ⟨w3, w4⟩ := walk_cut (l.take j) a (vert l a j) i w1 (by omega)
      rw [vert_take l a i j (by omega), he] at w3 w4
      have hmid := hn ((l.take j).drop i) (vert l a j) (fun r hr => hl r (List.mem_of_mem_take (List.mem_of_mem_drop hr))) w4
      have hnew := isWalk_append w3 w2
      have hlen2 : ((l.take j).take i ++ l.drop j).length < m := by
        rw [List.length_append, List.length_take, hlen, List.length_drop]; omega
      obtain ⟨l', h1, h2, h3, h4⟩ := ih _ hlen2 _ a b rfl (fun r hr => (List.mem_append.1 hr).elim (fun h => hl r (List.mem_of_mem_take (List.mem_of_mem_take h))) (fun h => hl r (List.mem_of_mem_drop h))) ha hnew
      refine ⟨l', h1, h2, h3, ?_⟩
      have e1 : wts n d l = wts n d (l.take j) + wts n d (l.drop j) := by rw [← wts_append, List.take_append_drop]
      have e2 : wts n d (l.take j) = wts n d ((l.take j).take i) + wts n d ((l.take j).drop i) := by rw [← wts_append, List.take_append_drop]
      rw [wts_append] at h4
      omega

theorem wts_bd {p : Pat} {n d : Int} (hp : PValid p) (hs : FSize n d) (l : List Rul) (hl : ∀ r ∈ l, r ∈ ext p) : wts n d l ≤ l.length * 50000000 := by
  induction l with
  | nil => simp [wts_nil]
  | cons r l ih =>
    have h1 := ih (fun r hr => hl r (List.mem_cons_of_mem _ hr))
    have h2 := wt_le (ext_rv hp.1 hp.2.2.2 r (hl r (List.mem_cons_self ..))) hs
    rw [wts_cons, List.length_cons]
    omega
/-- The least measures lie between 0 and 800000000. -/
theorem chain_bd {p : Pat} {n d : Int} (hp : PValid p) (hs : FSize n d) (hb : chBad p n d = false) {v : Nat} (hv : v < p.n.toNat) : 0 ≤ chainM p n d v 0 ∧ chainM p n d v 0 ≤ 800000000 := by
  obtain ⟨⟨l, h1, h2, h3⟩, h4⟩ := chain_greatest hp hs hb v hv
  dsimp only at h3 h4
  constructor
  · obtain ⟨l0, k1, k2, k3⟩ := to_zero (p := p) n d hv
    have := h4 l0 k1 k2
    omega
  · obtain ⟨l', k1, k2, k3, k4⟩ := walk_short hp ((chBad_iff hp hs).1 hb) l.length l v 0 rfl h1 hv h2
    have := wts_bd hp hs l' k1
    have := hp.2.1
    omega

/-- What New hands back where it fits. -/
theorem new_fv {z d : Int} (h1 : 1 ≤ d) (h2 : d ≤ 1000000000) (h3 : -1000000000 ≤ z) (h4 : z ≤ 1000000000) : FV (newN z d) (newD z d) ∧ ((newN z d : Int) : Rat) / ((newD z d : Int) : Rat) = (z : Rat) / (d : Rat) := by
  have hf := fits_of h1 h2 h3 h4
  have e1 : newN z d = ((z : Rat) / (d : Rat)).num := by unfold newN fitN; rw [if_neg (by omega), if_pos hf]
  have e2 : newD z d = (((z : Rat) / (d : Rat)).den : Int) := by unfold newD fitD; rw [if_neg (by omega), if_pos hf]
  rw [e1, e2]
  obtain ⟨q, hq⟩ : ∃ q, (z : Rat) / (d : Rat) = q := ⟨_, rfl⟩
  rw [hq] at hf ⊢
  obtain ⟨f1, f2⟩ := hf
  have hd := q.den_pos
  refine ⟨⟨by omega, by omega, by omega, by omega, ?_⟩, ?_⟩
  · have := q.reduced
    simpa [Nat.Coprime] using this
  · have := rat_parts q
    exact this.symm
theorem least_fv {p : Pat} {n d : Int} (hp : PValid p) (hs : FSize n d) (hb : chBad p n d = false) {v : Nat} (hv : v < p.n.toNat) : FV (leastF p n d v).1 (leastF p n d v).2 ∧ (((leastF p n d v).1 : Int) : Rat) / (((leastF p n d v).2 : Int) : Rat) = (chainM p n d v 0 : Rat) / (d : Rat) := by
  obtain ⟨h1, h2⟩ := chain_bd hp hs hb hv
  exact new_fv hs.1.1 hs.1.2.1 (by omega) (by omega)

/-- The weights of a chain at two sizes, no rule of which has a negative D. -/
theorem wts_grow {n d n' d' : Int} (h : n * d' ≤ n' * d) (l : List Rul) (hl : ∀ r ∈ l, 0 ≤ r.d) : wts n d l * d' ≤ wts n' d' l * d := by
  induction l with
  | nil => simp [wts_nil]
  | cons r l ih =>
    have h1 := ih (fun r hr => hl r (List.mem_cons_of_mem _ hr))
    have h2 := Int.mul_le_mul_of_nonneg_left h (hl r (List.mem_cons_self ..))
    rw [wts_cons, wts_cons, Int.add_mul, Int.add_mul]
    unfold wt
    have e1 : (r.c * d + r.d * n) * d' = r.c * d * d' + r.d * (n * d') := by grind
    have e2 : (r.c * d' + r.d * n') * d = r.c * d * d' + r.d * (n' * d) := by grind
    rw [e1, e2]
    omega
theorem ext_d {p : Pat} (h : ∀ r ∈ p.rules, 0 ≤ r.d) : ∀ r ∈ ext p, 0 ≤ r.d := by
  intro r hr
  unfold ext at hr
  rcases List.mem_append.1 hr with hr | hr
  · exact h r hr
  · obtain ⟨i, _, rfl⟩ := List.mem_map.1 hr
    exact Int.le_refl _
theorem chain_grow {p : Pat} {n d n' d' : Int} (hp : PValid p) (hs : FSize n d) (hs' : FSize n' d') (hb : chBad p n d = false) (hb' : chBad p n' d' = false) (hD : ∀ r ∈ p.rules, 0 ≤ r.d) (h : n * d' ≤ n' * d) {v : Nat} (hv : v < p.n.toNat) :
    chainM p n d v 0 * d' ≤ chainM p n' d' v 0 * d := by
  obtain ⟨⟨l, h1, h2, h3⟩, _⟩ := chain_greatest hp hs hb v hv
  obtain ⟨_, h4⟩ := chain_greatest hp hs' hb' v hv
  dsimp only at h3 h4
  have k1 := wts_grow h l (fun r hr => ext_d hD r (h1 r hr))
  have k2 := h4 l h1 h2
  have k3 := Int.mul_le_mul_of_nonneg_right k2 (show 0 ≤ d by have := hs.1.1; omega)
  rw [h3] at k1
  omega

/-- Order of two fractions, by whole numbers. -/
theorem sgn_div_le {a b c e : Int} (hb : 1 ≤ b) (he : 1 ≤ e) : sgnQ ((a : Rat) / (b : Rat) - (c : Rat) / (e : Rat)) ≤ 0 ↔ a * e ≤ c * b := by
  have hb' : (0 : Rat) < (b : Rat) := Rat.intCast_pos.2 (by omega)
  have he' : (0 : Rat) < (e : Rat) := Rat.intCast_pos.2 (by omega)
  have key : ((a : Rat) / (b : Rat) - (c : Rat) / (e : Rat)) * ((b : Rat) * (e : Rat)) = ((a * e - c * b : Int) : Rat) := by
    push_cast
    grind
  have hpos : (0 : Rat) < (b : Rat) * (e : Rat) := Rat.mul_pos hb' he'
  obtain ⟨q, hq⟩ : ∃ q, (a : Rat) / (b : Rat) - (c : Rat) / (e : Rat) = q := ⟨_, rfl⟩
  rw [hq] at key ⊢
  have hle : q ≤ 0 ↔ a * e ≤ c * b := by
    constructor
    · intro h
      have h1 : q * ((b : Rat) * (e : Rat)) ≤ 0 := by
        have := Rat.mul_le_mul_of_nonneg_right h (Rat.le_of_lt hpos)
        simpa using this
      rw [key] at h1
      have h2 : a * e - c * b ≤ 0 := Rat.intCast_le_intCast.1 (by simpa only [Rat.intCast_zero] using h1)
      omega
    · intro h
      apply Decidable.byContradiction
      intro hn
      have hq0 : 0 < q := Rat.not_le.1 hn
      have h1 := Rat.mul_pos hq0 hpos
      rw [key] at h1
      have h2 : 0 < a * e - c * b := Rat.intCast_pos.1 h1
      omega
  rw [← hle]
  unfold sgnQ
  split
  · rename_i h; constructor
    · intro _; exact Rat.le_of_lt h
    · intro _; decide
  · rename_i h
    split
    · rename_i h0; rw [h0]; simp
    · rename_i h0
      constructor
      · intro hc; simp at hc
      · intro hc
        exact absurd (Rat.le_antisymm hc (Rat.not_lt.1 h)) h0

end Go.Proofs.Ytmknengmjepdaaa
