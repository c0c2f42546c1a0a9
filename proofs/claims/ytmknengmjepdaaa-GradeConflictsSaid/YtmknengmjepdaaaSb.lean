/- The best walks of exactly k rules, plainly: what trankref04.bad keeps. -/
import Derived.Test.YtmknengmjepdaaaSa
namespace Go.Proofs.Ytmknengmjepdaaa
open Go.RowKit

/-- A walk's weight, and the sums of its C and D. -/
structure W3 where
  w : Int
  c : Int
  d : Int
def triple (n d : Int) (l : List Rul) : W3 := ⟨wts n d l, cS l, dS l⟩
theorem wts_abs {p : Pat} {n d : Int} (hp : PValid p) (hs : FSize n d) (l : List Rul) (hl : ∀ r ∈ l, r ∈ ext p) : -(l.length * 50000000 : Int) ≤ wts n d l ∧ wts n d l ≤ l.length * 50000000 := by
  induction l with
  | nil => simp [wts_nil]
  | cons r l ih =>
    have h1 := ih (fun r hr => hl r (List.mem_cons_of_mem _ hr))
    have h2 := wt_le (ext_rv hp.1 hp.2.2.2 r (hl r (List.mem_cons_self ..))) hs
    rw [wts_cons, List.length_cons]
    omega
/-- Chains of p from a to b of k rules, the last of which is one of the first j. -/
def PW (p : Pat) (k j a b : Nat) (l : List Rul) : Prop := (∀ r ∈ l, r ∈ ext p) ∧ isWalk l a b ∧ ∃ l0 r, l = l0 ++ [r] ∧ l0.length = k ∧ r ∈ (ext p).take j
/-- Chains of p from a to b of k rules. -/
def XW (p : Pat) (k a b : Nat) (l : List Rul) : Prop := (∀ r ∈ l, r ∈ ext p) ∧ isWalk l a b ∧ l.length = k
/-- x is the best one's. -/
def BestOf (n d : Int) (Q : List Rul → Prop) (x : W3) : Prop := (x.w = NONE ∧ ∀ l, ¬ Q l) ∨ ∃ l, Q l ∧ x = triple n d l ∧ ∀ l', Q l' → wts n d l' ≤ x.w

theorem best_start {p : Pat} {n d : Int} (a b : Nat) : BestOf n d (XW p 0 a b) (if a = b then ⟨0, 0, 0⟩ else ⟨NONE, 0, 0⟩) := by
  by_cases h : a = b
  · subst h
    rw [if_pos rfl]
    refine .inr ⟨[], ⟨by simp, rfl, rfl⟩, rfl, fun l hl => ?_⟩
    obtain rfl := List.length_eq_zero_iff.1 hl.2.2
    exact Int.le_refl _
  · rw [if_neg h]
    refine .inl ⟨rfl, fun l hl => ?_⟩
    obtain rfl := List.length_eq_zero_iff.1 hl.2.2
    exact h hl.2.1
theorem part_start {p : Pat} {n d : Int} (k a b : Nat) (z y : Int) : BestOf n d (PW p k 0 a b) ⟨NONE, z, y⟩ := by
  refine .inl ⟨rfl, fun l hl => ?_⟩
  obtain ⟨_, _, l0, r, _, _, h⟩ := hl
  simp at h
theorem part_end {p : Pat} {n d : Int} {k a b : Nat} {x : W3} (h : BestOf n d (PW p k (ext p).length a b) x) : BestOf n d (XW p (k + 1) a b) x := by
  have key : ∀ l, XW p (k + 1) a b l ↔ PW p k (ext p).length a b l := by
    intro l
    constructor
    · rintro ⟨h1, h2, h3⟩
      have hne : l ≠ [] := by rintro rfl; simp at h3
      refine ⟨h1, h2, l.dropLast, l.getLast hne, (List.dropLast_concat_getLast hne).symm, by rw [List.length_dropLast]; omega, ?_⟩
      rw [List.take_length]
      exact h1 _ (List.getLast_mem hne)
    · rintro ⟨h1, h2, l0, r, rfl, h3, _⟩
      exact ⟨h1, h2, by rw [List.length_append, h3]; rfl⟩
  rcases h with ⟨h1, h2⟩ | ⟨l, h1, h2, h3⟩
  · exact .inl ⟨h1, fun l hl => h2 l ((key l).1 hl)⟩
  · exact .inr ⟨l, (key l).2 h1, h2, fun l' hl' => h3 l' ((key l').1 hl')⟩
theorem walk_last {l : List Rul} {r : Rul} {a b : Nat} (h : isWalk (l ++ [r]) a b) : isWalk l a r.a.toNat ∧ (0 ≤ r.a → r.a = ((r.a.toNat : Nat) : Int)) ∧ b = r.b.toNat := by
  induction l generalizing a with
  | nil =>
    obtain ⟨h1, h2⟩ := h
    refine ⟨?_, fun h => by omega, h2.symm⟩
    show a = r.a.toNat
    omega
  | cons x l ih =>
    obtain ⟨h1, h2⟩ := h
    obtain ⟨i1, i2, i3⟩ := ih h2
    exact ⟨⟨h1, i1⟩, i2, i3⟩
theorem walk_add {l : List Rul} {r : Rul} {a : Nat} (h : isWalk l a r.a.toNat) (hr : 0 ≤ r.a) : isWalk (l ++ [r]) a r.b.toNat := isWalk_append h ⟨by omega, rfl⟩
theorem triple_snoc (n d : Int) (l : List Rul) (r : Rul) : triple n d (l ++ [r]) = ⟨wts n d l + wt r n d, cS l + r.c, dS l + r.d⟩ := by
  unfold triple
  rw [wts_append, cS_append, dS_append]
  simp [wts, cS, dS]
/-- Where no walk of k rules leads to the rule, it adds none. -/
theorem part_skip {p : Pat} {n d : Int} {k j a b : Nat} {r : Rul} {x y : W3} (hj : (ext p)[j]? = some r) (hy : BestOf n d (XW p k a r.a.toNat) y) (hyn : y.w = NONE) (hb : ∀ l, XW p k a r.a.toNat l → wts n d l ≠ NONE)
    (h : BestOf n d (PW p k j a b) x) : BestOf n d (PW p k (j + 1) a b) x := by
  have hno : ∀ l, ¬ XW p k a r.a.toNat l := by
    rcases hy with ⟨_, h2⟩ | ⟨l, h1, h2, _⟩
    · exact h2
    · intro _ _
      refine hb l h1 ?_
      rw [h2] at hyn
      exact hyn
  have key : ∀ l, PW p k (j + 1) a b l ↔ PW p k j a b l := by
    intro l
    obtain ⟨hjl, hje⟩ := List.getElem?_eq_some_iff.1 hj
    constructor
    · rintro ⟨h1, h2, l0, r0, rfl, h3, h4⟩
      refine ⟨h1, h2, l0, r0, rfl, h3, ?_⟩
      rw [List.take_succ_eq_append_getElem hjl, hje] at h4
      rcases List.mem_append.1 h4 with h4 | h4
      · exact h4
      · obtain rfl : r0 = r := by simpa using h4
        exact absurd ⟨fun x hx => h1 x (List.mem_append.2 (.inl hx)), (walk_last h2).1, h3⟩ (hno l0)
    · rintro ⟨h1, h2, l0, r0, rfl, h3, h4⟩
      exact ⟨h1, h2, l0, r0, rfl, h3, (List.take_subset_take_left _ (Nat.le_succ j)) h4⟩
  rcases h with ⟨h1, h2⟩ | ⟨l, h1, h2, h3⟩
  · exact .inl ⟨h1, fun l hl => h2 l ((key l).1 hl)⟩
  · exact .inr ⟨l, (key l).2 h1, h2, fun l' hl' => h3 l' ((key l').1 hl')⟩
/-- .. nor to another unknown. -/
theorem part_other {p : Pat} {n d : Int} {k j a b : Nat} {r : Rul} {x : W3} (hj : (ext p)[j]? = some r) (hb : b ≠ r.b.toNat)
    (h : BestOf n d (PW p k j a b) x) : BestOf n d (PW p k (j + 1) a b) x := by
  have key : ∀ l, PW p k (j + 1) a b l ↔ PW p k j a b l := by
    intro l
    obtain ⟨hjl, hje⟩ := List.getElem?_eq_some_iff.1 hj
    constructor
    · rintro ⟨h1, h2, l0, r0, rfl, h3, h4⟩
      refine ⟨h1, h2, l0, r0, rfl, h3, ?_⟩
      rw [List.take_succ_eq_append_getElem hjl, hje] at h4
      rcases List.mem_append.1 h4 with h4 | h4
      · exact h4
      · obtain rfl : r0 = r := by simpa using h4
        exact absurd (walk_last h2).2.2 hb
    · rintro ⟨h1, h2, l0, r0, rfl, h3, h4⟩
      exact ⟨h1, h2, l0, r0, rfl, h3, (List.take_subset_take_left _ (Nat.le_succ j)) h4⟩
  rcases h with ⟨h1, h2⟩ | ⟨l, h1, h2, h3⟩
  · exact .inl ⟨h1, fun l hl => h2 l ((key l).1 hl)⟩
  · exact .inr ⟨l, (key l).2 h1, h2, fun l' hl' => h3 l' ((key l').1 hl')⟩
/-- What the rule adds. -/
theorem part_take {p : Pat} {n d : Int} {k j a : Nat} {r : Rul} {x y : W3} (hj : (ext p)[j]? = some r) (hr : 0 ≤ r.a) (hy : BestOf n d (XW p k a r.a.toNat) y) (hyn : y.w ≠ NONE) (hlow : NONE < y.w + wt r n d)
    (h : BestOf n d (PW p k j a r.b.toNat) x) : BestOf n d (PW p k (j + 1) a r.b.toNat) (if x.w < y.w + wt r n d then ⟨y.w + wt r n d, y.c + r.c, y.d + r.d⟩ else x) := by
  obtain ⟨l, g1, g2, g3⟩ : ∃ l, XW p k a r.a.toNat l ∧ y = triple n d l ∧ ∀ l', XW p k a r.a.toNat l' → wts n d l' ≤ y.w := hy.resolve_left (fun hh => hyn hh.1)
  obtain ⟨hjl, hje⟩ := List.getElem?_eq_some_iff.1 hj
  have htk : (ext p).take (j + 1) = (ext p).take j ++ [r] := by rw [List.take_succ_eq_append_getElem hjl, hje]
  have hnew : PW p k (j + 1) a r.b.toNat (l ++ [r]) := by
    refine ⟨fun x hx => ?_, walk_add g1.2.1 hr, l, r, rfl, g1.2.2, by rw [htk]; simp⟩
    rcases List.mem_append.1 hx with hx | hx
    · exact g1.1 x hx
    · obtain rfl : x = r := by simpa using hx
      exact List.mem_of_getElem? hj
  have hold : ∀ l, PW p k j a r.b.toNat l → PW p k (j + 1) a r.b.toNat l := fun l ⟨h1, h2, l0, r0, h5, h3, h4⟩ => ⟨h1, h2, l0, r0, h5, h3, (List.take_subset_take_left _ (Nat.le_succ j)) h4⟩
  have hcase : ∀ l', PW p k (j + 1) a r.b.toNat l' → PW p k j a r.b.toNat l' ∨ wts n d l' ≤ y.w + wt r n d := by
    rintro l' ⟨h1, h2, l0, r0, rfl, h3, h4⟩
    rw [htk] at h4
    rcases List.mem_append.1 h4 with h4 | h4
    · exact .inl ⟨h1, h2, l0, r0, rfl, h3, h4⟩
    · obtain rfl : r0 = r := by simpa using h4
      have := g3 l0 ⟨fun x hx => h1 x (List.mem_append.2 (.inl hx)), (walk_last h2).1, h3⟩
      right
      rw [wts_append]
      have e1 : wts n d [r0] = wt r0 n d := by simp [wts]
      omega
  have ht : triple n d (l ++ [r]) = ⟨y.w + wt r n d, y.c + r.c, y.d + r.d⟩ := by rw [triple_snoc, g2]; rfl
  split
  · rename_i hlt
    refine .inr ⟨l ++ [r], hnew, ht.symm, fun l' hl' => ?_⟩
    show wts n d l' ≤ y.w + wt r n d
    rcases hcase l' hl' with hh | hh
    · rcases h with ⟨_, h2⟩ | ⟨l2, _, _, h3⟩
      · exact absurd hh (h2 l')
      · have := h3 l' hh; omega
    · exact hh
  · rename_i hge
    rcases h with ⟨h1, h2⟩ | ⟨l2, h1, h2, h3⟩
    · omega
    · refine .inr ⟨l2, hold l2 h1, h2, fun l' hl' => ?_⟩
      rcases hcase l' hl' with hh | hh
      · exact h3 l' hh
      · omega

/-- Where no loop of at most N rules has a weight above 0, none has. -/
theorem nopos_of_short {p : Pat} {n d : Int} (hp : PValid p) (h : ∀ l a, (∀ r ∈ l, r ∈ ext p) → isWalk l a a → l.length ≤ p.n.toNat → wts n d l ≤ 0) : NoPos p n d := by
  have key : ∀ (m : Nat) (l : List Rul) (a : Nat), l.length = m → (∀ r ∈ l, r ∈ ext p) → isWalk l a a → wts n d l ≤ 0 := by
    intro m
    induction m using Nat.strongRecOn with
    | _ m ih =>
      intro l a hm hl hw
      by_cases hle : l.length ≤ p.n.toNat
      · exact h l a hl hw hle
      · have hne : l ≠ [] := by rintro rfl; simp at hle
        have ha := (walk_end hp l a a hne hl hw).1
        obtain ⟨i, j, hij, hjN, he⟩ := pigeon p.n.toNat (fun i => vert l a i) (fun i _ => vert_lt hp l a i hl ha)
        obtain ⟨w1, w2⟩ := walk_cut l a a j hw (by omega)
        have hlen : (l.take j).length = j := by rw [List.length_take]; omega
        obtain ⟨w3, w4⟩ := walk_cut (l.take j) a (vert l a j) i w1 (by omega)
        rw [vert_take l a i j (by omega), he] at w3 w4
        have hnew := isWalk_append w3 w2
        have hl1 : ((l.take j).drop i).length < m := by rw [List.length_drop, hlen]; omega
        have hl2 : ((l.take j).take i ++ l.drop j).length < m := by
          rw [List.length_append, List.length_take, hlen, List.length_drop]; omega
        have hmid := ih _ hl1 ((l.take j).drop i) (vert l a j) rfl (fun r hr => hl r (List.mem_of_mem_take (List.mem_of_mem_drop hr))) w4
        have hout := ih _ hl2 _ a rfl (fun r hr => (List.mem_append.1 hr).elim (fun h => hl r (List.mem_of_mem_take (List.mem_of_mem_take h))) (fun h => hl r (List.mem_of_mem_drop h))) hnew
        have e1 : wts n d l = wts n d (l.take j) + wts n d (l.drop j) := by rw [← wts_append, List.take_append_drop]
        have e2 : wts n d (l.take j) = wts n d ((l.take j).take i) + wts n d ((l.take j).drop i) := by rw [← wts_append, List.take_append_drop]
        rw [wts_append] at hout
        omega
  exact fun l a hl hw => key l.length l a rfl hl hw

end Go.Proofs.Ytmknengmjepdaaa
