/- Bellman and Ford, plainly: the passes of grade.solve, what they keep, and the loop that is left. -/
import Derived.Test.YtmknengmjepdaaaIa
import Derived.Test.YtmknengmjepdaaaMc
namespace Go.Proofs.Ytmknengmjepdaaa
open Go.RowKit

/-- The weight of a list of rules, times d. -/
def wts (n d : Int) (l : List Rul) : Int := (l.map fun r => wt r n d).sum
/-- A chain of rules from a to b. -/
def isWalk : List Rul → Nat → Nat → Prop
  | [], a, b => a = b
  | r :: l, a, b => r.a = (a : Int) ∧ isWalk l r.b.toNat b
theorem wts_nil (n d : Int) : wts n d [] = 0 := rfl
theorem wts_cons (n d : Int) (r : Rul) (l : List Rul) : wts n d (r :: l) = wt r n d + wts n d l := by simp [wts]
theorem wts_append (n d : Int) (l m : List Rul) : wts n d (l ++ m) = wts n d l + wts n d m := by simp [wts]
theorem isWalk_append {l m : List Rul} {a b c : Nat} (h : isWalk l a b) (k : isWalk m b c) : isWalk (l ++ m) a c := by
  induction l generalizing a with
  | nil => cases h; exact k
  | cons r l ih => exact ⟨h.1, ih h.2⟩
/-- No loop of a pattern's rules has a weight above 0. -/
def NoPos (p : Pat) (n d : Int) : Prop := ∀ (l : List Rul) (a : Nat), (∀ r ∈ l, r ∈ ext p) → isWalk l a a → wts n d l ≤ 0

structure BSt where
  x : Nat → Int
  by_ : Nat → Int
  last : Int
def updF (f : Nat → Int) (a : Nat) (z : Int) : Nat → Int := fun v => if v = a then z else f v
theorem updF_same (f : Nat → Int) (a : Nat) (z : Int) : updF f a z a = z := by simp [updF]
theorem updF_other (f : Nat → Int) {a v : Nat} (z : Int) (h : v ≠ a) : updF f a z v = f v := by simp [updF, h]
/-- What a rule offers. -/
def offer (n d : Int) (st : BSt) (r : Rul) : Int := wrap64 (st.x r.b.toNat + wt r n d)
def relax (n d : Int) (st : BSt) (e : Int × Rul) : BSt :=
  if st.x e.2.a.toNat < offer n d st e.2 then ⟨updF st.x e.2.a.toNat (offer n d st e.2), updF st.by_ e.2.a.toNat e.1, e.2.a⟩ else st
def pass (p : Pat) (n d : Int) (st : BSt) : BSt := (allL p).foldl (relax n d) ⟨st.x, st.by_, -1⟩
def bf0 : BSt := ⟨fun _ => 0, fun _ => 0, -1⟩
def bf (p : Pat) (n d : Int) : Nat → BSt
  | 0 => bf0
  | k + 1 => pass p n d (bf p n d k)

/-- The rule with a number. -/
def numRule (p : Pat) (k : Int) : Rul := if k < 0 then ⟨-k, 0, 0, 0⟩ else p.rules.getD k.toNat ⟨0, 0, 0, 0⟩
theorem allL_cases {p : Pat} {e : Int × Rul} (h : e ∈ allL p) : (∃ k : Nat, e.1 = k ∧ p.rules[k]? = some e.2) ∨ (∃ i : Nat, i < p.n.toNat - 1 ∧ e.1 = -((i + 1 : Nat) : Int) ∧ e.2 = ground (i + 1)) := by
  obtain ⟨j, hj⟩ := List.getElem?_of_mem h
  have hlen := (List.getElem?_eq_some_iff.1 hj).1
  rw [allL_len] at hlen
  rcases Nat.lt_or_ge j p.rules.length with hlt | hge
  · left
    obtain ⟨r, hr⟩ := ex_rule (l := p.rules) hlt
    rw [allL_left hr] at hj
    cases hj
    exact ⟨j, rfl, hr⟩
  · right
    obtain ⟨i, rfl⟩ : ∃ i, j = p.rules.length + i := ⟨j - p.rules.length, by omega⟩
    rw [allL_right (by omega)] at hj
    cases hj
    exact ⟨i, by omega, rfl, rfl⟩
theorem numRule_of {p : Pat} {e : Int × Rul} (h : e ∈ allL p) : numRule p e.1 = e.2 := by
  rcases allL_cases h with ⟨k, h1, h2⟩ | ⟨i, _, h1, h2⟩
  · rw [h1]
    unfold numRule
    rw [if_neg (by omega), Int.toNat_natCast, List.getD_eq_getElem?_getD, h2]; rfl
  · rw [h1, h2]
    unfold numRule ground
    rw [if_pos (by omega)]
    congr 1 <;> omega
theorem num_bd {p : Pat} {e : Int × Rul} (h : e ∈ allL p) : -(p.n.toNat : Int) < e.1 + 1 ∧ e.1 < p.rules.length := by
  rcases allL_cases h with ⟨k, h1, h2⟩ | ⟨i, hi, h1, h2⟩
  · have := (List.getElem?_eq_some_iff.1 h2).1
    omega
  · omega
theorem allL_ext {p : Pat} {e : Int × Rul} (h : e ∈ allL p) : e.2 ∈ ext p := (List.of_mem_zip h).2
theorem ext_allL {p : Pat} {r : Rul} (h : r ∈ ext p) : ∃ k, (k, r) ∈ allL p := by
  unfold ext at h
  rcases List.mem_append.1 h with h | h
  · obtain ⟨k, hk⟩ := List.getElem?_of_mem h
    exact ⟨_, List.mem_of_getElem? (allL_left hk)⟩
  · obtain ⟨i, hi, rfl⟩ := List.mem_map.1 h
    exact ⟨_, List.mem_of_getElem? (allL_right (List.mem_range.1 hi))⟩
theorem allL_RV {p : Pat} (hp : PValid p) {e : Int × Rul} (h : e ∈ allL p) : RV p.n e.2 := ext_rv hp.1 hp.2.2.2 e.2 (allL_ext h)

/-- What the passes keep: T, the time of an unknown's last gain; c, the pass of it; t, the time; s, the number of rules that have been asked. -/
structure BInv (p : Pat) (n d : Int) (k done s : Nat) (st : BSt) (T c : Nat → Nat) (t : Nat) : Prop where
  bd : ∀ v, 0 ≤ st.x v ∧ st.x v ≤ s * 50000000
  wk : ∀ v, v < p.n.toNat → ∃ l u, (∀ r ∈ l, r ∈ ext p) ∧ isWalk l v u ∧ u < p.n.toNat ∧ wts n d l = st.x v
  set : ∀ v, c v = 0 ∨ ∃ e ∈ allL p, e.1 = st.by_ v ∧ e.2.a = (v : Int) ∧ st.x v ≤ st.x e.2.b.toNat + wt e.2 n d ∧ (T v ≤ T e.2.b.toNat → st.x v < st.x e.2.b.toNat + wt e.2 n d) ∧ c v ≤ c e.2.b.toNat + 1
  tm : ∀ v, T v ≤ t
  cm : ∀ v, c v ≤ k
  old : ∀ e ∈ allL p, c e.2.b.toNat + 2 ≤ k → st.x e.2.b.toNat + wt e.2 n d ≤ st.x e.2.a.toNat
  new : ∀ e ∈ (allL p).take done, c e.2.b.toNat + 1 ≤ k → st.x e.2.b.toNat + wt e.2 n d ≤ st.x e.2.a.toNat
  lst : (st.last = -1 ∧ ∀ v, c v < k ∨ k = 0) ∨ ∃ v : Nat, v < p.n.toNat ∧ st.last = v ∧ c v = k

theorem binv_init (p : Pat) (n d : Int) : BInv p n d 0 (allL p).length 0 bf0 (fun _ => 0) (fun _ => 0) 0 where
  bd := fun v => ⟨Int.le_refl _, by simp [bf0]⟩
  wk := fun v hv => ⟨[], v, by simp, rfl, hv, rfl⟩
  set := fun v => .inl rfl
  tm := fun v => Nat.le_refl _
  cm := fun v => Nat.le_refl _
  old := fun e _ h => by omega
  new := fun e _ h => by omega
  lst := .inl ⟨rfl, fun v => .inr rfl⟩

theorem binv_start {p : Pat} {n d : Int} {k s : Nat} {st : BSt} {T c : Nat → Nat} {t : Nat} (h : BInv p n d k (allL p).length s st T c t) :
    BInv p n d (k + 1) 0 s ⟨st.x, st.by_, -1⟩ T c t where
  bd := h.bd
  wk := h.wk
  set := h.set
  tm := h.tm
  cm := fun v => Nat.le_succ_of_le (h.cm v)
  old := fun e he hc => h.new e (by rw [List.take_length]; exact he) (by omega)
  new := fun e he => by simp at he
  lst := .inl ⟨rfl, fun v => .inl (by have := h.cm v; omega)⟩

theorem wrap64_small {z : Int} (h1 : -9223372036854775808 ≤ z) (h2 : z ≤ 9223372036854775807) : wrap64 z = z := by unfold wrap64; omega

theorem binv_step {p : Pat} {n d : Int} (hp : PValid p) (hs : FSize n d) {k done s : Nat} (hsm : s ≤ 100000) {st : BSt} {T c : Nat → Nat} {t : Nat} (h : BInv p n d k done s st T c t) {e : Int × Rul} (he : (allL p)[done]? = some e) :
    ∃ T' c' t', BInv p n d k (done + 1) (s + 1) (relax n d st e) T' c' t' := by
  have hmem : e ∈ allL p := List.mem_of_getElem? he
  have hrv := allL_RV hp hmem
  have hw := wt_le hrv hs
  have hxb := h.bd e.2.b.toNat
  have hoff : offer n d st e.2 = st.x e.2.b.toNat + wt e.2 n d := wrap64_small (by omega) (by omega)
  obtain ⟨hdone, hget⟩ := List.getElem?_eq_some_iff.1 he
  have htake : (allL p).take (done + 1) = (allL p).take done ++ [e] := by rw [List.take_succ_eq_append_getElem hdone, hget]
  unfold relax
  rw [hoff]
  by_cases hlt : st.x e.2.a.toNat < st.x e.2.b.toNat + wt e.2 n d
  · rw [if_pos hlt]
    obtain ⟨a, ha⟩ : ∃ a : Nat, e.2.a = a := ⟨e.2.a.toNat, by have := hrv.1; omega⟩
    have haN : a < p.n.toNat := by have := hrv.2.1; omega
    have hbN : e.2.b.toNat < p.n.toNat := by have := hrv.2.2.1; have := hrv.2.2.2.1; omega
    rw [ha, Int.toNat_natCast] at hlt ⊢
    obtain ⟨y, hy⟩ : ∃ y, st.x e.2.b.toNat + wt e.2 n d = y := ⟨_, rfl⟩
    rw [hy] at hlt ⊢
    have hxa := h.bd a
    have hcb : k ≤ c e.2.b.toNat + 1 := by
      rcases Nat.lt_or_ge (c e.2.b.toNat + 1) k with hh | hh
      · have := h.old e hmem (by omega)
        rw [ha, Int.toNat_natCast] at this
        omega
      · exact hh
    have hmono : ∀ v, st.x v ≤ updF st.x a y v := fun v => by
      unfold updF; split
      · rename_i hv; subst hv; omega
      · exact Int.le_refl _
    refine ⟨fun v => if v = a then t + 1 else T v, fun v => if v = a then k else c v, t + 1, ?_⟩
    constructor
    · intro v
      dsimp only
      unfold updF
      have := h.bd v
      split
      · omega
      · omega
    · intro v hv
      dsimp only
      by_cases hva : v = a
      · subst hva
        obtain ⟨l, u, h1, h2, h3, h4⟩ := h.wk _ hbN
        refine ⟨e.2 :: l, u, fun r hr => ?_, ⟨ha, h2⟩, h3, ?_⟩
        · rcases List.mem_cons.1 hr with rfl | hr
          · exact allL_ext hmem
          · exact h1 r hr
        · rw [wts_cons, h4, updF_same]; omega
      · obtain ⟨l, u, h1, h2, h3, h4⟩ := h.wk v hv
        exact ⟨l, u, h1, h2, h3, by rw [updF_other _ _ hva]; exact h4⟩
    · intro v
      dsimp only
      by_cases hva : v = a
      · subst hva
        right
        refine ⟨e, hmem, by rw [updF_same], ha, ?_, ?_, ?_⟩
        · rw [updF_same]
          have := hmono e.2.b.toNat
          omega
        · rw [updF_same, if_pos rfl]
          intro hT
          by_cases hbv : e.2.b.toNat = v
          · rw [hbv, updF_same]
            rw [hbv] at hy
            omega
          · rw [if_neg hbv] at hT
            have := h.tm e.2.b.toNat
            omega
        · rw [if_pos rfl]
          split <;> omega
      · rw [if_neg hva, if_neg hva, updF_other _ _ hva, updF_other _ _ hva]
        rcases h.set v with h0 | ⟨e', h1, h2, h3, h4, h5, h6⟩
        · exact .inl h0
        · right
          refine ⟨e', h1, h2, h3, ?_, ?_, ?_⟩
          · have := hmono e'.2.b.toNat
            omega
          · by_cases hb : e'.2.b.toNat = a
            · rw [if_pos hb, hb, updF_same]
              intro _
              rw [hb] at h4
              omega
            · rw [if_neg hb, updF_other _ _ hb]
              exact h5
          · split
            · rename_i hb
              rw [hb] at h6
              have := h.cm a
              omega
            · exact h6
    · intro v
      have := h.tm v
      show (if v = a then t + 1 else T v) ≤ t + 1
      split <;> omega
    · intro v
      have := h.cm v
      show (if v = a then k else c v) ≤ k
      split <;> omega
    · intro e' he' hc
      dsimp only at hc ⊢
      by_cases hb : e'.2.b.toNat = a
      · rw [if_pos hb] at hc; omega
      · rw [if_neg hb] at hc
        rw [updF_other _ _ hb]
        have := h.old e' he' hc
        have := hmono e'.2.a.toNat
        omega
    · intro e' he' hc
      dsimp only at hc ⊢
      rw [htake] at he'
      by_cases hb : e'.2.b.toNat = a
      · rw [if_pos hb] at hc; omega
      · rw [if_neg hb] at hc
        rw [updF_other _ _ hb]
        rcases List.mem_append.1 he' with he' | he'
        · have := h.new e' he' hc
          have := hmono e'.2.a.toNat
          omega
        · have : e' = e := by simpa using he'
          subst this
          rw [ha, Int.toNat_natCast, updF_same]
          omega
    · exact .inr ⟨a, haN, rfl, by simp⟩
  · rw [if_neg hlt]
    refine ⟨T, c, t, ?_⟩
    constructor
    · intro v
      have := h.bd v
      omega
    · exact h.wk
    · exact h.set
    · exact h.tm
    · exact h.cm
    · exact h.old
    · intro e' he' hc
      rw [htake] at he'
      rcases List.mem_append.1 he' with he' | he'
      · exact h.new e' he' hc
      · have : e' = e := by simpa using he'
        subst this
        omega
    · exact h.lst

end Go.Proofs.Ytmknengmjepdaaa
