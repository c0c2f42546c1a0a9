/- Several of my texts in one: Ta, Tb, Tc, Ib, Id, Ie. -/
import Derived.Test.YtmknengmjepdaaaIa
import Derived.Test.YtmknengmjepdaaaMx
import Derived.Test.YtmknengmjepdaaaRx
/- Bellman and Ford, plainly: the passes of grade.solve, what they keep, and the loop that is left. -/
namespace Go.Proofs.Ytmknengmjepdaaa
open Go.RowKit

/-- The weight of a list of rules, times d. -/
def wts (n d : Int) (l : List Rul) : Int := (l.map fun r => wt r n d).sum
/-- A chain of rules from a to b. -/
def isWalk : List Rul → Nat → Nat → Prop
  | [], a, b => a = b
  | r :: l, a, b => r.a = (a : Int) ∧ isWalk l r.b.toNat b
theorem wts_nil (n d : Int) : wts n d [] = 0 := rfl
theorem wts_cons (n d : Int) (r : Rul) (l : List Rul) : wts n d (r :: l) = wt r n d + wts n d l := by simp [wts]
theorem wts_append (n d : Int) (l m : List Rul) : wts n d (l ++ m) = wts n d l + wts n d m := by simp [wts]
theorem isWalk_append {l m : List Rul} {a b c : Nat} (h : isWalk l a b) (k : isWalk m b c) : isWalk (l ++ m) a c := by
  induction l generalizing a with
  | nil => cases h; exact k
  | cons r l ih => exact ⟨h.1, ih h.2⟩
/-- No loop of a pattern's rules has a weight above 0. -/
def NoPos (p : Pat) (n d : Int) : Prop := ∀ (l : List Rul) (a : Nat), (∀ r ∈ l, r ∈ ext p) → isWalk l a a → wts n d l ≤ 0

structure BSt where
  x : Nat → Int
  by_ : Nat → Int
  last : Int
def updF (f : Nat → Int) (a : Nat) (z : Int) : Nat → Int := fun v => if v = a then z else f v
theorem updF_same (f : Nat → Int) (a : Nat) (z : Int) : updF f a z a = z := by simp [updF]
theorem updF_other (f : Nat → Int) {a v : Nat} (z : Int) (h : v ≠ a) : updF f a z v = f v := by simp [updF, h]
/-- What a rule offers. -/
def offer (n d : Int) (st : BSt) (r : Rul) : Int := wrap64 (st.x r.b.toNat + wt r n d)
def relax (n d : Int) (st : BSt) (e : Int × Rul) : BSt :=
  if st.x e.2.a.toNat < offer n d st e.2 then ⟨updF st.x e.2.a.toNat (offer n d st e.2), updF st.by_ e.2.a.toNat e.1, e.2.a⟩ else st
def pass (p : Pat) (n d : Int) (st : BSt) : BSt := (allL p).foldl (relax n d) ⟨st.x, st.by_, -1⟩
def bf0 : BSt := ⟨fun _ => 0, fun _ => 0, -1⟩
def bf (p : Pat) (n d : Int) : Nat → BSt
  | 0 => bf0
  | k + 1 => pass p n d (bf p n d k)

/-- The rule with a number. -/
def numRule (p : Pat) (k : Int) : Rul := if k < 0 then ⟨-k, 0, 0, 0⟩ else p.rules.getD k.toNat ⟨0, 0, 0, 0⟩
theorem allL_cases {p : Pat} {e : Int × Rul} (h : e ∈ allL p) : (∃ k : Nat, e.1 = k ∧ p.rules[k]? = some e.2) ∨ (∃ i : Nat, i < p.n.toNat - 1 ∧ e.1 = -((i + 1 : Nat) : Int) ∧ e.2 = ground (i + 1)) := by
  obtain ⟨j, hj⟩ := List.getElem?_of_mem h
  have hlen := (List.getElem?_eq_some_iff.1 hj).1
  rw [allL_len] at hlen
  rcases Nat.lt_or_ge j p.rules.length with hlt | hge
  · left
    obtain ⟨r, hr⟩ := ex_rule (l := p.rules) hlt
    rw [allL_left hr] at hj
    cases hj
    exact ⟨j, rfl, hr⟩
  · right
    obtain ⟨i, rfl⟩ : ∃ i, j = p.rules.length + i := ⟨j - p.rules.length, by omega⟩
    rw [allL_right (by omega)] at hj
    cases hj
    exact ⟨i, by omega, rfl, rfl⟩
theorem numRule_of {p : Pat} {e : Int × Rul} (h : e ∈ allL p) : numRule p e.1 = e.2 := by
  rcases allL_cases h with ⟨k, h1, h2⟩ | ⟨i, _, h1, h2⟩
  · rw [h1]
    unfold numRule
    rw [if_neg (by omega), Int.toNat_natCast, List.getD_eq_getElem?_getD, h2]; rfl
  · rw [h1, h2]
    unfold numRule ground
    rw [if_pos (by omega)]
    congr 1 <;> omega
theorem num_bd {p : Pat} {e : Int × Rul} (h : e ∈ allL p) : -(p.n.toNat : Int) < e.1 + 1 ∧ e.1 < p.rules.length := by
  rcases allL_cases h with ⟨k, h1, h2⟩ | ⟨i, hi, h1, h2⟩
  · have := (List.getElem?_eq_some_iff.1 h2).1
    omega
  · omega
theorem allL_ext {p : Pat} {e : Int × Rul} (h : e ∈ allL p) : e.2 ∈ ext p := (List.of_mem_zip h).2
theorem ext_allL {p : Pat} {r : Rul} (h : r ∈ ext p) : ∃ k, (k, r) ∈ allL p := by
  unfold ext at h
  rcases List.mem_append.1 h with h | h
  · obtain ⟨k, hk⟩ := List.getElem?_of_mem h
    exact ⟨_, List.mem_of_getElem? (allL_left hk)⟩
  · obtain ⟨i, hi, rfl⟩ := List.mem_map.1 h
    exact ⟨_, List.mem_of_getElem? (allL_right (List.mem_range.1 hi))⟩
theorem allL_RV {p : Pat} (hp : PValid p) {e : Int × Rul} (h : e ∈ allL p) : RV p.n e.2 := ext_rv hp.1 hp.2.2.2 e.2 (allL_ext h)

/-- What the passes keep: T, the time of an unknown's last gain; c, the pass of it; t, the time; s, the number of rules that have been asked. -/
structure BInv (p : Pat) (n d : Int) (k done s : Nat) (st : BSt) (T c : Nat → Nat) (t : Nat) : Prop where
  bd : ∀ v, 0 ≤ st.x v ∧ st.x v ≤ s * 50000000
  wk : ∀ v, v < p.n.toNat → ∃ l u, (∀ r ∈ l, r ∈ ext p) ∧ isWalk l v u ∧ u < p.n.toNat ∧ wts n d l = st.x v
  set : ∀ v, c v = 0 ∨ ∃ e ∈ allL p, e.1 = st.by_ v ∧ e.2.a = (v : Int) ∧ st.x v ≤ st.x e.2.b.toNat + wt e.2 n d ∧ (T v ≤ T e.2.b.toNat → st.x v < st.x e.2.b.toNat + wt e.2 n d) ∧ c v ≤ c e.2.b.toNat + 1
  tm : ∀ v, T v ≤ t
  cm : ∀ v, c v ≤ k
  old : ∀ e ∈ allL p, c e.2.b.toNat + 2 ≤ k → st.x e.2.b.toNat + wt e.2 n d ≤ st.x e.2.a.toNat
  new : ∀ e ∈ (allL p).take done, c e.2.b.toNat + 1 ≤ k → st.x e.2.b.toNat + wt e.2 n d ≤ st.x e.2.a.toNat
  lst : (st.last = -1 ∧ ∀ v, c v < k ∨ k = 0) ∨ ∃ v : Nat, v < p.n.toNat ∧ st.last = v ∧ c v = k

theorem binv_init (p : Pat) (n d : Int) : BInv p n d 0 (allL p).length 0 bf0 (fun _ => 0) (fun _ => 0) 0 where
  bd := fun v => ⟨Int.le_refl _, by simp [bf0]⟩
  wk := fun v hv => ⟨[], v, by simp, rfl, hv, rfl⟩
  set := fun v => .inl rfl
  tm := fun v => Nat.le_refl _
  cm := fun v => Nat.le_refl _
  old := fun e _ h => by omega
  new := fun e _ h => by omega
  lst := .inl ⟨rfl, fun v => .inr rfl⟩

theorem binv_start {p : Pat} {n d : Int} {k s : Nat} {st : BSt} {T c : Nat → Nat} {t : Nat} (h : BInv p n d k (allL p).length s st T c t) :
    BInv p n d (k + 1) 0 s ⟨st.x, st.by_, -1⟩ T c t where
  bd := h.bd
  wk := h.wk
  set := h.set
  tm := h.tm
  cm := fun v => Nat.le_succ_of_le (h.cm v)
  old := fun e he hc => h.new e (by rw [List.take_length]; exact he) (by omega)
  new := fun e he => by simp at he
  lst := .inl ⟨rfl, fun v => .inl (by have := h.cm v; omega)⟩

theorem wrap64_small {z : Int} (h1 : -9223372036854775808 ≤ z) (h2 : z ≤ 9223372036854775807) : wrap64 z = z := by unfold wrap64; omega

theorem binv_step {p : Pat} {n d : Int} (hp : PValid p) (hs : FSize n d) {k done s : Nat} (hsm : s ≤ 100000) {st : BSt} {T c : Nat → Nat} {t : Nat} (h : BInv p n d k done s st T c t) {e : Int × Rul} (he : (allL p)[done]? = some e) :
    ∃ T' c' t', BInv p n d k (done + 1) (s + 1) (relax n d st e) T' c' t' := by
  have hmem : e ∈ allL p := List.mem_of_getElem? he
  have hrv := allL_RV hp hmem
  have hw := wt_le hrv hs
  have hxb := h.bd e.2.b.toNat
  have hoff : offer n d st e.2 = st.x e.2.b.toNat + wt e.2 n d := wrap64_small (by omega) (by omega)
  obtain ⟨hdone, hget⟩ := List.getElem?_eq_some_iff.1 he
  have htake : (allL p).take (done + 1) = (allL p).take done ++ [e] := by rw [List.take_succ_eq_append_getElem hdone, hget]
  unfold relax
  rw [hoff]
  by_cases hlt : st.x e.2.a.toNat < st.x e.2.b.toNat + wt e.2 n d
  · rw [if_pos hlt]
    obtain ⟨a, ha⟩ : ∃ a : Nat, e.2.a = a := ⟨e.2.a.toNat, by have := hrv.1; omega⟩
    have haN : a < p.n.toNat := by have := hrv.2.1; omega
    have hbN : e.2.b.toNat < p.n.toNat := by have := hrv.2.2.1; have := hrv.2.2.2.1; omega
    rw [ha, Int.toNat_natCast] at hlt ⊢
    obtain ⟨y, hy⟩ : ∃ y, st.x e.2.b.toNat + wt e.2 n d = y := ⟨_, rfl⟩
    rw [hy] at hlt ⊢
    have hxa := h.bd a
    have hcb : k ≤ c e.2.b.toNat + 1 := by
      rcases Nat.lt_or_ge (c e.2.b.toNat + 1) k with hh | hh
      · have := h.old e hmem (by omega)
        rw [ha, Int.toNat_natCast] at this
        omega
      · exact hh
    have hmono : ∀ v, st.x v ≤ updF st.x a y v := fun v => by
      unfold updF; split
      · rename_i hv; subst hv; omega
      · exact Int.le_refl _
    refine ⟨fun v => if v = a then t + 1 else T v, fun v => if v = a then k else c v, t + 1, ?_⟩
    constructor
    · intro v
      dsimp only
      unfold updF
      have := h.bd v
      split
      · omega
      · omega
    · intro v hv
      dsimp only
      by_cases hva : v = a
      · subst hva
        obtain ⟨l, u, h1, h2, h3, h4⟩ := h.wk _ hbN
        refine ⟨e.2 :: l, u, fun r hr => ?_, ⟨ha, h2⟩, h3, ?_⟩
        · rcases List.mem_cons.1 hr with rfl | hr
          · exact allL_ext hmem
          · exact h1 r hr
        · rw [wts_cons, h4, updF_same]; omega
      · obtain ⟨l, u, h1, h2, h3, h4⟩ := h.wk v hv
        exact ⟨l, u, h1, h2, h3, by rw [updF_other _ _ hva]; exact h4⟩
    · intro v
      dsimp only
      by_cases hva : v = a
      · subst hva
        right
        refine ⟨e, hmem, by rw [updF_same], ha, ?_, ?_, ?_⟩
        · rw [updF_same]
          have := hmono e.2.b.toNat
          omega
        · rw [updF_same, if_pos rfl]
          intro hT
          by_cases hbv : e.2.b.toNat = v
          · rw [hbv, updF_same]
            rw [hbv] at hy
            omega
          · rw [if_neg hbv] at hT
            have := h.tm e.2.b.toNat
            omega
        · rw [if_pos rfl]
          split <;> omega
      · rw [if_neg hva, if_neg hva, updF_other _ _ hva, updF_other _ _ hva]
        rcases h.set v with h0 | ⟨e', h1, h2, h3, h4, h5, h6⟩
        · exact .inl h0
        · right
          refine ⟨e', h1, h2, h3, ?_, ?_, ?_⟩
          · have := hmono e'.2.b.toNat
            omega
          · by_cases hb : e'.2.b.toNat = a
            · rw [if_pos hb, hb, updF_same]
              intro _
              rw [hb] at h4
              omega
            · rw [if_neg hb, updF_other _ _ hb]
              exact h5
          · split
            · rename_i hb
              rw [hb] at h6
              have := h.cm a
              omega
            · exact h6
    · intro v
      have := h.tm v
      show (if v = a then t + 1 else T v) ≤ t + 1
      split <;> omega
    · intro v
      have := h.cm v
      show (if v = a then k else c v) ≤ k
      split <;> omega
    · intro e' he' hc
      dsimp only at hc ⊢
      by_cases hb : e'.2.b.toNat = a
      · rw [if_pos hb] at hc; omega
      · rw [if_neg hb] at hc
        rw [updF_other _ _ hb]
        have := h.old e' he' hc
        have := hmono e'.2.a.toNat
        omega
    · intro e' he' hc
      dsimp only at hc ⊢
      rw [htake] at he'
      by_cases hb : e'.2.b.toNat = a
      · rw [if_pos hb] at hc; omega
      · rw [if_neg hb] at hc
        rw [updF_other _ _ hb]
        rcases List.mem_append.1 he' with he' | he'
        · have := h.new e' he' hc
          have := hmono e'.2.a.toNat
          omega
        · have : e' = e := by simpa using he'
          subst this
          rw [ha, Int.toNat_natCast, updF_same]
          omega
    · exact .inr ⟨a, haN, rfl, by simp⟩
  · rw [if_neg hlt]
    refine ⟨T, c, t, ?_⟩
    constructor
    · intro v
      have := h.bd v
      omega
    · exact h.wk
    · exact h.set
    · exact h.tm
    · exact h.cm
    · exact h.old
    · intro e' he' hc
      rw [htake] at he'
      rcases List.mem_append.1 he' with he' | he'
      · exact h.new e' he' hc
      · have : e' = e := by simpa using he'
        subst this
        omega
    · exact h.lst

end Go.Proofs.Ytmknengmjepdaaa

/- Bellman and Ford, plainly: what a pass without gain means; the loop that N + 1 passes with gain leave. -/
namespace Go.Proofs.Ytmknengmjepdaaa
open Go.RowKit

theorem binv_take {p : Pat} {n d : Int} (hp : PValid p) (hs : FSize n d) {k s : Nat} {st : BSt} {T c : Nat → Nat} {t : Nat} (h : BInv p n d k 0 s st T c t) (hsm : s + (allL p).length ≤ 100000) :
    ∀ j, j ≤ (allL p).length → ∃ T' c' t', BInv p n d k j (s + j) (((allL p).take j).foldl (relax n d) st) T' c' t' := by
  intro j
  induction j with
  | zero => intro _; exact ⟨T, c, t, by simpa using h⟩
  | succ j ih =>
    intro hj
    obtain ⟨T', c', t', h'⟩ := ih (by omega)
    obtain ⟨T2, c2, t2, h2⟩ := binv_step hp hs (by omega) h' (List.getElem?_eq_getElem (by omega))
    refine ⟨T2, c2, t2, ?_⟩
    rw [List.take_succ_eq_append_getElem (by omega), List.foldl_append]
    exact h2
theorem binv_pass {p : Pat} {n d : Int} (hp : PValid p) (hs : FSize n d) {k s : Nat} {st : BSt} {T c : Nat → Nat} {t : Nat} (h : BInv p n d k (allL p).length s st T c t) (hsm : s + (allL p).length ≤ 100000) :
    ∃ T' c' t', BInv p n d (k + 1) (allL p).length (s + (allL p).length) (pass p n d st) T' c' t' := by
  have := binv_take hp hs (binv_start h) hsm _ (Nat.le_refl _)
  rw [List.take_length] at this
  exact this
theorem allL_small {p : Pat} (hp : PValid p) : (allL p).length ≤ 79 := by
  have h1 := hp.2.1
  have h2 := hp.2.2.1
  rw [allL_len]; omega
theorem binv_bf {p : Pat} {n d : Int} (hp : PValid p) (hs : FSize n d) : ∀ k, k ≤ 17 → ∃ T c t, BInv p n d k (allL p).length (k * (allL p).length) (bf p n d k) T c t := by
  intro k
  induction k with
  | zero => intro _; exact ⟨_, _, _, by rw [Nat.zero_mul]; exact binv_init p n d⟩
  | succ k ih =>
    intro hk
    obtain ⟨T, c, t, h⟩ := ih (by omega)
    have hE := allL_small hp
    have hm : k * (allL p).length ≤ 16 * 79 := Nat.mul_le_mul (by omega) hE
    obtain ⟨T', c', t', h'⟩ := binv_pass hp hs h (by omega)
    exact ⟨T', c', t', by rw [Nat.succ_mul]; exact h'⟩

/-- Every rule is satisfied. -/
def Fixed (p : Pat) (n d : Int) (x : Nat → Int) : Prop := ∀ r ∈ ext p, x r.b.toNat + wt r n d ≤ x r.a.toNat
theorem fixed_of_last {p : Pat} {n d : Int} {k s : Nat} {st : BSt} {T c : Nat → Nat} {t : Nat} (h : BInv p n d (k + 1) (allL p).length s st T c t) (hl : st.last < 0) : Fixed p n d st.x := by
  intro r hr
  obtain ⟨m, hm⟩ := ext_allL hr
  have hc : ∀ v, c v < k + 1 := by
    rcases h.lst with ⟨_, h2⟩ | ⟨v, _, h2, _⟩
    · intro v
      rcases h2 v with h3 | h3
      · exact h3
      · omega
    · omega
  exact h.new (m, r) (by rw [List.take_length]; exact hm) (by have := hc r.b.toNat; dsimp only; omega)
theorem fixed_walk {p : Pat} {n d : Int} {x : Nat → Int} (h : Fixed p n d x) : ∀ (l : List Rul) (a b : Nat), (∀ r ∈ l, r ∈ ext p) → isWalk l a b → x b + wts n d l ≤ x a := by
  intro l
  induction l with
  | nil => intro a b _ hw; cases hw; rw [wts_nil]; omega
  | cons r l ih =>
    intro a b hl hw
    have h1 := ih _ _ (fun r hr => hl r (List.mem_cons_of_mem _ hr)) hw.2
    have h2 := h r (hl r (List.mem_cons_self ..))
    rw [hw.1, Int.toNat_natCast] at h2
    rw [wts_cons]
    omega
theorem fixed_nopos {p : Pat} {n d : Int} {x : Nat → Int} (h : Fixed p n d x) : NoPos p n d := by
  intro l a hl hw
  have := fixed_walk h l a a hl hw
  omega
theorem ground_mem {p : Pat} {u : Nat} (h0 : 1 ≤ u) (hu : u < p.n.toNat) : ground u ∈ ext p := by
  unfold ext
  refine List.mem_append.2 (.inr (List.mem_map.2 ⟨u - 1, List.mem_range.2 (by omega), ?_⟩))
  rw [Nat.sub_add_cancel h0]
theorem ground_wt (u : Nat) (n d : Int) : wt (ground u) n d = 0 := by simp [wt, ground]
/-- From each unknown a chain of weight 0 leads to unknown 0. -/
theorem to_zero {p : Pat} (n d : Int) {u : Nat} (hu : u < p.n.toNat) : ∃ l, (∀ r ∈ l, r ∈ ext p) ∧ isWalk l u 0 ∧ wts n d l = 0 := by
  by_cases h0 : u = 0
  · subst h0; exact ⟨[], by simp, rfl, rfl⟩
  · refine ⟨[ground u], by simpa using ground_mem (by omega) hu, ⟨rfl, rfl⟩, by rw [wts_cons, ground_wt, wts_nil]; rfl⟩
/-- x is the greatest weight of a chain to 0. -/
def Greatest (p : Pat) (n d : Int) (x : Nat → Int) : Prop := ∀ v, v < p.n.toNat → (∃ l, (∀ r ∈ l, r ∈ ext p) ∧ isWalk l v 0 ∧ wts n d l = x v) ∧ ∀ l, (∀ r ∈ l, r ∈ ext p) → isWalk l v 0 → wts n d l ≤ x v
theorem greatest_unique {p : Pat} {n d : Int} {x y : Nat → Int} (h : Greatest p n d x) (k : Greatest p n d y) : ∀ v, v < p.n.toNat → x v = y v := by
  intro v hv
  obtain ⟨⟨l, h1, h2, h3⟩, h4⟩ := h v hv
  obtain ⟨⟨m, k1, k2, k3⟩, k4⟩ := k v hv
  have := h4 m k1 k2
  have := k4 l h1 h2
  omega
theorem mem_app {p : Pat} {l m : List Rul} (h : ∀ r ∈ l, r ∈ ext p) (k : ∀ r ∈ m, r ∈ ext p) : ∀ r ∈ l ++ m, r ∈ ext p := fun r hr => (List.mem_append.1 hr).elim (h r) (k r)
theorem fixed_greatest {p : Pat} {n d : Int} {k done s : Nat} {st : BSt} {T c : Nat → Nat} {t : Nat} (h1 : 1 ≤ p.n) (h : BInv p n d k done s st T c t) (hf : Fixed p n d st.x) : Greatest p n d st.x := by
  have hz : st.x 0 = 0 := by
    obtain ⟨l, u, a1, a2, a3, a4⟩ := h.wk 0 (by omega)
    obtain ⟨m, b1, b2, b3⟩ := to_zero (p := p) n d a3
    have := fixed_nopos hf (l ++ m) 0 (mem_app a1 b1) (isWalk_append a2 b2)
    rw [wts_append, b3] at this
    have := (h.bd 0).1
    omega
  intro v hv
  constructor
  · obtain ⟨l, u, a1, a2, a3, a4⟩ := h.wk v hv
    obtain ⟨m, b1, b2, b3⟩ := to_zero (p := p) n d a3
    exact ⟨l ++ m, mem_app a1 b1, isWalk_append a2 b2, by rw [wts_append, b3]; omega⟩
  · intro l hl hw
    have := fixed_walk hf l v 0 hl hw
    omega

/-- The unknown behind v. -/
def par (p : Pat) (st : BSt) (v : Nat) : Nat := (numRule p (st.by_ v)).b.toNat
def parN (p : Pat) (st : BSt) (v : Nat) : Nat → Nat
  | 0 => v
  | i + 1 => par p st (parN p st v i)
theorem parN_add (p : Pat) (st : BSt) (v i j : Nat) : parN p st v (i + j) = parN p st (parN p st v i) j := by
  induction j with
  | zero => rfl
  | succ j ih => show par p st (parN p st v (i + j)) = _; rw [ih]; rfl
/-- v has gained by one of the rules. -/
def Gained (p : Pat) (st : BSt) (v : Nat) : Prop := v < p.n.toNat ∧ ∃ e ∈ allL p, e.1 = st.by_ v ∧ e.2.a = (v : Int)
theorem gained_par {p : Pat} {st : BSt} {v : Nat} (hp : PValid p) (h : Gained p st v) : par p st v < p.n.toNat := by
  obtain ⟨_, e, h1, h2, h3⟩ := h
  unfold par
  rw [← h2, numRule_of h1]
  have := allL_RV hp h1
  have a1 := this.2.2.1
  have a2 := this.2.2.2.1
  omega
theorem gained_rule {p : Pat} {st : BSt} {v : Nat} (h : Gained p st v) : numRule p (st.by_ v) ∈ ext p ∧ (numRule p (st.by_ v)).a = (v : Int) ∧ (st.by_ v, numRule p (st.by_ v)) ∈ allL p := by
  obtain ⟨_, e, h1, h2, h3⟩ := h
  rw [← h2, numRule_of h1]
  exact ⟨allL_ext h1, h3, h1⟩

theorem gained_of {p : Pat} {n d : Int} {k done s : Nat} {st : BSt} {T c : Nat → Nat} {t : Nat} (h : BInv p n d k done s st T c t) {v : Nat} (hv : v < p.n.toNat) (hc : 1 ≤ c v) :
    Gained p st v ∧ c v ≤ c (par p st v) + 1 ∧ st.x v ≤ st.x (par p st v) + wt (numRule p (st.by_ v)) n d ∧ (T v ≤ T (par p st v) → st.x v < st.x (par p st v) + wt (numRule p (st.by_ v)) n d) := by
  rcases h.set v with h0 | ⟨e, h1, h2, h3, h4, h5, h6⟩
  · omega
  · have hn : numRule p (st.by_ v) = e.2 := by rw [← h2, numRule_of h1]
    have hpar : par p st v = e.2.b.toNat := by unfold par; rw [hn]
    rw [hpar, hn]
    exact ⟨⟨hv, e, h1, h2, h3⟩, h6, h4, h5⟩

theorem pigeon : ∀ (N : Nat) (f : Nat → Nat), (∀ i, i ≤ N → f i < N) → ∃ i j, i < j ∧ j ≤ N ∧ f i = f j := by
  intro N
  induction N with
  | zero => intro f h; exact absurd (h 0 (Nat.le_refl _)) (Nat.not_lt_zero _)
  | succ N ih =>
    intro f h
    by_cases hl : f (N + 1) = N
    · by_cases hex : ∃ i, i ≤ N ∧ f i = N
      · obtain ⟨i, hi, he⟩ := hex
        exact ⟨i, N + 1, by omega, Nat.le_refl _, by omega⟩
      · obtain ⟨i, j, h1, h2, h3⟩ := ih f (fun i hi => by
          have := h i (by omega)
          have hne : f i ≠ N := fun he => hex ⟨i, hi, he⟩
          omega)
        exact ⟨i, j, h1, by omega, h3⟩
    · have hl2 := h (N + 1) (Nat.le_refl _)
      obtain ⟨i, j, h1, h2, h3⟩ := ih (fun i => if f i = N then f (N + 1) else f i) (fun i hi => by
        have := h i (by omega)
        split <;> omega)
      by_cases hi : f i = N
      · by_cases hj : f j = N
        · exact ⟨i, j, h1, by omega, by omega⟩
        · rw [if_pos hi, if_neg hj] at h3
          exact ⟨j, N + 1, by omega, Nat.le_refl _, h3.symm⟩
      · by_cases hj : f j = N
        · rw [if_neg hi, if_pos hj] at h3
          exact ⟨i, N + 1, by omega, Nat.le_refl _, h3⟩
        · rw [if_neg hi, if_neg hj] at h3
          exact ⟨i, j, h1, by omega, h3⟩

/-- What N + 1 passes with gain leave: from the last unknown N steps lead to a loop, all of whose unknowns have gained. -/
structure Cycle (p : Pat) (n d : Int) (st : BSt) (v q : Nat) : Prop where
  pos : 1 ≤ q
  le : q ≤ p.n.toNat
  back : parN p st v q = v
  first : ∀ i, 1 ≤ i → i < q → parN p st v i ≠ v
  gain : ∀ i, Gained p st (parN p st v i)
  wt : 0 < wts n d ((List.range q).map fun i => numRule p (st.by_ (parN p st v i)))

theorem sum_cycle {p : Pat} {n d : Int} {st : BSt} {v : Nat} (h : ∀ i, st.x (parN p st v i) ≤ st.x (parN p st v (i + 1)) + wt (numRule p (st.by_ (parN p st v i))) n d) :
    ∀ q, st.x v ≤ st.x (parN p st v q) + wts n d ((List.range q).map fun i => numRule p (st.by_ (parN p st v i))) := by
  intro q
  induction q with
  | zero => rw [List.range_zero, List.map_nil, wts_nil]; show st.x v ≤ st.x v + 0; omega
  | succ q ih =>
    rw [range_snoc, wts_append, wts_cons, wts_nil]
    have := h q
    omega
theorem sum_cycle_lt {p : Pat} {n d : Int} {st : BSt} {v : Nat} (h : ∀ i, st.x (parN p st v i) ≤ st.x (parN p st v (i + 1)) + wt (numRule p (st.by_ (parN p st v i))) n d) {j : Nat}
    (hj : st.x (parN p st v j) < st.x (parN p st v (j + 1)) + wt (numRule p (st.by_ (parN p st v j))) n d) :
    ∀ q, j < q → st.x v < st.x (parN p st v q) + wts n d ((List.range q).map fun i => numRule p (st.by_ (parN p st v i))) := by
  intro q
  induction q with
  | zero => intro h0; omega
  | succ q ih =>
    intro hq
    rw [range_snoc, wts_append, wts_cons, wts_nil]
    by_cases hjq : j = q
    · subst hjq
      have := sum_cycle h j
      omega
    · have := ih (by omega)
      have := h q
      omega

theorem least_back (f : Nat → Nat) (v : Nat) : ∀ q, 1 ≤ q → f q = v → ∃ m, 1 ≤ m ∧ m ≤ q ∧ f m = v ∧ ∀ i, 1 ≤ i → i < m → f i ≠ v := by
  intro q
  induction q using Nat.strongRecOn with
  | _ q ih =>
    intro h1 h2
    by_cases hex : ∃ i, 1 ≤ i ∧ i < q ∧ f i = v
    · obtain ⟨i, a, b, c⟩ := hex
      obtain ⟨m, m1, m2, m3, m4⟩ := ih i b a c
      exact ⟨m, m1, by omega, m3, m4⟩
    · exact ⟨q, h1, Nat.le_refl _, h2, fun i a b c => hex ⟨i, a, b, c⟩⟩

theorem cycle_of {p : Pat} {n d : Int} {s : Nat} {st : BSt} {T c : Nat → Nat} {t : Nat} (hp : PValid p) (h : BInv p n d (p.n.toNat + 1) (allL p).length s st T c t) {v : Nat} (hv : st.last = (v : Int)) :
    v < p.n.toNat ∧ (∀ i, Gained p st (parN p st v i)) ∧ ∃ q, Cycle p n d st (parN p st v p.n.toNat) q := by
  obtain ⟨N, hN⟩ : ∃ N, p.n.toNat = N := ⟨_, rfl⟩
  have hvN : v < p.n.toNat ∧ c v = N + 1 := by
    rcases h.lst with ⟨h1, _⟩ | ⟨u, h1, h2, h3⟩
    · omega
    · obtain rfl : u = v := by omega
      exact ⟨h1, by omega⟩
  obtain ⟨hv1, hcv⟩ := hvN
  have hchain : ∀ i, i ≤ N → parN p st v i < p.n.toNat ∧ N + 1 ≤ c (parN p st v i) + i := by
    intro i
    induction i with
    | zero => intro _; exact ⟨hv1, by show N + 1 ≤ c v + 0; omega⟩
    | succ i ih =>
      intro hi
      obtain ⟨a1, a2⟩ := ih (by omega)
      obtain ⟨g1, g2, -, -⟩ := gained_of h a1 (by omega)
      exact ⟨gained_par hp g1, by show N + 1 ≤ c (par p st (parN p st v i)) + (i + 1); omega⟩
  have hgN : ∀ i, i ≤ N → Gained p st (parN p st v i) ∧ 1 ≤ c (parN p st v i) := by
    intro i hi
    obtain ⟨a1, a2⟩ := hchain i hi
    exact ⟨(gained_of h a1 (by omega)).1, by omega⟩
  obtain ⟨i, j, hij, hj, he⟩ := pigeon N (fun i => parN p st v i) (fun i hi => by have := (hchain i hi).1; rw [hN] at this; exact this)
  have hper : ∀ m, parN p st v (j + m) = parN p st v (i + m) := by
    intro m
    rw [parN_add, parN_add, he]
  have hall : ∀ m, Gained p st (parN p st v m) ∧ 1 ≤ c (parN p st v m) := by
    intro m
    induction m using Nat.strongRecOn with
    | _ m ih =>
      by_cases hm : m ≤ N
      · exact hgN m hm
      · have := hper (m - j)
        rw [show j + (m - j) = m by omega] at this
        rw [this]
        exact ih _ (by omega)
  refine ⟨hv1, fun m => (hall m).1, ?_⟩
  rw [hN]
  obtain ⟨w, hw⟩ : ∃ w, parN p st v N = w := ⟨_, rfl⟩
  rw [hw]
  have hfw : ∀ m, parN p st w m = parN p st v (N + m) := fun m => by rw [parN_add, hw]
  have hback : parN p st w (j - i) = w := by
    rw [hfw, ← hw]
    have := hper (N - i)
    rw [show j + (N - i) = N + (j - i) by omega, show i + (N - i) = N by omega] at this
    exact this
  obtain ⟨q, q1, q2, q3, q4⟩ := least_back (parN p st w) w (j - i) (by omega) hback
  have hga : ∀ m, Gained p st (parN p st w m) ∧ 1 ≤ c (parN p st w m) := fun m => by rw [hfw]; exact hall _
  have hle : ∀ m, st.x (parN p st w m) ≤ st.x (parN p st w (m + 1)) + Go.Proofs.Ytmknengmjepdaaa.wt (numRule p (st.by_ (parN p st w m))) n d := fun m => (gained_of h (hga m).1.1 (hga m).2).2.2.1
  refine ⟨q, q1, by omega, q3, q4, fun m => (hga m).1, ?_⟩
  have hex : ∃ m, m < q ∧ T (parN p st w m) ≤ T (parN p st w (m + 1)) := by
    refine Classical.byContradiction fun hno => ?_
    have hdec : ∀ m, m ≤ q → T (parN p st w m) + m ≤ T w := by
      intro m
      induction m with
      | zero => intro _; exact Nat.le_refl _
      | succ m ih =>
        intro hm
        have h1 := ih (by omega)
        have h2 : ¬ T (parN p st w m) ≤ T (parN p st w (m + 1)) := fun hh => hno ⟨m, by omega, hh⟩
        omega
    have := hdec q (Nat.le_refl _)
    rw [q3] at this
    omega
  obtain ⟨m, hm, hT⟩ := hex
  have hlt := (gained_of h (hga m).1.1 (hga m).2).2.2.2 hT
  have := sum_cycle_lt hle hlt q hm
  rw [q3] at this
  omega

/-- The loop's rules are a chain. -/
theorem cycle_walk {p : Pat} {st : BSt} {v : Nat} (h : ∀ i, Gained p st (parN p st v i)) : ∀ q, isWalk ((List.range q).map fun i => numRule p (st.by_ (parN p st v i))) v (parN p st v q) := by
  intro q
  induction q with
  | zero => rfl
  | succ q ih =>
    rw [range_snoc]
    exact isWalk_append ih ⟨(gained_rule (h q)).2.1, rfl⟩
theorem cycle_pos {p : Pat} {n d : Int} {st : BSt} {v q : Nat} (h : Cycle p n d st v q) : ¬ NoPos p n d := by
  intro hn
  have hw := cycle_walk h.gain q
  rw [h.back] at hw
  have := hn _ v (fun r hr => by
    obtain ⟨i, _, rfl⟩ := List.mem_map.1 hr
    exact (gained_rule (h.gain i)).1) hw
  have := h.wt
  omega

end Go.Proofs.Ytmknengmjepdaaa

/- Floyd and Warshall, plainly: what trankref04.chains comes to. -/
namespace Go.Proofs.Ytmknengmjepdaaa
open Go.RowKit

/-- One element behind stage m, all at once. -/
def nxE (M : Nat → Nat → Int) (m a b : Nat) : Int := if M a m ≠ NONE ∧ M m b ≠ NONE then max (M a b) (M a m + M m b) else M a b
theorem nxE_col {M : Nat → Nat → Int} {m : Nat} (h : M m m = 0) (a : Nat) : nxE M m a m = M a m := by
  unfold nxE; rw [h]; split <;> omega
theorem nxE_row {M : Nat → Nat → Int} {m : Nat} (h : M m m = 0) (b : Nat) : nxE M m m b = M m b := by
  unfold nxE; rw [h]; split <;> omega
/-- The elements are small, or there is none. -/
def Small (N : Nat) (V : Int) (M : Nat → Nat → Int) : Prop := ∀ a b, a < N → b < N → M a b = NONE ∨ (-V ≤ M a b ∧ M a b ≤ V)

theorem fwC_new {N m a : Nat} {V : Int} {M : Nat → Nat → Int} (hV : V ≤ 1000000000000000) (hs : Small N V M) (hm : m < N) (ha : a < N) {b : Nat} (hb : b < N) : fwC m a M b = upd M a b (nxE M m a b) := by
  unfold fwC nxE
  by_cases h : M a m ≠ NONE ∧ M m b ≠ NONE
  · rw [if_pos h, if_pos h]
    have h1 := (hs a m ha hm).resolve_left h.1
    have h2 := (hs m b hm hb).resolve_left h.2
    rw [wrap64_small (by omega) (by omega)]
  · rw [if_neg h, if_neg h]
    funext x y
    unfold upd
    split
    · rename_i hxy; rw [hxy.1, hxy.2]
    · rfl

theorem nxE_small {N m : Nat} {V : Int} {M : Nat → Nat → Int} (hs : Small N V M) (hm : m < N) {a b : Nat} (ha : a < N) (hb : b < N) : nxE M m a b = NONE ∨ (-(2 * V) ≤ nxE M m a b ∧ nxE M m a b ≤ 2 * V) := by
  unfold nxE
  by_cases h : M a m ≠ NONE ∧ M m b ≠ NONE
  · rw [if_pos h]
    have h1 := (hs a m ha hm).resolve_left h.1
    have h2 := (hs m b hm hb).resolve_left h.2
    rcases hs a b ha hb with h3 | h3
    · by_cases h4 : NONE ≤ M a m + M m b
      · right; omega
      · left; omega
    · right; omega
  · rw [if_neg h]
    rcases hs a b ha hb with h3 | h3
    · exact .inl h3
    · right; omega

theorem fwRow_new {N m a : Nat} {V : Int} {M : Nat → Nat → Int} (hV : V ≤ 1000000000000000) (hs : Small N V M) (hm : m < N) (ha : a < N) (h0 : M m m = 0) :
    fwRow N m M a = fun x y => if x = a ∧ y < N then nxE M m a y else M x y := by
  have key : ∀ j, j ≤ N → (List.range j).foldl (fwC m a) M = fun x y => if x = a ∧ y < j then nxE M m a y else M x y := by
    intro j
    induction j with
    | zero => intro _; funext x y; simp
    | succ j ih =>
      intro hj
      rw [foldl_range_succ, ih (by omega)]
      obtain ⟨C, hC⟩ : ∃ C : Nat → Nat → Int, (fun x y => if x = a ∧ y < j then nxE M m a y else M x y) = C := ⟨_, rfl⟩
      have hCx : ∀ x y, C x y = if x = a ∧ y < j then nxE M m a y else M x y := fun x y => by rw [← hC]
      rw [hC]
      have c1 : C a m = M a m := by
        rw [hCx]; split
        · exact nxE_col h0 a
        · rfl
      have c2 : C m j = M m j := by rw [hCx, if_neg (by omega)]
      have c3 : C a j = M a j := by rw [hCx, if_neg (by omega)]
      have hf : fwC m a C j = upd C a j (nxE M m a j) := by
        have hM := fwC_new hV hs hm ha (b := j) (by omega)
        unfold fwC nxE
        rw [c1, c2, c3]
        by_cases h : M a m ≠ NONE ∧ M m j ≠ NONE
        · rw [if_pos h, if_pos h]
          have h1 := (hs a m ha hm).resolve_left h.1
          have h2 := (hs m j hm (by omega)).resolve_left h.2
          rw [wrap64_small (by omega) (by omega)]
        · rw [if_neg h, if_neg h]
          funext x y
          unfold upd
          split
          · rename_i hxy; rw [hxy.1, hxy.2, c3]
          · rfl
      rw [hf]
      funext x y
      unfold upd
      rw [hCx]
      by_cases hx : x = a
      · by_cases hy : y = j
        · subst hx hy
          rw [if_pos ⟨rfl, rfl⟩, if_pos ⟨rfl, by omega⟩]
        · rw [if_neg (by omega)]
          by_cases hyj : y < j
          · rw [if_pos ⟨hx, hyj⟩, if_pos ⟨hx, by omega⟩]
          · rw [if_neg (by omega), if_neg (by omega)]
      · rw [if_neg (by omega), if_neg (by omega), if_neg (by omega)]
  exact key N (Nat.le_refl _)

theorem fwStep_new {N m : Nat} {V : Int} {M : Nat → Nat → Int} (hV : 2 * V ≤ 1000000000000000) (hs : Small N V M) (hm : m < N) (h0 : M m m = 0) :
    fwStep N M m = fun x y => if x < N ∧ y < N then nxE M m x y else M x y := by
  have key : ∀ i, i ≤ N → (List.range i).foldl (fwRow N m) M = fun x y => if x < i ∧ y < N then nxE M m x y else M x y := by
    intro i
    induction i with
    | zero => intro _; funext x y; simp
    | succ i ih =>
      intro hi
      rw [foldl_range_succ, ih (by omega)]
      obtain ⟨C, hC⟩ : ∃ C : Nat → Nat → Int, (fun x y => if x < i ∧ y < N then nxE M m x y else M x y) = C := ⟨_, rfl⟩
      have hCx : ∀ x y, C x y = if x < i ∧ y < N then nxE M m x y else M x y := fun x y => by rw [← hC]
      rw [hC]
      have cm : ∀ y, y < N → C m y = M m y := fun y hy => by
        rw [hCx]; split
        · exact nxE_row h0 y
        · rfl
      have ci : ∀ y, C i y = M i y := fun y => by rw [hCx, if_neg (by omega)]
      have hCs : Small N (2 * V) C := fun a b ha hb => by
        rw [hCx]; split
        · exact nxE_small hs hm ha hb
        · rcases hs a b ha hb with h | h
          · exact .inl h
          · right; omega
      rw [fwRow_new hV hCs hm (by omega) (by rw [cm m hm, h0])]
      funext x y
      by_cases hy : y < N
      · by_cases hx : x = i
        · subst hx
          rw [if_pos ⟨rfl, hy⟩, if_pos ⟨by omega, hy⟩]
          unfold nxE
          rw [ci, ci, cm y hy]
        · rw [if_neg (by omega), hCx]
          by_cases hxi : x < i
          · rw [if_pos ⟨hxi, hy⟩, if_pos ⟨by omega, hy⟩]
          · rw [if_neg (by omega), if_neg (by omega)]
      · rw [if_neg (by omega), if_neg (by omega), hCx, if_neg (by omega)]
  exact key N (Nat.le_refl _)

/-- What the stages below m have come to. -/
structure FInv (p : Pat) (n d : Int) (m : Nat) (V : Int) (M : Nat → Nat → Int) : Prop where
  small : Small p.n.toNat V M
  diag : ∀ a, a < p.n.toNat → 0 ≤ M a a
  wk : ∀ a b, a < p.n.toNat → b < p.n.toNat → M a b ≠ NONE → ∃ l, (∀ r ∈ l, r ∈ ext p) ∧ isWalk l a b ∧ wts n d l = M a b
  edge : ∀ r ∈ ext p, M r.a.toNat r.b.toNat ≠ NONE ∧ wt r n d ≤ M r.a.toNat r.b.toNat
  tri : ∀ k a b, k < m → k < p.n.toNat → a < p.n.toNat → b < p.n.toNat → M a k ≠ NONE → M k b ≠ NONE → M a b ≠ NONE ∧ M a k + M k b ≤ M a b

theorem finv_step {p : Pat} {n d : Int} {m : Nat} {V : Int} {M : Nat → Nat → Int} (hp : PValid p) (hV0 : 0 ≤ V) (hV : 2 * V ≤ 1000000000000000) (hm : m < p.n.toNat) (h : FInv p n d m V M) (h0 : M m m = 0) :
    FInv p n d (m + 1) (2 * V) (fwStep p.n.toNat M m) := by
  rw [fwStep_new hV h.small hm h0]
  obtain ⟨M', hM'⟩ : ∃ M' : Nat → Nat → Int, (fun x y => if x < p.n.toNat ∧ y < p.n.toNat then nxE M m x y else M x y) = M' := ⟨_, rfl⟩
  have hN : ∀ x y, x < p.n.toNat → y < p.n.toNat → M' x y = nxE M m x y := fun x y hx hy => by rw [← hM']; exact if_pos ⟨hx, hy⟩
  rw [hM']
  -- real elements are small, so a sum is never 'none'
  have hsm : ∀ x y, x < p.n.toNat → y < p.n.toNat → M x y ≠ NONE → -V ≤ M x y ∧ M x y ≤ V := fun x y hx hy hne => (h.small x y hx hy).resolve_left hne
  have hge : ∀ x y, x < p.n.toNat → y < p.n.toNat → M x y ≠ NONE → nxE M m x y ≠ NONE ∧ M x y ≤ nxE M m x y := fun x y hx hy hne => by
    have := hsm x y hx hy hne
    unfold nxE NONE at *
    split <;> omega
  have hvia : ∀ x y, x < p.n.toNat → y < p.n.toNat → M x m ≠ NONE → M m y ≠ NONE → nxE M m x y ≠ NONE ∧ M x m + M m y ≤ nxE M m x y := fun x y hx hy h1 h2 => by
    have a1 := hsm x m hx hm h1
    have a2 := hsm m y hm hy h2
    unfold nxE
    rw [if_pos ⟨h1, h2⟩]
    unfold NONE
    omega
  have hcase : ∀ x y, x < p.n.toNat → y < p.n.toNat → nxE M m x y ≠ NONE → (M x y ≠ NONE ∧ nxE M m x y = M x y) ∨ (M x m ≠ NONE ∧ M m y ≠ NONE ∧ nxE M m x y = M x m + M m y) := fun x y hx hy hne => by
    unfold nxE at hne ⊢
    by_cases hh : M x m ≠ NONE ∧ M m y ≠ NONE
    · rw [if_pos hh] at hne ⊢
      have a1 := hsm x m hx hm hh.1
      have a2 := hsm m y hm hy hh.2
      by_cases hxy : M x y = NONE
      · right
        refine ⟨hh.1, hh.2, ?_⟩
        rw [hxy]
        unfold NONE
        omega
      · by_cases hle : M x m + M m y ≤ M x y
        · left; exact ⟨hxy, by omega⟩
        · right; exact ⟨hh.1, hh.2, by omega⟩
    · rw [if_neg hh] at hne ⊢
      exact .inl ⟨hne, rfl⟩
  constructor
  · intro a b ha hb
    rw [hN a b ha hb]
    exact nxE_small h.small hm ha hb
  · intro a ha
    rw [hN a a ha ha]
    have h1 := h.diag a ha
    have := (hge a a ha ha (by unfold NONE; omega)).2
    omega
  · intro a b ha hb hne
    rw [hN a b ha hb] at hne ⊢
    rcases hcase a b ha hb hne with ⟨h1, h2⟩ | ⟨h1, h2, h3⟩
    · rw [h2]; exact h.wk a b ha hb h1
    · obtain ⟨l, l1, l2, l3⟩ := h.wk a m ha hm h1
      obtain ⟨k, k1, k2, k3⟩ := h.wk m b hm hb h2
      exact ⟨l ++ k, mem_app l1 k1, isWalk_append l2 k2, by rw [wts_append, l3, k3, h3]⟩
  · intro r hr
    have hrv := ext_rv hp.1 hp.2.2.2 r hr
    have b1 : r.a.toNat < p.n.toNat := by have := hrv.1; have := hrv.2.1; omega
    have b2 : r.b.toNat < p.n.toNat := by have := hrv.2.2.1; have := hrv.2.2.2.1; omega
    rw [hN _ _ b1 b2]
    obtain ⟨e1, e2⟩ := h.edge r hr
    obtain ⟨g1, g2⟩ := hge _ _ b1 b2 e1
    exact ⟨g1, by omega⟩
  · intro k a b hk hkN ha hb h1 h2
    rw [hN a k ha hkN] at h1 ⊢
    rw [hN k b hkN hb] at h2 ⊢
    rw [hN a b ha hb]
    by_cases hkm : k = m
    · subst hkm
      rw [nxE_col h0] at h1 ⊢
      rw [nxE_row h0] at h2 ⊢
      exact hvia a b ha hb h1 h2
    · have hklt : k < m := by omega
      rcases hcase a k ha hkN h1 with ⟨x1, x2⟩ | ⟨x1, x2, x3⟩
      · rcases hcase k b hkN hb h2 with ⟨y1, y2⟩ | ⟨y1, y2, y3⟩
        · obtain ⟨t1, t2⟩ := h.tri k a b hklt hkN ha hb x1 y1
          obtain ⟨g1, g2⟩ := hge a b ha hb t1
          exact ⟨g1, by omega⟩
        · obtain ⟨t1, t2⟩ := h.tri k a m hklt hkN ha hm x1 y1
          obtain ⟨g1, g2⟩ := hvia a b ha hb t1 y2
          exact ⟨g1, by omega⟩
      · rcases hcase k b hkN hb h2 with ⟨y1, y2⟩ | ⟨y1, y2, y3⟩
        · obtain ⟨t1, t2⟩ := h.tri k m b hklt hkN hm hb x2 y1
          obtain ⟨g1, g2⟩ := hvia a b ha hb x1 t1
          exact ⟨g1, by omega⟩
        · obtain ⟨t1, t2⟩ := h.tri k m m hklt hkN hm hm x2 y1
          obtain ⟨g1, g2⟩ := hvia a b ha hb x1 y2
          exact ⟨g1, by omega⟩

/-- The start. -/
theorem finv_start {p : Pat} {n d : Int} (hp : PValid p) (hs : FSize n d) : FInv p n d 0 50000000 ((ext p).foldl (addR n d) m0) := by
  have key : ∀ j, j ≤ (ext p).length → Small p.n.toNat 50000000 (((ext p).take j).foldl (addR n d) m0) ∧ (∀ a, a < p.n.toNat → 0 ≤ ((ext p).take j).foldl (addR n d) m0 a a) ∧
      (∀ a b, a < p.n.toNat → b < p.n.toNat → ((ext p).take j).foldl (addR n d) m0 a b ≠ NONE → ∃ l, (∀ r ∈ l, r ∈ ext p) ∧ isWalk l a b ∧ wts n d l = ((ext p).take j).foldl (addR n d) m0 a b) ∧
      (∀ r ∈ (ext p).take j, ((ext p).take j).foldl (addR n d) m0 r.a.toNat r.b.toNat ≠ NONE ∧ wt r n d ≤ ((ext p).take j).foldl (addR n d) m0 r.a.toNat r.b.toNat) := by
    intro j
    induction j with
    | zero =>
      intro _
      rw [List.take_zero, List.foldl_nil]
      refine ⟨fun a b _ _ => ?_, fun a _ => ?_, fun a b _ _ hne => ?_, fun r hr => by simp at hr⟩
      · unfold m0; split
        · right; omega
        · exact .inl rfl
      · simp [m0]
      · unfold m0 at hne ⊢
        by_cases hab : a = b
        · rw [if_pos hab]; exact ⟨[], by simp, hab, rfl⟩
        · rw [if_neg hab] at hne; exact absurd rfl hne
    | succ j ih =>
      intro hj
      obtain ⟨i1, i2, i3, i4⟩ := ih (by omega)
      have htk : (ext p).take (j + 1) = (ext p).take j ++ [(ext p)[j]] := List.take_succ_eq_append_getElem (by omega)
      obtain ⟨r, hr⟩ : ∃ r, (ext p)[j] = r := ⟨_, rfl⟩
      have hrm : r ∈ ext p := by rw [← hr]; exact List.getElem_mem _
      have hrv := ext_rv hp.1 hp.2.2.2 r hrm
      have hw := wt_le hrv hs
      rw [htk, hr, List.foldl_append]
      obtain ⟨M, hM⟩ : ∃ M, ((ext p).take j).foldl (addR n d) m0 = M := ⟨_, rfl⟩
      rw [hM] at i1 i2 i3 i4 ⊢
      show Small p.n.toNat 50000000 (addR n d M r) ∧ (∀ a, a < p.n.toNat → 0 ≤ addR n d M r a a) ∧ (∀ a b, a < p.n.toNat → b < p.n.toNat → addR n d M r a b ≠ NONE → ∃ l, (∀ r ∈ l, r ∈ ext p) ∧ isWalk l a b ∧ wts n d l = addR n d M r a b) ∧
        (∀ r' ∈ (ext p).take j ++ [r], addR n d M r r'.a.toNat r'.b.toNat ≠ NONE ∧ wt r' n d ≤ addR n d M r r'.a.toNat r'.b.toNat)
      obtain ⟨A, hA⟩ : ∃ A : Nat, r.a = A := ⟨r.a.toNat, by have := hrv.1; omega⟩
      have hAN : A < p.n.toNat := by have := hrv.2.1; omega
      have hBN : r.b.toNat < p.n.toNat := by have := hrv.2.2.1; have := hrv.2.2.2.1; omega
      have hadd : ∀ x y, addR n d M r x y = if x = A ∧ y = r.b.toNat then max (M A r.b.toNat) (wt r n d) else M x y := fun x y => by
        unfold addR upd; rw [hA, Int.toNat_natCast]
      refine ⟨fun a b ha hb => ?_, fun a ha => ?_, fun a b ha hb hne => ?_, fun r' hr' => ?_⟩
      · rw [hadd]; split
        · rcases i1 A _ hAN hBN with h | h
          · right; rw [h]; unfold NONE; omega
          · right; omega
        · exact i1 a b ha hb
      · rw [hadd]; split
        · rename_i hh
          have := i2 a ha
          rw [← hh.1, ← hh.2]
          omega
        · exact i2 a ha
      · rw [hadd] at hne ⊢
        split
        · rename_i hh
          rw [if_pos hh] at hne
          rw [hh.1, hh.2]
          by_cases hle : M A r.b.toNat ≤ wt r n d
          · rw [Int.max_eq_right hle]
            exact ⟨[r], by simpa using hrm, ⟨hA, rfl⟩, by rw [wts_cons, wts_nil]; omega⟩
          · rw [Int.max_eq_left (by omega)]
            exact i3 A _ hAN hBN (by have := hw.1; unfold NONE; omega)
        · rename_i hh
          rw [if_neg hh] at hne
          exact i3 a b ha hb hne
      · have hgt : M A r.b.toNat ≤ max (M A r.b.toNat) (wt r n d) ∧ wt r n d ≤ max (M A r.b.toNat) (wt r n d) := by omega
        rw [hadd]
        rcases List.mem_append.1 hr' with hr' | hr'
        · obtain ⟨e1, e2⟩ := i4 r' hr'
          split
          · rename_i hh
            rw [hh.1, hh.2] at e1 e2
            have := hw.1
            refine ⟨by unfold NONE; omega, by omega⟩
          · exact ⟨e1, e2⟩
        · have : r' = r := by simpa using hr'
          subst this
          rw [if_pos ⟨by rw [hA]; rfl, rfl⟩]
          have := hw.1
          exact ⟨by unfold NONE; omega, hgt.2⟩
  have := key _ (Nat.le_refl _)
  rw [List.take_length] at this
  exact ⟨this.1, this.2.1, this.2.2.1, this.2.2.2, fun k a b hk => by omega⟩

theorem fwC_mono (m a : Nat) (M : Nat → Nat → Int) (b x y : Nat) : M x y ≤ fwC m a M b x y := by
  unfold fwC
  split
  · unfold upd
    split
    · rename_i h; rw [h.1, h.2]; omega
    · exact Int.le_refl _
  · exact Int.le_refl _
theorem foldl_mono {f : (Nat → Nat → Int) → Nat → (Nat → Nat → Int)} (hf : ∀ M b x y, M x y ≤ f M b x y) (l : List Nat) : ∀ M x y, M x y ≤ l.foldl f M x y := by
  induction l with
  | nil => intro M x y; exact Int.le_refl _
  | cons b l ih => intro M x y; exact Int.le_trans (hf M b x y) (ih _ x y)
theorem fwRow_mono (N m : Nat) (M : Nat → Nat → Int) (a x y : Nat) : M x y ≤ fwRow N m M a x y := foldl_mono (fun M b x y => fwC_mono m a M b x y) _ M x y
theorem fwStep_mono (N : Nat) (M : Nat → Nat → Int) (m x y : Nat) : M x y ≤ fwStep N M m x y := foldl_mono (fun M a x y => fwRow_mono N m M a x y) _ M x y
theorem stage_mono (N : Nat) (M : Nat → Nat → Int) {i j : Nat} (hij : i ≤ j) (x y : Nat) : (List.range i).foldl (fwStep N) M x y ≤ (List.range j).foldl (fwStep N) M x y := by
  obtain ⟨k, rfl⟩ : ∃ k, j = i + k := ⟨j - i, by omega⟩
  induction k with
  | zero => exact Int.le_refl _
  | succ k ih => exact Int.le_trans (ih (by omega)) (by rw [← Nat.add_assoc, foldl_range_succ]; exact fwStep_mono _ _ _ _ _)

theorem finv_stage {p : Pat} {n d : Int} (hp : PValid p) (hs : FSize n d) (hd : ∀ m, m < p.n.toNat → FInv p n d m (2 ^ m * 50000000) ((List.range m).foldl (fwStep p.n.toNat) ((ext p).foldl (addR n d) m0)) → (List.range m).foldl (fwStep p.n.toNat) ((ext p).foldl (addR n d) m0) m m ≤ 0) :
    ∀ m, m ≤ p.n.toNat → FInv p n d m (2 ^ m * 50000000) ((List.range m).foldl (fwStep p.n.toNat) ((ext p).foldl (addR n d) m0)) := by
  intro m
  induction m with
  | zero => intro _; simpa using finv_start hp hs
  | succ m ih =>
    intro hm
    have h1 := ih (by omega)
    have h2 := hd m (by omega) h1
    have h3 := h1.diag m (by omega)
    have hpow : (2 : Int) ^ m ≤ 2 ^ 15 := by
      have : (2 : Nat) ^ m ≤ 2 ^ 15 := Nat.pow_le_pow_right (by decide) (by have := hp.2.1; omega)
      exact_mod_cast this
    have hpos : (0 : Int) < 2 ^ m := by
      have : 0 < (2 : Nat) ^ m := Nat.pow_pos (by decide)
      exact_mod_cast this
    have h4 := finv_step hp (by omega) (by omega) (by omega) h1 (by omega)
    rw [foldl_range_succ]
    rw [show (2 : Int) ^ (m + 1) * 50000000 = 2 * (2 ^ m * 50000000) by rw [Int.pow_succ]; omega]
    exact h4

theorem chBad_false {p : Pat} {n d : Int} : chBad p n d = false ↔ ∀ a, a < p.n.toNat → chainM p n d a a ≤ 0 := by
  unfold chBad
  rw [List.any_eq_false]
  constructor
  · intro h a ha
    have := h a (List.mem_range.2 ha)
    simpa using this
  · intro h a ha
    have := h a (List.mem_range.1 ha)
    simpa using this

theorem finv_nopos {p : Pat} {n d : Int} (hp : PValid p) (hs : FSize n d) (hn : NoPos p n d) : FInv p n d p.n.toNat (2 ^ p.n.toNat * 50000000) (chainM p n d) := by
  refine finv_stage hp hs (fun m hm hi => ?_) _ (Nat.le_refl _)
  have h0 := hi.diag m hm
  obtain ⟨l, l1, l2, l3⟩ := hi.wk m m hm hm (by unfold NONE; omega)
  have := hn l m l1 l2
  omega
theorem finv_good {p : Pat} {n d : Int} (hp : PValid p) (hs : FSize n d) (hb : chBad p n d = false) : FInv p n d p.n.toNat (2 ^ p.n.toNat * 50000000) (chainM p n d) := by
  refine finv_stage hp hs (fun m hm _ => ?_) _ (Nat.le_refl _)
  have h1 := chBad_false.1 hb m hm
  have h2 := stage_mono p.n.toNat ((ext p).foldl (addR n d) m0) (Nat.le_of_lt hm) m m
  exact Int.le_trans h2 h1

theorem finv_walk {p : Pat} {n d : Int} {V : Int} {M : Nat → Nat → Int} (hp : PValid p) (h : FInv p n d p.n.toNat V M) : ∀ (l : List Rul) (a b : Nat), a < p.n.toNat → (∀ r ∈ l, r ∈ ext p) → isWalk l a b → b < p.n.toNat ∧ M a b ≠ NONE ∧ wts n d l ≤ M a b := by
  intro l
  induction l with
  | nil =>
    intro a b ha _ hw
    cases hw
    have := h.diag a ha
    exact ⟨ha, by unfold NONE; omega, by rw [wts_nil]; exact this⟩
  | cons r l ih =>
    intro a b ha hl hw
    have hrm := hl r (List.mem_cons_self ..)
    have hrv := ext_rv hp.1 hp.2.2.2 r hrm
    have b2 : r.b.toNat < p.n.toNat := by have := hrv.2.2.1; have := hrv.2.2.2.1; omega
    obtain ⟨i1, i2, i3⟩ := ih _ _ b2 (fun r hr => hl r (List.mem_cons_of_mem _ hr)) hw.2
    obtain ⟨e1, e2⟩ := h.edge r hrm
    rw [hw.1, Int.toNat_natCast] at e1 e2
    obtain ⟨t1, t2⟩ := h.tri _ a b b2 b2 ha i1 e1 i2
    exact ⟨i1, t1, by rw [wts_cons]; omega⟩

theorem walk_end {p : Pat} (hp : PValid p) : ∀ (l : List Rul) (a b : Nat), l ≠ [] → (∀ r ∈ l, r ∈ ext p) → isWalk l a b → a < p.n.toNat ∧ b < p.n.toNat := by
  intro l
  induction l with
  | nil => intro a b h; exact absurd rfl h
  | cons r l ih =>
    intro a b _ hl hw
    have hrm := hl r (List.mem_cons_self ..)
    have hrv := ext_rv hp.1 hp.2.2.2 r hrm
    have b1 : a < p.n.toNat := by have := hw.1; have := hrv.2.1; omega
    have b2 : r.b.toNat < p.n.toNat := by have := hrv.2.2.1; have := hrv.2.2.2.1; omega
    cases l with
    | nil => have := hw.2; cases this; exact ⟨b1, b2⟩
    | cons r2 l2 => exact ⟨b1, (ih _ _ (by simp) (fun r hr => hl r (List.mem_cons_of_mem _ hr)) hw.2).2⟩

/-- chains reports a loop with a weight above 0 just where there is one. -/
theorem chBad_iff {p : Pat} {n d : Int} (hp : PValid p) (hs : FSize n d) : chBad p n d = false ↔ NoPos p n d := by
  constructor
  · intro hb l a hl hw
    by_cases hne : l = []
    · subst hne; exact Int.le_refl _
    · obtain ⟨ha, _⟩ := walk_end hp l a a hne hl hw
      have h1 := (finv_walk hp (finv_good hp hs hb) l a a ha hl hw).2.2
      have h2 := chBad_false.1 hb a ha
      omega
  · intro hn
    refine chBad_false.2 fun a ha => ?_
    have hi := finv_nopos hp hs hn
    have h0 := hi.diag a ha
    obtain ⟨l, l1, l2, l3⟩ := hi.wk a a ha ha (by unfold NONE; omega)
    have := hn l a l1 l2
    omega

theorem chain_greatest {p : Pat} {n d : Int} (hp : PValid p) (hs : FSize n d) (hb : chBad p n d = false) : Greatest p n d (fun v => chainM p n d v 0) := by
  intro v hv
  have hi := finv_good hp hs hb
  have h0 : 0 < p.n.toNat := by omega
  refine ⟨?_, fun l hl hw => (finv_walk hp hi l v 0 hv hl hw).2.2⟩
  obtain ⟨l, l1, l2, _⟩ := to_zero (p := p) n d hv
  exact hi.wk v 0 hv h0 (finv_walk hp hi l v 0 hv l1 l2).2.1

end Go.Proofs.Ytmknengmjepdaaa

/- Walk of grade.Pattern.rule. -/
namespace Go.Proofs.Ytmknengmjepdaaa
open Go.RowKit

set_option maxHeartbeats 1000000 in
theorem rule_any (p : Pat) (k : Int) (v : Value) (w : World) (h : PatF 0 w v p) (h1 : -16 ≤ k) (h2 : k < p.rules.length) :
    Calls Try.prog 113 #[v, .int .i64 k] w fun e w' => e = .returned (ruV (numRule p k)) ∧ Below w.heap.size w w' := by
  obtain ⟨ao, cap, rfl, hcap, hmax, hc⟩ := h.shape
  unfold maxLen at hmax
  clear h
  obtain ⟨L, hL⟩ : ∃ L, p.rules.length = L := ⟨_, rfl⟩
  have HL := hid hL
  rw [hL] at hcap h2 ⊢
  clear hL
  have hB : ∀ o1 o2, Below w.heap.size w ((w.alloc o1).alloc o2) := fun o1 o2 => ((Below.refl _ _).alloc (Nat.le_refl _) _).alloc (by simp) _
  have HB := hid hB
  clear hB
  by_cases hk : k < 0
  · have hn : numRule p k = ⟨-k, 0, 0, 0⟩ := by unfold numRule; rw [if_pos hk]
    rw [hn]
    clear hn
    go_enter Try.func113, Try.ntmps113
    go_wp2
    obtain ⟨W, hW, -, k1, -, -⟩ := one_new w #[.int .i64 p.n, .slice ao L cap] #[.int .i64 (-k), .int .i64 0, .int .i64 0, .int .i64 0] 33 92
    have hBW : Below w.heap.size w W := by rw [← hW]; exact HB.out _ _
    have c0 := k1.look 0 rfl
    have c1 := k1.look 1 rfl
    have c2 := k1.look 2 rfl
    have c3 := k1.look 3 rfl
    rw [hW]
    exact bodyPost_ret (v := .agg #[.int .i64 (-k), .int .i64 0, .int .i64 0, .int .i64 0]) (by simp [results, Try.results113, go_sem, c0, c1, c2, c3]) rfl ⟨rfl, hBW⟩
  · obtain ⟨i, rfl⟩ : ∃ i : Nat, k = i := ⟨k.toNat, by omega⟩
    obtain ⟨r, hr⟩ := ex_rule (l := p.rules) (i := i) (by rw [HL.out]; omega)
    obtain ⟨b, off, rfl, hb, d0, d1, d2, d3⟩ := ru_cell hc hr
    have hn : numRule p (i : Int) = r := by
      unfold numRule
      rw [if_neg hk, Int.toNat_natCast, List.getD_eq_getElem?_getD, hr]; rfl
    rw [hn]
    have e0 := ((HB.out (.cells #[.int .i64 p.n, .slice (some ⟨b, off, none⟩) L cap] 33) (.cells #[.int .i64 0, .int .i64 0, .int .i64 0, .int .i64 0] 92)).cell (p := ⟨b, off + i * 4, none⟩) hb).trans d0
    have e1 := ((HB.out (.cells #[.int .i64 p.n, .slice (some ⟨b, off, none⟩) L cap] 33) (.cells #[.int .i64 0, .int .i64 0, .int .i64 0, .int .i64 0] 92)).cell (p := ⟨b, off + i * 4 + 1, none⟩) hb).trans d1
    have e2 := ((HB.out (.cells #[.int .i64 p.n, .slice (some ⟨b, off, none⟩) L cap] 33) (.cells #[.int .i64 0, .int .i64 0, .int .i64 0, .int .i64 0] 92)).cell (p := ⟨b, off + i * 4 + 2, none⟩) hb).trans d2
    have e3 := ((HB.out (.cells #[.int .i64 p.n, .slice (some ⟨b, off, none⟩) L cap] 33) (.cells #[.int .i64 0, .int .i64 0, .int .i64 0, .int .i64 0] 92)).cell (p := ⟨b, off + i * 4 + 3, none⟩) hb).trans d3
    clear hn hr d0 d1 d2 d3
    obtain ⟨ra, rb, rc, rd⟩ := r
    dsimp only at e0 e1 e2 e3
    have hi : i < L := by omega
    go_enter Try.func113, Try.ntmps113
    go_wp2
    obtain ⟨W, hW, -, k1, -, -⟩ := one_new w #[.int .i64 p.n, .slice (some ⟨b, off, none⟩) L cap] #[.int .i64 ra, .int .i64 rb, .int .i64 rc, .int .i64 rd] 33 92
    have hBW : Below w.heap.size w W := by rw [← hW]; exact HB.out _ _
    have c0 := k1.look 0 rfl
    have c1 := k1.look 1 rfl
    have c2 := k1.look 2 rfl
    have c3 := k1.look 3 rfl
    rw [hW]
    exact bodyPost_ret (v := .agg #[.int .i64 ra, .int .i64 rb, .int .i64 rc, .int .i64 rd]) (by simp [results, Try.results113, go_sem, c0, c1, c2, c3]) rfl ⟨rfl, hBW⟩

end Go.Proofs.Ytmknengmjepdaaa

/- For the walk of grade.Pattern.solve: its memory, and the marks of its ranges over the iterator. -/
namespace Go.Proofs.Ytmknengmjepdaaa
open Go.RowKit Go.Shelf

/-- The mark of one range over the iterator. -/
def mkD (D : Nat) : Deferred := { target := .collected D, args := #[] }
structure Mks (Ds : List Nat) (W : World) : Prop where
  nd : Ds.Nodup
  all : ∀ D ∈ Ds, W.heap[D]? = some (.deferred (some []))
theorem Mks.lt {Ds : List Nat} {W : World} (h : Mks Ds W) {D : Nat} (hD : D ∈ Ds) : D < W.heap.size := (Array.getElem?_eq_some_iff.1 (h.all D hD)).1
theorem Mks.not {Ds : List Nat} {W : World} (h : Mks Ds W) {b : Nat} {cs : Array Value} {t : TypeId} (k : Blk W b cs t) : b ∉ Ds := by
  intro hb
  have h1 := h.all b hb
  rw [show W.heap[b]? = _ from k] at h1
  cases h1
theorem Mks.of {Ds : List Nat} {W W' : World} (h : Mks Ds W) (hb : ∀ D ∈ Ds, W'.heap[D]? = W.heap[D]?) : Mks Ds W' := ⟨h.nd, fun D hD => (hb D hD).trans (h.all D hD)⟩
theorem Mks.below {Ds : List Nat} {W W' : World} (h : Mks Ds W) (hb : Below W.heap.size W W') : Mks Ds W' := h.of fun D hD => hb.block D (h.lt hD)
theorem Mks.set {Ds : List Nat} {W : World} (h : Mks Ds W) {b : Nat} {cs : Array Value} {t : TypeId} (k : Blk W b cs t) (j : Nat) (u : Value) : Mks Ds (W.setCell ⟨b, j, none⟩ u) :=
  h.of fun D hD => Below.heap_setCell W ⟨b, j, none⟩ u D (fun e => h.not k (by have e2 : D = b := e; rw [← e2]; exact hD))

/-- The marks' blocks have been shut; nothing else has changed. -/
structure Shut (Ds : List Nat) (W W' : World) : Prop where
  os : W'.os = W.os
  tape : W'.tape = W.tape
  output : W'.output = W.output
  size : W'.heap.size = W.heap.size
  block : ∀ k, k ∉ Ds → W'.heap[k]? = W.heap[k]?
theorem Shut.below {Ds : List Nat} {W W' : World} {S : Nat} (h : Shut Ds W W') (hs : ∀ D ∈ Ds, S ≤ D) : Below S W W' :=
  ⟨h.os, h.tape, h.output, Nat.le_of_eq h.size.symm, fun k hk => h.block k (fun hm => by have := hs k hm; omega)⟩
theorem Shut.blk {Ds : List Nat} {W W' : World} (h : Shut Ds W W') (hm : Mks Ds W) {b : Nat} {cs : Array Value} {t : TypeId} (k : Blk W b cs t) : Blk W' b cs t := (h.block b (hm.not k)).trans k

theorem leaves_marks {F : Fence} {n : Nat} {P : Program} {fn : Func} {tmps : Array Value} {R : Ending → World → Prop} : ∀ (Ds : List Nat) (W : World), Mks Ds W →
    (∀ W', Shut Ds W W' → ∃ v, (results fn tmps).run P W' = .ok v W' ∧ R (.returned v) W') → LeavesInM F n P fn tmps R (Ds.map mkD) .returning W
  | [], W, _, h => h W ⟨rfl, rfl, rfl, rfl, fun _ _ => rfl⟩
  | D :: Ds, W, hm, h => by
    obtain ⟨hnot, hnd⟩ := List.nodup_cons.1 hm.nd
    refine ⟨by simp, .inl ⟨D, W.putObj D (.deferred none), rfl, run_takeDeferred (hm.all D (List.mem_cons_self ..)), leaves_marks Ds _ ⟨hnd, fun D' hD' => ?_⟩ fun W' hs => h W' ?_⟩⟩
    · have hne : D' ≠ D := fun e => hnot (by rw [← e]; exact hD')
      rw [World.putObj_heap_other hne]
      exact hm.all D' (List.mem_cons_of_mem _ hD')
    · refine ⟨hs.os, hs.tape, hs.output, hs.size.trans World.putObj_size, fun k hk => ?_⟩
      have h1 : k ∉ Ds := fun hh => hk (List.mem_cons_of_mem _ hh)
      have h2 : k ≠ D := fun e => hk (by rw [e]; exact List.mem_cons_self ..)
      rw [hs.block k h1, World.putObj_heap_other h2]

/-- solve's own memory. -/
structure So (W : World) (S N : Nat) (pa : Array Value) (n d : Int) (st : BSt) : Prop where
  kp : Blk W S pa 33
  ks : Blk W (S + 1) #[.int .i64 n, .int .i64 d] 26
  kxb : Blk W (S + 1 + 1) #[.slice (some ⟨S + 1 + 1 + 1, 0, none⟩) N N] 49
  kx : Blk W (S + 1 + 1 + 1) (rowArr N st.x) 3
  kb : Blk W (S + 1 + 1 + 1 + 1) (rowArr N st.by_) 3
  kbb : Blk W (S + 1 + 1 + 1 + 1 + 1) #[.slice (some ⟨S + 1 + 1 + 1 + 1, 0, none⟩) N N] 49
  kl : Blk W (S + 1 + 1 + 1 + 1 + 1 + 1) #[.int .i64 st.last] 3
section
variable {W W' : World} {S N : Nat} {pa : Array Value} {n d : Int} {st : BSt}
theorem So.of (h : So W S N pa n d st) (hb : ∀ b cs t, Blk W b cs t → S ≤ b → b < S + 7 → Blk W' b cs t) : So W' S N pa n d st :=
  ⟨hb _ _ _ h.kp (by omega) (by omega), hb _ _ _ h.ks (by omega) (by omega), hb _ _ _ h.kxb (by omega) (by omega), hb _ _ _ h.kx (by omega) (by omega), hb _ _ _ h.kb (by omega) (by omega), hb _ _ _ h.kbb (by omega) (by omega), hb _ _ _ h.kl (by omega) (by omega)⟩
theorem So.below (h : So W S N pa n d st) (hb : Below W.heap.size W W') : So W' S N pa n d st := h.of fun _ _ _ k _ _ => k.below hb
theorem So.alloc (h : So W S N pa n d st) (o : Obj) : So (W.alloc o) S N pa n d st := h.of fun _ _ _ k _ _ => k.alloc o
theorem So.lt (h : So W S N pa n d st) : S + 7 ≤ W.heap.size := by have := h.kl.lt; omega
theorem So.setLast (h : So W S N pa n d st) (z : Int) : So (W.setCell ⟨S + 1 + 1 + 1 + 1 + 1 + 1, 0, none⟩ (.int .i64 z)) S N pa n d ⟨st.x, st.by_, z⟩ :=
  ⟨h.kp.other (by simp <;> omega) _, h.ks.other (by simp <;> omega) _, h.kxb.other (by simp <;> omega) _, h.kx.other (by simp <;> omega) _, h.kb.other (by simp <;> omega) _, h.kbb.other (by simp) _, h.kl.set 0 _⟩
theorem So.setX (h : So W S N pa n d st) (a : Nat) (z : Int) : So (W.setCell ⟨S + 1 + 1 + 1, a, none⟩ (.int .i64 z)) S N pa n d ⟨updF st.x a z, st.by_, st.last⟩ := by
  refine ⟨h.kp.other (by simp <;> omega) _, h.ks.other (by simp <;> omega) _, h.kxb.other (by simp) _, ?_, h.kb.other (by simp) _, h.kbb.other (by simp <;> omega) _, h.kl.other (by simp <;> omega) _⟩
  have := h.kx.set a (.int .i64 z)
  rw [rowArr_set] at this
  exact this
theorem So.setB (h : So W S N pa n d st) (a : Nat) (z : Int) : So (W.setCell ⟨S + 1 + 1 + 1 + 1, a, none⟩ (.int .i64 z)) S N pa n d ⟨st.x, updF st.by_ a z, st.last⟩ := by
  refine ⟨h.kp.other (by simp <;> omega) _, h.ks.other (by simp <;> omega) _, h.kxb.other (by simp <;> omega) _, h.kx.other (by simp) _, ?_, h.kbb.other (by simp) _, h.kl.other (by simp <;> omega) _⟩
  have := h.kb.set a (.int .i64 z)
  rw [rowArr_set] at this
  exact this
end

theorem blk_own {W W' : World} {row : Option Nat} {b : Nat} {cs : Array Value} {t : TypeId} (h : Blk W b cs t) (hg : W.grownBy W' row) (hr : ∀ r, row = some r → ∃ o : Obj, W.heap[r]? = some o ∧ o.isCells = false) : Blk W' b cs t := by
  refine (hg.block b h.lt (fun e => ?_)).trans h
  obtain ⟨o, ho, hc⟩ := hr b e.symm
  rw [show W.heap[b]? = _ from h] at ho
  cases ho
  cases hc
theorem keeps_of_below {W W' : World} (hb : Below W.heap.size W W') : KeepsOthers W W' := ⟨hb.size, fun k _ hk _ => (hb.block k (Array.getElem?_eq_some_iff.1 hk).1).trans hk⟩

/-- The state behind the rules that have come. -/
def Rel (p : Pat) (n d : Int) (st : BSt) (pre : List (Ent p)) : BSt := (pre.map (·.1)).foldl (relax n d) ⟨st.x, st.by_, -1⟩
theorem Rel_snoc (p : Pat) (n d : Int) (st : BSt) (pre : List (Ent p)) (x : Ent p) : Rel p n d st (pre ++ [x]) = relax n d (Rel p n d st pre) x.1 := by
  unfold Rel; rw [List.map_append, List.foldl_append]; rfl
/-- What lies in memory while the rules come; W0: the world in which the range began. -/
def SoI (p : Pat) (W0 w : World) (S N : Nat) (pa : Array Value) (n d : Int) (st : BSt) (Ds : List Nat) (pre : List (Ent p)) (W : World) : Prop :=
  So W S N pa n d (Rel p n d st pre) ∧ (Mks Ds W ∧ ∀ D ∈ Ds, D < W0.heap.size) ∧ Below S w W ∧ W0.heap.size ≤ W.heap.size
theorem SoI_own (p : Pat) (W0 w : World) (S N : Nat) (pa : Array Value) (n d : Int) (st : BSt) (Ds : List Nat) (hS : S ≤ W0.heap.size) : OwnFrom W0.heap.size (SoI p W0 w S N pa n d st Ds) := by
  rintro pre W W' row ⟨h1, ⟨h2, h2'⟩, h3, h4⟩ hg hr
  refine ⟨h1.of fun b cs t k _ _ => blk_own k hg (fun r e => (hr r e).2), ⟨h2.of fun D hD => ?_, h2'⟩, ?_, Nat.le_trans h4 hg.size⟩
  · refine hg.block D (h2.lt hD) (fun e => ?_)
    have := (hr D e.symm).1
    have := h2' D hD
    omega
  · refine h3.trans ⟨hg.os, hg.tape, hg.output, hg.size, fun k hk => hg.block k (by omega) (fun e => ?_)⟩
    have := (hr k e.symm).1
    omega

end Go.Proofs.Ytmknengmjepdaaa

/- For the walk of grade.Pattern.solve: the three stores of a gain, in whatever order they come up among the reads. -/
namespace Go.Proofs.Ytmknengmjepdaaa
open Go.RowKit Go.Shelf

/-- A region all of whose operations are quiet; calls may lay blocks. -/
theorem wp_region_sub {P : Program} {id : Nat} {Q : Exit → Act → World → Prop} {a : Act} {w : World} {l : List Oper} (hm : P.follows .mixedOrders = true) (hB : Region.lexB .any l.toArray = true)
    (h : wpQuiet P l.toArray (fun w' => ∃ x : Sub w, w' = x.w) (fun a' => ∀ w', (∃ x : Sub w, w' = x.w) → Q .normal a' w') l a) : (Code.region id l.toArray true).wp P Q a w :=
  wp_region_quiet (C := fun w' => ∃ x : Sub w, w' = x.w) hm hB (Sub.first w) (by simpa using h)
/-- The length of a slice value. -/
def lenSl : Value → Nat
  | .slice _ n _ => n
  | _ => 0
theorem updF_idem (f : Nat → Int) (a : Nat) (z : Int) : updF (updF f a z) a z = updF f a z := by
  funext v; unfold updF; split <;> rfl
theorem getD_set_self {L : Array Bool} {i : Nat} (h : i < L.size) : (L.setIfInBounds i true).getD i false = true := by
  rw [Array.getD_eq_getD_getElem?, Array.getElem?_setIfInBounds_self_of_lt h]; rfl

/-- What is done, as far as it has come up. -/
def gainSt (s : BSt) (A : Nat) (y k : Int) (L : Array Bool) : BSt :=
  ⟨if L.getD 11 false = true then updF s.x A y else s.x, if L.getD 13 false = true then updF s.by_ A k else s.by_, if L.getD 14 false = true then (A : Int) else s.last⟩
/-- The class; G: what else is kept. -/
def Gain (S N : Nat) (pa : Array Value) (n d : Int) (s : BSt) (A : Nat) (y k : Int) (G : World → Prop) (L : Array Bool) (W : World) : Prop :=
  L.size = 15 ∧ So W S N pa n d (gainSt s A y k L) ∧ G W
/-- G is kept by the stores. -/
def StoreOk (S : Nat) (G : World → Prop) : Prop := ∀ W b cs t j u, S + 3 ≤ b → b < S + 7 → Blk W b cs t → G W → G (W.setCell ⟨b, j, none⟩ u)
section
variable {S N : Nat} {pa : Array Value} {n d : Int} {s : BSt} {A : Nat} {y k : Int} {G : World → Prop} {L : Array Bool} {W : World}
theorem gain_read {i : Nat} (h1 : i ≠ 11) (h2 : i ≠ 13) (h3 : i ≠ 14) (h : Gain S N pa n d s A y k G L W) : Gain S N pa n d s A y k G (L.setIfInBounds i true) W := by
  obtain ⟨a, b, c⟩ := h
  refine ⟨by simpa using a, ?_, c⟩
  have e : gainSt s A y k (L.setIfInBounds i true) = gainSt s A y k L := by
    unfold gainSt
    rw [Go.getD_set_ne false h1, Go.getD_set_ne false h2, Go.getD_set_ne false h3]
  rw [e]
  exact b
theorem gain_x (hG : StoreOk S G) (h : Gain S N pa n d s A y k G L W) : Gain S N pa n d s A y k G (L.setIfInBounds 11 true) (W.setCell ⟨S + 1 + 1 + 1, A, none⟩ (.int .i64 y)) := by
  obtain ⟨a, b, c⟩ := h
  refine ⟨by simpa using a, ?_, hG W _ _ _ _ _ (by omega) (by omega) b.kx c⟩
  have e : gainSt s A y k (L.setIfInBounds 11 true) = ⟨updF (gainSt s A y k L).x A y, (gainSt s A y k L).by_, (gainSt s A y k L).last⟩ := by
    unfold gainSt
    rw [getD_set_self (by omega), Go.getD_set_ne false (by decide), Go.getD_set_ne false (by decide), if_pos rfl]
    congr 1
    dsimp only
    split
    · rw [updF_idem]
    · rfl
  rw [e]
  exact b.setX A y
theorem gain_b (hG : StoreOk S G) (h : Gain S N pa n d s A y k G L W) : Gain S N pa n d s A y k G (L.setIfInBounds 13 true) (W.setCell ⟨S + 1 + 1 + 1 + 1, A, none⟩ (.int .i64 k)) := by
  obtain ⟨a, b, c⟩ := h
  refine ⟨by simpa using a, ?_, hG W _ _ _ _ _ (by omega) (by omega) b.kb c⟩
  have e : gainSt s A y k (L.setIfInBounds 13 true) = ⟨(gainSt s A y k L).x, updF (gainSt s A y k L).by_ A k, (gainSt s A y k L).last⟩ := by
    unfold gainSt
    rw [getD_set_self (by omega), Go.getD_set_ne false (by decide), Go.getD_set_ne false (by decide), if_pos rfl]
    congr 1
    dsimp only
    split
    · rw [updF_idem]
    · rfl
  rw [e]
  exact b.setB A k
theorem gain_l (hG : StoreOk S G) (h : Gain S N pa n d s A y k G L W) : Gain S N pa n d s A y k G (L.setIfInBounds 14 true) (W.setCell ⟨S + 1 + 1 + 1 + 1 + 1 + 1, 0, none⟩ (.int .i64 (A : Int))) := by
  obtain ⟨a, b, c⟩ := h
  refine ⟨by simpa using a, ?_, hG W _ _ _ _ _ (by omega) (by omega) b.kl c⟩
  have e : gainSt s A y k (L.setIfInBounds 14 true) = ⟨(gainSt s A y k L).x, (gainSt s A y k L).by_, (A : Int)⟩ := by
    unfold gainSt
    rw [getD_set_self (by omega), Go.getD_set_ne false (by decide), Go.getD_set_ne false (by decide), if_pos rfl]
  rw [e]
  exact b.setLast A
theorem gain_end (h : Gain S N pa n d s A y k G L W) (hL : ∀ j, j < 15 → L.getD j false = true) : So W S N pa n d ⟨updF s.x A y, updF s.by_ A k, (A : Int)⟩ ∧ G W := by
  obtain ⟨_, b, c⟩ := h
  unfold gainSt at b
  rw [hL 11 (by decide), hL 13 (by decide), hL 14 (by decide), if_pos rfl, if_pos rfl, if_pos rfl] at b
  exact ⟨b, c⟩
end

end Go.Proofs.Ytmknengmjepdaaa
