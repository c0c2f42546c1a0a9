/- The ways from an unknown along rules that hold with equality, breadth first: plainly. -/
import Derived.Test.YtmknengmjepdaaaVa
namespace Go.Proofs.Ytmknengmjepdaaa
open Go.RowKit

/-- A rule holds with equality for the least measures. -/
def Tgt (p : Pat) (n d : Int) (r : Rul) : Prop := chainM p n d r.a.toNat 0 - chainM p n d r.b.toNat 0 = wt r n d
instance (p : Pat) (n d : Int) (r : Rul) : Decidable (Tgt p n d r) := by unfold Tgt; infer_instance

/-- What the search holds: the unknowns met, and the ways to them. -/
structure BF where
  at_ : List Nat
  ways : List (List (Int × Rul))
/-- One rule seen from the m-th unknown. -/
def bstep (p : Pat) (n d : Int) (m : Nat) (s : BF) (e : Int × Rul) : BF :=
  if e.2.a.toNat = s.at_.getD m 0 ∧ e.2.b.toNat ∉ s.at_ ∧ Tgt p n d e.2 then ⟨s.at_ ++ [e.2.b.toNat], s.ways ++ [s.ways.getD m [] ++ [e]]⟩ else s

theorem vert_snoc : ∀ (l : List Rul) (r : Rul) (a t : Nat), t ≤ l.length → vert (l ++ [r]) a t = vert l a t
  | [], r, a, t, h => by
    have : t = 0 := by simpa using h
    subst this
    rw [vert_zero, vert_zero]
  | x :: l, r, a, 0, _ => by rw [vert_zero, vert_zero]
  | x :: l, r, a, t + 1, h => by
    show vert (l ++ [r]) x.b.toNat t = vert l x.b.toNat t
    exact vert_snoc l r x.b.toNat t (by simpa using h)

/-- A way from i to v: its unknowns are among those met, and differ from v and from each other. -/
structure Way (p : Pat) (n d : Int) (at_ : List Nat) (i v : Nat) (es : List (Int × Rul)) : Prop where
  mem : ∀ e ∈ es, e ∈ allL p ∧ Tgt p n d e.2
  walk : isWalk (es.map (·.2)) i v
  dist : ∀ s t, s < t → t ≤ es.length → vert (es.map (·.2)) i s ≠ vert (es.map (·.2)) i t
  met : ∀ s, s ≤ es.length → vert (es.map (·.2)) i s ∈ at_
theorem Way.more {p : Pat} {n d : Int} {at_ at' : List Nat} {i v : Nat} {es : List (Int × Rul)} (h : Way p n d at_ i v es) (ha : ∀ x ∈ at_, x ∈ at') : Way p n d at' i v es := ⟨h.mem, h.walk, h.dist, fun s hs => ha _ (h.met s hs)⟩
theorem Way.snoc {p : Pat} {n d : Int} {at_ : List Nat} {i v : Nat} {es : List (Int × Rul)} {e : Int × Rul} (h : Way p n d at_ i v es) (he : e ∈ allL p) (ht : Tgt p n d e.2) (ha : e.2.a = (v : Int)) (hb : e.2.b.toNat ∉ at_) :
    Way p n d (at_ ++ [e.2.b.toNat]) i e.2.b.toNat (es ++ [e]) := by
  have hw : isWalk ((es ++ [e]).map (·.2)) i e.2.b.toNat := by
    rw [List.map_append]
    exact isWalk_append h.walk ⟨ha, rfl⟩
  have hend : vert ((es ++ [e]).map (·.2)) i (es.length + 1) = e.2.b.toNat := by
    have := chain_end hw
    rwa [List.length_append] at this
  have hold : ∀ s, s ≤ es.length → vert ((es ++ [e]).map (·.2)) i s = vert (es.map (·.2)) i s := by
    intro s hs
    rw [List.map_append]
    exact vert_snoc _ _ _ _ (by rw [List.length_map]; exact hs)
  refine ⟨fun x hx => ?_, hw, fun s t hst ht => ?_, fun s hs => ?_⟩
  · rcases List.mem_append.1 hx with hx | hx
    · exact h.mem x hx
    · obtain rfl : x = e := by simpa using hx
      exact ⟨he, ht⟩
  · rw [List.length_append] at ht
    have ht' : t ≤ es.length + 1 := ht
    by_cases h1 : t ≤ es.length
    · rw [hold s (by omega), hold t h1]
      exact h.dist s t hst h1
    · obtain rfl : t = es.length + 1 := by omega
      rw [hend, hold s (by omega)]
      exact fun e1 => hb (by rw [← e1]; exact h.met s (by omega))
  · rw [List.length_append] at hs
    have hs' : s ≤ es.length + 1 := hs
    by_cases h1 : s ≤ es.length
    · rw [hold s h1]
      exact List.mem_append.2 (.inl (h.met s h1))
    · obtain rfl : s = es.length + 1 := by omega
      rw [hend]
      simp

/-- What holds of the search while the m-th unknown is seen, the rules of pre behind it. -/
structure BOk (p : Pat) (n d : Int) (i m : Nat) (pre : List (Int × Rul)) (s : BF) : Prop where
  nd : s.at_.Nodup
  lt : ∀ v ∈ s.at_, v < p.n.toNat
  len : s.ways.length = s.at_.length
  head : s.at_[0]? = some i
  way : ∀ (j v : Nat) (es : List (Int × Rul)), s.at_[j]? = some v → s.ways[j]? = some es → Way p n d s.at_ i v es
  closed : ∀ (j v : Nat), j < m → s.at_[j]? = some v → ∀ e ∈ allL p, e.2.a = (v : Int) → Tgt p n d e.2 → e.2.b.toNat ∈ s.at_
  seen : ∀ (v : Nat), s.at_[m]? = some v → ∀ e ∈ pre, e.2.a = (v : Int) → Tgt p n d e.2 → e.2.b.toNat ∈ s.at_
theorem bok_start {p : Pat} {n d : Int} {i : Nat} (hi : i < p.n.toNat) : BOk p n d i 0 [] ⟨[i], [[]]⟩ := by
  refine ⟨by simp, fun v hv => ?_, rfl, rfl, fun j v es h1 h2 => ?_, fun j v hj => (by omega), fun v _ e he => (by cases he)⟩
  · obtain rfl : v = i := by simpa using hv
    exact hi
  · cases j with
    | succ j => simp at h1
    | zero =>
      obtain rfl : i = v := by simpa using h1
      obtain rfl : [] = es := by simpa using h2
      exact ⟨fun e he => (by cases he), rfl, fun s t h1 h2 => (by simp at h2; omega), fun s hs => by
        have : s = 0 := by simpa using hs
        subst this
        simp [vert]⟩
theorem bok_len {p : Pat} {n d : Int} {i m : Nat} {pre : List (Int × Rul)} {s : BF} (h : BOk p n d i m pre s) : s.at_.length ≤ p.n.toNat := by
  have h1 := h.nd
  have h2 : s.at_ ⊆ List.range p.n.toNat := fun v hv => List.mem_range.2 (h.lt v hv)
  have := h1.length_le_of_subset h2
  rwa [List.length_range] at this
theorem bok_step {p : Pat} {n d : Int} {i m : Nat} {pre : List (Int × Rul)} {s : BF} (hp : PValid p) (h : BOk p n d i m pre s) (hm : m < s.at_.length) {e : Int × Rul} (he : e ∈ allL p) : BOk p n d i m (pre ++ [e]) (bstep p n d m s e) := by
  have hrv := allL_RV hp he
  have hgd : s.at_[m]? = some (s.at_.getD m 0) := by rw [List.getD_eq_getElem?_getD, List.getElem?_eq_getElem hm]; rfl
  have hwm : m < s.ways.length := by rw [h.len]; exact hm
  have hgw : s.ways[m]? = some (s.ways.getD m []) := by rw [List.getD_eq_getElem?_getD, List.getElem?_eq_getElem hwm]; rfl
  unfold bstep
  by_cases hc : e.2.a.toNat = s.at_.getD m 0 ∧ e.2.b.toNat ∉ s.at_ ∧ Tgt p n d e.2
  · rw [if_pos hc]
    obtain ⟨c1, c2, c3⟩ := hc
    have ha : e.2.a = ((s.at_.getD m 0 : Nat) : Int) := by have := hrv.1; omega
    have sub : ∀ x ∈ s.at_, x ∈ s.at_ ++ [e.2.b.toNat] := fun x hx => List.mem_append.2 (.inl hx)
    have old : ∀ {j v}, (s.at_ ++ [e.2.b.toNat])[j]? = some v → j < s.at_.length → s.at_[j]? = some v := fun hh hj => by rwa [List.getElem?_append_left hj] at hh
    refine ⟨?_, fun v hv => ?_, by simp [h.len], ?_, fun j v es h1 h2 => ?_, fun j v hj hv x hx hxa hxt => ?_, fun v hv x hx hxa hxt => ?_⟩
    · rw [List.nodup_append]
      refine ⟨h.nd, by simp, fun a ha b hb => ?_⟩
      obtain rfl : b = e.2.b.toNat := by simpa using hb
      exact fun e1 => c2 (by rw [← e1]; exact ha)
    · rcases List.mem_append.1 hv with hv | hv
      · exact h.lt v hv
      · obtain rfl : v = e.2.b.toNat := by simpa using hv
        have := hrv.2.2.1
        have := hrv.2.2.2.1
        omega
    · rw [List.getElem?_append_left (by omega)]
      exact h.head
    · by_cases hj : j < s.at_.length
      · dsimp only at h1 h2
        rw [List.getElem?_append_left hj] at h1
        rw [List.getElem?_append_left (by rw [h.len]; exact hj)] at h2
        exact (h.way j v es h1 h2).more sub
      · dsimp only at h1 h2
        rw [List.getElem?_append_right (by omega)] at h1
        rw [List.getElem?_append_right (by rw [h.len]; omega)] at h2
        have hj2 : j - s.at_.length = 0 := by
          have := (List.getElem?_eq_some_iff.1 h1).1
          simpa using this
        rw [hj2] at h1
        rw [h.len, hj2] at h2
        obtain rfl : e.2.b.toNat = v := by simpa using h1
        obtain rfl : s.ways.getD m [] ++ [e] = es := by simpa using h2
        exact (h.way m _ _ hgd hgw).snoc he c3 ha c2
    · exact sub _ (h.closed j v hj (old hv (by omega)) x hx hxa hxt)
    · have hv' := old hv hm
      rcases List.mem_append.1 hx with hx | hx
      · exact sub _ (h.seen v hv' x hx hxa hxt)
      · obtain rfl : x = e := by simpa using hx
        simp
  · rw [if_neg hc]
    refine ⟨h.nd, h.lt, h.len, h.head, h.way, h.closed, fun v hv x hx hxa hxt => ?_⟩
    rcases List.mem_append.1 hx with hx | hx
    · exact h.seen v hv x hx hxa hxt
    · obtain rfl : x = e := by simpa using hx
      apply Decidable.byContradiction
      intro hn
      rw [hgd, Option.some.injEq] at hv
      exact hc ⟨by rw [hxa, hv]; simp, hn, hxt⟩
theorem bok_next {p : Pat} {n d : Int} {i m : Nat} {s : BF} (h : BOk p n d i m (allL p) s) : BOk p n d i (m + 1) [] s := by
  refine ⟨h.nd, h.lt, h.len, h.head, h.way, fun j v hj hv x hx hxa hxt => ?_, fun v _ e he => (by cases he)⟩
  by_cases hjm : j < m
  · exact h.closed j v hjm hv x hx hxa hxt
  · obtain rfl : j = m := by omega
    exact h.seen v hv x hx hxa hxt

/-- All the rules of a heaviest chain hold with equality. -/
theorem tight_of {p : Pat} {n d : Int} {x : Nat → Int} (hf : Fixed p n d x) : ∀ (l : List Rul) (a b : Nat), (∀ r ∈ l, r ∈ ext p) → isWalk l a b → wts n d l = x a - x b → ∀ r ∈ l, x r.a.toNat - x r.b.toNat = wt r n d
  | [], _, _, _, _, _, r, hr => by cases hr
  | r :: l, a, b, hl, hw, he, r', hr' => by
    have h1 := hf r (hl r (List.mem_cons_self ..))
    have h2 := fixed_walk hf l r.b.toNat b (fun x hx => hl x (List.mem_cons_of_mem _ hx)) hw.2
    have ha : r.a.toNat = a := by rw [hw.1]; simp
    rw [wts_cons] at he
    rcases List.mem_cons.1 hr' with rfl | hm
    · rw [ha] at h1 ⊢
      omega
    · exact tight_of hf l r.b.toNat b (fun x hx => hl x (List.mem_cons_of_mem _ hx)) hw.2 (by rw [ha] at h1; omega) r' hm
theorem chain_fixed {p : Pat} {n d : Int} (hp : PValid p) (hs : FSize n d) (hb : chBad p n d = false) : Fixed p n d (fun v => chainM p n d v 0) := by
  intro r hr
  have hg := chain_greatest hp hs hb
  have hrv := ext_rv hp.1 hp.2.2.2 r hr
  obtain ⟨⟨l, h1, h2, h3⟩, _⟩ := hg r.b.toNat (by have := hrv.2.2.1; have := hrv.2.2.2.1; omega)
  have := (hg r.a.toNat (by have := hrv.1; have := hrv.2.1; omega)).2 (r :: l) (fun x hx => by
    rcases List.mem_cons.1 hx with rfl | hx
    · exact hr
    · exact h1 x hx) ⟨by have := hrv.1; omega, h2⟩
  rw [wts_cons, h3] at this
  dsimp only at this ⊢
  omega
theorem chain_zero {p : Pat} {n d : Int} (hp : PValid p) (hs : FSize n d) (hb : chBad p n d = false) : chainM p n d 0 0 = 0 := by
  have h1 := chBad_false.1 hb 0 (by have := hp.1; omega)
  have h2 := (finv_good hp hs hb).diag 0 (by have := hp.1; omega)
  omega
/-- Where no unknown is left to be seen, unknown 0 has been met. -/
theorem bok_zero {p : Pat} {n d : Int} {i m : Nat} {pre : List (Int × Rul)} {s : BF} (hp : PValid p) (hs : FSize n d) (hb : chBad p n d = false) (h : BOk p n d i m pre s) (hm : s.at_.length ≤ m) : 0 ∈ s.at_ := by
  have hi : i ∈ s.at_ := List.mem_of_getElem? h.head
  obtain ⟨⟨l, h1, h2, h3⟩, _⟩ := chain_greatest hp hs hb i (h.lt i hi)
  have ht := tight_of (chain_fixed hp hs hb) l i 0 h1 h2 (by rw [chain_zero hp hs hb, h3]; dsimp only; omega)
  have key : ∀ (l : List Rul) (a : Nat), (∀ r ∈ l, r ∈ ext p) → (∀ r ∈ l, Tgt p n d r) → isWalk l a 0 → a ∈ s.at_ → 0 ∈ s.at_ := by
    intro l
    induction l with
    | nil => intro a _ _ hw ha; cases hw; exact ha
    | cons r l ih =>
      intro a hl hlt hw ha
      obtain ⟨j, hj⟩ := List.getElem?_of_mem ha
      have hjl := (List.getElem?_eq_some_iff.1 hj).1
      obtain ⟨k, hk⟩ := ext_allL (hl r (List.mem_cons_self ..))
      exact ih r.b.toNat (fun x hx => hl x (List.mem_cons_of_mem _ hx)) (fun x hx => hlt x (List.mem_cons_of_mem _ hx)) hw.2 (h.closed j a (by omega) hj _ hk hw.1 (hlt r (List.mem_cons_self ..)))
  exact key l i h1 ht h2 hi
/-- A way's weight is the difference of the measures. -/
theorem way_wts {p : Pat} {n d : Int} : ∀ (es : List (Int × Rul)) (a b : Nat), (∀ e ∈ es, Tgt p n d e.2) → isWalk (es.map (·.2)) a b → wts n d (es.map (·.2)) = chainM p n d a 0 - chainM p n d b 0
  | [], a, b, _, hw => by cases hw; rw [List.map_nil, wts_nil]; omega
  | e :: es, a, b, ht, hw => by
    have h1 := way_wts es e.2.b.toNat b (fun x hx => ht x (List.mem_cons_of_mem _ hx)) hw.2
    have h2 := ht e (List.mem_cons_self ..)
    have ha : e.2.a.toNat = a := by have := hw.1; simp only at this; rw [this]; simp
    unfold Tgt at h2
    rw [ha] at h2
    rw [List.map_cons, wts_cons, h1]
    omega
theorem way_ok {p : Pat} {n d : Int} {at_ : List Nat} {i v : Nat} {es : List (Int × Rul)} (h : Way p n d at_ i v es) : OkChain p es i v :=
  ⟨fun e he => (h.mem e he).1, h.walk, fun s t hst ht => h.dist s t hst (Nat.le_of_lt ht)⟩
theorem way_len {p : Pat} {n d : Int} {i m j v : Nat} {pre : List (Int × Rul)} {s : BF} {es : List (Int × Rul)} (h : BOk p n d i m pre s) (h1 : s.at_[j]? = some v) (h2 : s.ways[j]? = some es) : es.length + 1 ≤ p.n.toNat := by
  have hw := h.way j v es h1 h2
  have hnd : ((List.range (es.length + 1)).map (vert (es.map (·.2)) i)).Nodup := by
    rw [List.nodup_iff_pairwise_ne, List.pairwise_iff_getElem]
    intro s t hs ht hst
    rw [List.getElem_map, List.getElem_map, List.getElem_range, List.getElem_range]
    rw [List.length_map, List.length_range] at ht
    exact hw.dist s t hst (by omega)
  have hsub : (List.range (es.length + 1)).map (vert (es.map (·.2)) i) ⊆ List.range p.n.toNat := by
    intro v hv
    obtain ⟨s, hs, rfl⟩ := List.mem_map.1 hv
    exact List.mem_range.2 (h.lt _ (hw.met s (by have := List.mem_range.1 hs; omega)))
  have := hnd.length_le_of_subset hsub
  rwa [List.length_map, List.length_range, List.length_range] at this

end Go.Proofs.Ytmknengmjepdaaa
