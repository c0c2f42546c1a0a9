/- Bellman and Ford, plainly: what a pass without gain means; the loop that N + 1 passes with gain leave. -/
import Derived.Test.YtmknengmjepdaaaTa
namespace Go.Proofs.Ytmknengmjepdaaa
open Go.RowKit

theorem binv_take {p : Pat} {n d : Int} (hp : PValid p) (hs : FSize n d) {k s : Nat} {st : BSt} {T c : Nat → Nat} {t : Nat} (h : BInv p n d k 0 s st T c t) (hsm : s + (allL p).length ≤ 100000) :
    ∀ j, j ≤ (allL p).length → ∃ T' c' t', BInv p n d k j (s + j) (((allL p).take j).foldl (relax n d) st) T' c' t' := by
  intro j
  induction j with
  | zero => intro _; exact ⟨T, c, t, by simpa using h⟩
  | succ j ih =>
    intro hj
    obtain ⟨T', c', t', h'⟩ := ih (by omega)
    obtain ⟨T2, c2, t2, h2⟩ := binv_step hp hs (by omega) h' (List.getElem?_eq_getElem (by omega))
    refine ⟨T2, c2, t2, ?_⟩
    rw [List.take_succ_eq_append_getElem (by omega), List.foldl_append]
    exact h2
theorem binv_pass {p : Pat} {n d : Int} (hp : PValid p) (hs : FSize n d) {k s : Nat} {st : BSt} {T c : Nat → Nat} {t : Nat} (h : BInv p n d k (allL p).length s st T c t) (hsm : s + (allL p).length ≤ 100000) :
    ∃ T' c' t', BInv p n d (k + 1) (allL p).length (s + (allL p).length) (pass p n d st) T' c' t' := by
  have := binv_take hp hs (binv_start h) hsm _ (Nat.le_refl _)
  rw [List.take_length] at this
  exact this
theorem allL_small {p : Pat} (hp : PValid p) : (allL p).length ≤ 79 := by
  have h1 := hp.2.1
  have h2 := hp.2.2.1
  rw [allL_len]; omega
theorem binv_bf {p : Pat} {n d : Int} (hp : PValid p) (hs : FSize n d) : ∀ k, k ≤ 17 → ∃ T c t, BInv p n d k (allL p).length (k * (allL p).length) (bf p n d k) T c t := by
  intro k
  induction k with
  | zero => intro _; exact ⟨_, _, _, by rw [Nat.zero_mul]; exact binv_init p n d⟩
  | succ k ih =>
    intro hk
    obtain ⟨T, c, t, h⟩ := ih (by omega)
    have hE := allL_small hp
    have hm : k * (allL p).length ≤ 16 * 79 := Nat.mul_le_mul (by omega) hE
    obtain ⟨T', c', t', h'⟩ := binv_pass hp hs h (by omega)
    exact ⟨T', c', t', by rw [Nat.succ_mul]; exact h'⟩

/-- Every rule is satisfied. -/
def Fixed (p : Pat) (n d : Int) (x : Nat → Int) : Prop := ∀ r ∈ ext p, x r.b.toNat + wt r n d ≤ x r.a.toNat
theorem fixed_of_last {p : Pat} {n d : Int} {k s : Nat} {st : BSt} {T c : Nat → Nat} {t : Nat} (h : BInv p n d (k + 1) (allL p).length s st T c t) (hl : st.last < 0) : Fixed p n d st.x := by
  intro r hr
  obtain ⟨m, hm⟩ := ext_allL hr
  have hc : ∀ v, c v < k + 1 := by
    rcases h.lst with ⟨_, h2⟩ | ⟨v, _, h2, _⟩
    · intro v
      rcases h2 v with h3 | h3
      · exact h3
      · omega
    · omega
  exact h.new (m, r) (by rw [List.take_length]; exact hm) (by have := hc r.b.toNat; dsimp only; omega)
theorem fixed_walk {p : Pat} {n d : Int} {x : Nat → Int} (h : Fixed p n d x) : ∀ (l : List Rul) (a b : Nat), (∀ r ∈ l, r ∈ ext p) → isWalk l a b → x b + wts n d l ≤ x a := by
  intro l
  induction l with
  | nil => intro a b _ hw; cases hw; rw [wts_nil]; omega
  | cons r l ih =>
    intro a b hl hw
    have h1 := ih _ _ (fun r hr => hl r (List.mem_cons_of_mem _ hr)) hw.2
    have h2 := h r (hl r (List.mem_cons_self ..))
    rw [hw.1, Int.toNat_natCast] at h2
    rw [wts_cons]
    omega
theorem fixed_nopos {p : Pat} {n d : Int} {x : Nat → Int} (h : Fixed p n d x) : NoPos p n d := by
  intro l a hl hw
  have := fixed_walk h l a a hl hw
  omega
theorem ground_mem {p : Pat} {u : Nat} (h0 : 1 ≤ u) (hu : u < p.n.toNat) : ground u ∈ ext p := by
  unfold ext
  refine List.mem_append.2 (.inr (List.mem_map.2 ⟨u - 1, List.mem_range.2 (by omega), ?_⟩))
  rw [Nat.sub_add_cancel h0]
theorem ground_wt (u : Nat) (n d : Int) : wt (ground u) n d = 0 := by simp [wt, ground]
/-- From each unknown a chain of weight 0 leads to unknown 0. -/
theorem to_zero {p : Pat} (n d : Int) {u : Nat} (hu : u < p.n.toNat) : ∃ l, (∀ r ∈ l, r ∈ ext p) ∧ isWalk l u 0 ∧ wts n d l = 0 := by
  by_cases h0 : u = 0
  · subst h0; exact ⟨[], by simp, rfl, rfl⟩
  · refine ⟨[ground u], by simpa using ground_mem (by omega) hu, ⟨rfl, rfl⟩, by rw [wts_cons, ground_wt, wts_nil]; rfl⟩
/-- x is the greatest weight of a chain to 0. -/
def Greatest (p : Pat) (n d : Int) (x : Nat → Int) : Prop := ∀ v, v < p.n.toNat → (∃ l, (∀ r ∈ l, r ∈ ext p) ∧ isWalk l v 0 ∧ wts n d l = x v) ∧ ∀ l, (∀ r ∈ l, r ∈ ext p) → isWalk l v 0 → wts n d l ≤ x v
theorem greatest_unique {p : Pat} {n d : Int} {x y : Nat → Int} (h : Greatest p n d x) (k : Greatest p n d y) : ∀ v, v < p.n.toNat → x v = y v := by
  intro v hv
  obtain ⟨⟨l, h1, h2, h3⟩, h4⟩ := h v hv
  obtain ⟨⟨m, k1, k2, k3⟩, k4⟩ := k v hv
  have := h4 m k1 k2
  have := k4 l h1 h2
  omega
theorem mem_app {p : Pat} {l m : List Rul} (h : ∀ r ∈ l, r ∈ ext p) (k : ∀ r ∈ m, r ∈ ext p) : ∀ r ∈ l ++ m, r ∈ ext p := fun r hr => (List.mem_append.1 hr).elim (h r) (k r)
theorem fixed_greatest {p : Pat} {n d : Int} {k done s : Nat} {st : BSt} {T c : Nat → Nat} {t : Nat} (h1 : 1 ≤ p.n) (h : BInv p n d k done s st T c t) (hf : Fixed p n d st.x) : Greatest p n d st.x := by
  have hz : st.x 0 = 0 := by
    obtain ⟨l, u, a1, a2, a3, a4⟩ := h.wk 0 (by omega)
    obtain ⟨m, b1, b2, b3⟩ := to_zero (p := p) n d a3
    have := fixed_nopos hf (l ++ m) 0 (mem_app a1 b1) (isWalk_append a2 b2)
    rw [wts_append, b3] at this
    have := (h.bd 0).1
    omega
  intro v hv
  constructor
  · obtain ⟨l, u, a1, a2, a3, a4⟩ := h.wk v hv
    obtain ⟨m, b1, b2, b3⟩ := to_zero (p := p) n d a3
    exact ⟨l ++ m, mem_app a1 b1, isWalk_append a2 b2, by rw [wts_append, b3]; omega⟩
  · intro l hl hw
    have := fixed_walk hf l v 0 hl hw
    omega

/-- The unknown behind v. -/
def par (p : Pat) (st : BSt) (v : Nat) : Nat := (numRule p (st.by_ v)).b.toNat
def parN (p : Pat) (st : BSt) (v : Nat) : Nat → Nat
  | 0 => v
  | i + 1 => par p st (parN p st v i)
theorem parN_add (p : Pat) (st : BSt) (v i j : Nat) : parN p st v (i + j) = parN p st (parN p st v i) j := by
  induction j with
  | zero => rfl
  | succ j ih => show par p st (parN p st v (i + j)) = _; rw [ih]; rfl
/-- v has gained by one of the rules. -/
def Gained (p : Pat) (st : BSt) (v : Nat) : Prop := v < p.n.toNat ∧ ∃ e ∈ allL p, e.1 = st.by_ v ∧ e.2.a = (v : Int)
theorem gained_par {p : Pat} {st : BSt} {v : Nat} (hp : PValid p) (h : Gained p st v) : par p st v < p.n.toNat := by
  obtain ⟨_, e, h1, h2, h3⟩ := h
  unfold par
  rw [← h2, numRule_of h1]
  have := allL_RV hp h1
  have a1 := this.2.2.1
  have a2 := this.2.2.2.1
  omega
theorem gained_rule {p : Pat} {st : BSt} {v : Nat} (h : Gained p st v) : numRule p (st.by_ v) ∈ ext p ∧ (numRule p (st.by_ v)).a = (v : Int) ∧ (st.by_ v, numRule p (st.by_ v)) ∈ allL p := by
  obtain ⟨_, e, h1, h2, h3⟩ := h
  rw [← h2, numRule_of h1]
  exact ⟨allL_ext h1, h3, h1⟩

theorem gained_of {p : Pat} {n d : Int} {k done s : Nat} {st : BSt} {T c : Nat → Nat} {t : Nat} (h : BInv p n d k done s st T c t) {v : Nat} (hv : v < p.n.toNat) (hc : 1 ≤ c v) :
    Gained p st v ∧ c v ≤ c (par p st v) + 1 ∧ st.x v ≤ st.x (par p st v) + wt (numRule p (st.by_ v)) n d ∧ (T v ≤ T (par p st v) → st.x v < st.x (par p st v) + wt (numRule p (st.by_ v)) n d) := by
  rcases h.set v with h0 | ⟨e, h1, h2, h3, h4, h5, h6⟩
  · omega
  · have hn : numRule p (st.by_ v) = e.2 := by rw [← h2, numRule_of h1]
    have hpar : par p st v = e.2.b.toNat := by unfold par; rw [hn]
    rw [hpar, hn]
    exact ⟨⟨hv, e, h1, h2, h3⟩, h6, h4, h5⟩

theorem pigeon : ∀ (N : Nat) (f : Nat → Nat), (∀ i, i ≤ N → f i < N) → ∃ i j, i < j ∧ j ≤ N ∧ f i = f j := by
  intro N
  induction N with
  | zero => intro f h; exact absurd (h 0 (Nat.le_refl _)) (Nat.not_lt_zero _)
  | succ N ih =>
    intro f h
    by_cases hl : f (N + 1) = N
    · by_cases hex : ∃ i, i ≤ N ∧ f i = N
      · obtain ⟨i, hi, he⟩ := hex
        exact ⟨i, N + 1, by omega, Nat.le_refl _, by omega⟩
      · obtain ⟨i, j, h1, h2, h3⟩ := ih f (fun i hi => by
          have := h i (by omega)
          have hne : f i ≠ N := fun he => hex ⟨i, hi, he⟩
          omega)
        exact ⟨i, j, h1, by omega, h3⟩
    · have hl2 := h (N + 1) (Nat.le_refl _)
      obtain ⟨i, j, h1, h2, h3⟩ := ih (fun i => if f i = N then f (N + 1) else f i) (fun i hi => by
        have := h i (by omega)
        split <;> omega)
      by_cases hi : f i = N
      · by_cases hj : f j = N
        · exact ⟨i, j, h1, by omega, by omega⟩
        · rw [if_pos hi, if_neg hj] at h3
          exact ⟨j, N + 1, by omega, Nat.le_refl _, h3.symm⟩
      · by_cases hj : f j = N
        · rw [if_neg hi, if_pos hj] at h3
          exact ⟨i, N + 1, by omega, Nat.le_refl _, h3⟩
        · rw [if_neg hi, if_neg hj] at h3
          exact ⟨i, j, h1, by omega, h3⟩

/-- What N + 1 passes with gain leave: from the last unknown N steps lead to a loop, all of whose unknowns have gained. -/
structure Cycle (p : Pat) (n d : Int) (st : BSt) (v q : Nat) : Prop where
  pos : 1 ≤ q
  le : q ≤ p.n.toNat
  back : parN p st v q = v
  first : ∀ i, 1 ≤ i → i < q → parN p st v i ≠ v
  gain : ∀ i, Gained p st (parN p st v i)
  wt : 0 < wts n d ((List.range q).map fun i => numRule p (st.by_ (parN p st v i)))

theorem sum_cycle {p : Pat} {n d : Int} {st : BSt} {v : Nat} (h : ∀ i, st.x (parN p st v i) ≤ st.x (parN p st v (i + 1)) + wt (numRule p (st.by_ (parN p st v i))) n d) :
    ∀ q, st.x v ≤ st.x (parN p st v q) + wts n d ((List.range q).map fun i => numRule p (st.by_ (parN p st v i))) := by
  intro q
  induction q with
  | zero => rw [List.range_zero, List.map_nil, wts_nil]; show st.x v ≤ st.x v + 0; omega
  | succ q ih =>
    rw [range_snoc, wts_append, wts_cons, wts_nil]
    have := h q
    omega
theorem sum_cycle_lt {p : Pat} {n d : Int} {st : BSt} {v : Nat} (h : ∀ i, st.x (parN p st v i) ≤ st.x (parN p st v (i + 1)) + wt (numRule p (st.by_ (parN p st v i))) n d) {j : Nat}
    (hj : st.x (parN p st v j) < st.x (parN p st v (j + 1)) + wt (numRule p (st.by_ (parN p st v j))) n d) :
    ∀ q, j < q → st.x v < st.x (parN p st v q) + wts n d ((List.range q).map fun i => numRule p (st.by_ (parN p st v i))) := by
  intro q
  induction q with
  | zero => intro h0; omega
  | succ q ih =>
    intro hq
    rw [range_snoc, wts_append, wts_cons, wts_nil]
    by_cases hjq : j = q
    · subst hjq
      have := sum_cycle h j
      omega
    · have := ih (by omega)
      have := h q
      omega

theorem least_back (f : Nat → Nat) (v : Nat) : ∀ q, 1 ≤ q → f q = v → ∃ m, 1 ≤ m ∧ m ≤ q ∧ f m = v ∧ ∀ i, 1 ≤ i → i < m → f i ≠ v := by
  intro q
  induction q using Nat.strongRecOn with
  | _ q ih =>
    intro h1 h2
    by_cases hex : ∃ i, 1 ≤ i ∧ i < q ∧ f i = v
    · obtain ⟨i, a, b, c⟩ := hex
      obtain ⟨m, m1, m2, m3, m4⟩ := ih i b a c
      exact ⟨m, m1, by omega, m3, m4⟩
    · exact ⟨q, h1, Nat.le_refl _, h2, fun i a b c => hex ⟨i, a, b, c⟩⟩

theorem cycle_of {p : Pat} {n d : Int} {s : Nat} {st : BSt} {T c : Nat → Nat} {t : Nat} (hp : PValid p) (h : BInv p n d (p.n.toNat + 1) (allL p).length s st T c t) {v : Nat} (hv : st.last = (v : Int)) :
    v < p.n.toNat ∧ (∀ i, Gained p st (parN p st v i)) ∧ ∃ q, Cycle p n d st (parN p st v p.n.toNat) q := by
  obtain ⟨N, hN⟩ : ∃ N, p.n.toNat = N := ⟨_, rfl⟩
  have hvN : v < p.n.toNat ∧ c v = N + 1 := by
    rcases h.lst with ⟨h1, _⟩ | ⟨u, h1, h2, h3⟩
    · omega
    · obtain rfl : u = v := by omega
      exact ⟨h1, by omega⟩
  obtain ⟨hv1, hcv⟩ := hvN
  have hchain : ∀ i, i ≤ N → parN p st v i < p.n.toNat ∧ N + 1 ≤ c (parN p st v i) + i := by
    intro i
    induction i with
    | zero => intro _; exact ⟨hv1, by show N + 1 ≤ c v + 0; omega⟩
    | succ i ih =>
      intro hi
      obtain ⟨a1, a2⟩ := ih (by omega)
      obtain ⟨g1, g2, -, -⟩ := gained_of h a1 (by omega)
      exact ⟨gained_par hp g1, by show N + 1 ≤ c (par p st (parN p st v i)) + (i + 1); omega⟩
  have hgN : ∀ i, i ≤ N → Gained p st (parN p st v i) ∧ 1 ≤ c (parN p st v i) := by
    intro i hi
    obtain ⟨a1, a2⟩ := hchain i hi
    exact ⟨(gained_of h a1 (by omega)).1, by omega⟩
  obtain ⟨i, j, hij, hj, he⟩ := pigeon N (fun i => parN p st v i) (fun i hi => by have := (hchain i hi).1; rw [hN] at this; exact this)
  have hper : ∀ m, parN p st v (j + m) = parN p st v (i + m) := by
    intro m
    rw [parN_add, parN_add, he]
  have hall : ∀ m, Gained p st (parN p st v m) ∧ 1 ≤ c (parN p st v m) := by
    intro m
    induction m using Nat.strongRecOn with
    | _ m ih =>
      by_cases hm : m ≤ N
      · exact hgN m hm
      · have := hper (m - j)
        rw [show j + (m - j) = m by omega] at this
        rw [this]
        exact ih _ (by omega)
  refine ⟨hv1, fun m => (hall m).1, ?_⟩
  rw [hN]
  obtain ⟨w, hw⟩ : ∃ w, parN p st v N = w := ⟨_, rfl⟩
  rw [hw]
  have hfw : ∀ m, parN p st w m = parN p st v (N + m) := fun m => by rw [parN_add, hw]
  have hback : parN p st w (j - i) = w := by
    rw [hfw, ← hw]
    have := hper (N - i)
    rw [show j + (N - i) = N + (j - i) by omega, show i + (N - i) = N by omega] at this
    exact this
  obtain ⟨q, q1, q2, q3, q4⟩ := least_back (parN p st w) w (j - i) (by omega) hback
  have hga : ∀ m, Gained p st (parN p st w m) ∧ 1 ≤ c (parN p st w m) := fun m => by rw [hfw]; exact hall _
  have hle : ∀ m, st.x (parN p st w m) ≤ st.x (parN p st w (m + 1)) + Go.Proofs.Ytmknengmjepdaaa.wt (numRule p (st.by_ (parN p st w m))) n d := fun m => (gained_of h (hga m).1.1 (hga m).2).2.2.1
  refine ⟨q, q1, by omega, q3, q4, fun m => (hga m).1, ?_⟩
  have hex : ∃ m, m < q ∧ T (parN p st w m) ≤ T (parN p st w (m + 1)) := by
    refine Classical.byContradiction fun hno => ?_
    have hdec : ∀ m, m ≤ q → T (parN p st w m) + m ≤ T w := by
      intro m
      induction m with
      | zero => intro _; exact Nat.le_refl _
      | succ m ih =>
        intro hm
        have h1 := ih (by omega)
        have h2 : ¬ T (parN p st w m) ≤ T (parN p st w (m + 1)) := fun hh => hno ⟨m, by omega, hh⟩
        omega
    have := hdec q (Nat.le_refl _)
    rw [q3] at this
    omega
  obtain ⟨m, hm, hT⟩ := hex
  have hlt := (gained_of h (hga m).1.1 (hga m).2).2.2.2 hT
  have := sum_cycle_lt hle hlt q hm
  rw [q3] at this
  omega

/-- The loop's rules are a chain. -/
theorem cycle_walk {p : Pat} {st : BSt} {v : Nat} (h : ∀ i, Gained p st (parN p st v i)) : ∀ q, isWalk ((List.range q).map fun i => numRule p (st.by_ (parN p st v i))) v (parN p st v q) := by
  intro q
  induction q with
  | zero => rfl
  | succ q ih =>
    rw [range_snoc]
    exact isWalk_append ih ⟨(gained_rule (h q)).2.1, rfl⟩
theorem cycle_pos {p : Pat} {n d : Int} {st : BSt} {v q : Nat} (h : Cycle p n d st v q) : ¬ NoPos p n d := by
  intro hn
  have hw := cycle_walk h.gain q
  rw [h.back] at hw
  have := hn _ v (fun r hr => by
    obtain ⟨i, _, rfl⟩ := List.mem_map.1 hr
    exact (gained_rule (h.gain i)).1) hw
  have := h.wt
  omega

end Go.Proofs.Ytmknengmjepdaaa
