/- Floyd and Warshall, plainly: what trankref04.chains comes to. -/
import Derived.Test.YtmknengmjepdaaaTb
namespace Go.Proofs.Ytmknengmjepdaaa
open Go.RowKit

/-- One element behind stage m, all at once. -/
def nxE (M : Nat → Nat → Int) (m a b : Nat) : Int := if M a m ≠ NONE ∧ M m b ≠ NONE then max (M a b) (M a m + M m b) else M a b
theorem nxE_col {M : Nat → Nat → Int} {m : Nat} (h : M m m = 0) (a : Nat) : nxE M m a m = M a m := by
  unfold nxE; rw [h]; split <;> omega
theorem nxE_row {M : Nat → Nat → Int} {m : Nat} (h : M m m = 0) (b : Nat) : nxE M m m b = M m b := by
  unfold nxE; rw [h]; split <;> omega
/-- The elements are small, or there is none. -/
def Small (N : Nat) (V : Int) (M : Nat → Nat → Int) : Prop := ∀ a b, a < N → b < N → M a b = NONE ∨ (-V ≤ M a b ∧ M a b ≤ V)

theorem fwC_new {N m a : Nat} {V : Int} {M : Nat → Nat → Int} (hV : V ≤ 1000000000000000) (hs : Small N V M) (hm : m < N) (ha : a < N) {b : Nat} (hb : b < N) : fwC m a M b = upd M a b (nxE M m a b) := by
  unfold fwC nxE
  by_cases h : M a m ≠ NONE ∧ M m b ≠ NONE
  · rw [if_pos h, if_pos h]
    have h1 := (hs a m ha hm).resolve_left h.1
    have h2 := (hs m b hm hb).resolve_left h.2
    rw [wrap64_small (by omega) (by omega)]
  · rw [if_neg h, if_neg h]
    funext x y
    unfold upd
    split
    · rename_i hxy; rw [hxy.1, hxy.2]
    · rfl

theorem nxE_small {N m : Nat} {V : Int} {M : Nat → Nat → Int} (hs : Small N V M) (hm : m < N) {a b : Nat} (ha : a < N) (hb : b < N) : nxE M m a b = NONE ∨ (-(2 * V) ≤ nxE M m a b ∧ nxE M m a b ≤ 2 * V) := by
  unfold nxE
  by_cases h : M a m ≠ NONE ∧ M m b ≠ NONE
  · rw [if_pos h]
    have h1 := (hs a m ha hm).resolve_left h.1
    have h2 := (hs m b hm hb).resolve_left h.2
    rcases hs a b ha hb with h3 | h3
    · by_cases h4 : NONE ≤ M a m + M m b
      · right; omega
      · left; omega
    · right; omega
  · rw [if_neg h]
    rcases hs a b ha hb with h3 | h3
    · exact .inl h3
    · right; omega

theorem fwRow_new {N m a : Nat} {V : Int} {M : Nat → Nat → Int} (hV : V ≤ 1000000000000000) (hs : Small N V M) (hm : m < N) (ha : a < N) (h0 : M m m = 0) :
    fwRow N m M a = fun x y => if x = a ∧ y < N then nxE M m a y else M x y := by
  have key : ∀ j, j ≤ N → (List.range j).foldl (fwC m a) M = fun x y => if x = a ∧ y < j then nxE M m a y else M x y := by
    intro j
    induction j with
    | zero => intro _; funext x y; simp
    | succ j ih =>
      intro hj
      rw [foldl_range_succ, ih (by omega)]
      obtain ⟨C, hC⟩ : ∃ C : Nat → Nat → Int, (fun x y => if x = a ∧ y < j then nxE M m a y else M x y) = C := ⟨_, rfl⟩
      have hCx : ∀ x y, C x y = if x = a ∧ y < j then nxE M m a y else M x y := fun x y => by rw [← hC]
      rw [hC]
      have c1 : C a m = M a m := by
        rw [hCx]; split
        · exact nxE_col h0 a
        · rfl
      have c2 : C m j = M m j := by rw [hCx, if_neg (by omega)]
      have c3 : C a j = M a j := by rw [hCx, if_neg (by omega)]
      have hf : fwC m a C j = upd C a j (nxE M m a j) := by
        have hM := fwC_new hV hs hm ha (b := j) (by omega)
        unfold fwC nxE
        rw [c1, c2, c3]
        by_cases h : M a m ≠ NONE ∧ M m j ≠ NONE
        · rw [if_pos h, if_pos h]
          have h1 := (hs a m ha hm).resolve_left h.1
          have h2 := (hs m j hm (by omega)).resolve_left h.2
          rw [wrap64_small (by omega) (by omega)]
        · rw [if_neg h, if_neg h]
          funext x y
          unfold upd
          split
          · rename_i hxy; rw [hxy.1, hxy.2, c3]
          · rfl
      rw [hf]
      funext x y
      unfold upd
      rw [hCx]
      by_cases hx : x = a
      · by_cases hy : y = j
        · subst hx hy
          rw [if_pos ⟨rfl, rfl⟩, if_pos ⟨rfl, by omega⟩]
        · rw [if_neg (by omega)]
          by_cases hyj : y < j
          · rw [if_pos ⟨hx, hyj⟩, if_pos ⟨hx, by omega⟩]
          · rw [if_neg (by omega), if_neg (by omega)]
      · rw [if_neg (by omega), if_neg (by omega), if_neg (by omega)]
  exact key N (Nat.le_refl _)

theorem fwStep_new {N m : Nat} {V : Int} {M : Nat → Nat → Int} (hV : 2 * V ≤ 1000000000000000) (hs : Small N V M) (hm : m < N) (h0 : M m m = 0) :
    fwStep N M m = fun x y => if x < N ∧ y < N then nxE M m x y else M x y := by
  have key : ∀ i, i ≤ N → (List.range i).foldl (fwRow N m) M = fun x y => if x < i ∧ y < N then nxE M m x y else M x y := by
    intro i
    induction i with
    | zero => intro _; funext x y; simp
    | succ i ih =>
      intro hi
      rw [foldl_range_succ, ih (by omega)]
      obtain ⟨C, hC⟩ : ∃ C : Nat → Nat → Int, (fun x y => if x < i ∧ y < N then nxE M m x y else M x y) = C := ⟨_, rfl⟩
      have hCx : ∀ x y, C x y = if x < i ∧ y < N then nxE M m x y else M x y := fun x y => by rw [← hC]
      rw [hC]
      have cm : ∀ y, y < N → C m y = M m y := fun y hy => by
        rw [hCx]; split
        · exact nxE_row h0 y
        · rfl
      have ci : ∀ y, C i y = M i y := fun y => by rw [hCx, if_neg (by omega)]
      have hCs : Small N (2 * V) C := fun a b ha hb => by
        rw [hCx]; split
        · exact nxE_small hs hm ha hb
        · rcases hs a b ha hb with h | h
          · exact .inl h
          · right; omega
      rw [fwRow_new hV hCs hm (by omega) (by rw [cm m hm, h0])]
      funext x y
      by_cases hy : y < N
      · by_cases hx : x = i
        · subst hx
          rw [if_pos ⟨rfl, hy⟩, if_pos ⟨by omega, hy⟩]
          unfold nxE
          rw [ci, ci, cm y hy]
        · rw [if_neg (by omega), hCx]
          by_cases hxi : x < i
          · rw [if_pos ⟨hxi, hy⟩, if_pos ⟨by omega, hy⟩]
          · rw [if_neg (by omega), if_neg (by omega)]
      · rw [if_neg (by omega), if_neg (by omega), hCx, if_neg (by omega)]
  exact key N (Nat.le_refl _)

/-- What the stages below m have come to. -/
structure FInv (p : Pat) (n d : Int) (m : Nat) (V : Int) (M : Nat → Nat → Int) : Prop where
  small : Small p.n.toNat V M
  diag : ∀ a, a < p.n.toNat → 0 ≤ M a a
  wk : ∀ a b, a < p.n.toNat → b < p.n.toNat → M a b ≠ NONE → ∃ l, (∀ r ∈ l, r ∈ ext p) ∧ isWalk l a b ∧ wts n d l = M a b
  edge : ∀ r ∈ ext p, M r.a.toNat r.b.toNat ≠ NONE ∧ wt r n d ≤ M r.a.toNat r.b.toNat
  tri : ∀ k a b, k < m → k < p.n.toNat → a < p.n.toNat → b < p.n.toNat → M a k ≠ NONE → M k b ≠ NONE → M a b ≠ NONE ∧ M a k + M k b ≤ M a b

theorem finv_step {p : Pat} {n d : Int} {m : Nat} {V : Int} {M : Nat → Nat → Int} (hp : PValid p) (hV0 : 0 ≤ V) (hV : 2 * V ≤ 1000000000000000) (hm : m < p.n.toNat) (h : FInv p n d m V M) (h0 : M m m = 0) :
    FInv p n d (m + 1) (2 * V) (fwStep p.n.toNat M m) := by
  rw [fwStep_new hV h.small hm h0]
  obtain ⟨M', hM'⟩ : ∃ M' : Nat → Nat → Int, (fun x y => if x < p.n.toNat ∧ y < p.n.toNat then nxE M m x y else M x y) = M' := ⟨_, rfl⟩
  have hN : ∀ x y, x < p.n.toNat → y < p.n.toNat → M' x y = nxE M m x y := fun x y hx hy => by rw [← hM']; exact if_pos ⟨hx, hy⟩
  rw [hM']
  -- real elements are small, so a sum is never 'none'
  have hsm : ∀ x y, x < p.n.toNat → y < p.n.toNat → M x y ≠ NONE → -V ≤ M x y ∧ M x y ≤ V := fun x y hx hy hne => (h.small x y hx hy).resolve_left hne
  have hge : ∀ x y, x < p.n.toNat → y < p.n.toNat → M x y ≠ NONE → nxE M m x y ≠ NONE ∧ M x y ≤ nxE M m x y := fun x y hx hy hne => by
    have := hsm x y hx hy hne
    unfold nxE NONE at *
    split <;> omega
  have hvia : ∀ x y, x < p.n.toNat → y < p.n.toNat → M x m ≠ NONE → M m y ≠ NONE → nxE M m x y ≠ NONE ∧ M x m + M m y ≤ nxE M m x y := fun x y hx hy h1 h2 => by
    have a1 := hsm x m hx hm h1
    have a2 := hsm m y hm hy h2
    unfold nxE
    rw [if_pos ⟨h1, h2⟩]
    unfold NONE
    omega
  have hcase : ∀ x y, x < p.n.toNat → y < p.n.toNat → nxE M m x y ≠ NONE → (M x y ≠ NONE ∧ nxE M m x y = M x y) ∨ (M x m ≠ NONE ∧ M m y ≠ NONE ∧ nxE M m x y = M x m + M m y) := fun x y hx hy hne => by
    unfold nxE at hne ⊢
    by_cases hh : M x m ≠ NONE ∧ M m y ≠ NONE
    · rw [if_pos hh] at hne ⊢
      have a1 := hsm x m hx hm hh.1
      have a2 := hsm m y hm hy hh.2
      by_cases hxy : M x y = NONE
      · right
        refine ⟨hh.1, hh.2, ?_⟩
        rw [hxy]
        unfold NONE
        omega
      · by_cases hle : M x m + M m y ≤ M x y
        · left; exact ⟨hxy, by omega⟩
        · right; exact ⟨hh.1, hh.2, by omega⟩
    · rw [if_neg hh] at hne ⊢
      exact .inl ⟨hne, rfl⟩
  constructor
  · intro a b ha hb
    rw [hN a b ha hb]
    exact nxE_small h.small hm ha hb
  · intro a ha
    rw [hN a a ha ha]
    have h1 := h.diag a ha
    have := (hge a a ha ha (by unfold NONE; omega)).2
    omega
  · intro a b ha hb hne
    rw [hN a b ha hb] at hne ⊢
    rcases hcase a b ha hb hne with ⟨h1, h2⟩ | ⟨h1, h2, h3⟩
    · rw [h2]; exact h.wk a b ha hb h1
    · obtain ⟨l, l1, l2, l3⟩ := h.wk a m ha hm h1
      obtain ⟨k, k1, k2, k3⟩ := h.wk m b hm hb h2
      exact ⟨l ++ k, mem_app l1 k1, isWalk_append l2 k2, by rw [wts_append, l3, k3, h3]⟩
  · intro r hr
    have hrv := ext_rv hp.1 hp.2.2.2 r hr
    have b1 : r.a.toNat < p.n.toNat := by have := hrv.1; have := hrv.2.1; omega
    have b2 : r.b.toNat < p.n.toNat := by have := hrv.2.2.1; have := hrv.2.2.2.1; omega
    rw [hN _ _ b1 b2]
    obtain ⟨e1, e2⟩ := h.edge r hr
    obtain ⟨g1, g2⟩ := hge _ _ b1 b2 e1
    exact ⟨g1, by omega⟩
  · intro k a b hk hkN ha hb h1 h2
    rw [hN a k ha hkN] at h1 ⊢
    rw [hN k b hkN hb] at h2 ⊢
    rw [hN a b ha hb]
    by_cases hkm : k = m
    · subst hkm
      rw [nxE_col h0] at h1 ⊢
      rw [nxE_row h0] at h2 ⊢
      exact hvia a b ha hb h1 h2
    · have hklt : k < m := by omega
      rcases hcase a k ha hkN h1 with ⟨x1, x2⟩ | ⟨x1, x2, x3⟩
      · rcases hcase k b hkN hb h2 with ⟨y1, y2⟩ | ⟨y1, y2, y3⟩
        · obtain ⟨t1, t2⟩ := h.tri k a b hklt hkN ha hb x1 y1
          obtain ⟨g1, g2⟩ := hge a b ha hb t1
          exact ⟨g1, by omega⟩
        · obtain ⟨t1, t2⟩ := h.tri k a m hklt hkN ha hm x1 y1
          obtain ⟨g1, g2⟩ := hvia a b ha hb t1 y2
          exact ⟨g1, by omega⟩
      · rcases hcase k b hkN hb h2 with ⟨y1, y2⟩ | ⟨y1, y2, y3⟩
        · obtain ⟨t1, t2⟩ := h.tri k m b hklt hkN hm hb x2 y1
          obtain ⟨g1, g2⟩ := hvia a b ha hb x1 t1
          exact ⟨g1, by omega⟩
        · obtain ⟨t1, t2⟩ := h.tri k m m hklt hkN hm hm x2 y1
          obtain ⟨g1, g2⟩ := hvia a b ha hb x1 y2
          exact ⟨g1, by omega⟩

/-- The start. -/
theorem finv_start {p : Pat} {n d : Int} (hp : PValid p) (hs : FSize n d) : FInv p n d 0 50000000 ((ext p).foldl (addR n d) m0) := by
  have key : ∀ j, j ≤ (ext p).length → Small p.n.toNat 50000000 (((ext p).take j).foldl (addR n d) m0) ∧ (∀ a, a < p.n.toNat → 0 ≤ ((ext p).take j).foldl (addR n d) m0 a a) ∧
      (∀ a b, a < p.n.toNat → b < p.n.toNat → ((ext p).take j).foldl (addR n d) m0 a b ≠ NONE → ∃ l, (∀ r ∈ l, r ∈ ext p) ∧ isWalk l a b ∧ wts n d l = ((ext p).take j).foldl (addR n d) m0 a b) ∧
      (∀ r ∈ (ext p).take j, ((ext p).take j).foldl (addR n d) m0 r.a.toNat r.b.toNat ≠ NONE ∧ wt r n d ≤ ((ext p).take j).foldl (addR n d) m0 r.a.toNat r.b.toNat) := by
    intro j
    induction j with
    | zero =>
      intro _
      rw [List.take_zero, List.foldl_nil]
      refine ⟨fun a b _ _ => ?_, fun a _ => ?_, fun a b _ _ hne => ?_, fun r hr => by simp at hr⟩
      · unfold m0; split
        · right; omega
        · exact .inl rfl
      · simp [m0]
      · unfold m0 at hne ⊢
        by_cases hab : a = b
        · rw [if_pos hab]; exact ⟨[], by simp, hab, rfl⟩
        · rw [if_neg hab] at hne; exact absurd rfl hne
    | succ j ih =>
      intro hj
      obtain ⟨i1, i2, i3, i4⟩ := ih (by omega)
      have htk : (ext p).take (j + 1) = (ext p).take j ++ [(ext p)[j]] := List.take_succ_eq_append_getElem (by omega)
      obtain ⟨r, hr⟩ : ∃ r, (ext p)[j] = r := ⟨_, rfl⟩
      have hrm : r ∈ ext p := by rw [← hr]; exact List.getElem_mem _
      have hrv := ext_rv hp.1 hp.2.2.2 r hrm
      have hw := wt_le hrv hs
      rw [htk, hr, List.foldl_append]
      obtain ⟨M, hM⟩ : ∃ M, ((ext p).take j).foldl (addR n d) m0 = M := ⟨_, rfl⟩
      rw [hM] at i1 i2 i3 i4 ⊢
      show Small p.n.toNat 50000000 (addR n d M r) ∧ (∀ a, a < p.n.toNat → 0 ≤ addR n d M r a a) ∧ (∀ a b, a < p.n.toNat → b < p.n.toNat → addR n d M r a b ≠ NONE → ∃ l, (∀ r ∈ l, r ∈ ext p) ∧ isWalk l a b ∧ wts n d l = addR n d M r a b) ∧
        (∀ r' ∈ (ext p).take j ++ [r], addR n d M r r'.a.toNat r'.b.toNat ≠ NONE ∧ wt r' n d ≤ addR n d M r r'.a.toNat r'.b.toNat)
      obtain ⟨A, hA⟩ : ∃ A : Nat, r.a = A := ⟨r.a.toNat, by have := hrv.1; omega⟩
      have hAN : A < p.n.toNat := by have := hrv.2.1; omega
      have hBN : r.b.toNat < p.n.toNat := by have := hrv.2.2.1; have := hrv.2.2.2.1; omega
      have hadd : ∀ x y, addR n d M r x y = if x = A ∧ y = r.b.toNat then max (M A r.b.toNat) (wt r n d) else M x y := fun x y => by
        unfold addR upd; rw [hA, Int.toNat_natCast]
      refine ⟨fun a b ha hb => ?_, fun a ha => ?_, fun a b ha hb hne => ?_, fun r' hr' => ?_⟩
      · rw [hadd]; split
        · rcases i1 A _ hAN hBN with h | h
          · right; rw [h]; unfold NONE; omega
          · right; omega
        · exact i1 a b ha hb
      · rw [hadd]; split
        · rename_i hh
          have := i2 a ha
          rw [← hh.1, ← hh.2]
          omega
        · exact i2 a ha
      · rw [hadd] at hne ⊢
        split
        · rename_i hh
          rw [if_pos hh] at hne
          rw [hh.1, hh.2]
          by_cases hle : M A r.b.toNat ≤ wt r n d
          · rw [Int.max_eq_right hle]
            exact ⟨[r], by simpa using hrm, ⟨hA, rfl⟩, by rw [wts_cons, wts_nil]; omega⟩
          · rw [Int.max_eq_left (by omega)]
            exact i3 A _ hAN hBN (by have := hw.1; unfold NONE; omega)
        · rename_i hh
          rw [if_neg hh] at hne
          exact i3 a b ha hb hne
      · have hgt : M A r.b.toNat ≤ max (M A r.b.toNat) (wt r n d) ∧ wt r n d ≤ max (M A r.b.toNat) (wt r n d) := by omega
        rw [hadd]
        rcases List.mem_append.1 hr' with hr' | hr'
        · obtain ⟨e1, e2⟩ := i4 r' hr'
          split
          · rename_i hh
            rw [hh.1, hh.2] at e1 e2
            have := hw.1
            refine ⟨by unfold NONE; omega, by omega⟩
          · exact ⟨e1, e2⟩
        · have : r' = r := by simpa using hr'
          subst this
          rw [if_pos ⟨by rw [hA]; rfl, rfl⟩]
          have := hw.1
          exact ⟨by unfold NONE; omega, hgt.2⟩
  have := key _ (Nat.le_refl _)
  rw [List.take_length] at this
  exact ⟨this.1, this.2.1, this.2.2.1, this.2.2.2, fun k a b hk => by omega⟩

theorem fwC_mono (m a : Nat) (M : Nat → Nat → Int) (b x y : Nat) : M x y ≤ fwC m a M b x y := by
  unfold fwC
  split
  · unfold upd
    split
    · rename_i h; rw [h.1, h.2]; omega
    · exact Int.le_refl _
  · exact Int.le_refl _
theorem foldl_mono {f : (Nat → Nat → Int) → Nat → (Nat → Nat → Int)} (hf : ∀ M b x y, M x y ≤ f M b x y) (l : List Nat) : ∀ M x y, M x y ≤ l.foldl f M x y := by
  induction l with
  | nil => intro M x y; exact Int.le_refl _
  | cons b l ih => intro M x y; exact Int.le_trans (hf M b x y) (ih _ x y)
theorem fwRow_mono (N m : Nat) (M : Nat → Nat → Int) (a x y : Nat) : M x y ≤ fwRow N m M a x y := foldl_mono (fun M b x y => fwC_mono m a M b x y) _ M x y
theorem fwStep_mono (N : Nat) (M : Nat → Nat → Int) (m x y : Nat) : M x y ≤ fwStep N M m x y := foldl_mono (fun M a x y => fwRow_mono N m M a x y) _ M x y
theorem stage_mono (N : Nat) (M : Nat → Nat → Int) {i j : Nat} (hij : i ≤ j) (x y : Nat) : (List.range i).foldl (fwStep N) M x y ≤ (List.range j).foldl (fwStep N) M x y := by
  obtain ⟨k, rfl⟩ : ∃ k, j = i + k := ⟨j - i, by omega⟩
  induction k with
  | zero => exact Int.le_refl _
  | succ k ih => exact Int.le_trans (ih (by omega)) (by rw [← Nat.add_assoc, foldl_range_succ]; exact fwStep_mono _ _ _ _ _)

theorem finv_stage {p : Pat} {n d : Int} (hp : PValid p) (hs : FSize n d) (hd : ∀ m, m < p.n.toNat → FInv p n d m (2 ^ m * 50000000) ((List.range m).foldl (fwStep p.n.toNat) ((ext p).foldl (addR n d) m0)) → (List.range m).foldl (fwStep p.n.toNat) ((ext p).foldl (addR n d) m0) m m ≤ 0) :
    ∀ m, m ≤ p.n.toNat → FInv p n d m (2 ^ m * 50000000) ((List.range m).foldl (fwStep p.n.toNat) ((ext p).foldl (addR n d) m0)) := by
  intro m
  induction m with
  | zero => intro _; simpa using finv_start hp hs
  | succ m ih =>
    intro hm
    have h1 := ih (by omega)
    have h2 := hd m (by omega) h1
    have h3 := h1.diag m (by omega)
    have hpow : (2 : Int) ^ m ≤ 2 ^ 15 := by
      have : (2 : Nat) ^ m ≤ 2 ^ 15 := Nat.pow_le_pow_right (by decide) (by have := hp.2.1; omega)
      exact_mod_cast this
    have hpos : (0 : Int) < 2 ^ m := by
      have : 0 < (2 : Nat) ^ m := Nat.pow_pos (by decide)
      exact_mod_cast this
    have h4 := finv_step hp (by omega) (by omega) (by omega) h1 (by omega)
    rw [foldl_range_succ]
    rw [show (2 : Int) ^ (m + 1) * 50000000 = 2 * (2 ^ m * 50000000) by rw [Int.pow_succ]; omega]
    exact h4

theorem chBad_false {p : Pat} {n d : Int} : chBad p n d = false ↔ ∀ a, a < p.n.toNat → chainM p n d a a ≤ 0 := by
  unfold chBad
  rw [List.any_eq_false]
  constructor
  · intro h a ha
    have := h a (List.mem_range.2 ha)
    simpa using this
  · intro h a ha
    have := h a (List.mem_range.1 ha)
    simpa using this

theorem finv_nopos {p : Pat} {n d : Int} (hp : PValid p) (hs : FSize n d) (hn : NoPos p n d) : FInv p n d p.n.toNat (2 ^ p.n.toNat * 50000000) (chainM p n d) := by
  refine finv_stage hp hs (fun m hm hi => ?_) _ (Nat.le_refl _)
  have h0 := hi.diag m hm
  obtain ⟨l, l1, l2, l3⟩ := hi.wk m m hm hm (by unfold NONE; omega)
  have := hn l m l1 l2
  omega
theorem finv_good {p : Pat} {n d : Int} (hp : PValid p) (hs : FSize n d) (hb : chBad p n d = false) : FInv p n d p.n.toNat (2 ^ p.n.toNat * 50000000) (chainM p n d) := by
  refine finv_stage hp hs (fun m hm _ => ?_) _ (Nat.le_refl _)
  have h1 := chBad_false.1 hb m hm
  have h2 := stage_mono p.n.toNat ((ext p).foldl (addR n d) m0) (Nat.le_of_lt hm) m m
  exact Int.le_trans h2 h1

theorem finv_walk {p : Pat} {n d : Int} {V : Int} {M : Nat → Nat → Int} (hp : PValid p) (h : FInv p n d p.n.toNat V M) : ∀ (l : List Rul) (a b : Nat), a < p.n.toNat → (∀ r ∈ l, r ∈ ext p) → isWalk l a b → b < p.n.toNat ∧ M a b ≠ NONE ∧ wts n d l ≤ M a b := by
  intro l
  induction l with
  | nil =>
    intro a b ha _ hw
    cases hw
    have := h.diag a ha
    exact ⟨ha, by unfold NONE; omega, by rw [wts_nil]; exact this⟩
  | cons r l ih =>
    intro a b ha hl hw
    have hrm := hl r (List.mem_cons_self ..)
    have hrv := ext_rv hp.1 hp.2.2.2 r hrm
    have b2 : r.b.toNat < p.n.toNat := by have := hrv.2.2.1; have := hrv.2.2.2.1; omega
    obtain ⟨i1, i2, i3⟩ := ih _ _ b2 (fun r hr => hl r (List.mem_cons_of_mem _ hr)) hw.2
    obtain ⟨e1, e2⟩ := h.edge r hrm
    rw [hw.1, Int.toNat_natCast] at e1 e2
    obtain ⟨t1, t2⟩ := h.tri _ a b b2 b2 ha i1 e1 i2
    exact ⟨i1, t1, by rw [wts_cons]; omega⟩

theorem walk_end {p : Pat} (hp : PValid p) : ∀ (l : List Rul) (a b : Nat), l ≠ [] → (∀ r ∈ l, r ∈ ext p) → isWalk l a b → a < p.n.toNat ∧ b < p.n.toNat := by
  intro l
  induction l with
  | nil => intro a b h; exact absurd rfl h
  | cons r l ih =>
    intro a b _ hl hw
    have hrm := hl r (List.mem_cons_self ..)
    have hrv := ext_rv hp.1 hp.2.2.2 r hrm
    have b1 : a < p.n.toNat := by have := hw.1; have := hrv.2.1; omega
    have b2 : r.b.toNat < p.n.toNat := by have := hrv.2.2.1; have := hrv.2.2.2.1; omega
    cases l with
    | nil => have := hw.2; cases this; exact ⟨b1, b2⟩
    | cons r2 l2 => exact ⟨b1, (ih _ _ (by simp) (fun r hr => hl r (List.mem_cons_of_mem _ hr)) hw.2).2⟩

/-- chains reports a loop with a weight above 0 just where there is one. -/
theorem chBad_iff {p : Pat} {n d : Int} (hp : PValid p) (hs : FSize n d) : chBad p n d = false ↔ NoPos p n d := by
  constructor
  · intro hb l a hl hw
    by_cases hne : l = []
    · subst hne; exact Int.le_refl _
    · obtain ⟨ha, _⟩ := walk_end hp l a a hne hl hw
      have h1 := (finv_walk hp (finv_good hp hs hb) l a a ha hl hw).2.2
      have h2 := chBad_false.1 hb a ha
      omega
  · intro hn
    refine chBad_false.2 fun a ha => ?_
    have hi := finv_nopos hp hs hn
    have h0 := hi.diag a ha
    obtain ⟨l, l1, l2, l3⟩ := hi.wk a a ha ha (by unfold NONE; omega)
    have := hn l a l1 l2
    omega

theorem chain_greatest {p : Pat} {n d : Int} (hp : PValid p) (hs : FSize n d) (hb : chBad p n d = false) : Greatest p n d (fun v => chainM p n d v 0) := by
  intro v hv
  have hi := finv_good hp hs hb
  have h0 : 0 < p.n.toNat := by omega
  refine ⟨?_, fun l hl hw => (finv_walk hp hi l v 0 hv hl hw).2.2⟩
  obtain ⟨l, l1, l2, _⟩ := to_zero (p := p) n d hv
  exact hi.wk v 0 hv h0 (finv_walk hp hi l v 0 hv l1 l2).2.1

end Go.Proofs.Ytmknengmjepdaaa
