/- The arrays of trankref04.bad, plainly. -/
import Derived.Test.YtmknengmjepdaaaSb
import Derived.Test.YtmknengmjepdaaaGb
namespace Go.Proofs.Ytmknengmjepdaaa
open Go.RowKit

def wV (M : Nat → Nat → W3) (i : Nat) : Value := .int .i64 (if i % 3 = 0 then (M (i / 48) (i / 3 % 16)).w else if i % 3 = 1 then (M (i / 48) (i / 3 % 16)).c else (M (i / 48) (i / 3 % 16)).d)
/-- The cells of [16][16]walk. -/
def wArr (M : Nat → Nat → W3) : Array Value := vArr 768 (wV M)
theorem wArr_size (M : Nat → Nat → W3) : (wArr M).size = 768 := vArr_size _ _
theorem wArr_w (M : Nat → Nat → W3) {a b : Nat} (ha : a < 16) (hb : b < 16) : (wArr M)[a * 48 + b * 3]? = some (.int .i64 (M a b).w) := by
  unfold wArr
  rw [vArr_get (by omega)]
  unfold wV
  rw [if_pos (by omega), show (a * 48 + b * 3) / 48 = a by omega, show (a * 48 + b * 3) / 3 % 16 = b by omega]
theorem wArr_c (M : Nat → Nat → W3) {a b : Nat} (ha : a < 16) (hb : b < 16) : (wArr M)[a * 48 + b * 3 + 1]? = some (.int .i64 (M a b).c) := by
  unfold wArr
  rw [vArr_get (by omega)]
  unfold wV
  rw [if_neg (by omega), if_pos (by omega), show (a * 48 + b * 3 + 1) / 48 = a by omega, show (a * 48 + b * 3 + 1) / 3 % 16 = b by omega]
theorem wArr_d (M : Nat → Nat → W3) {a b : Nat} (ha : a < 16) (hb : b < 16) : (wArr M)[a * 48 + b * 3 + 2]? = some (.int .i64 (M a b).d) := by
  unfold wArr
  rw [vArr_get (by omega)]
  unfold wV
  rw [if_neg (by omega), if_neg (by omega), show (a * 48 + b * 3 + 2) / 48 = a by omega, show (a * 48 + b * 3 + 2) / 3 % 16 = b by omega]
def updW (M : Nat → Nat → W3) (a b : Nat) (x : W3) : Nat → Nat → W3 := fun i j => if i = a ∧ j = b then x else M i j
theorem wArr_congr {M M' : Nat → Nat → W3} (h : ∀ x y, x < 16 → y < 16 → M x y = M' x y) : wArr M = wArr M' :=
  vArr_congr fun i hi => by unfold wV; rw [h (i / 48) (i / 3 % 16) (by omega) (by omega)]
theorem wArr_set3 (M : Nat → Nat → W3) {a b : Nat} (hb : b < 16) (x : W3) :
    (((wArr M).setIfInBounds (a * 48 + b * 3) (.int .i64 x.w)).setIfInBounds (a * 48 + b * 3 + 1) (.int .i64 x.c)).setIfInBounds (a * 48 + b * 3 + 2) (.int .i64 x.d) = wArr (updW M a b x) := by
  unfold wArr
  rw [vArr_set, vArr_set, vArr_set]
  refine vArr_congr fun i hi => ?_
  unfold wV updW
  by_cases h0 : i = a * 48 + b * 3
  · rw [if_neg (by omega), if_neg (by omega), if_pos h0, if_pos (by omega), if_pos (by omega)]
  · by_cases h1 : i = a * 48 + b * 3 + 1
    · rw [if_neg (by omega), if_pos h1, if_neg (by omega), if_pos (by omega), if_pos (by omega)]
    · by_cases h2 : i = a * 48 + b * 3 + 2
      · rw [if_pos h2, if_neg (by omega), if_neg (by omega), if_pos (by omega)]
      · have hne : ¬ (i / 48 = a ∧ i / 3 % 16 = b) := by omega
        rw [if_neg h2, if_neg h1, if_neg h0, if_neg hne]
theorem wArr_setw (M : Nat → Nat → W3) {a b : Nat} (hb : b < 16) (z : Int) :
    (wArr M).setIfInBounds (a * 48 + b * 3) (.int .i64 z) = wArr (updW M a b ⟨z, (M a b).c, (M a b).d⟩) := by
  unfold wArr
  rw [vArr_set]
  refine vArr_congr fun i hi => ?_
  unfold wV updW
  by_cases h0 : i = a * 48 + b * 3
  · rw [if_pos h0, if_pos (by omega), if_pos (by omega)]
  · rw [if_neg h0]
    by_cases h1 : i / 48 = a ∧ i / 3 % 16 = b
    · have h3 : ¬ i % 3 = 0 := by omega
      rw [if_pos h1, h1.1, h1.2, if_neg h3, if_neg h3]
    · rw [if_neg h1]
theorem infoW : (Try.prog.info? 155).map (fun i => (i.zero, i.size)) = some (some (.agg (wArr (fun _ _ => ⟨0, 0, 0⟩))), 768) := by kernel_rfl
theorem w_one (M : Nat → Nat → W3) : (wArr M).all (·.oneCell') = true := by
  rw [Array.all_eq_true_iff_forall_mem]
  intro v hv
  unfold wArr vArr at hv
  rw [List.mem_toArray, List.mem_map] at hv
  obtain ⟨i, _, rfl⟩ := hv
  rfl
theorem w_info (M : Nat → Nat → W3) : (Try.prog.info? 155).map (·.size) = some (wArr M).size := by
  rw [wArr_size]
  exact (zero_of_info infoW).2

/-- now, while it is laid. -/
def initM (a b x y : Nat) : W3 := if x < a ∨ (x = a ∧ y < b) then (if x = y ∧ x < a then ⟨0, 0, 0⟩ else ⟨NONE, 0, 0⟩) else ⟨0, 0, 0⟩
theorem initM_zero : wArr (initM 0 0) = wArr (fun _ _ => ⟨0, 0, 0⟩) := wArr_congr fun x y _ _ => by unfold initM; rw [if_neg (by omega)]
theorem initM_step {a b : Nat} (ha : a < 16) (hb : b < 16) : (wArr (initM a b)).setIfInBounds (a * 48 + b * 3) (.int .i64 NONE) = wArr (initM a (b + 1)) := by
  rw [wArr_setw _ hb]
  refine wArr_congr fun x y hx hy => ?_
  unfold updW
  by_cases h : x = a ∧ y = b
  · obtain ⟨rfl, rfl⟩ := h
    rw [if_pos ⟨rfl, rfl⟩]
    unfold initM
    rw [if_neg (by omega), if_pos (by omega), if_neg (by omega)]
  · rw [if_neg h]
    unfold initM
    by_cases h2 : x < a ∨ (x = a ∧ y < b)
    · rw [if_pos h2, if_pos (show x < a ∨ (x = a ∧ y < b + 1) by omega)]
    · rw [if_neg h2, if_neg (show ¬ (x < a ∨ (x = a ∧ y < b + 1)) by omega)]
theorem initM_row {a : Nat} (ha : a < 16) : (wArr (initM a 16)).setIfInBounds (a * 48 + a * 3) (.int .i64 0) = wArr (initM (a + 1) 0) := by
  rw [wArr_setw _ ha]
  refine wArr_congr fun x y hx hy => ?_
  unfold updW
  by_cases h : x = a ∧ y = a
  · obtain ⟨rfl, rfl⟩ := h
    rw [if_pos ⟨rfl, rfl⟩]
    unfold initM
    rw [if_pos (by omega), if_neg (by omega), if_pos (by omega), if_pos (by omega)]
  · rw [if_neg h]
    unfold initM
    by_cases h2 : x < a ∨ (x = a ∧ y < 16)
    · rw [if_pos h2, if_pos (show x < a + 1 ∨ (x = a + 1 ∧ y < 0) by omega)]
      by_cases h3 : x = y ∧ x < a
      · rw [if_pos h3, if_pos (show x = y ∧ x < a + 1 by omega)]
      · rw [if_neg h3, if_neg (show ¬ (x = y ∧ x < a + 1) by omega)]
    · rw [if_neg h2, if_neg (by omega)]
theorem initM_done {x y : Nat} (hx : x < 16) : initM 16 0 x y = if x = y then ⟨0, 0, 0⟩ else ⟨NONE, 0, 0⟩ := by
  unfold initM
  rw [if_pos (by omega)]
  by_cases h : x = y
  · rw [if_pos ⟨h, hx⟩, if_pos h]
  · rw [if_neg (by omega), if_neg h]
/-- next, while it is laid. -/
def nextM (a b x y : Nat) : W3 := if x < a ∨ (x = a ∧ y < b) then ⟨NONE, 0, 0⟩ else ⟨0, 0, 0⟩
theorem nextM_zero : wArr (nextM 0 0) = wArr (fun _ _ => ⟨0, 0, 0⟩) := wArr_congr fun x y _ _ => by unfold nextM; rw [if_neg (by omega)]
theorem nextM_step {a b : Nat} (ha : a < 16) (hb : b < 16) : (wArr (nextM a b)).setIfInBounds (a * 48 + b * 3) (.int .i64 NONE) = wArr (nextM a (b + 1)) := by
  rw [wArr_setw _ hb]
  refine wArr_congr fun x y hx hy => ?_
  unfold updW
  by_cases h : x = a ∧ y = b
  · obtain ⟨rfl, rfl⟩ := h
    rw [if_pos ⟨rfl, rfl⟩]
    unfold nextM
    rw [if_neg (by omega), if_pos (by omega)]
  · rw [if_neg h]
    unfold nextM
    by_cases h2 : x < a ∨ (x = a ∧ y < b)
    · rw [if_pos h2, if_pos (by omega)]
    · rw [if_neg h2, if_neg (by omega)]
theorem nextM_row (a : Nat) : wArr (nextM a 16) = wArr (nextM (a + 1) 0) := wArr_congr fun x y hx hy => by
  unfold nextM
  by_cases h2 : x < a ∨ (x = a ∧ y < 16)
  · rw [if_pos h2, if_pos (by omega)]
  · rw [if_neg h2, if_neg (by omega)]

section
variable {p : Pat} {n d : Int} {k a j : Nat} {X M : Nat → Nat → W3}
def NowI (p : Pat) (n d : Int) (k : Nat) (M : Nat → Nat → W3) : Prop := ∀ x y, x < p.n.toNat → y < p.n.toNat → BestOf n d (XW p k x y) (M x y)
def PassI (p : Pat) (n d : Int) (k a : Nat) (X : Nat → Nat → W3) : Prop :=
  (∀ x y, x < a → y < p.n.toNat → BestOf n d (XW p (k + 1) x y) (X x y)) ∧ ∀ x y, a ≤ x → x < p.n.toNat → y < p.n.toNat → X x y = ⟨NONE, 0, 0⟩
def RowI (p : Pat) (n d : Int) (k a j : Nat) (X : Nat → Nat → W3) : Prop :=
  (∀ x y, x < a → y < p.n.toNat → BestOf n d (XW p (k + 1) x y) (X x y)) ∧ (∀ y, y < p.n.toNat → BestOf n d (PW p k j a y) (X a y)) ∧ ∀ x y, a < x → x < p.n.toNat → y < p.n.toNat → X x y = ⟨NONE, 0, 0⟩
def NP (p : Pat) (n d : Int) (k : Nat) : Prop := ∀ l a, (∀ r ∈ l, r ∈ ext p) → isWalk l a a → l.length ≤ k → wts n d l ≤ 0
def NPa (p : Pat) (n d : Int) (k a : Nat) : Prop := ∀ x, x < a → ∀ l, XW p (k + 1) x x l → wts n d l ≤ 0

theorem now_start (hp : PValid p) : NowI p n d 0 (initM 16 0) := fun x y hx _ => by
  have := hp.2.1
  rw [initM_done (by omega)]
  exact best_start x y
theorem np_start : NP p n d 0 := fun l a _ _ hl => by
  obtain rfl := List.length_eq_zero_iff.1 (Nat.le_zero.1 hl)
  exact Int.le_refl _
theorem pass_start (hp : PValid p) : PassI p n d k 0 (nextM 16 0) := by
  refine ⟨fun x y hx => absurd hx (Nat.not_lt_zero x), fun x y _ hx _ => ?_⟩
  have := hp.2.1
  unfold nextM
  rw [if_pos (by omega)]
theorem row_start (h : PassI p n d k a X) (ha : a < p.n.toNat) : RowI p n d k a 0 X := by
  refine ⟨h.1, fun y hy => ?_, fun x y hx => h.2 x y (by omega)⟩
  rw [h.2 a y (Nat.le_refl _) ha hy]
  exact part_start k a y 0 0
theorem row_end (h : RowI p n d k a (ext p).length X) : PassI p n d k (a + 1) X := by
  refine ⟨fun x y hx hy => ?_, fun x y hx => h.2.2 x y (by omega)⟩
  by_cases he : x = a
  · subst he; exact part_end (h.2.1 y hy)
  · exact h.1 x y (by omega) hy
theorem pass_end (h : PassI p n d k p.n.toNat X) : NowI p n d (k + 1) X := fun x y hx hy => h.1 x y hx hy

theorem best_bd (hp : PValid p) (hs : FSize n d) {b : Nat} {x : W3} (hk : k ≤ 16) (h : BestOf n d (XW p k a b) x) : x.w = NONE ∨ (-800000000 ≤ x.w ∧ x.w ≤ 800000000 ∧ -16000 ≤ x.c ∧ x.c ≤ 16000 ∧ -1600 ≤ x.d ∧ x.d ≤ 1600) := by
  rcases h with ⟨h, _⟩ | ⟨l, h1, rfl, _⟩
  · exact .inl h
  · right
    have b1 := wts_abs hp hs l h1.1
    have b2 := cd_bd hp l h1.1
    rw [h1.2.2] at b1 b2
    unfold triple
    dsimp only
    omega
theorem row_skip (hp : PValid p) (hs : FSize n d) (hk : k ≤ 16) {r : Rul} (hj : (ext p)[j]? = some r) (hN : NowI p n d k M) (ha : a < p.n.toNat) (hA : r.a.toNat < p.n.toNat) (hw : (M a r.a.toNat).w = NONE) (h : RowI p n d k a j X) : RowI p n d k a (j + 1) X := by
  refine ⟨h.1, fun y hy => part_skip hj (hN a _ ha hA) hw (fun l hl he => ?_) (h.2.1 y hy), h.2.2⟩
  have := wts_abs hp hs l hl.1
  rw [hl.2.2, he] at this
  unfold NONE at this
  omega
theorem row_take (hp : PValid p) (hs : FSize n d) (hk : k ≤ 16) {r : Rul} (hj : (ext p)[j]? = some r) (hN : NowI p n d k M) (ha : a < p.n.toNat) (hr : 0 ≤ r.a) (hA : r.a.toNat < p.n.toNat) (hw : (M a r.a.toNat).w ≠ NONE) (hlow : -50000000 ≤ wt r n d)
    (h : RowI p n d k a j X) : RowI p n d k a (j + 1) (if (X a r.b.toNat).w < (M a r.a.toNat).w + wt r n d then updW X a r.b.toNat ⟨(M a r.a.toNat).w + wt r n d, (M a r.a.toNat).c + r.c, (M a r.a.toNat).d + r.d⟩ else X) := by
  have hbd := (best_bd hp hs hk (hN a _ ha hA)).resolve_left hw
  have key : ∀ x y, x ≠ a → (if (X a r.b.toNat).w < (M a r.a.toNat).w + wt r n d then updW X a r.b.toNat ⟨(M a r.a.toNat).w + wt r n d, (M a r.a.toNat).c + r.c, (M a r.a.toNat).d + r.d⟩ else X) x y = X x y := by
    intro x y hx
    split
    · unfold updW; rw [if_neg (fun hh => hx hh.1)]
    · rfl
  refine ⟨fun x y hx hy => ?_, fun y hy => ?_, fun x y hx hy hz => ?_⟩
  · rw [key x y (by omega)]; exact h.1 x y hx hy
  · by_cases hb : y = r.b.toNat
    · subst hb
      have := part_take hj hr (hN a _ ha hA) hw (by unfold NONE; omega) (h.2.1 _ hy)
      split at this
      · rename_i hlt
        rw [if_pos hlt]; unfold updW; rw [if_pos ⟨rfl, rfl⟩]; exact this
      · rename_i hlt
        rw [if_neg hlt]; exact this
    · have e : (if (X a r.b.toNat).w < (M a r.a.toNat).w + wt r n d then updW X a r.b.toNat ⟨(M a r.a.toNat).w + wt r n d, (M a r.a.toNat).c + r.c, (M a r.a.toNat).d + r.d⟩ else X) a y = X a y := by
        split
        · unfold updW; rw [if_neg (fun hh => hb hh.2)]
        · rfl
      rw [e]
      exact part_other hj hb (h.2.1 y hy)
  · rw [key x y (by omega)]; exact h.2.2 x y hx hy hz

theorem npa_step (hN : BestOf n d (XW p (k + 1) a a) (X a a)) (hw : ¬ 0 < (X a a).w) (h : NPa p n d k a) : NPa p n d k (a + 1) := by
  intro x hx l hl
  by_cases he : x = a
  · subst he
    rcases hN with ⟨_, h2⟩ | ⟨_, _, _, h3⟩
    · exact absurd hl (h2 l)
    · have := h3 l hl; omega
  · exact h x (by omega) l hl
theorem np_step (hp : PValid p) (h : NP p n d k) (ha : NPa p n d k p.n.toNat) : NP p n d (k + 1) := by
  intro l a hl hw hlen
  by_cases hk : l.length ≤ k
  · exact h l a hl hw hk
  · have hne : l ≠ [] := by rintro rfl; simp at hk
    exact ha a (walk_end hp l a a hne hl hw).1 l ⟨hl, hw, by omega⟩
theorem bad_here (hs : FSize n d) (hk : k + 1 ≤ 16) {x : W3} (h : BestOf n d (XW p (k + 1) a a) x) (hw : 0 < x.w) : BadAt p ((n : Rat) / (d : Rat)) x.c x.d := by
  rcases h with ⟨h1, _⟩ | ⟨l, h1, rfl, _⟩
  · rw [h1] at hw; unfold NONE at hw; omega
  · refine ⟨l, a, h1.1, h1.2.1, rfl, rfl, by rw [h1.2.2]; exact hk, ?_⟩
    have hw2 : 0 < cS l * d + dS l * n := by rw [← wts_cd]; exact hw
    exact Rat.not_le.1 fun hle => by
      have h9 := (le_at hs.1.1).1 hle
      have e9 : (triple n d l).c * d + (triple n d l).d * n = cS l * d + dS l * n := rfl
      omega
theorem feas_here (hp : PValid p) (hs : FSize n d) (h : NP p n d p.n.toNat) : Feas p ((n : Rat) / (d : Rat)) := (feas_iff hs.1.1).1 (nopos_of_short hp h)
end

end Go.Proofs.Ytmknengmjepdaaa
