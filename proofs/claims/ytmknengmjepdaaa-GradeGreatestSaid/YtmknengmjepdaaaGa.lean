/- The closure of a pattern, plainly: the array that grade.Pattern.closed fills. -/
import Derived.Test.YtmknengmjepdaaaJx
namespace Go.Proofs.Ytmknengmjepdaaa
open Go.RowKit

def vArr (N : Nat) (g : Nat → Value) : Array Value := ((List.range N).map g).toArray
theorem vArr_size (N : Nat) (g : Nat → Value) : (vArr N g).size = N := by simp [vArr]
theorem vArr_get {N b : Nat} {g : Nat → Value} (h : b < N) : (vArr N g)[b]? = some (g b) := by
  unfold vArr
  rw [List.getElem?_toArray, List.getElem?_map, List.getElem?_range h]; rfl
theorem vArr_set {N b : Nat} {g : Nat → Value} (z : Value) : (vArr N g).setIfInBounds b z = vArr N (fun x => if x = b then z else g x) := by
  apply Array.ext_getElem?
  intro i
  rw [Array.getElem?_setIfInBounds, vArr_size]
  by_cases hi : i < N
  · rw [vArr_get hi, vArr_get hi]
    by_cases hb : b = i
    · subst hb; simp [hi]
    · rw [if_neg hb, if_neg (Ne.symm hb)]
  · have e : ∀ g : Nat → Value, (vArr N g)[i]? = none := fun g => by rw [Array.getElem?_eq_none_iff, vArr_size]; omega
    rw [e, e]
    by_cases hb : b = i
    · subst hb; simp [hi]
    · rw [if_neg hb]
theorem vArr_congr {N : Nat} {f g : Nat → Value} (h : ∀ b, b < N → f b = g b) : vArr N f = vArr N g := by
  unfold vArr
  congr 1
  exact List.map_congr_left (fun b hb => h b (List.mem_range.1 hb))

/-- An entry that is set. -/
def onB (N : Nat) (M : Nat → Nat → Int) (x y : Nat) : Bool := decide (x < N ∧ y < N ∧ M x y ≠ NONE)
def onW (N : Nat) (M : Nat → Nat → Int) (x y : Nat) : Int := if onB N M x y then M x y else 0
def clV (N : Nat) (M : Nat → Nat → Int) (i : Nat) : Value := if i < 256 then .int .i64 (onW N M (i / 16) (i % 16)) else .bool (onB N M ((i - 256) / 16) ((i - 256) % 16))
/-- The cells of a closure. -/
def clArr (N : Nat) (M : Nat → Nat → Int) : Array Value := vArr 512 (clV N M)
theorem clArr_size (N : Nat) (M : Nat → Nat → Int) : (clArr N M).size = 512 := vArr_size _ _
theorem clV_w {N : Nat} {M : Nat → Nat → Int} {i j : Nat} (hi : i < 16) (hj : j < 16) : clV N M (i * 16 + j) = .int .i64 (onW N M i j) := by
  unfold clV
  rw [if_pos (by omega), show (i * 16 + j) / 16 = i by omega, show (i * 16 + j) % 16 = j by omega]
theorem clV_b {N : Nat} {M : Nat → Nat → Int} {i j : Nat} (hj : j < 16) : clV N M (256 + i * 16 + j) = .bool (onB N M i j) := by
  unfold clV
  rw [if_neg (by omega), show (256 + i * 16 + j - 256) / 16 = i by omega, show (256 + i * 16 + j - 256) % 16 = j by omega]
theorem clArr_w {N : Nat} {M : Nat → Nat → Int} {i j : Nat} (hi : i < 16) (hj : j < 16) : (clArr N M)[i * 16 + j]? = some (.int .i64 (onW N M i j)) := by
  unfold clArr; rw [vArr_get (by omega), clV_w hi hj]
theorem clArr_b {N : Nat} {M : Nat → Nat → Int} {i j : Nat} (hi : i < 16) (hj : j < 16) : (clArr N M)[256 + i * 16 + j]? = some (.bool (onB N M i j)) := by
  unfold clArr; rw [vArr_get (by omega), clV_b hj]
theorem onB_congr {N : Nat} {M M' : Nat → Nat → Int} (h : ∀ x y, x < N → y < N → M x y = M' x y) (x y : Nat) : onB N M x y = onB N M' x y := by
  unfold onB
  apply decide_eq_decide.2
  constructor
  · rintro ⟨h1, h2, h3⟩; exact ⟨h1, h2, by rw [← h x y h1 h2]; exact h3⟩
  · rintro ⟨h1, h2, h3⟩; exact ⟨h1, h2, by rw [h x y h1 h2]; exact h3⟩
theorem onW_congr {N : Nat} {M M' : Nat → Nat → Int} (h : ∀ x y, x < N → y < N → M x y = M' x y) (x y : Nat) : onW N M x y = onW N M' x y := by
  unfold onW
  rw [onB_congr h]
  split
  · rename_i hb
    unfold onB at hb
    simp only [decide_eq_true_eq] at hb
    exact h x y hb.1 hb.2.1
  · rfl
theorem clArr_congr {N : Nat} {M M' : Nat → Nat → Int} (h : ∀ x y, x < N → y < N → M x y = M' x y) : clArr N M = clArr N M' := by
  unfold clArr
  refine vArr_congr fun i _ => ?_
  unfold clV
  rw [onW_congr h, onB_congr h]
theorem onB_upd {N : Nat} {M : Nat → Nat → Int} {i j : Nat} {z : Int} (hi : i < N) (hj : j < N) (hz : z ≠ NONE) (x y : Nat) : onB N (upd M i j z) x y = if x = i ∧ y = j then true else onB N M x y := by
  unfold onB upd
  by_cases h : x = i ∧ y = j
  · rw [if_pos h, if_pos h]
    simp only [decide_eq_true_eq]
    exact ⟨by omega, by omega, hz⟩
  · rw [if_neg h, if_neg h]
theorem onW_upd {N : Nat} {M : Nat → Nat → Int} {i j : Nat} {z : Int} (hi : i < N) (hj : j < N) (hz : z ≠ NONE) (x y : Nat) : onW N (upd M i j z) x y = if x = i ∧ y = j then z else onW N M x y := by
  unfold onW
  rw [onB_upd hi hj hz]
  unfold upd
  by_cases h : x = i ∧ y = j
  · rw [if_pos h, if_pos h, if_pos h]; rfl
  · rw [if_neg h, if_neg h, if_neg h]
/-- Both cells of an entry are written. -/
theorem clArr_set {N : Nat} {M : Nat → Nat → Int} {i j : Nat} {z : Int} (hN : N ≤ 16) (hi : i < N) (hj : j < N) (hz : z ≠ NONE) :
    ((clArr N M).setIfInBounds (i * 16 + j) (.int .i64 z)).setIfInBounds (256 + i * 16 + j) (.bool true) = clArr N (upd M i j z) := by
  unfold clArr
  rw [vArr_set, vArr_set]
  refine vArr_congr fun k hk => ?_
  unfold clV
  rw [onW_upd hi hj hz, onB_upd hi hj hz]
  by_cases h1 : k = 256 + i * 16 + j
  · rw [if_pos h1, if_neg (by omega), if_pos (by omega)]
  · rw [if_neg h1]
    by_cases h2 : k = i * 16 + j
    · rw [if_pos h2, if_pos (by omega), if_pos (by omega)]
    · rw [if_neg h2]
      by_cases h3 : k < 256
      · rw [if_pos h3, if_pos h3, if_neg (by omega)]
      · rw [if_neg h3, if_neg h3, if_neg (by omega)]
/-- The start: nothing is set. -/
theorem onB_none (N x y : Nat) : onB N (fun _ _ => NONE) x y = false := by unfold onB; simp
/-- The first unknowns reach themselves. -/
def diagM (i : Nat) : Nat → Nat → Int := fun x y => if x = y ∧ x < i then 0 else NONE
theorem diag_zero (N : Nat) : clArr N (diagM 0) = clArr 0 (fun _ _ => NONE) := by
  unfold clArr
  refine vArr_congr fun k _ => ?_
  have e1 : ∀ x y, onB N (diagM 0) x y = false := fun x y => by unfold onB diagM; simp
  have e2 : ∀ x y, onB 0 (fun _ _ => NONE) x y = false := fun x y => by unfold onB; simp
  unfold clV onW
  simp [e1, e2]
theorem diag_set {N i : Nat} (hN : N ≤ 16) (hi : i < N) : (clArr N (diagM i)).setIfInBounds (256 + i * 16 + i) (.bool true) = clArr N (diagM (i + 1)) := by
  have e0 : ∀ x y, x < N → y < N → upd (diagM i) i i 0 x y = diagM (i + 1) x y := fun x y _ _ => by
    unfold upd diagM
    by_cases h : x = i ∧ y = i
    · rw [if_pos h, if_pos (by omega)]
    · rw [if_neg h]
      by_cases h2 : x = y ∧ x < i
      · rw [if_pos h2, if_pos (by omega)]
      · rw [if_neg h2, if_neg (by omega)]
  have e1 : (clArr N (diagM i)).setIfInBounds (i * 16 + i) (.int .i64 0) = clArr N (diagM i) := by
    unfold clArr
    rw [vArr_set]
    refine vArr_congr fun k hk => ?_
    by_cases hk2 : k = i * 16 + i
    · rw [if_pos hk2, hk2, clV_w (by omega) (by omega)]
      unfold onW onB diagM
      rw [if_neg (by simp)]
    · rw [if_neg hk2]
  rw [← clArr_congr e0, ← clArr_set hN hi hi (by unfold NONE; omega), e1]
theorem diag_done {N : Nat} : clArr N (diagM N) = clArr N m0 := clArr_congr fun x y hx _ => by
  unfold diagM m0
  by_cases h : x = y
  · rw [if_pos ⟨h, hx⟩, if_pos h]
  · rw [if_neg (fun k => h k.1), if_neg h]

/-- Behind the rules that have come. -/
def relM (n d : Int) (pre : List (Int × Rul)) : Nat → Nat → Int := (pre.map (·.2)).foldl (addR n d) m0
theorem relM_snoc (n d : Int) (pre : List (Int × Rul)) (x : Int × Rul) : relM n d (pre ++ [x]) = addR n d (relM n d pre) x.2 := by
  unfold relM; rw [List.map_append, List.foldl_append]; rfl
theorem allL_map (p : Pat) : (allL p).map (·.2) = ext p := by
  unfold allL
  exact List.map_snd_zip (by rw [nums_len, ext_len]; exact Nat.le_refl _)
theorem relM_all (p : Pat) (n d : Int) : relM n d (allL p) = (ext p).foldl (addR n d) m0 := by unfold relM; rw [allL_map]
/-- What a rule does to the closure. -/
theorem addR_cases (n d : Int) (M : Nat → Nat → Int) (r : Rul) (hw : NONE < wt r n d) :
    ((M r.a.toNat r.b.toNat = NONE ∨ M r.a.toNat r.b.toNat < wt r n d) → addR n d M r = upd M r.a.toNat r.b.toNat (wt r n d)) ∧
    (¬ (M r.a.toNat r.b.toNat = NONE ∨ M r.a.toNat r.b.toNat < wt r n d) → addR n d M r = M) := by
  unfold addR
  constructor
  · intro h
    have : max (M r.a.toNat r.b.toNat) (wt r n d) = wt r n d := by omega
    rw [this]
  · intro h
    have : max (M r.a.toNat r.b.toNat) (wt r n d) = M r.a.toNat r.b.toNat := by omega
    rw [this]
    funext x y
    unfold upd
    split
    · rename_i hh; rw [hh.1, hh.2]
    · rfl

/-- The stages. -/
def stg (p : Pat) (n d : Int) (k : Nat) : Nat → Nat → Int := (List.range k).foldl (fwStep p.n.toNat) ((ext p).foldl (addR n d) m0)
/-- Within a stage. -/
def inS (N : Nat) (M : Nat → Nat → Int) (k i j : Nat) : Nat → Nat → Int := fun x y => if x < N ∧ y < N ∧ (x < i ∨ (x = i ∧ y < j)) then nxE M k x y else M x y
structure Stage (p : Pat) (n d : Int) (N k : Nat) (M : Nat → Nat → Int) : Prop where
  small : Small N 5000000000000 M
  zero : M k k = 0
theorem stage_of {p : Pat} {n d : Int} (hp : PValid p) (hs : FSize n d) (hn : NoPos p n d) {k : Nat} (hk : k < p.n.toNat) : Stage p n d p.n.toNat k (stg p n d k) ∧ stg p n d (k + 1) = fun x y => if x < p.n.toNat ∧ y < p.n.toNat then nxE (stg p n d k) k x y else stg p n d k x y := by
  have hi := finv_stage (n := n) (d := d) hp hs (fun m hm hi => by
    have h0 := hi.diag m hm
    obtain ⟨l, l1, l2, l3⟩ := hi.wk m m hm hm (by unfold NONE; omega)
    have := hn l m l1 l2
    omega) k (by omega)
  have h0 := hi.diag k hk
  obtain ⟨l, l1, l2, l3⟩ := hi.wk k k hk hk (by unfold NONE; omega)
  have h1 := hn l k l1 l2
  have hpow : (2 : Int) ^ k ≤ 2 ^ 15 := by
    have : (2 : Nat) ^ k ≤ 2 ^ 15 := Nat.pow_le_pow_right (by decide) (by have := hp.2.1; omega)
    exact_mod_cast this
  have hz : stg p n d k k k = 0 := by unfold stg; omega
  refine ⟨⟨fun a b ha hb => ?_, hz⟩, ?_⟩
  · rcases hi.small a b ha hb with h | h
    · exact .inl h
    · right; unfold stg; omega
  · have := fwStep_new (N := p.n.toNat) (m := k) (V := 2 ^ k * 50000000) (M := stg p n d k) (by omega) hi.small hk hz
    unfold stg at this ⊢
    rw [foldl_range_succ]
    exact this

section
variable {p : Pat} {n d : Int} {N k i j : Nat} {M : Nat → Nat → Int}
theorem inS_ik (h : Stage p n d N k M) : inS N M k i j i k = M i k := by
  unfold inS; split
  · exact nxE_col h.zero i
  · rfl
theorem inS_kj (h : Stage p n d N k M) : inS N M k i j k j = M k j := by
  unfold inS; split
  · exact nxE_row h.zero j
  · rfl
theorem inS_ij : inS N M k i j i j = M i j := by unfold inS; rw [if_neg (by omega)]
theorem inS_zero (x y : Nat) : inS N M k 0 0 x y = M x y := by unfold inS; rw [if_neg (by omega)]
theorem inS_next : clArr N (inS N M k i N) = clArr N (inS N M k (i + 1) 0) := clArr_congr fun x y hx hy => by
  unfold inS
  by_cases h : x ≤ i
  · rw [if_pos ⟨hx, hy, by omega⟩, if_pos ⟨hx, hy, by omega⟩]
  · rw [if_neg (by omega), if_neg (by omega)]
theorem inS_done (x y : Nat) (hx : x < N) (hy : y < N) : inS N M k N 0 x y = nxE M k x y := by unfold inS; rw [if_pos ⟨hx, hy, .inl hx⟩]
/-- One entry's turn: no way through k. -/
theorem inS_skip (h : M i k = NONE ∨ M k j = NONE) : clArr N (inS N M k i (j + 1)) = clArr N (inS N M k i j) := clArr_congr fun x y hx hy => by
  have hnx : nxE M k i j = M i j := by unfold nxE; rw [if_neg (by rcases h with h | h <;> simp [h])]
  unfold inS
  by_cases hxy : x = i ∧ y = j
  · obtain ⟨rfl, rfl⟩ := hxy
    rw [if_pos ⟨hx, hy, by omega⟩, if_neg (by omega), hnx]
  · by_cases hc : x < i ∨ (x = i ∧ y < j)
    · rw [if_pos ⟨hx, hy, by omega⟩, if_pos ⟨hx, hy, hc⟩]
    · rw [if_neg (by omega), if_neg (by omega)]
theorem sum_bd (hs : Stage p n d N k M) (hi : i < N) (hk : k < N) (hj : j < N) (h1 : M i k ≠ NONE) (h2 : M k j ≠ NONE) : -10000000000000 ≤ M i k + M k j ∧ M i k + M k j ≤ 10000000000000 := by
  have a1 := (hs.small i k hi hk).resolve_left h1
  have a2 := (hs.small k j hk hj).resolve_left h2
  omega
theorem inS_set (h1 : M i k ≠ NONE) (h2 : M k j ≠ NONE) (hs : Stage p n d N k M) (hi : i < N) (hk : k < N) (hj : j < N) (h : M i j = NONE ∨ M i j < M i k + M k j) : clArr N (inS N M k i (j + 1)) = clArr N (upd (inS N M k i j) i j (M i k + M k j)) := clArr_congr fun x y hx hy => by
  have hb := sum_bd hs hi hk hj h1 h2
  have hnx : nxE M k i j = M i k + M k j := by
    unfold nxE; rw [if_pos ⟨h1, h2⟩]
    unfold NONE at h
    omega
  unfold inS upd
  dsimp only
  by_cases hxy : x = i ∧ y = j
  · rw [if_pos hxy]
    obtain ⟨rfl, rfl⟩ := hxy
    rw [if_pos ⟨hx, hy, by omega⟩, hnx]
  · rw [if_neg hxy]
    by_cases hc : x < i ∨ (x = i ∧ y < j)
    · rw [if_pos ⟨hx, hy, by omega⟩, if_pos ⟨hx, hy, hc⟩]
    · rw [if_neg (by omega), if_neg (by omega)]
theorem inS_keep (h1 : M i k ≠ NONE) (h2 : M k j ≠ NONE) (h : ¬ (M i j = NONE ∨ M i j < M i k + M k j)) : clArr N (inS N M k i (j + 1)) = clArr N (inS N M k i j) := clArr_congr fun x y hx hy => by
  have hnx : nxE M k i j = M i j := by
    unfold nxE; rw [if_pos ⟨h1, h2⟩]
    omega
  unfold inS
  by_cases hxy : x = i ∧ y = j
  · obtain ⟨rfl, rfl⟩ := hxy
    rw [if_pos ⟨hx, hy, by omega⟩, if_neg (by omega), hnx]
  · by_cases hc : x < i ∨ (x = i ∧ y < j)
    · rw [if_pos ⟨hx, hy, by omega⟩, if_pos ⟨hx, hy, hc⟩]
    · rw [if_neg (by omega), if_neg (by omega)]
end

end Go.Proofs.Ytmknengmjepdaaa
