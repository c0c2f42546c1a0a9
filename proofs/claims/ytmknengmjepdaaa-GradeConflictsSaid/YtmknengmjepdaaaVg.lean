/- A loop that solve leaves, as a chain of rules with their numbers. -/
import Derived.Test.YtmknengmjepdaaaSb
namespace Go.Proofs.Ytmknengmjepdaaa
open Go.RowKit

/-- The loop with its rules. -/
def cycE (p : Pat) (st : BSt) (v q : Nat) : List (Int × Rul) := (List.range q).map fun i => (st.by_ (parN p st v i), numRule p (st.by_ (parN p st v i)))
theorem cycE_vert {p : Pat} {n d : Int} {st : BSt} {v q : Nat} (h : Cycle p n d st v q) : ∀ i, i ≤ q → vert ((cycE p st v q).map (·.2)) v i = parN p st v i := by
  have hw : isWalk ((cycE p st v q).map (·.2)) v (parN p st v q) := by
    have := cycle_walk h.gain q
    unfold cycE
    rw [List.map_map]
    exact this
  intro i
  induction i with
  | zero => intro _; rw [vert_zero]; rfl
  | succ i ih =>
    intro hi
    have hg : (cycE p st v q)[i]? = some (st.by_ (parN p st v i), numRule p (st.by_ (parN p st v i))) := by
      unfold cycE
      rw [List.getElem?_map, List.getElem?_range (by omega)]
      rfl
    rw [(chain_at hw hg).2]
    rfl
theorem cyc_ok {p : Pat} {n d : Int} {st : BSt} {v q : Nat} (h : Cycle p n d st v q) : OkChain p (cycE p st v q) v v := by
  refine ⟨fun e he => ?_, ?_, fun i j hij hj => ?_⟩
  · unfold cycE at he
    obtain ⟨i, _, rfl⟩ := List.mem_map.1 he
    exact (gained_rule (h.gain i)).2.2
  · have := cycle_walk h.gain q
    rw [h.back] at this
    unfold cycE
    rw [List.map_map]
    exact this
  · have hq : (cycE p st v q).length = q := by unfold cycE; rw [List.length_map, List.length_range]
    rw [hq] at hj
    rw [cycE_vert h i (by omega), cycE_vert h j (by omega)]
    intro he
    have h1 : parN p st v (i + (q - j)) = v := by
      rw [parN_add, he, ← parN_add, show j + (q - j) = q by omega, h.back]
    exact h.first (i + (q - j)) (by omega) (by omega) h1
theorem wts_sum (n d : Int) (es : List (Int × Rul)) : wts n d (es.map (·.2)) = sumC es * d + sumD es * n := by
  induction es with
  | nil => simp [wts_nil, sumC, sumD]
  | cons e es ih =>
    rw [List.map_cons, wts_cons, ih]
    simp only [sumC, sumD, List.map_cons, List.sum_cons]
    unfold wt
    grind
theorem above_pos {c d n m : Int} (hm : 1 ≤ m) (h : 0 < c * m + d * n) : sgnQ ((c : Rat) + (d : Rat) * ((n : Rat) / (m : Rat))) = 1 := by
  have hm' : (0 : Rat) < (m : Rat) := Rat.intCast_pos.2 (by omega)
  have key : ((c : Rat) + (d : Rat) * ((n : Rat) / (m : Rat))) * (m : Rat) = ((c * m + d * n : Int) : Rat) := by
    push_cast
    grind
  obtain ⟨q, hq⟩ : ∃ q, (c : Rat) + (d : Rat) * ((n : Rat) / (m : Rat)) = q := ⟨_, rfl⟩
  rw [hq] at key ⊢
  have hpos : (0 : Rat) < ((c * m + d * n : Int) : Rat) := Rat.intCast_pos.2 h
  have hq0 : 0 < q := by
    apply Decidable.byContradiction
    intro hn
    have h1 : q ≤ 0 := Rat.not_lt.1 hn
    have h2 := Rat.mul_le_mul_of_nonneg_right h1 (Rat.le_of_lt hm')
    rw [key, Rat.zero_mul] at h2
    exact absurd hpos (Rat.not_lt.2 h2)
  unfold sgnQ
  rw [if_neg (Rat.not_lt.2 (Rat.le_of_lt hq0)), if_neg (fun e => by rw [e] at hq0; exact absurd hq0 (Rat.not_lt.2 (Rat.le_refl)))]
theorem cycE_len (p : Pat) (st : BSt) (v q : Nat) : (cycE p st v q).length = q := by unfold cycE; rw [List.length_map, List.length_range]
theorem cycE_nums (p : Pat) (st : BSt) (v q : Nat) : (cycE p st v q).map (·.1) = (List.range q).map fun i => st.by_ (parN p st v i) := by unfold cycE; rw [List.map_map]; rfl
/-- Its weight is above 0. -/
theorem cyc_wt {p : Pat} {n d : Int} {st : BSt} {v q : Nat} (h : Cycle p n d st v q) : 0 < sumC (cycE p st v q) * d + sumD (cycE p st v q) * n := by
  rw [← wts_sum]
  have := h.wt
  unfold cycE
  rw [List.map_map]
  exact this
theorem chain_bad {p : Pat} {es : List (Int × Rul)} {a : Nat} {n d : Int} (h : OkChain p es a a) (hl : es.length ≤ 16) (hd : 1 ≤ d) (hw : 0 < sumC es * d + sumD es * n) : BadAt p ((n : Rat) / (d : Rat)) (sumC es) (sumD es) := by
  refine ⟨es.map (·.2), a, fun r hr => ?_, h.walk, (sumC_eq es).symm, (sumD_eq es).symm, by rw [List.length_map]; exact hl, ?_⟩
  · obtain ⟨e, he, rfl⟩ := List.mem_map.1 hr
    exact allL_ext (h.mem e he)
  · rw [← Rat.not_le]
    intro hn
    have := (le_at hd).1 hn
    omega

end Go.Proofs.Ytmknengmjepdaaa
