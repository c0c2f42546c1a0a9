/- The least solution satisfies its pattern, and lies below every other solution, plainly. -/
import Derived.Test.YtmknengmjepdaaaJx
import Derived.Test.YtmknengmjepdaaaYc
namespace Go.Proofs.Ytmknengmjepdaaa
open Go.RowKit

theorem least_len (p : Pat) (n d : Int) : (leastL p n d).length = p.n.toNat := by unfold leastL; simp
theorem least_getD {p : Pat} {n d : Int} {v : Nat} (hv : v < p.n.toNat) : (leastL p n d).getD v (0, 0) = leastF p n d v := by
  unfold leastL
  simp [List.getD, hv]
/-- A fraction and what it stands for. -/
theorem div_cross {a b y d : Int} (hb : 1 ≤ b) (hd : 1 ≤ d) (h : (a : Rat) / (b : Rat) = (y : Rat) / (d : Rat)) : a * d = y * b := by
  have a1 : (b : Rat) ≠ 0 := by have : (0 : Rat) < (b : Rat) := Rat.intCast_pos.2 (by omega); grind
  have a2 : (d : Rat) ≠ 0 := by have : (0 : Rat) < (d : Rat) := Rat.intCast_pos.2 (by omega); grind
  have : (a : Rat) * (d : Rat) = (y : Rat) * (b : Rat) := by grind
  exact_mod_cast this
theorem least_cross {p : Pat} {n d : Int} (hp : PValid p) (hs : FSize n d) (hb : chBad p n d = false) {v : Nat} (hv : v < p.n.toNat) : 1 ≤ (leastF p n d v).2 ∧ (leastF p n d v).1 * d = chainM p n d v 0 * (leastF p n d v).2 := by
  obtain ⟨h1, h2⟩ := least_fv hp hs hb hv
  exact ⟨h1.1, div_cross h1.1 hs.1.1 h2⟩
theorem least_asg {p : Pat} {n d : Int} (hp : PValid p) (hs : FSize n d) (hb : chBad p n d = false) : AsgP p (leastL p n d) := by
  refine ⟨by rw [least_len]; have := hp.1; omega, fun f hf => ?_⟩
  unfold leastL at hf
  obtain ⟨v, hv, rfl⟩ := List.mem_map.1 hf
  exact (least_fv hp hs hb (List.mem_range.1 hv)).1
theorem least_fits {p : Pat} {n d : Int} (hp : PValid p) (hs : FSize n d) (hb : chBad p n d = false) : ftE p n d (leastL p n d) = 0 ∧ ftB p n d (leastL p n d) = true := by
  obtain ⟨e1, e2⟩ := fit_ok ⟨hp, hs, least_asg hp hs hb⟩
  refine ⟨e1, ?_⟩
  have h0 : 0 < p.n.toNat := by have := hp.1; omega
  rw [e2, Bool.and_eq_true, decide_eq_true_eq, List.all_eq_true]
  refine ⟨?_, fun r hr => ?_⟩
  · rw [least_getD h0]
    obtain ⟨c1, c2⟩ := least_cross hp hs hb h0
    have k1 := (chain_bd hp hs hb h0).1
    have k2 := chBad_false.1 hb 0 h0
    have k3 : chainM p n d 0 0 = 0 := by omega
    rw [k3, Int.zero_mul] at c2
    have := hs.1.1
    rcases Int.mul_eq_zero.1 c2 with h | h
    · exact h
    · omega
  · have hrv := ext_rv hp.1 hp.2.2.2 r hr
    have ha : r.a.toNat < p.n.toNat := by have := hrv.1; have := hrv.2.1; omega
    have hbb : r.b.toNat < p.n.toNat := by have := hrv.2.2.1; have := hrv.2.2.2.1; omega
    obtain ⟨a1, a2⟩ := least_cross hp hs hb ha
    obtain ⟨b1, b2⟩ := least_cross hp hs hb hbb
    obtain ⟨⟨lb, l1, l2, l3⟩, -⟩ := chain_greatest hp hs hb r.b.toNat hbb
    have hg := (chain_greatest hp hs hb r.a.toNat ha).2 (r :: lb) (fun x hx => by
      rcases List.mem_cons.1 hx with rfl | hx
      · exact hr
      · exact l1 x hx) ⟨by have := hrv.1; omega, l2⟩
    dsimp only at l3 hg
    rw [wts_cons] at hg
    unfold okR
    rw [least_getD ha, least_getD hbb, decide_eq_true_eq]
    obtain ⟨na, hna⟩ : ∃ z, (leastF p n d r.a.toNat).1 = z := ⟨_, rfl⟩
    obtain ⟨da, hda⟩ : ∃ z, (leastF p n d r.a.toNat).2 = z := ⟨_, rfl⟩
    obtain ⟨nb, hnb⟩ : ∃ z, (leastF p n d r.b.toNat).1 = z := ⟨_, rfl⟩
    obtain ⟨db, hdb⟩ : ∃ z, (leastF p n d r.b.toNat).2 = z := ⟨_, rfl⟩
    rw [hna, hda] at a2
    rw [hnb, hdb] at b2
    rw [hda] at a1
    rw [hdb] at b1
    rw [hna, hda, hnb, hdb]
    have hle : wt r n d ≤ chainM p n d r.a.toNat 0 - chainM p n d r.b.toNat 0 := by omega
    have hm : 0 ≤ da * db := Int.mul_nonneg (by omega) (by omega)
    have h1 := Int.mul_le_mul_of_nonneg_right hle hm
    have h2 : (na * db - nb * da) * d = (chainM p n d r.a.toNat 0 - chainM p n d r.b.toNat 0) * (da * db) := by grind
    rw [h2]
    exact h1
/-- A chain to 0 weighs no more than the measure of its start. -/
theorem fits_walk {p : Pat} {n d : Int} {l : List (Int × Int)} (hp : PValid p) (ha : AsgP p l) (h0 : (l.getD 0 (0, 0)).1 = 0) (hok : ∀ r ∈ ext p, okR n d l r = true) : ∀ (c : List Rul) (a : Nat), (∀ r ∈ c, r ∈ ext p) → a < p.n.toNat → isWalk c a 0 → wts n d c * (l.getD a (0, 0)).2 ≤ (l.getD a (0, 0)).1 * d
  | [], a, _, _, hw => by
    have : a = 0 := hw
    rw [this, h0, wts_nil]
    simp
  | r :: c, a, hc, hlt, hw => by
    have hr := hc r (List.mem_cons_self ..)
    have hrv := ext_rv hp.1 hp.2.2.2 r hr
    have hbb : r.b.toNat < p.n.toNat := by have := hrv.2.2.1; have := hrv.2.2.2.1; omega
    have ih := fits_walk hp ha h0 hok c r.b.toNat (fun x hx => hc x (List.mem_cons_of_mem _ hx)) hbb hw.2
    have ho := hok r hr
    have hra : r.a.toNat = a := by rw [hw.1]; simp
    unfold okR at ho
    rw [decide_eq_true_eq, hra] at ho
    have fa := (fv_at ha hlt).2
    have fb := (fv_at ha hbb).2
    obtain ⟨na, hna⟩ : ∃ z, (l.getD a (0, 0)).1 = z := ⟨_, rfl⟩
    obtain ⟨da, hda⟩ : ∃ z, (l.getD a (0, 0)).2 = z := ⟨_, rfl⟩
    obtain ⟨nb, hnb⟩ : ∃ z, (l.getD r.b.toNat (0, 0)).1 = z := ⟨_, rfl⟩
    obtain ⟨db, hdb⟩ : ∃ z, (l.getD r.b.toNat (0, 0)).2 = z := ⟨_, rfl⟩
    rw [hna, hda] at fa
    rw [hnb, hdb] at fb
    rw [hna, hda, hnb, hdb] at ho
    rw [hnb, hdb] at ih
    rw [hna, hda, wts_cons]
    have h1 := Int.mul_le_mul_of_nonneg_right ih (show 0 ≤ da by have := fa.1; omega)
    have h2 : ((wt r n d + wts n d c) * da) * db ≤ (na * d) * db := by
      have e1 : ((wt r n d + wts n d c) * da) * db = wt r n d * (da * db) + wts n d c * db * da := by grind
      have e2 : (na * d) * db = (na * db - nb * da) * d + nb * d * da := by grind
      rw [e1, e2]
      omega
    exact Int.le_of_mul_le_mul_right h2 (by have := fb.1; omega)
theorem fits_ge {p : Pat} {n d : Int} {l : List (Int × Int)} (h : ftB p n d l = true) : PValid p ∧ FSize n d ∧ AsgP p l ∧ (chBad p n d = false → ∀ i, i < p.n.toNat → (leastF p n d i).1 * (l.getD i (0, 0)).2 ≤ (l.getD i (0, 0)).1 * (leastF p n d i).2) := by
  by_cases hg : PValid p ∧ FSize n d ∧ AsgP p l
  case neg => rw [(fit_two hg).2] at h; cases h
  obtain ⟨hp, hs, ha⟩ := id hg
  rw [(fit_ok hg).2, Bool.and_eq_true, decide_eq_true_eq, List.all_eq_true] at h
  refine ⟨hp, hs, ha, fun hb i hi => ?_⟩
  obtain ⟨c1, c2⟩ := least_cross hp hs hb hi
  obtain ⟨⟨c, l1, l2, l3⟩, -⟩ := chain_greatest hp hs hb i hi
  dsimp only at l3
  have hw := fits_walk hp ha h.1 h.2 c i l1 hi l2
  have fa := (fv_at ha hi).2
  obtain ⟨na, hna⟩ : ∃ z, (l.getD i (0, 0)).1 = z := ⟨_, rfl⟩
  obtain ⟨da, hda⟩ : ∃ z, (l.getD i (0, 0)).2 = z := ⟨_, rfl⟩
  obtain ⟨ln, hln⟩ : ∃ z, (leastF p n d i).1 = z := ⟨_, rfl⟩
  obtain ⟨ld, hld⟩ : ∃ z, (leastF p n d i).2 = z := ⟨_, rfl⟩
  rw [hna, hda] at fa hw
  rw [hln, hld] at c2
  rw [hld] at c1
  rw [hna, hda, hln, hld]
  have hd := hs.1.1
  have h1 := Int.mul_le_mul_of_nonneg_right hw (show 0 ≤ ld by omega)
  have h2 : (ln * da) * d ≤ (na * ld) * d := by
    have e1 : (ln * da) * d = wts n d c * da * ld := by
      have : (ln * da) * d = (ln * d) * da := by grind
      rw [this, c2, ← l3]
      grind
    have e2 : (na * ld) * d = na * d * ld := by grind
    rw [e1, e2]
    exact h1
  exact Int.le_of_mul_le_mul_right h2 (by omega)
/-- A chain weighs no more than the difference of its ends. -/
theorem fits_walk2 {p : Pat} {n d : Int} {l : List (Int × Int)} (hp : PValid p) (ha : AsgP p l) (hok : ∀ r ∈ ext p, okR n d l r = true) : ∀ (c : List Rul) (a b : Nat), (∀ r ∈ c, r ∈ ext p) → a < p.n.toNat → b < p.n.toNat → isWalk c a b → wts n d c * ((l.getD a (0, 0)).2 * (l.getD b (0, 0)).2) ≤ ((l.getD a (0, 0)).1 * (l.getD b (0, 0)).2 - (l.getD b (0, 0)).1 * (l.getD a (0, 0)).2) * d
  | [], a, b, _, _, _, hw => by
    have : a = b := hw
    subst this
    rw [wts_nil, Int.sub_self, Int.zero_mul, Int.zero_mul]
    exact Int.le_refl _
  | r :: c, a, b, hc, hlt, hltb, hw => by
    have hr := hc r (List.mem_cons_self ..)
    have hrv := ext_rv hp.1 hp.2.2.2 r hr
    have hbb : r.b.toNat < p.n.toNat := by have := hrv.2.2.1; have := hrv.2.2.2.1; omega
    have ih := fits_walk2 hp ha hok c r.b.toNat b (fun x hx => hc x (List.mem_cons_of_mem _ hx)) hbb hltb hw.2
    have ho := hok r hr
    have hra : r.a.toNat = a := by rw [hw.1]; simp
    unfold okR at ho
    rw [decide_eq_true_eq, hra] at ho
    have fa := (fv_at ha hlt).2
    have fm := (fv_at ha hbb).2
    have fb := (fv_at ha hltb).2
    rw [wts_cons]
    generalize (l.getD a (0, 0)).1 = na at *
    generalize (l.getD a (0, 0)).2 = da at *
    generalize (l.getD r.b.toNat (0, 0)).1 = nm at *
    generalize (l.getD r.b.toNat (0, 0)).2 = dm at *
    generalize (l.getD b (0, 0)).1 = nb at *
    generalize (l.getD b (0, 0)).2 = db at *
    have h1 := Int.mul_le_mul_of_nonneg_right ih (show 0 ≤ da by have := fa.1; omega)
    have h2 := Int.mul_le_mul_of_nonneg_right ho (show 0 ≤ db by have := fb.1; omega)
    have h3 : ((wt r n d + wts n d c) * (da * db)) * dm ≤ ((na * db - nb * da) * d) * dm := by
      have e1 : ((wt r n d + wts n d c) * (da * db)) * dm = wt r n d * (da * dm) * db + wts n d c * (dm * db) * da := by grind
      have e2 : ((na * db - nb * da) * d) * dm = (na * dm - nm * da) * d * db + (nm * db - nb * dm) * d * da := by grind
      rw [e1, e2]
      omega
    exact Int.le_of_mul_le_mul_right h3 (by have := fm.1; omega)
theorem fits_good {p : Pat} {n d : Int} {l : List (Int × Int)} (h : ftB p n d l = true) : chBad p n d = false := by
  by_cases hg : PValid p ∧ FSize n d ∧ AsgP p l
  case neg => rw [(fit_two hg).2] at h; cases h
  obtain ⟨hp, hs, ha⟩ := id hg
  rw [(fit_ok hg).2, Bool.and_eq_true, decide_eq_true_eq, List.all_eq_true] at h
  refine (chBad_iff hp hs).2 fun c a hc hw => ?_
  match c, hc, hw with
  | [], _, _ => rw [wts_nil]; exact Int.le_refl _
  | r :: c, hc, hw =>
    have hrv := ext_rv hp.1 hp.2.2.2 r (hc r (List.mem_cons_self ..))
    have hlt : a < p.n.toNat := by have := hw.1; have := hrv.1; have := hrv.2.1; omega
    have k := fits_walk2 hp ha h.2 (r :: c) a a hc hlt hlt hw
    rw [Int.sub_self, Int.zero_mul] at k
    have fa := (fv_at ha hlt).2
    have hpos : 0 < (l.getD a (0, 0)).2 * (l.getD a (0, 0)).2 := Int.mul_pos (by have := fa.1; omega) (by have := fa.1; omega)
    refine Int.not_lt.1 fun hgt => ?_
    have := Int.mul_pos hgt hpos
    omega
/-- Order of two fractions, the first of which is no smaller. -/
theorem ord_ge {a b c e : Int} (hb : 1 ≤ b) (he : 1 ≤ e) (h : c * b ≤ a * e) : ¬ sgnQ ((a : Rat) / (b : Rat) - (c : Rat) / (e : Rat)) < 0 := by
  have k := fit_sgn (na := a) (da := b) (nb := c) (db := e) (y := 0) (d := 1) hb he (by decide)
  have z : ((0 : Int) : Rat) / ((1 : Int) : Rat) = 0 := by rw [Rat.div_def, show ((0 : Int) : Rat) = 0 from rfl, Rat.zero_mul]
  have s : (a : Rat) / (b : Rat) - (c : Rat) / (e : Rat) - ((0 : Int) : Rat) / ((1 : Int) : Rat) = (a : Rat) / (b : Rat) - (c : Rat) / (e : Rat) := by rw [z]; grind
  rw [s] at k
  rw [k]
  rw [Int.zero_mul, Int.mul_one]
  omega

end Go.Proofs.Ytmknengmjepdaaa
