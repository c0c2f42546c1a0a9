/- Plainly: a curve composed with its inverse, and with the straight line. -/
import Derived.Test.YtfkclcoipadhmaaDoorEn
import Derived.Test.YtfkclcoipadhmaaDoorEk
namespace Go.Proofs.YtfkclcoipadhmaaDoor
open Go.RowKit

theorem toQ_ofQ (C : List Pt) : toQ (ofQ C) = C := by
  unfold toQ ofQ
  rw [List.map_map]
  refine (List.map_congr_left (fun p _ => ?_)).trans (List.map_id C)
  show (vq (p.1.num, (p.1.den : Int)), vq (p.2.num, (p.2.den : Int))) = p
  rw [vq_self, vq_self]
theorem vq_raw {n d : Int} (h : FV n d) : (vq (n, d)).num = n ∧ ((vq (n, d)).den : Int) = d := by
  have h1 := frQ_vq h
  unfold frQ at h1
  injection h1 with h2
  have h3 := congrArg Array.toList h2
  simp at h3
  exact h3
theorem ofQ_toQ {c : List P4} (h : RV c) : ofQ (toQ c) = c := by
  have hr := rv_all h
  unfold toQ ofQ
  rw [List.map_map]
  refine (List.map_congr_left (fun p hp => ?_)).trans (List.map_id c)
  obtain ⟨h1, h2⟩ := hr p hp
  obtain ⟨⟨a, b⟩, ⟨e, f⟩⟩ := p
  show (((vq (a, b)).num, ((vq (a, b)).den : Int)), ((vq (e, f)).num, ((vq (e, f)).den : Int))) = _
  rw [(vq_raw h1).1, (vq_raw h1).2, (vq_raw h2).1, (vq_raw h2).2]
  rfl
theorem ptsO_all {f : Rat → Option Pt} {l : List Rat} {g : Nat → Pt} : ∀ {n : Nat}, (∀ i, i < n → f (l.getD i 0) = some (g i)) → ptsO f l n = some ((List.range n).map g)
  | 0, _ => rfl
  | n + 1, h => by
    rw [ptsO_some (ptsO_all (fun i hi => h i (by omega))) (h n (by omega)), List.range_succ, List.map_append]
    rfl
theorem getD_map (C : List Pt) (F : Pt → Rat) {i : Nat} (hi : i < C.length) : (C.map F).getD i 0 = F (C.getD i (0, 0)) := by
  rw [List.getD_eq_getElem?_getD, List.getElem?_map, List.getD_eq_getElem?_getD, List.getElem?_eq_getElem hi]
  rfl
theorem xs_rising {C : List Pt} (h : CV C) : Rising (C.map (·.1)) := by
  unfold Rising
  rw [List.pairwise_map]
  exact (cv_pair h).imp (fun hh => hh.1)
theorem xs_le {C : List Pt} (h : CV C) {x : Rat} (hx : x ∈ C.map (·.1)) : x ≤ (endQ C).1 := by
  obtain ⟨i, hi, rfl⟩ := mem_get hx
  exact (h.le_end hi).1
theorem xs_end {C : List Pt} (h : CV C) : (endQ C).1 ∈ C.map (·.1) := by
  have h2 := h.two
  refine List.mem_map.2 ⟨endQ C, ?_, rfl⟩
  unfold endQ
  rw [List.getD_eq_getElem?_getD, List.getElem?_eq_getElem (by omega)]
  exact List.getElem_mem _
theorem xs_zero {C : List Pt} (h : CV C) : (0 : Rat) ∈ C.map (·.1) := by
  have h2 := h.two
  refine List.mem_map.2 ⟨C.getD 0 (0, 0), ?_, by rw [h.first]⟩
  rw [List.getD_eq_getElem?_getD, List.getElem?_eq_getElem (by omega)]
  exact List.getElem_mem _
theorem lesQ_self (a : Rat) : lesQ a a = a := by
  unfold lesQ
  rw [if_neg Rat.lt_irrefl]
theorem grid_self {C : List Pt} (h : CV C) {S : List Rat} (hS : ∀ x, x ∈ S → x ∈ C.map (·.1)) : gridQ (C.map (·.1) ++ S) (endQ C).1 = C.map (·.1) := by
  symm
  refine gridQ_of ⟨xs_rising h, fun x => ?_⟩
  rw [List.mem_append]
  exact ⟨fun hx => ⟨.inl hx, xs_le h hx⟩, fun hx => hx.1.elim id (hS x)⟩
/-- The points of a curve twice the same coordinate. -/
def dbl (C : List Pt) : List Pt := C.map fun p => (p.2, p.2)
theorem dbl_get (C : List Pt) {i : Nat} (hi : i < C.length) : (dbl C).getD i (0, 0) = ((C.getD i (0, 0)).2, (C.getD i (0, 0)).2) := by
  unfold dbl
  rw [List.getD_eq_getElem?_getD, List.getElem?_map, List.getD_eq_getElem?_getD, List.getElem?_eq_getElem hi]
  rfl
theorem dbl_len (C : List Pt) : (dbl C).length = C.length := by unfold dbl; rw [List.length_map]
theorem dbl_cv {C : List Pt} (h : CV C) : CV (dbl C) where
  two := by rw [dbl_len]; exact h.two
  most := by rw [dbl_len]; exact h.most
  first := by rw [dbl_get C (by have := h.two; omega), h.first]
  fit := fun i hi => by
    rw [dbl_len] at hi
    rw [dbl_get C hi]
    exact ⟨(h.fit i hi).2, (h.fit i hi).2⟩
  rise := fun i hi => by
    rw [dbl_len] at hi
    rw [dbl_get C hi, dbl_get C (by omega)]
    exact ⟨(h.rise i hi).2, (h.rise i hi).2⟩
theorem slO_three' {p q : Pt} (h : fits (q.2 - p.2)) (h2 : fits (q.1 - p.1)) : slO p q = fitO ((q.2 - p.2) / (q.1 - p.1)) := by
  unfold slO fitO; rw [if_pos h, if_pos h2]; rfl
theorem fits_one : fits 1 := ⟨by decide, by decide⟩
theorem slO_dbl {y z : Rat} (h : y < z) : slO (y, y) (z, z) = none ∨ slO (y, y) (z, z) = some 1 := by
  by_cases hf : fits (z - y)
  · right
    rw [slO_three' hf hf]
    have : (z - y) / (z - y) = 1 := by grind
    show fitO ((z - y) / (z - y)) = some 1
    rw [this]
    exact if_pos fits_one
  · left
    unfold slO fitO
    rw [if_neg hf]
    rfl
theorem sls_dbl {C : List Pt} (h : CV C) : ∀ {k : Nat}, k + 1 ≤ C.length → slsO (dbl C) k = none ∨ slsO (dbl C) k = some (List.replicate k 1)
  | 0, _ => .inr rfl
  | k + 1, hk => by
    rcases sls_dbl h (k := k) (by omega) with h1 | h1
    · left
      show (slsO (dbl C) k).bind _ = none
      rw [h1]; rfl
    · have hr := (h.rise k (by omega)).2
      have e : slsO (dbl C) (k + 1) = (slO ((dbl C).getD k (0, 0)) ((dbl C).getD (k + 1) (0, 0))).map fun s => List.replicate k 1 ++ [s] := by
        show (slsO (dbl C) k).bind _ = _
        rw [h1]; rfl
      rw [e, dbl_get C (by omega), dbl_get C (by omega)]
      rcases slO_dbl hr with h2 | h2
      · left; rw [h2]; rfl
      · right
        rw [h2]
        show some (List.replicate k 1 ++ [1]) = _
        rw [← List.replicate_succ']
theorem norm_line {c : List Pt} (h : CV c) : normTo c (List.replicate (c.length - 1) 1) c.length = [(0, 0), endQ c] := by
  have h2 := h.two
  obtain ⟨m, hm⟩ : ∃ m, c.length = m + 1 + 1 := ⟨c.length - 2, by omega⟩
  have hmid : ∀ k, k ≤ m → normTo c (List.replicate (c.length - 1) 1) (k + 1) = [(0, 0)] := by
    intro k hk
    induction k with
    | zero =>
      rw [normTo_yes (by rfl)]
      show [] ++ [c.getD 0 (0, 0)] = _
      rw [h.first]
      rfl
    | succ k ih =>
      rw [normTo_no, ih (by omega)]
      unfold keepB
      rw [decide_eq_false (by omega), decide_eq_false (by omega)]
      have e : ∀ j, j < c.length - 1 → (List.replicate (c.length - 1) (1 : Rat)).getD j 0 = 1 := fun j hj => by
        rw [List.getD_eq_getElem?_getD, List.getElem?_replicate, if_pos hj]
        rfl
      rw [e _ (by omega), e _ (by omega)]
      simp
  rw [norm_last _ hm.symm, hmid m (Nat.le_refl m)]
  unfold endQ
  rw [hm]
  rfl
/-- The slopes of such a curve: it is the straight line. -/
theorem nrm_dbl {C : List Pt} (h : CV C) : slpE (ofQ (dbl C)) = 5 ∨ (slpE (ofQ (dbl C)) = 0 ∧ nrmL (ofQ (dbl C)) = [(0, 0), ((endQ C).2, (endQ C).2)]) := by
  have hr : RV (ofQ (dbl C)) := rv_ofQ.2 (dbl_cv h)
  have hlen : (ofQ (dbl C)).length = C.length := by rw [ofQ_len, dbl_len]
  rcases sls_dbl h (k := C.length - 1) (by have := h.two; omega) with h1 | h1
  · left
    unfold slpE
    rw [if_pos hr, toQ_ofQ, hlen, h1]
  · right
    have e0 : slpE (ofQ (dbl C)) = 0 := by
      unfold slpE
      rw [if_pos hr, toQ_ofQ, hlen, h1]
    refine ⟨e0, ?_⟩
    have e1 : slpL (ofQ (dbl C)) = List.replicate (C.length - 1) 1 := by
      unfold slpL
      rw [if_pos hr, toQ_ofQ, hlen, h1]
      rfl
    unfold nrmL
    rw [if_pos e0, toQ_ofQ, hlen, e1]
    have := norm_line (dbl_cv h)
    rw [dbl_len] at this
    rw [this]
    have e2 : endQ (dbl C) = ((endQ C).2, (endQ C).2) := by
      unfold endQ
      rw [dbl_len, dbl_get C (by have := h.two; omega)]
    rw [e2]

/-- A curve composed with its inverse. -/
theorem round_one {c : List P4} (h : RV c) : cpsE c (c.map invP) = 5 ∨ (cpsE c (c.map invP) = 0 ∧ cpsL c (c.map invP) = [(0, 0), ((endQ (toQ c)).2, (endQ (toQ c)).2)]) := by
  have hC := rv_cv h
  have hG : cmpG (toQ c) (toQ (c.map invP)) = (toQ c).map (·.1) := by
    unfold cmpG
    rw [toQ_inv, end_sw (by have := hC.two; omega)]
    show gridQ _ (lesQ (endQ (toQ c)).1 (endQ (toQ c)).1) = _
    rw [lesQ_self]
    refine grid_self hC (fun x hx => ?_)
    rw [List.map_map] at hx
    exact hx
  have hn : ((toQ c).map (·.1)).length = (toQ c).length := by rw [List.length_map]
  have hp : ptsO (cmpO (toQ c) (toQ c)) ((toQ c).map (·.1)) (toQ c).length = some (dbl (toQ c)) := by
    rw [ptsO_all (g := fun i => (((toQ c).getD i (0, 0)).2, ((toQ c).getD i (0, 0)).2))]
    · congr 1
      refine List.ext_getElem (by simp [dbl]) (fun i h1 h2 => ?_)
      have h3 : i < (toQ c).length := by simpa using h1
      simp only [dbl, List.getElem_map, List.getElem_range, List.getD_eq_getElem?_getD, List.getElem?_eq_getElem h3]
      rfl
    · intro i hi
      rw [getD_map _ _ hi]
      unfold cmpO
      rw [at_same hC hi rfl]
      rfl
  have e1 : cpsE c (c.map invP) = slpE (ofQ (dbl (toQ c))) := by
    unfold cpsE
    rw [if_pos ⟨h, rv_inv h⟩, hG, hn, if_neg (by have := hC.most; omega), inv_inv]
    unfold madE
    rw [hn, hp]
  have e2 : cpsL c (c.map invP) = nrmL (ofQ (dbl (toQ c))) := by
    unfold cpsL
    rw [if_pos ⟨h, rv_inv h⟩, hG, hn, if_neg (by have := hC.most; omega), inv_inv]
    unfold madL
    rw [hn, hp]
  rw [e1, e2]
  exact nrm_dbl hC

/-- The straight line of slope 1 up to e. -/
theorem line_cv {e : Rat} (h0 : 0 < e) (hf : fits e) : CV [(0, 0), (e, e)] := by
  refine cv_of (by simp) (by simp) rfl (fun p hp => ?_) ?_
  · simp at hp
    rcases hp with rfl | rfl
    · exact ⟨fits_nought, fits_nought⟩
    · exact ⟨hf, hf⟩
  · simp [lt2, h0]
theorem at_line {e x : Rat} (h0 : 0 < e) (hf : fits e) (hx : fits x) (h1 : 0 ≤ x) (h2 : x ≤ e) : atO [(0, 0), (e, e)] x = some x := by
  have hc := line_cv h0 hf
  by_cases hx0 : x = 0
  · subst hx0
    exact at_same hc (i := 0) (by simp) rfl
  · by_cases hxe : x = e
    · subst hxe
      exact at_same hc (i := 1) (by simp) rfl
    · rw [at_between hc (i := 0) (by simp) (by show (0 : Rat) < x; grind) (by show x < e; grind)]
      show segO (0, 0) (e, e) x = some x
      have e1 : e - 0 = e := by grind
      have e2 : x - 0 = x := by grind
      have e3 : e / e = 1 := by grind
      have e4 : x * 1 = x := by grind
      have e5 : 0 + x = x := by grind
      have hs : slO (0, 0) (e, e) = some 1 := by
        rw [slO_three' (by show fits (e - 0); rw [e1]; exact hf) (by show fits (e - 0); rw [e1]; exact hf)]
        show fitO ((e - 0) / (e - 0)) = some 1
        rw [e1, e3]
        exact if_pos fits_one
      unfold segO
      rw [hs, Option.bind_some]
      show (fitO (x - 0)).bind _ = _
      rw [e2, show fitO x = some x from if_pos hx, Option.bind_some, e4, show fitO x = some x from if_pos hx, Option.bind_some]
      show fitO (0 + x) = some x
      rw [e5]
      exact if_pos hx
/-- A curve composed with the line: its normal form. -/
theorem round_two {c : List P4} (h : RV c) {n d : Int} (hnd : ((endQ (toQ c)).1.num = n ∧ ((endQ (toQ c)).1.den : Int) = d)) : cpsE c [((0, 1), (0, 1)), ((n, d), (n, d))] = slpE c ∧ cpsL c [((0, 1), (0, 1)), ((n, d), (n, d))] = nrmL c := by
  have hC := rv_cv h
  obtain ⟨e, he⟩ : ∃ e, (endQ (toQ c)).1 = e := ⟨_, rfl⟩
  have hfe : fits e := by rw [← he]; exact (hC.fit _ (by have := hC.two; omega)).1
  have h0 : 0 < e := by
    rw [← he]
    have := (hC.lt (i := 0) (j := (toQ c).length - 1) (by have := hC.two; omega) (by have := hC.two; omega)).1
    rw [hC.first] at this
    exact this
  have hln : ([((0, 1), (0, 1)), ((n, d), (n, d))] : List P4) = ofQ [(0, 0), (e, e)] := by
    rw [← hnd.1, ← hnd.2, he]
    rfl
  have hrl : RV (ofQ [(0, 0), (e, e)]) := rv_ofQ.2 (line_cv h0 hfe)
  have hinv : (ofQ [(0, 0), (e, e)]).map invP = ofQ [(0, 0), (e, e)] := rfl
  rw [hln]
  have hG : cmpG (toQ c) [(0, 0), (e, e)] = (toQ c).map (·.1) := by
    unfold cmpG
    rw [he]
    show gridQ _ (lesQ e e) = _
    rw [lesQ_self, ← he]
    refine grid_self hC (fun x hx => ?_)
    simp at hx
    rcases hx with rfl | rfl
    · exact xs_zero hC
    · exact xs_end hC
  have hn : ((toQ c).map (·.1)).length = (toQ c).length := by rw [List.length_map]
  have hp : ptsO (cmpO (toQ c) [(0, 0), (e, e)]) ((toQ c).map (·.1)) (toQ c).length = some (toQ c) := by
    rw [ptsO_all (g := fun i => (toQ c).getD i (0, 0)), map_range_self]
    intro i hi
    rw [getD_map _ _ hi]
    unfold cmpO
    rw [at_line h0 hfe (hC.fit i hi).1 (hC.nonneg hi).1 (by rw [← he]; exact (hC.le_end hi).1), at_same hC hi rfl]
    rfl
  constructor
  · unfold cpsE
    rw [if_pos ⟨h, hrl⟩, hinv, toQ_ofQ, hG, hn, if_neg (by have := hC.most; omega)]
    unfold madE
    rw [hn, hp]
    show slpE (ofQ (toQ c)) = _
    rw [ofQ_toQ h]
  · unfold cpsL
    rw [if_pos ⟨h, hrl⟩, hinv, toQ_ofQ, hG, hn, if_neg (by have := hC.most; omega)]
    unfold madL
    rw [hn, hp]
    show nrmL (ofQ (toQ c)) = _
    rw [ofQ_toQ h]

end Go.Proofs.YtfkclcoipadhmaaDoor
