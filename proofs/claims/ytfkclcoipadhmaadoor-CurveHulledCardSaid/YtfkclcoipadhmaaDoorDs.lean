/- The common grid of two curves; walk of curve.common. -/
import Derived.Test.YtfkclcoipadhmaaDoorDr
import Derived.Test.YtfkclcoipadhmaaDoorDk
namespace Go.Proofs.YtfkclcoipadhmaaDoor
open Go.RowKit
attribute [local irreducible] seqS seqST walkV walkJ

/-- The grid: the members that are at most m, rising. -/
def gridQ (l : List Rat) (m : Rat) : List Rat :=
  let s := (l.filter fun q => decide (q ≤ m)).mergeSort (fun a b => decide (a ≤ b))
  ddTo s s.length
theorem gridQ_grid (l : List Rat) (m : Rat) : GridOf (gridQ l m) l m := by
  unfold gridQ
  obtain ⟨s, hs⟩ : ∃ s, (l.filter fun q => decide (q ≤ m)).mergeSort (fun a b => decide (a ≤ b)) = s := ⟨_, rfl⟩
  have hp : s.Perm (l.filter fun q => decide (q ≤ m)) := by rw [← hs]; exact List.mergeSort_perm _ _
  have hso : s.Pairwise (fun a b => decide (a ≤ b) = true) := by
    rw [← hs]
    exact List.pairwise_mergeSort (le := fun a b => decide (a ≤ b)) (fun a b c h1 h2 => by
      have h1 := of_decide_eq_true h1
      have h2 := of_decide_eq_true h2
      exact decide_eq_true (by grind)) (fun a b => by
      rcases Rat.le_total (a := a) (b := b) with h | h
      · rw [decide_eq_true h]; rfl
      · rw [decide_eq_true h]; simp) _
  show GridOf (let s := _; ddTo s s.length) l m
  rw [hs]
  have hle : ∀ i j, i ≤ j → j < s.length → s.getD i 0 ≤ s.getD j 0 := by
    intro i j hij hj
    by_cases he : i = j
    · rw [he]; exact Rat.le_refl
    · have := List.pairwise_iff_getElem.1 hso i j (by omega) hj (by omega)
      rw [List.getD_eq_getElem?_getD, List.getD_eq_getElem?_getD, List.getElem?_eq_getElem (by omega), List.getElem?_eq_getElem hj]
      exact of_decide_eq_true this
  obtain ⟨h1, h2⟩ := dd_grid hle s.length (Nat.le_refl _)
  refine ⟨h1, fun x => ?_⟩
  rw [h2 x, List.take_of_length_le (Nat.le_refl _), hp.mem_iff, List.mem_filter, decide_eq_true_eq]
theorem gridQ_of {l l0 : List Rat} {m : Rat} (h : GridOf l l0 m) : l = gridQ l0 m := grid_unique h (gridQ_grid l0 m) (fun _ => Iff.rfl)

def lesQ (a b : Rat) : Rat := if b < a then b else a
def endQ (C : List Pt) : Pt := C.getD (C.length - 1) (0, 0)
/-- The X of two curves on their common domain. -/
def comG (A C : List Pt) : List Rat := gridQ (A.map (·.1) ++ C.map (·.1)) (lesQ (endQ A).1 (endQ C).1)
def comE (c d : List P4) : Int := if RV c ∧ RV d then (if 48 < (comG (toQ c) (toQ d)).length then 3 else 0) else 2
def comL (c d : List P4) : List Rat := if comE c d = 0 then comG (toQ c) (toQ d) else []
theorem field_x (a b c d : Int) (w : World) : (Instr.field 52 (.agg #[.int .i64 a, .int .i64 b, .int .i64 c, .int .i64 d]) 0).run Tryd.prog w = .ok (.agg #[.int .i64 a, .int .i64 b]) w := by
  simp [Instr.field, go_sem, asAgg, Result.andThen]
theorem field_y (a b c d : Int) (w : World) : (Instr.field 52 (.agg #[.int .i64 a, .int .i64 b, .int .i64 c, .int .i64 d]) 1).run Tryd.prog w = .ok (.agg #[.int .i64 c, .int .i64 d]) w := by
  simp [Instr.field, go_sem, asAgg, Result.andThen]
theorem fun_x : FunPt 89 (·.1) := ⟨enters_of Tryd.func89 (by kernel_rfl) rfl, abscissa_any⟩
theorem lesQ_fits {a b : Rat} (ha : fits a) (hb : fits b) : fits (lesQ a b) := by
  unfold lesQ
  by_cases h : b < a
  · rw [if_pos h]; exact hb
  · rw [if_neg h]; exact ha

set_option maxHeartbeats 8000000 in
set_option maxRecDepth 100000 in
theorem common_any (c d : List P4) (vc vd : Value) (w : World) (hc : P4R 0 w vc c) (hd : P4R 0 w vd d) (hz : Z0 w) :
    Calls Tryd.prog 70 #[vc, vd] w fun r w' => (∃ vl, r = .returned (.tuple #[vl, .int .i64 (comE c d)]) ∧ QsR w.heap.size w' vl (comL c d)) ∧ Below w.heap.size w w' := by
  have VC := hid (cValid_any c vc w hc hz)
  have VD := hid (fun w h hz => cValid_any d vd w h hz)
  obtain ⟨E, hE⟩ : ∃ E, comE c d = E := ⟨_, rfl⟩
  obtain ⟨R, hR⟩ : ∃ R, comL c d = R := ⟨_, rfl⟩
  rw [hE, hR]
  have HE := hid hE
  have HR := hid hR
  have HRR : Hid (E ≠ 0 → R = []) := hid (fun h => by rw [← hR]; unfold comL; rw [hE]; exact if_neg h)
  clear hE hR
  obtain ⟨ac, cc, rfl, -⟩ := id hc
  obtain ⟨ad, cd, rfl, -⟩ := id hd
  go_enter Tryd.func70, Tryd.ntmps70
  go_wp2_with fail
  refine VC.out.mono ?_
  rintro r w1 ⟨rfl, hb1⟩
  by_cases hrc : RV c
  case neg =>
    rw [decide_eq_false hrc]
    have e1 : E = 2 := by rw [← HE.out]; exact if_neg (fun h => hrc h.1)
    have e2 : R = [] := HRR.out (by omega)
    subst e1 e2
    go_wp2
    go_ret2
    exact ⟨⟨_, rfl, SlR.nil _ _⟩, hb1⟩
  rw [decide_eq_true hrc]
  have HC := hid hrc
  have hc1 := hc.below hb1
  have hd1 := hd.below hb1
  have hz1 := hz.below hb1
  clear hrc hc hd hz VC
  go_wp2_with fail
  refine (VD.out _ hd1 hz1).mono ?_
  rintro r w2 ⟨rfl, hb2⟩
  have hB2 := hb1.trans (hb2.mono hb1.size)
  by_cases hrd : RV d
  case neg =>
    rw [decide_eq_false hrd]
    have e1 : E = 2 := by rw [← HE.out]; exact if_neg (fun h => hrd h.2)
    have e2 : R = [] := HRR.out (by omega)
    subst e1 e2
    go_wp2
    go_ret2
    exact ⟨⟨_, rfl, SlR.nil _ _⟩, hB2⟩
  rw [decide_eq_true hrd]
  have qc := (P4R.toQ hc1 HC.out).below hb2
  have qd := (P4R.toQ hd1 hrd).below hb2
  have vc := rv_cv HC.out
  have vd := rv_cv hrd
  have lc := toQ_len c
  have ld := toQ_len d
  have e1 : comE c d = if 48 < (comG (toQ c) (toQ d)).length then 3 else 0 := if_pos ⟨HC.out, hrd⟩
  have e2 : comE c d = 0 → comL c d = comG (toQ c) (toQ d) := fun h => if_pos h
  generalize toQ c = C at qc vc lc e1 e2
  generalize toQ d = D at qd vd ld e1 e2
  rw [HE.out] at e1 e2
  rw [HR.out] at e2
  rw [← lc] at qc ⊢
  rw [← ld] at qd ⊢
  have EC := hid (end_any C _ w2 qc (by have := vc.two; omega) vc.most)
  have ED := hid (fun w h => end_any D (.slice ad D.length cd) w h (by have := vd.two; omega) vd.most)
  obtain ⟨PC, hPC⟩ : ∃ p, C.getD (C.length - 1) (0, 0) = p := ⟨_, rfl⟩
  obtain ⟨PD, hPD⟩ : ∃ p, D.getD (D.length - 1) (0, 0) = p := ⟨_, rfl⟩
  have fc : fits PC.1 := by rw [← hPC]; exact (vc.fit _ (by have := vc.two; omega)).1
  have fd : fits PD.1 := by rw [← hPD]; exact (vd.fit _ (by have := vd.two; omega)).1
  have LS := hid (fun w => lesser_any PC.1 PD.1 fc fd w)
  have hls : (if PD.1 < PC.1 then PD.1 else PC.1) = lesQ (endQ C).1 (endQ D).1 := by unfold lesQ endQ; rw [hPC, hPD]
  have hlf : fits (lesQ (endQ C).1 (endQ D).1) := by rw [← hls]; exact lesQ_fits fc fd
  rw [hls] at LS
  rw [hPC] at EC
  rw [hPD] at ED
  have eG : comG C D = gridQ (C.map (·.1) ++ D.map (·.1)) (lesQ (endQ C).1 (endQ D).1) := rfl
  have ME := hid (fun w h1 h2 => merged_any C D 89 89 (·.1) (·.1) (lesQ (endQ C).1 (endQ D).1) (.slice ac C.length cc) (.slice ad D.length cd) w h1 h2 (by have := vc.two; omega) vc.most vd.most fun_x fun_x (fun i hi => (vc.fit i hi).1) (fun i hi => (vd.fit i hi).1) hlf)
  have HGR : Hid (∀ l, GridOf l (C.map (·.1) ++ D.map (·.1)) (lesQ (endQ C).1 (endQ D).1) → l = comG C D) := hid (fun l h => by rw [eG]; exact gridQ_of h)
  generalize lesQ (endQ C).1 (endQ D).1 = M at LS ME HGR
  have HE1 := hid e1
  have HE2 := hid e2
  clear e1 e2 eG hls hlf hPC hPD fc fd vc vd lc ld HE HR VD
  unfold ptQ at EC ED
  unfold frQ at LS ME
  have hfx := field_x
  go_wp2_with fail
  refine EC.out.mono ?_
  rintro r w3 ⟨rfl, hb3⟩
  have qc3 := qc.below hb3
  have qd3 := qd.below hb3
  have hB3 := hB2.trans (hb3.mono hB2.size)
  clear EC qc qd hB2 hb3 hb2 hb1 hc1 hd1 hz1 hrd HC
  go_wp2_with fail
  refine (ED.out _ qd3).mono ?_
  rintro r w4 ⟨rfl, hb4⟩
  have qc4 := qc3.below hb4
  have qd4 := qd3.below hb4
  have hB4 := hB3.trans (hb4.mono hB3.size)
  clear ED qc3 qd3 hB3 hb4
  go_wp2_with fail
  refine (LS.out _).mono ?_
  rintro r w5 ⟨rfl, hb5⟩
  have qc5 := qc4.below hb5
  have qd5 := qd4.below hb5
  have hB5 := hB4.trans (hb5.mono hB4.size)
  clear LS qc4 qd4 hB4 hb5
  go_wp2_with fail
  refine (ME.out _ qc5 qd5).mono ?_
  rintro r w6 ⟨⟨v, l, rfl, hq, hg, -⟩, hb6⟩
  have hB6 := hB5.trans (hb6.mono hB5.size)
  have hq6 := QsR.mono hq hB5.size
  obtain rfl := HGR.out l hg
  clear ME hg hb6 hB5 hq HGR qc5 qd5
  obtain ⟨G, hG⟩ : ∃ G, comG C D = G := ⟨_, rfl⟩
  rw [hG] at hq6 HE1 HE2
  obtain ⟨ag, cg, rfl, -⟩ := id hq6
  obtain ⟨n, hn⟩ : ∃ n, G.length = n := ⟨_, rfl⟩
  rw [hn] at HE1
  have HQ := hid hq6
  rw [hn] at HQ ⊢
  clear hq6 hG
  by_cases h48 : 48 < n
  · have h48i : (48 : Int) < (n : Int) := by omega
    have e1 : E = 3 := by rw [HE1.out]; exact if_pos h48
    have e2 : R = [] := HRR.out (by omega)
    subst e1 e2
    clear hn
    go_wp2
    go_ret2
    exact ⟨⟨_, rfl, SlR.nil _ _⟩, hB6⟩
  · have h48i : ¬ (48 : Int) < (n : Int) := by omega
    have e1 : E = 0 := by rw [HE1.out]; exact if_neg h48
    have e2 := HE2.out e1
    subst e1 e2
    clear hn
    go_wp2
    go_ret2
    exact ⟨⟨_, rfl, HQ.out⟩, hB6⟩

end Go.Proofs.YtfkclcoipadhmaaDoor
