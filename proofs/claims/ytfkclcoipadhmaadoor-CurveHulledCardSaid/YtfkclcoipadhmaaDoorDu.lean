/- Walk of curve.Sum. -/
import Derived.Test.YtfkclcoipadhmaaDoorDt
namespace Go.Proofs.YtfkclcoipadhmaaDoor
open Go.RowKit
attribute [local irreducible] seqS seqST walkV walkJ

/-- What Sum hands back. -/
def sumE (c d : List P4) : Int := if comE c d = 0 then madE (sumO (toQ c) (toQ d)) (comG (toQ c) (toQ d)) else comE c d
def sumL (c d : List P4) : List Pt := if comE c d = 0 then madL (sumO (toQ c) (toQ d)) (comG (toQ c) (toQ d)) else []
theorem CV.nonneg {c : List Pt} (h : CV c) {i : Nat} (hi : i < c.length) : 0 ≤ (c.getD i (0, 0)).1 ∧ 0 ≤ (c.getD i (0, 0)).2 := by
  by_cases h0 : i = 0
  · subst h0
    rw [h.first]
    exact ⟨Rat.le_refl, Rat.le_refl⟩
  · have := h.lt (i := 0) (j := i) (by omega) hi
    rw [h.first] at this
    exact ⟨Rat.le_of_lt this.1, Rat.le_of_lt this.2⟩
theorem CV.le_end {c : List Pt} (h : CV c) {i : Nat} (hi : i < c.length) : (c.getD i (0, 0)).1 ≤ (endQ c).1 ∧ (c.getD i (0, 0)).2 ≤ (endQ c).2 := by
  unfold endQ
  by_cases h0 : i = c.length - 1
  · rw [← h0]
    exact ⟨Rat.le_refl, Rat.le_refl⟩
  · have := h.lt (i := i) (j := c.length - 1) (by omega) (by omega)
    exact ⟨Rat.le_of_lt this.1, Rat.le_of_lt this.2⟩
theorem mem_get {c : List Pt} {F : Pt → Rat} {x : Rat} (h : x ∈ c.map F) : ∃ i, i < c.length ∧ F (c.getD i (0, 0)) = x := by
  obtain ⟨p, hp, rfl⟩ := List.mem_map.1 h
  obtain ⟨i, hi, rfl⟩ := List.mem_iff_getElem.1 hp
  exact ⟨i, hi, by rw [List.getD_eq_getElem?_getD, List.getElem?_eq_getElem hi]; rfl⟩
theorem lesQ_le (a b : Rat) : lesQ a b ≤ a ∧ lesQ a b ≤ b := by
  unfold lesQ
  by_cases h : b < a
  · rw [if_pos h]; exact ⟨Rat.le_of_lt h, Rat.le_refl⟩
  · rw [if_neg h]; exact ⟨Rat.le_refl, Rat.not_lt.1 h⟩
theorem comG_mem {A C : List Pt} (hA : CV A) (hC : CV C) {x : Rat} (hx : x ∈ comG A C) : InDom A x ∧ InDom C x ∧ fits x := by
  obtain ⟨h1, h2⟩ := ((gridQ_grid _ _).2 x).1 hx
  obtain ⟨l1, l2⟩ := lesQ_le (endQ A).1 (endQ C).1
  have h3 : 0 ≤ x ∧ fits x := by
    rcases List.mem_append.1 h1 with h | h
    · obtain ⟨i, hi, rfl⟩ := mem_get h
      exact ⟨(hA.nonneg hi).1, (hA.fit i hi).1⟩
    · obtain ⟨i, hi, rfl⟩ := mem_get h
      exact ⟨(hC.nonneg hi).1, (hC.fit i hi).1⟩
  exact ⟨⟨h3.1, Rat.le_trans h2 l1⟩, ⟨h3.1, Rat.le_trans h2 l2⟩, h3.2⟩
theorem comE_zero {c d : List P4} (h : comE c d = 0) : RV c ∧ RV d ∧ (comG (toQ c) (toQ d)).length ≤ 48 ∧ comL c d = comG (toQ c) (toQ d) := by
  have hl : comL c d = comG (toQ c) (toQ d) := if_pos h
  unfold comE at h
  by_cases hr : RV c ∧ RV d
  · rw [if_pos hr] at h
    by_cases hg : 48 < (comG (toQ c) (toQ d)).length
    · rw [if_pos hg] at h; cases h
    · exact ⟨hr.1, hr.2, by omega, hl⟩
  · rw [if_neg hr] at h; cases h

set_option maxHeartbeats 8000000 in
set_option maxRecDepth 100000 in
theorem Sum_any (c d : List P4) (vc vd : Value) (w : World) (hc : P4R 0 w vc c) (hd : P4R 0 w vd d) (hz : Z0 w) :
    Calls Tryd.prog 30 #[vc, vd] w fun r w' => (∃ v, r = .returned (.tuple #[v, .int .i64 (sumE c d)]) ∧ PsR w.heap.size w' v (sumL c d)) ∧ Below w.heap.size w w' := by
  obtain ⟨ac, cc, rfl, -⟩ := id hc
  obtain ⟨ad, cd, rfl, -⟩ := id hd
  obtain ⟨E, hE⟩ : ∃ E, sumE c d = E := ⟨_, rfl⟩
  obtain ⟨R, hR⟩ : ∃ R, sumL c d = R := ⟨_, rfl⟩
  rw [hE, hR]
  have HE := hid hE
  have HR := hid hR
  have k0 := (Blk.new w #[.slice ac c.length cc] 22).alloc (.cells #[.slice ad d.length cd] 22)
  have k1 := Blk.new (w.alloc (.cells #[.slice ac c.length cc] 22)) #[.slice ad d.length cd] 22
  have b0 := ((Below.refl w.heap.size w).alloc (Nat.le_refl _) (.cells #[.slice ac c.length cc] 22)).alloc (by simp) (.cells #[.slice ad d.length cd] 22)
  rw [World.size_alloc] at k1
  have c0 := k0.look 0 rfl
  have c1 := k1.look 0 rfl
  clear hE hR
  go_enter Tryd.func30, Tryd.ntmps30
  go_wp2_with fail
  obtain ⟨w0, hw0⟩ : ∃ w0, (w.alloc (.cells #[.slice ac c.length cc] 22)).alloc (.cells #[.slice ad d.length cd] 22) = w0 := ⟨_, rfl⟩
  rw [hw0] at k0 k1 b0 ⊢
  clear hw0 c0 c1
  have CO := hid (common_any c d _ _ w0 (hc.below b0) (hd.below b0) (hz.below b0))
  refine CO.out.mono ?_
  rintro r w1 ⟨⟨vl, rfl, hvl⟩, hb1⟩
  have hB1 := b0.trans (hb1.mono b0.size)
  have k01 := k0.below hb1
  have k11 := k1.below hb1
  have hc1 := (hc.below b0).below hb1
  have hd1 := (hd.below b0).below hb1
  have hz1 := (hz.below b0).below hb1
  have hs1 : w.heap.size + 1 + 1 ≤ w1.heap.size := k11.lt
  clear CO hb1 k0 k1 b0 hc hd hz
  by_cases h0 : comE c d = 0
  case neg =>
    have e1 : E = comE c d := by rw [← HE.out]; exact if_neg h0
    have e2 : R = [] := by rw [← HR.out]; exact if_neg h0
    rw [← e1] at h0 ⊢
    subst e2
    clear e1
    obtain ⟨al, cl, rfl, -⟩ := hvl
    go_wp2
    go_ret2
    exact ⟨⟨_, rfl, SlR.nil _ _⟩, hB1⟩
  obtain ⟨hrc, hrd, hlen, hL⟩ := comE_zero h0
  rw [h0]
  rw [hL] at hvl
  have e1 : sumE c d = madE (sumO (toQ c) (toQ d)) (comG (toQ c) (toQ d)) := if_pos h0
  have e2 : sumL c d = madL (sumO (toQ c) (toQ d)) (comG (toQ c) (toQ d)) := if_pos h0
  have pc := P4R.toQ hc1 hrc
  have pd := P4R.toQ hd1 hrd
  have vc := rv_cv hrc
  have vd := rv_cv hrd
  have MA := hid (made_c (comG (toQ c) (toQ d)) 72 #[.pointer (some ⟨w.heap.size, 0, none⟩), .pointer (some ⟨w.heap.size + 1, 0, none⟩)] (sumO (toQ c) (toQ d)) vl w1 (hvl.mono (Nat.zero_le _)) hz1 (by omega)
    ⟨enters_of Tryd.func72 (by kernel_rfl) rfl, fun x hx g ok W hg hb hz hk => by
      obtain ⟨i1, i2, i3⟩ := comG_mem vc vd hx
      exact sumPt_any (toQ c) (toQ d) x _ _ vc vd i1 i2 i3 g w.heap.size (w.heap.size + 1) ok W (PsR.below pc hb) (PsR.below pd hb) (k01.below hb) (k11.below hb) (by omega) (by omega) hz hk⟩)
  rw [← e1, ← e2, HE.out, HR.out] at MA
  obtain ⟨al, cl, rfl, -⟩ := hvl
  generalize (comG (toQ c) (toQ d)).length = n at MA ⊢
  clear e1 e2 pc pd vc vd hc1 hd1 hz1 hL hlen hrc hrd HE HR h0
  go_wp2_with fail
  refine MA.out.mono ?_
  rintro r w2 ⟨⟨v, rfl, hv⟩, hb2⟩
  have hv2 := PsR.mono hv hB1.size
  have hB2 := hB1.trans (hb2.mono hB1.size)
  clear MA hv hb2
  go_wp2
  go_ret2
  exact ⟨⟨_, rfl, hv2⟩, hB2⟩

end Go.Proofs.YtfkclcoipadhmaaDoor
