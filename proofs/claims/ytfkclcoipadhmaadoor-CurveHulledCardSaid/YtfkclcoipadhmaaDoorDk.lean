/- Walks of curve.end, abscissa, ordinate, lesser, merged's closure. -/
import Derived.Test.YtfkclcoipadhmaaDoorDe
namespace Go.Proofs.YtfkclcoipadhmaaDoor
open Go.RowKit
attribute [local irreducible] seqS seqST walkV walkJ

set_option maxHeartbeats 1000000 in
theorem abscissa_any (p : Pt) (w : World) : Calls Tryd.prog 89 #[ptQ p] w fun r w' => r = .returned (frQ p.1) ∧ Below w.heap.size w w' := by
  unfold ptQ frQ
  go_enter Tryd.func89, Tryd.ntmps89
  have b0 := ((Below.refl w.heap.size w).alloc (Nat.le_refl _) (.cells #[.int .i64 p.1.num, .int .i64 (p.1.den : Int), .int .i64 p.2.num, .int .i64 (p.2.den : Int)] 52)).alloc (by simp) (.cells #[.int .i64 p.1.num, .int .i64 (p.1.den : Int)] 32)
  go_wp2
  refine bodyPost_ret (v := .agg #[.int .i64 p.1.num, .int .i64 (p.1.den : Int)]) ?_ rfl ⟨rfl, b0⟩
  simp [results, Tryd.results89, go_sem]

set_option maxHeartbeats 1000000 in
theorem ordinate_any (p : Pt) (w : World) : Calls Tryd.prog 90 #[ptQ p] w fun r w' => r = .returned (frQ p.2) ∧ Below w.heap.size w w' := by
  unfold ptQ frQ
  go_enter Tryd.func90, Tryd.ntmps90
  have b0 := ((Below.refl w.heap.size w).alloc (Nat.le_refl _) (.cells #[.int .i64 p.1.num, .int .i64 (p.1.den : Int), .int .i64 p.2.num, .int .i64 (p.2.den : Int)] 52)).alloc (by simp) (.cells #[.int .i64 p.2.num, .int .i64 (p.2.den : Int)] 32)
  go_wp2
  refine bodyPost_ret (v := .agg #[.int .i64 p.2.num, .int .i64 (p.2.den : Int)]) ?_ rfl ⟨rfl, b0⟩
  simp [results, Tryd.results90, go_sem]

set_option maxHeartbeats 1000000 in
theorem lesser_any (p q : Rat) (hp : fits p) (hq : fits q) (w : World) : Calls Tryd.prog 91 #[frQ p, frQ q] w fun r w' => r = .returned (frQ (if q < p then q else p)) ∧ Below w.heap.size w w' := by
  have OR := hid (fun w => order_any q p hq hp w)
  have hcl := cmp_cases q p
  obtain ⟨cz, hcz⟩ : ∃ z, cmpQ q p = z := ⟨_, rfl⟩
  rw [hcz] at OR hcl
  obtain ⟨V, hV⟩ : ∃ V, (if q < p then q else p) = V := ⟨_, rfl⟩
  rw [hV]
  have HV := hid hV
  have HCL := hid hcl
  unfold frQ at OR ⊢
  clear hV hcl hcz
  obtain ⟨w0, hw0, k0, k1, k2, hB, hsz⟩ := three_new w #[.int .i64 p.num, .int .i64 (p.den : Int)] #[.int .i64 q.num, .int .i64 (q.den : Int)] #[.int .i64 0, .int .i64 0] 32 32 32
  have d0 := k0.look 0 rfl
  have d1 := k0.look 1 rfl
  have d2 := k1.look 0 rfl
  have d3 := k1.look 1 rfl
  have HW := hid hw0
  rw [← hw0] at d0 d1 d2 d3
  have HB := hid hB
  have K0 := hid k0
  have K1 := hid k1
  have K2 := hid k2
  clear hB k0 k1 k2 hsz hw0
  go_enter Tryd.func91, Tryd.ntmps91
  go_wp2_with fail
  rw [HW.out]
  clear HW d0 d1 d2 d3
  refine (OR.out _).mono ?_
  rintro r w1 ⟨rfl, hb1⟩
  have hB1 := HB.out.trans (hb1.mono HB.out.size)
  have k01 := K0.out.below hb1
  have k11 := K1.out.below hb1
  have k21 := K2.out.below hb1
  have d0 := k01.look 0 rfl
  have d1 := k01.look 1 rfl
  have d2 := k11.look 0 rfl
  have d3 := k11.look 1 rfl
  have q0 := k21.look 0 rfl
  have q1 := k21.look 1 rfl
  have f2 := k21.frozen
  clear hb1 HB K0 K1 K2
  rcases HCL.out with ⟨hl, rfl, -⟩ | ⟨hl, rfl, -⟩ | ⟨hl, rfl, -⟩
  · have e : V = q := by rw [← HV.out]; exact if_pos hl
    have k24 := (k21.set 0 (.int .i64 q.num)).set 1 (.int .i64 (q.den : Int))
    have r0 : _ = some (Value.int .i64 q.num) := k24.look 0 rfl
    have r1 : _ = some (Value.int .i64 (q.den : Int)) := k24.look 1 rfl
    have R0 := hid r0
    have R1 := hid r1
    have F := hid ((hB1.setCell (p := ⟨w.heap.size + 1 + 1, 0, none⟩) (by show w.heap.size ≤ w.heap.size + 1 + 1; omega) (.int .i64 q.num)).setCell (p := ⟨w.heap.size + 1 + 1, 1, none⟩) (by show w.heap.size ≤ w.heap.size + 1 + 1; omega) (.int .i64 (q.den : Int)))
    subst e
    clear k24 r0 r1 hB1 k01 k11 k21 hl
    go_wp2
    refine bodyPost_ret (v := .agg #[.int .i64 V.num, .int .i64 (V.den : Int)]) ?_ rfl ⟨rfl, F.out⟩
    have r0 := R0.out
    have r1 := R1.out
    simp [results, Tryd.results91, go_sem, r0, r1]
  · have e : V = p := by rw [← HV.out]; exact if_neg (by grind)
    have k24 := (k21.set 0 (.int .i64 p.num)).set 1 (.int .i64 (p.den : Int))
    have r0 : _ = some (Value.int .i64 p.num) := k24.look 0 rfl
    have r1 : _ = some (Value.int .i64 (p.den : Int)) := k24.look 1 rfl
    have R0 := hid r0
    have R1 := hid r1
    have F := hid ((hB1.setCell (p := ⟨w.heap.size + 1 + 1, 0, none⟩) (by show w.heap.size ≤ w.heap.size + 1 + 1; omega) (.int .i64 p.num)).setCell (p := ⟨w.heap.size + 1 + 1, 1, none⟩) (by show w.heap.size ≤ w.heap.size + 1 + 1; omega) (.int .i64 (p.den : Int)))
    subst e
    clear k24 r0 r1 hB1 k01 k11 k21 hl
    go_wp2
    refine bodyPost_ret (v := .agg #[.int .i64 V.num, .int .i64 (V.den : Int)]) ?_ rfl ⟨rfl, F.out⟩
    have r0 := R0.out
    have r1 := R1.out
    simp [results, Tryd.results91, go_sem, r0, r1]
  · have e : V = p := by rw [← HV.out]; exact if_neg (by grind)
    have k24 := (k21.set 0 (.int .i64 p.num)).set 1 (.int .i64 (p.den : Int))
    have r0 : _ = some (Value.int .i64 p.num) := k24.look 0 rfl
    have r1 : _ = some (Value.int .i64 (p.den : Int)) := k24.look 1 rfl
    have R0 := hid r0
    have R1 := hid r1
    have F := hid ((hB1.setCell (p := ⟨w.heap.size + 1 + 1, 0, none⟩) (by show w.heap.size ≤ w.heap.size + 1 + 1; omega) (.int .i64 p.num)).setCell (p := ⟨w.heap.size + 1 + 1, 1, none⟩) (by show w.heap.size ≤ w.heap.size + 1 + 1; omega) (.int .i64 (p.den : Int)))
    subst e
    clear k24 r0 r1 hB1 k01 k11 k21 hl
    go_wp2
    refine bodyPost_ret (v := .agg #[.int .i64 V.num, .int .i64 (V.den : Int)]) ?_ rfl ⟨rfl, F.out⟩
    have r0 := R0.out
    have r1 := R1.out
    simp [results, Tryd.results91, go_sem, r0, r1]

set_option maxHeartbeats 1000000 in
theorem over_any (m q : Rat) (hm : fits m) (hq : fits q) (gm : Nat) (w : World) (h : Blk w gm #[.int .i64 m.num, .int .i64 (m.den : Int)] 32) :
    Calls Tryd.prog 125 #[frQ q, .pointer (some ⟨gm, 0, none⟩)] w fun r w' => r = .returned (.bool (decide (m < q))) ∧ Below w.heap.size w w' := by
  have OR := hid (fun w => order_any q m hq hm w)
  have hcl := cmp_cases q m
  obtain ⟨cz, hcz⟩ : ∃ z, cmpQ q m = z := ⟨_, rfl⟩
  rw [hcz] at OR hcl
  obtain ⟨V, hV⟩ : ∃ V, decide (m < q) = V := ⟨_, rfl⟩
  rw [hV]
  have HV := hid hV
  have HCL := hid hcl
  unfold frQ at OR ⊢
  clear hV hcl hcz
  have k0 := Blk.new w #[.int .i64 q.num, .int .i64 (q.den : Int)] 32
  have k1 := h.alloc (.cells #[.int .i64 q.num, .int .i64 (q.den : Int)] 32)
  have b0 := alloc_below w (.cells #[.int .i64 q.num, .int .i64 (q.den : Int)] 32)
  have d2 := k1.look 0 rfl
  have d3 := k1.look 1 rfl
  have hlt := h.lt
  clear k0 k1 h
  go_enter Tryd.func125, Tryd.ntmps125
  go_wp2_with fail
  refine (OR.out _).mono ?_
  rintro r w1 ⟨rfl, hb1⟩
  have hB1 := b0.trans (hb1.mono b0.size)
  rcases HCL.out with ⟨hl, rfl, -⟩ | ⟨hl, rfl, -⟩ | ⟨hl, rfl, -⟩
  · have e : V = false := by rw [← HV.out]; exact decide_eq_false (by grind)
    subst e
    clear hb1 b0 d2 d3
    go_wp2
    go_ret
    exact ⟨rfl, hB1⟩
  · have e : V = true := by rw [← HV.out]; exact decide_eq_true hl
    subst e
    clear hb1 b0 d2 d3
    go_wp2
    go_ret
    exact ⟨rfl, hB1⟩
  · have e : V = false := by rw [← HV.out]; exact decide_eq_false (by grind)
    subst e
    clear hb1 b0 d2 d3
    go_wp2
    go_ret
    exact ⟨rfl, hB1⟩

end Go.Proofs.YtfkclcoipadhmaaDoor
