/- Walks of trank/frac: Add, Mul, Div. -/
import Derived.Test.YtfkclcoipadhmaaGreatDoorFf
namespace Go.Proofs.YtfkclcoipadhmaaGreatDoor
open Go.RowKit
attribute [local irreducible] seqS seqST walkV

/-- What Add hands back. -/
def addN (a b c e : Int) : Int := if FV a b ∧ FV c e then fitN ((a : Rat) / (b : Rat) + (c : Rat) / (e : Rat)) else 0
def addD (a b c e : Int) : Int := if FV a b ∧ FV c e then fitD ((a : Rat) / (b : Rat) + (c : Rat) / (e : Rat)) else 0
def addE (a b c e : Int) : Int := if FV a b ∧ FV c e then fitE ((a : Rat) / (b : Rat) + (c : Rat) / (e : Rat)) else 2
/-- What Mul hands back. -/
def mulN (a b c e : Int) : Int := if FV a b ∧ FV c e then fitN ((a : Rat) / (b : Rat) * ((c : Rat) / (e : Rat))) else 0
def mulD (a b c e : Int) : Int := if FV a b ∧ FV c e then fitD ((a : Rat) / (b : Rat) * ((c : Rat) / (e : Rat))) else 0
def mulE (a b c e : Int) : Int := if FV a b ∧ FV c e then fitE ((a : Rat) / (b : Rat) * ((c : Rat) / (e : Rat))) else 2
theorem add_val {a b c e : Int} (hb : 1 ≤ b) (he : 1 ≤ e) : ((a * e + c * b : Int) : Rat) / ((b * e : Int) : Rat) = (a : Rat) / (b : Rat) + (c : Rat) / (e : Rat) := by
  have h1 : (b : Rat) ≠ 0 := by have : b ≠ 0 := by omega
                                simpa using this
  have h2 : (e : Rat) ≠ 0 := by have : e ≠ 0 := by omega
                                simpa using this
  push_cast
  grind
theorem mul_val {a b c e : Int} (hb : 1 ≤ b) (he : 1 ≤ e) : ((a * c : Int) : Rat) / ((b * e : Int) : Rat) = (a : Rat) / (b : Rat) * ((c : Rat) / (e : Rat)) := by
  have h1 : (b : Rat) ≠ 0 := by have : b ≠ 0 := by omega
                                simpa using this
  have h2 : (e : Rat) ≠ 0 := by have : e ≠ 0 := by omega
                                simpa using this
  push_cast
  grind
theorem prod_bd'' {x y X Y : Int} (h1 : -X ≤ x) (h2 : x ≤ X) (h3 : -Y ≤ y) (h4 : y ≤ Y) : -(X * Y) ≤ x * y ∧ x * y ≤ X * Y := by
  rcases Int.le_total 0 y with h | h
  · exact prod_bd' h1 h2 h h4
  · have := prod_bd' (x := x) (y := -y) (X := X) (Y := Y) h1 h2 (by omega) (by omega)
    rw [Int.mul_neg] at this
    omega
theorem fv_num {a b c e : Int} (h : FV a b) (k : FV c e) : -1000000000000000000 ≤ a * c ∧ a * c ≤ 1000000000000000000 := by
  have := prod_bd'' h.2.2.1 h.2.2.2.1 k.2.2.1 k.2.2.2.1
  omega

set_option maxHeartbeats 2000000 in
set_option maxRecDepth 100000 in
theorem fAdd_any (a b c e : Int) (w : World) :
    Calls Tryz.prog 82 #[.agg #[.int .i64 a, .int .i64 b], .agg #[.int .i64 c, .int .i64 e]] w fun r w' => r = .returned (.tuple #[frV (addN a b c e) (addD a b c e), .int .i64 (addE a b c e)]) ∧ Below w.heap.size w w' := by
  go_enter Tryz.func82, Tryz.ntmps82
  go_wp2_with fail
  have k0 := ((Blk.new w #[.int .i64 a, .int .i64 b] 31).alloc (.cells #[.int .i64 c, .int .i64 e] 31)).alloc (.cells #[.int .i64 0, .int .i64 0] 31)
  have k1 := (Blk.new (w.alloc (.cells #[.int .i64 a, .int .i64 b] 31)) #[.int .i64 c, .int .i64 e] 31).alloc (.cells #[.int .i64 0, .int .i64 0] 31)
  have k2 := Blk.new ((w.alloc (.cells #[.int .i64 a, .int .i64 b] 31)).alloc (.cells #[.int .i64 c, .int .i64 e] 31)) #[.int .i64 0, .int .i64 0] 31
  have b0 := (((Below.refl w.heap.size w).alloc (Nat.le_refl _) (.cells #[.int .i64 a, .int .i64 b] 31)).alloc (by simp) (.cells #[.int .i64 c, .int .i64 e] 31)).alloc (by simp <;> omega) (.cells #[.int .i64 0, .int .i64 0] 31)
  simp only [World.size_alloc] at k1 k2
  have k0' := k0.alloc (.cells #[.int .i64 a, .int .i64 b, .int .i64 c, .int .i64 e] 31)
  have k1' := k1.alloc (.cells #[.int .i64 a, .int .i64 b, .int .i64 c, .int .i64 e] 31)
  have k2' := k2.alloc (.cells #[.int .i64 a, .int .i64 b, .int .i64 c, .int .i64 e] 31)
  have b0' := b0.alloc (by simp <;> omega) (.cells #[.int .i64 a, .int .i64 b, .int .i64 c, .int .i64 e] 31)
  have k3 := Blk.new (((w.alloc (.cells #[.int .i64 a, .int .i64 b] 31)).alloc (.cells #[.int .i64 c, .int .i64 e] 31)).alloc (.cells #[.int .i64 0, .int .i64 0] 31)) #[.int .i64 a, .int .i64 b, .int .i64 c, .int .i64 e] 31
  simp only [World.size_alloc] at k3
  clear k0 k1 k2 b0
  obtain ⟨w0, hw0⟩ : ∃ w0, (((w.alloc (.cells #[.int .i64 a, .int .i64 b] 31)).alloc (.cells #[.int .i64 c, .int .i64 e] 31)).alloc (.cells #[.int .i64 0, .int .i64 0] 31)).alloc (.cells #[.int .i64 a, .int .i64 b, .int .i64 c, .int .i64 e] 31) = w0 := ⟨_, rfl⟩
  rw [hw0] at k0' k1' k2' k3 b0' ⊢
  clear hw0
  refine (fvalid_any _ _ _ (two_frs k3)).mono ?_
  rintro r w1 ⟨rfl, hb1⟩
  have hdec : decide (∀ f ∈ [(a, b), (c, e)], FV f.1 f.2) = decide (FV a b ∧ FV c e) := by
    apply decide_eq_decide.2
    simp
  rw [hdec]
  have b1 := b0'.trans (hb1.mono b0'.size)
  have k0 := k0'.below hb1
  have k1 := k1'.below hb1
  have k2 := k2'.below hb1
  clear k0' k1' k2' k3 b0' hb1 hdec
  have f2 := k2.frozen
  have q0 := k2.look 0 rfl
  have q1 := k2.look 1 rfl
  have r0 := k2.cell 0
  have r1 := k2.cell 1
  by_cases hfv : FV a b ∧ FV c e
  · rw [decide_eq_true hfv]
    have hv := add_val (a := a) (c := c) hfv.1.1 hfv.2.1
    have p1 := fv_prod hfv.1 hfv.2
    have p2 := fv_prod hfv.2 hfv.1
    have p3 : 1 ≤ b * e := by have := Int.mul_le_mul hfv.1.1 hfv.2.1 (by decide) (by have := hfv.1.1; omega); omega
    have p4 : b * e ≤ 1000000000000000000 := by have := Int.mul_le_mul hfv.1.2.1 hfv.2.2.1 (by have := hfv.2.1; omega) (by decide); omega
    have RF := hid (fun w => ratFrac_any (a * e + c * b) (b * e) w (by omega) (by omega) p3 (by omega))
    rw [hv] at RF
    have e1 : addN a b c e = fitN ((a : Rat) / (b : Rat) + (c : Rat) / (e : Rat)) := if_pos hfv
    have e2 : addD a b c e = fitD ((a : Rat) / (b : Rat) + (c : Rat) / (e : Rat)) := if_pos hfv
    have e3 : addE a b c e = fitE ((a : Rat) / (b : Rat) + (c : Rat) / (e : Rat)) := if_pos hfv
    rw [← e1, ← e2, ← e3] at RF
    have P1 : IntKind.i64.wrap (a * e) = a * e := by rw [IntWalk.i64_left]; unfold wrap64; omega
    have P2 : IntKind.i64.wrap (c * b) = c * b := by rw [IntWalk.i64_left]; unfold wrap64; omega
    have P3 : IntKind.i64.wrap (a * e + c * b) = a * e + c * b := by rw [IntWalk.i64_left]; unfold wrap64; omega
    have P4 : IntKind.i64.wrap (b * e) = b * e := by rw [IntWalk.i64_left]; unfold wrap64; omega
    obtain ⟨N, hN⟩ : ∃ N, addN a b c e = N := ⟨_, rfl⟩
    obtain ⟨D, hD⟩ : ∃ N, addD a b c e = N := ⟨_, rfl⟩
    obtain ⟨E, hE⟩ : ∃ N, addE a b c e = N := ⟨_, rfl⟩
    rw [hN, hD, hE] at RF
    have HN := hid hN
    have HD := hid hD
    have HE := hid hE
    clear hv e1 e2 e3 hfv p1 p2 p3 p4 hN hD hE
    have c0 := k0.look 0 rfl
    have c1 := k0.look 1 rfl
    have c2 := k1.look 0 rfl
    have c3 := k1.look 1 rfl
    go_wp2_with fail
    refine (RF.out _).mono ?_
    rintro r w2 ⟨rfl, hb2⟩
    have b2 := b1.trans (hb2.mono b1.size)
    have k3 := k2.below hb2
    clear f2 q0 q1 r0 r1
    have f2 := k3.frozen
    have q0 := k3.look 0 rfl
    have q1 := k3.look 1 rfl
    have r0 := k3.cell 0
    have r1 := k3.cell 1
    go_wp2
    refine bodyPost_ret (v := .tuple #[frV N D, .int .i64 E]) ?_ rfl ⟨by rw [HN.out, HD.out, HE.out], (b2.setCell (p := ⟨w.heap.size + 1 + 1, 0, none⟩) (by show w.heap.size ≤ w.heap.size + 1 + 1; omega) _).setCell (p := ⟨w.heap.size + 1 + 1, 1, none⟩) (by show w.heap.size ≤ w.heap.size + 1 + 1; omega) _⟩
    simp [results, Tryz.results82, go_sem, r0, r1]
  · rw [decide_eq_false hfv]
    go_wp2
    refine bodyPost_ret (v := .tuple #[frV 0 0, .int .i64 2]) ?_ rfl ⟨by rw [show addN a b c e = 0 from if_neg hfv, show addD a b c e = 0 from if_neg hfv, show addE a b c e = 2 from if_neg hfv], (b1.setCell (p := ⟨w.heap.size + 1 + 1, 0, none⟩) (by show w.heap.size ≤ w.heap.size + 1 + 1; omega) _).setCell (p := ⟨w.heap.size + 1 + 1, 1, none⟩) (by show w.heap.size ≤ w.heap.size + 1 + 1; omega) _⟩
    simp [results, Tryz.results82, go_sem, r0, r1]

set_option maxHeartbeats 2000000 in
set_option maxRecDepth 100000 in
theorem fMul_any (a b c e : Int) (w : World) :
    Calls Tryz.prog 102 #[.agg #[.int .i64 a, .int .i64 b], .agg #[.int .i64 c, .int .i64 e]] w fun r w' => r = .returned (.tuple #[frV (mulN a b c e) (mulD a b c e), .int .i64 (mulE a b c e)]) ∧ Below w.heap.size w w' := by
  go_enter Tryz.func102, Tryz.ntmps102
  go_wp2_with fail
  have k0 := ((Blk.new w #[.int .i64 a, .int .i64 b] 31).alloc (.cells #[.int .i64 c, .int .i64 e] 31)).alloc (.cells #[.int .i64 0, .int .i64 0] 31)
  have k1 := (Blk.new (w.alloc (.cells #[.int .i64 a, .int .i64 b] 31)) #[.int .i64 c, .int .i64 e] 31).alloc (.cells #[.int .i64 0, .int .i64 0] 31)
  have k2 := Blk.new ((w.alloc (.cells #[.int .i64 a, .int .i64 b] 31)).alloc (.cells #[.int .i64 c, .int .i64 e] 31)) #[.int .i64 0, .int .i64 0] 31
  have b0 := (((Below.refl w.heap.size w).alloc (Nat.le_refl _) (.cells #[.int .i64 a, .int .i64 b] 31)).alloc (by simp) (.cells #[.int .i64 c, .int .i64 e] 31)).alloc (by simp <;> omega) (.cells #[.int .i64 0, .int .i64 0] 31)
  simp only [World.size_alloc] at k1 k2
  have k0' := k0.alloc (.cells #[.int .i64 a, .int .i64 b, .int .i64 c, .int .i64 e] 31)
  have k1' := k1.alloc (.cells #[.int .i64 a, .int .i64 b, .int .i64 c, .int .i64 e] 31)
  have k2' := k2.alloc (.cells #[.int .i64 a, .int .i64 b, .int .i64 c, .int .i64 e] 31)
  have b0' := b0.alloc (by simp <;> omega) (.cells #[.int .i64 a, .int .i64 b, .int .i64 c, .int .i64 e] 31)
  have k3 := Blk.new (((w.alloc (.cells #[.int .i64 a, .int .i64 b] 31)).alloc (.cells #[.int .i64 c, .int .i64 e] 31)).alloc (.cells #[.int .i64 0, .int .i64 0] 31)) #[.int .i64 a, .int .i64 b, .int .i64 c, .int .i64 e] 31
  simp only [World.size_alloc] at k3
  clear k0 k1 k2 b0
  obtain ⟨w0, hw0⟩ : ∃ w0, (((w.alloc (.cells #[.int .i64 a, .int .i64 b] 31)).alloc (.cells #[.int .i64 c, .int .i64 e] 31)).alloc (.cells #[.int .i64 0, .int .i64 0] 31)).alloc (.cells #[.int .i64 a, .int .i64 b, .int .i64 c, .int .i64 e] 31) = w0 := ⟨_, rfl⟩
  rw [hw0] at k0' k1' k2' k3 b0' ⊢
  clear hw0
  refine (fvalid_any _ _ _ (two_frs k3)).mono ?_
  rintro r w1 ⟨rfl, hb1⟩
  have hdec : decide (∀ f ∈ [(a, b), (c, e)], FV f.1 f.2) = decide (FV a b ∧ FV c e) := by
    apply decide_eq_decide.2
    simp
  rw [hdec]
  have b1 := b0'.trans (hb1.mono b0'.size)
  have k0 := k0'.below hb1
  have k1 := k1'.below hb1
  have k2 := k2'.below hb1
  clear k0' k1' k2' k3 b0' hb1 hdec
  have f2 := k2.frozen
  have q0 := k2.look 0 rfl
  have q1 := k2.look 1 rfl
  have r0 := k2.cell 0
  have r1 := k2.cell 1
  by_cases hfv : FV a b ∧ FV c e
  · rw [decide_eq_true hfv]
    have hv := mul_val (a := a) (c := c) hfv.1.1 hfv.2.1
    have p1 := fv_num hfv.1 hfv.2
    have p3 : 1 ≤ b * e := by have := Int.mul_le_mul hfv.1.1 hfv.2.1 (by decide) (by have := hfv.1.1; omega); omega
    have p4 : b * e ≤ 1000000000000000000 := by have := Int.mul_le_mul hfv.1.2.1 hfv.2.2.1 (by have := hfv.2.1; omega) (by decide); omega
    have RF := hid (fun w => ratFrac_any (a * c) (b * e) w (by omega) (by omega) p3 (by omega))
    rw [hv] at RF
    have e1 : mulN a b c e = fitN ((a : Rat) / (b : Rat) * ((c : Rat) / (e : Rat))) := if_pos hfv
    have e2 : mulD a b c e = fitD ((a : Rat) / (b : Rat) * ((c : Rat) / (e : Rat))) := if_pos hfv
    have e3 : mulE a b c e = fitE ((a : Rat) / (b : Rat) * ((c : Rat) / (e : Rat))) := if_pos hfv
    rw [← e1, ← e2, ← e3] at RF
    have P3 : IntKind.i64.wrap (a * c) = a * c := by rw [IntWalk.i64_left]; unfold wrap64; omega
    have P4 : IntKind.i64.wrap (b * e) = b * e := by rw [IntWalk.i64_left]; unfold wrap64; omega
    obtain ⟨N, hN⟩ : ∃ N, mulN a b c e = N := ⟨_, rfl⟩
    obtain ⟨D, hD⟩ : ∃ N, mulD a b c e = N := ⟨_, rfl⟩
    obtain ⟨E, hE⟩ : ∃ N, mulE a b c e = N := ⟨_, rfl⟩
    rw [hN, hD, hE] at RF
    have HN := hid hN
    have HD := hid hD
    have HE := hid hE
    clear hv e1 e2 e3 hfv p1 p3 p4 hN hD hE
    have c0 := k0.look 0 rfl
    have c1 := k0.look 1 rfl
    have c2 := k1.look 0 rfl
    have c3 := k1.look 1 rfl
    go_wp2_with fail
    refine (RF.out _).mono ?_
    rintro r w2 ⟨rfl, hb2⟩
    have b2 := b1.trans (hb2.mono b1.size)
    have k3 := k2.below hb2
    clear f2 q0 q1 r0 r1
    have f2 := k3.frozen
    have q0 := k3.look 0 rfl
    have q1 := k3.look 1 rfl
    have r0 := k3.cell 0
    have r1 := k3.cell 1
    go_wp2
    refine bodyPost_ret (v := .tuple #[frV N D, .int .i64 E]) ?_ rfl ⟨by rw [HN.out, HD.out, HE.out], (b2.setCell (p := ⟨w.heap.size + 1 + 1, 0, none⟩) (by show w.heap.size ≤ w.heap.size + 1 + 1; omega) _).setCell (p := ⟨w.heap.size + 1 + 1, 1, none⟩) (by show w.heap.size ≤ w.heap.size + 1 + 1; omega) _⟩
    simp [results, Tryz.results102, go_sem, r0, r1]
  · rw [decide_eq_false hfv]
    go_wp2
    refine bodyPost_ret (v := .tuple #[frV 0 0, .int .i64 2]) ?_ rfl ⟨by rw [show mulN a b c e = 0 from if_neg hfv, show mulD a b c e = 0 from if_neg hfv, show mulE a b c e = 2 from if_neg hfv], (b1.setCell (p := ⟨w.heap.size + 1 + 1, 0, none⟩) (by show w.heap.size ≤ w.heap.size + 1 + 1; omega) _).setCell (p := ⟨w.heap.size + 1 + 1, 1, none⟩) (by show w.heap.size ≤ w.heap.size + 1 + 1; omega) _⟩
    simp [results, Tryz.results102, go_sem, r0, r1]

/-- What Div hands back. -/
def divN (a b c e : Int) : Int := if FV a b ∧ FV c e then (if c = 0 then 0 else fitN ((a : Rat) / (b : Rat) / ((c : Rat) / (e : Rat)))) else 0
def divD (a b c e : Int) : Int := if FV a b ∧ FV c e then (if c = 0 then 0 else fitD ((a : Rat) / (b : Rat) / ((c : Rat) / (e : Rat)))) else 0
def divE (a b c e : Int) : Int := if FV a b ∧ FV c e then (if c = 0 then 4 else fitE ((a : Rat) / (b : Rat) / ((c : Rat) / (e : Rat)))) else 2
theorem div_val {a b c e : Int} (hb : 1 ≤ b) (hc : c ≠ 0) (he : 1 ≤ e) : ((a * e : Int) : Rat) / ((b * c : Int) : Rat) = (a : Rat) / (b : Rat) / ((c : Rat) / (e : Rat)) := by
  have h1 : (b : Rat) ≠ 0 := by have : b ≠ 0 := by omega
                                simpa using this
  have h2 : (e : Rat) ≠ 0 := by have : e ≠ 0 := by omega
                                simpa using this
  have h3 : (c : Rat) ≠ 0 := by simpa using hc
  push_cast
  grind
theorem fv_den {a b c e : Int} (h : FV a b) (k : FV c e) : -1000000000000000000 ≤ b * c ∧ b * c ≤ 1000000000000000000 := by
  have := prod_bd'' (x := b) (y := c) (X := 1000000000) (Y := 1000000000) (by have := h.1; omega) h.2.1 k.2.2.1 k.2.2.2.1
  omega

set_option maxHeartbeats 2000000 in
set_option maxRecDepth 100000 in
theorem fDiv_any (a b c e : Int) (w : World) :
    Calls Tryz.prog 101 #[.agg #[.int .i64 a, .int .i64 b], .agg #[.int .i64 c, .int .i64 e]] w fun r w' => r = .returned (.tuple #[frV (divN a b c e) (divD a b c e), .int .i64 (divE a b c e)]) ∧ Below w.heap.size w w' := by
  go_enter Tryz.func101, Tryz.ntmps101
  go_wp2_with fail
  have k0 := ((Blk.new w #[.int .i64 a, .int .i64 b] 31).alloc (.cells #[.int .i64 c, .int .i64 e] 31)).alloc (.cells #[.int .i64 0, .int .i64 0] 31)
  have k1 := (Blk.new (w.alloc (.cells #[.int .i64 a, .int .i64 b] 31)) #[.int .i64 c, .int .i64 e] 31).alloc (.cells #[.int .i64 0, .int .i64 0] 31)
  have k2 := Blk.new ((w.alloc (.cells #[.int .i64 a, .int .i64 b] 31)).alloc (.cells #[.int .i64 c, .int .i64 e] 31)) #[.int .i64 0, .int .i64 0] 31
  have b0 := (((Below.refl w.heap.size w).alloc (Nat.le_refl _) (.cells #[.int .i64 a, .int .i64 b] 31)).alloc (by simp) (.cells #[.int .i64 c, .int .i64 e] 31)).alloc (by simp <;> omega) (.cells #[.int .i64 0, .int .i64 0] 31)
  simp only [World.size_alloc] at k1 k2
  have k0' := k0.alloc (.cells #[.int .i64 a, .int .i64 b, .int .i64 c, .int .i64 e] 31)
  have k1' := k1.alloc (.cells #[.int .i64 a, .int .i64 b, .int .i64 c, .int .i64 e] 31)
  have k2' := k2.alloc (.cells #[.int .i64 a, .int .i64 b, .int .i64 c, .int .i64 e] 31)
  have b0' := b0.alloc (by simp <;> omega) (.cells #[.int .i64 a, .int .i64 b, .int .i64 c, .int .i64 e] 31)
  have k3 := Blk.new (((w.alloc (.cells #[.int .i64 a, .int .i64 b] 31)).alloc (.cells #[.int .i64 c, .int .i64 e] 31)).alloc (.cells #[.int .i64 0, .int .i64 0] 31)) #[.int .i64 a, .int .i64 b, .int .i64 c, .int .i64 e] 31
  simp only [World.size_alloc] at k3
  clear k0 k1 k2 b0
  obtain ⟨w0, hw0⟩ : ∃ w0, (((w.alloc (.cells #[.int .i64 a, .int .i64 b] 31)).alloc (.cells #[.int .i64 c, .int .i64 e] 31)).alloc (.cells #[.int .i64 0, .int .i64 0] 31)).alloc (.cells #[.int .i64 a, .int .i64 b, .int .i64 c, .int .i64 e] 31) = w0 := ⟨_, rfl⟩
  rw [hw0] at k0' k1' k2' k3 b0' ⊢
  clear hw0
  refine (fvalid_any _ _ _ (two_frs k3)).mono ?_
  rintro r w1 ⟨rfl, hb1⟩
  have hdec : decide (∀ f ∈ [(a, b), (c, e)], FV f.1 f.2) = decide (FV a b ∧ FV c e) := by
    apply decide_eq_decide.2
    simp
  rw [hdec]
  have b1 := b0'.trans (hb1.mono b0'.size)
  have k0 := k0'.below hb1
  have k1 := k1'.below hb1
  have k2 := k2'.below hb1
  clear k0' k1' k2' k3 b0' hb1 hdec
  have f2 := k2.frozen
  have q0 := k2.look 0 rfl
  have q1 := k2.look 1 rfl
  have r0 := k2.cell 0
  have r1 := k2.cell 1
  by_cases hfv : FV a b ∧ FV c e
  · rw [decide_eq_true hfv]
    have p1 := fv_prod hfv.1 hfv.2
    have p2 := fv_den hfv.1 hfv.2
    by_cases hc : c = 0
    · subst hc
      have e1 : divN a b 0 e = 0 := by unfold divN; rw [if_pos hfv, if_pos rfl]
      have e2 : divD a b 0 e = 0 := by unfold divD; rw [if_pos hfv, if_pos rfl]
      have e3 : divE a b 0 e = 4 := by unfold divE; rw [if_pos hfv, if_pos rfl]
      have E1 := hid e1
      have E2 := hid e2
      have E3 := hid e3
      clear hfv p1 p2 e1 e2 e3
      have c2 := k1.look 0 rfl
      go_wp2
      refine bodyPost_ret (v := .tuple #[frV 0 0, .int .i64 4]) ?_ rfl ⟨by rw [E1.out, E2.out, E3.out], (b1.setCell (p := ⟨w.heap.size + 1 + 1, 0, none⟩) (by show w.heap.size ≤ w.heap.size + 1 + 1; omega) _).setCell (p := ⟨w.heap.size + 1 + 1, 1, none⟩) (by show w.heap.size ≤ w.heap.size + 1 + 1; omega) _⟩
      simp [results, Tryz.results101, go_sem, r0, r1]
    have RF := hid (fun w => fNew_any (a * e) (b * c) w (by omega) (by omega) (by omega) (by omega))
    have hbc : b * c ≠ 0 := Int.mul_ne_zero (by have := hfv.1.1; omega) hc
    have hv := div_val (a := a) hfv.1.1 hc hfv.2.1
    have e1 : divN a b c e = newN (a * e) (b * c) := by unfold divN newN; rw [if_pos hfv, if_neg hc, if_neg hbc, hv]
    have e2 : divD a b c e = newD (a * e) (b * c) := by unfold divD newD; rw [if_pos hfv, if_neg hc, if_neg hbc, hv]
    have e3 : divE a b c e = newE (a * e) (b * c) := by unfold divE newE; rw [if_pos hfv, if_neg hc, if_neg hbc, hv]
    rw [← e1, ← e2, ← e3] at RF
    have P1 : IntKind.i64.wrap (a * e) = a * e := by rw [IntWalk.i64_left]; unfold wrap64; omega
    have P2 : IntKind.i64.wrap (b * c) = b * c := by rw [IntWalk.i64_left]; unfold wrap64; omega
    have hc1 : ¬ c = 0 := hc
    obtain ⟨N, hN⟩ : ∃ N, divN a b c e = N := ⟨_, rfl⟩
    obtain ⟨D, hD⟩ : ∃ N, divD a b c e = N := ⟨_, rfl⟩
    obtain ⟨E, hE⟩ : ∃ N, divE a b c e = N := ⟨_, rfl⟩
    rw [hN, hD, hE] at RF
    have HN := hid hN
    have HD := hid hD
    have HE := hid hE
    clear hv e1 e2 e3 hfv p1 p2 hN hD hE hbc
    have c0 := k0.look 0 rfl
    have c1 := k0.look 1 rfl
    have c2 := k1.look 0 rfl
    have c3 := k1.look 1 rfl
    go_wp2_with fail
    refine (RF.out _).mono ?_
    rintro r w2 ⟨rfl, hb2⟩
    have b2 := b1.trans (hb2.mono b1.size)
    have k3 := k2.below hb2
    clear f2 q0 q1 r0 r1
    have f2 := k3.frozen
    have q0 := k3.look 0 rfl
    have q1 := k3.look 1 rfl
    have r0 := k3.cell 0
    have r1 := k3.cell 1
    go_wp2
    refine bodyPost_ret (v := .tuple #[frV N D, .int .i64 E]) ?_ rfl ⟨by rw [HN.out, HD.out, HE.out], (b2.setCell (p := ⟨w.heap.size + 1 + 1, 0, none⟩) (by show w.heap.size ≤ w.heap.size + 1 + 1; omega) _).setCell (p := ⟨w.heap.size + 1 + 1, 1, none⟩) (by show w.heap.size ≤ w.heap.size + 1 + 1; omega) _⟩
    simp [results, Tryz.results101, go_sem, r0, r1]
  · rw [decide_eq_false hfv]
    go_wp2
    refine bodyPost_ret (v := .tuple #[frV 0 0, .int .i64 2]) ?_ rfl ⟨by rw [show divN a b c e = 0 from if_neg hfv, show divD a b c e = 0 from if_neg hfv, show divE a b c e = 2 from if_neg hfv], (b1.setCell (p := ⟨w.heap.size + 1 + 1, 0, none⟩) (by show w.heap.size ≤ w.heap.size + 1 + 1; omega) _).setCell (p := ⟨w.heap.size + 1 + 1, 1, none⟩) (by show w.heap.size ≤ w.heap.size + 1 + 1; omega) _⟩
    simp [results, Tryz.results101, go_sem, r0, r1]

end Go.Proofs.YtfkclcoipadhmaaGreatDoor
