/- Walks of grade's sized, Rule.at and trankref04's Size, Good, weight. -/
import Derived.Test.YtmknengmjepdaaaPb
namespace Go.Proofs.Ytmknengmjepdaaa
open Go.RowKit

/-- A size of a glove. -/
def FSize (n d : Int) : Prop := FV n d ∧ 0 ≤ n ∧ d ≤ 10000 ∧ n ≤ 40 * d
instance (n d : Int) : Decidable (FSize n d) := inferInstanceAs (Decidable (_ ∧ _))
theorem fsize_cases (n d : Int) : ¬ FV n d ∨ (FV n d ∧ n < 0) ∨ (FV n d ∧ 0 ≤ n ∧ 10000 < d) ∨ (FV n d ∧ 0 ≤ n ∧ d ≤ 10000 ∧ 40 * d < n) ∨ (FV n d ∧ 0 ≤ n ∧ d ≤ 10000 ∧ n ≤ 40 * d) := by
  by_cases h : FV n d
  · rcases Int.lt_or_le n 0 with h1 | h1
    · exact .inr (.inl ⟨h, h1⟩)
    · rcases Int.lt_or_le 10000 d with h2 | h2
      · exact .inr (.inr (.inl ⟨h, h1, h2⟩))
      · rcases Int.lt_or_le (40 * d) n with h3 | h3
        · exact .inr (.inr (.inr (.inl ⟨h, h1, h2, h3⟩)))
        · exact .inr (.inr (.inr (.inr ⟨h, h1, h2, h3⟩)))
  · exact .inl h

set_option maxHeartbeats 1000000 in
theorem sized_any (n d : Int) (w : World) :
    Calls Try.prog 77 #[.agg #[.int .i64 n, .int .i64 d]] w fun e w' => e = .returned (.bool (decide (FSize n d))) ∧ Below w.heap.size w w' := by
  have hB : ∀ o, Below w.heap.size w (w.alloc o) := fun o => (Below.refl _ _).alloc (Nat.le_refl _) _
  have HB := hid hB
  clear hB
  have hdec : ∀ b : Bool, (b = true ↔ FSize n d) → .returned (.bool b) = Ending.returned (.bool (decide (FSize n d))) := by
    intro b hb
    exact ret_bool (Bool.eq_iff_iff.2 (hb.trans decide_eq_true_iff.symm))
  have HD := hid hdec
  clear hdec
  rcases fsize_cases n d with hv | ⟨hv, h1⟩ | ⟨hv, h1, h2⟩ | ⟨hv, h1, h2, h3⟩ | ⟨hv, h1, h2, h3⟩
  · have HV := hid hv
    clear hv
    go_enter Try.func77, Try.ntmps77
    go_wp2_with fail
    have hk := Blk.new w #[.int .i64 n, .int .i64 d] 26
    have hb0 := HB.out (.cells #[.int .i64 n, .int .i64 d] 26)
    obtain ⟨w0, hw0⟩ : ∃ w0, w.alloc (.cells #[.int .i64 n, .int .i64 d] 26) = w0 := ⟨_, rfl⟩
    rw [hw0] at hk hb0 ⊢
    clear hw0
    refine (fValid_any n d _).mono ?_
    rintro e w1 ⟨rfl, hb1⟩
    rw [decide_eq_false HV.out]
    have c0 := (hk.below hb1).look 0 rfl
    have c1 := (hk.below hb1).look 1 rfl
    go_wp2
    go_ret
    exact ⟨HD.out _ ⟨fun h => (by cases h), fun h => absurd h.1 HV.out⟩, hb0.trans (hb1.mono hb0.size)⟩
  · have HV := hid hv
    have hd1 := hv.1
    have hd2 := hv.2.1
    clear hv
    go_enter Try.func77, Try.ntmps77
    go_wp2_with fail
    have hk := Blk.new w #[.int .i64 n, .int .i64 d] 26
    have hb0 := HB.out (.cells #[.int .i64 n, .int .i64 d] 26)
    obtain ⟨w0, hw0⟩ : ∃ w0, w.alloc (.cells #[.int .i64 n, .int .i64 d] 26) = w0 := ⟨_, rfl⟩
    rw [hw0] at hk hb0 ⊢
    clear hw0
    refine (fValid_any n d _).mono ?_
    rintro e w1 ⟨rfl, hb1⟩
    rw [decide_eq_true HV.out]
    have c0 := (hk.below hb1).look 0 rfl
    have c1 := (hk.below hb1).look 1 rfl
    go_wp2
    go_ret
    exact ⟨HD.out _ ⟨fun h => (by cases h), fun h => by have := h.2.1; omega⟩, hb0.trans (hb1.mono hb0.size)⟩
  · have HV := hid hv
    have hd1 := hv.1
    have hd2 := hv.2.1
    clear hv
    go_enter Try.func77, Try.ntmps77
    go_wp2_with fail
    have hk := Blk.new w #[.int .i64 n, .int .i64 d] 26
    have hb0 := HB.out (.cells #[.int .i64 n, .int .i64 d] 26)
    obtain ⟨w0, hw0⟩ : ∃ w0, w.alloc (.cells #[.int .i64 n, .int .i64 d] 26) = w0 := ⟨_, rfl⟩
    rw [hw0] at hk hb0 ⊢
    clear hw0
    refine (fValid_any n d _).mono ?_
    rintro e w1 ⟨rfl, hb1⟩
    rw [decide_eq_true HV.out]
    have c0 := (hk.below hb1).look 0 rfl
    have c1 := (hk.below hb1).look 1 rfl
    go_wp2
    go_ret
    exact ⟨HD.out _ ⟨fun h => (by cases h), fun h => by have := h.2.2.1; omega⟩, hb0.trans (hb1.mono hb0.size)⟩
  · have HV := hid hv
    have hd1 := hv.1
    have hd2 := hv.2.1
    clear hv
    go_enter Try.func77, Try.ntmps77
    go_wp2_with fail
    have hk := Blk.new w #[.int .i64 n, .int .i64 d] 26
    have hb0 := HB.out (.cells #[.int .i64 n, .int .i64 d] 26)
    obtain ⟨w0, hw0⟩ : ∃ w0, w.alloc (.cells #[.int .i64 n, .int .i64 d] 26) = w0 := ⟨_, rfl⟩
    rw [hw0] at hk hb0 ⊢
    clear hw0
    refine (fValid_any n d _).mono ?_
    rintro e w1 ⟨rfl, hb1⟩
    rw [decide_eq_true HV.out]
    have c0 := (hk.below hb1).look 0 rfl
    have c1 := (hk.below hb1).look 1 rfl
    go_wp2
    go_ret
    exact ⟨HD.out _ ⟨fun h => (by have := of_decide_eq_true h; omega), fun h => by have := h.2.2.2; omega⟩, hb0.trans (hb1.mono hb0.size)⟩
  · have HV := hid hv
    have hd1 := hv.1
    have hd2 := hv.2.1
    clear hv
    go_enter Try.func77, Try.ntmps77
    go_wp2_with fail
    have hk := Blk.new w #[.int .i64 n, .int .i64 d] 26
    have hb0 := HB.out (.cells #[.int .i64 n, .int .i64 d] 26)
    obtain ⟨w0, hw0⟩ : ∃ w0, w.alloc (.cells #[.int .i64 n, .int .i64 d] 26) = w0 := ⟨_, rfl⟩
    rw [hw0] at hk hb0 ⊢
    clear hw0
    refine (fValid_any n d _).mono ?_
    rintro e w1 ⟨rfl, hb1⟩
    rw [decide_eq_true HV.out]
    have c0 := (hk.below hb1).look 0 rfl
    have c1 := (hk.below hb1).look 1 rfl
    go_wp2
    go_ret
    exact ⟨HD.out _ ⟨fun _ => ⟨HV.out, h1, h2, h3⟩, fun _ => rfl⟩, hb0.trans (hb1.mono hb0.size)⟩
set_option maxHeartbeats 1000000 in
theorem Size_any (n d : Int) (w : World) :
    Calls Try.prog 54 #[.agg #[.int .i64 n, .int .i64 d]] w fun e w' => e = .returned (.bool (decide (FSize n d))) ∧ Below w.heap.size w w' := by
  have hB : ∀ o, Below w.heap.size w (w.alloc o) := fun o => (Below.refl _ _).alloc (Nat.le_refl _) _
  have HB := hid hB
  clear hB
  have hdec : ∀ b : Bool, (b = true ↔ FSize n d) → .returned (.bool b) = Ending.returned (.bool (decide (FSize n d))) := by
    intro b hb
    exact ret_bool (Bool.eq_iff_iff.2 (hb.trans decide_eq_true_iff.symm))
  have HD := hid hdec
  clear hdec
  rcases fsize_cases n d with hv | ⟨hv, h1⟩ | ⟨hv, h1, h2⟩ | ⟨hv, h1, h2, h3⟩ | ⟨hv, h1, h2, h3⟩
  · have HV := hid hv
    clear hv
    go_enter Try.func54, Try.ntmps54
    go_wp2_with fail
    have hk := Blk.new w #[.int .i64 n, .int .i64 d] 26
    have hb0 := HB.out (.cells #[.int .i64 n, .int .i64 d] 26)
    obtain ⟨w0, hw0⟩ : ∃ w0, w.alloc (.cells #[.int .i64 n, .int .i64 d] 26) = w0 := ⟨_, rfl⟩
    rw [hw0] at hk hb0 ⊢
    clear hw0
    refine (Valid_any n d _).mono ?_
    rintro e w1 ⟨rfl, hb1⟩
    rw [decide_eq_false HV.out]
    have c0 := (hk.below hb1).look 0 rfl
    have c1 := (hk.below hb1).look 1 rfl
    go_wp2
    go_ret
    exact ⟨HD.out _ ⟨fun h => (by cases h), fun h => absurd h.1 HV.out⟩, hb0.trans (hb1.mono hb0.size)⟩
  · have HV := hid hv
    have hd1 := hv.1
    have hd2 := hv.2.1
    clear hv
    go_enter Try.func54, Try.ntmps54
    go_wp2_with fail
    have hk := Blk.new w #[.int .i64 n, .int .i64 d] 26
    have hb0 := HB.out (.cells #[.int .i64 n, .int .i64 d] 26)
    obtain ⟨w0, hw0⟩ : ∃ w0, w.alloc (.cells #[.int .i64 n, .int .i64 d] 26) = w0 := ⟨_, rfl⟩
    rw [hw0] at hk hb0 ⊢
    clear hw0
    refine (Valid_any n d _).mono ?_
    rintro e w1 ⟨rfl, hb1⟩
    rw [decide_eq_true HV.out]
    have c0 := (hk.below hb1).look 0 rfl
    have c1 := (hk.below hb1).look 1 rfl
    go_wp2
    go_ret
    exact ⟨HD.out _ ⟨fun h => (by cases h), fun h => by have := h.2.1; omega⟩, hb0.trans (hb1.mono hb0.size)⟩
  · have HV := hid hv
    have hd1 := hv.1
    have hd2 := hv.2.1
    clear hv
    go_enter Try.func54, Try.ntmps54
    go_wp2_with fail
    have hk := Blk.new w #[.int .i64 n, .int .i64 d] 26
    have hb0 := HB.out (.cells #[.int .i64 n, .int .i64 d] 26)
    obtain ⟨w0, hw0⟩ : ∃ w0, w.alloc (.cells #[.int .i64 n, .int .i64 d] 26) = w0 := ⟨_, rfl⟩
    rw [hw0] at hk hb0 ⊢
    clear hw0
    refine (Valid_any n d _).mono ?_
    rintro e w1 ⟨rfl, hb1⟩
    rw [decide_eq_true HV.out]
    have c0 := (hk.below hb1).look 0 rfl
    have c1 := (hk.below hb1).look 1 rfl
    go_wp2
    go_ret
    exact ⟨HD.out _ ⟨fun h => (by cases h), fun h => by have := h.2.2.1; omega⟩, hb0.trans (hb1.mono hb0.size)⟩
  · have HV := hid hv
    have hd1 := hv.1
    have hd2 := hv.2.1
    clear hv
    go_enter Try.func54, Try.ntmps54
    go_wp2_with fail
    have hk := Blk.new w #[.int .i64 n, .int .i64 d] 26
    have hb0 := HB.out (.cells #[.int .i64 n, .int .i64 d] 26)
    obtain ⟨w0, hw0⟩ : ∃ w0, w.alloc (.cells #[.int .i64 n, .int .i64 d] 26) = w0 := ⟨_, rfl⟩
    rw [hw0] at hk hb0 ⊢
    clear hw0
    refine (Valid_any n d _).mono ?_
    rintro e w1 ⟨rfl, hb1⟩
    rw [decide_eq_true HV.out]
    have c0 := (hk.below hb1).look 0 rfl
    have c1 := (hk.below hb1).look 1 rfl
    go_wp2
    go_ret
    exact ⟨HD.out _ ⟨fun h => (by have := of_decide_eq_true h; omega), fun h => by have := h.2.2.2; omega⟩, hb0.trans (hb1.mono hb0.size)⟩
  · have HV := hid hv
    have hd1 := hv.1
    have hd2 := hv.2.1
    clear hv
    go_enter Try.func54, Try.ntmps54
    go_wp2_with fail
    have hk := Blk.new w #[.int .i64 n, .int .i64 d] 26
    have hb0 := HB.out (.cells #[.int .i64 n, .int .i64 d] 26)
    obtain ⟨w0, hw0⟩ : ∃ w0, w.alloc (.cells #[.int .i64 n, .int .i64 d] 26) = w0 := ⟨_, rfl⟩
    rw [hw0] at hk hb0 ⊢
    clear hw0
    refine (Valid_any n d _).mono ?_
    rintro e w1 ⟨rfl, hb1⟩
    rw [decide_eq_true HV.out]
    have c0 := (hk.below hb1).look 0 rfl
    have c1 := (hk.below hb1).look 1 rfl
    go_wp2
    go_ret
    exact ⟨HD.out _ ⟨fun _ => ⟨HV.out, h1, h2, h3⟩, fun _ => rfl⟩, hb0.trans (hb1.mono hb0.size)⟩

set_option maxHeartbeats 1000000 in
theorem Good_any (p : Pat) (n d : Int) (v : Value) (w : World) (h : PatF 0 w v p) :
    Calls Try.prog 27 #[v, .agg #[.int .i64 n, .int .i64 d]] w fun e w' => e = .returned (.bool (decide (PValid p) && decide (FSize n d))) ∧ Below w.heap.size w w' := by
  have h0 := h
  obtain ⟨s, rfl, _⟩ := h
  have hB : ∀ o1 o2, Below w.heap.size w ((w.alloc o1).alloc o2) := fun o1 o2 => ((Below.refl _ _).alloc (Nat.le_refl _) _).alloc (by simp) _
  have HB := hid hB
  clear hB
  by_cases hp : PValid p
  · rw [decide_eq_true hp]
    have HP := hid hp
    clear hp
    go_enter Try.func27, Try.ntmps27
    go_wp2_with fail
    have hk := Blk.new (w.alloc (.cells #[.int .i64 p.n, s] 24)) #[.int .i64 n, .int .i64 d] 26
    rw [World.size_alloc] at hk
    have hb0 := HB.out (.cells #[.int .i64 p.n, s] 24) (.cells #[.int .i64 n, .int .i64 d] 26)
    obtain ⟨w0, hw0⟩ : ∃ w0, (w.alloc (.cells #[.int .i64 p.n, s] 24)).alloc (.cells #[.int .i64 n, .int .i64 d] 26) = w0 := ⟨_, rfl⟩
    rw [hw0] at hk hb0 ⊢
    clear hw0
    refine (rValid_any p _ _ (h0.below hb0)).mono ?_
    rintro e w1 ⟨rfl, hb1⟩
    rw [decide_eq_true HP.out]
    have c0 := (hk.below hb1).look 0 rfl
    have c1 := (hk.below hb1).look 1 rfl
    go_wp2_with fail
    refine (Size_any n d _).mono ?_
    rintro e w2 ⟨rfl, hb2⟩
    obtain ⟨bb, hbb⟩ : ∃ bb, decide (FSize n d) = bb := ⟨_, rfl⟩
    rw [hbb]
    have HBB := hid hbb
    clear hbb
    go_wp2
    go_ret
    exact ⟨ret_bool (by rw [HBB.out]; simp), (hb0.trans (hb1.mono hb0.size)).trans (hb2.mono (Nat.le_trans hb0.size hb1.size))⟩
  · rw [decide_eq_false hp]
    have HP := hid hp
    clear hp
    go_enter Try.func27, Try.ntmps27
    go_wp2_with fail
    refine (rValid_any p _ _ (h0.below (HB.out _ _))).mono ?_
    rintro e w1 ⟨rfl, hb1⟩
    rw [decide_eq_false HP.out]
    go_wp2
    go_ret
    exact ⟨ret_bool (by simp), (HB.out _ _).trans (hb1.mono (HB.out _ _).size)⟩

/-- The weight of a rule at n/d, times d. -/
def wt (r : Rul) (n d : Int) : Int := r.c * d + r.d * n
theorem prod_bd {x y X Y : Int} (h1 : -X ≤ x) (h2 : x ≤ X) (h3 : 0 ≤ y) (h4 : y ≤ Y) : -(X * Y) ≤ x * y ∧ x * y ≤ X * Y := by
  have hX : 0 ≤ X := by omega
  have a1 : x * y ≤ X * y := Int.mul_le_mul_of_nonneg_right h2 h3
  have a2 : X * y ≤ X * Y := Int.mul_le_mul_of_nonneg_left h4 hX
  have a3 : -X * y ≤ x * y := Int.mul_le_mul_of_nonneg_right h1 h3
  rw [Int.neg_mul] at a3
  omega
theorem wt_bd {m n d : Int} {r : Rul} (hr : RV m r) (hs : FSize n d) : (-10000000 ≤ r.c * d ∧ r.c * d ≤ 10000000) ∧ (-40000000 ≤ r.d * n ∧ r.d * n ≤ 40000000) := by
  have h1 := prod_bd hr.2.2.2.2.1 hr.2.2.2.2.2.1 (show 0 ≤ d by have := hs.1.1; omega) hs.2.2.1
  have h2 := prod_bd hr.2.2.2.2.2.2.1 hr.2.2.2.2.2.2.2 hs.2.1 (show n ≤ 400000 by have := hs.2.2.1; have := hs.2.2.2; omega)
  omega
theorem wt_le {m n d : Int} {r : Rul} (hr : RV m r) (hs : FSize n d) : -50000000 ≤ wt r n d ∧ wt r n d ≤ 50000000 := by
  have := wt_bd hr hs; unfold wt; omega

set_option maxHeartbeats 1000000 in
theorem at_any (m : Int) (r : Rul) (n d : Int) (w : World) (hr : RV m r) (hs : FSize n d) :
    Calls Try.prog 80 #[.agg #[.int .i64 r.a, .int .i64 r.b, .int .i64 r.c, .int .i64 r.d], .agg #[.int .i64 n, .int .i64 d]] w fun e w' => e = .returned (.int .i64 (wt r n d)) ∧ Below w.heap.size w w' := by
  obtain ⟨⟨g1, g2⟩, g3, g4⟩ := wt_bd hr hs
  clear hr hs
  obtain ⟨ra, rb, rc, rd⟩ := r
  dsimp only at g1 g2 g3 g4 ⊢
  go_enter Try.func80, Try.ntmps80
  go_wp2
  go_ret
  exact ⟨rfl, ((Below.refl _ _).alloc (Nat.le_refl _) _).alloc (by simp) _⟩
set_option maxHeartbeats 1000000 in
theorem weight_any (m : Int) (r : Rul) (n d : Int) (w : World) (hr : RV m r) (hs : FSize n d) :
    Calls Try.prog 81 #[.agg #[.int .i64 r.a, .int .i64 r.b, .int .i64 r.c, .int .i64 r.d], .agg #[.int .i64 n, .int .i64 d]] w fun e w' => e = .returned (.int .i64 (wt r n d)) ∧ Below w.heap.size w w' := by
  obtain ⟨⟨g1, g2⟩, g3, g4⟩ := wt_bd hr hs
  clear hr hs
  obtain ⟨ra, rb, rc, rd⟩ := r
  dsimp only at g1 g2 g3 g4 ⊢
  go_enter Try.func81, Try.ntmps81
  go_wp2
  go_ret
  exact ⟨rfl, ((Below.refl _ _).alloc (Nat.le_refl _) _).alloc (by simp) _⟩

end Go.Proofs.Ytmknengmjepdaaa
