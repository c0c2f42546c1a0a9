/- Walks of trank/frac: valid, ratio.frac, Sub. -/
import Derived.Test.YtfkclcoipadhmaaGreatDoorQx
import Derived.Test.YtfkclcoipadhmaaGreatDoorRw
namespace Go.Proofs.YtfkclcoipadhmaaGreatDoor
open Go.RowKit
attribute [local irreducible] seqS seqST walkV

set_option maxHeartbeats 1000000 in
theorem fvalid_any (l : List (Int × Int)) (v : Value) (w : World) (h : FrsR 0 w v l) :
    Calls Tryz.prog 110 #[v] w fun e w' => e = .returned (.bool (decide (∀ f ∈ l, FV f.1 f.2))) ∧ Below w.heap.size w w' := by
  obtain ⟨ao, cap, rfl, hcap, hmax, hc⟩ := h
  unfold maxLen at hmax
  obtain ⟨res, hres⟩ : ∃ b, decide (∀ f ∈ l, FV f.1 f.2) = b := ⟨_, rfl⟩
  rw [hres]
  have HR := hid hres
  clear hres
  go_enter Tryz.func110, Tryz.ntmps110
  go_wp2
  go_loopw [7] (fun x wr => ∃ i : Nat, x = .int .i64 i ∧ i ≤ l.length ∧ (∀ f ∈ l.take i, FV f.1 f.2) ∧ Below w.heap.size w wr) (fun x _ => l.length - (intOf x).toNat)
  case atStart => exact ⟨0, rfl, Nat.zero_le _, by simp, Below.refl _ _⟩
  case round =>
    obtain ⟨i, rfl, hi, hall, hbel⟩ := hrel
    have HA := hid hall
    clear hall
    by_cases h1 : i < l.length
    · obtain ⟨b, off, rfl, hb, c0, c1⟩ := fr_cell hc h1
      have d0 := (hbel.cell (p := ⟨b, off + i * 2, none⟩) hb).trans c0
      have d1 := (hbel.cell (p := ⟨b, off + i * 2 + 1, none⟩) hb).trans c1
      obtain ⟨n, hn⟩ : ∃ n, (l.getD i (0, 0)).1 = n := ⟨_, rfl⟩
      obtain ⟨d, hd⟩ : ∃ n, (l.getD i (0, 0)).2 = n := ⟨_, rfl⟩
      rw [hn] at d0
      rw [hd] at d1
      have HN := hid hn
      have HD := hid hd
      clear hn hd c0 c1
      go_wp2_with fail
      refine (fValid_any n d _).mono ?_
      rintro e w1 ⟨rfl, hb1⟩
      have hsz := hbel.size
      by_cases hv : FV n d
      · rw [decide_eq_true hv]
        have HV := hid hv
        clear hv
        go_wp2
        refine ⟨⟨i + 1, by go_num, by omega, all_take h1 HA.out (by rw [HN.out, HD.out]; exact HV.out), (hbel.alloc hsz _).trans (hb1.mono (by simp; omega))⟩, by simp [intOf]; omega⟩
      · rw [decide_eq_false hv]
        have HV := hid hv
        clear hv
        go_wp2
        go_ret
        refine ⟨ret_bool ?_, (hbel.alloc hsz _).trans (hb1.mono (by simp; omega))⟩
        rw [← HR.out]; symm
        rw [decide_eq_false_iff_not]
        intro hh
        have := hh _ (getD_mem' h1)
        rw [HN.out, HD.out] at this
        exact HV.out this
    · obtain rfl : i = l.length := by omega
      go_wp2
      go_ret
      refine ⟨ret_bool ?_, hbel⟩
      rw [← HR.out]; symm
      rw [decide_eq_true_eq]
      have := HA.out
      rwa [List.take_length] at this

set_option maxHeartbeats 2000000 in
set_option maxRecDepth 100000 in
theorem ratFrac_any (n d : Int) (w : World) (hn1 : -9223372036854775808 ≤ n) (hn2 : n ≤ 9223372036854775807) (hd1 : 1 ≤ d) (hd2 : d ≤ 9223372036854775807) :
    Calls Tryz.prog 111 #[.agg #[.int .i64 n, .int .i64 d]] w fun e w' => e = .returned (.tuple #[frV (fitN ((n : Rat) / (d : Rat))) (fitD ((n : Rat) / (d : Rat))), .int .i64 (fitE ((n : Rat) / (d : Rat)))]) ∧ Below w.heap.size w w' := by
  have LOW : Hid (∀ w, Calls Tryz.prog 137 #[.bool (decide (n < 0)), .int .u64 ((n.natAbs : Nat) : Int), .int .u64 ((d.natAbs : Nat) : Int)] w fun e w' => e = .returned (.tuple #[frV (fitN ((n : Rat) / (d : Rat))) (fitD ((n : Rat) / (d : Rat))), .int .i64 (fitE ((n : Rat) / (d : Rat)))]) ∧ Below w.heap.size w w') := hid (fun w => by
    have := lowest_any (decide (n < 0)) n.natAbs d.natAbs w (by omega) (by omega) (by omega)
    rw [qmk_of_div n d (decide (n < 0)) (by omega) (by by_cases h : n < 0 <;> by_cases h0 : n = 0 <;> simp [h, h0] <;> omega)] at this
    exact this)
  have SN := hid (fun w => size_any n w hn1 hn2)
  have SD := hid (fun w => size_any d w (by omega) (by omega))
  generalize fitN ((n : Rat) / (d : Rat)) = N at *
  generalize fitD ((n : Rat) / (d : Rat)) = D at *
  generalize fitE ((n : Rat) / (d : Rat)) = E at *
  generalize ((n.natAbs : Nat) : Int) = an at *
  generalize ((d.natAbs : Nat) : Int) = ad at *
  clear hn1 hn2 hd1 hd2
  go_enter Tryz.func111, Tryz.ntmps111
  go_wp2_with fail
  have k0 := Blk.new w #[.int .i64 n, .int .i64 d] 107
  have k1 := Blk.new (w.alloc (.cells #[.int .i64 n, .int .i64 d] 107)) #[.int .i64 0, .int .i64 0] 31
  have k0' := k0.alloc (.cells #[.int .i64 0, .int .i64 0] 31)
  have b0 := ((Below.refl w.heap.size w).alloc (Nat.le_refl _) (.cells #[.int .i64 n, .int .i64 d] 107)).alloc (by simp) (.cells #[.int .i64 0, .int .i64 0] 31)
  rw [World.size_alloc] at k1
  obtain ⟨w0, hw0⟩ : ∃ w0, (w.alloc (.cells #[.int .i64 n, .int .i64 d] 107)).alloc (.cells #[.int .i64 0, .int .i64 0] 31) = w0 := ⟨_, rfl⟩
  rw [hw0] at k0' k1 b0 ⊢
  have hs0 : w0.heap.size = w.heap.size + 2 := by rw [← hw0]; simp
  clear hw0 k0
  have hd : Below w0.heap.size w0 w0.drew := (Below.refl _ _).drew
  have z0 := fun x : SubT (Below w0.heap.size) w0.drew => (k0'.below (hd.trans x.b)).look 0 rfl
  have z1 := fun x : SubT (Below w0.heap.size) w0.drew => (k0'.below (hd.trans x.b)).look 1 rfl
  have HS0 := hid hs0
  clear hs0
  refine wp_walkV (T := Below (w0.heap.size)) (belowV_pre _) (.rd 0 (.rd 1 (.rd 2 (.rd 3 (.rd 4 (.rd 6 (.rd 7 (.mv 5 (.mv 8 (.bt 9 (.rd 10 (.rd 11 (.bt 12 (.rd 13 .nil)))))))))))))) (by kernel_rfl) rfl rfl (by kernel_rfl) (by kernel_rfl) ?_
  iterate 7 (refine walkV_rd rfl (fun K hK => ?_); go_simp; refine hK _ ?_; clear hK K)
  clear z0 z1
  (refine walkV_mv rfl (fun K hK => ?_); go_simp; refine (SN.out _).mono ?_; rintro e w1 ⟨rfl, rfl⟩; refine ⟨_, rfl, hK _ _ (Below.refl _ _) ?_⟩; clear hK K)
  (refine walkV_mv rfl (fun K hK => ?_); go_simp; refine (SD.out _).mono ?_; rintro e w1 ⟨rfl, rfl⟩; refine ⟨_, rfl, hK _ _ (Below.refl _ _) ?_⟩; clear hK K)
  (refine walkV_bt rfl (fun K hK => ?_); go_simp; refine (LOW.out _).mono ?_; rintro e w1 ⟨rfl, hb1⟩; refine ⟨_, rfl, hK _ _ ?_⟩; clear hK K)
  iterate 2 (refine walkV_rd rfl (fun K hK => ?_); go_simp; refine hK _ ?_; clear hK K)
  have k2 := k1.below (hd.trans (hb1.mono (by show w0.heap.size ≤ w0.heap.size; omega)))
  have b2 := b0.trans ((hd.trans (hb1.mono (by show w0.heap.size ≤ w0.heap.size; omega))).mono (by have := HS0.out; omega))
  have f2 := k2.frozen
  have c0 := k2.look 0 rfl
  have c1 := k2.look 1 rfl
  have r0 := k2.cell 0
  have r1 := k2.cell 1
  (refine walkV_bt rfl (fun K hK => ?_); go_simp; refine hK _ _ ?_; clear hK K)
  iterate 1 (refine walkV_rd rfl (fun K hK => ?_); go_simp; refine hK _ ?_; clear hK K)
  refine walkV_nil ?_
  go_wp2
  refine bodyPost_ret (v := .tuple #[frV N D, .int .i64 E]) ?_ rfl ⟨rfl, (b2.setCell (p := ⟨w.heap.size + 1, 0, none⟩) (by show w.heap.size ≤ w.heap.size + 1; omega) _).setCell (p := ⟨w.heap.size + 1, 1, none⟩) (by show w.heap.size ≤ w.heap.size + 1; omega) _⟩
  simp [results, Tryz.results111, go_sem, r0, r1]

theorem prod_bd' {x y X Y : Int} (h1 : -X ≤ x) (h2 : x ≤ X) (h3 : 0 ≤ y) (h4 : y ≤ Y) : -(X * Y) ≤ x * y ∧ x * y ≤ X * Y := by
  have hX : 0 ≤ X := by omega
  have a1 : x * y ≤ X * y := Int.mul_le_mul_of_nonneg_right h2 h3
  have a2 : X * y ≤ X * Y := Int.mul_le_mul_of_nonneg_left h4 hX
  have a3 : -X * y ≤ x * y := Int.mul_le_mul_of_nonneg_right h1 h3
  rw [Int.neg_mul] at a3
  omega
/-- What Sub hands back. -/
def subN (a b c e : Int) : Int := if FV a b ∧ FV c e then fitN ((a : Rat) / (b : Rat) - (c : Rat) / (e : Rat)) else 0
def subD (a b c e : Int) : Int := if FV a b ∧ FV c e then fitD ((a : Rat) / (b : Rat) - (c : Rat) / (e : Rat)) else 0
def subE (a b c e : Int) : Int := if FV a b ∧ FV c e then fitE ((a : Rat) / (b : Rat) - (c : Rat) / (e : Rat)) else 2

theorem two_frs {W : World} {g : Nat} {a b c e : Int} {t : TypeId} (h : Blk W g #[.int .i64 a, .int .i64 b, .int .i64 c, .int .i64 e] t) : FrsR 0 W (.slice (some ⟨g, 0, none⟩) 2 2) [(a, b), (c, e)] := by
  refine ⟨some ⟨g, 0, none⟩, 2, rfl, Nat.le_refl _, by unfold maxLen; omega, fun _ => ⟨g, 0, rfl, Nat.zero_le _, h.lt, fun j hj => ?_⟩⟩
  have hj4 : j < 4 := hj
  rw [Nat.zero_add]
  match j, hj4 with
  | 0, _ => exact h.look 0 rfl
  | 1, _ => exact h.look 1 rfl
  | 2, _ => exact h.look 2 rfl
  | 3, _ => exact h.look 3 rfl
theorem fv_prod {a b c e : Int} (h : FV a b) (k : FV c e) : -1000000000000000000 ≤ a * e ∧ a * e ≤ 1000000000000000000 := by
  have := prod_bd' h.2.2.1 h.2.2.2.1 (show 0 ≤ e by have := k.1; omega) k.2.1
  omega
theorem sub_val {a b c e : Int} (hb : 1 ≤ b) (he : 1 ≤ e) : ((a * e - c * b : Int) : Rat) / ((b * e : Int) : Rat) = (a : Rat) / (b : Rat) - (c : Rat) / (e : Rat) := by
  have h1 : (b : Rat) ≠ 0 := by have : b ≠ 0 := by omega
                                simpa using this
  have h2 : (e : Rat) ≠ 0 := by have : e ≠ 0 := by omega
                                simpa using this
  push_cast
  grind

set_option maxHeartbeats 2000000 in
set_option maxRecDepth 100000 in
theorem fSub_any (a b c e : Int) (w : World) :
    Calls Tryz.prog 103 #[.agg #[.int .i64 a, .int .i64 b], .agg #[.int .i64 c, .int .i64 e]] w fun r w' => r = .returned (.tuple #[frV (subN a b c e) (subD a b c e), .int .i64 (subE a b c e)]) ∧ Below w.heap.size w w' := by
  go_enter Tryz.func103, Tryz.ntmps103
  go_wp2_with fail
  have k0 := ((Blk.new w #[.int .i64 a, .int .i64 b] 31).alloc (.cells #[.int .i64 c, .int .i64 e] 31)).alloc (.cells #[.int .i64 0, .int .i64 0] 31)
  have k1 := (Blk.new (w.alloc (.cells #[.int .i64 a, .int .i64 b] 31)) #[.int .i64 c, .int .i64 e] 31).alloc (.cells #[.int .i64 0, .int .i64 0] 31)
  have k2 := Blk.new ((w.alloc (.cells #[.int .i64 a, .int .i64 b] 31)).alloc (.cells #[.int .i64 c, .int .i64 e] 31)) #[.int .i64 0, .int .i64 0] 31
  have b0 := (((Below.refl w.heap.size w).alloc (Nat.le_refl _) (.cells #[.int .i64 a, .int .i64 b] 31)).alloc (by simp) (.cells #[.int .i64 c, .int .i64 e] 31)).alloc (by simp <;> omega) (.cells #[.int .i64 0, .int .i64 0] 31)
  simp only [World.size_alloc] at k1 k2
  have k0' := k0.alloc (.cells #[.int .i64 a, .int .i64 b, .int .i64 c, .int .i64 e] 31)
  have k1' := k1.alloc (.cells #[.int .i64 a, .int .i64 b, .int .i64 c, .int .i64 e] 31)
  have k2' := k2.alloc (.cells #[.int .i64 a, .int .i64 b, .int .i64 c, .int .i64 e] 31)
  have b0' := b0.alloc (by simp <;> omega) (.cells #[.int .i64 a, .int .i64 b, .int .i64 c, .int .i64 e] 31)
  have k3 := Blk.new (((w.alloc (.cells #[.int .i64 a, .int .i64 b] 31)).alloc (.cells #[.int .i64 c, .int .i64 e] 31)).alloc (.cells #[.int .i64 0, .int .i64 0] 31)) #[.int .i64 a, .int .i64 b, .int .i64 c, .int .i64 e] 31
  simp only [World.size_alloc] at k3
  clear k0 k1 k2 b0
  obtain ⟨w0, hw0⟩ : ∃ w0, (((w.alloc (.cells #[.int .i64 a, .int .i64 b] 31)).alloc (.cells #[.int .i64 c, .int .i64 e] 31)).alloc (.cells #[.int .i64 0, .int .i64 0] 31)).alloc (.cells #[.int .i64 a, .int .i64 b, .int .i64 c, .int .i64 e] 31) = w0 := ⟨_, rfl⟩
  rw [hw0] at k0' k1' k2' k3 b0' ⊢
  clear hw0
  refine (fvalid_any _ _ _ (two_frs k3)).mono ?_
  rintro r w1 ⟨rfl, hb1⟩
  have hdec : decide (∀ f ∈ [(a, b), (c, e)], FV f.1 f.2) = decide (FV a b ∧ FV c e) := by
    apply decide_eq_decide.2
    simp
  rw [hdec]
  have b1 := b0'.trans (hb1.mono b0'.size)
  have k0 := k0'.below hb1
  have k1 := k1'.below hb1
  have k2 := k2'.below hb1
  clear k0' k1' k2' k3 b0' hb1 hdec
  have f2 := k2.frozen
  have q0 := k2.look 0 rfl
  have q1 := k2.look 1 rfl
  have r0 := k2.cell 0
  have r1 := k2.cell 1
  by_cases hfv : FV a b ∧ FV c e
  · rw [decide_eq_true hfv]
    have hv := sub_val (a := a) (c := c) hfv.1.1 hfv.2.1
    have p1 := fv_prod hfv.1 hfv.2
    have p2 := fv_prod hfv.2 hfv.1
    have p3 : 1 ≤ b * e := by have := Int.mul_le_mul hfv.1.1 hfv.2.1 (by decide) (by have := hfv.1.1; omega); omega
    have p4 : b * e ≤ 1000000000000000000 := by have := Int.mul_le_mul hfv.1.2.1 hfv.2.2.1 (by have := hfv.2.1; omega) (by decide); omega
    have RF := hid (fun w => ratFrac_any (a * e - c * b) (b * e) w (by omega) (by omega) p3 (by omega))
    rw [hv] at RF
    have e1 : subN a b c e = fitN ((a : Rat) / (b : Rat) - (c : Rat) / (e : Rat)) := if_pos hfv
    have e2 : subD a b c e = fitD ((a : Rat) / (b : Rat) - (c : Rat) / (e : Rat)) := if_pos hfv
    have e3 : subE a b c e = fitE ((a : Rat) / (b : Rat) - (c : Rat) / (e : Rat)) := if_pos hfv
    rw [← e1, ← e2, ← e3] at RF
    have P1 : IntKind.i64.wrap (a * e) = a * e := by rw [IntWalk.i64_left]; unfold wrap64; omega
    have P2 : IntKind.i64.wrap (c * b) = c * b := by rw [IntWalk.i64_left]; unfold wrap64; omega
    have P3 : IntKind.i64.wrap (a * e - c * b) = a * e - c * b := by rw [IntWalk.i64_left]; unfold wrap64; omega
    have P4 : IntKind.i64.wrap (b * e) = b * e := by rw [IntWalk.i64_left]; unfold wrap64; omega
    obtain ⟨N, hN⟩ : ∃ N, subN a b c e = N := ⟨_, rfl⟩
    obtain ⟨D, hD⟩ : ∃ N, subD a b c e = N := ⟨_, rfl⟩
    obtain ⟨E, hE⟩ : ∃ N, subE a b c e = N := ⟨_, rfl⟩
    rw [hN, hD, hE] at RF
    have HN := hid hN
    have HD := hid hD
    have HE := hid hE
    clear hv e1 e2 e3 hfv p1 p2 p3 p4 hN hD hE
    have c0 := k0.look 0 rfl
    have c1 := k0.look 1 rfl
    have c2 := k1.look 0 rfl
    have c3 := k1.look 1 rfl
    go_wp2_with fail
    refine (RF.out _).mono ?_
    rintro r w2 ⟨rfl, hb2⟩
    have b2 := b1.trans (hb2.mono b1.size)
    have k3 := k2.below hb2
    clear f2 q0 q1 r0 r1
    have f2 := k3.frozen
    have q0 := k3.look 0 rfl
    have q1 := k3.look 1 rfl
    have r0 := k3.cell 0
    have r1 := k3.cell 1
    go_wp2
    refine bodyPost_ret (v := .tuple #[frV N D, .int .i64 E]) ?_ rfl ⟨by rw [HN.out, HD.out, HE.out], (b2.setCell (p := ⟨w.heap.size + 1 + 1, 0, none⟩) (by show w.heap.size ≤ w.heap.size + 1 + 1; omega) _).setCell (p := ⟨w.heap.size + 1 + 1, 1, none⟩) (by show w.heap.size ≤ w.heap.size + 1 + 1; omega) _⟩
    simp [results, Tryz.results103, go_sem, r0, r1]
  · rw [decide_eq_false hfv]
    go_wp2
    refine bodyPost_ret (v := .tuple #[frV 0 0, .int .i64 2]) ?_ rfl ⟨by rw [show subN a b c e = 0 from if_neg hfv, show subD a b c e = 0 from if_neg hfv, show subE a b c e = 2 from if_neg hfv], (b1.setCell (p := ⟨w.heap.size + 1 + 1, 0, none⟩) (by show w.heap.size ≤ w.heap.size + 1 + 1; omega) _).setCell (p := ⟨w.heap.size + 1 + 1, 1, none⟩) (by show w.heap.size ≤ w.heap.size + 1 + 1; omega) _⟩
    simp [results, Tryz.results103, go_sem, r0, r1]

end Go.Proofs.YtfkclcoipadhmaaGreatDoor
