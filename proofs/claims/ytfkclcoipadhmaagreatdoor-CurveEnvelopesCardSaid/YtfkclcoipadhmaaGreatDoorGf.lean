/- Walks of the closures of curve.Upper, curve.Lower, curve.envelope. -/
import Derived.Test.YtfkclcoipadhmaaGreatDoorGp
namespace Go.Proofs.YtfkclcoipadhmaaGreatDoor
open Go.RowKit
attribute [local irreducible] seqS seqST walkV walkJ

set_option maxHeartbeats 4000000 in
set_option maxRecDepth 100000 in
theorem up1_any (y z : Rat) (hy : fits y) (hz : fits z) (w : World) :
    Calls Tryz.prog 72 #[frQ y, frQ z] w fun r w' => r = .returned (.bool (decide (z ≤ y))) ∧ Below w.heap.size w w' := by
  have OR := hid (fun w => order_any y z hy hz w)
  have hcm := cmp_cases y z
  obtain ⟨cz, hcz⟩ : ∃ k, cmpQ y z = k := ⟨_, rfl⟩
  rw [hcz] at OR hcm
  have hres : decide (z ≤ y) = decide (cz ≥ 0) := by
    rcases hcm with ⟨h, rfl, -⟩ | ⟨h, rfl, -⟩ | ⟨h, rfl, -⟩
    · rw [decide_eq_false (Rat.not_le.2 h)]; rfl
    · rw [decide_eq_true (Rat.le_of_lt h)]; rfl
    · rw [h, decide_eq_true Rat.le_refl]; rfl
  rw [hres]
  unfold frQ at OR ⊢
  have k0 := (Blk.new w #[.int .i64 y.num, .int .i64 (y.den : Int)] 31).alloc (.cells #[.int .i64 z.num, .int .i64 (z.den : Int)] 31)
  have k1 := Blk.new (w.alloc (.cells #[.int .i64 y.num, .int .i64 (y.den : Int)] 31)) #[.int .i64 z.num, .int .i64 (z.den : Int)] 31
  have b0 := ((Below.refl w.heap.size w).alloc (Nat.le_refl _) (.cells #[.int .i64 y.num, .int .i64 (y.den : Int)] 31)).alloc (by simp) (.cells #[.int .i64 z.num, .int .i64 (z.den : Int)] 31)
  rw [World.size_alloc] at k1
  have c0 := k0.look 0 rfl
  have c1 := k0.look 1 rfl
  have c2 := k1.look 0 rfl
  have c3 := k1.look 1 rfl
  clear hcm hcz hres k0 k1
  go_enter Tryz.func72, Tryz.ntmps72
  go_wp2_with fail
  refine (OR.out _).mono ?_
  rintro r w1 ⟨rfl, hb1⟩
  have hb := b0.trans (hb1.mono b0.size)
  clear c0 c1 c2 c3 hb1 b0
  go_wp2
  go_ret
  exact ⟨by first | rfl | simp, hb⟩
set_option maxHeartbeats 4000000 in
set_option maxRecDepth 100000 in
theorem low1_any (y z : Rat) (hy : fits y) (hz : fits z) (w : World) :
    Calls Tryz.prog 74 #[frQ y, frQ z] w fun r w' => r = .returned (.bool (decide (y ≤ z))) ∧ Below w.heap.size w w' := by
  have OR := hid (fun w => order_any y z hy hz w)
  have hcm := cmp_cases y z
  obtain ⟨cz, hcz⟩ : ∃ k, cmpQ y z = k := ⟨_, rfl⟩
  rw [hcz] at OR hcm
  have hres : decide (y ≤ z) = decide (cz ≤ 0) := by
    rcases hcm with ⟨h, rfl, -⟩ | ⟨h, rfl, -⟩ | ⟨h, rfl, -⟩
    · rw [decide_eq_true (Rat.le_of_lt h)]; rfl
    · rw [decide_eq_false (Rat.not_le.2 h)]; rfl
    · rw [h, decide_eq_true Rat.le_refl]; rfl
  rw [hres]
  unfold frQ at OR ⊢
  have k0 := (Blk.new w #[.int .i64 y.num, .int .i64 (y.den : Int)] 31).alloc (.cells #[.int .i64 z.num, .int .i64 (z.den : Int)] 31)
  have k1 := Blk.new (w.alloc (.cells #[.int .i64 y.num, .int .i64 (y.den : Int)] 31)) #[.int .i64 z.num, .int .i64 (z.den : Int)] 31
  have b0 := ((Below.refl w.heap.size w).alloc (Nat.le_refl _) (.cells #[.int .i64 y.num, .int .i64 (y.den : Int)] 31)).alloc (by simp) (.cells #[.int .i64 z.num, .int .i64 (z.den : Int)] 31)
  rw [World.size_alloc] at k1
  have c0 := k0.look 0 rfl
  have c1 := k0.look 1 rfl
  have c2 := k1.look 0 rfl
  have c3 := k1.look 1 rfl
  clear hcm hcz hres k0 k1
  go_enter Tryz.func74, Tryz.ntmps74
  go_wp2_with fail
  refine (OR.out _).mono ?_
  rintro r w1 ⟨rfl, hb1⟩
  have hb := b0.trans (hb1.mono b0.size)
  clear c0 c1 c2 c3 hb1 b0
  go_wp2
  go_ret
  exact ⟨by first | rfl | simp, hb⟩

/-- The function that chooses. -/
def chooseF (up : Bool) : FuncId := if up then 72 else 74
def chooseB (up : Bool) (y z : Rat) : Bool := if up then decide (z ≤ y) else decide (y ≤ z)
theorem choose_any (up : Bool) (y z : Rat) (hy : fits y) (hz : fits z) (w : World) :
    Calls Tryz.prog (chooseF up) #[frQ y, frQ z] w fun r w' => r = .returned (.bool (chooseB up y z)) ∧ Below w.heap.size w w' := by
  cases up with
  | true => exact up1_any y z hy hz w
  | false => exact low1_any y z hy hz w
theorem choose_enter (up : Bool) : ∀ args w, (callFunc (chooseF up) args).run Tryz.prog w = .ok (.enter (chooseF up) args) w := by
  cases up with
  | true => exact enters_of Tryz.func72 (by kernel_rfl) rfl
  | false => exact enters_of Tryz.func74 (by kernel_rfl) rfl
theorem pick_choose (up : Bool) (y z : Rat) : pickQ up y z = if chooseB up y z = true then y else z := by
  unfold pickQ chooseB
  cases up with
  | true => simp
  | false => simp
theorem env_cal (up : Bool) (A C : List Pt) (x : Rat) (ok : Bool) (V1 V2 : Rat) (h1 : calK ok (atO A x) = true → atO A x = some V1) (h2 : calK (calK ok (atO A x)) (atO C x) = true → atO C x = some V2) :
    calK (calK ok (atO A x)) (atO C x) = (ok && (envO up A C x).isSome) ∧ ((ok && (envO up A C x).isSome) = true → envO up A C x = some (x, pickQ up V1 V2)) := by
  unfold envO
  cases ok with
  | false => exact ⟨rfl, fun h => by cases h⟩
  | true =>
    cases ha : atO A x with
    | none => exact ⟨rfl, fun h => by cases h⟩
    | some y =>
      rw [ha] at h1 h2
      have e1 : y = V1 := Option.some.inj (h1 rfl)
      cases hc : atO C x with
      | none => exact ⟨rfl, fun h => by cases h⟩
      | some z =>
        rw [hc] at h2
        have e2 : z = V2 := Option.some.inj (h2 rfl)
        subst e1 e2
        exact ⟨rfl, fun _ => rfl⟩

set_option maxHeartbeats 4000000 in
set_option maxRecDepth 100000 in
theorem envPt_any (up : Bool) (A C : List Pt) (x : Rat) (va vc : Value) (hA : CV A) (hC : CV C) (hdA : InDom A x) (hdC : InDom C x) (hx : fits x) (g ga gc gf : Nat) (ok : Bool) (w : World) (hpa : PsR 0 w va A) (hpc : PsR 0 w vc C)
    (kga : Blk w ga #[va] 22) (kgc : Blk w gc #[vc] 22) {tf : TypeId} (kgf : Blk w gf #[.func (.func (chooseF up)) #[] #[]] tf) (_hga : ga ≠ g) (hgc : gc ≠ g) (hgf : gf ≠ g) (hz : Z0 w) (hk : CalB w g ok) :
    Calls Tryz.prog 105 #[.pointer (some ⟨g, 0, none⟩), frQ x, .pointer (some ⟨ga, 0, none⟩), .pointer (some ⟨gc, 0, none⟩), .pointer (some ⟨gf, 0, none⟩)] w fun r w' => PtR (envO up A C x) g ok w r w' := by
  have AT1 := hid (fun w h hz hk => at_any A x va hA hdA hx g ok w h hz hk)
  have AT2 := hid (fun k1 w h hz hk => at_any C x vc hC hdC hx g k1 w h hz hk)
  have HSC := hid (fun V1 V2 h1 h2 => env_cal up A C x ok V1 V2 h1 h2)
  have eP := choose_enter up
  have CH := hid (fun y z hy hz w => choose_any up y z hy hz w)
  have HPK := hid (fun y z => pick_choose up y z)
  generalize chooseF up = fp at kgf eP CH
  obtain ⟨aa, ca, rfl, -⟩ := id hpa
  obtain ⟨ac, cc, rfl, -⟩ := id hpc
  unfold frQ at AT1 AT2 ⊢
  have k0 := (Blk.new w #[.int .i64 x.num, .int .i64 (x.den : Int)] 31).alloc (.cells #[.int .i64 0, .int .i64 0, .int .i64 0, .int .i64 0] 44)
  have k1 := Blk.new (w.alloc (.cells #[.int .i64 x.num, .int .i64 (x.den : Int)] 31)) #[.int .i64 0, .int .i64 0, .int .i64 0, .int .i64 0] 44
  have b0 := ((Below.refl w.heap.size w).alloc (Nat.le_refl _) (.cells #[.int .i64 x.num, .int .i64 (x.den : Int)] 31)).alloc (by simp) (.cells #[.int .i64 0, .int .i64 0, .int .i64 0, .int .i64 0] 44)
  rw [World.size_alloc] at k1
  have c0 := k0.look 0 rfl
  have c1 := k0.look 1 rfl
  have c2 := (kga.below b0).look 0 rfl
  go_enter Tryz.func105, Tryz.ntmps105
  go_wp2_with fail
  obtain ⟨w0, hw0⟩ : ∃ w0, (w.alloc (.cells #[.int .i64 x.num, .int .i64 (x.den : Int)] 31)).alloc (.cells #[.int .i64 0, .int .i64 0, .int .i64 0, .int .i64 0] 44) = w0 := ⟨_, rfl⟩
  rw [hw0] at k0 k1 b0 ⊢
  clear hw0 c0 c1 c2
  have hg : g < w.heap.size := hk.lt
  refine (AT1.out _ (PsR.below hpa b0) (hz.below b0) (CalB.below hk b0)).mono ?_
  rintro r w1 ⟨⟨V1, rfl, hf1, hv1⟩, hk1, ht1⟩
  have hsc := fun V2 h2 => HSC.out V1 V2 hv1 h2
  obtain ⟨K1, hK1⟩ : ∃ k, calK ok (atO A x) = k := ⟨_, rfl⟩
  rw [hK1] at hk1 hsc
  have AT3 := hid (AT2.out K1)
  have HSC2 := hid hsc
  clear AT1 AT2 HSC hv1 hsc hK1
  have t01 := (calT_pre g).trans (CalT.of_below b0) ht1
  have kx1 := CalT.blk ht1 k0 (by omega)
  have kr1 := CalT.blk ht1 k1 (by omega)
  have kc1 := CalT.blk ht1 (kgc.below b0) hgc
  have kf1 := CalT.blk ht1 (kgf.below b0) hgf
  have hz1 := (hz.below b0).calT (CalB.below hk b0) ht1
  have ps1 := (PsR.below hpc b0).calT (CalB.below hk b0) ht1
  clear k0 k1 kga kgc kgf hz hk hpa hpc b0 ht1
  unfold frQ
  have kV := Blk.new w1 #[.int .i64 V1.num, .int .i64 (V1.den : Int)] 31
  have ba := alloc_below w1 (.cells #[.int .i64 V1.num, .int .i64 (V1.den : Int)] 31)
  have tA := CalT.alloc t01 (.cells #[.int .i64 V1.num, .int .i64 (V1.den : Int)] 31)
  have kxA := kx1.below ba
  have krA := kr1.below ba
  have kcA := kc1.below ba
  have kfA := kf1.below ba
  have hkA := CalB.below hk1 ba
  have hzA := hz1.below ba
  have psA := PsR.below ps1 ba
  have hg1 : g < w1.heap.size := hk1.lt
  have c0 := kxA.look 0 rfl
  have c1 := kxA.look 1 rfl
  have c2 := kcA.look 0 rfl
  clear kx1 kr1 kc1 kf1 hk1 hz1 ps1 t01 ba
  go_wp2_with fail
  obtain ⟨W, hW⟩ : ∃ W, w1.alloc (.cells #[.int .i64 V1.num, .int .i64 (V1.den : Int)] 31) = W := ⟨_, rfl⟩
  obtain ⟨gv, hgv⟩ : ∃ k, w1.heap.size = k := ⟨_, rfl⟩
  rw [hW] at kV kxA krA kcA kfA hkA hzA psA tA ⊢
  rw [hgv] at kV hg1 ⊢
  clear hW hgv c0 c1 c2
  refine (AT3.out _ psA hzA hkA).mono ?_
  rintro r w3 ⟨⟨V2, rfl, hf2, hv2⟩, hk3, ht3⟩
  have hsc := HSC2.out V2 hv2
  rw [hsc.1] at hk3
  have hout := hsc.2
  obtain ⟨K3, hK3⟩ : ∃ k, (ok && (envO up A C x).isSome) = k := ⟨_, rfl⟩
  rw [hK3] at hk3 hout
  rw [HPK.out V1 V2] at hout
  have HK3 := hid hK3
  have CH2 := hid (CH.out V1 V2 hf1 hf2)
  have t3 := (calT_pre g).trans tA ht3
  have kx3 := CalT.blk ht3 kxA (by omega)
  have kr3 := CalT.blk ht3 krA (by omega)
  have kf3 := CalT.blk ht3 kfA hgf
  have kV3 := CalT.blk ht3 kV (by omega)
  have hgv3 := kV3.lt
  have hx3 := kx3.lt
  clear AT3 HSC2 hsc hv2 hK3 psA hzA hkA kxA krA kcA kfA kV tA ht3 CH HPK
  unfold frQ at CH2 ⊢
  have kS := Blk.new w3 #[.int .i64 V2.num, .int .i64 (V2.den : Int)] 31
  have bS := alloc_below w3 (.cells #[.int .i64 V2.num, .int .i64 (V2.den : Int)] 31)
  have t4 := CalT.alloc t3 (.cells #[.int .i64 V2.num, .int .i64 (V2.den : Int)] 31)
  have kx4 := kx3.below bS
  have kr4 := kr3.below bS
  have kf4 := kf3.below bS
  have kV4 := kV3.below bS
  have hk4 := CalB.below hk3 bS
  have c0 := kf4.look 0 rfl
  have c1 := kV4.look 0 rfl
  have c2 := kV4.look 1 rfl
  clear kx3 kr3 kf3 kV3 hk3 t3 bS
  go_wp2_with fail
  refine CH2.out _ |>.mono ?_
  rintro r w7 ⟨rfl, hb7⟩
  have kx7 := kx4.below hb7
  have kr7 := kr4.below hb7
  have kV7 := kV4.below hb7
  have kS7' := kS.below hb7
  have hk7 := CalB.below hk4 hb7
  have t7 := (calT_pre g).trans t4 (CalT.of_below hb7)
  have hne : w.heap.size + 1 ≠ g := by omega
  clear CH2 hb7 kx4 kr4 kf4 kV4 kS hk4 t4 c0 c1 c2
  cases hch : chooseB up V1 V2 with
  | true =>
    have hout2 := hout
    rw [hch] at hout2
    have HOUT : Hid (K3 = true → envO up A C x = some (x, V1)) := hid hout2
    clear hout hout2 hch kS7'
    have kS7 := kV7
    clear kV7
    obtain ⟨V3, hV3⟩ : ∃ v, V1 = v := ⟨_, rfl⟩
    rw [hV3] at kS7 HOUT ⊢
    clear hV3
    obtain ⟨n1, hn1⟩ : ∃ n, x.num = n := ⟨_, rfl⟩
    obtain ⟨d1, hd1⟩ : ∃ n, (x.den : Int) = n := ⟨_, rfl⟩
    obtain ⟨n, hn⟩ : ∃ n, V3.num = n := ⟨_, rfl⟩
    obtain ⟨d, hd⟩ : ∃ n, (V3.den : Int) = n := ⟨_, rfl⟩
    have HPV : Hid (ptQ (x, V3) = .agg #[.int .i64 n1, .int .i64 d1, .int .i64 n, .int .i64 d]) := hid (by unfold ptQ; rw [← hn1, ← hd1, ← hn, ← hd])
    have a0 := kx7.look 0 rfl
    have a1 := kx7.look 1 rfl
    have b0 := kS7.look 0 rfl
    have b1 := kS7.look 1 rfl
    rw [hn1] at a0
    rw [hd1] at a1
    rw [hn] at b0
    rw [hd] at b1
    have q0 := kr7.look 0 rfl
    have q1 := kr7.look 1 rfl
    have q2 := kr7.look 2 rfl
    have q3 := kr7.look 3 rfl
    have f2 := kr7.frozen
    have k24 := (((kr7.set 0 (.int .i64 n1)).set 1 (.int .i64 d1)).set 2 (.int .i64 n)).set 3 (.int .i64 d)
    have F1 := hid (Blk.other (Blk.other (Blk.other (Blk.other hk7 (p := ⟨w.heap.size + 1, 0, none⟩) (Ne.symm hne) (.int .i64 n1)) (p := ⟨w.heap.size + 1, 1, none⟩) (Ne.symm hne) (.int .i64 d1)) (p := ⟨w.heap.size + 1, 2, none⟩) (Ne.symm hne) (.int .i64 n)) (p := ⟨w.heap.size + 1, 3, none⟩) (Ne.symm hne) (.int .i64 d))
    have hS1 : w.heap.size ≤ w.heap.size + 1 := by omega
    have F2 := hid ((((t7.setOwn (p := ⟨w.heap.size + 1, 0, none⟩) hS1 (.int .i64 n1)).setOwn (p := ⟨w.heap.size + 1, 1, none⟩) hS1 (.int .i64 d1)).setOwn (p := ⟨w.heap.size + 1, 2, none⟩) hS1 (.int .i64 n)).setOwn (p := ⟨w.heap.size + 1, 3, none⟩) hS1 (.int .i64 d))
    have R0 := hid (show _ = some (Value.int .i64 n1) from k24.look 0 rfl)
    have R1 := hid (show _ = some (Value.int .i64 d1) from k24.look 1 rfl)
    have R2 := hid (show _ = some (Value.int .i64 n) from k24.look 2 rfl)
    have R3 := hid (show _ = some (Value.int .i64 d) from k24.look 3 rfl)
    clear hn1 hd1 hn hd hk7 kr7 k24 t7 kx7 kS7 hS1
    go_wp2
    refine bodyPost_ret (v := .agg #[.int .i64 n1, .int .i64 d1, .int .i64 n, .int .i64 d]) ?_ rfl ⟨⟨(x, V3), by rw [HPV.out], fun hh => HOUT.out (by rw [← HK3.out]; exact hh)⟩, by rw [HK3.out]; exact F1.out, F2.out⟩
    have r0 := R0.out
    have r1 := R1.out
    have r2 := R2.out
    have r3 := R3.out
    simp [results, Tryz.results105, go_sem, r0, r1, r2, r3]
  | false =>
    have hout2 := hout
    rw [hch] at hout2
    have HOUT : Hid (K3 = true → envO up A C x = some (x, V2)) := hid hout2
    clear hout hout2 hch kV7
    have kS7 := kS7'
    clear kS7'
    obtain ⟨V3, hV3⟩ : ∃ v, V2 = v := ⟨_, rfl⟩
    rw [hV3] at kS7 HOUT ⊢
    clear hV3
    obtain ⟨n1, hn1⟩ : ∃ n, x.num = n := ⟨_, rfl⟩
    obtain ⟨d1, hd1⟩ : ∃ n, (x.den : Int) = n := ⟨_, rfl⟩
    obtain ⟨n, hn⟩ : ∃ n, V3.num = n := ⟨_, rfl⟩
    obtain ⟨d, hd⟩ : ∃ n, (V3.den : Int) = n := ⟨_, rfl⟩
    have HPV : Hid (ptQ (x, V3) = .agg #[.int .i64 n1, .int .i64 d1, .int .i64 n, .int .i64 d]) := hid (by unfold ptQ; rw [← hn1, ← hd1, ← hn, ← hd])
    have a0 := kx7.look 0 rfl
    have a1 := kx7.look 1 rfl
    have b0 := kS7.look 0 rfl
    have b1 := kS7.look 1 rfl
    rw [hn1] at a0
    rw [hd1] at a1
    rw [hn] at b0
    rw [hd] at b1
    have q0 := kr7.look 0 rfl
    have q1 := kr7.look 1 rfl
    have q2 := kr7.look 2 rfl
    have q3 := kr7.look 3 rfl
    have f2 := kr7.frozen
    have k24 := (((kr7.set 0 (.int .i64 n1)).set 1 (.int .i64 d1)).set 2 (.int .i64 n)).set 3 (.int .i64 d)
    have F1 := hid (Blk.other (Blk.other (Blk.other (Blk.other hk7 (p := ⟨w.heap.size + 1, 0, none⟩) (Ne.symm hne) (.int .i64 n1)) (p := ⟨w.heap.size + 1, 1, none⟩) (Ne.symm hne) (.int .i64 d1)) (p := ⟨w.heap.size + 1, 2, none⟩) (Ne.symm hne) (.int .i64 n)) (p := ⟨w.heap.size + 1, 3, none⟩) (Ne.symm hne) (.int .i64 d))
    have hS1 : w.heap.size ≤ w.heap.size + 1 := by omega
    have F2 := hid ((((t7.setOwn (p := ⟨w.heap.size + 1, 0, none⟩) hS1 (.int .i64 n1)).setOwn (p := ⟨w.heap.size + 1, 1, none⟩) hS1 (.int .i64 d1)).setOwn (p := ⟨w.heap.size + 1, 2, none⟩) hS1 (.int .i64 n)).setOwn (p := ⟨w.heap.size + 1, 3, none⟩) hS1 (.int .i64 d))
    have R0 := hid (show _ = some (Value.int .i64 n1) from k24.look 0 rfl)
    have R1 := hid (show _ = some (Value.int .i64 d1) from k24.look 1 rfl)
    have R2 := hid (show _ = some (Value.int .i64 n) from k24.look 2 rfl)
    have R3 := hid (show _ = some (Value.int .i64 d) from k24.look 3 rfl)
    clear hn1 hd1 hn hd hk7 kr7 k24 t7 kx7 kS7 hS1
    go_wp2
    refine bodyPost_ret (v := .agg #[.int .i64 n1, .int .i64 d1, .int .i64 n, .int .i64 d]) ?_ rfl ⟨⟨(x, V3), by rw [HPV.out], fun hh => HOUT.out (by rw [← HK3.out]; exact hh)⟩, by rw [HK3.out]; exact F1.out, F2.out⟩
    have r0 := R0.out
    have r1 := R1.out
    have r2 := R2.out
    have r3 := R3.out
    simp [results, Tryz.results105, go_sem, r0, r1, r2, r3]

end Go.Proofs.YtfkclcoipadhmaaGreatDoor
