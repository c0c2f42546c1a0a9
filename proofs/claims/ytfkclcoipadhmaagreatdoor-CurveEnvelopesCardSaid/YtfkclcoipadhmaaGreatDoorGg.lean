/- Walk of curve.compared. -/
import Derived.Test.YtfkclcoipadhmaaGreatDoorGo
import Derived.Deep.Cut
import Derived.Deep.CutRange
namespace Go.Proofs.YtfkclcoipadhmaaGreatDoor
open Go.RowKit
attribute [local irreducible] seqS seqST walkV walkJ

set_option maxHeartbeats 8000000 in
set_option maxRecDepth 100000 in
theorem compared_any (c d : List P4) (vc vd : Value) (w : World) (hc : P4R 0 w vc c) (hd : P4R 0 w vd d) (hz : Z0 w) :
    Calls Tryz.prog 75 #[vc, vd] w fun r w' => CmpR c d w r w' := by
  obtain ⟨ac, cc, rfl, -⟩ := id hc
  obtain ⟨ad, cd, rfl, -⟩ := id hd
  have kR := Blk.new w #[.slice none 0 0, .slice none 0 0, .slice none 0 0, .slice none 0 0] 70
  have bR := alloc_below w (.cells #[.slice none 0 0, .slice none 0 0, .slice none 0 0, .slice none 0 0] 70)
  have CO := hid (fun w hc hd hz => common_any c d (.slice ac c.length cc) (.slice ad d.length cd) w hc hd hz)
  obtain ⟨w0, hw0⟩ : ∃ W, w.alloc (.cells #[.slice none 0 0, .slice none 0 0, .slice none 0 0, .slice none 0 0] 70) = W := ⟨_, rfl⟩
  have HW0 := hid hw0
  rw [hw0] at kR bR
  clear hw0
  go_enter Tryz.func75, Tryz.ntmps75
  go_wp2_with fail
  rw [HW0.out]
  refine (CO.out _ (hc.below bR) (hd.below bR) (hz.below bR)).mono ?_
  rintro r w1 ⟨⟨vl, rfl, hvl⟩, hb1⟩
  have hB1 := bR.trans (hb1.mono bR.size)
  have kR1 := kR.below hb1
  have hc1 := (hc.below bR).below hb1
  have hd1 := (hd.below bR).below hb1
  have hz1 := (hz.below bR).below hb1
  have hs1 := hB1.size
  have hs0 : w.heap.size + 1 ≤ w1.heap.size := kR1.lt
  clear CO hb1 kR bR hc hd hz
  by_cases h0 : comE c d = 0
  case neg =>
    have e1 : cmpE c d = comE c d := if_neg h0
    have HN0 : Hid (cmpE c d ≠ 0) := hid (by rw [e1]; exact h0)
    have HE1 := hid e1
    obtain ⟨al, cl, rfl, -⟩ := hvl
    have hb : (comE c d == 0) = false := by simpa using h0
    have hb' : (comE c d != 0) = true := by simpa using h0
    obtain ⟨E, hE⟩ : ∃ E, comE c d = E := ⟨_, rfl⟩
    rw [hE] at hb hb' HE1 h0 ⊢
    have q0 := kR1.look 0 rfl
    have q1 := kR1.look 1 rfl
    have q2 := kR1.look 2 rfl
    have q3 := kR1.look 3 rfl
    have f2 := kR1.frozen
    have k24 := hid ((((kR1.set 0 (.slice none 0 0)).set 1 (.slice none 0 0)).set 2 (.slice none 0 0)).set 3 (.slice none 0 0))
    have F2 := hid (Below.setCell (Below.setCell (Below.setCell (Below.setCell hB1 (p := ⟨w.heap.size, 0, none⟩) (Nat.le_refl _) (.slice none 0 0)) (p := ⟨w.heap.size, 1, none⟩) (Nat.le_refl _) (.slice none 0 0)) (p := ⟨w.heap.size, 2, none⟩) (Nat.le_refl _) (.slice none 0 0)) (p := ⟨w.heap.size, 3, none⟩) (Nat.le_refl _) (.slice none 0 0))
    clear hE e1 kR1 hB1 hc1 hd1 hz1
    go_wp2
    refine bodyPost_ret (v := .tuple #[.agg #[.slice none 0 0, .slice none 0 0, .slice none 0 0, .slice none 0 0], .int .i64 E]) ?_ rfl ⟨⟨none, 0, 0, none, 0, 0, none, 0, 0, none, 0, 0, by rw [HE1.out], fun h => absurd h HN0.out⟩, F2.out⟩
    have r0 := k24.out.look 0 rfl
    have r1 := k24.out.look 1 rfl
    have r2 := k24.out.look 2 rfl
    have r3 := k24.out.look 3 rfl
    simp [results, Tryz.results75, go_sem, r0, r1, r2, r3]
  obtain ⟨hrc, hrd, hlen, hL⟩ := comE_zero h0
  rw [h0]
  rw [hL] at hvl
  have pc := P4R.toQ hc1 hrc
  have pd := P4R.toQ hd1 hrd
  have vc := rv_cv hrc
  have vd := rv_cv hrd
  have HMEM := hid (fun x hx => comG_mem (x := x) vc vd hx)
  have HVC := hid vc
  have HVD := hid vd
  have hce : cmpE c d = match cmpG c d with | some g => if 48 < g.1.length then 3 else 0 | none => 5 := if_pos h0
  have hcd : cmpD c d = valsO (dffO (toQ c) (toQ d)) (comG (toQ c) (toQ d)) (comG (toQ c) (toQ d)).length := rfl
  have hcg : cmpG c d = (cmpD c d).bind fun l => grdO (comG (toQ c) (toQ d)) l (comG (toQ c) (toQ d)).length := rfl
  have hca : cmpA c d = (cmpG c d).getD ([], []) := rfl
  have hcv : cmpV c d = (cmpD c d).getD [] := rfl
  have HCE := hid hce
  have HCA := hid hca
  have HCV := hid hcv
  have hris : Rising (comG (toQ c) (toQ d)) := (gridQ_grid _ _).1
  obtain ⟨G, hG⟩ : ∃ G, comG (toQ c) (toQ d) = G := ⟨_, rfl⟩
  rw [hG] at hvl hlen HMEM hcd hcg hris
  have HGE := hid hG
  obtain ⟨n, hn⟩ : ∃ n, G.length = n := ⟨_, rfl⟩
  rw [hn] at hlen hcd hcg
  have HCD := hid hcd
  have HCG := hid hcg
  have HRIS := hid hris
  have HN := hid hn
  have HVL := hid hvl
  obtain ⟨al, cl, rfl, hcl1, hcl2, hll⟩ := hvl
  unfold maxLen at hcl2
  rw [hn] at hcl1 HVL ⊢
  have HLL := hid hll
  have HPC := hid pc
  have HPD := hid pd
  have HZ := hid hz1
  have HB1 := hid hB1
  have HKR := hid kR1
  clear hce hcd hcg hca hcv hris hG hn hrc hrd vc vd pc pd hll hc1 hd1 hz1 hB1 kR1 h0 hL
  have HGE0 := HGE
  generalize toQ c = C at HPC HVC HMEM HCD HCG HGE
  generalize toQ d = D at HPD HVD HMEM HCD HCG HGE
  obtain ⟨g8, hg8⟩ : ∃ k, w1.heap.size = k := ⟨_, rfl⟩
  have k8 := (Blk.new w1 #[.slice al n cl, .slice none 0 0, .slice none 0 0, .slice none 0 0] 70).alloc (.cells #[.int .i64 0] 59)
  have k9 := Blk.new (w1.alloc (.cells #[.slice al n cl, .slice none 0 0, .slice none 0 0, .slice none 0 0] 70)) #[.int .i64 0] 59
  have bL := ((Below.refl w1.heap.size w1).alloc (Nat.le_refl _) (.cells #[.slice al n cl, .slice none 0 0, .slice none 0 0, .slice none 0 0] 70)).alloc (by simp) (.cells #[.int .i64 0] 59)
  rw [World.size_alloc] at k9
  obtain ⟨wL, hwL⟩ : ∃ W, (w1.alloc (.cells #[.slice al n cl, .slice none 0 0, .slice none 0 0, .slice none 0 0] 70)).alloc (.cells #[.int .i64 0] 59) = W := ⟨_, rfl⟩
  have hsL : wL.heap.size = g8 + 2 := by rw [← hwL, ← hg8]; simp
  rw [hwL, hg8] at k8 k9 bL
  have HWL := hid hwL
  have HG8 := hid hg8
  have HSL := hid hsL
  have K8 := hid k8
  have K9 : Hid (CalB wL (g8 + 1) true) := hid k9
  have BL := hid bL
  rw [hg8] at hs1 hs0
  clear k8 k9 bL hwL hg8 hsL
  go_wp2_with fail
  rw [HWL.out, HG8.out]
  obtain ⟨g9, hg9⟩ : ∃ k, g8 + 1 = k := ⟨_, rfl⟩
  have H89 : g8 < g9 := by omega
  rw [hg9] at K9 ⊢
  obtain ⟨B1, hB1e⟩ : ∃ k, g8 + 2 = k := ⟨_, rfl⟩
  have H9B : g9 < B1 := by omega
  rw [hB1e] at HSL
  clear hg9 hB1e
  go_loopw [31] (fun x wr => ∃ (i : Nat) (ok : Bool) (o : List Rat) (u : Value), x = .int .i64 i ∧ i ≤ n ∧ ok = (valsO (dffO C D) G i).isSome ∧ Hid (ok = true → valsO (dffO C D) G i = some o) ∧ o.length = i ∧ Hid (∀ q ∈ o, fits q) ∧ Hid (Blk wr g8 #[.slice al n cl, u, .slice none 0 0, .slice none 0 0] 70) ∧ Hid (wr.ownsRow B1 31 2 u i (frsC o)) ∧ Hid (CalB wr g9 ok) ∧ Hid (Below g8 w1 wr) ∧ B1 ≤ wr.heap.size) (fun x _ => n - (intOf x).toNat)
  case atStart => exact ⟨0, true, [], .slice none 0 0, rfl, Nat.zero_le _, rfl, hid (fun _ => rfl), rfl, hid (fun q hq => by cases hq), K8, hid (World.ownsRow_nil _ _ _ _), K9, BL, Nat.le_of_eq HSL.out.symm⟩
  case round =>
    clear K8 K9 BL
    obtain ⟨i, ok, o, u, rfl, hi, hok, HOKS, hol, HOF, HK8, HO, HK, HBE, hsr⟩ := hrel
    have hbel := HBE.out
    have hzr : Z0 wr := HZ.out.below (by rw [HG8.out]; exact hbel)
    obtain ⟨au, cu, rfl, -⟩ := id (SlR.of_owns HO.out)
    by_cases hin : i < n
    case pos =>
      have hi2 : (i : Int) < (n : Int) := by omega
      obtain ⟨b, off, rfl, hb, x0, x1⟩ := q_cell HLL.out (show i < G.length by rw [HN.out]; exact hin)
      rw [HG8.out] at hb
      replace x0 := (hbel.cell (p := ⟨b, off + i * 2, none⟩) hb).trans x0
      replace x1 := (hbel.cell (p := ⟨b, off + i * 2 + 1, none⟩) hb).trans x1
      obtain ⟨i1, i2, hxf⟩ := HMEM.out (G.getD i 0) (getD_memQ (by rw [HN.out]; exact hin))
      have hst := fun p h2 => valsO_step (p := p) hok HOKS.out h2
      obtain ⟨x, hx⟩ : ∃ x, G.getD i 0 = x := ⟨_, rfl⟩
      rw [hx] at x0 x1 i1 i2 hxf hst
      have AT1 := hid (fun w h hz hk => at_any D x (.slice ad d.length cd) HVD.out i2 hxf g9 ok w h hz hk)
      have AT2 := hid (fun w h hz hk => at_any C x (.slice ac c.length cc) HVC.out i1 hxf g9 (calK ok (atO D x)) w h hz hk)
      have HDC := hid (fun V1 V2 h1 h2 => dff_cal C D x ok V1 V2 h1 h2)
      have HST := hid hst
      have HOL := hid hol
      obtain ⟨n1, hn1⟩ : ∃ z, x.num = z := ⟨_, rfl⟩
      obtain ⟨d1, hd1⟩ : ∃ z, (x.den : Int) = z := ⟨_, rfl⟩
      unfold frQ at AT1 AT2
      rw [hn1] at x0
      rw [hd1] at x1
      rw [hn1, hd1] at AT1 AT2
      clear hx hst hn1 hd1 i1 i2 hxf hok hol
      have kx := Blk.new wr #[.int .i64 n1, .int .i64 d1] 31
      have bA := alloc_below wr (.cells #[.int .i64 n1, .int .i64 d1] 31)
      have hBr : g8 ≤ wr.heap.size := by omega
      have hbA := hbel.trans (bA.mono hBr)
      have hzA := hzr.below bA
      have hkA := CalB.below HK.out bA
      have k8A := HK8.out.below bA
      have hoA := owns_below HO.out bA
      have hgx : wr.heap.size ≠ g9 := by omega
      have hsA : B1 ≤ (wr.alloc (.cells #[.int .i64 n1, .int .i64 d1] 31)).heap.size := Nat.le_trans hsr bA.size
      go_wp2_with fail
      refine (AT1.out _ (PsR.below HPD.out (by rw [HG8.out]; exact hbA)) hzA hkA).mono ?_
      rintro r w3 ⟨⟨V1, rfl, hf1, hv1⟩, hk3, ht3⟩
      have kx3 := CalT.blk ht3 kx hgx
      have k83 := CalT.blk ht3 k8A (by omega)
      have ho3 := owns_calT ht3 hoA H9B
      have hz3 := hzA.calT hkA ht3
      have hb3 := CalT.below hbA ht3 (by omega) (by omega)
      have hs3 : B1 ≤ w3.heap.size := Nat.le_trans hsA ht3.size
      have hdc := fun V2 h2 => HDC.out V1 V2 hv1 h2
      obtain ⟨K1, hK1⟩ : ∃ k, calK ok (atO D x) = k := ⟨_, rfl⟩
      rw [hK1] at hk3 hdc AT2
      have HDC2 := hid hdc
      clear AT1 bA kx hbA hzA hkA k8A hoA ht3 x0 x1 hzr hbel hsr HK HK8 HO HBE hBr hsA hv1 hdc hK1 HDC
      unfold frQ
      have kV := Blk.new w3 #[.int .i64 V1.num, .int .i64 (V1.den : Int)] 31
      have bC := alloc_below w3 (.cells #[.int .i64 V1.num, .int .i64 (V1.den : Int)] 31)
      have kx4 := kx3.below bC
      have k84 := k83.below bC
      have ho4 := owns_below ho3 bC
      have hz4 := hz3.below bC
      have hk4 := CalB.below hk3 bC
      have hb4 := hb3.trans (bC.mono (by omega))
      have hs4 := Nat.le_trans hs3 bC.size
      have hgv : w3.heap.size ≠ g9 := by omega
      go_wp2_with fail
      obtain ⟨W, hW⟩ : ∃ W, w3.alloc (.cells #[.int .i64 V1.num, .int .i64 (V1.den : Int)] 31) = W := ⟨_, rfl⟩
      obtain ⟨gv, hgve⟩ : ∃ g, w3.heap.size = g := ⟨_, rfl⟩
      obtain ⟨gx, hgxe⟩ : ∃ g, wr.heap.size = g := ⟨_, rfl⟩
      rw [hW] at kV kx4 k84 ho4 hz4 hk4 hb4 hs4 ⊢
      rw [hgve] at kV hgv ⊢
      rw [hgxe] at kx4 hgx ⊢
      clear hW hgve hgxe bC kx3 k83 ho3 hz3 hk3 hb3 hs3
      have hd : CalT g9 W W.drew := CalT.of_below (Below.refl W.heap.size W).drew
      have tx := fun y : SubT (CalT g9) W.drew => (calT_pre g9).trans hd y.b
      have z0 := fun y : SubT (CalT g9) W.drew => (CalT.blk (tx y) k84 (by omega)).look 1 rfl
      have z1 := fun y : SubT (CalT g9) W.drew => (CalT.blk (tx y) kV hgv).look 0 rfl
      have z2 := fun y : SubT (CalT g9) W.drew => (CalT.blk (tx y) kV hgv).look 1 rfl
      have z3 := fun y : SubT (CalT g9) W.drew => (CalT.blk (tx y) kx4 hgx).look 0 rfl
      have z4 := fun y : SubT (CalT g9) W.drew => (CalT.blk (tx y) kx4 hgx).look 1 rfl
      clear tx
      refine wp_walkJ (T := CalT g9) (calT_pre g9) (.rd 0 (.rd 1 (.rd 2 (.rd 3 (.rd 4 (.mv 5 (.mv 6 (.mv 7 (.bt 8 (.rd 9 (.bt 10 (.inv [])))))))))))) (by kernel_rfl) rfl (by kernel_rfl) (by kernel_rfl) ?_
      iterate 5 (refine walkJ_rd rfl (fun K hK => ?_); go_simp; refine hK _ ?_; clear hK K)
      clear z0 z1 z2 z3 z4 kx4 kV
      have hbd := (Below.refl W.heap.size W).drew
      have hkd : CalB W.drew g9 K1 := CalB.below hk4 hbd
      have hzd := hz4.below hbd
      have hbw := hb4.trans (hbd.mono (show g8 ≤ W.heap.size by omega))
      (refine walkJ_mv rfl (fun K hK => ?_); go_simp; refine (AT2.out _ (PsR.below HPC.out (by rw [HG8.out]; exact hbw)) hzd hkd).mono ?_; rintro e w5 ⟨⟨V2, rfl, hf2, hv2⟩, hk5, ht5⟩; refine ⟨_, rfl, hK _ _ ht5 ?_⟩; clear hK K)
      have hz5 := hzd.calT hkd ht5
      have hdc := HDC2.out V2 hv2
      obtain ⟨K2, hK2⟩ : ∃ k, calK K1 (atO C x) = k := ⟨_, rfl⟩
      rw [hK2] at hk5 hdc
      have SB := hid (calc_sub V1 V2 hf1 hf2 g9 K2 w5 hz5 hk5)
      rw [(cop_cal K2 (V1 - V2)).1, (cop_cal K2 (V1 - V2)).2, hdc.1] at SB
      have F3 := calV_fits (ok := K2) (o := fitO (V1 - V2)) (fun r hr => (fitO_fits hr).1)
      have hstep := fun (V3 : Rat) h => HST.out V3 h
      have hs6 := hstep _ hdc.2
      obtain ⟨K3, hK3⟩ : ∃ k, (ok && (dffO C D x).isSome) = k := ⟨_, rfl⟩
      obtain ⟨V3, hV3⟩ : ∃ v, calV K2 (fitO (V1 - V2)) = v := ⟨_, rfl⟩
      rw [hK3] at SB hs6
      rw [hV3] at SB hs6 F3
      have HS6 := hid hs6
      have HF3 := hid F3
      unfold frQ at SB ⊢
      clear hdc hK2 hK3 hV3 hv2 hf1 hf2 HDC2 AT2 hstep hs6 F3
      have t5 := (calT_pre g9).trans hd ht5
      (refine walkJ_mv rfl (fun K hK => ?_); go_simp; refine SB.out.mono ?_; rintro e w6 ⟨rfl, hk6, ht6⟩; refine ⟨_, rfl, hK _ _ ht6 ?_⟩; clear hK K)
      have t6 := (calT_pre g9).trans t5 ht6
      have k86 := CalT.blk t6 k84 (by omega)
      have ho6 := owns_calT t6 ho4 H9B
      have hb6 := CalT.below hb4 t6 (by omega) (by omega)
      have hs6 : B1 ≤ w6.heap.size := Nat.le_trans hs4 t6.size
      (refine walkJ_mv rfl (fun K hK => ?_); go_simp; refine hK _ _ (CalT.of_below (alloc_below _ _)) ?_; clear hK K)
      have kN := Blk.new w6 [Value.int .i64 V3.num, Value.int .i64 (V3.den : Int)].toArray 31
      have ba6 := alloc_below w6 (.cells [Value.int .i64 V3.num, Value.int .i64 (V3.den : Int)].toArray 31)
      have k87 := k86.below ba6
      have ho7 := owns_below ho6 ba6
      have hk7 := CalB.below hk6 ba6
      have hb7 := hb6.trans (ba6.mono (by omega))
      have hs7 := Nat.le_trans hs6 ba6.size
      refine walkJ_bt rfl (fun K hK => ⟨rfl, gives_app (.tmp 39) (.tmp 45) 37 37 rfl rfl B1 31 (frV 0 0) 2 16 Tryz.underlying37 infoFrac rfl (by decide) rfl ho7 [Value.int .i64 V3.num, Value.int .i64 (V3.den : Int)] w6.heap.size kN rfl rfl (by simp [Value.oneCell']) (by unfold maxLen; omega) (by omega) (by omega) (fun g5 cap5 w8 ho8 hgr8 hbg8 => hK _ _ ?_)⟩)
      clear hK K
      (refine walkJ_rd rfl (fun K hK => ?_); go_simp; refine hK _ ?_; clear hK K)
      have hown : ∀ k, (Value.slice au i cu).ownBlock = some k → B1 ≤ k := fun k hk => (ho7.lt k hk).1
      have hk8 : CalB w8 g9 K3 := (World.grownBy.block hgr8 g9 hk7.lt (fun e => by have := hown g9 e.symm; omega)).trans hk7
      have k88 : Blk w8 g8 _ _ := (World.grownBy.block hgr8 g8 k87.lt (fun e => by have := hown g8 e.symm; omega)).trans k87
      have hb8 : Below g8 w1 w8 := hb7.grown hgr8 (by omega) (fun j hj => by have := hown j hj; omega)
      have hs8 := Nat.le_trans hs7 hgr8.size
      rw [← show frsC (o ++ [V3]) = frsC o ++ [Value.int .i64 V3.num, Value.int .i64 (V3.den : Int)] from frsC_append o [V3]] at ho8
      have q0 := k88.look 1 rfl
      have f0 := k88.frozen
      have K89 := hid (k88.set 1 (.slice (some ⟨g5, 0, none⟩) (i + 1) cap5))
      have HO9 := hid (ownsRow_setCell_below ho8 (a := ⟨g8, 1, none⟩) (show g8 < B1 by omega) (.slice (some ⟨g5, 0, none⟩) (i + 1) cap5))
      have HK9 := hid (Blk.other hk8 (p := ⟨g8, 1, none⟩) (show g9 ≠ g8 by omega) (.slice (some ⟨g5, 0, none⟩) (i + 1) cap5))
      have HB9 := hid (Below.setCell hb8 (p := ⟨g8, 1, none⟩) (Nat.le_refl g8) (.slice (some ⟨g5, 0, none⟩) (i + 1) cap5))
      have HF9 : Hid (∀ q ∈ o ++ [V3], fits q) := hid (fun q hq => by
        rcases List.mem_append.1 hq with hq | hq
        · exact HOF.out q hq
        · rw [List.mem_singleton.1 hq]; exact HF3.out)
      have hs9 : B1 ≤ (w8.setCell ⟨g8, 1, none⟩ (.slice (some ⟨g5, 0, none⟩) (i + 1) cap5)).heap.size := by simpa [World.setCell] using hs8
      have HSZ := hid hs9
      clear k88 ho8 hk8 hb8 hs8 hgr8 ho7 hk7 hb7 hs7 k87 ba6 kN ho6 hb6 hs6 k86 hk6 ht6 t6 t5 ht5 hk5 hz5 hbw hzd hkd hbd hd hk4 hz4 ho4 k84 hb4 hs4 SB hs9 hown
      (refine walkJ_bt rfl (fun K hK => ?_); go_simp; refine hK _ _ ?_; clear hK K)
      refine walkJ_nil ?_
      go_wp2
      go_roundw
      case rel => exact ⟨i + 1, K3, o ++ [V3], _, by go_num, by omega, HS6.out.1, hid HS6.out.2, by rw [List.length_append, HOL.out]; rfl, HF9, K89, HO9, HK9, HB9, HSZ.out⟩
      case measure => simp [intOf] <;> omega
    case neg =>
      obtain rfl : i = n := by omega
      have hi2 : ¬ (i : Int) < (i : Int) := by omega
      obtain ⟨B2, hB2⟩ : ∃ k, wr.heap.size = k := ⟨_, rfl⟩
      have hs2 : B1 ≤ B2 := by omega
      have HOL := hid hol
      have HD0 : Hid (GrdJ (cmpD c d) G o 0 ok [] []) := hid (GrdJ.zero (by rw [HCD.out]; exact hok) (fun h => by rw [HCD.out]; exact HOKS.out h))
      have HW2 := hid hB2
      have HSD : Hid (QsR 0 wr (.slice au i cu) o) := hid (by
        have h := SlR.mono (SlR.of_owns HO.out) (Nat.zero_le B1)
        unfold QsR
        rw [hol]
        exact h)
      clear hok HOKS hol hin hsr hB2
      go_wp2_with fail
      generalize wr = wp at *
      go_loopw [51] (fun x wx => ∃ (j : Nat) (ok2 : Bool) (L M : List Rat) (ua uo : Value), x = .int .i64 j ∧ j ≤ i ∧ Hid (GrdJ (cmpD c d) G o j ok2 L M) ∧ Hid (Blk wx g8 #[.slice al i cl, .slice au i cu, ua, uo] 70) ∧ Hid (wx.ownsRow B2 31 2 ua L.length (frsC L)) ∧ Hid (wx.ownsRow B2 31 2 uo M.length (frsC M)) ∧ (∀ k, uo.ownBlock = some k → ua.ownBlock ≠ some k) ∧ Hid (CalB wx g9 ok2) ∧ Hid (BelX g9 g8 B2 wp wx)) (fun x _ => i - (intOf x).toNat)
      case atStart => exact ⟨0, ok, [], [], .slice none 0 0, .slice none 0 0, rfl, Nat.zero_le _, HD0, HK8, hid (World.ownsRow_nil _ _ _ _), hid (World.ownsRow_nil _ _ _ _), (fun k hk => by cases hk), HK, hid (BelX.refl _ _ _ _)⟩
      case round =>
        clear HD0 HK8 HK
        obtain ⟨j, ok2, L, M, ua, uo, rfl, hj, HGJ, HK8, HOA, HOM, hdis, HKj, HBX⟩ := hrel
        have hbx := BelX.below HBE.out HBX.out (show g8 ≤ B2 by omega) (show g8 ≤ g9 by omega) (Nat.le_refl _)
        have hsx : B2 ≤ wr.heap.size := by rw [← HW2.out]; exact HBX.out.size
        obtain ⟨aa, ca, rfl, -⟩ := id (SlR.of_owns HOA.out)
        obtain ⟨am, cm, rfl, -⟩ := id (SlR.of_owns HOM.out)
        have hLl := HGJ.out.lal
        have hMl := HGJ.out.lon
        by_cases hjn : j < i
        case pos =>
          have hj2 : (j : Int) < (i : Int) := by omega
          obtain ⟨b, off, rfl, hb, x0, x1⟩ := q_cell HLL.out (show j < G.length by rw [HN.out]; exact hjn)
          rw [HG8.out] at hb
          replace x0 := (hbx.cell (p := ⟨b, off + j * 2, none⟩) hb).trans x0
          replace x1 := (hbx.cell (p := ⟨b, off + j * 2 + 1, none⟩) hb).trans x1
          have hxf := (HMEM.out (G.getD j 0) (getD_memQ (by rw [HN.out]; exact hjn))).2.2
          obtain ⟨x, hx⟩ : ∃ x, G.getD j 0 = x := ⟨_, rfl⟩
          rw [hx] at x0 x1 hxf
          have HX := hid hx
          have HXF := hid hxf
          obtain ⟨n1, hn1⟩ : ∃ z, x.num = z := ⟨_, rfl⟩
          obtain ⟨d1, hd1⟩ : ∃ z, (x.den : Int) = z := ⟨_, rfl⟩
          rw [hn1] at x0
          rw [hd1] at x1
          have HN1 := hid hn1
          have HD1 := hid hd1
          clear hx hxf hn1 hd1
          have kx := Blk.new wr #[.int .i64 n1, .int .i64 d1] 31
          have bA := alloc_below wr (.cells #[.int .i64 n1, .int .i64 d1] 31)
          have k8A := HK8.out.below bA
          have HOAa := hid (owns_below HOA.out bA)
          have q2 := k8A.look 2 rfl
          have c0 := kx.look 0 rfl
          have c1 := kx.look 1 rfl
          have hsA : B2 ≤ (wr.alloc (.cells #[.int .i64 n1, .int .i64 d1] 31)).heap.size := Nat.le_trans hsx bA.size
          have hgx : B2 ≤ wr.heap.size := hsx
          go_wp2_with (first
            | (at_builtin; refine wpList_appO rfl (.tmp 57) (.tmp 59) _ rfl B2 31 (frV 0 0) 2 16 Tryz.underlying37 infoFrac rfl (by decide) 31 _ _ _ rfl HOAa.out [.int .i64 n1, .int .i64 d1] _ (by first | rfl | simp) rfl rfl (by simp [Value.oneCell']) (by unfold maxLen; omega) (by omega) hsA ?_; intro g5 gcap w7 ho7 hb7 hgr7 hg5 hg5s hg7; have k87 := k8A.below' hb7 (show g8 < B2 by omega); have f87 := k87.frozen; have q87 := k87.look 2 rfl))
          have hgr : (wr.alloc (.cells #[.int .i64 n1, .int .i64 d1] 31)).grownBy w7 (Value.slice aa L.length ca).ownBlock := hgr7
          have hgA : (Value.slice aa L.length ca).ownBlock = some g5 ∨ wr.heap.size + 1 < g5 := hg7
          have hoM : w7.ownsRow B2 31 2 (.slice am M.length cm) M.length (frsC M) := (owns_below HOM.out bA).kept hgr (by
            cases hv : (Value.slice am M.length cm).ownBlock with
            | none => exact .inl rfl
            | some k => exact .inr (fun e => hdis k hv e.symm))
          have hk7 : CalB w7 g9 ok2 := (hb7.block g9 (show g9 < B2 by omega)).trans (CalB.below HKj.out bA)
          have hd7 : ∀ k, (Value.slice am M.length cm).ownBlock = some k → g5 ≠ k := fun k hk e => by
            rcases hgA with h | h
            · exact hdis k hk (by rw [h, e])
            · have := ((owns_below HOM.out bA).lt k hk).2
              rw [World.size_alloc] at this
              omega
          have hbx7 : BelX g9 g8 B2 wp w7 := ⟨hb7.os.trans (bA.os.trans HBX.out.os), hb7.tape.trans (bA.tape.trans HBX.out.tape), hb7.output.trans (bA.output.trans HBX.out.output), Nat.le_trans HBX.out.size (Nat.le_trans bA.size hb7.size), fun k hk h1 h2 => (hb7.block k hk).trans ((bA.block k (by omega)).trans (HBX.out.block k hk h1 h2))⟩
          have kx7 : Blk w7 wr.heap.size #[.int .i64 n1, .int .i64 d1] 31 := (World.grownBy.block hgr wr.heap.size kx.lt (fun e => by have := (HOA.out.lt wr.heap.size e.symm).2; omega)).trans kx
          have K8N := k87.set 2 (.slice (some ⟨g5, 0, none⟩) (L.length + 1) gcap)
          have hk8 := Blk.other hk7 (p := ⟨g8, 2, none⟩) (show g9 ≠ g8 by omega) (.slice (some ⟨g5, 0, none⟩) (L.length + 1) gcap)
          have ho8 := ownsRow_setCell_below ho7 (a := ⟨g8, 2, none⟩) (show g8 < B2 by omega) (.slice (some ⟨g5, 0, none⟩) (L.length + 1) gcap)
          have hoM8 := ownsRow_setCell_below hoM (a := ⟨g8, 2, none⟩) (show g8 < B2 by omega) (.slice (some ⟨g5, 0, none⟩) (L.length + 1) gcap)
          have hbx8 := hbx7.set (p := ⟨g8, 2, none⟩) rfl (.slice (some ⟨g5, 0, none⟩) (L.length + 1) gcap)
          have kx8 := Blk.other kx7 (p := ⟨g8, 2, none⟩) (show wr.heap.size ≠ g8 by omega) (.slice (some ⟨g5, 0, none⟩) (L.length + 1) gcap)
          have hs8 : B2 ≤ (w7.setCell ⟨g8, 2, none⟩ (.slice (some ⟨g5, 0, none⟩) (L.length + 1) gcap)).heap.size := by rw [← HW2.out]; exact hbx8.size
          obtain ⟨wn, hwn⟩ : ∃ W, w7.setCell ⟨g8, 2, none⟩ (.slice (some ⟨g5, 0, none⟩) (L.length + 1) gcap) = W := ⟨_, rfl⟩
          rw [hwn] at K8N hk8 ho8 hoM8 hbx8 kx8 hs8 ⊢
          rw [← show frsC (L ++ [x]) = frsC L ++ [Value.int .i64 n1, Value.int .i64 d1] from by rw [frsC_append, ← HN1.out, ← HD1.out]; rfl] at ho8
          clear hgr7 hg7 hgr hgA hwn q87 f87 k87 ho7 hb7 c0 c1 q2 x0 x1 hk7 hoM hbx7 kx7 kx k8A HOAa hsA bA
          go_cut [51, 83] from 51 to 125 (fun z t wx => z = .int .i64 (j : Int) ∧ t = .bool (!(decide (j + 1 < i) && chgB (o.getD j 0) (o.getD (j + 1) 0))) ∧ Below wn.heap.size wn wx)
          case first =>
            by_cases hj1 : j + 1 = i
            case pos =>
              have hb0 : (!(decide (j + 1 < i) && chgB (o.getD j 0) (o.getD (j + 1) 0))) = true := by rw [decide_eq_false (show ¬ j + 1 < i by omega)]; rfl
              have wJ : IntKind.i64.wrap ((j : Int) + 1) = (i : Int) := by rw [IntWalk.i64_left]; unfold wrap64; omega
              have hd := (Below.refl wn.heap.size wn).drew
              refine wp_walkJ (T := Below (wn.heap.size)) (belowV_pre _) (.rd 0 (.rd 1 (.rd 2 (.rd 3 (.rd 4 (.rd 5 (.rd 6 (.rd 7 (.rd 8 (.rd 9 (.rd 10 (.rd 12 (.rd 13 (.rd 14 (.rd 15 (.rd 16 (.rd 17 (.mv 11 (.bt 18 (.rd 19 (.rd 20 (.rd 21 (.inv []))))))))))))))))))))))) (by kernel_rfl) rfl (by kernel_rfl) (by kernel_rfl) ?_
              iterate 17 (refine walkJ_rd rfl (fun K hK => ?_); go_simp; refine hK _ ?_; clear hK K)
              (refine walkJ_sk rfl (fun K hK => ?_); go_simp; refine hK _ ?_; clear hK K)
              (refine walkJ_bs rfl (fun K hK => ?_); go_simp; refine hK _ ?_; clear hK K)
              iterate 3 (refine walkJ_rd rfl (fun K hK => ?_); go_simp; refine hK _ ?_; clear hK K)
              refine walkJ_nil ?_
              go_wp2_with fail
              go_meet
              exact ⟨rfl, by rw [hb0], hd⟩
            case neg =>
              have hj3 : j + 1 < i := by omega
              have hj4 : (j : Int) + 1 < (i : Int) := by omega
              have hj5 : 0 ≤ (j : Int) + 1 := by omega
              have hw2 := HW2.out
              have hol := HOL.out
              have hO8 : SlR B1 wn (.slice au i cu) i (frsC o) := SlR.mid (SlR.of_owns HO.out) hbx8.size (fun k hk1 hk2 => hbx8.block k (by omega) (by omega) (by omega))
              obtain ⟨ao, co, heo, hu1, hu2, hcl⟩ := hO8
              obtain ⟨rfl, -, rfl⟩ : au = ao ∧ True ∧ cu = co := by simpa using heo
              obtain ⟨bo, oo, he1, hbo, y0, y1⟩ := q_cell hcl (show j < o.length by omega)
              obtain ⟨bo', oo', he2, hbo', y2, y3⟩ := q_cell hcl (show j + 1 < o.length by omega)
              subst he1
              obtain ⟨rfl, rfl⟩ : bo = bo' ∧ oo = oo' := by simpa using he2
              clear he2 heo
              have hfp := HOF.out (o.getD j 0) (getD_memQ (by omega))
              have hfq := HOF.out (o.getD (j + 1) 0) (getD_memQ (by omega))
              have hmu := sgnI_mul (o.getD j 0) (o.getD (j + 1) 0)
              have wJ : IntKind.i64.wrap ((j : Int) + 1) = (j : Int) + 1 := by rw [IntWalk.i64_left]; unfold wrap64; omega
              have hne : ¬ (j : Int) + 1 = (i : Int) := by omega
              have hcc : (decide (j + 1 < i) && chgB (o.getD j 0) (o.getD (j + 1) 0)) = chgB (o.getD j 0) (o.getD (j + 1) 0) := by rw [decide_eq_true hj3]; rfl
              obtain ⟨p, hp⟩ : ∃ z, o.getD j 0 = z := ⟨_, rfl⟩
              obtain ⟨q, hq⟩ : ∃ z, o.getD (j + 1) 0 = z := ⟨_, rfl⟩
              rw [hp] at y0 y1 hfp hmu hcc
              rw [hq] at y2 y3 hfq hmu hcc
              have SG1 := hid (fun w => signI_any p w)
              have SG2 := hid (fun w => signI_any q w)
              have sp : -1 ≤ sgnI p ∧ sgnI p ≤ 1 := by unfold sgnI; split <;> (try split) <;> omega
              have sq : -1 ≤ sgnI q ∧ sgnI q ≤ 1 := by unfold sgnI; split <;> (try split) <;> omega
              obtain ⟨s1, hs1⟩ : ∃ z, sgnI p = z := ⟨_, rfl⟩
              obtain ⟨s2, hs2⟩ : ∃ z, sgnI q = z := ⟨_, rfl⟩
              rw [hs1] at SG1 hmu sp
              rw [hs2] at SG2 hmu sq
              have wM : IntKind.i64.wrap (s1 * s2) = s1 * s2 := by
                have : -1 ≤ s1 * s2 ∧ s1 * s2 ≤ 1 := by
                  obtain rfl | rfl | rfl : s1 = -1 ∨ s1 = 0 ∨ s1 = 1 := by omega
                  all_goals omega
                rw [IntWalk.i64_left]; unfold wrap64; omega
              unfold frQ at SG1 SG2
              have HNE : Hid ((((j : Int) + 1) == (i : Int)) = false) := hid (by simpa using hne)
              have hge : decide (s1 * s2 ≥ 0) = !chgB p q := by
                cases hc : chgB p q with
                | true =>
                  refine decide_eq_false (fun h => ?_)
                  rw [hmu.1 h] at hc
                  cases hc
                | false => exact decide_eq_true (hmu.2 hc)
              have HGE := hid hge
              have HGE2 : Hid (decide (0 ≤ s1 * s2) = !chgB p q) := hid hge
              clear hge
              have HCC := hid hcc
              obtain ⟨p1, hp1⟩ : ∃ z, p.num = z := ⟨_, rfl⟩
              obtain ⟨p2, hp2⟩ : ∃ z, (p.den : Int) = z := ⟨_, rfl⟩
              obtain ⟨q1, hq1⟩ : ∃ z, q.num = z := ⟨_, rfl⟩
              obtain ⟨q2, hq2⟩ : ∃ z, (q.den : Int) = z := ⟨_, rfl⟩
              rw [hp1] at y0 SG1
              rw [hp2] at y1 SG1
              rw [hq1] at y2 SG2
              rw [hq2] at y3 SG2
              have HB0 : Hid ((!(decide (j + 1 < i) && chgB (o.getD j 0) (o.getD (j + 1) 0))) = !chgB p q) := hid (by rw [hp, hq, hcc])
              clear hs1 hs2 hmu hcc hp hq hfp hfq hp1 hp2 hq1 hq2
              have hd := (Below.refl wn.heap.size wn).drew
              have lt8 := K8N.lt
              have z0 := fun y : SubT (Below wn.heap.size) wn.drew => ((hd.trans y.b).cell (p := ⟨g8, 1, none⟩) lt8).trans (K8N.look 1 rfl)
              have z1 := fun y : SubT (Below wn.heap.size) wn.drew => ((hd.trans y.b).cell (p := ⟨bo, oo + j * 2, none⟩) hbo).trans y0
              have z2 := fun y : SubT (Below wn.heap.size) wn.drew => ((hd.trans y.b).cell (p := ⟨bo, oo + j * 2 + 1, none⟩) hbo).trans y1
              have z3 := fun y : SubT (Below wn.heap.size) wn.drew => ((hd.trans y.b).cell (p := ⟨bo, oo + (j + 1) * 2, none⟩) hbo).trans y2
              have z4 := fun y : SubT (Below wn.heap.size) wn.drew => ((hd.trans y.b).cell (p := ⟨bo, oo + (j + 1) * 2 + 1, none⟩) hbo).trans y3
              refine wp_walkJ (T := Below (wn.heap.size)) (belowV_pre _) (.rd 0 (.rd 1 (.rd 2 (.rd 3 (.rd 4 (.rd 5 (.rd 6 (.rd 7 (.rd 8 (.rd 9 (.rd 10 (.rd 12 (.rd 13 (.rd 14 (.rd 15 (.rd 16 (.rd 17 (.mv 11 (.bt 18 (.rd 19 (.rd 20 (.rd 21 (.inv []))))))))))))))))))))))) (by kernel_rfl) rfl (by kernel_rfl) (by kernel_rfl) ?_
              iterate 17 (refine walkJ_rd rfl (fun K hK => ?_); go_simp; refine hK _ ?_; clear hK K)
              clear z0 z1 z2 z3 z4
              (refine walkJ_mv rfl (fun K hK => ?_); go_simp; refine (SG1.out _).mono ?_; rintro e w9 ⟨rfl, hb9⟩; refine ⟨_, rfl, hK _ _ hb9 ?_⟩; clear hK K)
              (refine walkJ_bt rfl (fun K hK => ?_); go_simp; refine (SG2.out _).mono ?_; rintro e w10 ⟨rfl, hb10⟩; refine ⟨_, rfl, hK _ _ ?_⟩; clear hK K)
              iterate 3 (refine walkJ_rd rfl (fun K hK => ?_); go_simp; refine hK _ ?_; clear hK K)
              refine walkJ_nil ?_
              have hbB : Below wn.heap.size wn w10 := (hd.trans (hb9.mono hd.size)).trans (hb10.mono (Nat.le_trans hd.size hb9.size))
              have HBB := hid hbB
              clear hd hb9 hb10 hbB
              go_wp2_with fail
              go_meet
              exact ⟨rfl, by rw [HB0.out]; (first | rw [HGE.out] | rw [HGE2.out]); rw [HNE.out, Bool.false_or], HBB.out⟩
          case rest =>
            obtain ⟨rfl, rfl, hb8⟩ := hcut
            have hXe := HX.out
            have HJ := HGJ.out
            have K8C : Hid (Blk wc g8 #[.slice (some ⟨b, off, none⟩) i cl, .slice au i cu, .slice (some ⟨g5, 0, none⟩) (L.length + 1) gcap, .slice am M.length cm] 70) := hid (K8N.below hb8)
            have HKC : Hid (CalB wc g9 ok2) := hid (CalB.below hk8 hb8)
            have HOC := hid (owns_below ho8 hb8)
            have HMC := hid (owns_below hoM8 hb8)
            have HBC : Hid (BelX g9 g8 B2 wp wc) := hid (BelX.of_belG hbx8 (BelG.of_below hb8 hs8))
            have HXC := hid (kx8.below hb8)
            have hd8 : ∀ k, (Value.slice am M.length cm).ownBlock = some k → (Value.slice (some ⟨g5, 0, none⟩) (L.length + 1) gcap).ownBlock ≠ some k := fun k hk e => hd7 k hk (Option.some.inj e)
            have hsC : B2 ≤ wc.heap.size := Nat.le_trans hs8 hb8.size
            clear K8N hk8 ho8 hoM8 hbx8 kx8 hb8 hs8 hd7
            cases hcb : (decide (j + 1 < i) && chgB (o.getD j 0) (o.getD (j + 1) 0)) with
            | false =>
              have HG1 : Hid (GrdJ (cmpD c d) G o (j + 1) ok2 (L ++ [x]) M) := hid (by
                have h := HJ.no (by rw [hXe]; exact HXF.out) (fun h => by
                  rw [HN.out] at h
                  rw [decide_eq_true h.1, h.2] at hcb
                  cases hcb)
                rw [hXe] at h
                exact h)
              clear hcb hXe HJ
              go_wp2
              go_roundw
              case rel => exact ⟨j + 1, ok2, L ++ [x], M, _, _, by go_num, by omega, HG1, K8C, by rw [List.length_append]; exact HOC, HMC, hd8, HKC, HBC⟩
              case measure => simp [intOf] <;> omega
            | true =>
              obtain ⟨hj3, hch⟩ : j + 1 < i ∧ chgB (o.getD j 0) (o.getD (j + 1) 0) = true := by
                rw [Bool.and_eq_true] at hcb
                exact ⟨of_decide_eq_true hcb.1, hcb.2⟩
              clear hcb
              have hj5 : 0 ≤ (j : Int) + 1 := by omega
              have hj4 : (j : Int) + 1 < (i : Int) := by omega
              have wJ : IntKind.i64.wrap ((j : Int) + 1) = (j : Int) + 1 := by rw [IntWalk.i64_left]; unfold wrap64; omega
              have hw2 := HW2.out
              have hol := HOL.out
              have hbc := HBC.out
              have hnn := HN.out
              have hg8e := HG8.out
              have hbelc := BelX.below HBE.out hbc (show g8 ≤ B2 by omega) (show g8 ≤ g9 by omega) (Nat.le_refl _)
              have hO9 : SlR B1 wc (.slice au i cu) i (frsC o) := SlR.mid (SlR.of_owns HO.out) hbc.size (fun k hk1 hk2 => hbc.block k (by omega) (by omega) (by omega))
              obtain ⟨ao, co, heo, -, -, hcl⟩ := hO9
              obtain ⟨rfl, -, rfl⟩ : au = ao ∧ True ∧ cu = co := by simpa using heo
              obtain ⟨bo, oo, he1, hlo, hbo, y0, y1⟩ := q_cellB hcl (show j < o.length by omega)
              obtain ⟨bo', oo', he2, -, -, y2, y3⟩ := q_cellB hcl (show j + 1 < o.length by omega)
              subst he1
              obtain ⟨rfl, rfl⟩ : bo = bo' ∧ oo = oo' := by simpa using he2
              obtain ⟨bl, ol, he3, hbl, y4, y5⟩ := q_cell HLL.out (show j + 1 < G.length by omega)
              obtain ⟨rfl, rfl⟩ : b = bl ∧ off = ol := by simpa using he3
              rw [hg8e] at hbl
              replace y4 := (hbelc.cell (p := ⟨b, off + (j + 1) * 2, none⟩) hbl).trans y4
              replace y5 := (hbelc.cell (p := ⟨b, off + (j + 1) * 2 + 1, none⟩) hbl).trans y5
              clear he2 he3 heo hcl
              have hfp := HOF.out (o.getD j 0) (getD_memQ (by omega))
              have hfq := HOF.out (o.getD (j + 1) 0) (getD_memQ (by omega))
              have hfz := (HMEM.out (G.getD (j + 1) 0) (getD_memQ (by omega))).2.2
              have hyes := fun u hu h3 => HJ.yes (u := u) (by rw [hXe]; exact HXF.out) hu (by omega) hch h3
              rw [hXe] at hyes
              have hne := chg_ne hch
              obtain ⟨p, hp⟩ : ∃ z, o.getD j 0 = z := ⟨_, rfl⟩
              obtain ⟨q, hq⟩ : ∃ z, o.getD (j + 1) 0 = z := ⟨_, rfl⟩
              obtain ⟨zz, hzz⟩ : ∃ z, G.getD (j + 1) 0 = z := ⟨_, rfl⟩
              rw [hp] at y0 y1 hfp hyes hne
              rw [hq] at y2 y3 hfq hyes hne
              rw [hzz] at y4 y5 hfz hyes
              clear hp hq hzz hch HJ hXe
              have hcc := crs_cal ok2 x zz p q
              have S1 := hid (fun w hz hk => calc_sub p q hfp hfq g9 ok2 w hz hk)
              rw [(cop_cal ok2 (p - q)).1, (cop_cal ok2 (p - q)).2] at S1
              have F1 := hid (calV_fits (ok := ok2) (o := fitO (p - q)) (fun r hr => (fitO_fits hr).1))
              have N1 : calK ok2 (fitO (p - q)) = true → calV ok2 (fitO (p - q)) ≠ 0 := fun h => by
                obtain ⟨-, r, h1, h2⟩ := calV_of h
                rw [h2, (fitO_fits h1).2]
                exact hne
              obtain ⟨k1, hk1⟩ : ∃ o, calK ok2 (fitO (p - q)) = o := ⟨_, rfl⟩
              obtain ⟨v1, hv1⟩ : ∃ o, calV ok2 (fitO (p - q)) = o := ⟨_, rfl⟩
              rw [hk1, hv1] at S1 N1
              rw [hv1] at F1
              have S2 := hid (fun w hz hk => calc_div p v1 hfp F1.out g9 k1 N1 w hz hk)
              rw [(cop_cal k1 (p / v1)).1, (cop_cal k1 (p / v1)).2] at S2
              have F2 := hid (calV_fits (ok := k1) (o := fitO (p / v1)) (fun r hr => (fitO_fits hr).1))
              obtain ⟨k2, hk2⟩ : ∃ o, calK k1 (fitO (p / v1)) = o := ⟨_, rfl⟩
              obtain ⟨v2, hv2⟩ : ∃ o, calV k1 (fitO (p / v1)) = o := ⟨_, rfl⟩
              rw [hk2, hv2] at S2
              rw [hv2] at F2
              have S3 := hid (fun w hz hk => calc_sub zz x hfz HXF.out g9 k2 w hz hk)
              rw [(cop_cal k2 (zz - x)).1, (cop_cal k2 (zz - x)).2] at S3
              have F3 := hid (calV_fits (ok := k2) (o := fitO (zz - x)) (fun r hr => (fitO_fits hr).1))
              obtain ⟨k3, hk3⟩ : ∃ o, calK k2 (fitO (zz - x)) = o := ⟨_, rfl⟩
              obtain ⟨v3, hv3⟩ : ∃ o, calV k2 (fitO (zz - x)) = o := ⟨_, rfl⟩
              rw [hk3, hv3] at S3
              rw [hv3] at F3
              have S4 := hid (fun w hz hk => calc_mul v2 v3 F2.out F3.out g9 k3 w hz hk)
              rw [(cop_cal k3 (v2 * v3)).1, (cop_cal k3 (v2 * v3)).2] at S4
              have F4 := hid (calV_fits (ok := k3) (o := fitO (v2 * v3)) (fun r hr => (fitO_fits hr).1))
              obtain ⟨k4, hk4⟩ : ∃ o, calK k3 (fitO (v2 * v3)) = o := ⟨_, rfl⟩
              obtain ⟨v4, hv4⟩ : ∃ o, calV k3 (fitO (v2 * v3)) = o := ⟨_, rfl⟩
              rw [hk4, hv4] at S4
              rw [hv4] at F4
              have S5 := hid (fun w hz hk => calc_add x v4 HXF.out F4.out g9 k4 w hz hk)
              have hcx := hcc k1 k2 k3 k4 v1 v2 v3 v4 hk1.symm hv1.symm hk2.symm hv2.symm hk3.symm hv3.symm hk4.symm hv4.symm
              rw [(cop_cal k4 (x + v4)).1, (cop_cal k4 (x + v4)).2, hcx.1, hcx.2] at S5
              have hF5 : fits (calV ok2 (crsO x zz p q)) := calV_fits (fun r hr => (crsO_val hr).2)
              have HG9 := hid (hyes (calV ok2 (crsO x zz p q)) hF5 (fun h => by
                obtain ⟨-, r, h1, h2⟩ := calV_of h
                rw [h2]; exact h1))
              obtain ⟨k5, hk5⟩ : ∃ o, calK ok2 (crsO x zz p q) = o := ⟨_, rfl⟩
              obtain ⟨v5, hv5⟩ : ∃ o, calV ok2 (crsO x zz p q) = o := ⟨_, rfl⟩
              rw [hk5, hv5] at S5 HG9
              unfold frQ at S1 S2 S3 S4 S5
              clear hcc hcx hF5 hyes hne N1 hk1 hv1 hk2 hv2 hk3 hv3 hk4 hv4 hk5 hv5 hfp hfq hfz F1 F2 F3 F4
              rw [HN1.out, HD1.out] at S3 S5
              obtain ⟨p1, hp1⟩ : ∃ z, p.num = z := ⟨_, rfl⟩
              obtain ⟨p2, hp2⟩ : ∃ z, (p.den : Int) = z := ⟨_, rfl⟩
              obtain ⟨q1, hq1⟩ : ∃ z, q.num = z := ⟨_, rfl⟩
              obtain ⟨q2, hq2⟩ : ∃ z, (q.den : Int) = z := ⟨_, rfl⟩
              obtain ⟨z1, hz1⟩ : ∃ z, zz.num = z := ⟨_, rfl⟩
              obtain ⟨z2, hz2⟩ : ∃ z, (zz.den : Int) = z := ⟨_, rfl⟩
              obtain ⟨u1, hu1⟩ : ∃ z, v5.num = z := ⟨_, rfl⟩
              obtain ⟨u2, hu2⟩ : ∃ z, (v5.den : Int) = z := ⟨_, rfl⟩
              rw [hp1] at y0 S1 S2
              rw [hp2] at y1 S1 S2
              rw [hq1] at y2 S1
              rw [hq2] at y3 S1
              rw [hz1] at y4 S3
              rw [hz2] at y5 S3
              rw [hu1, hu2] at S5
              have HU1 := hid hu1
              have HU2 := hid hu2
              clear hp1 hp2 hq1 hq2 hz1 hz2 hu1 hu2
              obtain ⟨S, hS⟩ : ∃ S, wc.heap.size = S := ⟨_, rfl⟩
              have hdr := (Below.refl wc.heap.size wc).drew
              have hg5S : g5 < S := by
                rw [← hS]
                exact (HOC.out.lt g5 rfl).2
              have hamS0 : ∀ k, (Value.slice am M.length cm).ownBlock = some k → k < S := fun k hk => by
                rw [← hS]
                exact (HMC.out.lt k hk).2
              have hzc : Z0 wc.drew := (HZ.out.below (by rw [hg8e]; exact hbelc)).below hdr
              have k8d := K8C.out.below hdr
              have kcd := CalB.below HKC.out hdr
              have hod := owns_below HOC.out hdr
              have hmd := owns_below HMC.out hdr
              have hxd := HXC.out.below hdr
              have hbd := BelX.of_belG hbc (BelG.of_below hdr hsC)
              have y0d := (hdr.cell (p := ⟨bo, oo + j * 2, none⟩) hbo).trans y0
              have y1d := (hdr.cell (p := ⟨bo, oo + j * 2 + 1, none⟩) hbo).trans y1
              have y2d := (hdr.cell (p := ⟨bo, oo + (j + 1) * 2, none⟩) hbo).trans y2
              have y3d := (hdr.cell (p := ⟨bo, oo + (j + 1) * 2 + 1, none⟩) hbo).trans y3
              have hbl9 : b < wc.heap.size := Nat.lt_of_lt_of_le hbl (by omega)
              have y4d := (hdr.cell (p := ⟨b, off + (j + 1) * 2, none⟩) hbl9).trans y4
              have y5d := (hdr.cell (p := ⟨b, off + (j + 1) * 2 + 1, none⟩) hbl9).trans y5
              have hsd : wc.drew.heap.size = S := hS
              have hgx9 : wr.heap.size ≠ g9 := by omega
              have hS8 : g8 < S := by omega
              have hS9 : g9 < S := by omega
              have hSb : bo < S := by omega
              have hSl : b < S := by omega
              have hB9 : bo ≠ g9 := by omega
              have hb9 : b ≠ g9 := by omega
              have hb8 : b < g8 := hbl
              have hSB2 : B2 ≤ S := by omega
              clear y0 y1 y2 y3 y4 y5 hbelc hbc hdr hbo hbl hbl9
              obtain ⟨Wd, hWd⟩ : ∃ Wd, wc.drew = Wd := ⟨_, rfl⟩
              rw [hWd] at hzc k8d kcd hod hmd hxd hbd y0d y1d y2d y3d y4d y5d hsd
              have z0 := fun y : SubT (BelG g9 S) wc.drew => (y.b.blk (by rw [hWd]; exact k8d) hS8 (show g8 ≠ g9 by omega)).look 1 rfl
              have z1 := fun y : SubT (BelG g9 S) wc.drew => (y.b.cell (p := ⟨bo, oo + j * 2, none⟩) hSb hB9).trans ((congrArg (fun W : World => W.cell? _) hWd).trans y0d)
              have z2 := fun y : SubT (BelG g9 S) wc.drew => (y.b.cell (p := ⟨bo, oo + j * 2 + 1, none⟩) hSb hB9).trans ((congrArg (fun W : World => W.cell? _) hWd).trans y1d)
              have z3 := fun y : SubT (BelG g9 S) wc.drew => (y.b.cell (p := ⟨bo, oo + (j + 1) * 2, none⟩) hSb hB9).trans ((congrArg (fun W : World => W.cell? _) hWd).trans y2d)
              have z4 := fun y : SubT (BelG g9 S) wc.drew => (y.b.cell (p := ⟨bo, oo + (j + 1) * 2 + 1, none⟩) hSb hB9).trans ((congrArg (fun W : World => W.cell? _) hWd).trans y3d)
              have HSD := hid hsd
              have HWd := hid hWd
              clear hWd hsd hS
              go_wp2_with fail
              refine wp_walkJ (T := BelG g9 S) (belG_pre g9 S) (.rd 0 (.rd 1 (.rd 2 (.rd 3 (.rd 4 (.rd 5 (.rd 6 (.rd 7 (.rd 8 (.rd 9 (.rd 10 (.rd 11 (.rd 12 (.rd 13 (.rd 14 (.rd 15 (.inv [16, 17, 18, 19]))))))))))))))))) (by kernel_rfl) rfl (by kernel_rfl) (by kernel_rfl) ?_
              iterate 16 (refine walkJ_rd rfl (fun K hK => ?_); go_simp; refine hK _ ?_; clear hK K)
              clear z0 z1 z2 z3 z4
              rw [HWd.out]
              have hS0 : 0 < S := by omega
              clear HWd
              refine walkJ_inv (StJ g9 S Wd ok2 k1 k2 (.agg #[.int .i64 v1.num, .int .i64 (v1.den : Int)]) (.agg #[.int .i64 v2.num, .int .i64 (v2.den : Int)]) 31 #[.int .i64 v2.num, .int .i64 (v2.den : Int)]) [(16, 100), (17, 101), (18, 15)] (by kernel_rfl) ?_ ?_ ?_
              · exact ⟨(belG_pre g9 S).refl _, kcd, fun h => (by cases h), fun h => (by cases h), fun h => (by cases h)⟩
              · refine stepsI_cons [] [17, 19] [] rfl (by kernel_rfl) (by kernel_rfl) (by kernel_rfl) (fun K l V x hx hl hds hn hI hK => ?_) ?_
                · go_simp
                  have hsx : S ≤ x.heap.size := by rw [← HSD.out]; exact hx.size
                  have hk4 := hI.k
                  rw [if_neg (by rw [hds.1]; decide), if_neg (by rw [hn]; decide)] at hk4
                  refine (S1.out _ (hI.t.z0 hzc kcd hS0) hk4).mono ?_
                  rintro e w9 ⟨rfl, hk9, ht9⟩
                  refine ⟨_, rfl, hK _ _ (BelG.of_calT ht9 hsx) ?_⟩
                  refine ⟨(belG_pre g9 S).trans hI.t (BelG.of_calT ht9 hsx), ?_, fun _ => rfl, fun h => hI.c2 h, fun h => (hI.a h).calT (by omega) ht9⟩
                  rw [if_neg (by show ¬ (updL l 16) 17 = true; exact fun h => by have : l 17 = true := h; rw [hds.1] at this; cases this), if_pos (by rfl)]
                  exact hk9
                refine stepsI_cons [16] [19] [(16, 100)] rfl (by kernel_rfl) (by kernel_rfl) (by kernel_rfl) (fun K l V x hx hl hds hn hI hK => ?_) ?_
                · simp only [putsP, hI.c1 hl.1]
                  go_simp
                  have hsx : S ≤ x.heap.size := by rw [← HSD.out]; exact hx.size
                  have hk4 := hI.k
                  rw [if_neg (by rw [hn]; decide), if_pos hl.1] at hk4
                  refine (S2.out _ (hI.t.z0 hzc kcd hS0) hk4).mono ?_
                  rintro e w9 ⟨rfl, hk9, ht9⟩
                  refine ⟨_, rfl, hK _ _ (BelG.of_calT ht9 hsx) ?_⟩
                  exact ⟨(belG_pre g9 S).trans hI.t (BelG.of_calT ht9 hsx), hk9, fun h => hI.c1 h, fun _ => rfl, fun h => (hI.a h).calT (by omega) ht9⟩
                refine stepsI_cons [] [19] [] rfl (by kernel_rfl) (by kernel_rfl) (by kernel_rfl) (fun K l V x hx hl hds hn hI hK => ?_) ?_
                · go_simp
                  have hsx : S ≤ x.heap.size := by rw [← HSD.out]; exact hx.size
                  have ht9 : CalT g9 x (x.alloc (.cells #[.int .i64 0, .int .i64 0] 31)) := CalT.of_below (alloc_below x _)
                  refine hK _ _ (BelG.of_calT ht9 hsx) ?_
                  exact ⟨(belG_pre g9 S).trans hI.t (BelG.of_calT ht9 hsx), CalB.below hI.k (alloc_below x _), fun h => hI.c1 h, fun h => hI.c2 h, fun _ => VarI.new x _ _ hsx rfl hds.1⟩
                refine stepsI_cons [16, 17, 18] [] [(16, 100), (17, 101), (18, 15)] rfl (by kernel_rfl) (by kernel_rfl) (by kernel_rfl) (fun K l V x hx hl hds hn hI hK => ?_) ?_
                · obtain ⟨b, cs, e1, e2, e3, e4, -⟩ := hI.a hl.2.2.1
                  have hbg : g9 ≠ b := by omega
                  refine ⟨rfl, gives_store_row 31 (.tmp 15) (.tmp 101) rfl b _ e1 (hI.c2 hl.2.1) 31 cs e3 pinfoFrac e4 (by simp [Value.oneCell']) (hK _ _ (((belG_pre g9 S).refl x).row e2 _) ?_)⟩
                  refine ⟨hI.t.row e2 _, row_blk_other hI.k hbg, fun h => hI.c1 h, fun h => hI.c2 h, fun _ => ?_⟩
                  show VarI _ _ (V 18) _ _ _ _
                  rw [e1]
                  exact VarI.filled e2 e3 rfl
                exact stepsI_nil
              intro V W2 hW2 hI
              obtain ⟨gI, eI1, geI, kI⟩ := (hI.a rfl).out
              have qa := hI.c1 rfl
              have qb := hI.c2 rfl
              have tI : CalT g9 Wd W2 := CalT.of_belG hI.t (Nat.le_of_eq HSD.out)
              have hkI : CalB W2 g9 k2 := hI.k
              clear hI hW2
              simp only [putsP, qa, qb, eI1]
              go_simp
              clear qa qb eI1
              have hz2 := hzc.calT kcd tI
              have k82 := CalT.blk tI k8d (show g8 ≠ g9 by omega)
              have ho2 := owns_calT tI hod (show g9 < B2 by omega)
              have hm2 := owns_calT tI hmd (show g9 < B2 by omega)
              have hx2 := CalT.blk tI hxd hgx9
              have hb2 := BelX.of_belG hbd (BelG.of_calT tI (by rw [HSD.out]; exact hSB2))
              have y42 := (CalT.cell tI (p := ⟨b, off + (j + 1) * 2, none⟩) (by show b < _; rw [HSD.out]; exact hSl) hb9).trans y4d
              have y52 := (CalT.cell tI (p := ⟨b, off + (j + 1) * 2 + 1, none⟩) (by show b < _; rw [HSD.out]; exact hSl) hb9).trans y5d
              have hs2 : S ≤ W2.heap.size := by rw [← HSD.out]; exact CalT.size tI
              clear tI hzc k8d kcd hod hmd hxd hbd y0d y1d y2d y3d y4d y5d HSD S1 S2 K8C HKC HOC HMC HXC HBC
              go_wp2_with fail
              obtain ⟨S2, hS2⟩ : ∃ S, W2.heap.size = S := ⟨_, rfl⟩
              have hdr := (Below.refl W2.heap.size W2).drew
              have hlI := kI.lt
              have hlx := hx2.lt
              have hzd := hz2.below hdr
              have k8d := k82.below hdr
              have kcd := CalB.below hkI hdr
              have hod := owns_below ho2 hdr
              have hmd := owns_below hm2 hdr
              have hxd := hx2.below hdr
              have kId := kI.below hdr
              have hbd := BelX.of_belG hb2 (BelG.of_below hdr (by omega))
              have hlb : b < W2.heap.size := by omega
              have y4d := (hdr.cell (p := ⟨b, off + (j + 1) * 2, none⟩) hlb).trans y42
              have y5d := (hdr.cell (p := ⟨b, off + (j + 1) * 2 + 1, none⟩) hlb).trans y52
              have hsd : W2.drew.heap.size = S2 := hS2
              have hgI9 : gI ≠ g9 := by omega
              rw [hS2] at hlI hlx hlb hs2
              obtain ⟨Wd, hWd⟩ : ∃ Wd, W2.drew = Wd := ⟨_, rfl⟩
              rw [hWd] at hzd k8d kcd hod hmd hxd kId hbd y4d y5d hsd
              have z0 := fun y : SubT (BelG g9 S2) W2.drew => (y.b.blk (by rw [hWd]; exact hxd) hlx hgx9).look 0 rfl
              have z1 := fun y : SubT (BelG g9 S2) W2.drew => (y.b.blk (by rw [hWd]; exact hxd) hlx hgx9).look 1 rfl
              have z2 := fun y : SubT (BelG g9 S2) W2.drew => (y.b.blk (by rw [hWd]; exact kId) hlI hgI9).look 0 rfl
              have z3 := fun y : SubT (BelG g9 S2) W2.drew => (y.b.blk (by rw [hWd]; exact kId) hlI hgI9).look 1 rfl
              have z4 := fun y : SubT (BelG g9 S2) W2.drew => (y.b.cell (p := ⟨b, off + (j + 1) * 2, none⟩) hlb hb9).trans ((congrArg (fun W : World => W.cell? _) hWd).trans y4d)
              have z5 := fun y : SubT (BelG g9 S2) W2.drew => (y.b.cell (p := ⟨b, off + (j + 1) * 2 + 1, none⟩) hlb hb9).trans ((congrArg (fun W : World => W.cell? _) hWd).trans y5d)
              have HSD := hid hsd
              have HWd := hid hWd
              have hg8I : g8 < S2 := by omega
              have hS0' : 0 < S2 := by omega
              have hSB3 : B2 ≤ S2 := by omega
              clear hWd hsd hS2 hdr hz2 k82 hkI ho2 hm2 hx2 kI hb2 y42 y52
              --CUT 1
              refine wp_walkJ (T := BelG g9 S2) (belG_pre g9 S2) (.rd 0 (.rd 1 (.rd 2 (.rd 3 (.rd 4 (.rd 5 (.rd 6 (.rd 7 (.inv [8, 9, 10, 11, 12]))))))))) (by kernel_rfl) rfl (by kernel_rfl) (by kernel_rfl) ?_
              iterate 8 (refine walkJ_rd rfl (fun K hK => ?_); go_simp; refine hK _ ?_; clear hK K)
              clear z0 z1 z2 z3 z4 z5
              rw [HWd.out]
              clear HWd
              --CUT 2
              refine walkJ_inv (StK g9 S2 Wd k2 k3 k4 k5 (.agg #[.int .i64 v3.num, .int .i64 (v3.den : Int)]) (.agg #[.int .i64 v4.num, .int .i64 (v4.den : Int)]) (.agg #[.int .i64 u1, .int .i64 u2]) 31 #[.int .i64 u1, .int .i64 u2]) [(8, 110), (9, 111), (10, 112), (11, 16)] (by kernel_rfl) ?_ ?_ ?_
              · exact ⟨(belG_pre g9 S2).refl _, kcd, fun h => (by cases h), fun h => (by cases h), fun h => (by cases h), fun h => (by cases h)⟩
              · refine stepsI_cons [] [9, 10, 12] [] rfl (by kernel_rfl) (by kernel_rfl) (by kernel_rfl) (fun K l V x hx hl hds hn hI hK => ?_) ?_
                · go_simp
                  have hsx : S2 ≤ x.heap.size := by rw [← HSD.out]; exact hx.size
                  have hk4 := hI.k
                  rw [if_neg (by rw [hds.2.1]; decide), if_neg (by rw [hds.1]; decide), if_neg (by rw [hn]; decide)] at hk4
                  refine (S3.out _ (hI.t.z0 hzd kcd hS0') hk4).mono ?_
                  rintro e w9 ⟨rfl, hk9, ht9⟩
                  refine ⟨_, rfl, hK _ _ (BelG.of_calT ht9 hsx) ?_⟩
                  refine ⟨(belG_pre g9 S2).trans hI.t (BelG.of_calT ht9 hsx), ?_, fun _ => rfl, fun h => hI.c2 h, fun h => hI.c3 h, fun h => (hI.a h).calT (by omega) ht9⟩
                  rw [if_neg (by show ¬ (updL l 8) 10 = true; exact fun h => by have : l 10 = true := h; rw [hds.2.1] at this; cases this), if_neg (by show ¬ (updL l 8) 9 = true; exact fun h => by have : l 9 = true := h; rw [hds.1] at this; cases this), if_pos (by rfl)]
                  exact hk9
                refine stepsI_cons [8] [10, 12] [(8, 110)] rfl (by kernel_rfl) (by kernel_rfl) (by kernel_rfl) (fun K l V x hx hl hds hn hI hK => ?_) ?_
                · simp only [putsP, hI.c1 hl.1]
                  go_simp
                  have hsx : S2 ≤ x.heap.size := by rw [← HSD.out]; exact hx.size
                  have hk4 := hI.k
                  rw [if_neg (by rw [hds.1]; decide), if_neg (by rw [hn]; decide), if_pos hl.1] at hk4
                  refine (S4.out _ (hI.t.z0 hzd kcd hS0') hk4).mono ?_
                  rintro e w9 ⟨rfl, hk9, ht9⟩
                  refine ⟨_, rfl, hK _ _ (BelG.of_calT ht9 hsx) ?_⟩
                  refine ⟨(belG_pre g9 S2).trans hI.t (BelG.of_calT ht9 hsx), ?_, fun h => hI.c1 h, fun _ => rfl, fun h => hI.c3 h, fun h => (hI.a h).calT (by omega) ht9⟩
                  rw [if_neg (by show ¬ (updL l 9) 10 = true; exact fun h => by have : l 10 = true := h; rw [hds.1] at this; cases this), if_pos (by rfl)]
                  exact hk9
                refine stepsI_cons [8, 9] [12] [(8, 110), (9, 111)] rfl (by kernel_rfl) (by kernel_rfl) (by kernel_rfl) (fun K l V x hx hl hds hn hI hK => ?_) ?_
                · simp only [putsP, hI.c1 hl.1, hI.c2 hl.2.1]
                  go_simp
                  have hsx : S2 ≤ x.heap.size := by rw [← HSD.out]; exact hx.size
                  have hk4 := hI.k
                  rw [if_neg (by rw [hn]; decide), if_pos hl.2.1] at hk4
                  refine (S5.out _ (hI.t.z0 hzd kcd hS0') hk4).mono ?_
                  rintro e w9 ⟨rfl, hk9, ht9⟩
                  refine ⟨_, rfl, hK _ _ (BelG.of_calT ht9 hsx) ?_⟩
                  exact ⟨(belG_pre g9 S2).trans hI.t (BelG.of_calT ht9 hsx), hk9, fun h => hI.c1 h, fun h => hI.c2 h, fun _ => rfl, fun h => (hI.a h).calT (by omega) ht9⟩
                refine stepsI_cons [] [12] [] rfl (by kernel_rfl) (by kernel_rfl) (by kernel_rfl) (fun K l V x hx hl hds hn hI hK => ?_) ?_
                · go_simp
                  have hsx : S2 ≤ x.heap.size := by rw [← HSD.out]; exact hx.size
                  have ht9 : CalT g9 x (x.alloc (.cells #[.int .i64 0, .int .i64 0] 31)) := CalT.of_below (alloc_below x _)
                  refine hK _ _ (BelG.of_calT ht9 hsx) ?_
                  exact ⟨(belG_pre g9 S2).trans hI.t (BelG.of_calT ht9 hsx), CalB.below hI.k (alloc_below x _), fun h => hI.c1 h, fun h => hI.c2 h, fun h => hI.c3 h, fun _ => VarI.new x _ _ hsx rfl hds.1⟩
                refine stepsI_cons [8, 9, 10, 11] [] [(8, 110), (9, 111), (10, 112), (11, 16)] rfl (by kernel_rfl) (by kernel_rfl) (by kernel_rfl) (fun K l V x hx hl hds hn hI hK => ?_) ?_
                · obtain ⟨b, cs, e1, e2, e3, e4, -⟩ := hI.a hl.2.2.2.1
                  have hbg : g9 ≠ b := by omega
                  refine ⟨rfl, gives_store_row 31 (.tmp 16) (.tmp 112) rfl b _ e1 (hI.c3 hl.2.2.1) 31 cs e3 pinfoFrac e4 (by simp [Value.oneCell']) (hK _ _ (((belG_pre g9 S2).refl x).row e2 _) ?_)⟩
                  refine ⟨hI.t.row e2 _, row_blk_other hI.k hbg, fun h => hI.c1 h, fun h => hI.c2 h, fun h => hI.c3 h, fun _ => ?_⟩
                  show VarI _ _ (V 11) _ _ _ _
                  rw [e1]
                  exact VarI.filled e2 e3 rfl
                exact stepsI_nil
              --CUT 3
              intro V W3 hW3 hI
              obtain ⟨gU, eU1, geU, kU⟩ := (hI.a rfl).out
              have qa := hI.c1 rfl
              have qb := hI.c2 rfl
              have qc := hI.c3 rfl
              --CUT 5
              have tI : CalT g9 Wd W3 := CalT.of_belG hI.t (Nat.le_of_eq HSD.out)
              --CUT 6
              have hk3 : CalB W3 g9 k5 := hI.k
              --CUT 7
              clear hI hW3
              simp only [putsP, qa, qb, qc, eU1]
              --CUT 8
              go_simp
              --CUT 9
              clear qa qb qc eU1
              have k83 := CalT.blk tI k8d (show g8 ≠ g9 by omega)
              have ho3 := owns_calT tI hod (show g9 < B2 by omega)
              have hm3 := owns_calT tI hmd (show g9 < B2 by omega)
              have hb3 := BelX.of_belG hbd (BelG.of_calT tI (by rw [HSD.out]; exact hSB3))
              have hs3 : S2 ≤ W3.heap.size := by rw [← HSD.out]; exact CalT.size tI
              clear tI hzd k8d kcd hod hmd hxd kId hbd y4d y5d HSD S3 S4 S5 hgx9
              go_wp2_with fail
              --CUT 11
              obtain ⟨S3, hS3⟩ : ∃ S, W3.heap.size = S := ⟨_, rfl⟩
              have hdr := (Below.refl W3.heap.size W3).drew
              have hlU := kU.lt
              have k8d := k83.below hdr
              have kcd := CalB.below hk3 hdr
              have hod := owns_below ho3 hdr
              have hmd := owns_below hm3 hdr
              have kUd := kU.below hdr
              have hbd := BelX.of_belG hb3 (BelG.of_below hdr (by omega))
              have hsd : W3.drew.heap.size = S3 := hS3
              rw [hS3] at hlU hs3
              have hg5l : g5 < S3 := by
                have := (hod.lt g5 rfl).2
                rw [hsd] at this
                exact this
              have hg5B : B2 ≤ g5 := (hod.lt g5 rfl).1
              have hamS : ∀ k, (Value.slice am M.length cm).ownBlock = some k → B2 ≤ k ∧ k < S3 ∧ g5 ≠ k := fun k hk => ⟨(hmd.lt k hk).1, by have := (hmd.lt k hk).2; rw [hsd] at this; exact this, fun e => hd8 k hk (by rw [e]; rfl)⟩
              have hX8 : ¬ ((Value.slice am M.length cm).ownBlock = some g8 ∨ g8 = g5) := by
                rintro (h | h)
                · have := (hamS g8 h).1
                  omega
                · omega
              have hUX : ¬ ((Value.slice am M.length cm).ownBlock = some gU ∨ gU = g5) := by
                rintro (h | h)
                · have := hamS0 gU h
                  omega
                · omega
              obtain ⟨W, hW⟩ : ∃ W, W3.drew = W := ⟨_, rfl⟩
              rw [hW] at k8d kcd hod hmd kUd hbd hsd
              have z0 := fun y : SubT (ExT (fun k => (Value.slice am M.length cm).ownBlock = some k ∨ k = g5) S3) W3.drew => (y.b.blk (by rw [hW]; exact k8d) (by omega) hX8).look 2 rfl
              have z1 := fun y : SubT (ExT (fun k => (Value.slice am M.length cm).ownBlock = some k ∨ k = g5) S3) W3.drew => (y.b.blk (by rw [hW]; exact k8d) (by omega) hX8).look 3 rfl
              have z2 := fun y : SubT (ExT (fun k => (Value.slice am M.length cm).ownBlock = some k ∨ k = g5) S3) W3.drew => (y.b.blk (by rw [hW]; exact kUd) hlU hUX).look 0 rfl
              have z3 := fun y : SubT (ExT (fun k => (Value.slice am M.length cm).ownBlock = some k ∨ k = g5) S3) W3.drew => (y.b.blk (by rw [hW]; exact kUd) hlU hUX).look 1 rfl
              have HW := hid hW
              clear hW hS3 hdr k83 hk3 ho3 hm3 kU hb3
              refine wp_walkV (T := ExT (fun k => (Value.slice am M.length cm).ownBlock = some k ∨ k = g5) S3) (exT_pre _ S3) (.rd 0 (.rd 1 (.rd 2 (.rd 5 (.rd 6 (.rd 7 (.two 3 (.two 4 (.rd 10 (.mv 8 (.mv 9 (.bt 11 (.rd 12 (.bt 13 .nil)))))) 8 (.mv 4 (.rd 10 (.mv 9 (.bt 11 (.rd 12 (.bt 13 .nil))))))) 8 (.mv 3 (.mv 4 (.rd 10 (.mv 9 (.bt 11 (.rd 12 (.bt 13 .nil)))))))))))))) (by kernel_rfl) rfl rfl (by kernel_rfl) (by kernel_rfl) ?_
              iterate 6 (refine walkV_rd rfl (fun K hK => ?_); go_simp; refine hK _ ?_; clear hK K)
              clear z0 z1 z2 z3
              rw [HW.out]
              clear HW
              have hsW : S3 ≤ W.heap.size := Nat.le_of_eq hsd.symm
              have HAM := hid hamS
              clear hsd kUd hamS hamS0 hX8 hUX
              have hLM := HG9.out.lal
              have hMM := HG9.out.lon
              rw [List.length_append, List.length_append] at hLM
              refine walkV_two rfl rfl (fun K hK => ?_) (fun K hK => ?_)
              · skip
                go_simp
                have hT : ExT (fun k => (Value.slice am M.length cm).ownBlock = some k ∨ k = g5) S3 W (W.alloc (.cells [Value.int .i64 u1, Value.int .i64 u2].toArray 31)) := ExT.of_below (alloc_below _ _) hsW
                refine hK _ _ hT ?_
                clear hK K hT
                have kA := Blk.new W [Value.int .i64 u1, Value.int .i64 u2].toArray 31
                have hb := alloc_below W (.cells [Value.int .i64 u1, Value.int .i64 u2].toArray 31)
                have hsA := hsW
                try (have hsl := kB.lt)
                obtain ⟨gA, hgA⟩ : ∃ g, W.heap.size = g := ⟨_, rfl⟩
                rw [hgA] at kA hsA ⊢
                clear hgA
                generalize W.alloc (.cells [Value.int .i64 u1, Value.int .i64 u2].toArray 31) = W at kA hb ⊢
                try replace kB := kB.below hb
                replace k8d := k8d.below hb
                replace kcd := CalB.below kcd hb
                replace hod := owns_below hod hb
                replace hmd := owns_below hmd hb
                replace hbd := BelX.of_belG hbd (BelG.of_below hb (by omega))
                replace hsW := Nat.le_trans hsW hb.size
                clear hb
                try clear hsl
                refine walkV_two rfl rfl (fun K hK => ?_) (fun K hK => ?_)
                · skip
                  refine ⟨rfl, gives_appO (.tmp 114) (.tmp 116) 37 37 rfl rfl B2 31 (frV 0 0) 2 16 Tryz.underlying37 infoFrac rfl (by decide) rfl hod [Value.int .i64 u1, Value.int .i64 u2] gA kA rfl rfl (by simp [Value.oneCell']) (by unfold maxLen; omega) (by omega) (by omega) (fun g6 cap6 W ho6 hgr6 hbg6 hlt6 hor6 => hK _ _ (show ExT (fun k => (Value.slice am M.length cm).ownBlock = some k ∨ k = g5) S3 _ W from ExT.of_grown hgr6 hsW (fun k hk => .inl (.inr (Option.some.inj hk).symm))) ?_)⟩
                  clear hK K
                  have hM6 : ∀ k, (Value.slice am M.length cm).ownBlock = some k → g6 ≠ k := fun k hk e => by
                    rcases hor6 with h | h
                    · exact (HAM.out k hk).2.2 ((Option.some.inj h).trans e)
                    · have := (HAM.out k hk).2.1
                      omega
                  try (replace kB : Blk W gB _ _ := (World.grownBy.block hgr6 gB kB.lt (fun e => by have h9 : gB = g5 := Option.some.inj e; omega)).trans kB)
                  replace k8d : Blk W g8 _ _ := (World.grownBy.block hgr6 g8 k8d.lt (fun e => by have h9 : g8 = g5 := Option.some.inj e; omega)).trans k8d
                  replace kcd : CalB W g9 k5 := (World.grownBy.block hgr6 g9 kcd.lt (fun e => by have h9 : g9 = g5 := Option.some.inj e; omega)).trans kcd
                  replace hmd := hmd.kept hgr6 (by
                    cases hv : (Value.slice am M.length cm).ownBlock with
                    | none => exact .inl rfl
                    | some k => exact .inr (fun e => (HAM.out k hv).2.2 (Option.some.inj e).symm))
                  replace hbd := BelX.of_belG hbd (BelG.of_grown hgr6 (by omega) (fun k hk => by rw [← Option.some.inj hk]; exact hg5B))
                  replace hsW := Nat.le_trans hsW (World.grownBy.size hgr6)
                  have HM6 := hid hM6
                  clear hod hgr6 hor6 hlt6 kA hsA hM6
                  rw [← show frsC (L ++ [x] ++ [v5]) = frsC (L ++ [x]) ++ [Value.int .i64 u1, Value.int .i64 u2] from by rw [frsC_append _ [v5], ← HU1.out, ← HU2.out]; rfl] at ho6
                  have hod := ho6
                  clear ho6
                  (refine walkV_rd rfl (fun K hK => ?_); go_simp; refine hK _ ?_; clear hK K)
                  refine walkV_mv rfl (fun K hK => ?_)
                  go_simp
                  have hT : ExT (fun k => (Value.slice am M.length cm).ownBlock = some k ∨ k = g5) S3 W (W.alloc (.cells [Value.int .i64 u1, Value.int .i64 u2].toArray 31)) := ExT.of_below (alloc_below _ _) hsW
                  refine hK _ _ hT ?_
                  clear hK K hT
                  have kB := Blk.new W [Value.int .i64 u1, Value.int .i64 u2].toArray 31
                  have hb := alloc_below W (.cells [Value.int .i64 u1, Value.int .i64 u2].toArray 31)
                  have hsB := hsW
                  try (have hsl := kA.lt)
                  obtain ⟨gB, hgB⟩ : ∃ g, W.heap.size = g := ⟨_, rfl⟩
                  rw [hgB] at kB hsB ⊢
                  clear hgB
                  generalize W.alloc (.cells [Value.int .i64 u1, Value.int .i64 u2].toArray 31) = W at kB hb ⊢
                  try replace kA := kA.below hb
                  replace k8d := k8d.below hb
                  replace kcd := CalB.below kcd hb
                  replace hod := owns_below hod hb
                  replace hmd := owns_below hmd hb
                  replace hbd := BelX.of_belG hbd (BelG.of_below hb (by omega))
                  replace hsW := Nat.le_trans hsW hb.size
                  clear hb
                  try clear hsl
                  refine walkV_mv rfl (fun K hK => ⟨rfl, gives_appO (.tmp 119) (.tmp 121) 37 37 rfl rfl B2 31 (frV 0 0) 2 16 Tryz.underlying37 infoFrac rfl (by decide) rfl hmd [Value.int .i64 u1, Value.int .i64 u2] gB kB rfl rfl (by simp [Value.oneCell']) (by unfold maxLen; omega) (by omega) (by omega) (fun g7 cap7 W ho7 hgr7 hbg7 hlt7 hor7 => hK _ _ (show ExT (fun k => (Value.slice am M.length cm).ownBlock = some k ∨ k = g5) S3 _ W from ExT.of_grown hgr7 hsW (fun k hk => .inl (.inl hk))) ?_)⟩)
                  have hd67 : g7 ≠ g6 := fun e => by
                    rcases hor7 with h | h
                    · exact HM6.out g7 h e.symm
                    · have := (hod.lt g6 rfl).2
                      omega
                  replace k8d : Blk W g8 _ _ := (World.grownBy.block hgr7 g8 k8d.lt (fun e => by have := (HAM.out g8 e.symm).1; omega)).trans k8d
                  replace kcd : CalB W g9 k5 := (World.grownBy.block hgr7 g9 kcd.lt (fun e => by have := (HAM.out g9 e.symm).1; omega)).trans kcd
                  replace hod := hod.kept hgr7 (.inr (fun e => HM6.out g6 e.symm rfl))
                  replace hbd := BelX.of_belG hbd (BelG.of_grown hgr7 (by omega) (fun k hk => (HAM.out k hk).1))
                  replace hsW := Nat.le_trans hsW (World.grownBy.size hgr7)
                  rw [← show frsC (M ++ [v5]) = frsC M ++ [Value.int .i64 u1, Value.int .i64 u2] from by rw [frsC_append M [v5], ← HU1.out, ← HU2.out]; rfl] at ho7
                  clear hmd hgr7 hor7 hlt7 kB hsB HM6
                  have q2 := k8d.look 2 rfl
                  have f2 := k8d.frozen
                  (refine walkV_bt rfl (fun K hK => ?_); go_simp; refine hK _ _ ?_; clear hK K)
                  (refine walkV_rd rfl (fun K hK => ?_); go_simp; refine hK _ ?_; clear hK K)
                  have k9d := k8d.set 2 (.slice (some ⟨g6, 0, none⟩) (L.length + 1 + 1) cap6)
                  have q3 := k9d.look 3 rfl
                  have f3 := k9d.frozen
                  clear q2 f2
                  (refine walkV_bt rfl (fun K hK => ?_); go_simp; refine hK _ _ ?_; clear hK K)
                  clear q3 f3
                  refine walkV_nil ?_
                  have hg9' : g9 ≠ g8 := by omega
                  have HK8N := hid (k9d.set 3 (.slice (some ⟨g7, 0, none⟩) (M.length + 1) cap7))
                  have HON := hid (ownsRow_setCell_below (ownsRow_setCell_below hod (a := ⟨g8, 2, none⟩) (show g8 < B2 by omega) (.slice (some ⟨g6, 0, none⟩) (L.length + 1 + 1) cap6)) (a := ⟨g8, 3, none⟩) (show g8 < B2 by omega) (.slice (some ⟨g7, 0, none⟩) (M.length + 1) cap7))
                  have HMN := hid (ownsRow_setCell_below (ownsRow_setCell_below ho7 (a := ⟨g8, 2, none⟩) (show g8 < B2 by omega) (.slice (some ⟨g6, 0, none⟩) (L.length + 1 + 1) cap6)) (a := ⟨g8, 3, none⟩) (show g8 < B2 by omega) (.slice (some ⟨g7, 0, none⟩) (M.length + 1) cap7))
                  have HKN := hid (Blk.other (Blk.other kcd (p := ⟨g8, 2, none⟩) hg9' (.slice (some ⟨g6, 0, none⟩) (L.length + 1 + 1) cap6)) (p := ⟨g8, 3, none⟩) hg9' (.slice (some ⟨g7, 0, none⟩) (M.length + 1) cap7))
                  have HBN := hid ((hbd.set (p := ⟨g8, 2, none⟩) rfl (.slice (some ⟨g6, 0, none⟩) (L.length + 1 + 1) cap6)).set (p := ⟨g8, 3, none⟩) rfl (.slice (some ⟨g7, 0, none⟩) (M.length + 1) cap7))
                  clear k8d k9d hod ho7 kcd hbd hsW
                  have hl1 : (L ++ [x] ++ [v5]).length = L.length + 1 + 1 := by simp
                  have hl2 : (M ++ [v5]).length = M.length + 1 := by simp
                  have HL1 := hid hl1
                  have HL2 := hid hl2
                  clear hl1 hl2
                  go_wp2
                  go_roundw
                  case rel => exact ⟨j + 1, k5, L ++ [x] ++ [v5], M ++ [v5], _, _, by go_num, by omega, HG9, HK8N, by rw [HL1.out]; exact HON, by rw [HL2.out]; exact HMN, fun k hk e => hd67 ((Option.some.inj hk).trans (Option.some.inj e).symm), HKN, HBN⟩
                  case measure => simp [intOf] <;> omega
                · skip
                  go_simp
                  have hT : ExT (fun k => (Value.slice am M.length cm).ownBlock = some k ∨ k = g5) S3 W (W.alloc (.cells [Value.int .i64 u1, Value.int .i64 u2].toArray 31)) := ExT.of_below (alloc_below _ _) hsW
                  refine hK _ _ hT ?_
                  clear hK K hT
                  have kB := Blk.new W [Value.int .i64 u1, Value.int .i64 u2].toArray 31
                  have hb := alloc_below W (.cells [Value.int .i64 u1, Value.int .i64 u2].toArray 31)
                  have hsB := hsW
                  try (have hsl := kA.lt)
                  obtain ⟨gB, hgB⟩ : ∃ g, W.heap.size = g := ⟨_, rfl⟩
                  rw [hgB] at kB hsB ⊢
                  clear hgB
                  generalize W.alloc (.cells [Value.int .i64 u1, Value.int .i64 u2].toArray 31) = W at kB hb ⊢
                  try replace kA := kA.below hb
                  replace k8d := k8d.below hb
                  replace kcd := CalB.below kcd hb
                  replace hod := owns_below hod hb
                  replace hmd := owns_below hmd hb
                  replace hbd := BelX.of_belG hbd (BelG.of_below hb (by omega))
                  replace hsW := Nat.le_trans hsW hb.size
                  clear hb
                  try clear hsl
                  refine walkV_mv rfl (fun K hK => ?_)
                  refine ⟨rfl, gives_appO (.tmp 114) (.tmp 116) 37 37 rfl rfl B2 31 (frV 0 0) 2 16 Tryz.underlying37 infoFrac rfl (by decide) rfl hod [Value.int .i64 u1, Value.int .i64 u2] gA kA rfl rfl (by simp [Value.oneCell']) (by unfold maxLen; omega) (by omega) (by omega) (fun g6 cap6 W ho6 hgr6 hbg6 hlt6 hor6 => hK _ _ (show ExT (fun k => (Value.slice am M.length cm).ownBlock = some k ∨ k = g5) S3 _ W from ExT.of_grown hgr6 hsW (fun k hk => .inl (.inr (Option.some.inj hk).symm))) ?_)⟩
                  clear hK K
                  have hM6 : ∀ k, (Value.slice am M.length cm).ownBlock = some k → g6 ≠ k := fun k hk e => by
                    rcases hor6 with h | h
                    · exact (HAM.out k hk).2.2 ((Option.some.inj h).trans e)
                    · have := (HAM.out k hk).2.1
                      omega
                  try (replace kB : Blk W gB _ _ := (World.grownBy.block hgr6 gB kB.lt (fun e => by have h9 : gB = g5 := Option.some.inj e; omega)).trans kB)
                  replace k8d : Blk W g8 _ _ := (World.grownBy.block hgr6 g8 k8d.lt (fun e => by have h9 : g8 = g5 := Option.some.inj e; omega)).trans k8d
                  replace kcd : CalB W g9 k5 := (World.grownBy.block hgr6 g9 kcd.lt (fun e => by have h9 : g9 = g5 := Option.some.inj e; omega)).trans kcd
                  replace hmd := hmd.kept hgr6 (by
                    cases hv : (Value.slice am M.length cm).ownBlock with
                    | none => exact .inl rfl
                    | some k => exact .inr (fun e => (HAM.out k hv).2.2 (Option.some.inj e).symm))
                  replace hbd := BelX.of_belG hbd (BelG.of_grown hgr6 (by omega) (fun k hk => by rw [← Option.some.inj hk]; exact hg5B))
                  replace hsW := Nat.le_trans hsW (World.grownBy.size hgr6)
                  have HM6 := hid hM6
                  clear hod hgr6 hor6 hlt6 kA hsA hM6
                  rw [← show frsC (L ++ [x] ++ [v5]) = frsC (L ++ [x]) ++ [Value.int .i64 u1, Value.int .i64 u2] from by rw [frsC_append _ [v5], ← HU1.out, ← HU2.out]; rfl] at ho6
                  have hod := ho6
                  clear ho6
                  (refine walkV_rd rfl (fun K hK => ?_); go_simp; refine hK _ ?_; clear hK K)
                  refine walkV_mv rfl (fun K hK => ⟨rfl, gives_appO (.tmp 119) (.tmp 121) 37 37 rfl rfl B2 31 (frV 0 0) 2 16 Tryz.underlying37 infoFrac rfl (by decide) rfl hmd [Value.int .i64 u1, Value.int .i64 u2] gB kB rfl rfl (by simp [Value.oneCell']) (by unfold maxLen; omega) (by omega) (by omega) (fun g7 cap7 W ho7 hgr7 hbg7 hlt7 hor7 => hK _ _ (show ExT (fun k => (Value.slice am M.length cm).ownBlock = some k ∨ k = g5) S3 _ W from ExT.of_grown hgr7 hsW (fun k hk => .inl (.inl hk))) ?_)⟩)
                  have hd67 : g7 ≠ g6 := fun e => by
                    rcases hor7 with h | h
                    · exact HM6.out g7 h e.symm
                    · have := (hod.lt g6 rfl).2
                      omega
                  replace k8d : Blk W g8 _ _ := (World.grownBy.block hgr7 g8 k8d.lt (fun e => by have := (HAM.out g8 e.symm).1; omega)).trans k8d
                  replace kcd : CalB W g9 k5 := (World.grownBy.block hgr7 g9 kcd.lt (fun e => by have := (HAM.out g9 e.symm).1; omega)).trans kcd
                  replace hod := hod.kept hgr7 (.inr (fun e => HM6.out g6 e.symm rfl))
                  replace hbd := BelX.of_belG hbd (BelG.of_grown hgr7 (by omega) (fun k hk => (HAM.out k hk).1))
                  replace hsW := Nat.le_trans hsW (World.grownBy.size hgr7)
                  rw [← show frsC (M ++ [v5]) = frsC M ++ [Value.int .i64 u1, Value.int .i64 u2] from by rw [frsC_append M [v5], ← HU1.out, ← HU2.out]; rfl] at ho7
                  clear hmd hgr7 hor7 hlt7 kB hsB HM6
                  have q2 := k8d.look 2 rfl
                  have f2 := k8d.frozen
                  (refine walkV_bt rfl (fun K hK => ?_); go_simp; refine hK _ _ ?_; clear hK K)
                  (refine walkV_rd rfl (fun K hK => ?_); go_simp; refine hK _ ?_; clear hK K)
                  have k9d := k8d.set 2 (.slice (some ⟨g6, 0, none⟩) (L.length + 1 + 1) cap6)
                  have q3 := k9d.look 3 rfl
                  have f3 := k9d.frozen
                  clear q2 f2
                  (refine walkV_bt rfl (fun K hK => ?_); go_simp; refine hK _ _ ?_; clear hK K)
                  clear q3 f3
                  refine walkV_nil ?_
                  have hg9' : g9 ≠ g8 := by omega
                  have HK8N := hid (k9d.set 3 (.slice (some ⟨g7, 0, none⟩) (M.length + 1) cap7))
                  have HON := hid (ownsRow_setCell_below (ownsRow_setCell_below hod (a := ⟨g8, 2, none⟩) (show g8 < B2 by omega) (.slice (some ⟨g6, 0, none⟩) (L.length + 1 + 1) cap6)) (a := ⟨g8, 3, none⟩) (show g8 < B2 by omega) (.slice (some ⟨g7, 0, none⟩) (M.length + 1) cap7))
                  have HMN := hid (ownsRow_setCell_below (ownsRow_setCell_below ho7 (a := ⟨g8, 2, none⟩) (show g8 < B2 by omega) (.slice (some ⟨g6, 0, none⟩) (L.length + 1 + 1) cap6)) (a := ⟨g8, 3, none⟩) (show g8 < B2 by omega) (.slice (some ⟨g7, 0, none⟩) (M.length + 1) cap7))
                  have HKN := hid (Blk.other (Blk.other kcd (p := ⟨g8, 2, none⟩) hg9' (.slice (some ⟨g6, 0, none⟩) (L.length + 1 + 1) cap6)) (p := ⟨g8, 3, none⟩) hg9' (.slice (some ⟨g7, 0, none⟩) (M.length + 1) cap7))
                  have HBN := hid ((hbd.set (p := ⟨g8, 2, none⟩) rfl (.slice (some ⟨g6, 0, none⟩) (L.length + 1 + 1) cap6)).set (p := ⟨g8, 3, none⟩) rfl (.slice (some ⟨g7, 0, none⟩) (M.length + 1) cap7))
                  clear k8d k9d hod ho7 kcd hbd hsW
                  have hl1 : (L ++ [x] ++ [v5]).length = L.length + 1 + 1 := by simp
                  have hl2 : (M ++ [v5]).length = M.length + 1 := by simp
                  have HL1 := hid hl1
                  have HL2 := hid hl2
                  clear hl1 hl2
                  go_wp2
                  go_roundw
                  case rel => exact ⟨j + 1, k5, L ++ [x] ++ [v5], M ++ [v5], _, _, by go_num, by omega, HG9, HK8N, by rw [HL1.out]; exact HON, by rw [HL2.out]; exact HMN, fun k hk e => hd67 ((Option.some.inj hk).trans (Option.some.inj e).symm), HKN, HBN⟩
                  case measure => simp [intOf] <;> omega
              · skip
                go_simp
                have hT : ExT (fun k => (Value.slice am M.length cm).ownBlock = some k ∨ k = g5) S3 W (W.alloc (.cells [Value.int .i64 u1, Value.int .i64 u2].toArray 31)) := ExT.of_below (alloc_below _ _) hsW
                refine hK _ _ hT ?_
                clear hK K hT
                have kB := Blk.new W [Value.int .i64 u1, Value.int .i64 u2].toArray 31
                have hb := alloc_below W (.cells [Value.int .i64 u1, Value.int .i64 u2].toArray 31)
                have hsB := hsW
                try (have hsl := kA.lt)
                obtain ⟨gB, hgB⟩ : ∃ g, W.heap.size = g := ⟨_, rfl⟩
                rw [hgB] at kB hsB ⊢
                clear hgB
                generalize W.alloc (.cells [Value.int .i64 u1, Value.int .i64 u2].toArray 31) = W at kB hb ⊢
                try replace kA := kA.below hb
                replace k8d := k8d.below hb
                replace kcd := CalB.below kcd hb
                replace hod := owns_below hod hb
                replace hmd := owns_below hmd hb
                replace hbd := BelX.of_belG hbd (BelG.of_below hb (by omega))
                replace hsW := Nat.le_trans hsW hb.size
                clear hb
                try clear hsl
                refine walkV_mv rfl (fun K hK => ?_)
                go_simp
                have hT : ExT (fun k => (Value.slice am M.length cm).ownBlock = some k ∨ k = g5) S3 W (W.alloc (.cells [Value.int .i64 u1, Value.int .i64 u2].toArray 31)) := ExT.of_below (alloc_below _ _) hsW
                refine hK _ _ hT ?_
                clear hK K hT
                have kA := Blk.new W [Value.int .i64 u1, Value.int .i64 u2].toArray 31
                have hb := alloc_below W (.cells [Value.int .i64 u1, Value.int .i64 u2].toArray 31)
                have hsA := hsW
                try (have hsl := kB.lt)
                obtain ⟨gA, hgA⟩ : ∃ g, W.heap.size = g := ⟨_, rfl⟩
                rw [hgA] at kA hsA ⊢
                clear hgA
                generalize W.alloc (.cells [Value.int .i64 u1, Value.int .i64 u2].toArray 31) = W at kA hb ⊢
                try replace kB := kB.below hb
                replace k8d := k8d.below hb
                replace kcd := CalB.below kcd hb
                replace hod := owns_below hod hb
                replace hmd := owns_below hmd hb
                replace hbd := BelX.of_belG hbd (BelG.of_below hb (by omega))
                replace hsW := Nat.le_trans hsW hb.size
                clear hb
                try clear hsl
                refine walkV_mv rfl (fun K hK => ?_)
                refine ⟨rfl, gives_appO (.tmp 114) (.tmp 116) 37 37 rfl rfl B2 31 (frV 0 0) 2 16 Tryz.underlying37 infoFrac rfl (by decide) rfl hod [Value.int .i64 u1, Value.int .i64 u2] gA kA rfl rfl (by simp [Value.oneCell']) (by unfold maxLen; omega) (by omega) (by omega) (fun g6 cap6 W ho6 hgr6 hbg6 hlt6 hor6 => hK _ _ (show ExT (fun k => (Value.slice am M.length cm).ownBlock = some k ∨ k = g5) S3 _ W from ExT.of_grown hgr6 hsW (fun k hk => .inl (.inr (Option.some.inj hk).symm))) ?_)⟩
                clear hK K
                have hM6 : ∀ k, (Value.slice am M.length cm).ownBlock = some k → g6 ≠ k := fun k hk e => by
                  rcases hor6 with h | h
                  · exact (HAM.out k hk).2.2 ((Option.some.inj h).trans e)
                  · have := (HAM.out k hk).2.1
                    omega
                try (replace kB : Blk W gB _ _ := (World.grownBy.block hgr6 gB kB.lt (fun e => by have h9 : gB = g5 := Option.some.inj e; omega)).trans kB)
                replace k8d : Blk W g8 _ _ := (World.grownBy.block hgr6 g8 k8d.lt (fun e => by have h9 : g8 = g5 := Option.some.inj e; omega)).trans k8d
                replace kcd : CalB W g9 k5 := (World.grownBy.block hgr6 g9 kcd.lt (fun e => by have h9 : g9 = g5 := Option.some.inj e; omega)).trans kcd
                replace hmd := hmd.kept hgr6 (by
                  cases hv : (Value.slice am M.length cm).ownBlock with
                  | none => exact .inl rfl
                  | some k => exact .inr (fun e => (HAM.out k hv).2.2 (Option.some.inj e).symm))
                replace hbd := BelX.of_belG hbd (BelG.of_grown hgr6 (by omega) (fun k hk => by rw [← Option.some.inj hk]; exact hg5B))
                replace hsW := Nat.le_trans hsW (World.grownBy.size hgr6)
                have HM6 := hid hM6
                clear hod hgr6 hor6 hlt6 kA hsA hM6
                rw [← show frsC (L ++ [x] ++ [v5]) = frsC (L ++ [x]) ++ [Value.int .i64 u1, Value.int .i64 u2] from by rw [frsC_append _ [v5], ← HU1.out, ← HU2.out]; rfl] at ho6
                have hod := ho6
                clear ho6
                (refine walkV_rd rfl (fun K hK => ?_); go_simp; refine hK _ ?_; clear hK K)
                refine walkV_mv rfl (fun K hK => ⟨rfl, gives_appO (.tmp 119) (.tmp 121) 37 37 rfl rfl B2 31 (frV 0 0) 2 16 Tryz.underlying37 infoFrac rfl (by decide) rfl hmd [Value.int .i64 u1, Value.int .i64 u2] gB kB rfl rfl (by simp [Value.oneCell']) (by unfold maxLen; omega) (by omega) (by omega) (fun g7 cap7 W ho7 hgr7 hbg7 hlt7 hor7 => hK _ _ (show ExT (fun k => (Value.slice am M.length cm).ownBlock = some k ∨ k = g5) S3 _ W from ExT.of_grown hgr7 hsW (fun k hk => .inl (.inl hk))) ?_)⟩)
                have hd67 : g7 ≠ g6 := fun e => by
                  rcases hor7 with h | h
                  · exact HM6.out g7 h e.symm
                  · have := (hod.lt g6 rfl).2
                    omega
                replace k8d : Blk W g8 _ _ := (World.grownBy.block hgr7 g8 k8d.lt (fun e => by have := (HAM.out g8 e.symm).1; omega)).trans k8d
                replace kcd : CalB W g9 k5 := (World.grownBy.block hgr7 g9 kcd.lt (fun e => by have := (HAM.out g9 e.symm).1; omega)).trans kcd
                replace hod := hod.kept hgr7 (.inr (fun e => HM6.out g6 e.symm rfl))
                replace hbd := BelX.of_belG hbd (BelG.of_grown hgr7 (by omega) (fun k hk => (HAM.out k hk).1))
                replace hsW := Nat.le_trans hsW (World.grownBy.size hgr7)
                rw [← show frsC (M ++ [v5]) = frsC M ++ [Value.int .i64 u1, Value.int .i64 u2] from by rw [frsC_append M [v5], ← HU1.out, ← HU2.out]; rfl] at ho7
                clear hmd hgr7 hor7 hlt7 kB hsB HM6
                have q2 := k8d.look 2 rfl
                have f2 := k8d.frozen
                (refine walkV_bt rfl (fun K hK => ?_); go_simp; refine hK _ _ ?_; clear hK K)
                (refine walkV_rd rfl (fun K hK => ?_); go_simp; refine hK _ ?_; clear hK K)
                have k9d := k8d.set 2 (.slice (some ⟨g6, 0, none⟩) (L.length + 1 + 1) cap6)
                have q3 := k9d.look 3 rfl
                have f3 := k9d.frozen
                clear q2 f2
                (refine walkV_bt rfl (fun K hK => ?_); go_simp; refine hK _ _ ?_; clear hK K)
                clear q3 f3
                refine walkV_nil ?_
                have hg9' : g9 ≠ g8 := by omega
                have HK8N := hid (k9d.set 3 (.slice (some ⟨g7, 0, none⟩) (M.length + 1) cap7))
                have HON := hid (ownsRow_setCell_below (ownsRow_setCell_below hod (a := ⟨g8, 2, none⟩) (show g8 < B2 by omega) (.slice (some ⟨g6, 0, none⟩) (L.length + 1 + 1) cap6)) (a := ⟨g8, 3, none⟩) (show g8 < B2 by omega) (.slice (some ⟨g7, 0, none⟩) (M.length + 1) cap7))
                have HMN := hid (ownsRow_setCell_below (ownsRow_setCell_below ho7 (a := ⟨g8, 2, none⟩) (show g8 < B2 by omega) (.slice (some ⟨g6, 0, none⟩) (L.length + 1 + 1) cap6)) (a := ⟨g8, 3, none⟩) (show g8 < B2 by omega) (.slice (some ⟨g7, 0, none⟩) (M.length + 1) cap7))
                have HKN := hid (Blk.other (Blk.other kcd (p := ⟨g8, 2, none⟩) hg9' (.slice (some ⟨g6, 0, none⟩) (L.length + 1 + 1) cap6)) (p := ⟨g8, 3, none⟩) hg9' (.slice (some ⟨g7, 0, none⟩) (M.length + 1) cap7))
                have HBN := hid ((hbd.set (p := ⟨g8, 2, none⟩) rfl (.slice (some ⟨g6, 0, none⟩) (L.length + 1 + 1) cap6)).set (p := ⟨g8, 3, none⟩) rfl (.slice (some ⟨g7, 0, none⟩) (M.length + 1) cap7))
                clear k8d k9d hod ho7 kcd hbd hsW
                have hl1 : (L ++ [x] ++ [v5]).length = L.length + 1 + 1 := by simp
                have hl2 : (M ++ [v5]).length = M.length + 1 := by simp
                have HL1 := hid hl1
                have HL2 := hid hl2
                clear hl1 hl2
                go_wp2
                go_roundw
                case rel => exact ⟨j + 1, k5, L ++ [x] ++ [v5], M ++ [v5], _, _, by go_num, by omega, HG9, HK8N, by rw [HL1.out]; exact HON, by rw [HL2.out]; exact HMN, fun k hk e => hd67 ((Option.some.inj hk).trans (Option.some.inj e).symm), HKN, HBN⟩
                case measure => simp [intOf] <;> omega
        case neg =>
          obtain rfl : i = j := by omega
          have hj2 : ¬ (i : Int) < (i : Int) := by omega
          have kR := HKR.out.below' hbx (show w.heap.size < g8 by omega)
          have hBw := HB1.out.trans (hbx.mono (show w.heap.size ≤ g8 by omega))
          have hkj := HKj.out
          have hgd := HGJ.out.k
          have HCG2 : Hid (cmpG c d = grS (cmpD c d) G i) := HCG
          have q0 := kR.look 0 rfl
          have q1 := kR.look 1 rfl
          have q2 := kR.look 2 rfl
          have q3 := kR.look 3 rfl
          have f2 := kR.frozen
          have k24 := hid ((((kR.set 0 (.slice none 0 0)).set 1 (.slice none 0 0)).set 2 (.slice none 0 0)).set 3 (.slice none 0 0))
          cases ok2 with
          | false =>
            have hE : cmpE c d = 5 := by
              have hn : cmpG c d = none := by
                rw [HCG2.out]
                cases hs : grS (cmpD c d) G i with
                | none => rfl
                | some y => rw [hs] at hgd; cases hgd
              rw [HCE.out, hn]
            have HE := hid hE
            have hk6 : Blk wr g9 #[.int .i64 5] 59 := hkj
            have x0 := hk6.look 0 rfl
            clear hE hgd hkj
            go_wp2_with fail
            have hd0 : CalT w.heap.size wr wr.drew := CalT.of_below (Below.refl wr.heap.size wr).drew
            have z0 := fun x : SubT (CalT w.heap.size) wr.drew => (((calT_pre _).trans hd0 x.b).blk hk6 (show g9 ≠ w.heap.size by omega)).look 0 rfl
            clear x0
            refine wp_walkJ (T := CalT w.heap.size) (calT_pre _) (.rd 0 (.rd 1 (.rd 2 (.mv 3 (.rd 4 (.inv [])))))) (by kernel_rfl) rfl (by kernel_rfl) (by kernel_rfl) ?_
            iterate 3 (refine walkJ_rd rfl (fun K hK => ?_); go_simp; refine hK _ ?_; clear hK K)
            clear z0 hd0
            have hdb : Below wr.heap.size wr wr.drew := (Below.refl wr.heap.size wr).drew
            have F2 := hid (Below.setCell (Below.setCell (Below.setCell (Below.setCell (hBw.trans (hdb.mono hBw.size)) (p := ⟨w.heap.size, 0, none⟩) (Nat.le_refl _) (.slice none 0 0)) (p := ⟨w.heap.size, 1, none⟩) (Nat.le_refl _) (.slice none 0 0)) (p := ⟨w.heap.size, 2, none⟩) (Nat.le_refl _) (.slice none 0 0)) (p := ⟨w.heap.size, 3, none⟩) (Nat.le_refl _) (.slice none 0 0))
            clear hdb
            (refine walkJ_mv rfl (fun K hK => ?_); go_simp; refine hK _ _ ((calT_pre _).trans (CalT.set _ _ ⟨w.heap.size, 0, none⟩ rfl (.slice none 0 0)) ((calT_pre _).trans (CalT.set _ _ ⟨w.heap.size, 1, none⟩ rfl (.slice none 0 0)) ((calT_pre _).trans (CalT.set _ _ ⟨w.heap.size, 2, none⟩ rfl (.slice none 0 0)) (CalT.set _ _ ⟨w.heap.size, 3, none⟩ rfl (.slice none 0 0))))) ?_; clear hK K)
            (refine walkJ_rd rfl (fun K hK => ?_); go_simp; refine hK _ ?_; clear hK K)
            refine walkJ_nil ?_
            go_wp2
            refine bodyPost_ret (v := .tuple #[.agg #[.slice none 0 0, .slice none 0 0, .slice none 0 0, .slice none 0 0], .int .i64 5]) ?_ rfl ⟨⟨none, 0, 0, none, 0, 0, none, 0, 0, none, 0, 0, by rw [HE.out], fun h => absurd (HE.out.symm.trans h) (by decide)⟩, F2.out⟩
            have r0 := k24.out.look 0 rfl
            have r1 := k24.out.look 1 rfl
            have r2 := k24.out.look 2 rfl
            have r3 := k24.out.look 3 rfl
            simp [results, Tryz.results75, go_sem, r0, r1, r2, r3]
          | true =>
            obtain ⟨hD, hS⟩ := HGJ.out.v rfl
            have hG : cmpG c d = some (L, M) := by rw [HCG2.out]; exact hS
            have hE := HCE.out
            rw [hG] at hE
            have HA : Hid (cmpA c d = (L, M)) := hid (by rw [HCA.out, hG]; rfl)
            have HV : Hid (cmpV c d = o) := hid (by rw [HCV.out, hD]; rfl)
            have p0 := HK8.out.look 0 rfl
            have p1 := HK8.out.look 1 rfl
            have p2 := HK8.out.look 2 rfl
            have p3 := HK8.out.look 3 rfl
            have c0 := (show Blk wr g9 #[.int .i64 0] 59 from hkj).look 0 rfl
            by_cases h48 : 48 < L.length
            case pos =>
              have HE : Hid (cmpE c d = 3) := hid (hE.trans (if_pos h48))
              have h48' : (48 : Int) < (L.length : Int) := by omega
              have F2 := hid (Below.setCell (Below.setCell (Below.setCell (Below.setCell hBw (p := ⟨w.heap.size, 0, none⟩) (Nat.le_refl _) (.slice none 0 0)) (p := ⟨w.heap.size, 1, none⟩) (Nat.le_refl _) (.slice none 0 0)) (p := ⟨w.heap.size, 2, none⟩) (Nat.le_refl _) (.slice none 0 0)) (p := ⟨w.heap.size, 3, none⟩) (Nat.le_refl _) (.slice none 0 0))
              clear hE hgd hkj hD hS hG
              go_wp2
              refine bodyPost_ret (v := .tuple #[.agg #[.slice none 0 0, .slice none 0 0, .slice none 0 0, .slice none 0 0], .int .i64 3]) ?_ rfl ⟨⟨none, 0, 0, none, 0, 0, none, 0, 0, none, 0, 0, by rw [HE.out], fun h => absurd (HE.out.symm.trans h) (by decide)⟩, F2.out⟩
              have r0 := k24.out.look 0 rfl
              have r1 := k24.out.look 1 rfl
              have r2 := k24.out.look 2 rfl
              have r3 := k24.out.look 3 rfl
              simp [results, Tryz.results75, go_sem, r0, r1, r2, r3]
            case neg =>
              have HE : Hid (cmpE c d = 0) := hid (hE.trans (if_neg h48))
              have h48' : ¬ (48 : Int) < (L.length : Int) := by omega
              have F2 := hid (Below.setCell (Below.setCell (Below.setCell (Below.setCell hBw (p := ⟨w.heap.size, 0, none⟩) (Nat.le_refl _) (.slice al i cl)) (p := ⟨w.heap.size, 1, none⟩) (Nat.le_refl _) (.slice au i cu)) (p := ⟨w.heap.size, 2, none⟩) (Nat.le_refl _) (.slice aa L.length ca)) (p := ⟨w.heap.size, 3, none⟩) (Nat.le_refl _) (.slice am M.length cm))
              have K25 := hid ((((kR.set 0 (.slice al i cl)).set 1 (.slice au i cu)).set 2 (.slice aa L.length ca)).set 3 (.slice am M.length cm))
              clear hE hgd hkj hD hS hG
              go_wp2
              refine bodyPost_ret (v := .tuple #[.agg #[.slice al i cl, .slice au i cu, .slice aa L.length ca, .slice am M.length cm], .int .i64 0]) ?_ rfl ⟨⟨al, i, cl, au, i, cu, aa, L.length, ca, am, M.length, cm, by rw [HE.out], fun _ => ?_⟩, F2.out⟩
              · have r0 := K25.out.look 0 rfl
                have r1 := K25.out.look 1 rfl
                have r2 := K25.out.look 2 rfl
                have r3 := K25.out.look 3 rfl
                simp [results, Tryz.results75, go_sem, r0, r1, r2, r3]
              · have hz0 : w0.heap.size = w.heap.size + 1 := by rw [← HW0.out]; simp
                have hH : ∀ k, k ≠ w.heap.size → ((((wr.setCell ⟨w.heap.size, 0, none⟩ (.slice al i cl)).setCell ⟨w.heap.size, 1, none⟩ (.slice au i cu)).setCell ⟨w.heap.size, 2, none⟩ (.slice aa L.length ca)).setCell ⟨w.heap.size, 3, none⟩ (.slice am M.length cm)).heap[k]? = wr.heap[k]? := fun k hk => (Below.heap_setCell _ _ _ k hk).trans ((Below.heap_setCell _ _ _ k hk).trans ((Below.heap_setCell _ _ _ k hk).trans (Below.heap_setCell _ _ _ k hk)))
                have hSz : ((((wr.setCell ⟨w.heap.size, 0, none⟩ (.slice al i cl)).setCell ⟨w.heap.size, 1, none⟩ (.slice au i cu)).setCell ⟨w.heap.size, 2, none⟩ (.slice aa L.length ca)).setCell ⟨w.heap.size, 3, none⟩ (.slice am M.length cm)).heap.size = wr.heap.size := by simp [World.setCell]
                have hlt : w.heap.size < B2 := by omega
                have hoa := ownsRow_setCell_below (ownsRow_setCell_below (ownsRow_setCell_below (ownsRow_setCell_below HOA.out (a := ⟨w.heap.size, 0, none⟩) hlt (.slice al i cl)) (a := ⟨w.heap.size, 1, none⟩) hlt (.slice au i cu)) (a := ⟨w.heap.size, 2, none⟩) hlt (.slice aa L.length ca)) (a := ⟨w.heap.size, 3, none⟩) hlt (.slice am M.length cm)
                have hom := ownsRow_setCell_below (ownsRow_setCell_below (ownsRow_setCell_below (ownsRow_setCell_below HOM.out (a := ⟨w.heap.size, 0, none⟩) hlt (.slice al i cl)) (a := ⟨w.heap.size, 1, none⟩) hlt (.slice au i cu)) (a := ⟨w.heap.size, 2, none⟩) hlt (.slice aa L.length ca)) (a := ⟨w.heap.size, 3, none⟩) hlt (.slice am M.length cm)
                rw [HA.out, HV.out, HGE0.out]
                refine ⟨SlR.mono (SlR.of_owns hoa) (Nat.le_of_lt hlt), B2, Nat.le_of_lt hlt, by rw [hSz]; exact hsx, hom, fun W hW => ⟨?_, ?_⟩⟩
                · have h1 := HVL.out
                  have hw1 := HG8.out
                  rw [hz0] at h1
                  refine SlR.mono (SlR.mid h1 (Nat.le_trans hbx.size (Nat.le_trans (Nat.le_of_eq hSz.symm) hW.size)) fun k hk1 hk2 => ?_) (Nat.zero_le _)
                  exact (hW.block k (by omega)).trans ((hH k (by omega)).trans (hbx.block k (by omega)))
                · have h2 := SlR.of_owns HO.out
                  have hw2 := HW2.out
                  unfold QsR
                  rw [HOL.out]
                  refine SlR.mono (SlR.mid h2 (Nat.le_trans HBX.out.size (Nat.le_trans (Nat.le_of_eq hSz.symm) hW.size)) fun k hk1 hk2 => ?_) (Nat.zero_le _)
                  exact (hW.block k (by omega)).trans ((hH k (by omega)).trans (HBX.out.block k (by omega) (by omega) (by omega)))

end Go.Proofs.YtfkclcoipadhmaaGreatDoor
