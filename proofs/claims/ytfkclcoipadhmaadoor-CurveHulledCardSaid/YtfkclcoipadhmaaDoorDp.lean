/- Walk of curve.Sum's closure. -/
import Derived.Test.YtfkclcoipadhmaaDoorDj
namespace Go.Proofs.YtfkclcoipadhmaaDoor
open Go.RowKit
attribute [local irreducible] seqS seqST walkV walkJ

/-- The sum's point at x. -/
def sumO (A C : List Pt) (x : Rat) : Option Pt := (atO A x).bind fun y => (atO C x).bind fun z => (fitO (y + z)).map fun s => (x, s)
/-- What a point's function hands back: the point counts only where calc stays without an error. -/
structure PtR (o : Option Pt) (g : Nat) (ok : Bool) (w : World) (r : Ending) (w' : World) : Prop where
  out : ∃ p : Pt, r = .returned (ptQ p) ∧ ((ok && o.isSome) = true → o = some p)
  cal : CalB w' g (ok && o.isSome)
  tr : CalT g w w'
theorem sum_cal (A C : List Pt) (x : Rat) (ok : Bool) (V1 V2 : Rat) (h1 : calK ok (atO A x) = true → atO A x = some V1) (h2 : calK (calK ok (atO A x)) (atO C x) = true → atO C x = some V2) :
    calK (calK (calK ok (atO A x)) (atO C x)) (fitO (V1 + V2)) = (ok && (sumO A C x).isSome) ∧ ((ok && (sumO A C x).isSome) = true → sumO A C x = some (x, calV (calK (calK ok (atO A x)) (atO C x)) (fitO (V1 + V2)))) := by
  unfold sumO
  cases ok with
  | false => exact ⟨rfl, fun h => by cases h⟩
  | true =>
    cases ha : atO A x with
    | none => exact ⟨rfl, fun h => by cases h⟩
    | some y =>
      rw [ha] at h1 h2
      have e1 : y = V1 := Option.some.inj (h1 rfl)
      cases hc : atO C x with
      | none => exact ⟨rfl, fun h => by cases h⟩
      | some z =>
        rw [hc] at h2
        have e2 : z = V2 := Option.some.inj (h2 rfl)
        subst e1 e2
        show calK true (fitO (y + z)) = (true && ((fitO (y + z)).map fun s => (x, s)).isSome) ∧ _
        cases hf : fitO (y + z) with
        | none => exact ⟨rfl, fun h => by
            simp only [Option.bind_some] at h
            rw [hf] at h
            cases h⟩
        | some s => exact ⟨rfl, fun _ => by
            simp only [Option.bind_some]
            rw [hf]
            rfl⟩

set_option maxHeartbeats 4000000 in
set_option maxRecDepth 100000 in
theorem sumPt_any (A C : List Pt) (x : Rat) (va vc : Value) (hA : CV A) (hC : CV C) (hdA : InDom A x) (hdC : InDom C x) (hx : fits x) (g ga gc : Nat) (ok : Bool) (w : World) (hpa : PsR 0 w va A) (hpc : PsR 0 w vc C)
    (kga : Blk w ga #[va] 22) (kgc : Blk w gc #[vc] 22) (_hga : ga ≠ g) (hgc : gc ≠ g) (hz : Z0 w) (hk : CalB w g ok) :
    Calls Tryd.prog 72 #[.pointer (some ⟨g, 0, none⟩), frQ x, .pointer (some ⟨ga, 0, none⟩), .pointer (some ⟨gc, 0, none⟩)] w fun r w' => PtR (sumO A C x) g ok w r w' := by
  have AT1 := hid (fun w h hz hk => at_any A x va hA hdA hx g ok w h hz hk)
  have AT2 := hid (fun k1 w h hz hk => at_any C x vc hC hdC hx g k1 w h hz hk)
  have HSC := hid (fun V1 V2 h1 h2 => sum_cal A C x ok V1 V2 h1 h2)
  obtain ⟨aa, ca, rfl, -⟩ := id hpa
  obtain ⟨ac, cc, rfl, -⟩ := id hpc
  unfold frQ at AT1 AT2 ⊢
  have k0 := (Blk.new w #[.int .i64 x.num, .int .i64 (x.den : Int)] 32).alloc (.cells #[.int .i64 0, .int .i64 0, .int .i64 0, .int .i64 0] 52)
  have k1 := Blk.new (w.alloc (.cells #[.int .i64 x.num, .int .i64 (x.den : Int)] 32)) #[.int .i64 0, .int .i64 0, .int .i64 0, .int .i64 0] 52
  have b0 := ((Below.refl w.heap.size w).alloc (Nat.le_refl _) (.cells #[.int .i64 x.num, .int .i64 (x.den : Int)] 32)).alloc (by simp) (.cells #[.int .i64 0, .int .i64 0, .int .i64 0, .int .i64 0] 52)
  rw [World.size_alloc] at k1
  have c0 := k0.look 0 rfl
  have c1 := k0.look 1 rfl
  have c2 := (kga.below b0).look 0 rfl
  go_enter Tryd.func72, Tryd.ntmps72
  go_wp2_with fail
  obtain ⟨w0, hw0⟩ : ∃ w0, (w.alloc (.cells #[.int .i64 x.num, .int .i64 (x.den : Int)] 32)).alloc (.cells #[.int .i64 0, .int .i64 0, .int .i64 0, .int .i64 0] 52) = w0 := ⟨_, rfl⟩
  rw [hw0] at k0 k1 b0 ⊢
  clear hw0 c0 c1 c2
  have hg : g < w.heap.size := hk.lt
  refine (AT1.out _ (PsR.below hpa b0) (hz.below b0) (CalB.below hk b0)).mono ?_
  rintro r w1 ⟨⟨V1, rfl, hf1, hv1⟩, hk1, ht1⟩
  have hsc := fun V2 h2 => HSC.out V1 V2 hv1 h2
  obtain ⟨K1, hK1⟩ : ∃ k, calK ok (atO A x) = k := ⟨_, rfl⟩
  rw [hK1] at hk1 hsc
  have AT3 := hid (AT2.out K1)
  have HSC2 := hid hsc
  clear AT1 AT2 HSC hv1 hsc hK1
  have t01 := (calT_pre g).trans (CalT.of_below b0) ht1
  have kx1 := CalT.blk ht1 k0 (by omega)
  have kr1 := CalT.blk ht1 k1 (by omega)
  have kc1 := CalT.blk ht1 (kgc.below b0) hgc
  have hz1 := (hz.below b0).calT (CalB.below hk b0) ht1
  have ps1 := (PsR.below hpc b0).calT (CalB.below hk b0) ht1
  clear k0 k1 kga kgc hz hk hpa hpc b0 ht1
  unfold frQ
  have kV := Blk.new w1 #[.int .i64 V1.num, .int .i64 (V1.den : Int)] 32
  have ba := alloc_below w1 (.cells #[.int .i64 V1.num, .int .i64 (V1.den : Int)] 32)
  have tA := CalT.alloc t01 (.cells #[.int .i64 V1.num, .int .i64 (V1.den : Int)] 32)
  have kxA := kx1.below ba
  have krA := kr1.below ba
  have kcA := kc1.below ba
  have hkA := CalB.below hk1 ba
  have hzA := hz1.below ba
  have psA := PsR.below ps1 ba
  have hg1 : g < w1.heap.size := hk1.lt
  clear kx1 kr1 kc1 hk1 hz1 ps1 t01 ba
  go_wp2_with fail
  obtain ⟨W, hW⟩ : ∃ W, w1.alloc (.cells #[.int .i64 V1.num, .int .i64 (V1.den : Int)] 32) = W := ⟨_, rfl⟩
  rw [hW] at kV kxA krA kcA hkA hzA psA tA ⊢
  clear hW
  have hd : CalT g W W.drew := CalT.of_below (Below.refl W.heap.size W).drew
  have tx := fun y : SubT (CalT g) W.drew => (calT_pre g).trans hd y.b
  have z0 := fun y : SubT (CalT g) W.drew => (CalT.blk (tx y) kxA (by omega)).look 0 rfl
  have z1 := fun y : SubT (CalT g) W.drew => (CalT.blk (tx y) kxA (by omega)).look 1 rfl
  have z2 := fun y : SubT (CalT g) W.drew => (CalT.blk (tx y) kV (by omega)).look 0 rfl
  have z3 := fun y : SubT (CalT g) W.drew => (CalT.blk (tx y) kV (by omega)).look 1 rfl
  have z4 := fun y : SubT (CalT g) W.drew => (CalT.blk (tx y) kcA hgc).look 0 rfl
  clear tx
  refine wp_walkJ (T := CalT g) (calT_pre g) (.rd 0 (.rd 1 (.rd 2 (.rd 3 (.rd 4 (.rd 5 (.mv 6 (.mv 7 (.rd 8 (.bt 9 (.inv []))))))))))) (by kernel_rfl) rfl (by kernel_rfl) (by kernel_rfl) ?_
  iterate 6 (refine walkJ_rd rfl (fun K hK => ?_); go_simp; refine hK _ ?_; clear hK K)
  clear z0 z1 z2 z3 z4
  have hbd := (Below.refl W.heap.size W).drew
  have hkd : CalB W.drew g K1 := CalB.below hkA hbd
  have hzd := hzA.below hbd
  have psd := PsR.below psA hbd
  (refine walkJ_mv rfl (fun K hK => ?_); go_simp; refine (AT3.out _ psd hzd hkd).mono ?_; rintro e w3 ⟨⟨V2, rfl, hf2, hv2⟩, hk3, ht3⟩; refine ⟨_, rfl, hK _ _ ht3 ?_⟩; clear hK K)
  have hz3 := hzd.calT hkd ht3
  have hsc := HSC2.out V2 hv2
  obtain ⟨K2, hK2⟩ : ∃ k, calK K1 (atO C x) = k := ⟨_, rfl⟩
  rw [hK2] at hk3 hsc
  have AD := hid (calc_add V1 V2 hf1 hf2 g K2 w3 hz3 hk3)
  rw [(cop_cal K2 (V1 + V2)).1, (cop_cal K2 (V1 + V2)).2, hsc.1] at AD
  have hout := hsc.2
  obtain ⟨K3, hK3⟩ : ∃ k, (ok && (sumO A C x).isSome) = k := ⟨_, rfl⟩
  obtain ⟨V3, hV3⟩ : ∃ k, calV K2 (fitO (V1 + V2)) = k := ⟨_, rfl⟩
  rw [hK3] at AD hout
  rw [hV3] at AD hout
  have HOUT := hid hout
  have HK3 := hid hK3
  unfold frQ at AD ⊢
  clear hsc hout hK2 hK3 hV3 hv2 hf1 hf2 HSC2
  (refine walkJ_mv rfl (fun K hK => ?_); go_simp; refine AD.out.mono ?_; rintro e w4 ⟨rfl, hk4, ht4⟩; refine ⟨_, rfl, hK _ _ ht4 ?_⟩; clear hK K)
  have hne : w.heap.size + 1 ≠ g := by omega
  have t4 := (calT_pre g).trans hd ((calT_pre g).trans ht3 ht4)
  have kr4 := CalT.blk t4 krA hne
  have hw4 := (calT_pre g).trans tA t4
  clear hd t4 krA kxA kcA tA hkA hzA psA hkd hzd psd ht3 ht4 hz3 hk3 kV AD
  obtain ⟨n1, hn1⟩ : ∃ n, x.num = n := ⟨_, rfl⟩
  obtain ⟨d1, hd1⟩ : ∃ n, (x.den : Int) = n := ⟨_, rfl⟩
  obtain ⟨n, hn⟩ : ∃ n, V3.num = n := ⟨_, rfl⟩
  obtain ⟨d, hd⟩ : ∃ n, (V3.den : Int) = n := ⟨_, rfl⟩
  rw [hn1, hd1, hn, hd]
  have HPV : Hid (ptQ (x, V3) = .agg #[.int .i64 n1, .int .i64 d1, .int .i64 n, .int .i64 d]) := hid (by unfold ptQ; rw [← hn1, ← hd1, ← hn, ← hd])
  iterate 1 (refine walkJ_rd rfl (fun K hK => ?_); go_simp; refine hK _ ?_; clear hK K)
  have q0 := kr4.look 0 rfl
  have q1 := kr4.look 1 rfl
  have q2 := kr4.look 2 rfl
  have q3 := kr4.look 3 rfl
  have f2 := kr4.frozen
  have k24 := (((kr4.set 0 (.int .i64 n1)).set 1 (.int .i64 d1)).set 2 (.int .i64 n)).set 3 (.int .i64 d)
  have F1 := hid (Blk.other (Blk.other (Blk.other (Blk.other hk4 (p := ⟨w.heap.size + 1, 0, none⟩) (Ne.symm hne) (.int .i64 n1)) (p := ⟨w.heap.size + 1, 1, none⟩) (Ne.symm hne) (.int .i64 d1)) (p := ⟨w.heap.size + 1, 2, none⟩) (Ne.symm hne) (.int .i64 n)) (p := ⟨w.heap.size + 1, 3, none⟩) (Ne.symm hne) (.int .i64 d))
  have hS1 : w.heap.size ≤ w.heap.size + 1 := by omega
  have F2 := hid ((((hw4.setOwn (p := ⟨w.heap.size + 1, 0, none⟩) hS1 (.int .i64 n1)).setOwn (p := ⟨w.heap.size + 1, 1, none⟩) hS1 (.int .i64 d1)).setOwn (p := ⟨w.heap.size + 1, 2, none⟩) hS1 (.int .i64 n)).setOwn (p := ⟨w.heap.size + 1, 3, none⟩) hS1 (.int .i64 d))
  have r0 : _ = some (Value.int .i64 n1) := k24.look 0 rfl
  have r1 : _ = some (Value.int .i64 d1) := k24.look 1 rfl
  have r2 : _ = some (Value.int .i64 n) := k24.look 2 rfl
  have r3 : _ = some (Value.int .i64 d) := k24.look 3 rfl
  have R0 := hid r0
  have R1 := hid r1
  have R2 := hid r2
  have R3 := hid r3
  clear hn1 hd1 hn hd hk4 kr4 k24 r0 r1 r2 r3 hw4
  (refine walkJ_bt rfl (fun K hK => ?_); go_simp; refine hK _ _ ?_; clear hK K)
  refine walkJ_nil ?_
  go_wp2
  refine bodyPost_ret (v := .agg #[.int .i64 n1, .int .i64 d1, .int .i64 n, .int .i64 d]) ?_ rfl ⟨⟨(x, V3), by rw [HPV.out], fun hh => HOUT.out (by rw [← HK3.out]; exact hh)⟩, by rw [HK3.out]; exact F1.out, F2.out⟩
  have r0 := R0.out
  have r1 := R1.out
  have r2 := R2.out
  have r3 := R3.out
  simp [results, Tryd.results72, go_sem, r0, r1, r2, r3]

end Go.Proofs.YtfkclcoipadhmaaDoor
