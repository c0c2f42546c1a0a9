/- Walk of curve.Compose. -/
import Derived.Test.YtfkclcoipadhmaaGreatDoorEm
import Derived.Test.YtfkclcoipadhmaaGreatDoorEo
import Derived.Test.YtfkclcoipadhmaaGreatDoorDu
namespace Go.Proofs.YtfkclcoipadhmaaGreatDoor
open Go.RowKit
attribute [local irreducible] seqS seqST walkV walkJ

/-- What Compose hands back. -/
def cmpG (A B : List Pt) : List Rat := gridQ (A.map (·.1) ++ B.map (·.2)) (lesQ (endQ A).1 (endQ B).2)
def cpsE (c d : List P4) : Int := if RV c ∧ RV d then (if 48 < (cmpG (toQ c) (toQ d)).length then 3 else madE (cmpO (toQ c) (toQ (d.map invP))) (cmpG (toQ c) (toQ d))) else 2
def cpsL (c d : List P4) : List Pt := if RV c ∧ RV d then (if 48 < (cmpG (toQ c) (toQ d)).length then [] else madL (cmpO (toQ c) (toQ (d.map invP))) (cmpG (toQ c) (toQ d))) else []
theorem fun_y : FunPt 53 (·.2) := ⟨enters_of Tryz.func53 (by kernel_rfl) rfl, ordinate_any⟩
theorem end_sw {c : List Pt} (h : 1 ≤ c.length) : endQ (c.map swP) = swP (endQ c) := by
  unfold endQ
  rw [List.length_map, List.getD_eq_getElem?_getD, List.getElem?_map, List.getD_eq_getElem?_getD, List.getElem?_eq_getElem (by omega)]
  rfl
theorem cmpG_mem {A : List Pt} {d : List P4} (hA : CV A) (hd : RV d) {x : Rat} (hx : x ∈ cmpG A (toQ d)) : InDom A x ∧ InDom (toQ (d.map invP)) x ∧ fits x := by
  have hC := rv_cv hd
  obtain ⟨h1, h2⟩ := ((gridQ_grid _ _).2 x).1 hx
  obtain ⟨l1, l2⟩ := lesQ_le (endQ A).1 (endQ (toQ d)).2
  have h3 : 0 ≤ x ∧ fits x := by
    rcases List.mem_append.1 h1 with h | h
    · obtain ⟨i, hi, rfl⟩ := mem_get h
      exact ⟨(hA.nonneg hi).1, (hA.fit i hi).1⟩
    · obtain ⟨i, hi, rfl⟩ := mem_get h
      exact ⟨(hC.nonneg hi).2, (hC.fit i hi).2⟩
  refine ⟨⟨h3.1, Rat.le_trans h2 l1⟩, ⟨h3.1, ?_⟩, h3.2⟩
  have e := end_sw (c := toQ d) (by have := hC.two; omega)
  rw [← toQ_inv] at e
  unfold endQ at e
  rw [e]
  exact Rat.le_trans h2 l2

set_option maxHeartbeats 8000000 in
set_option maxRecDepth 100000 in
theorem Compose_any (c d : List P4) (vc vd : Value) (w : World) (hc : P4R 0 w vc c) (hd : P4R 0 w vd d) (hz : Z0 w) :
    Calls Tryz.prog 16 #[vc, vd] w fun r w' => (∃ v, r = .returned (.tuple #[v, .int .i64 (cpsE c d)]) ∧ PsR w.heap.size w' v (cpsL c d)) ∧ Below w.heap.size w w' := by
  have VC := hid (fun w h hz => cValid_any c vc w h hz)
  have VD := hid (fun w h hz => cValid_any d vd w h hz)
  obtain ⟨ac, cc, rfl, -⟩ := id hc
  obtain ⟨ad, cd, rfl, -⟩ := id hd
  obtain ⟨E, hE⟩ : ∃ E, cpsE c d = E := ⟨_, rfl⟩
  obtain ⟨R, hR⟩ : ∃ R, cpsL c d = R := ⟨_, rfl⟩
  rw [hE, hR]
  have HE := hid hE
  have HR := hid hR
  have k0 := Blk.new w #[.slice ac c.length cc] 22
  have b0 := alloc_below w (.cells #[.slice ac c.length cc] 22)
  have c0 := k0.look 0 rfl
  clear hE hR
  go_enter Tryz.func16, Tryz.ntmps16
  go_wp2_with fail
  obtain ⟨w0, hw0⟩ : ∃ w0, w.alloc (.cells #[.slice ac c.length cc] 22) = w0 := ⟨_, rfl⟩
  rw [hw0] at k0 b0 ⊢
  clear hw0 c0
  refine (VC.out _ (hc.below b0) (hz.below b0)).mono ?_
  rintro r w1 ⟨rfl, hb1⟩
  have hB1 := b0.trans (hb1.mono b0.size)
  have k01 := k0.below hb1
  have hc1 := (hc.below b0).below hb1
  have hd1 := (hd.below b0).below hb1
  have hz1 := (hz.below b0).below hb1
  clear VC hb1 k0 b0 hc hd hz
  by_cases hrc : RV c
  case neg =>
    rw [decide_eq_false hrc]
    have e1 : E = 2 := by rw [← HE.out]; exact if_neg (fun h => hrc h.1)
    have e2 : R = [] := by rw [← HR.out]; exact if_neg (fun h => hrc h.1)
    subst e1 e2
    go_wp2
    go_ret2
    exact ⟨⟨_, rfl, SlR.nil _ _⟩, hB1⟩
  rw [decide_eq_true hrc]
  have HRC := hid hrc
  clear hrc
  go_wp2_with fail
  refine (VD.out _ hd1 hz1).mono ?_
  rintro r w2 ⟨rfl, hb2⟩
  have hB2 := hB1.trans (hb2.mono hB1.size)
  have k02 := k01.below hb2
  have hc2 := hc1.below hb2
  have hd2 := hd1.below hb2
  have hz2 := hz1.below hb2
  clear VD hb2 k01 hc1 hd1 hz1 hB1
  by_cases hrd : RV d
  case neg =>
    rw [decide_eq_false hrd]
    have e1 : E = 2 := by rw [← HE.out]; exact if_neg (fun h => hrd h.2)
    have e2 : R = [] := by rw [← HR.out]; exact if_neg (fun h => hrd h.2)
    subst e1 e2
    go_wp2
    go_ret2
    exact ⟨⟨_, rfl, SlR.nil _ _⟩, hB2⟩
  rw [decide_eq_true hrd]
  have HRD := hid hrd
  have e1 : cpsE c d = if 48 < (cmpG (toQ c) (toQ d)).length then 3 else madE (cmpO (toQ c) (toQ (d.map invP))) (cmpG (toQ c) (toQ d)) := if_pos ⟨HRC.out, hrd⟩
  have e2 : cpsL c d = if 48 < (cmpG (toQ c) (toQ d)).length then [] else madL (cmpO (toQ c) (toQ (d.map invP))) (cmpG (toQ c) (toQ d)) := if_pos ⟨HRC.out, hrd⟩
  rw [HE.out] at e1
  rw [HR.out] at e2
  have HE1 := hid e1
  have HE2 := hid e2
  have qc := P4R.toQ hc2 HRC.out
  have qd := P4R.toQ hd2 hrd
  have vc := rv_cv HRC.out
  have vd := rv_cv hrd
  have lc := toQ_len c
  have ld := toQ_len d
  have HMEM := hid (fun x hx => cmpG_mem (x := x) vc hrd hx)
  have HK0 := hid (rv_cv (rv_inv hrd))
  have HVC := hid vc
  have hl48 : d.length ≤ 48 := hrd.2.1
  clear e1 e2 HE HR hrd hc2
  generalize toQ c = C at qc vc lc HE1 HE2 HMEM HVC
  generalize hD : toQ d = D at qd vd ld HE1 HE2 HMEM
  rw [← lc] at qc k02 ⊢
  have EC := hid (fun w h => end_any C (.slice ac C.length cc) w h (by have := vc.two; omega) vc.most)
  have ED := hid (fun w h => end_any D (.slice ad D.length cd) w h (by have := vd.two; omega) vd.most)
  obtain ⟨PC, hPC⟩ : ∃ p, C.getD (C.length - 1) (0, 0) = p := ⟨_, rfl⟩
  obtain ⟨PD, hPD⟩ : ∃ p, D.getD (D.length - 1) (0, 0) = p := ⟨_, rfl⟩
  have fc : fits PC.1 := by rw [← hPC]; exact (vc.fit _ (by have := vc.two; omega)).1
  have fd : fits PD.2 := by rw [← hPD]; exact (vd.fit _ (by have := vd.two; omega)).2
  have LS := hid (fun w => lesser_any PC.1 PD.2 fc fd w)
  have hls : (if PD.2 < PC.1 then PD.2 else PC.1) = lesQ (endQ C).1 (endQ D).2 := by unfold lesQ endQ; rw [hPC, hPD]
  have hlf : fits (lesQ (endQ C).1 (endQ D).2) := by rw [← hls]; exact lesQ_fits fc fd
  rw [hls] at LS
  rw [hPC] at EC
  rw [hPD] at ED
  have eG : cmpG C D = gridQ (C.map (·.1) ++ D.map (·.2)) (lesQ (endQ C).1 (endQ D).2) := rfl
  have ME := hid (fun w h1 h2 => merged_any C D 52 53 (·.1) (·.2) (lesQ (endQ C).1 (endQ D).2) (.slice ac C.length cc) (.slice ad D.length cd) w h1 h2 (by have := vc.two; omega) vc.most vd.most fun_x fun_y (fun i hi => (vc.fit i hi).1) (fun i hi => (vd.fit i hi).2) hlf)
  have HGR : Hid (∀ l, GridOf l (C.map (·.1) ++ D.map (·.2)) (lesQ (endQ C).1 (endQ D).2) → l = cmpG C D) := hid (fun l h => by rw [eG]; exact gridQ_of h)
  generalize lesQ (endQ C).1 (endQ D).2 = M at LS ME HGR
  have HLD := hid ld
  have HD2 := hid hd2
  rw [← ld] at qd
  have ede : d.length = D.length := ld.symm
  rw [ede] at hd2 hl48 ⊢
  clear eG hls hlf hPC hPD fc fd vc vd lc ld hD
  unfold ptQ at EC ED
  unfold frQ at LS ME
  have hfx := field_x
  have hfy := field_y
  go_wp2_with fail
  have hdd := (Below.refl w2.heap.size w2).drew
  have z0 := fun x : SubT (Below w2.heap.size) w2.drew => (k02.below (hdd.trans x.b)).look 0 rfl
  refine wp_walkJ (T := Below (w2.heap.size)) (belowV_pre _) (.rd 0 (.rd 1 (.rd 2 (.rd 5 (.mv 3 (.rd 4 (.mv 6 (.rd 7 (.mv 8 (.bt 9 (.rd 10 (.inv [])))))))))))) (by kernel_rfl) rfl (by kernel_rfl) (by kernel_rfl) ?_
  iterate 4 (refine walkJ_rd rfl (fun K hK => ?_); go_simp; refine hK _ ?_; clear hK K)
  clear z0
  (refine walkJ_mv rfl (fun K hK => ?_); go_simp; refine (EC.out _ (qc.below hdd)).mono ?_; rintro r w3 ⟨rfl, hb3⟩; refine ⟨_, rfl, hK _ _ hb3 ?_⟩; clear hK K)
  iterate 1 (refine walkJ_rd rfl (fun K hK => ?_); go_simp; refine hK _ ?_; clear hK K)
  have b3 := hdd.trans hb3
  clear hb3
  (refine walkJ_mv rfl (fun K hK => ?_); go_simp; refine (ED.out _ (qd.below b3)).mono ?_; rintro r w4 ⟨rfl, hb4⟩; refine ⟨_, rfl, hK _ _ (hb4.mono b3.size) ?_⟩; clear hK K)
  iterate 1 (refine walkJ_rd rfl (fun K hK => ?_); go_simp; refine hK _ ?_; clear hK K)
  have b4 := b3.trans (hb4.mono b3.size)
  clear hb4 b3
  (refine walkJ_mv rfl (fun K hK => ?_); go_simp; refine (LS.out _).mono ?_; rintro r w5 ⟨rfl, hb5⟩; refine ⟨_, rfl, hK _ _ (hb5.mono b4.size) ?_⟩; clear hK K)
  have b5 := b4.trans (hb5.mono b4.size)
  clear hb5 b4
  (refine walkJ_bt rfl (fun K hK => ?_); go_simp; refine (ME.out _ (qc.below b5) (qd.below b5)).mono ?_; rintro r w6 ⟨⟨v, l, rfl, hq, hg, -⟩, hb6⟩; refine ⟨_, rfl, hK _ _ ?_⟩; clear hK K)
  iterate 1 (refine walkJ_rd rfl (fun K hK => ?_); go_simp; refine hK _ ?_; clear hK K)
  refine walkJ_nil ?_
  have b6 := b5.trans (hb6.mono b5.size)
  have hB6 := hB2.trans (b6.mono hB2.size)
  have k06 := k02.below b6
  have hq6 := QsR.mono hq (Nat.zero_le _)
  have pc6 := qc.below b6
  have hd6 := hd2.below b6
  have hz6 := hz2.below b6
  obtain rfl := HGR.out l hg
  clear EC ED LS ME HGR hg hq hb6 b5 b6 hdd qc qd hd2 hz2 k02 hB2
  obtain ⟨G, hG⟩ : ∃ G, cmpG C D = G := ⟨_, rfl⟩
  rw [hG] at hq6 HE1 HE2 HMEM
  obtain ⟨ag, cg, rfl, -⟩ := id hq6
  obtain ⟨n, hn⟩ : ∃ n, G.length = n := ⟨_, rfl⟩
  have HQ := hid hq6
  rw [hn] at HE1 HE2 HQ ⊢
  clear hq6 hG
  by_cases h48 : 48 < n
  case pos =>
    have h48i : (48 : Int) < (n : Int) := by omega
    have e1 : E = 3 := by rw [HE1.out]; exact if_pos h48
    have e2 : R = [] := by rw [HE2.out]; exact if_pos h48
    subst e1 e2
    clear hn
    go_wp2
    go_ret2
    exact ⟨⟨_, rfl, SlR.nil _ _⟩, hB6⟩
  have h48i : ¬ (48 : Int) < (n : Int) := by omega
  have e1 : E = madE (cmpO C (toQ (d.map invP))) G := by rw [HE1.out]; exact if_neg h48
  have e2 : R = madL (cmpO C (toQ (d.map invP))) G := by rw [HE2.out]; exact if_neg h48
  have HN := hid hn
  have IN := hid (inverse_any d (.slice ad D.length cd) w6 hd6 (by have := HLD.out; omega))
  clear hn hd6 HE1 HE2
  go_wp2_with fail
  refine IN.out.mono ?_
  rintro r w7 ⟨⟨vb, rfl, hvb⟩, hb7⟩
  have kb := Blk.new w7 #[vb] 22
  have ba := alloc_below w7 (.cells #[vb] 22)
  have b8 := hb7.trans (ba.mono hb7.size)
  have k08 := k06.below b8
  have pc8 := pc6.below b8
  have hq8 := HQ.out.below b8
  have hz8 := hz6.below b8
  have hB8 := hB6.trans (b8.mono hB6.size)
  have pb8 := (P4R.toQ (P4R.below (SlR.mono hvb (Nat.zero_le _)) ba) (rv_inv HRD.out))
  obtain ⟨ab, cb, rfl, -⟩ := id hvb
  have hlm : (d.map invP).length = D.length := by rw [List.length_map, HLD.out]
  rw [hlm] at kb k08 pc8 hq8 hz8 hB8 pb8 ba ⊢
  clear hb7 hvb k06 pc6 hz6 hB6 ba b8 IN HQ
  obtain ⟨w8, hw8⟩ : ∃ w8, w7.alloc (.cells #[.slice ab D.length cb] 22) = w8 := ⟨_, rfl⟩
  obtain ⟨gb, hgb⟩ : ∃ g, w7.heap.size = g := ⟨_, rfl⟩
  rw [hw8, hgb] at kb
  rw [hw8] at k08 pc8 hq8 hz8 hB8 pb8
  have MA := hid (made_c G 56 #[.pointer (some ⟨gb, 0, none⟩), .pointer (some ⟨w.heap.size, 0, none⟩)] (cmpO C (toQ (d.map invP))) (.slice ag n cg) w8 hq8 hz8 (by have := HN.out; omega)
    ⟨enters_of Tryz.func56 (by kernel_rfl) rfl, fun x hx g ok W hg hb hz hk => by
      obtain ⟨i1, i2, i3⟩ := HMEM.out x hx
      exact cmpPt_any C (toQ (d.map invP)) x _ _ HVC.out HK0.out i1 i2 i3 g w.heap.size gb ok W (PsR.below pc8 hb) (PsR.below pb8 hb) (k08.below hb) (kb.below hb) (by have := k08.lt; omega) (by have := kb.lt; omega) hz hk⟩)
  rw [← e1, ← e2] at MA
  clear e1 e2 pb8 pc8 kb k08 hq8 hz8 HMEM HK0 HVC HLD HD2 HRC HRD HN
  go_wp2_with fail
  clear hw8 hgb
  refine MA.out.mono ?_
  rintro r w9 ⟨⟨v, rfl, hv⟩, hb9⟩
  have hv2 := PsR.mono hv hB8.size
  have hB9 := hB8.trans (hb9.mono hB8.size)
  clear MA hv hb9 hB8
  go_wp2
  go_ret2
  exact ⟨⟨_, rfl, hv2⟩, hB9⟩

end Go.Proofs.YtfkclcoipadhmaaGreatDoor
