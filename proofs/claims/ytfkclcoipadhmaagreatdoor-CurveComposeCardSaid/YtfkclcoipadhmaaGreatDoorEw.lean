/- Walk of trankref02.Compose. -/
import Derived.Test.YtfkclcoipadhmaaGreatDoorEu
import Derived.Test.YtfkclcoipadhmaaGreatDoorEn
namespace Go.Proofs.YtfkclcoipadhmaaGreatDoor
open Go.RowKit
attribute [local irreducible] seqS seqST walkV walkJ

theorem cmpG_eq {C D : List Pt} (h : 1 ≤ D.length) : cmpG C D = comG C (D.map swP) := by
  unfold cmpG comG
  rw [end_sw h, List.map_map]
  rfl
theorem cmpO_one {A K : List Pt} {x : Rat} (h : atO K x = none) : cmpO A K x = none := by unfold cmpO; rw [h]; rfl
theorem cmpO_two {A K : List Pt} {x y : Rat} (h : atO K x = some y) (h2 : atO A x = none) : cmpO A K x = none := by unfold cmpO; rw [h, h2]; rfl
theorem cmpO_three {A K : List Pt} {x y z : Rat} (h : atO K x = some y) (h2 : atO A x = some z) : cmpO A K x = some (y, z) := by unfold cmpO; rw [h, h2]; rfl

set_option maxHeartbeats 8000000 in
set_option maxRecDepth 100000 in
theorem rCompose_any (c d : List P4) (vc vd : Value) (w : World) (hc : P4R 0 w vc c) (hd : P4R 0 w vd d) :
    Calls Tryz.prog 17 #[vc, vd] w fun r w' => (∃ v, r = .returned (.tuple #[v, .int .i64 (cpsE c d)]) ∧ PsR w.heap.size w' v (cpsL c d)) ∧ Below w.heap.size w w' := by
  have VC := hid (r2Valid_any c vc w hc)
  have VD := hid (fun w h => r2Valid_any d vd w h)
  obtain ⟨ac, cc, rfl, -⟩ := id hc
  obtain ⟨ad, cd, rfl, -⟩ := id hd
  obtain ⟨E, hE⟩ : ∃ E, cpsE c d = E := ⟨_, rfl⟩
  obtain ⟨R, hR⟩ : ∃ R, cpsL c d = R := ⟨_, rfl⟩
  rw [hE, hR]
  have HE := hid hE
  have HR := hid hR
  clear hE hR
  go_enter Tryz.func17, Tryz.ntmps17
  go_wp2_with fail
  refine VC.out.mono ?_
  rintro r w1 ⟨rfl, hB⟩
  have hc1 := hc.below hB
  have hd1 := hd.below hB
  clear VC hc hd
  by_cases hrc : RV c
  case neg =>
    rw [decide_eq_false hrc]
    have e1 : E = 2 := by rw [← HE.out]; exact if_neg (fun h => hrc h.1)
    have e2 : R = [] := by rw [← HR.out]; exact if_neg (fun h => hrc h.1)
    subst e1 e2
    go_wp2
    go_ret2
    exact ⟨⟨_, rfl, SlR.nil _ _⟩, hB⟩
  rw [decide_eq_true hrc]
  have HRC := hid hrc
  clear hrc
  go_wp2_with fail
  refine (VD.out _ hd1).mono ?_
  rintro r w2 ⟨rfl, hb2⟩
  replace hB := hB.trans (hb2.mono hB.size)
  have hc2 := hc1.below hb2
  have hd2 := hd1.below hb2
  clear VD hb2 hc1 hd1
  by_cases hrd : RV d
  case neg =>
    rw [decide_eq_false hrd]
    have e1 : E = 2 := by rw [← HE.out]; exact if_neg (fun h => hrd h.2)
    have e2 : R = [] := by rw [← HR.out]; exact if_neg (fun h => hrd h.2)
    subst e1 e2
    go_wp2
    go_ret2
    exact ⟨⟨_, rfl, SlR.nil _ _⟩, hB⟩
  rw [decide_eq_true hrd]
  have HRD := hid hrd
  have hrk := rv_inv hrd
  have pc := P4R.toQ hc2 HRC.out
  have hvc := rv_cv HRC.out
  have hvk := rv_cv hrk
  have lc := toQ_len c
  have hse : cpsE c d = if 48 < (cmpG (toQ c) (toQ d)).length then 3 else madE (cmpO (toQ c) (toQ (d.map invP))) (cmpG (toQ c) (toQ d)) := if_pos ⟨HRC.out, hrd⟩
  have hsl : cpsL c d = if 48 < (cmpG (toQ c) (toQ d)).length then [] else madL (cmpO (toQ c) (toQ (d.map invP))) (cmpG (toQ c) (toQ d)) := if_pos ⟨HRC.out, hrd⟩
  rw [HE.out] at hse
  rw [HR.out] at hsl
  have HMEM := hid (fun x hx => cmpG_mem (x := x) hvc hrd hx)
  have hGe := cmpG_eq (C := toQ c) (by have := (rv_cv hrd).two; omega : 1 ≤ (toQ d).length)
  rw [← toQ_inv] at hGe
  have HVC := hid hvc
  have HVK := hid hvk
  have TU := hid (fun w h => turned_any d (.slice ad d.length cd) w h HRD.out.2.1)
  have HTQ : Hid (∀ v w, P4R 0 w v (d.map invP) → PsR 0 w v (toQ (d.map invP))) := hid (fun v w h => P4R.toQ h hrk)
  generalize d.map invP = ki at hGe TU HTQ hse hsl HMEM hvk HVK hrk
  generalize toQ ki = K0 at hGe HTQ hse hsl HMEM hvk HVK
  generalize toQ c = C at pc hvc lc hse hsl HMEM HVC hGe
  rw [← lc] at pc ⊢
  have GR := hid (fun v w h k => grounds_any C K0 (.slice ac C.length cc) v w hvc hvk h k)
  rw [← hGe] at GR
  obtain ⟨G, hG⟩ : ∃ G, cmpG C (toQ d) = G := ⟨_, rfl⟩
  rw [hG] at GR hse hsl HMEM
  have HSE := hid hse
  have HSL := hid hsl
  obtain ⟨F, hF⟩ : ∃ F, cmpO C K0 = F := ⟨_, rfl⟩
  have HF := hid hF
  rw [hF] at HSE HSL
  clear hse hsl lc hG hF hvc hvk hGe HE HR HRC hrk hc2
  go_wp2_with fail
  refine (TU.out _ hd2).mono ?_
  rintro r wt ⟨⟨vt, rfl, qt⟩, hbt⟩
  replace hB := hB.trans (hbt.mono hB.size)
  have pct := pc.below hbt
  have hdt := hd2.below hbt
  have pkt := HTQ.out _ _ (SlR.mono qt (Nat.zero_le _))
  clear pc hd2 qt hbt
  go_wp2_with fail
  refine (GR.out _ _ pct pkt).mono ?_
  rintro r w3 ⟨⟨vg, rfl, hg⟩, hb3⟩
  replace hB := hB.trans (hb3.mono hB.size)
  have pc3 := hid (pct.below hb3)
  have pd3 := hid (hdt.below hb3)
  obtain ⟨ag, cg, rfl, hcg1, hcg2, hgg⟩ := hg
  unfold maxLen at hcg2
  obtain ⟨n, hn⟩ : ∃ n, G.length = n := ⟨_, rfl⟩
  have HN := hid hn
  rw [hn] at hcg1 HSE HSL ⊢
  have HGG := hid hgg
  clear GR hb3 pct hdt pkt hn hgg
  by_cases h48 : 48 < n
  case pos =>
    have h48i : (48 : Int) < (n : Int) := by omega
    have e1 : E = 3 := by rw [HSE.out, if_pos h48]
    have e2 : R = [] := by rw [HSL.out, if_pos h48]
    subst e1 e2
    go_wp2
    go_ret2
    exact ⟨⟨_, rfl, SlR.nil _ _⟩, hB⟩
  have h48i : ¬ (48 : Int) < (n : Int) := by omega
  have e1 : E = madE F G := by rw [HSE.out, if_neg h48]
  have e2 : R = madL F G := by rw [HSL.out, if_neg h48]
  have HX : Hid (ptsO F G n = none → E = 5 ∧ R = []) := hid (fun hh => by rw [e1, e2]; unfold madE madL; rw [HN.out, hh]; exact ⟨rfl, rfl⟩)
  have HY : Hid (∀ o, ptsO F G n = some o → E = slpE (ofQ o) ∧ R = nrmL (ofQ o)) := hid (fun o hh => by rw [e1, e2]; unfold madE madL; rw [HN.out, hh]; exact ⟨rfl, rfl⟩)
  have HB := hid hB
  obtain ⟨B, hBs⟩ : ∃ B, w3.heap.size = B := ⟨_, rfl⟩
  have HBS := hid hBs
  clear e1 e2 hBs HSE HSL hB
  go_wp2_with fail
  go_loopw [7, 30] (fun y x wr => ∃ i : Nat, x = .int .i64 i ∧ i ≤ n ∧ (∃ o, ptsO F G i = some o ∧ o.length = i ∧ Hid (wr.ownsRow B 44 4 y i (ptsC o))) ∧ Below B w3 wr ∧ B ≤ wr.heap.size) (fun _ x _ => n - (intOf x).toNat)
  case atStart => exact ⟨0, rfl, Nat.zero_le _, ⟨[], rfl, rfl, hid (World.ownsRow_nil _ _ _ _)⟩, Below.refl _ _, by rw [HBS.out]; exact Nat.le_refl _⟩
  case round =>
    obtain ⟨i, rfl, hi, ⟨o, hso, hol, HO⟩, hbel, hsr⟩ := hrel
    by_cases hiL : i < n
    · have hi2 : (i : Int) < (n : Int) := by omega
      obtain ⟨b, off, rfl, hb, x0, x1⟩ := q_cell HGG.out (show i < G.length by rw [HN.out]; exact hiL)
      rw [HBS.out] at hb
      replace x0 := (hbel.cell (p := ⟨b, off + i * 2, none⟩) hb).trans x0
      replace x1 := (hbel.cell (p := ⟨b, off + i * 2 + 1, none⟩) hb).trans x1
      obtain ⟨i1, i2, hxf⟩ := HMEM.out (G.getD i 0) (getD_memQ (by rw [HN.out]; exact hiL))
      have hs1 := fun p (h : F (G.getD i 0) = some p) => ptsO_some hso h
      have hs2 := fun (h : F (G.getD i 0) = none) => ptsO_stay (ptsO_none (l := G) (k := i) h) (show i + 1 ≤ n by omega)
      obtain ⟨x, hx⟩ : ∃ x, G.getD i 0 = x := ⟨_, rfl⟩
      rw [hx] at x0 x1 i1 i2 hxf hs1 hs2
      have AT1 := hid (fun v w h => rat_any K0 x v HVK.out i2 hxf w h)
      have AT2 := hid (fun w h => rat_any C x (.slice ac C.length cc) HVC.out i1 hxf w h)
      have h1 := cmpO_one (A := C) (K := K0) (x := x)
      have h2 := fun y => cmpO_two (A := C) (K := K0) (x := x) (y := y)
      have h3 := fun y z => cmpO_three (A := C) (K := K0) (x := x) (y := y) (z := z)
      rw [HF.out] at h1 h2 h3
      obtain ⟨oy, hoy⟩ : ∃ o, atO K0 x = o := ⟨_, rfl⟩
      obtain ⟨oz, hoz⟩ : ∃ o, atO C x = o := ⟨_, rfl⟩
      rw [hoy] at AT1 h1 h2 h3
      rw [hoz] at AT2 h2 h3
      have HS1 := hid hs1
      have HS2 := hid hs2
      have H1 := hid h1
      have H2 := hid h2
      have H3 := hid h3
      have HOL := hid hol
      obtain ⟨n1, hn1⟩ : ∃ z, x.num = z := ⟨_, rfl⟩
      obtain ⟨d1, hd1⟩ : ∃ z, (x.den : Int) = z := ⟨_, rfl⟩
      unfold frQ at AT1 AT2
      rw [hn1] at x0
      rw [hd1] at x1
      rw [hn1, hd1] at AT1 AT2
      obtain ⟨y1, hy1⟩ : ∃ z, oN oy = z := ⟨_, rfl⟩
      obtain ⟨y2, hy2⟩ : ∃ z, oD oy = z := ⟨_, rfl⟩
      obtain ⟨y3, hy3⟩ : ∃ z, oE oy = z := ⟨_, rfl⟩
      obtain ⟨z1, hz1⟩ : ∃ z, oN oz = z := ⟨_, rfl⟩
      obtain ⟨z2, hz2⟩ : ∃ z, oD oz = z := ⟨_, rfl⟩
      obtain ⟨z3, hz3⟩ : ∃ z, oE oz = z := ⟨_, rfl⟩
      rw [hy1, hy2, hy3] at AT1
      rw [hz1, hz2, hz3] at AT2
      have HY1 := hid hy1
      have HY2 := hid hy2
      have HY3 := hid hy3
      have HZ1 := hid hz1
      have HZ2 := hid hz2
      have HZ3 := hid hz3
      clear hs1 hs2 h1 h2 h3 hol hxf hx hoy hoz hn1 hd1 hy1 hy2 hy3 hz1 hz2 hz3 i1 i2 hso
      go_wp2_with fail
      have bA := alloc_below wr (.cells #[.int .i64 n1, .int .i64 d1] 31)
      have kx := Blk.new wr #[.int .i64 n1, .int .i64 d1] 31
      have HOW := owns_below HO.out bA
      have hbA := hbel.trans (bA.mono hsr)
      have hsA := Nat.le_trans hsr bA.size
      obtain ⟨W, hW⟩ : ∃ W, wr.alloc (.cells #[.int .i64 n1, .int .i64 d1] 31) = W := ⟨_, rfl⟩
      obtain ⟨gx, hgx⟩ : ∃ g, wr.heap.size = g := ⟨_, rfl⟩
      rw [hW] at kx HOW hbA hsA ⊢
      rw [hgx] at kx ⊢
      have pdW := hid ((pd3.out).below (show Below w3.heap.size w3 W by rw [HBS.out]; exact hbA))
      have pcW := hid ((pc3.out).below (show Below w3.heap.size w3 W by rw [HBS.out]; exact hbA))
      clear hW hgx bA x0 x1
      have hd0 := (Below.refl W.heap.size W).drew
      have zz0 := fun y : SubT (Below W.heap.size) W.drew => (kx.below (hd0.trans y.b)).look 0 rfl
      have zz1 := fun y : SubT (Below W.heap.size) W.drew => (kx.below (hd0.trans y.b)).look 1 rfl
      refine wp_walkJ (T := Below (W.heap.size)) (belowV_pre _) (.rd 0 (.rd 2 (.inv [1, 3, 4, 5, 6, 7, 8, 9]))) (by kernel_rfl) rfl (by kernel_rfl) (by kernel_rfl) ?_
      iterate 2 (refine walkJ_rd rfl (fun K hK => ?_); go_simp; refine hK _ ?_; clear hK K)
      clear zz0 zz1 hd0
      have hd := (Below.refl W.heap.size W).drew
      obtain ⟨Wd, hWd⟩ : ∃ Wd, W.drew = Wd := ⟨_, rfl⟩
      have hs9 : W.heap.size = Wd.heap.size := by rw [← hWd]; rfl
      rw [hWd] at hd ⊢
      clear hWd
      have HS9 := hid hs9
      clear hs9
      refine walkJ_inv (fun l V w => CallI W.heap.size W 3 4 5 6 7 8 9 (.tuple #[.agg #[.int .i64 y1, .int .i64 y2], .int .i64 y3]) (.agg #[.int .i64 y1, .int .i64 y2]) (.int .i64 y3) 31 2 #[.int .i64 y1, .int .i64 y2] l V w ∧ (l 1 = true → l 3 = false → PsR 0 w (V 1) K0)) [(1, 36), (3, 38), (4, 34), (5, 39), (6, 40), (7, 10), (9, 11)] (by kernel_rfl) ?_ ?_ ?_
      · exact ⟨⟨hd, fun h => (by cases h), fun h => (by cases h), fun h => (by cases h), fun h => (by cases h), fun h => (by cases h), fun h => (by cases h)⟩, fun h => (by cases h)⟩
      · refine stepsI_cons [] [3, 4, 5, 6, 8, 9] [] rfl (by kernel_rfl) (by kernel_rfl) (by kernel_rfl) (fun K l V x hx hl hds hn hI hK => ?_) ?_
        · go_simp
          have hsx : W.heap.size ≤ x.heap.size := by rw [HS9.out]; exact hx.size
          refine (TU.out _ (P4R.below pdW.out hI.1.b)).mono ?_
          rintro e w9 ⟨⟨v9, rfl, q9⟩, hb9⟩
          refine ⟨_, rfl, hK _ _ (hb9.mono hsx) ?_⟩
          exact ⟨⟨hI.1.b.trans (hb9.mono hsx), fun h => hI.1.c h, fun h => hI.1.m h, fun h => hI.1.e0 h, fun h => hI.1.e1 h, fun h => (hI.1.a h).below hb9, fun h => hI.1.z h⟩, fun _ _ => HTQ.out _ _ (SlR.mono q9 (Nat.zero_le _))⟩
        refine stepsI_cons [1] [4, 5, 6, 8, 9] [(1, 36)] rfl (by kernel_rfl) (by kernel_rfl) (by kernel_rfl) (fun K l V x hx hl hds hn hI hK => ?_) ?_
        · simp only [putsP]
          go_simp
          have hsx : W.heap.size ≤ x.heap.size := by rw [HS9.out]; exact hx.size
          refine (AT1.out _ _ (hI.2 hl.1 hn)).mono ?_
          rintro e w9 ⟨rfl, hb9⟩
          refine ⟨_, rfl, hK _ _ (hb9.mono hsx) ?_⟩
          exact ⟨⟨hI.1.b.trans (hb9.mono hsx), fun _ => rfl, fun h => hI.1.m h, fun h => hI.1.e0 h, fun h => hI.1.e1 h, fun h => (hI.1.a h).below hb9, fun h => hI.1.z h⟩, fun _ h => (by cases h)⟩
        refine stepsI_cons [1, 3] [5, 6, 8, 9] [(1, 36), (3, 38)] rfl (by kernel_rfl) (by kernel_rfl) (by kernel_rfl) (fun K l V x hx hl hds hn hI hK => ?_) ?_
        · simp only [putsP]
          go_simp
          refine hK _ _ (Below.refl _ _) ?_
          exact ⟨⟨hI.1.b, fun h => hI.1.c h, fun _ => hI.1.c hl.2.1, fun h => hI.1.e0 h, fun h => hI.1.e1 h, fun h => hI.1.a h, fun h => hI.1.z h⟩, fun h h' => hI.2 h h'⟩
        refine stepsI_cons [1, 3, 4] [8, 9] [(1, 36), (3, 38), (4, 34)] rfl (by kernel_rfl) (by kernel_rfl) (by kernel_rfl) (fun K l V x hx hl hds hn hI hK => ?_) ?_
        · simp only [putsP, hI.1.m hl.2.2.1]
          go_simp
          refine hK _ _ (Below.refl _ _) ?_
          exact ⟨⟨hI.1.b, fun h => hI.1.c h, fun h => hI.1.m h, fun _ => rfl, fun h => hI.1.e1 h, fun h => hI.1.a h, fun h => hI.1.z h⟩, fun h h' => hI.2 h h'⟩
        refine stepsI_cons [1, 3, 4] [9] [(1, 36), (3, 38), (4, 34)] rfl (by kernel_rfl) (by kernel_rfl) (by kernel_rfl) (fun K l V x hx hl hds hn hI hK => ?_) ?_
        · simp only [putsP, hI.1.m hl.2.2.1]
          go_simp
          refine hK _ _ (Below.refl _ _) ?_
          exact ⟨⟨hI.1.b, fun h => hI.1.c h, fun h => hI.1.m h, fun h => hI.1.e0 h, fun _ => rfl, fun h => hI.1.a h, fun h => hI.1.z h⟩, fun h h' => hI.2 h h'⟩
        refine stepsI_cons [] [8, 9] [] rfl (by kernel_rfl) (by kernel_rfl) (by kernel_rfl) (fun K l V x hx hl hds hn hI hK => ?_) ?_
        · go_simp
          have hsx : W.heap.size ≤ x.heap.size := by rw [HS9.out]; exact hx.size
          have hb9 := alloc_below x (.cells #[.int .i64 0, .int .i64 0] 31)
          refine hK _ _ (hb9.mono hsx) ?_
          exact ⟨⟨hI.1.b.trans (hb9.mono hsx), fun h => hI.1.c h, fun h => hI.1.m h, fun h => hI.1.e0 h, fun h => hI.1.e1 h, fun _ => VarI.new x _ _ hsx rfl hds.1, fun h => hI.1.z h⟩, fun h h' => (hI.2 h h').below hb9⟩
        refine stepsI_cons [1, 3, 4, 5, 7] [9] [(1, 36), (3, 38), (4, 34), (5, 39), (7, 10)] rfl (by kernel_rfl) (by kernel_rfl) (by kernel_rfl) (fun K l V x hx hl hds hn hI hK => ?_) ?_
        · obtain ⟨g, cs, e1, e2, e3, e4, -⟩ := hI.1.a hl.2.2.2.2.1
          have hb9 := row_below (Below.refl W.heap.size x) e2 #[.int .i64 y1, .int .i64 y2]
          refine ⟨rfl, gives_store_row 31 (.tmp 10) (.tmp 39) rfl g _ e1 (hI.1.e0 hl.2.2.2.1) 31 cs e3 pinfoFrac e4 (by simp [Value.oneCell']) (hK _ _ hb9 ?_)⟩
          refine ⟨⟨hI.1.b.trans hb9, fun h => hI.1.c h, fun h => hI.1.m h, fun h => hI.1.e0 h, fun h => hI.1.e1 h, fun _ => ?_, fun h => hI.1.z h⟩, fun _ h' => Bool.noConfusion (hl.2.1.symm.trans h')⟩
          show VarI _ _ (V 7) _ _ _ _
          rw [e1]
          exact VarI.filled e2 e3 rfl
        refine stepsI_cons [1, 3, 4, 5, 6, 7, 8] [] [(1, 36), (3, 38), (4, 34), (5, 39), (6, 40), (7, 10)] rfl (by kernel_rfl) (by kernel_rfl) (by kernel_rfl) (fun K l V x hx hl hds hn hI hK => ?_) ?_
        · simp only [putsP, hI.1.e1 hl.2.2.2.2.1]
          go_simp
          refine hK _ _ (Below.refl _ _) ?_
          exact ⟨⟨hI.1.b, fun h => hI.1.c h, fun h => hI.1.m h, fun h => hI.1.e0 h, fun h => hI.1.e1 h, fun h => hI.1.a h, fun _ => rfl⟩, fun h h' => hI.2 h h'⟩
        exact stepsI_nil
      intro V W2 hW2 hI
      obtain ⟨hI, -⟩ := hI
      obtain ⟨gI, eI1, geI, kI⟩ := (hI.a rfl).out
      have qI0 := hI.c rfl
      have qI1 := hI.m rfl
      have qI2 := hI.e0 rfl
      have qI3 := hI.e1 rfl
      have qI4 := hI.z rfl
      have hbI := hI.b
      clear hI hd HS9 hW2
      simp only [putsP, qI0, qI1, qI2, qI3, qI4, eI1]
      go_simp
      clear qI0 qI1 qI2 qI3 qI4 eI1
      have hb5' := hbA.trans (hbI.mono hsA)
      have hs5 := Nat.le_trans hsA hbI.size
      have kx5 := kx.below hbI
      have HO5 := owns_below HOW hbI
      have q2 := PsR.below pcW.out hbI
      clear AT1 kx HOW hbA hsA hbI pcW pdW geI
      cases oy with
      | none =>
        obtain rfl : 5 = y3 := HY3.out
        have hnone := HS2.out (H1.out rfl)
        have hbz := hb5'
        obtain ⟨Wz, hWz⟩ : ∃ W, W2 = W := ⟨_, rfl⟩
        rw [hWz] at hbz ⊢
        clear hWz
        obtain ⟨rfl, rfl⟩ := HX.out hnone
        have hBf : Below w.heap.size w Wz := HB.out.trans ((show Below w3.heap.size w3 Wz by rw [HBS.out]; exact hbz).mono HB.out.size)
        clear hnone
        go_wp2
        go_ret2
        exact ⟨⟨_, rfl, SlR.nil _ _⟩, hBf⟩
      | some y =>
        obtain rfl : 0 = y3 := HY3.out
        have c0 := kx5.look 0 rfl
        have c1 := kx5.look 1 rfl
        go_wp2_with fail
        refine (AT2.out _ q2).mono ?_
        rintro r w7 ⟨rfl, hb7⟩
        have kY7 := kI.below hb7
        have HO7 := owns_below HO5 hb7
        have hb7' := hb5'.trans (hb7.mono hs5)
        have hs7 := Nat.le_trans hs5 hb7.size
        clear AT2 q2 kI HO5 hb5' hs5 hb7 c0 c1 kx5
        cases oz with
        | none =>
          obtain rfl : 5 = z3 := HZ3.out
          have hnone := HS2.out (H2.out y rfl rfl)
          have hbz := hb7'.trans ((alloc_below w7 (.cells #[.int .i64 z1, .int .i64 z2] 31)).mono hs7)
          obtain ⟨Wz, hWz⟩ : ∃ W, w7.alloc (.cells #[.int .i64 z1, .int .i64 z2] 31) = W := ⟨_, rfl⟩
          rw [hWz] at hbz
          obtain ⟨rfl, rfl⟩ := HX.out hnone
          have hBf : Below w.heap.size w Wz := HB.out.trans ((show Below w3.heap.size w3 Wz by rw [HBS.out]; exact hbz).mono HB.out.size)
          clear hnone
          go_wp2
          go_ret2
          exact ⟨⟨_, rfl, SlR.nil _ _⟩, hBf⟩
        | some z =>
          obtain rfl : 0 = z3 := HZ3.out
          have bD := alloc_below w7 (.cells #[.int .i64 z1, .int .i64 z2] 31)
          have kY8 := kY7.below bD
          have HO8 := hid (owns_below HO7 bD)
          have hb8 := hb7'.trans (bD.mono hs7)
          have hs8 := Nat.le_trans hs7 bD.size
          have hst := HS1.out (y, z) (H3.out y z rfl rfl)
          have HPC : Hid (ptsC [(y, z)] = [.int .i64 y1, .int .i64 y2, .int .i64 z1, .int .i64 z2]) := hid (by
            rw [← HY1.out, ← HY2.out, ← HZ1.out, ← HZ2.out]
            rfl)
          have HST := hid hst
          have c0 := kY7.look 0 rfl
          have c1 := kY7.look 1 rfl
          have c2 := kY8.look 0 rfl
          have c3 := kY8.look 1 rfl
          have hly := kY7.lt
          clear hst HS1 HS2 HX kY7 kY8 bD HO7 hb7' hs7
          go_wp2_with (first
            | (at_builtin; refine wpList_appH rfl (.tmp 53) (.tmp 57) _ rfl B 44 (.agg #[.int .i64 0, .int .i64 0, .int .i64 0, .int .i64 0]) 4 32 Tryz.underlying22 infoPoint rfl (by decide) 44 _ _ _ rfl HO8.out [.int .i64 y1, .int .i64 y2, .int .i64 z1, .int .i64 z2] _ (by first | rfl | simp) rfl rfl (by simp [Value.oneCell']) (by unfold maxLen; omega) (by omega) hs8 ?_; intro g11 gcap w11 ho11 hb11 _ _ _))
          go_roundw
          case rel =>
            refine ⟨i + 1, by go_num, by omega, ⟨o ++ [(y, z)], HST.out, by rw [List.length_append, HOL.out]; rfl, ?_⟩, hb8.trans hb11, Nat.le_trans hs8 hb11.size⟩
            rw [ptsC_append, HPC.out]
            exact hid ho11
          case measure => simp [intOf]; omega
    · obtain rfl : n = i := by omega
      have hi2 : ¬ (n : Int) < (n : Int) := by omega
      obtain ⟨e1, e2⟩ := HY.out o hso
      have hr : PsR 0 wr u7 o := by
        have := SlR.mono (SlR.of_owns HO.out) (Nat.zero_le _)
        unfold PsR
        rw [hol]
        exact this
      have NO := hid (rNorm_any (ofQ o) _ wr hr.ofQ)
      rw [← e1, ← e2] at NO
      have hBw := HB.out.trans ((show Below w3.heap.size w3 wr by rw [HBS.out]; exact hbel).mono HB.out.size)
      clear e1 e2 hr hso hol HO HX HY
      go_wp2_with fail
      refine NO.out.mono ?_
      rintro r w5 ⟨⟨v, rfl, hv⟩, hb5⟩
      have hv2 := PsR.mono hv hBw.size
      have hB5 := hBw.trans (hb5.mono hBw.size)
      clear NO hv hb5
      go_wp2
      go_ret2
      exact ⟨⟨_, rfl, hv2⟩, hB5⟩

end Go.Proofs.YtfkclcoipadhmaaGreatDoor
