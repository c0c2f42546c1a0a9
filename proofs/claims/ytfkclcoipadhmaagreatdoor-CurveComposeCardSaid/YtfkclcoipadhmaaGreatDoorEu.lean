/- Walk of trankref02.Sum. -/
import Derived.Test.YtfkclcoipadhmaaGreatDoorEt
import Derived.Test.YtfkclcoipadhmaaGreatDoorEd
namespace Go.Proofs.YtfkclcoipadhmaaGreatDoor
open Go.RowKit
attribute [local irreducible] seqS seqST walkV walkJ

theorem owns_set {w : World} {B0 : Nat} {e : TypeId} {size : Nat} {v : Value} {n : Nat} {xs : List Value} (h : w.ownsRow B0 e size v n xs) {p : Addr} (hp : ∀ k, v.ownBlock = some k → k ≠ p.block) (u : Value) : (w.setCell p u).ownsRow B0 e size v n xs := by
  refine h.kept (row := some p.block) ⟨rfl, rfl, rfl, by simp, fun k hk hne => Below.heap_setCell w p u k (fun e => hne (by rw [e]))⟩ ?_
  cases hv : v.ownBlock with
  | none => exact .inl rfl
  | some k =>
    right
    intro e
    exact hp k hv (Option.some.inj e)
theorem sumO_one {A C : List Pt} {x : Rat} (h : atO A x = none) : sumO A C x = none := by unfold sumO; rw [h]; rfl
theorem sumO_two {A C : List Pt} {x y : Rat} (h : atO A x = some y) (h2 : atO C x = none) : sumO A C x = none := by unfold sumO; rw [h, h2]; rfl
theorem sumO_three {A C : List Pt} {x y z : Rat} (h : atO A x = some y) (h2 : atO C x = some z) : sumO A C x = (fitO (y + z)).map fun s => (x, s) := by unfold sumO; rw [h, h2]; rfl
theorem atO_fits {C : List Pt} (hc : CV C) {x y : Rat} (h : atO C x = some y) (hd : InDom C x) : fits y := by
  unfold atO atI at h
  have hcut : cutI C x < C.length := by
    apply Decidable.byContradiction
    intro hge
    have hall : ∀ p ∈ C, p.1 < x := by
      have hle : cutI C x ≤ C.length := by unfold cutI; exact (List.takeWhile_sublist _).length_le
      have he : (C.takeWhile fun p => decide (p.1 < x)).length = C.length := by
        have : cutI C x = (C.takeWhile fun p => decide (p.1 < x)).length := rfl
        omega
      have hs := (List.takeWhile_sublist (fun p : Pt => decide (p.1 < x)) (l := C)).eq_of_length he
      intro p hp
      rw [← hs] at hp
      exact of_decide_eq_true (List.all_eq_true.1 (List.all_takeWhile (p := fun p : Pt => decide (p.1 < x)) (l := C)) p hp)
    have h2 := hc.two
    have hm : C.getD (C.length - 1) (0, 0) ∈ C := by
      rw [List.getD_eq_getElem?_getD, List.getElem?_eq_getElem (by omega)]
      exact List.getElem_mem _
    have := hall _ hm
    have := hd.2
    grind
  by_cases he : (C.getD (cutI C x) (0, 0)).1 = x
  · rw [if_pos he] at h
    rw [← Option.some.inj h]
    exact (hc.fit _ hcut).2
  · rw [if_neg he] at h
    exact segO_fits h

set_option maxHeartbeats 8000000 in
set_option maxRecDepth 100000 in
theorem rSum_any (c d : List P4) (vc vd : Value) (w : World) (hc : P4R 0 w vc c) (hd : P4R 0 w vd d) :
    Calls Tryz.prog 11 #[vc, vd] w fun r w' => (∃ v, r = .returned (.tuple #[v, .int .i64 (sumE c d)]) ∧ PsR w.heap.size w' v (sumL c d)) ∧ Below w.heap.size w w' := by
  have VC := hid (r2Valid_any c vc w hc)
  have VD := hid (fun w h => r2Valid_any d vd w h)
  obtain ⟨ac, cc, rfl, -⟩ := id hc
  obtain ⟨ad, cd, rfl, -⟩ := id hd
  obtain ⟨E, hE⟩ : ∃ E, sumE c d = E := ⟨_, rfl⟩
  obtain ⟨R, hR⟩ : ∃ R, sumL c d = R := ⟨_, rfl⟩
  rw [hE, hR]
  have HE := hid hE
  have HR := hid hR
  clear hE hR
  go_enter Tryz.func11, Tryz.ntmps11
  go_wp2_with fail
  refine VC.out.mono ?_
  rintro r w1 ⟨rfl, hB⟩
  have hc1 := hc.below hB
  have hd1 := hd.below hB
  clear VC hc hd
  by_cases hrc : RV c
  case neg =>
    rw [decide_eq_false hrc]
    have h0 : comE c d = 2 := if_neg (fun h => hrc h.1)
    have e1 : E = 2 := by rw [← HE.out]; unfold sumE; rw [h0]; rfl
    have e2 : R = [] := by rw [← HR.out]; unfold sumL; rw [h0]; rfl
    subst e1 e2
    clear h0
    go_wp2
    go_ret2
    exact ⟨⟨_, rfl, SlR.nil _ _⟩, hB⟩
  rw [decide_eq_true hrc]
  have HRC := hid hrc
  clear hrc
  go_wp2_with fail
  refine (VD.out _ hd1).mono ?_
  rintro r w2 ⟨rfl, hb2⟩
  replace hB := hB.trans (hb2.mono hB.size)
  have hc2 := hc1.below hb2
  have hd2 := hd1.below hb2
  clear VD hb2 hc1 hd1
  by_cases hrd : RV d
  case neg =>
    rw [decide_eq_false hrd]
    have h0 : comE c d = 2 := if_neg (fun h => hrd h.2)
    have e1 : E = 2 := by rw [← HE.out]; unfold sumE; rw [h0]; rfl
    have e2 : R = [] := by rw [← HR.out]; unfold sumL; rw [h0]; rfl
    subst e1 e2
    clear h0
    go_wp2
    go_ret2
    exact ⟨⟨_, rfl, SlR.nil _ _⟩, hB⟩
  rw [decide_eq_true hrd]
  have pc := P4R.toQ hc2 HRC.out
  have pd := P4R.toQ hd2 hrd
  have hvc := rv_cv HRC.out
  have hvd := rv_cv hrd
  have lc := toQ_len c
  have ld := toQ_len d
  have hce : comE c d = if 48 < (comG (toQ c) (toQ d)).length then 3 else 0 := if_pos ⟨HRC.out, hrd⟩
  have hse : sumE c d = if comE c d = 0 then madE (sumO (toQ c) (toQ d)) (comG (toQ c) (toQ d)) else comE c d := rfl
  have hsl : sumL c d = if comE c d = 0 then madL (sumO (toQ c) (toQ d)) (comG (toQ c) (toQ d)) else [] := rfl
  rw [hce, HE.out] at hse
  rw [hce, HR.out] at hsl
  have HMEM := hid (fun x hx => comG_mem (x := x) hvc hvd hx)
  have HVC := hid hvc
  have HVD := hid hvd
  clear hce HE HR HRC hrd hc2 hd2
  generalize toQ c = C at pc hvc lc hse hsl HMEM HVC
  generalize toQ d = D at pd hvd ld hse hsl HMEM HVD
  rw [← lc] at pc ⊢
  rw [← ld] at pd ⊢
  have GR := hid (grounds_any C D _ _ w2 hvc hvd pc pd)
  obtain ⟨G, hG⟩ : ∃ G, comG C D = G := ⟨_, rfl⟩
  rw [hG] at GR hse hsl HMEM
  have HSE := hid hse
  have HSL := hid hsl
  obtain ⟨F, hF⟩ : ∃ F, sumO C D = F := ⟨_, rfl⟩
  have HF := hid hF
  rw [hF] at HSE HSL
  clear hse hsl lc ld hG hF hvc hvd
  go_wp2_with fail
  refine GR.out.mono ?_
  rintro r w3 ⟨⟨vg, rfl, hg⟩, hb3⟩
  replace hB := hB.trans (hb3.mono hB.size)
  have pc3 := hid (pc.below hb3)
  have pd3 := hid (pd.below hb3)
  obtain ⟨ag, cg, rfl, hcg1, hcg2, hgg⟩ := hg
  unfold maxLen at hcg2
  obtain ⟨n, hn⟩ : ∃ n, G.length = n := ⟨_, rfl⟩
  have HN := hid hn
  rw [hn] at hcg1 HSE HSL ⊢
  have HGG := hid hgg
  clear GR hb3 pc pd hn hgg
  by_cases h48 : 48 < n
  case pos =>
    have h48i : (48 : Int) < (n : Int) := by omega
    have e1 : E = 3 := by rw [HSE.out, if_pos h48]; rfl
    have e2 : R = [] := by rw [HSL.out, if_pos h48]; rfl
    subst e1 e2
    go_wp2
    go_ret2
    exact ⟨⟨_, rfl, SlR.nil _ _⟩, hB⟩
  have h48i : ¬ (48 : Int) < (n : Int) := by omega
  have e1 : E = madE F G := by rw [HSE.out, if_neg h48]; rfl
  have e2 : R = madL F G := by rw [HSL.out, if_neg h48]; rfl
  have HX : Hid (ptsO F G n = none → E = 5 ∧ R = []) := hid (fun hh => by rw [e1, e2]; unfold madE madL; rw [HN.out, hh]; exact ⟨rfl, rfl⟩)
  have HY : Hid (∀ o, ptsO F G n = some o → E = slpE (ofQ o) ∧ R = nrmL (ofQ o)) := hid (fun o hh => by rw [e1, e2]; unfold madE madL; rw [HN.out, hh]; exact ⟨rfl, rfl⟩)
  have HB := hid hB
  obtain ⟨B, hBs⟩ : ∃ B, w3.heap.size = B := ⟨_, rfl⟩
  have HBS := hid hBs
  clear e1 e2 hBs HSE HSL hB
  go_wp2_with fail
  go_loopw [7, 29] (fun y x wr => ∃ i : Nat, x = .int .i64 i ∧ i ≤ n ∧ (∃ o, ptsO F G i = some o ∧ o.length = i ∧ Hid (wr.ownsRow B 44 4 y i (ptsC o))) ∧ Below B w3 wr ∧ B ≤ wr.heap.size) (fun _ x _ => n - (intOf x).toNat)
  case atStart => exact ⟨0, rfl, Nat.zero_le _, ⟨[], rfl, rfl, hid (World.ownsRow_nil _ _ _ _)⟩, Below.refl _ _, by rw [HBS.out]; exact Nat.le_refl _⟩
  case round =>
    obtain ⟨i, rfl, hi, ⟨o, hso, hol, HO⟩, hbel, hsr⟩ := hrel
    by_cases hiL : i < n
    · have hi2 : (i : Int) < (n : Int) := by omega
      obtain ⟨b, off, rfl, hb, x0, x1⟩ := q_cell HGG.out (show i < G.length by rw [HN.out]; exact hiL)
      rw [HBS.out] at hb
      replace x0 := (hbel.cell (p := ⟨b, off + i * 2, none⟩) hb).trans x0
      replace x1 := (hbel.cell (p := ⟨b, off + i * 2 + 1, none⟩) hb).trans x1
      obtain ⟨i1, i2, hxf⟩ := HMEM.out (G.getD i 0) (getD_memQ (by rw [HN.out]; exact hiL))
      have hs1 := fun p (h : F (G.getD i 0) = some p) => ptsO_some hso h
      have hs2 := fun (h : F (G.getD i 0) = none) => ptsO_stay (ptsO_none (l := G) (k := i) h) (show i + 1 ≤ n by omega)
      obtain ⟨x, hx⟩ : ∃ x, G.getD i 0 = x := ⟨_, rfl⟩
      rw [hx] at x0 x1 i1 i2 hxf hs1 hs2
      have AT1 := hid (fun w h => rat_any C x (.slice ac C.length cc) HVC.out i1 hxf w h)
      have AT2 := hid (fun w h => rat_any D x (.slice ad D.length cd) HVD.out i2 hxf w h)
      have h1 := sumO_one (A := C) (C := D) (x := x)
      have h2 := fun y => sumO_two (A := C) (C := D) (x := x) (y := y)
      have h3 := fun y z => sumO_three (A := C) (C := D) (x := x) (y := y) (z := z)
      rw [HF.out] at h1 h2 h3
      have hfy := fun y (h : atO C x = some y) => atO_fits HVC.out h i1
      have hfz := fun z (h : atO D x = some z) => atO_fits HVD.out h i2
      obtain ⟨oy, hoy⟩ : ∃ o, atO C x = o := ⟨_, rfl⟩
      obtain ⟨oz, hoz⟩ : ∃ o, atO D x = o := ⟨_, rfl⟩
      rw [hoy] at AT1 h1 h2 h3 hfy
      rw [hoz] at AT2 h2 h3 hfz
      have HS1 := hid hs1
      have HS2 := hid hs2
      have H1 := hid h1
      have H2 := hid h2
      have H3 := hid h3
      have HFY := hid hfy
      have HFZ := hid hfz
      have HOL := hid hol
      have HXF := hid hxf
      obtain ⟨n1, hn1⟩ : ∃ z, x.num = z := ⟨_, rfl⟩
      obtain ⟨d1, hd1⟩ : ∃ z, (x.den : Int) = z := ⟨_, rfl⟩
      unfold frQ at AT1 AT2
      rw [hn1] at x0
      rw [hd1] at x1
      rw [hn1, hd1] at AT1 AT2
      have HN1 := hid hn1
      have HD1 := hid hd1
      obtain ⟨y1, hy1⟩ : ∃ z, oN oy = z := ⟨_, rfl⟩
      obtain ⟨y2, hy2⟩ : ∃ z, oD oy = z := ⟨_, rfl⟩
      obtain ⟨y3, hy3⟩ : ∃ z, oE oy = z := ⟨_, rfl⟩
      obtain ⟨z1, hz1⟩ : ∃ z, oN oz = z := ⟨_, rfl⟩
      obtain ⟨z2, hz2⟩ : ∃ z, oD oz = z := ⟨_, rfl⟩
      obtain ⟨z3, hz3⟩ : ∃ z, oE oz = z := ⟨_, rfl⟩
      rw [hy1, hy2, hy3] at AT1
      rw [hz1, hz2, hz3] at AT2
      have HY1 := hid hy1
      have HY2 := hid hy2
      have HY3 := hid hy3
      have HZ1 := hid hz1
      have HZ2 := hid hz2
      have HZ3 := hid hz3
      clear hs1 hs2 h1 h2 h3 hfy hfz hol hxf hx hoy hoz hn1 hd1 hy1 hy2 hy3 hz1 hz2 hz3 i1 i2 hso
      go_wp2_with fail
      have bA := alloc_below wr (.cells #[.int .i64 n1, .int .i64 d1] 31)
      have kx := Blk.new wr #[.int .i64 n1, .int .i64 d1] 31
      have hgx : B ≤ wr.heap.size := hsr
      obtain ⟨gx, hgxe⟩ : ∃ g, wr.heap.size = g := ⟨_, rfl⟩
      have HOW := owns_below HO.out bA
      have hOl : ∀ k, u7.ownBlock = some k → k < wr.heap.size := fun k hk => (HO.out.lt k hk).2
      have hbA := hbel.trans (bA.mono hsr)
      have hsA := Nat.le_trans hsr bA.size
      have q1 := (pc3.out).below (show Below w3.heap.size w3 _ by rw [HBS.out]; exact hbA)
      refine (AT1.out _ q1).mono ?_
      rintro r w5 ⟨rfl, hb5⟩
      have hb5' := hbA.trans (hb5.mono hsA)
      have hs5 := Nat.le_trans hsA hb5.size
      have kx5 := kx.below hb5
      have HO5 := owns_below HOW hb5
      have hlx : wr.heap.size < w5.heap.size := kx5.lt
      clear AT1 bA kx HOW hbA hsA q1 hb5 x0 x1
      cases oy with
      | none =>
        obtain rfl : 5 = y3 := HY3.out
        have hnone := HS2.out (H1.out rfl)
        have hbz := hb5'.trans ((alloc_below w5 (.cells #[.int .i64 y1, .int .i64 y2] 31)).mono hs5)
        obtain ⟨Wz, hWz⟩ : ∃ W, w5.alloc (.cells #[.int .i64 y1, .int .i64 y2] 31) = W := ⟨_, rfl⟩
        rw [hWz] at hbz
        obtain ⟨rfl, rfl⟩ := HX.out hnone
        have hBf : Below w.heap.size w Wz := HB.out.trans ((show Below w3.heap.size w3 Wz by rw [HBS.out]; exact hbz).mono HB.out.size)
        clear hnone
        go_wp2
        go_ret2
        exact ⟨⟨_, rfl, SlR.nil _ _⟩, hBf⟩
      | some y =>
        obtain rfl : 0 = y3 := HY3.out
        have kx5' := kx5
        have bC := alloc_below w5 (.cells #[.int .i64 y1, .int .i64 y2] 31)
        have kY := Blk.new w5 #[.int .i64 y1, .int .i64 y2] 31
        have kx6 := kx5.below bC
        have HO6 := owns_below HO5 bC
        have hb6 := hb5'.trans (bC.mono hs5)
        have hs6 := Nat.le_trans hs5 bC.size
        have c0 := kx6.look 0 rfl
        have c1 := kx6.look 1 rfl
        have q2 := (pd3.out).below (show Below w3.heap.size w3 _ by rw [HBS.out]; exact hb6)
        rw [hgxe] at kx6 hlx hOl c0 c1 kx5'
        clear kx5 bC hb5' hs5 HO5
        go_wp2_with fail
        obtain ⟨gy, hgy⟩ : ∃ g, w5.heap.size = g := ⟨_, rfl⟩
        refine (AT2.out _ q2).mono ?_
        rintro r w7 ⟨rfl, hb7⟩
        have kx7 := kx6.below hb7
        have kY7 := kY.below hb7
        have HO7 := owns_below HO6 hb7
        have hb7' := hb6.trans (hb7.mono hs6)
        have hs7 := Nat.le_trans hs6 hb7.size
        rw [hgy] at kY7 hlx ⊢
        clear AT2 q2 kY kx6 HO6 hb6 hs6 hb7 c0 c1
        cases oz with
        | none =>
          obtain rfl : 5 = z3 := HZ3.out
          have hnone := HS2.out (H2.out y rfl rfl)
          have hbz := hb7'.trans ((alloc_below w7 (.cells #[.int .i64 z1, .int .i64 z2] 31)).mono hs7)
          obtain ⟨Wz, hWz⟩ : ∃ W, w7.alloc (.cells #[.int .i64 z1, .int .i64 z2] 31) = W := ⟨_, rfl⟩
          rw [hWz] at hbz
          obtain ⟨rfl, rfl⟩ := HX.out hnone
          have hBf : Below w.heap.size w Wz := HB.out.trans ((show Below w3.heap.size w3 Wz by rw [HBS.out]; exact hbz).mono HB.out.size)
          clear hnone
          go_wp2
          go_ret2
          exact ⟨⟨_, rfl, SlR.nil _ _⟩, hBf⟩
        | some z =>
          obtain rfl : 0 = z3 := HZ3.out
          have AD := hid (rAdd_any y z (HFY.out y rfl) (HFZ.out z rfl))
          unfold frQ at AD
          rw [show y.num = y1 from HY1.out, show (y.den : Int) = y2 from HY2.out, show z.num = z1 from HZ1.out, show (z.den : Int) = z2 from HZ2.out] at AD
          obtain ⟨sq, hsq⟩ : ∃ q, y + z = q := ⟨_, rfl⟩
          rw [hsq] at AD
          have HSQ := hid hsq
          unfold frV at AD
          have bD := alloc_below w7 (.cells #[.int .i64 z1, .int .i64 z2] 31)
          have kZ := Blk.new w7 #[.int .i64 z1, .int .i64 z2] 31
          have kx8 := kx7.below bD
          have kY8 := kY7.below bD
          have HO8 := owns_below HO7 bD
          have hb8 := hb7'.trans (bD.mono hs7)
          have hs8 := Nat.le_trans hs7 bD.size
          have c0 := kY8.look 0 rfl
          have c1 := kY8.look 1 rfl
          have hly := kY7.lt
          clear hsq bD kx7 kY7 HO7 hb7' hs7
          go_wp2_with fail
          refine (AD.out _).mono ?_
          rintro r w9 ⟨rfl, hb9⟩
          have kx9 := kx8.below hb9
          have kY9 := kY8.below hb9
          have HO9 := owns_below HO8 hb9
          have hb9' := hb8.trans (hb9.mono hs8)
          have hs9 := Nat.le_trans hs8 hb9.size
          obtain ⟨m1, hm1⟩ : ∃ z, fitN sq = z := ⟨_, rfl⟩
          obtain ⟨m2, hm2⟩ : ∃ z, fitD sq = z := ⟨_, rfl⟩
          obtain ⟨m3, hm3⟩ : ∃ z, fitE sq = z := ⟨_, rfl⟩
          rw [hm1, hm2, hm3]
          have HM1 := hid hm1
          have HM2 := hid hm2
          have HM3 := hid hm3
          have fy := kY9.frozen
          have e0 := kY9.look 0 rfl
          have e1 := kY9.look 1 rfl
          have hgyB : B ≤ gy := by omega
          have hxy : gx ≠ gy := by omega
          have kY10 := (kY9.set 0 (.int .i64 m1)).set 1 (.int .i64 m2)
          have kx10 := Blk.other (Blk.other kx9 (p := ⟨gy, 0, none⟩) hxy (.int .i64 m1)) (p := ⟨gy, 1, none⟩) hxy (.int .i64 m2)
          have hOy : ∀ k, u7.ownBlock = some k → k ≠ gy := fun k hk => by have := hOl k hk; omega
          have HO10 := hid (owns_set (owns_set HO9 (p := ⟨gy, 0, none⟩) hOy (.int .i64 m1)) (p := ⟨gy, 1, none⟩) hOy (.int .i64 m2))
          have hb10 := (hb9'.setCell (p := ⟨gy, 0, none⟩) hgyB (.int .i64 m1)).setCell (p := ⟨gy, 1, none⟩) hgyB (.int .i64 m2)
          have hs10 : B ≤ ((w9.setCell ⟨gy, 0, none⟩ (.int .i64 m1)).setCell ⟨gy, 1, none⟩ (.int .i64 m2)).heap.size := by simpa [World.setCell] using hs9
          clear AD hb9 kx8 kY8 HO8 hb8 hs8 c0 c1 hm1 hm2 hm3 hs9 HO9 hb9' kZ hOy
          by_cases hfs : fits sq
          · have g0 : m3 = 0 := by rw [← HM3.out]; exact if_pos hfs
            have h1' : fitO sq = some sq := if_pos hfs
            have hst := HS1.out (x, sq) (by rw [H3.out y z rfl rfl, HSQ.out, h1']; rfl)
            have HPC : Hid (ptsC [(x, sq)] = [.int .i64 n1, .int .i64 d1, .int .i64 m1, .int .i64 m2]) := hid (by
              have a1 : fitN sq = sq.num := if_pos hfs
              have a2 : fitD sq = (sq.den : Int) := if_pos hfs
              rw [← HM1.out, ← HM2.out, a1, a2, ← HN1.out, ← HD1.out]
              rfl)
            have HST := hid hst
            subst g0
            have c0 := kx10.look 0 rfl
            have c1 := kx10.look 1 rfl
            have c2 := kY10.look 0 rfl
            have c3 := kY10.look 1 rfl
            have c4 := kx9.look 0 rfl
            have c5 := kx9.look 1 rfl
            have hxy1 : ¬ gx = gy := hxy
            have hxy2 : ¬ gy = gx := fun e => hxy e.symm
            clear h1' hst hfs HS1 HS2 HX kx9 kY9 kx10 kY10
            go_wp2_with (first
              | (at_builtin; refine wpList_appH rfl (.tmp 60) (.tmp 64) _ rfl B 44 (.agg #[.int .i64 0, .int .i64 0, .int .i64 0, .int .i64 0]) 4 32 Tryz.underlying22 infoPoint rfl (by decide) 44 _ _ _ rfl HO10.out [.int .i64 n1, .int .i64 d1, .int .i64 m1, .int .i64 m2] _ (by first | rfl | simp [World.setCell]) rfl rfl (by simp [Value.oneCell']) (by unfold maxLen; omega) (by omega) hs10 ?_; intro g11 gcap w11 ho11 hb11 _ _ _))
            go_roundw
            case rel =>
              refine ⟨i + 1, by go_num, by omega, ⟨o ++ [(x, sq)], HST.out, by rw [List.length_append, HOL.out]; rfl, ?_⟩, hb10.trans hb11, Nat.le_trans hs10 hb11.size⟩
              rw [ptsC_append, HPC.out]
              exact hid ho11
            case measure => simp [intOf]; omega
          · have g0 : m3 = 5 := by rw [← HM3.out]; exact if_neg hfs
            have h1' : fitO sq = none := if_neg hfs
            have hnone := HS2.out (by rw [H3.out y z rfl rfl, HSQ.out, h1']; rfl)
            subst g0
            have hbz := hb10
            obtain ⟨Wz, hWz⟩ : ∃ W, (w9.setCell ⟨gy, 0, none⟩ (.int .i64 m1)).setCell ⟨gy, 1, none⟩ (.int .i64 m2) = W := ⟨_, rfl⟩
            rw [hWz] at hbz
            obtain ⟨rfl, rfl⟩ := HX.out hnone
            have hBf : Below w.heap.size w Wz := HB.out.trans ((show Below w3.heap.size w3 Wz by rw [HBS.out]; exact hbz).mono HB.out.size)
            clear hnone
            go_wp2
            go_ret2
            exact ⟨⟨_, rfl, SlR.nil _ _⟩, hBf⟩
    · obtain rfl : n = i := by omega
      have hi2 : ¬ (n : Int) < (n : Int) := by omega
      obtain ⟨e1, e2⟩ := HY.out o hso
      have hr : PsR 0 wr u7 o := by
        have := SlR.mono (SlR.of_owns HO.out) (Nat.zero_le _)
        unfold PsR
        rw [hol]
        exact this
      have NO := hid (rNorm_any (ofQ o) _ wr hr.ofQ)
      rw [← e1, ← e2] at NO
      have hBw := HB.out.trans ((show Below w3.heap.size w3 wr by rw [HBS.out]; exact hbel).mono HB.out.size)
      clear e1 e2 hr hso hol HO HX HY
      go_wp2_with fail
      refine NO.out.mono ?_
      rintro r w5 ⟨⟨v, rfl, hv⟩, hb5⟩
      have hv2 := PsR.mono hv hBw.size
      have hB5 := hBw.trans (hb5.mono hBw.size)
      clear NO hv hb5
      go_wp2
      go_ret2
      exact ⟨⟨_, rfl, hv2⟩, hB5⟩

end Go.Proofs.YtfkclcoipadhmaaGreatDoor
