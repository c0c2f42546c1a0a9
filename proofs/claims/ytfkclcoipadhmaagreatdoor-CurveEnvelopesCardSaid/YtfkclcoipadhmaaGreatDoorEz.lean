/- Walk of trankref02.Under. -/
import Derived.Test.YtfkclcoipadhmaaGreatDoorEt
import Derived.Test.YtfkclcoipadhmaaGreatDoorEy
namespace Go.Proofs.YtfkclcoipadhmaaGreatDoor
open Go.RowKit
attribute [local irreducible] seqS seqST walkV walkJ

theorem und_no {A C : List Pt} {l : List Rat} {i : Nat} (h : atO A (l.getD i 0) = none ∨ atO C (l.getD i 0) = none) : undO A C l (i + 1) = none := by
  show (undO A C l i).bind _ = none
  cases undO A C l i with
  | none => rfl
  | some u =>
    rcases h with h | h
    · rw [h]; rfl
    · rw [h]
      cases atO A (l.getD i 0) <;> rfl
theorem und_yes {A C : List Pt} {l : List Rat} {i : Nat} {u : Bool} {y z : Rat} (h : undO A C l i = some u) (h1 : atO A (l.getD i 0) = some y) (h2 : atO C (l.getD i 0) = some z) : undO A C l (i + 1) = some (decide (y ≤ z) && u) := by
  show (undO A C l i).bind _ = _
  rw [h, h1, h2]
  rfl
theorem at_fits {C : List Pt} (hc : CV C) {x y : Rat} (h : atO C x = some y) (hd : InDom C x) : fits y := by
  unfold atO atI at h
  have hcut : cutI C x < C.length := by
    apply Decidable.byContradiction
    intro hge
    have hall : ∀ p ∈ C, p.1 < x := by
      have hle : cutI C x ≤ C.length := by unfold cutI; exact (List.takeWhile_sublist _).length_le
      have he : (C.takeWhile fun p => decide (p.1 < x)).length = C.length := by
        have : cutI C x = (C.takeWhile fun p => decide (p.1 < x)).length := rfl
        omega
      have hs := (List.takeWhile_sublist (fun p : Pt => decide (p.1 < x)) (l := C)).eq_of_length he
      intro p hp
      rw [← hs] at hp
      exact of_decide_eq_true (List.all_eq_true.1 (List.all_takeWhile (p := fun p : Pt => decide (p.1 < x)) (l := C)) p hp)
    have h2 := hc.two
    have hm : C.getD (C.length - 1) (0, 0) ∈ C := by
      rw [List.getD_eq_getElem?_getD, List.getElem?_eq_getElem (by omega)]
      exact List.getElem_mem _
    have := hall _ hm
    have := hd.2
    grind
  by_cases he : (C.getD (cutI C x) (0, 0)).1 = x
  · rw [if_pos he] at h
    rw [← Option.some.inj h]
    exact (hc.fit _ hcut).2
  · rw [if_neg he] at h
    exact segO_fits h

set_option maxHeartbeats 8000000 in
set_option maxRecDepth 100000 in
theorem rUnder_any (c d : List P4) (vc vd : Value) (w : World) (hc : P4R 0 w vc c) (hd : P4R 0 w vd d) :
    Calls Tryz.prog 19 #[vc, vd] w fun r w' => r = .returned (.tuple #[.bool (undB c d), .int .i64 (undE c d)]) ∧ Below w.heap.size w w' := by
  have VC := hid (r2Valid_any c vc w hc)
  have VD := hid (fun w h => r2Valid_any d vd w h)
  obtain ⟨ac, cc, rfl, -⟩ := id hc
  obtain ⟨ad, cd, rfl, -⟩ := id hd
  obtain ⟨E, hE⟩ : ∃ E, undE c d = E := ⟨_, rfl⟩
  obtain ⟨R, hR⟩ : ∃ R, undB c d = R := ⟨_, rfl⟩
  rw [hE, hR]
  have HE := hid hE
  have HR := hid hR
  clear hE hR
  go_enter Tryz.func19, Tryz.ntmps19
  go_wp2_with fail
  refine VC.out.mono ?_
  rintro r w1 ⟨rfl, hB⟩
  have hc1 := hc.below hB
  have hd1 := hd.below hB
  clear VC hc hd
  by_cases hrc : RV c
  case neg =>
    rw [decide_eq_false hrc]
    have h0 : comE c d = 2 := if_neg (fun h => hrc h.1)
    have e1 : E = 2 := by rw [← HE.out]; unfold undE; rw [h0]; rfl
    have e2 : R = false := by rw [← HR.out]; unfold undB; rw [h0]; rfl
    subst e1 e2
    clear h0
    go_wp2
    go_ret2
    exact ⟨rfl, hB⟩
  rw [decide_eq_true hrc]
  have HRC := hid hrc
  clear hrc
  go_wp2_with fail
  refine (VD.out _ hd1).mono ?_
  rintro r w2 ⟨rfl, hb2⟩
  replace hB := hB.trans (hb2.mono hB.size)
  have hc2 := hc1.below hb2
  have hd2 := hd1.below hb2
  clear VD hb2 hc1 hd1
  by_cases hrd : RV d
  case neg =>
    rw [decide_eq_false hrd]
    have h0 : comE c d = 2 := if_neg (fun h => hrd h.2)
    have e1 : E = 2 := by rw [← HE.out]; unfold undE; rw [h0]; rfl
    have e2 : R = false := by rw [← HR.out]; unfold undB; rw [h0]; rfl
    subst e1 e2
    clear h0
    go_wp2
    go_ret2
    exact ⟨rfl, hB⟩
  rw [decide_eq_true hrd]
  have pc := P4R.toQ hc2 HRC.out
  have pd := P4R.toQ hd2 hrd
  have hvc := rv_cv HRC.out
  have hvd := rv_cv hrd
  have lc := toQ_len c
  have ld := toQ_len d
  have hce : comE c d = if 48 < (comG (toQ c) (toQ d)).length then 3 else 0 := if_pos ⟨HRC.out, hrd⟩
  have hse : undE c d = if comE c d = 0 then (match undO (toQ c) (toQ d) (comG (toQ c) (toQ d)) (comG (toQ c) (toQ d)).length with | some _ => 0 | none => 5) else comE c d := rfl
  have hsl : undB c d = if comE c d = 0 then (undO (toQ c) (toQ d) (comG (toQ c) (toQ d)) (comG (toQ c) (toQ d)).length).getD false else false := rfl
  rw [hce, HE.out] at hse
  rw [hce, HR.out] at hsl
  have HMEM := hid (fun x hx => comG_mem (x := x) hvc hvd hx)
  have HVC := hid hvc
  have HVD := hid hvd
  clear hce HE HR HRC hrd hc2 hd2
  generalize toQ c = C at pc hvc lc hse hsl HMEM HVC
  generalize toQ d = D at pd hvd ld hse hsl HMEM HVD
  rw [← lc] at pc ⊢
  rw [← ld] at pd ⊢
  have GR := hid (grounds_any C D _ _ w2 hvc hvd pc pd)
  obtain ⟨G, hG⟩ : ∃ G, comG C D = G := ⟨_, rfl⟩
  rw [hG] at GR hse hsl HMEM
  have HSE := hid hse
  have HSL := hid hsl
  clear hse hsl lc ld hG hvc hvd
  go_wp2_with fail
  refine GR.out.mono ?_
  rintro r w3 ⟨⟨vg, rfl, hg⟩, hb3⟩
  replace hB := hB.trans (hb3.mono hB.size)
  have pc3 := hid (pc.below hb3)
  have pd3 := hid (pd.below hb3)
  obtain ⟨ag, cg, rfl, hcg1, hcg2, hgg⟩ := hg
  unfold maxLen at hcg2
  obtain ⟨n, hn⟩ : ∃ n, G.length = n := ⟨_, rfl⟩
  have HN := hid hn
  rw [hn] at hcg1 HSE HSL ⊢
  have HGG := hid hgg
  clear GR hb3 pc pd hn hgg
  by_cases h48 : 48 < n
  case pos =>
    have h48i : (48 : Int) < (n : Int) := by omega
    have e1 : E = 3 := by rw [HSE.out, if_pos h48]; rfl
    have e2 : R = false := by rw [HSL.out, if_pos h48]; rfl
    subst e1 e2
    go_wp2
    go_ret2
    exact ⟨rfl, hB⟩
  have h48i : ¬ (48 : Int) < (n : Int) := by omega
  have e1 : E = (match undO C D G n with | some _ => 0 | none => 5) := by rw [HSE.out, if_neg h48]; rfl
  have e2 : R = (undO C D G n).getD false := by rw [HSL.out, if_neg h48]; rfl
  have HX : Hid (undO C D G n = none → E = 5) := hid (fun hh => by rw [e1, hh])
  have HX2 : Hid (undO C D G n = none → R = false) := hid (fun hh => by rw [e2, hh]; rfl)
  have HY : Hid (∀ u, undO C D G n = some u → E = 0 ∧ R = u) := hid (fun u hh => by rw [e1, e2, hh]; exact ⟨rfl, rfl⟩)
  have HB := hid hB
  clear e1 e2 HSE HSL hB
  go_wp2_with fail
  go_loopw [7, 30] (fun y x wr => ∃ i : Nat, x = .int .i64 i ∧ i ≤ n ∧ (∃ u, y = .bool u ∧ undO C D G i = some u) ∧ Below w3.heap.size w3 wr) (fun _ x _ => n - (intOf x).toNat)
  case atStart => exact ⟨0, rfl, Nat.zero_le _, ⟨true, rfl, rfl⟩, Below.refl _ _⟩
  case round =>
    obtain ⟨i, rfl, hi, ⟨u, rfl, hu⟩, hbel⟩ := hrel
    by_cases hiL : i < n
    · have hi2 : (i : Int) < (n : Int) := by omega
      obtain ⟨b, off, rfl, hb, x0, x1⟩ := q_cell HGG.out (show i < G.length by rw [HN.out]; exact hiL)
      replace x0 := (hbel.cell (p := ⟨b, off + i * 2, none⟩) hb).trans x0
      replace x1 := (hbel.cell (p := ⟨b, off + i * 2 + 1, none⟩) hb).trans x1
      obtain ⟨i1, i2, hxf⟩ := HMEM.out (G.getD i 0) (getD_memQ (by rw [HN.out]; exact hiL))
      have hs1 := fun y z h1 h2 => und_yes (y := y) (z := z) hu h1 h2
      have hs2 := fun h => undO_stay (und_no (A := C) (C := D) (l := G) (i := i) h) (show i + 1 ≤ n by omega)
      obtain ⟨x, hx⟩ : ∃ x, G.getD i 0 = x := ⟨_, rfl⟩
      rw [hx] at x0 x1 i1 i2 hxf hs1 hs2
      have AT1 := hid (fun w h => rat_any C x (.slice ac C.length cc) HVC.out i1 hxf w h)
      have AT2 := hid (fun w h => rat_any D x (.slice ad D.length cd) HVD.out i2 hxf w h)
      have hfy := fun y (h : atO C x = some y) => at_fits HVC.out h i1
      have hfz := fun z (h : atO D x = some z) => at_fits HVD.out h i2
      obtain ⟨oy, hoy⟩ : ∃ o, atO C x = o := ⟨_, rfl⟩
      obtain ⟨oz, hoz⟩ : ∃ o, atO D x = o := ⟨_, rfl⟩
      rw [hoy] at AT1 hs1 hs2 hfy
      rw [hoz] at AT2 hs1 hs2 hfz
      have HS1 := hid hs1
      have HS2 := hid hs2
      have HFY := hid hfy
      have HFZ := hid hfz
      obtain ⟨n1, hn1⟩ : ∃ z, x.num = z := ⟨_, rfl⟩
      obtain ⟨d1, hd1⟩ : ∃ z, (x.den : Int) = z := ⟨_, rfl⟩
      unfold frQ at AT1 AT2
      rw [hn1] at x0
      rw [hd1] at x1
      rw [hn1, hd1] at AT1 AT2
      obtain ⟨y1, hy1⟩ : ∃ z, oN oy = z := ⟨_, rfl⟩
      obtain ⟨y2, hy2⟩ : ∃ z, oD oy = z := ⟨_, rfl⟩
      obtain ⟨y3, hy3⟩ : ∃ z, oE oy = z := ⟨_, rfl⟩
      obtain ⟨z1, hz1⟩ : ∃ z, oN oz = z := ⟨_, rfl⟩
      obtain ⟨z2, hz2⟩ : ∃ z, oD oz = z := ⟨_, rfl⟩
      obtain ⟨z3, hz3⟩ : ∃ z, oE oz = z := ⟨_, rfl⟩
      rw [hy1, hy2, hy3] at AT1
      rw [hz1, hz2, hz3] at AT2
      have HY1 := hid hy1
      have HY2 := hid hy2
      have HY3 := hid hy3
      have HZ1 := hid hz1
      have HZ2 := hid hz2
      have HZ3 := hid hz3
      clear hs1 hs2 hfy hfz hxf hx hoy hoz hn1 hd1 hy1 hy2 hy3 hz1 hz2 hz3 i1 i2 hu
      go_wp2_with fail
      have bA := alloc_below wr (.cells #[.int .i64 n1, .int .i64 d1] 31)
      have kx := Blk.new wr #[.int .i64 n1, .int .i64 d1] 31
      have hbA := hbel.trans (bA.mono hbel.size)
      refine (AT1.out _ (PsR.below pc3.out hbA)).mono ?_
      rintro r w5 ⟨rfl, hb5⟩
      have kx5 := kx.below hb5
      have hb5' := hbA.trans (hb5.mono hbA.size)
      clear AT1 bA kx hbA hb5 x0 x1 hbel
      have bC := alloc_below w5 (.cells #[.int .i64 y1, .int .i64 y2] 31)
      have kY := Blk.new w5 #[.int .i64 y1, .int .i64 y2] 31
      have kx6 := kx5.below bC
      have hb6 := hb5'.trans (bC.mono hb5'.size)
      have c0 := kx6.look 0 rfl
      have c1 := kx6.look 1 rfl
      have hlx := kx5.lt
      go_wp2_with fail
      refine (AT2.out _ (PsR.below pd3.out hb6)).mono ?_
      rintro r w7 ⟨rfl, hb7⟩
      have kY7 := kY.below hb7
      have hb7' := hb6.trans (hb7.mono hb6.size)
      clear AT2 bC kY kx6 hb6 hb7 c0 c1 kx5 hb5' hlx
      have bD := alloc_below w7 (.cells #[.int .i64 z1, .int .i64 z2] 31)
      have kZ := Blk.new w7 #[.int .i64 z1, .int .i64 z2] 31
      have kY8 := kY7.below bD
      have hb8 := hb7'.trans (bD.mono hb7'.size)
      have hBf : Below w.heap.size w (w7.alloc (.cells #[.int .i64 z1, .int .i64 z2] 31)) := HB.out.trans (hb8.mono HB.out.size)
      cases oy with
      | none =>
        obtain rfl : 5 = y3 := HY3.out
        have hnone := HS2.out (.inl rfl)
        obtain e1 := HX.out hnone
        obtain e2 := HX2.out hnone
        subst e1 e2
        clear hnone HX HX2 HY
        go_wp2
        go_ret2
        exact ⟨rfl, hBf⟩
      | some y =>
        obtain rfl : 0 = y3 := HY3.out
        cases oz with
        | none =>
          obtain rfl : 5 = z3 := HZ3.out
          have hnone := HS2.out (.inr rfl)
          obtain e1 := HX.out hnone
          obtain e2 := HX2.out hnone
          subst e1 e2
          clear hnone HX HX2 HY
          go_wp2
          go_ret2
          exact ⟨rfl, hBf⟩
        | some z =>
          obtain rfl : 0 = z3 := HZ3.out
          have hst := HS1.out y z rfl rfl
          have OR := hid (fun w => rorder_any y z (HFY.out y rfl) (HFZ.out z rfl) w)
          have hcm := cmp_cases y z
          obtain ⟨cz, hcz⟩ : ∃ k, cmpQ y z = k := ⟨_, rfl⟩
          rw [hcz] at OR hcm
          have hcase : decide (y ≤ z) = decide (cz ≤ 0) := by
            rcases hcm with ⟨hl, rfl, -⟩ | ⟨hl, rfl, -⟩ | ⟨hl, rfl, -⟩
            · rw [decide_eq_true (Rat.le_of_lt hl)]; rfl
            · rw [decide_eq_false (Rat.not_le.2 hl)]; rfl
            · rw [hl, decide_eq_true Rat.le_refl]; rfl
          rw [hcase] at hst
          unfold frQ at OR
          rw [show y.num = y1 from HY1.out, show (y.den : Int) = y2 from HY2.out, show z.num = z1 from HZ1.out, show (z.den : Int) = z2 from HZ2.out] at OR
          have HST := hid hst
          have c0 := kY8.look 0 rfl
          have c1 := kY8.look 1 rfl
          have c2 := kY7.look 0 rfl
          have c3 := kY7.look 1 rfl
          have hly := kY7.lt
          clear hcm hcz hst hcase HS1 HS2 kZ kY8 bD kY7 hBf
          cases u with
          | false =>
            have HS3 : Hid (undO C D G (i + 1) = some false) := hid (by rw [HST.out, Bool.and_false])
            clear HST OR
            go_wp2
            go_roundw
            case rel => exact ⟨i + 1, by go_num, by omega, ⟨false, rfl, HS3.out⟩, hb8⟩
            case measure => simp [intOf]; omega
          | true =>
            go_wp2_with fail
            refine (OR.out _).mono ?_
            rintro r w9 ⟨rfl, hb9⟩
            have hb9' := hb8.trans (hb9.mono hb8.size)
            clear OR hb9 c0 c1 c2 c3
            by_cases hz0 : cz ≤ 0
            · have HS3 : Hid (undO C D G (i + 1) = some true) := hid (by rw [HST.out, decide_eq_true hz0]; rfl)
              clear HST
              go_wp2
              go_roundw
              case rel => exact ⟨i + 1, by go_num, by omega, ⟨true, rfl, HS3.out⟩, hb9'⟩
              case measure => simp [intOf]; omega
            · have HS3 : Hid (undO C D G (i + 1) = some false) := hid (by rw [HST.out, decide_eq_false hz0]; rfl)
              clear HST
              go_wp2
              go_roundw
              case rel => exact ⟨i + 1, by go_num, by omega, ⟨false, by rw [decide_eq_false (show ¬ cz ≤ 0 by omega)], HS3.out⟩, hb9'⟩
              case measure => simp [intOf]; omega
    · obtain rfl : n = i := by omega
      have hi2 : ¬ (n : Int) < (n : Int) := by omega
      obtain ⟨rfl, rfl⟩ := HY.out u hu
      have hBf := HB.out.trans (hbel.mono HB.out.size)
      clear hu HX HX2 HY
      go_wp2
      go_ret2
      exact ⟨rfl, hBf⟩

end Go.Proofs.YtfkclcoipadhmaaGreatDoor
