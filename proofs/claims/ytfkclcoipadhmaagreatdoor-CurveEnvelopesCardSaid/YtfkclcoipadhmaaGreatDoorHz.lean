/- Several of my texts in one: Hj, Hk. -/
import Derived.Test.YtfkclcoipadhmaaGreatDoorHx
import Derived.Test.YtfkclcoipadhmaaGreatDoorEd
/- Walk of trankref02.Envelope. -/
namespace Go.Proofs.YtfkclcoipadhmaaGreatDoor
open Go.RowKit
attribute [local irreducible] seqS seqST walkV walkJ

theorem envO_none (up : Bool) (A C : List Pt) (u : Rat) (h : atO A u = none ∨ atO C u = none) : envO up A C u = none := by
  unfold envO
  rcases h with h | h
  · rw [h]; rfl
  · rw [h]; cases atO A u <;> rfl

set_option maxHeartbeats 16000000 in
set_option maxRecDepth 100000 in
theorem rEnvelope_any (up : Bool) (c d : List P4) (vc vd : Value) (w : World) (hc : P4R 0 w vc c) (hd : P4R 0 w vd d) :
    Calls Tryz.prog 31 #[vc, vd, .bool up] w fun r w' => (∃ v, r = .returned (.tuple #[v, .int .i64 (envE up c d)]) ∧ PsR w.heap.size w' v (envL up c d)) ∧ Below w.heap.size w w' := by
  have VC := hid (r2Valid_any c vc w hc)
  have VD := hid (fun w h => r2Valid_any d vd w h)
  obtain ⟨ac, cc, rfl, -⟩ := id hc
  obtain ⟨ad, cd, rfl, -⟩ := id hd
  obtain ⟨E, hE⟩ : ∃ E, envE up c d = E := ⟨_, rfl⟩
  obtain ⟨R, hR⟩ : ∃ R, envL up c d = R := ⟨_, rfl⟩
  rw [hE, hR]
  have HE := hid hE
  have HR := hid hR
  clear hE hR
  go_enter Tryz.func31, Tryz.ntmps31
  go_wp2_with fail
  refine VC.out.mono ?_
  rintro r w1 ⟨rfl, hB⟩
  have hc1 := hc.below hB
  have hd1 := hd.below hB
  clear VC hc hd
  by_cases hrc : RV c
  case neg =>
    rw [decide_eq_false hrc]
    have h0 : comE c d = 2 := if_neg (fun h => hrc h.1)
    have h1 : cmpE c d = 2 := by unfold cmpE; rw [h0]; rfl
    have e1 : E = 2 := by rw [← HE.out]; unfold envE; rw [h1]; rfl
    have e2 : R = [] := by rw [← HR.out]; unfold envL; rw [h1]; rfl
    subst e1 e2
    clear h0 h1
    go_wp2
    go_ret2
    exact ⟨⟨_, rfl, SlR.nil _ _⟩, hB⟩
  rw [decide_eq_true hrc]
  have HRC := hid hrc
  clear hrc
  go_wp2_with fail
  refine (VD.out _ hd1).mono ?_
  rintro r w2 ⟨rfl, hb2⟩
  replace hB := hB.trans (hb2.mono hB.size)
  have hc2 := hc1.below hb2
  have hd2 := hd1.below hb2
  clear VD hb2 hc1 hd1
  by_cases hrd : RV d
  case neg =>
    rw [decide_eq_false hrd]
    have h0 : comE c d = 2 := if_neg (fun h => hrd h.2)
    have h1 : cmpE c d = 2 := by unfold cmpE; rw [h0]; rfl
    have e1 : E = 2 := by rw [← HE.out]; unfold envE; rw [h1]; rfl
    have e2 : R = [] := by rw [← HR.out]; unfold envL; rw [h1]; rfl
    subst e1 e2
    clear h0 h1
    go_wp2
    go_ret2
    exact ⟨⟨_, rfl, SlR.nil _ _⟩, hB⟩
  rw [decide_eq_true hrd]
  have GR := hid (rGrid_any c d _ _ w2 hc2 hd2 HRC.out hrd)
  have HRD := hid hrd
  clear hrd
  go_wp2_with fail
  refine GR.out.mono ?_
  rintro r w3 ⟨⟨q1, q2, q3, rfl, hin⟩, hb3⟩
  have pc := hid ((P4R.toQ hc2 HRC.out).below hb3)
  have pd := hid ((P4R.toQ hd2 HRD.out).below hb3)
  replace hB := hB.trans (hb3.mono hB.size)
  clear GR hb3 hc2 hd2
  by_cases h0 : cmpE c d = 0
  case neg =>
    have e1 : E = cmpE c d := by rw [← HE.out]; exact if_neg h0
    have e2 : R = [] := by rw [← HR.out]; exact if_neg h0
    rw [← e1] at h0 ⊢
    subst e2
    have hb0 : (E != 0) = true := by simpa using h0
    clear e1 hin
    go_wp2
    go_ret2
    exact ⟨⟨_, rfl, SlR.nil _ _⟩, hB⟩
  obtain ⟨-, -, hg⟩ := hin h0
  have e1 : E = madE (envO up (toQ c) (toQ d)) (cmpA c d).1 := by rw [← HE.out]; exact if_pos h0
  have e2 : R = madL (envO up (toQ c) (toQ d)) (cmpA c d).1 := by rw [← HR.out]; exact if_pos h0
  have HMEM := hid (fun x hx => cmp_mem h0 (x := x) hx)
  have hvc := rv_cv HRC.out
  have hvd := rv_cv HRD.out
  have lc := toQ_len c
  have ld := toQ_len d
  have h48 := (cmp_zero h0).2.2.2.2.2
  rw [h0]
  generalize (cmpA c d).1 = A at hg e1 e2 HMEM h48
  clear hin h0 HE HR HRC HRD
  generalize toQ c = C at pc hvc lc e1 e2 HMEM
  generalize toQ d = D at pd hvd ld e1 e2 HMEM
  rw [← lc] at pc ⊢
  rw [← ld] at pd ⊢
  obtain ⟨n, hn⟩ : ∃ n, A.length = n := ⟨_, rfl⟩
  have HX : Hid (ptsO (envO up C D) A n = none → E = 5) := hid (fun h => by rw [e1]; unfold madE; rw [hn, h])
  have HX2 : Hid (ptsO (envO up C D) A n = none → R = []) := hid (fun h => by rw [e2]; unfold madL; rw [hn, h])
  have HY : Hid (∀ o, ptsO (envO up C D) A n = some o → E = slpE (ofQ o) ∧ R = nrmL (ofQ o)) := hid (fun o h => ⟨by rw [e1]; unfold madE; rw [hn, h], by rw [e2]; unfold madL; rw [hn, h]⟩)
  obtain ⟨ag, cg, rfl, hcg1, hcg2, hgg⟩ := hg
  unfold maxLen at hcg2
  rw [hn] at hcg1 h48 ⊢
  have HN := hid hn
  have HGG := hid hgg
  have HVC := hid hvc
  have HVD := hid hvd
  have HB := hid hB
  obtain ⟨B, hBs⟩ : ∃ k, w3.heap.size = k := ⟨_, rfl⟩
  have HBS := hid hBs
  clear e1 e2 hvc hvd lc ld hn hgg hB hBs
  go_wp2_with fail
  go_loopw [12, 40] (fun y x wr => ∃ (i : Nat) (u : Value) (o : List Pt), x = .int .i64 i ∧ y = u ∧ i ≤ n ∧ Hid (ptsO (envO up C D) A i = some o) ∧ o.length = i ∧ Hid (wr.ownsRow B 44 4 u i (ptsC o)) ∧ Below B w3 wr ∧ B ≤ wr.heap.size) (fun _ x _ => n - (intOf x).toNat)
  case atStart => exact ⟨0, _, [], rfl, rfl, Nat.zero_le _, hid rfl, rfl, hid (World.ownsRow_nil _ _ _ _), Below.refl _ _, Nat.le_of_eq HBS.out.symm⟩
  case round =>
    obtain ⟨i, u, o, rfl, rfl, hi, HV, hol, HO, hbel, hsr⟩ := hrel
    obtain ⟨au, cu, hue, -⟩ := id (SlR.of_owns HO.out)
    subst hue
    by_cases hiL : i < n
    case pos =>
      have hi2 : (i : Int) < (n : Int) := by omega
      obtain ⟨b, off, rfl, hb, x0, x1⟩ := q_cell HGG.out (show i < A.length by rw [HN.out]; exact hiL)
      replace x0 := (hbel.cell (p := ⟨b, off + i * 2, none⟩) (by show b < B; rw [← HBS.out]; exact hb)).trans x0
      replace x1 := (hbel.cell (p := ⟨b, off + i * 2 + 1, none⟩) (by show b < B; rw [← HBS.out]; exact hb)).trans x1
      obtain ⟨i1, i2, hxf⟩ := HMEM.out (A.getD i 0) (getD_memQ (by rw [HN.out]; exact hiL))
      have hs1 := fun p h2 => ptsO_some (f := envO up C D) (p := p) HV.out h2
      have hs2 := fun h => ptsO_stay (ptsO_none (f := envO up C D) (l := A) (k := i) (envO_none up C D _ h)) (show i + 1 ≤ n by omega)
      have henv := fun y z (h1 : atO C (A.getD i 0) = some y) (h2 : atO D (A.getD i 0) = some z) => (show envO up C D (A.getD i 0) = some (A.getD i 0, pickQ up y z) by unfold envO; rw [h1, h2]; rfl)
      obtain ⟨x, hx⟩ : ∃ x, A.getD i 0 = x := ⟨_, rfl⟩
      rw [hx] at x0 x1 i1 i2 hxf hs1 hs2 henv
      have AT1 := hid (fun w h => rat_any C x (.slice ac C.length cc) HVC.out i1 hxf w h)
      have AT2 := hid (fun w h => rat_any D x (.slice ad D.length cd) HVD.out i2 hxf w h)
      have hfy := fun y (h : atO C x = some y) => at_fits HVC.out h i1
      have hfz := fun z (h : atO D x = some z) => at_fits HVD.out h i2
      obtain ⟨oy, hoy⟩ : ∃ o, atO C x = o := ⟨_, rfl⟩
      obtain ⟨oz, hoz⟩ : ∃ o, atO D x = o := ⟨_, rfl⟩
      rw [hoy] at AT1 hs2 hfy henv
      rw [hoz] at AT2 hs2 hfz henv
      have HS1 := hid hs1
      have HS2 := hid hs2
      have HENV := hid henv
      have HFY := hid hfy
      have HFZ := hid hfz
      obtain ⟨n1, hn1⟩ : ∃ z, x.num = z := ⟨_, rfl⟩
      obtain ⟨d1, hd1⟩ : ∃ z, (x.den : Int) = z := ⟨_, rfl⟩
      unfold frQ at AT1 AT2
      rw [hn1] at x0
      rw [hd1] at x1
      rw [hn1, hd1] at AT1 AT2
      have HXN := hid hn1
      have HXD := hid hd1
      obtain ⟨y1, hy1⟩ : ∃ z, oN oy = z := ⟨_, rfl⟩
      obtain ⟨y2, hy2⟩ : ∃ z, oD oy = z := ⟨_, rfl⟩
      obtain ⟨y3, hy3⟩ : ∃ z, oE oy = z := ⟨_, rfl⟩
      obtain ⟨z1, hz1⟩ : ∃ z, oN oz = z := ⟨_, rfl⟩
      obtain ⟨z2, hz2⟩ : ∃ z, oD oz = z := ⟨_, rfl⟩
      obtain ⟨z3, hz3⟩ : ∃ z, oE oz = z := ⟨_, rfl⟩
      rw [hy1, hy2, hy3] at AT1
      rw [hz1, hz2, hz3] at AT2
      have HY1 := hid hy1
      have HY2 := hid hy2
      have HY3 := hid hy3
      have HZ1 := hid hz1
      have HZ2 := hid hz2
      have HZ3 := hid hz3
      clear hs1 hs2 henv hfy hfz hxf hx hoy hoz hn1 hd1 hy1 hy2 hy3 hz1 hz2 hz3 i1 i2
      have bA := alloc_below wr (.cells #[.int .i64 n1, .int .i64 d1] 31)
      have kx := Blk.new wr #[.int .i64 n1, .int .i64 d1] 31
      have hoA := owns_below HO.out bA
      have hsA := Nat.le_trans hsr bA.size
      have hbA := hbel.trans (bA.mono hsr)
      go_wp2_with fail
      refine (AT1.out _ (PsR.below pc.out (by rw [HBS.out]; exact hbA))).mono ?_
      rintro r w5 ⟨rfl, hb5⟩
      have kx5 := kx.below hb5
      have ho5 := owns_below hoA hb5
      have hs5 := Nat.le_trans hsA hb5.size
      have hb5' := hbA.trans (hb5.mono hsA)
      have hgxB : B ≤ wr.heap.size := hsr
      obtain ⟨gx, hgx⟩ : ∃ g, wr.heap.size = g := ⟨_, rfl⟩
      rw [hgx] at kx5 hgxB ⊢
      clear AT1 bA kx hbA hb5 x0 x1 hbel hoA hsA HO hsr hgx
      have HOW := hid (fun k hk => (ho5.lt k hk).2)
      have hlx := kx5.lt
      have bC := alloc_below w5 (.cells #[.int .i64 y1, .int .i64 y2] 31)
      have kY := Blk.new w5 #[.int .i64 y1, .int .i64 y2] 31
      have kx6 := kx5.below bC
      have ho6 := owns_below ho5 bC
      have hb6 := hb5'.trans (bC.mono hs5)
      have hs6 := Nat.le_trans hs5 bC.size
      have c0 := kx6.look 0 rfl
      have c1 := kx6.look 1 rfl
      have hgy : B ≤ w5.heap.size := hs5
      go_wp2_with fail
      refine (AT2.out _ (PsR.below pd.out (by rw [HBS.out]; exact hb6))).mono ?_
      rintro r w7 ⟨rfl, hb7⟩
      have kY7 := kY.below hb7
      have kx7 := kx6.below hb7
      have ho7 := owns_below ho6 hb7
      have hs7 := Nat.le_trans hs6 hb7.size
      have hb7' := hb6.trans (hb7.mono hs6)
      have hly := kY7.lt
      obtain ⟨gy, hgye⟩ : ∃ g, w5.heap.size = g := ⟨_, rfl⟩
      rw [hgye] at kY7 hgy HOW hlx hly ⊢
      clear AT2 bC kY kx6 hb6 hb7 c0 c1 kx5 hb5' ho6 ho5 hs6 hs5 hgye
      have bD := alloc_below w7 (.cells #[.int .i64 z1, .int .i64 z2] 31)
      have kZ := Blk.new w7 #[.int .i64 z1, .int .i64 z2] 31
      have kY8 := kY7.below bD
      have kx8 := kx7.below bD
      have ho8 := owns_below ho7 bD
      have hs8 := Nat.le_trans hs7 bD.size
      have hb8 := hb7'.trans (bD.mono hs7)
      have hBf : Below w.heap.size w (w7.alloc (.cells #[.int .i64 z1, .int .i64 z2] 31)) := HB.out.trans (hb8.mono (by rw [← HBS.out]; exact HB.out.size))
      clear bD hb7' ho7 kx7
      cases oy with
      | none =>
        obtain rfl : 5 = y3 := HY3.out
        have hnone := HS2.out (.inl rfl)
        clear HS1 HS2 HENV kZ kY8 kY7 ho8 kx8 HY HV
        obtain e1 := HX.out hnone
        obtain e2 := HX2.out hnone
        subst e1 e2
        clear hnone HX HX2
        go_wp2
        go_ret2
        exact ⟨⟨_, rfl, SlR.nil _ _⟩, hBf⟩
      | some y =>
        obtain rfl : 0 = y3 := HY3.out
        cases oz with
        | none =>
          obtain rfl : 5 = z3 := HZ3.out
          have hnone := HS2.out (.inr rfl)
          clear HS1 HS2 HENV kZ kY8 kY7 ho8 kx8 HY HV
          obtain e1 := HX.out hnone
          obtain e2 := HX2.out hnone
          subst e1 e2
          clear hnone HX HX2
          go_wp2
          go_ret2
          exact ⟨⟨_, rfl, SlR.nil _ _⟩, hBf⟩
        | some z =>
          obtain rfl : 0 = z3 := HZ3.out
          have OR := hid (fun w => rorder_any z y (HFZ.out z rfl) (HFY.out y rfl) w)
          have hcm := cmp_cases z y
          obtain ⟨cz, hcz⟩ : ∃ k, cmpQ z y = k := ⟨_, rfl⟩
          rw [hcz] at OR hcm
          unfold frQ at OR
          rw [show y.num = y1 from HY1.out, show (y.den : Int) = y2 from HY2.out, show z.num = z1 from HZ1.out, show (z.den : Int) = z2 from HZ2.out] at OR
          have c0 := kY8.look 0 rfl
          have c1 := kY8.look 1 rfl
          have c2 := kZ.look 0 rfl
          have c3 := kZ.look 1 rfl
          have HCM := hid hcm
          clear kY7 hcm hcz HV
          go_wp2_with fail
          refine (OR.out _).mono ?_
          rintro r w9 ⟨rfl, hb9⟩
          have kY9 := kY8.below hb9
          have kx9 := kx8.below hb9
          have kZ9 := kZ.below hb9
          have ho9 := owns_below ho8 hb9
          have hs9 := Nat.le_trans hs8 hb9.size
          have hb9' := hb8.trans (hb9.mono hs8)
          have hz9 : w7.heap.size < w9.heap.size := kZ9.lt
          clear OR c0 c1 c2 c3 kZ kY8 kx8 ho8 hs8 hb8 hb9 hBf
          have a0 := kx9.look 0 rfl
          have a1 := kx9.look 1 rfl
          have b0 := kY9.look 0 rfl
          have b1 := kY9.look 1 rfl
          have fY := kY9.frozen
          have d0 := kZ9.look 0 rfl
          have d1' := kZ9.look 1 rfl
          have hpk : (up = true → 0 < cz → pickQ up y z = z) ∧ (up = true → ¬ 0 < cz → pickQ up y z = y) ∧ (up = false → 0 < cz → pickQ up y z = y) ∧ (up = false → ¬ 0 < cz → pickQ up y z = z) := by
            unfold pickQ
            rcases HCM.out with ⟨hl, rfl, -⟩ | ⟨hl, rfl, -⟩ | ⟨hl, rfl, -⟩
            · refine ⟨fun _ h => absurd h (by decide), fun h _ => ?_, fun _ h => absurd h (by decide), fun h _ => ?_⟩
              · rw [h, if_pos rfl, if_pos (Rat.le_of_lt hl)]
              · rw [h, if_neg (by decide), if_neg (Rat.not_le.2 hl)]
            · refine ⟨fun h _ => ?_, fun _ h => absurd (by decide) h, fun h _ => ?_, fun _ h => absurd (by decide) h⟩
              · rw [h, if_pos rfl, if_neg (Rat.not_le.2 hl)]
              · rw [h, if_neg (by decide), if_pos (Rat.le_of_lt hl)]
            · refine ⟨fun _ h => absurd h (by decide), fun h _ => ?_, fun _ h => absurd h (by decide), fun h _ => ?_⟩
              · rw [h, if_pos rfl, hl, if_pos Rat.le_refl]
              · rw [h, if_neg (by decide), hl, if_pos Rat.le_refl]
          have HPK := hid hpk
          have hwy : B ≤ gy := hgy
          have hno : (Value.slice au i cu).ownBlock ≠ some gy := fun e => Nat.lt_irrefl _ (HOW.out gy e)
          have hxy : gx ≠ gy := by omega
          clear hpk HCM
          cases up with
          | true =>
            by_cases hcz : 0 < cz
            case pos =>
              have hpv := HPK.out.1 rfl hcz
              have HNX : Hid (ptsO (envO true C D) A (i + 1) = some (o ++ [(x, z)])) := hid (HS1.out (x, z) (by rw [HENV.out y z rfl rfl, hpv]))
              clear HS1 HS2 HENV hpv HX HX2 HPK HY
              have HW1 := HZ1
              have HW2 := HZ2
              have kY10 := (kY9.set 0 (.int .i64 z1)).set 1 (.int .i64 z2)
              have kx10 := (kx9.other (p := ⟨gy, 0, none⟩) hxy (.int .i64 z1)).other (p := ⟨gy, 1, none⟩) hxy (.int .i64 z2)
              have HO9 := hid (ownsRow_setCell_other (ownsRow_setCell_other ho9 (a := ⟨gy, 0, none⟩) hno (.int .i64 z1)) (a := ⟨gy, 1, none⟩) hno (.int .i64 z2))
              have hb10 := (hb9'.setCell (p := ⟨gy, 0, none⟩) hwy (.int .i64 z1)).setCell (p := ⟨gy, 1, none⟩) hwy (.int .i64 z2)
              have hs10 : B ≤ ((w9.setCell ⟨gy, 0, none⟩ (.int .i64 z1)).setCell ⟨gy, 1, none⟩ (.int .i64 z2)).heap.size := by simpa [World.setCell] using hs9
              have a2 := kx10.look 0 rfl
              have a3 := kx10.look 1 rfl
              have b2 := kY10.look 0 rfl
              have b3 := kY10.look 1 rfl
              clear kY10 kx10 kY9 kx9 kZ9 ho9 hb9' hs9
              go_wp2_with (first
                | (at_builtin; refine wpList_appO rfl (.tmp 69) (.tmp 73) _ rfl B 44 (.agg #[.int .i64 0, .int .i64 0, .int .i64 0, .int .i64 0]) 4 32 Tryz.underlying22 infoPoint rfl (by decide) 44 _ _ _ rfl HO9.out [.int .i64 n1, .int .i64 d1, .int .i64 z1, .int .i64 z2] _ (by first | rfl | simp) rfl rfl (by simp [Value.oneCell']) (by unfold maxLen; omega) (by omega) hs10 ?_; intro g5 gcap w11 ho11 hb11 _ _ _ _))
              rw [← show ptsC (o ++ [(x, z)]) = ptsC o ++ [.int .i64 n1, .int .i64 d1, .int .i64 z1, .int .i64 z2] from by rw [ptsC_append o [(x, z)], ← HXN.out, ← HXD.out, ← show z.num = z1 from HW1.out, ← show (z.den : Int) = z2 from HW2.out]; rfl] at ho11
              have HO11 := hid ho11
              have hs11 := Nat.le_trans hs10 hb11.size
              have hb11' := hb10.trans hb11
              clear ho11 hb11 hb10 hs10 HO9
              go_roundw
              case rel => exact ⟨i + 1, _, o ++ [(x, z)], by go_num, rfl, by omega, HNX, by rw [List.length_append, hol]; rfl, HO11, hb11', hs11⟩
              case measure => simp [intOf]; omega
            case neg =>
              have hpv := HPK.out.2.1 rfl hcz
              have HNX : Hid (ptsO (envO true C D) A (i + 1) = some (o ++ [(x, y)])) := hid (HS1.out (x, y) (by rw [HENV.out y z rfl rfl, hpv]))
              clear HS1 HS2 HENV hpv HX HX2 HPK HY
              have HW1 := HY1
              have HW2 := HY2
              have HO9 := hid ho9
              have hb10 := hb9'
              have hs10 := hs9
              clear kY9 kx9 kZ9 ho9 hb9' hs9 fY
              go_wp2_with (first
                | (at_builtin; refine wpList_appO rfl (.tmp 69) (.tmp 73) _ rfl B 44 (.agg #[.int .i64 0, .int .i64 0, .int .i64 0, .int .i64 0]) 4 32 Tryz.underlying22 infoPoint rfl (by decide) 44 _ _ _ rfl HO9.out [.int .i64 n1, .int .i64 d1, .int .i64 y1, .int .i64 y2] _ (by first | rfl | simp) rfl rfl (by simp [Value.oneCell']) (by unfold maxLen; omega) (by omega) hs10 ?_; intro g5 gcap w11 ho11 hb11 _ _ _ _))
              rw [← show ptsC (o ++ [(x, y)]) = ptsC o ++ [.int .i64 n1, .int .i64 d1, .int .i64 y1, .int .i64 y2] from by rw [ptsC_append o [(x, y)], ← HXN.out, ← HXD.out, ← show y.num = y1 from HW1.out, ← show (y.den : Int) = y2 from HW2.out]; rfl] at ho11
              have HO11 := hid ho11
              have hs11 := Nat.le_trans hs10 hb11.size
              have hb11' := hb10.trans hb11
              clear ho11 hb11 hb10 hs10 HO9
              go_roundw
              case rel => exact ⟨i + 1, _, o ++ [(x, y)], by go_num, rfl, by omega, HNX, by rw [List.length_append, hol]; rfl, HO11, hb11', hs11⟩
              case measure => simp [intOf]; omega
          | false =>
            by_cases hcz : 0 < cz
            case pos =>
              have hpv := HPK.out.2.2.1 rfl hcz
              have HNX : Hid (ptsO (envO false C D) A (i + 1) = some (o ++ [(x, y)])) := hid (HS1.out (x, y) (by rw [HENV.out y z rfl rfl, hpv]))
              clear HS1 HS2 HENV hpv HX HX2 HPK HY
              have HW1 := HY1
              have HW2 := HY2
              have HO9 := hid ho9
              have hb10 := hb9'
              have hs10 := hs9
              clear kY9 kx9 kZ9 ho9 hb9' hs9 fY
              go_wp2_with (first
                | (at_builtin; refine wpList_appO rfl (.tmp 69) (.tmp 73) _ rfl B 44 (.agg #[.int .i64 0, .int .i64 0, .int .i64 0, .int .i64 0]) 4 32 Tryz.underlying22 infoPoint rfl (by decide) 44 _ _ _ rfl HO9.out [.int .i64 n1, .int .i64 d1, .int .i64 y1, .int .i64 y2] _ (by first | rfl | simp) rfl rfl (by simp [Value.oneCell']) (by unfold maxLen; omega) (by omega) hs10 ?_; intro g5 gcap w11 ho11 hb11 _ _ _ _))
              rw [← show ptsC (o ++ [(x, y)]) = ptsC o ++ [.int .i64 n1, .int .i64 d1, .int .i64 y1, .int .i64 y2] from by rw [ptsC_append o [(x, y)], ← HXN.out, ← HXD.out, ← show y.num = y1 from HW1.out, ← show (y.den : Int) = y2 from HW2.out]; rfl] at ho11
              have HO11 := hid ho11
              have hs11 := Nat.le_trans hs10 hb11.size
              have hb11' := hb10.trans hb11
              clear ho11 hb11 hb10 hs10 HO9
              go_roundw
              case rel => exact ⟨i + 1, _, o ++ [(x, y)], by go_num, rfl, by omega, HNX, by rw [List.length_append, hol]; rfl, HO11, hb11', hs11⟩
              case measure => simp [intOf]; omega
            case neg =>
              have hpv := HPK.out.2.2.2 rfl hcz
              have hcb : (!decide (0 < cz)) = true := by simpa using hcz
              have HNX : Hid (ptsO (envO false C D) A (i + 1) = some (o ++ [(x, z)])) := hid (HS1.out (x, z) (by rw [HENV.out y z rfl rfl, hpv]))
              clear HS1 HS2 HENV hpv HX HX2 HPK HY
              have HW1 := HZ1
              have HW2 := HZ2
              have kY10 := (kY9.set 0 (.int .i64 z1)).set 1 (.int .i64 z2)
              have kx10 := (kx9.other (p := ⟨gy, 0, none⟩) hxy (.int .i64 z1)).other (p := ⟨gy, 1, none⟩) hxy (.int .i64 z2)
              have HO9 := hid (ownsRow_setCell_other (ownsRow_setCell_other ho9 (a := ⟨gy, 0, none⟩) hno (.int .i64 z1)) (a := ⟨gy, 1, none⟩) hno (.int .i64 z2))
              have hb10 := (hb9'.setCell (p := ⟨gy, 0, none⟩) hwy (.int .i64 z1)).setCell (p := ⟨gy, 1, none⟩) hwy (.int .i64 z2)
              have hs10 : B ≤ ((w9.setCell ⟨gy, 0, none⟩ (.int .i64 z1)).setCell ⟨gy, 1, none⟩ (.int .i64 z2)).heap.size := by simpa [World.setCell] using hs9
              have a2 := kx10.look 0 rfl
              have a3 := kx10.look 1 rfl
              have b2 := kY10.look 0 rfl
              have b3 := kY10.look 1 rfl
              clear kY10 kx10 kY9 kx9 kZ9 ho9 hb9' hs9
              go_wp2_with (first
                | (at_builtin; refine wpList_appO rfl (.tmp 69) (.tmp 73) _ rfl B 44 (.agg #[.int .i64 0, .int .i64 0, .int .i64 0, .int .i64 0]) 4 32 Tryz.underlying22 infoPoint rfl (by decide) 44 _ _ _ rfl HO9.out [.int .i64 n1, .int .i64 d1, .int .i64 z1, .int .i64 z2] _ (by first | rfl | simp) rfl rfl (by simp [Value.oneCell']) (by unfold maxLen; omega) (by omega) hs10 ?_; intro g5 gcap w11 ho11 hb11 _ _ _ _))
              rw [← show ptsC (o ++ [(x, z)]) = ptsC o ++ [.int .i64 n1, .int .i64 d1, .int .i64 z1, .int .i64 z2] from by rw [ptsC_append o [(x, z)], ← HXN.out, ← HXD.out, ← show z.num = z1 from HW1.out, ← show (z.den : Int) = z2 from HW2.out]; rfl] at ho11
              have HO11 := hid ho11
              have hs11 := Nat.le_trans hs10 hb11.size
              have hb11' := hb10.trans hb11
              clear ho11 hb11 hb10 hs10 HO9
              go_roundw
              case rel => exact ⟨i + 1, _, o ++ [(x, z)], by go_num, rfl, by omega, HNX, by rw [List.length_append, hol]; rfl, HO11, hb11', hs11⟩
              case measure => simp [intOf]; omega
    case neg =>
      obtain rfl : n = i := by omega
      have hi2 : ¬ (n : Int) < (n : Int) := by omega
      obtain ⟨e1, e2⟩ := HY.out o HV.out
      subst e1 e2
      have hps : PsR B wr (.slice au n cu) o := by
        have h := SlR.of_owns HO.out
        unfold PsR
        rw [hol]
        exact h
      have NM := hid (rNorm_any (ofQ o) _ wr (PsR.mono hps (Nat.zero_le _)).ofQ)
      have hBf := HB.out.trans (hbel.mono (by rw [← HBS.out]; exact HB.out.size))
      clear HX HX2 HY HV hps HO hbel
      go_wp2_with fail
      refine NM.out.mono ?_
      rintro r w9 ⟨⟨v, rfl, hv⟩, hb9⟩
      have hv2 := PsR.mono hv hBf.size
      have hB9 := hBf.trans (hb9.mono hBf.size)
      clear NM hv hb9 hBf
      go_wp2
      go_ret2
      exact ⟨⟨_, rfl, hv2⟩, hB9⟩

end Go.Proofs.YtfkclcoipadhmaaGreatDoor

/- Walk of trankref02.Crossings. -/
namespace Go.Proofs.YtfkclcoipadhmaaGreatDoor
open Go.RowKit
attribute [local irreducible] seqS seqST walkV walkJ

theorem fil_yes {f : Rat → Bool} {A : List Rat} {i : Nat} (hi : i < A.length) (h : f (A.getD i 0) = true) : (A.take (i + 1)).filter f = (A.take i).filter f ++ [A.getD i 0] := by
  rw [List.take_add_one, List.getElem?_eq_getElem hi, List.filter_append]
  rw [List.getD_eq_getElem?_getD, List.getElem?_eq_getElem hi] at h ⊢
  congr 1
  simp only [Option.toList_some, Option.getD_some] at h ⊢
  rw [List.filter_cons_of_pos h]
  rfl
theorem fil_no {f : Rat → Bool} {A : List Rat} {i : Nat} (hi : i < A.length) (h : f (A.getD i 0) = false) : (A.take (i + 1)).filter f = (A.take i).filter f := by
  rw [List.take_add_one, List.getElem?_eq_getElem hi, List.filter_append]
  rw [List.getD_eq_getElem?_getD, List.getElem?_eq_getElem hi] at h
  simp only [Option.getD_some] at h
  simp [h]

set_option maxHeartbeats 16000000 in
set_option maxRecDepth 100000 in
theorem rCrossings_any (c d : List P4) (vc vd : Value) (w : World) (hc : P4R 0 w vc c) (hd : P4R 0 w vd d) :
    Calls Tryz.prog 34 #[vc, vd] w fun r w' => (∃ v, r = .returned (.tuple #[v, .int .i64 (cmpE c d)]) ∧ QsR w.heap.size w' v (croL c d)) ∧ Below w.heap.size w w' := by
  have VC := hid (r2Valid_any c vc w hc)
  have VD := hid (fun w h => r2Valid_any d vd w h)
  obtain ⟨ac, cc, rfl, -⟩ := id hc
  obtain ⟨ad, cd, rfl, -⟩ := id hd
  obtain ⟨E, hE⟩ : ∃ E, cmpE c d = E := ⟨_, rfl⟩
  obtain ⟨R, hR⟩ : ∃ R, croL c d = R := ⟨_, rfl⟩
  rw [hE, hR]
  have HE := hid hE
  have HR := hid hR
  clear hE hR
  go_enter Tryz.func34, Tryz.ntmps34
  go_wp2_with fail
  refine VC.out.mono ?_
  rintro r w1 ⟨rfl, hB⟩
  have hc1 := hc.below hB
  have hd1 := hd.below hB
  clear VC hc hd
  by_cases hrc : RV c
  case neg =>
    rw [decide_eq_false hrc]
    have h0 : comE c d = 2 := if_neg (fun h => hrc h.1)
    have h1 : cmpE c d = 2 := by unfold cmpE; rw [h0]; rfl
    have e1 : E = 2 := by rw [← HE.out]; exact h1
    have e2 : R = [] := by rw [← HR.out]; unfold croL; rw [h1]; rfl
    subst e1 e2
    clear h0 h1
    go_wp2
    go_ret2
    exact ⟨⟨_, rfl, SlR.nil _ _⟩, hB⟩
  rw [decide_eq_true hrc]
  have HRC := hid hrc
  clear hrc
  go_wp2_with fail
  refine (VD.out _ hd1).mono ?_
  rintro r w2 ⟨rfl, hb2⟩
  replace hB := hB.trans (hb2.mono hB.size)
  have hc2 := hc1.below hb2
  have hd2 := hd1.below hb2
  clear VD hb2 hc1 hd1
  by_cases hrd : RV d
  case neg =>
    rw [decide_eq_false hrd]
    have h0 : comE c d = 2 := if_neg (fun h => hrd h.2)
    have h1 : cmpE c d = 2 := by unfold cmpE; rw [h0]; rfl
    have e1 : E = 2 := by rw [← HE.out]; exact h1
    have e2 : R = [] := by rw [← HR.out]; unfold croL; rw [h1]; rfl
    subst e1 e2
    clear h0 h1
    go_wp2
    go_ret2
    exact ⟨⟨_, rfl, SlR.nil _ _⟩, hB⟩
  rw [decide_eq_true hrd]
  have GR := hid (rGrid_any c d _ _ w2 hc2 hd2 HRC.out hrd)
  have HRD := hid hrd
  clear hrd
  go_wp2_with fail
  refine GR.out.mono ?_
  rintro r w3 ⟨⟨q1, q2, q3, rfl, hin⟩, hb3⟩
  replace hB := hB.trans (hb3.mono hB.size)
  rw [HE.out] at hin ⊢
  clear GR hb3 hc2 hd2
  by_cases h0 : E = 0
  case neg =>
    have e2 : R = [] := by rw [← HR.out]; exact if_neg (by rw [HE.out]; exact h0)
    subst e2
    have hb0 : (E != 0) = true := by simpa using h0
    clear hin
    go_wp2
    go_ret2
    exact ⟨⟨_, rfl, SlR.nil _ _⟩, hB⟩
  obtain ⟨hl, hv, hg⟩ := hin h0
  subst h0
  have h0 : cmpE c d = 0 := HE.out
  have e2 : R = crsL (comG (toQ c) (toQ d)) (cmpV c d) (cmpA c d).1 := by rw [← HR.out]; exact if_pos h0
  have hcz := cmp_zero h0
  have h48 := hcz.2.2.2.2.2
  have hn48 := (comE_zero hcz.1).2.2.1
  have hvl : (cmpV c d).length = (comG (toQ c) (toQ d)).length := valsO_len hcz.2.2.2.1
  have HFA := hid (fun x hx => (cmp_mem h0 (x := x) hx).2.2)
  clear hin h0 HE HR HRC HRD hcz
  generalize (cmpA c d).1 = A at hg e2 HFA h48
  generalize cmpV c d = V at hv e2 hvl
  generalize comG (toQ c) (toQ d) = G at hl e2 hvl hn48
  have HE2 := hid e2
  obtain ⟨n, hn⟩ : ∃ n, G.length = n := ⟨_, rfl⟩
  obtain ⟨m, hm⟩ : ∃ m, A.length = m := ⟨_, rfl⟩
  obtain ⟨al, cl, rfl, hcl1, hcl2, hll⟩ := hl
  obtain ⟨av, cv, rfl, hcv1, hcv2, hvv⟩ := hv
  obtain ⟨ag, cg, rfl, hcg1, hcg2, hgg⟩ := hg
  unfold maxLen at hcl2 hcv2 hcg2
  rw [hn] at hcl1 hn48 hvl ⊢
  rw [hvl] at hcv1 ⊢
  rw [hm] at hcg1 h48 ⊢
  have HN := hid hn
  have HM := hid hm
  have HVN := hid hvl
  have HLL := hid hll
  have HVV := hid hvv
  have HGG := hid hgg
  have HB := hid hB
  obtain ⟨B, hBs⟩ : ∃ k, w3.heap.size = k := ⟨_, rfl⟩
  have HBS := hid hBs
  clear e2 hvl hn hm hll hvv hgg hB hBs
  go_wp2_with fail
  go_loopw [10, 37] (fun y x wr => ∃ (i : Nat) (u : Value), x = .int .i64 i ∧ y = u ∧ i ≤ m ∧ Hid (wr.ownsRow B 31 2 u ((A.take i).filter fun u => isTo G V u G.length).length (frsC ((A.take i).filter fun u => isTo G V u G.length))) ∧ Below B w3 wr ∧ B ≤ wr.heap.size) (fun _ x _ => m - (intOf x).toNat)
  case atStart => exact ⟨0, _, rfl, rfl, Nat.zero_le _, hid (World.ownsRow_nil _ _ _ _), Below.refl _ _, Nat.le_of_eq HBS.out.symm⟩
  case round =>
    obtain ⟨i, u, rfl, rfl, hi, HO, hbel, hsr⟩ := hrel
    obtain ⟨au, cu, hue, -⟩ := id (SlR.of_owns HO.out)
    by_cases hiL : i < m
    case pos =>
      have hi2 : (i : Int) < (m : Int) := by omega
      obtain ⟨b, off, rfl, hb, x0, x1⟩ := q_cell HGG.out (show i < A.length by rw [HM.out]; exact hiL)
      replace x0 := (hbel.cell (p := ⟨b, off + i * 2, none⟩) (by show b < B; rw [← HBS.out]; exact hb)).trans x0
      replace x1 := (hbel.cell (p := ⟨b, off + i * 2 + 1, none⟩) (by show b < B; rw [← HBS.out]; exact hb)).trans x1
      have hfy := fun h => fil_yes (f := fun u => isTo G V u G.length) (A := A) (i := i) (by rw [HM.out]; exact hiL) h
      have hfn := fun h => fil_no (f := fun u => isTo G V u G.length) (A := A) (i := i) (by rw [HM.out]; exact hiL) h
      have hlf : ((A.take i).filter fun u => isTo G V u G.length).length ≤ i := Nat.le_trans (List.length_filter_le _ _) (by rw [List.length_take]; omega)
      obtain ⟨x, hx⟩ : ∃ x, A.getD i 0 = x := ⟨_, rfl⟩
      rw [hx] at x0 x1 hfy hfn
      have HFY := hid hfy
      have HFN := hid hfn
      obtain ⟨F, hF⟩ : ∃ F, ((A.take i).filter fun u => isTo G V u G.length) = F := ⟨_, rfl⟩
      rw [hF] at HO hue HFY HFN hlf
      obtain ⟨f, hf⟩ : ∃ f, F.length = f := ⟨_, rfl⟩
      rw [hf] at HO hue hlf
      subst hue
      have HFL := hid hf
      obtain ⟨n1, hn1⟩ : ∃ z, x.num = z := ⟨_, rfl⟩
      obtain ⟨d1, hd1⟩ : ∃ z, (x.den : Int) = z := ⟨_, rfl⟩
      have HEQ : Hid (∀ q : Rat, q = x ↔ q.num = n1 ∧ (q.den : Int) = d1) := hid (fun q => by rw [← hn1, ← hd1]; exact rat_eq_iff q x)
      rw [hn1] at x0
      rw [hd1] at x1
      have HXN := hid hn1
      have HXD := hid hd1
      clear hx hF hf hn1 hd1 hfy hfn
      have bA := alloc_below wr (.cells #[.int .i64 n1, .int .i64 d1] 31)
      have kx := Blk.new wr #[.int .i64 n1, .int .i64 d1] 31
      have hoA := owns_below HO.out bA
      have hsA := Nat.le_trans hsr bA.size
      have hbA := hbel.trans (bA.mono hsr)
      obtain ⟨wa, hwa⟩ : ∃ W, wr.alloc (.cells #[.int .i64 n1, .int .i64 d1] 31) = W := ⟨_, rfl⟩
      obtain ⟨gx, hgx⟩ : ∃ g, wr.heap.size = g := ⟨_, rfl⟩
      rw [hwa] at kx hoA hsA hbA
      rw [hgx] at kx
      have HWA := hid hwa
      have HGX := hid hgx
      have HOA := hid hoA
      have HKX := hid kx
      have HBA := hid hbA
      clear HO hbel hsr bA kx hoA hbA hwa hgx
      go_wp2_with fail
      rw [HWA.out, HGX.out]
      clear HWA HGX x0 x1
      go_loopw [13, 43] (fun y z wz => ∃ k : Nat, z = .int .i64 k ∧ y = .bool (isTo G V x k) ∧ k ≤ n ∧ Below wa.heap.size wa wz) (fun _ z _ => n - (intOf z).toNat)
      case atStart => exact ⟨0, rfl, rfl, Nat.zero_le _, Below.refl _ _⟩
      case round =>
        obtain ⟨k, rfl, rfl, hk, hbz⟩ := hrel
        have kx := HKX.out.below hbz
        by_cases hkn : k < n
        case pos =>
          have hk2 : (k : Int) < (n : Int) := by omega
          have hb3 := HBA.out.trans (hbz.mono hsA)
          obtain ⟨bl, ol, rfl, hbl, x0, x1⟩ := q_cell HLL.out (show k < G.length by rw [HN.out]; exact hkn)
          replace x0 := (hb3.cell (p := ⟨bl, ol + k * 2, none⟩) (by show bl < B; rw [← HBS.out]; exact hbl)).trans x0
          replace x1 := (hb3.cell (p := ⟨bl, ol + k * 2 + 1, none⟩) (by show bl < B; rw [← HBS.out]; exact hbl)).trans x1
          have his : isTo G V x (k + 1) = if G.getD k 0 = x then zerB G V k else isTo G V x k := rfl
          obtain ⟨y, hy⟩ : ∃ y, G.getD k 0 = y := ⟨_, rfl⟩
          rw [hy] at x0 x1 his
          have hye := HEQ.out y
          obtain ⟨m1, hm1⟩ : ∃ z, y.num = z := ⟨_, rfl⟩
          obtain ⟨m2, hm2⟩ : ∃ z, (y.den : Int) = z := ⟨_, rfl⟩
          rw [hm1] at x0 hye
          rw [hm2] at x1 hye
          have bC := alloc_below wr (.cells #[.int .i64 m1, .int .i64 m2] 31)
          have kC := Blk.new wr #[.int .i64 m1, .int .i64 m2] 31
          have kxC := kx.below bC
          have hbC := hbz.trans (bC.mono hbz.size)
          have hb4 := hb3.trans (bC.mono (Nat.le_trans hsA hbz.size))
          have c0 := kxC.look 0 rfl
          have c1 := kxC.look 1 rfl
          have hlx := kx.lt
          by_cases hne : m1 = n1 ∧ m2 = d1
          case neg =>
            have hi9 : isTo G V x (k + 1) = isTo G V x k := by rw [his, if_neg (fun h => hne (hye.1 h))]
            have HI9 := hid hi9
            clear his hye hi9 hy hm1 hm2 kC hb4 hb3
            generalize isTo G V x k = bk at HI9 ⊢
            by_cases h1 : m1 = n1
            case pos =>
              have h2 : ¬ m2 = d1 := fun h => hne ⟨h1, h⟩
              subst h1
              clear hne
              go_wp2
              go_roundw
              case rel => exact ⟨k + 1, by go_num, by rw [HI9.out], by omega, hbC⟩
              case measure => simp [intOf]; omega
            case neg =>
              clear hne
              go_wp2
              go_roundw
              case rel => exact ⟨k + 1, by go_num, by rw [HI9.out], by omega, hbC⟩
              case measure => simp [intOf]; omega
          case pos =>
            have hi9 : isTo G V x (k + 1) = zerB G V k := by rw [his, if_pos (hye.2 hne)]
            have HI9 := hid hi9
            obtain ⟨rfl, rfl⟩ := hne
            clear his hye hi9 hy hm1 hm2
            generalize isTo G V x k = bk
            obtain ⟨zb, hzb⟩ : ∃ b, zerB G V k = b := ⟨_, rfl⟩
            rw [hzb] at HI9
            have hch := chg_num (V.getD (k - 1) 0) (V.getD (k + 1) 0)
            have hz2 : zb = (decide (0 < k ∧ k + 1 < n ∧ V.getD k 0 = 0) && decide ((V.getD (k - 1) 0).num < 0 ∧ 0 < (V.getD (k + 1) 0).num ∨ 0 < (V.getD (k - 1) 0).num ∧ (V.getD (k + 1) 0).num < 0)) := by
              rw [← hzb, ← hch, ← HN.out]
              rfl
            have wN : IntKind.i64.wrap ((n : Int) - 1) = (n : Int) - 1 := by rw [IntWalk.i64_left]; unfold wrap64; omega
            have wS : IntKind.i64.wrap ((k : Int) - 1) = (k : Int) - 1 := by rw [IntWalk.i64_left]; unfold wrap64; omega
            have wJ : IntKind.i64.wrap ((k : Int) + 1) = (k : Int) + 1 := by rw [IntWalk.i64_left]; unfold wrap64; omega
            have HZ2 := hid hz2
            clear hch hz2 hzb bC hb3
            have hz9 := HZ2.out
            by_cases g1 : 0 < k
            case neg =>
              have hzf : zb = false := by rw [hz9, decide_eq_false (fun h => g1 h.1)]; rfl
              have g1' : ¬ (0 : Int) < (k : Int) := by omega
              subst hzf
              clear HZ2
              try clear hz9
              try clear hzd
              try clear hq0
              go_wp2
              go_roundw
              case rel => exact ⟨k + 1, by go_num, by rw [HI9.out], by omega, hbC⟩
              case measure => simp [intOf]; omega
            case pos =>
              have g1' : (0 : Int) < (k : Int) := by omega
              by_cases g2 : k + 1 < n
              case neg =>
                have hzf : zb = false := by rw [hz9, decide_eq_false (fun h => g2 h.2.1)]; rfl
                have g2' : ¬ (k : Int) < (n : Int) - 1 := by omega
                subst hzf
                clear HZ2
                try clear hz9
                try clear hzd
                try clear hq0
                go_wp2
                go_roundw
                case rel => exact ⟨k + 1, by go_num, by rw [HI9.out], by omega, hbC⟩
                case measure => simp [intOf]; omega
              case pos =>
                have g2' : (k : Int) < (n : Int) - 1 := by omega
                have hvn := HVN.out
                obtain ⟨bv, ov, rfl, hbv, y0, -⟩ := q_cell HVV.out (show k < V.length by omega)
                obtain ⟨bv', ov', e3, -, y2, -⟩ := q_cell HVV.out (show k - 1 < V.length by omega)
                obtain ⟨rfl, rfl⟩ : bv = bv' ∧ ov = ov' := by simpa using e3
                obtain ⟨bv'', ov'', e4, -, y4, -⟩ := q_cell HVV.out (show k + 1 < V.length by omega)
                obtain ⟨rfl, rfl⟩ : bv = bv'' ∧ ov = ov'' := by simpa using e4
                rw [HBS.out] at hbv
                replace y0 := (hb4.cell (p := ⟨bv, ov + k * 2, none⟩) hbv).trans y0
                replace y2 := (hb4.cell (p := ⟨bv, ov + (k - 1) * 2, none⟩) hbv).trans y2
                replace y4 := (hb4.cell (p := ⟨bv, ov + (k + 1) * 2, none⟩) hbv).trans y4
                have hq0 : V.getD k 0 = 0 ↔ (V.getD k 0).num = 0 := Rat.num_eq_zero.symm
                obtain ⟨q1, hq1⟩ : ∃ z, (V.getD k 0).num = z := ⟨_, rfl⟩
                obtain ⟨p1, hp1⟩ : ∃ z, (V.getD (k - 1) 0).num = z := ⟨_, rfl⟩
                obtain ⟨r1, hr1⟩ : ∃ z, (V.getD (k + 1) 0).num = z := ⟨_, rfl⟩
                rw [hq1] at y0 hq0
                rw [hp1] at y2 hz9
                rw [hr1] at y4 hz9
                have wS2 : IntKind.i64.wrap ((k : Int) - 1) = ((k - 1 : Nat) : Int) := by rw [wS]; omega
                have g5 : 0 ≤ ((k - 1 : Nat) : Int) := Int.natCast_nonneg _
                have g6 : ((k - 1 : Nat) : Int) < (n : Int) := by omega
                have g7 : 0 ≤ (k : Int) + 1 := by omega
                have g8 : (k : Int) + 1 < (n : Int) := by omega
                clear e3 e4 hq1 hp1 hr1 hvn wS
                by_cases h0 : q1 = 0
                case neg =>
                  have hzf : zb = false := by rw [hz9, decide_eq_false (fun h => h0 (hq0.1 h.2.2))]; rfl
                  subst hzf
                  clear HZ2
                  try clear hz9
                  try clear hzd
                  try clear hq0
                  go_wp2
                  go_roundw
                  case rel => exact ⟨k + 1, by go_num, by rw [HI9.out], by omega, hbC⟩
                  case measure => simp [intOf]; omega
                case pos =>
                  have hzd : zb = decide (p1 < 0 ∧ 0 < r1 ∨ 0 < p1 ∧ r1 < 0) := by rw [hz9, decide_eq_true ⟨g1, g2, hq0.2 h0⟩]; rfl
                  clear hz9 hq0
                  by_cases h1 : p1 < 0
                  case pos =>
                    have h1' : ¬ 0 < p1 := by omega
                    by_cases h2 : 0 < r1
                    case pos =>
                      have hzf : zb = true := by rw [hzd]; exact decide_eq_true (.inl ⟨h1, h2⟩)
                      subst hzf
                      clear HZ2
                      try clear hz9
                      try clear hzd
                      try clear hq0
                      go_wp2
                      go_roundw
                      case rel => exact ⟨k + 1, by go_num, by rw [HI9.out], by omega, hbC⟩
                      case measure => simp [intOf]; omega
                    case neg =>
                      have hzf : zb = false := by rw [hzd]; exact decide_eq_false (by omega)
                      subst hzf
                      clear HZ2
                      try clear hz9
                      try clear hzd
                      try clear hq0
                      go_wp2
                      go_roundw
                      case rel => exact ⟨k + 1, by go_num, by rw [HI9.out], by omega, hbC⟩
                      case measure => simp [intOf]; omega
                  case neg =>
                    by_cases h3 : 0 < p1
                    case pos =>
                      by_cases h2 : r1 < 0
                      case pos =>
                        have hzf : zb = true := by rw [hzd]; exact decide_eq_true (.inr ⟨h3, h2⟩)
                        subst hzf
                        clear HZ2
                        try clear hz9
                        try clear hzd
                        try clear hq0
                        go_wp2
                        go_roundw
                        case rel => exact ⟨k + 1, by go_num, by rw [HI9.out], by omega, hbC⟩
                        case measure => simp [intOf]; omega
                      case neg =>
                        have hzf : zb = false := by rw [hzd]; exact decide_eq_false (by omega)
                        subst hzf
                        clear HZ2
                        try clear hz9
                        try clear hzd
                        try clear hq0
                        go_wp2
                        go_roundw
                        case rel => exact ⟨k + 1, by go_num, by rw [HI9.out], by omega, hbC⟩
                        case measure => simp [intOf]; omega
                    case neg =>
                      have hzf : zb = false := by rw [hzd]; exact decide_eq_false (by omega)
                      subst hzf
                      clear HZ2
                      try clear hz9
                      try clear hzd
                      try clear hq0
                      go_wp2
                      go_roundw
                      case rel => exact ⟨k + 1, by go_num, by rw [HI9.out], by omega, hbC⟩
                      case measure => simp [intOf]; omega
        case neg =>
          obtain rfl : n = k := by omega
          have hk2 : ¬ (n : Int) < (n : Int) := by omega
          have hb3 := HBA.out.trans (hbz.mono hsA)
          have hoz := owns_below HOA.out hbz
          have hsz := Nat.le_trans hsA hbz.size
          have c0 := kx.look 0 rfl
          have c1 := kx.look 1 rfl
          have hgl : G.length = n := HN.out
          rw [hgl] at HFY HFN
          cases hb : isTo G V x n with
          | false =>
            have HNX := hid (HFN.out hb)
            clear HFY HFN hb
            go_wp2
            go_roundw
            case rel => exact ⟨i + 1, _, by go_num, rfl, by omega, by rw [hgl, HNX.out, HFL.out]; exact hid hoz, hb3, hsz⟩
            case measure => simp [intOf]; omega
          | true =>
            have HNX := hid (HFY.out hb)
            have HOZ := hid hoz
            clear HFY HFN hb hoz
            go_wp2_with (first
              | (at_builtin; refine wpList_appO rfl (.tmp 106) (.tmp 108) _ rfl B 31 (frV 0 0) 2 16 Tryz.underlying37 infoFrac rfl (by decide) 31 _ _ _ rfl HOZ.out [.int .i64 n1, .int .i64 d1] _ (by first | rfl | simp) rfl rfl (by simp [Value.oneCell']) (by unfold maxLen; omega) (by omega) hsz ?_; intro g5 gcap w11 ho11 hb11 _ _ _ _))
            rw [← show frsC (F ++ [x]) = frsC F ++ [.int .i64 n1, .int .i64 d1] from by rw [frsC_append F [x], ← HXN.out, ← HXD.out]; rfl] at ho11
            have HO11 := hid ho11
            have hs11 := Nat.le_trans hsz hb11.size
            have hb11' := hb3.trans hb11
            have HL1 : Hid ((F ++ [x]).length = f + 1) := hid (by rw [List.length_append, HFL.out]; rfl)
            clear ho11 hb11 hb3 HOZ
            go_roundw
            case rel => exact ⟨i + 1, _, by go_num, rfl, by omega, by rw [hgl, HNX.out, HL1.out]; exact HO11, hb11', hs11⟩
            case measure => simp [intOf]; omega
    case neg =>
      obtain rfl : m = i := by omega
      have hi2 : ¬ (m : Int) < (m : Int) := by omega
      have htk : A.take m = A := by rw [← HM.out]; exact List.take_length
      have HRX : Hid (R = A.filter fun u => isTo G V u G.length) := HE2
      rw [htk] at HO hue
      have HQR := hid (SlR.of_owns HO.out)
      subst hue
      have hBf := HB.out.trans (hbel.mono (by rw [← HBS.out]; exact HB.out.size))
      have hlow : w.heap.size ≤ B := by rw [← HBS.out]; exact HB.out.size
      clear HO hbel HE2 htk
      go_wp2
      go_ret2
      exact ⟨⟨_, rfl, by rw [HRX.out]; exact SlR.mono HQR.out hlow⟩, hBf⟩

end Go.Proofs.YtfkclcoipadhmaaGreatDoor
