/- Walk of curve.Under. -/
import Derived.Test.YtfkclcoipadhmaaGreatDoorCz
namespace Go.Proofs.YtfkclcoipadhmaaGreatDoor
open Go.RowKit
attribute [local irreducible] seqS seqST walkV walkJ

/-- Is the first curve nowhere above the second one, as far as the first k places of the grid? -/
def undO (A C : List Pt) (l : List Rat) : Nat → Option Bool
  | 0 => some true
  | k + 1 => (undO A C l k).bind fun u => (atO A (l.getD k 0)).bind fun y => (atO C (l.getD k 0)).map fun z => decide (y ≤ z) && u
theorem undO_stay {A C : List Pt} {l : List Rat} {k : Nat} (h : undO A C l k = none) : ∀ {m : Nat}, k ≤ m → undO A C l m = none := by
  intro m hm
  induction m with
  | zero => obtain rfl : k = 0 := by omega
            exact h
  | succ m ih =>
    by_cases hk : k = m + 1
    · rw [← hk]; exact h
    · show (undO A C l m).bind _ = none
      rw [ih (by omega)]
      rfl
theorem und_step {A C : List Pt} {l : List Rat} {i : Nat} {ok u : Bool} (h : ok = (undO A C l i).isSome) (h1 : ok = true → undO A C l i = some u) {V1 V2 : Rat} (hv1 : calK ok (atO A (l.getD i 0)) = true → atO A (l.getD i 0) = some V1) (hv2 : calK (calK ok (atO A (l.getD i 0))) (atO C (l.getD i 0)) = true → atO C (l.getD i 0) = some V2) :
    calK (calK ok (atO A (l.getD i 0))) (atO C (l.getD i 0)) = (undO A C l (i + 1)).isSome ∧ (calK (calK ok (atO A (l.getD i 0))) (atO C (l.getD i 0)) = true → undO A C l (i + 1) = some (decide (V1 ≤ V2) && u)) := by
  have e : undO A C l (i + 1) = (undO A C l i).bind fun u => (atO A (l.getD i 0)).bind fun y => (atO C (l.getD i 0)).map fun z => decide (y ≤ z) && u := rfl
  rw [e]
  cases ok with
  | false =>
    have hn : undO A C l i = none := by
      cases hs : undO A C l i with
      | none => rfl
      | some x => rw [hs] at h; cases h
    rw [hn]
    exact ⟨rfl, fun h => by cases h⟩
  | true =>
    rw [h1 rfl]
    cases ha : atO A (l.getD i 0) with
    | none => exact ⟨rfl, fun h => by cases h⟩
    | some y =>
      rw [ha] at hv1 hv2
      have e1 : y = V1 := Option.some.inj (hv1 rfl)
      cases hc : atO C (l.getD i 0) with
      | none => exact ⟨rfl, fun h => by cases h⟩
      | some z =>
        rw [hc] at hv2
        have e2 : z = V2 := Option.some.inj (hv2 rfl)
        subst e1 e2
        exact ⟨rfl, fun _ => rfl⟩
def undE (c d : List P4) : Int := if comE c d = 0 then (match undO (toQ c) (toQ d) (comG (toQ c) (toQ d)) (comG (toQ c) (toQ d)).length with | some _ => 0 | none => 5) else comE c d
def undB (c d : List P4) : Bool := if comE c d = 0 then (undO (toQ c) (toQ d) (comG (toQ c) (toQ d)) (comG (toQ c) (toQ d)).length).getD false else false

set_option maxHeartbeats 8000000 in
set_option maxRecDepth 100000 in
theorem Under_any (c d : List P4) (vc vd : Value) (w : World) (hc : P4R 0 w vc c) (hd : P4R 0 w vd d) (hz : Z0 w) :
    Calls Tryz.prog 18 #[vc, vd] w fun r w' => r = .returned (.tuple #[.bool (undB c d), .int .i64 (undE c d)]) ∧ Below w.heap.size w w' := by
  have CO := hid (common_any c d vc vd w hc hd hz)
  obtain ⟨ac, cc, rfl, -⟩ := id hc
  obtain ⟨ad, cd, rfl, -⟩ := id hd
  obtain ⟨E, hE⟩ : ∃ E, undE c d = E := ⟨_, rfl⟩
  obtain ⟨R, hR⟩ : ∃ R, undB c d = R := ⟨_, rfl⟩
  rw [hE, hR]
  have HE := hid hE
  have HR := hid hR
  clear hE hR
  go_enter Tryz.func18, Tryz.ntmps18
  go_wp2_with fail
  refine CO.out.mono ?_
  rintro r w1 ⟨⟨vl, rfl, hvl⟩, hB⟩
  have hc1 := hc.below hB
  have hd1 := hd.below hB
  have hz1 := hz.below hB
  clear CO hc hd hz
  by_cases h0 : comE c d = 0
  case neg =>
    have e1 : E = comE c d := by rw [← HE.out]; exact if_neg h0
    have e2 : R = false := by rw [← HR.out]; exact if_neg h0
    rw [← e1] at h0 ⊢
    subst e2
    clear e1
    obtain ⟨al, cl, rfl, -⟩ := hvl
    go_wp2
    go_ret2
    exact ⟨rfl, hB⟩
  obtain ⟨hrc, hrd, hlen, hL⟩ := comE_zero h0
  rw [h0]
  rw [hL] at hvl
  have e1 : undE c d = (match undO (toQ c) (toQ d) (comG (toQ c) (toQ d)) (comG (toQ c) (toQ d)).length with | some _ => 0 | none => 5) := if_pos h0
  have e2 : undB c d = (undO (toQ c) (toQ d) (comG (toQ c) (toQ d)) (comG (toQ c) (toQ d)).length).getD false := if_pos h0
  rw [HE.out] at e1
  rw [HR.out] at e2
  have pc := P4R.toQ hc1 hrc
  have pd := P4R.toQ hd1 hrd
  have vc := rv_cv hrc
  have vd := rv_cv hrd
  have HMEM := hid (fun x hx => comG_mem (x := x) vc vd hx)
  have HVC := hid vc
  have HVD := hid vd
  generalize toQ c = C at pc HVC HMEM e1 e2 vc hvl hlen
  generalize toQ d = D at pd HVD HMEM e1 e2 vd hvl hlen
  obtain ⟨G, hG⟩ : ∃ G, comG C D = G := ⟨_, rfl⟩
  rw [hG] at hvl hlen HMEM e1 e2
  obtain ⟨al, cl, rfl, hcl1, hcl2, hll⟩ := hvl
  unfold maxLen at hcl2
  obtain ⟨n, hn⟩ : ∃ n, G.length = n := ⟨_, rfl⟩
  have HN := hid hn
  rw [hn] at hcl1 hlen e1 e2 ⊢
  have HX : Hid (undO C D G n = none → E = 5) := hid (fun hh => by rw [e1, hh])
  have HX2 : Hid (undO C D G n = none → R = false) := hid (fun hh => by rw [e2, hh]; rfl)
  have HY : Hid (∀ u, undO C D G n = some u → E = 0 ∧ R = u) := hid (fun u hh => by rw [e1, e2, hh]; exact ⟨rfl, rfl⟩)
  have HLL := hid hll
  have HPC := hid pc
  have HPD := hid pd
  obtain ⟨B, hBs⟩ : ∃ B, w1.heap.size = B := ⟨_, rfl⟩
  have HBS := hid hBs
  have HB := hid hB
  have HZ := hid hz1
  have kg := Blk.new w1 #[.int .i64 0] 59
  have ba := alloc_below w1 (.cells #[.int .i64 0] 59)
  obtain ⟨w2, hw2⟩ : ∃ w2, w1.alloc (.cells #[.int .i64 0] 59) = w2 := ⟨_, rfl⟩
  rw [hw2, hBs] at kg
  rw [hw2, hBs] at ba
  have hs2 : B + 1 ≤ w2.heap.size := kg.lt
  have HKG : Hid (CalB w2 B true) := hid kg
  clear e1 e2 hn hG hL h0 hrc hrd vc vd pc pd hll hc1 hd1 hz1 hB HE HR kg
  go_wp2_with fail
  clear hw2 hBs
  go_loopw [9, 24] (fun y x wr => ∃ i : Nat, x = .int .i64 i ∧ i ≤ n ∧ (∃ ok u, y = .bool u ∧ ok = (undO C D G i).isSome ∧ (ok = true → undO C D G i = some u) ∧ Hid (CalB wr B ok)) ∧ Below B w1 wr ∧ B + 1 ≤ wr.heap.size) (fun _ x _ => n - (intOf x).toNat)
  case atStart => exact ⟨0, rfl, Nat.zero_le _, ⟨true, true, rfl, rfl, fun _ => rfl, HKG⟩, ba, hs2⟩
  case round =>
    obtain ⟨i, rfl, hi, ⟨ok, u, rfl, hok, hoks, HK⟩, hbel, hsr⟩ := hrel
    have hzr : Z0 wr := HZ.out.below (by rw [HBS.out]; exact hbel)
    by_cases hiL : i < n
    · have hi2 : (i : Int) < (n : Int) := by omega
      obtain ⟨b, off, rfl, hb, x0, x1⟩ := q_cell HLL.out (show i < G.length by rw [HN.out]; exact hiL)
      rw [HBS.out] at hb
      replace x0 := (hbel.cell (p := ⟨b, off + i * 2, none⟩) hb).trans x0
      replace x1 := (hbel.cell (p := ⟨b, off + i * 2 + 1, none⟩) hb).trans x1
      obtain ⟨i1, i2, hxf⟩ := HMEM.out (G.getD i 0) (getD_memQ (by rw [HN.out]; exact hiL))
      have hst := fun V1 V2 h1 h2 => und_step (V1 := V1) (V2 := V2) hok hoks h1 h2
      obtain ⟨x, hx⟩ : ∃ x, G.getD i 0 = x := ⟨_, rfl⟩
      rw [hx] at x0 x1 i1 i2 hxf hst
      have AT1 := hid (fun w h hz hk => at_any C x (.slice ac c.length cc) HVC.out i1 hxf B ok w h hz hk)
      have AT2 := hid (fun w h hz hk => at_any D x (.slice ad d.length cd) HVD.out i2 hxf B (calK ok (atO C x)) w h hz hk)
      have HST := hid hst
      obtain ⟨n1, hn1⟩ : ∃ z, x.num = z := ⟨_, rfl⟩
      obtain ⟨d1, hd1⟩ : ∃ z, (x.den : Int) = z := ⟨_, rfl⟩
      unfold frQ at AT1 AT2
      rw [hn1] at x0
      rw [hd1] at x1
      rw [hn1, hd1] at AT1 AT2
      clear hx hst hn1 hd1 i1 i2 hxf hok hoks
      go_wp2_with fail
      have bA := alloc_below wr (.cells #[.int .i64 n1, .int .i64 d1] 31)
      have kx := Blk.new wr #[.int .i64 n1, .int .i64 d1] 31
      have hBr : B ≤ wr.heap.size := by omega
      have hbA := hbel.trans (bA.mono hBr)
      have hsA := Nat.le_trans hsr bA.size
      have hzA := hzr.below bA
      have hkA := CalB.below HK.out bA
      have hgx : wr.heap.size ≠ B := by omega
      refine (AT1.out _ (PsR.below HPC.out (by rw [HBS.out]; exact hbA)) hzA hkA).mono ?_
      rintro r w3 ⟨⟨V1, rfl, hf1, hv1⟩, hk3, ht3⟩
      have kx3 := CalT.blk ht3 kx hgx
      have hz3 := hzA.calT hkA ht3
      have hb3 := CalT.below hbA ht3 (Nat.le_refl _) (Nat.le_trans (Nat.le_succ B) hsA)
      have hs3 := Nat.le_trans hsA ht3.size
      unfold frQ
      clear AT1 bA kx hbA hsA hzA hkA ht3 x0 x1 hzr hbel hsr HK hBr
      have kV := Blk.new w3 #[.int .i64 V1.num, .int .i64 (V1.den : Int)] 31
      have bC := alloc_below w3 (.cells #[.int .i64 V1.num, .int .i64 (V1.den : Int)] 31)
      have kx4 := kx3.below bC
      have hz4 := hz3.below bC
      have hk4 := CalB.below hk3 bC
      have hb4 := hb3.trans (bC.mono (by omega))
      have hs4 := Nat.le_trans hs3 bC.size
      have hgv : w3.heap.size ≠ B := by omega
      go_wp2_with fail
      obtain ⟨W, hW⟩ : ∃ W, w3.alloc (.cells #[.int .i64 V1.num, .int .i64 (V1.den : Int)] 31) = W := ⟨_, rfl⟩
      obtain ⟨gv, hgve⟩ : ∃ g, w3.heap.size = g := ⟨_, rfl⟩
      obtain ⟨gx, hgxe⟩ : ∃ g, wr.heap.size = g := ⟨_, rfl⟩
      rw [hW] at kV kx4 hz4 hk4 hb4 hs4 ⊢
      rw [hgve] at kV hgv ⊢
      rw [hgxe] at kx4 hgx ⊢
      clear hW hgve hgxe bC kx3 hz3 hk3 hb3 hs3
      have hd : CalT B W W.drew := CalT.of_below (Below.refl W.heap.size W).drew
      have tx := fun y : SubT (CalT B) W.drew => (calT_pre B).trans hd y.b
      have z0 := fun y : SubT (CalT B) W.drew => (CalT.blk (tx y) kx4 hgx).look 0 rfl
      have z1 := fun y : SubT (CalT B) W.drew => (CalT.blk (tx y) kx4 hgx).look 1 rfl
      have z2 := fun y : SubT (CalT B) W.drew => (CalT.blk (tx y) kV hgv).look 0 rfl
      have z3 := fun y : SubT (CalT B) W.drew => (CalT.blk (tx y) kV hgv).look 1 rfl
      clear tx
      refine wp_walkJ (T := CalT B) (calT_pre B) (.rd 0 (.rd 1 (.rd 2 (.mv 3 (.bt 4 (.rd 5 (.rd 6 (.rd 7 (.rd 8 (.rd 9 (.inv []))))))))))) (by kernel_rfl) rfl (by kernel_rfl) (by kernel_rfl) ?_
      iterate 3 (refine walkJ_rd rfl (fun K hK => ?_); go_simp; refine hK _ ?_; clear hK K)
      clear z0 z1 z2 z3
      have hbd := (Below.refl W.heap.size W).drew
      have hkd := CalB.below hk4 hbd
      have hzd := hz4.below hbd
      have hb5 := hb4.trans (hbd.mono (show B ≤ W.heap.size by omega))
      (refine walkJ_mv rfl (fun K hK => ?_); go_simp; refine (AT2.out _ (PsR.below HPD.out (by rw [HBS.out]; exact hb5)) hzd hkd).mono ?_; rintro e w6 ⟨⟨V2, rfl, hf2, hv2⟩, hk6, ht6⟩; refine ⟨_, rfl, hK _ _ ht6 ?_⟩; clear hK K)
      have hb6 := CalT.below hb5 ht6 (Nat.le_refl _) (show B ≤ W.heap.size by omega)
      have hs6 : B + 1 ≤ w6.heap.size := Nat.le_trans hs4 ht6.size
      have OR := hid (fun w => order_any V1 V2 hf1 hf2 w)
      have hcm := cmp_cases V1 V2
      have hst2 := HST.out V1 V2 hv1 hv2
      have HS2 := hid hst2
      obtain ⟨cz, hcz⟩ : ∃ z, cmpQ V1 V2 = z := ⟨_, rfl⟩
      rw [hcz] at OR hcm
      have hcase : decide (V1 ≤ V2) = decide (cz ≤ 0) := by
        rcases hcm with ⟨hl, rfl, -⟩ | ⟨hl, rfl, -⟩ | ⟨hl, rfl, -⟩
        · rw [decide_eq_true (Rat.le_of_lt hl)]; rfl
        · rw [decide_eq_false (Rat.not_le.2 hl)]; rfl
        · rw [hl, decide_eq_true Rat.le_refl]; rfl
      have HCA := hid hcase
      unfold frQ at OR ⊢
      clear hcm hcz hst2 hcase hd hkd hzd hbd hb5 AT2 HST hv1 hv2 hf1 hf2 kV kx4 hz4 hk4 hb4 hs4 ht6
      (refine walkJ_bt rfl (fun K hK => ?_); go_simp; refine (OR.out _).mono ?_; rintro e w7 ⟨rfl, hb7⟩; refine ⟨_, rfl, hK _ _ ?_⟩; clear hK K)
      have hk7 := hid (CalB.below hk6 hb7)
      have hb7' := hb6.trans (hb7.mono (show B ≤ w6.heap.size by omega))
      have hs7 := Nat.le_trans hs6 hb7.size
      clear hb7 hk6 hb6 hs6 OR
      by_cases hz0 : cz ≤ 0
      · rw [decide_eq_true hz0] at HCA
        iterate 5 (refine walkJ_rd rfl (fun K hK => ?_); go_simp; refine hK _ ?_; clear hK K)
        refine walkJ_nil ?_
        go_wp2
        go_roundw
        case rel => exact ⟨i + 1, by go_num, by omega, ⟨_, u, rfl, HS2.out.1, fun hh => by rw [HS2.out.2 hh, HCA.out]; rfl, hk7⟩, hb7', hs7⟩
        case measure => simp [intOf]; omega
      · rw [decide_eq_false hz0] at HCA
        iterate 5 (refine walkJ_rd rfl (fun K hK => ?_); go_simp; refine hK _ ?_; clear hK K)
        refine walkJ_nil ?_
        go_wp2
        go_roundw
        case rel => exact ⟨i + 1, by go_num, by omega, ⟨_, false, rfl, HS2.out.1, fun hh => by rw [HS2.out.2 hh, HCA.out]; rfl, hk7⟩, hb7', hs7⟩
        case measure => simp [intOf]; omega
    · obtain rfl : n = i := by omega
      have hi2 : ¬ (n : Int) < (n : Int) := by omega
      have hBw := HB.out.trans ((show Below w1.heap.size w1 wr by rw [HBS.out]; exact hbel).mono HB.out.size)
      have c0 := HK.out.look 0 rfl
      cases ok with
      | true =>
        obtain ⟨rfl, rfl⟩ := HY.out u (hoks rfl)
        clear hok hoks HX HX2 HY
        go_wp2
        go_ret2
        exact ⟨rfl, hBw⟩
      | false =>
        have hs : undO C D G n = none := by
          cases hs : undO C D G n with
          | none => rfl
          | some l' => rw [hs] at hok; cases hok
        have e1 := HX.out hs
        have e2 := HX2.out hs
        subst e1 e2
        clear hok hoks hs HX HX2 HY
        go_wp2_with fail
        have hd := (Below.refl wr.heap.size wr).drew
        have z0 := fun x : SubT (Below wr.heap.size) wr.drew => (Blk.below HK.out (hd.trans x.b)).look 0 rfl
        refine wp_walkJ (T := Below (wr.heap.size)) (belowV_pre _) (.rd 0 (.rd 1 (.rd 2 (.rd 3 (.inv []))))) (by kernel_rfl) rfl (by kernel_rfl) (by kernel_rfl) ?_
        iterate 4 (refine walkJ_rd rfl (fun K hK => ?_); go_simp; refine hK _ ?_; clear hK K)
        refine walkJ_nil ?_
        go_wp2
        go_ret2
        exact ⟨rfl, hBw.trans (hd.mono hBw.size)⟩

end Go.Proofs.YtfkclcoipadhmaaGreatDoor
