/- Several of my texts in one: Hf, Hg. -/
import Derived.Test.YtfkclcoipadhmaaGreatDoorGg
import Derived.Deep.Cut
import Derived.Shelf.SlSortCmp.NoneTotal
import Derived.Deep.CutRange
/- Walk of curve.envelope, Upper, Lower. -/
namespace Go.Proofs.YtfkclcoipadhmaaGreatDoor
open Go.RowKit
attribute [local irreducible] seqS seqST walkV walkJ

set_option maxHeartbeats 8000000 in
set_option maxRecDepth 100000 in
theorem envelope_any (up : Bool) (c d : List P4) (vc vd : Value) (w : World) (hc : P4R 0 w vc c) (hd : P4R 0 w vd d) (hz : Z0 w) :
    Calls Tryz.prog 71 #[vc, vd, .func (.func (chooseF up)) #[] #[]] w fun r w' => (∃ v, r = .returned (.tuple #[v, .int .i64 (envE up c d)]) ∧ PsR w.heap.size w' v (envL up c d)) ∧ Below w.heap.size w w' := by
  obtain ⟨ac, cc, rfl, -⟩ := id hc
  obtain ⟨ad, cd, rfl, -⟩ := id hd
  obtain ⟨E, hE⟩ : ∃ E, envE up c d = E := ⟨_, rfl⟩
  obtain ⟨R, hR⟩ : ∃ R, envL up c d = R := ⟨_, rfl⟩
  rw [hE, hR]
  have HE := hid hE
  have HR := hid hR
  have EP := hid (fun x va vc hA hC hdA hdC hx g ga gc gf ok W h1 h2 h3 h4 h5 h6 h7 h8 h9 h10 => envPt_any up (toQ c) (toQ d) x va vc hA hC hdA hdC hx g ga gc gf ok W h1 h2 h3 h4 (tf := 66) h5 h6 h7 h8 h9 h10)
  generalize chooseF up = fp at EP ⊢
  have k0 := ((Blk.new w #[.slice ac c.length cc] 22).alloc (.cells #[.slice ad d.length cd] 22)).alloc (.cells #[.func (.func fp) #[] #[]] 66)
  have k1 := (Blk.new (w.alloc (.cells #[.slice ac c.length cc] 22)) #[.slice ad d.length cd] 22).alloc (.cells #[.func (.func fp) #[] #[]] 66)
  have k2 := Blk.new ((w.alloc (.cells #[.slice ac c.length cc] 22)).alloc (.cells #[.slice ad d.length cd] 22)) #[.func (.func fp) #[] #[]] 66
  have b0 := (((Below.refl w.heap.size w).alloc (Nat.le_refl _) (.cells #[.slice ac c.length cc] 22)).alloc (by simp) (.cells #[.slice ad d.length cd] 22)).alloc (by simp; omega) (.cells #[.func (.func fp) #[] #[]] 66)
  rw [World.size_alloc] at k1
  rw [World.size_alloc, World.size_alloc] at k2
  have c0 := k0.look 0 rfl
  have c1 := k1.look 0 rfl
  clear hE hR
  go_enter Tryz.func71, Tryz.ntmps71
  go_wp2_with fail
  obtain ⟨w0, hw0⟩ : ∃ w0, ((w.alloc (.cells #[.slice ac c.length cc] 22)).alloc (.cells #[.slice ad d.length cd] 22)).alloc (.cells #[.func (.func fp) #[] #[]] 66) = w0 := ⟨_, rfl⟩
  rw [hw0] at k0 k1 k2 b0 ⊢
  clear hw0 c0 c1
  have CO := hid (compared_any c d _ _ w0 (hc.below b0) (hd.below b0) (hz.below b0))
  refine CO.out.mono ?_
  rintro r w1 ⟨⟨a1, n1, c1, a2, n2, c2, a3, n3, c3, a4, n4, c4, rfl, hin⟩, hb1⟩
  have hB1 := b0.trans (hb1.mono b0.size)
  have k01 := k0.below hb1
  have k11 := k1.below hb1
  have k21 := k2.below hb1
  have hc1 := (hc.below b0).below hb1
  have hd1 := (hd.below b0).below hb1
  have hz1 := (hz.below b0).below hb1
  have hs1 : w.heap.size + 1 + 1 + 1 ≤ w1.heap.size := k21.lt
  have hlo : 0 ≤ w0.heap.size := Nat.zero_le _
  clear CO hb1 k0 k1 k2 b0 hc hd hz
  by_cases h0 : cmpE c d = 0
  case neg =>
    have e1 : E = cmpE c d := by rw [← HE.out]; exact if_neg h0
    have e2 : R = [] := by rw [← HR.out]; exact if_neg h0
    rw [← e1] at h0 ⊢
    subst e2
    clear e1 hin EP
    have hB2 := hB1.alloc hB1.size (.cells #[.slice a1 n1 c1, .slice a2 n2 c2, .slice a3 n3 c3, .slice a4 n4 c4] 70)
    go_wp2
    go_ret2
    exact ⟨⟨_, rfl, SlR.nil _ _⟩, hB2⟩
  obtain ⟨hq3, -⟩ := hin h0
  obtain ⟨h00, hrc, hrd, -, -, hlen⟩ := cmp_zero h0
  have e1 : envE up c d = madE (envO up (toQ c) (toQ d)) (cmpA c d).1 := if_pos h0
  have e2 : envL up c d = madL (envO up (toQ c) (toQ d)) (cmpA c d).1 := if_pos h0
  have pc := P4R.toQ hc1 hrc
  have pd := P4R.toQ hd1 hrd
  have vc := rv_cv hrc
  have vd := rv_cv hrd
  have bg := alloc_below w1 (.cells #[.slice a1 n1 c1, .slice a2 n2 c2, .slice a3 n3 c3, .slice a4 n4 c4] 70)
  have kg := Blk.new w1 #[.slice a1 n1 c1, .slice a2 n2 c2, .slice a3 n3 c3, .slice a4 n4 c4] 70
  have hBg := hB1.trans (bg.mono hB1.size)
  have HMM := hid (fun x hx => cmp_mem h0 (x := x) hx)
  rw [h0]
  have MA := hid (made_c (cmpA c d).1 105 #[.pointer (some ⟨w.heap.size, 0, none⟩), .pointer (some ⟨w.heap.size + 1, 0, none⟩), .pointer (some ⟨w.heap.size + 1 + 1, 0, none⟩)] (envO up (toQ c) (toQ d)) (.slice a3 n3 c3) _ (SlR.below (SlR.mono hq3 hlo) bg) (hz1.below bg) (by omega)
    ⟨enters_of Tryz.func105 (by kernel_rfl) rfl, fun x hx g ok W hg hb hz hk => by
      obtain ⟨i1, i2, i3⟩ := HMM.out x hx
      have hsg := bg.size
      exact EP.out x _ _ vc vd i1 i2 i3 g w.heap.size (w.heap.size + 1) (w.heap.size + 1 + 1) ok W (PsR.below (PsR.below pc bg) hb) (PsR.below (PsR.below pd bg) hb) ((k01.below bg).below hb) ((k11.below bg).below hb) ((k21.below bg).below hb) (by omega) (by omega) (by omega) hz hk⟩)
  rw [← e1, ← e2, HE.out, HR.out] at MA
  have q2 := kg.look 2 rfl
  clear e1 e2 pc pd vc vd hc1 hd1 hz1 hlen hrc hrd HE HR h0 hq3 hin EP HMM k01 k11 k21 kg hB1 bg h00
  go_wp2_with fail
  refine MA.out.mono ?_
  rintro r w2 ⟨⟨v, rfl, hv⟩, hb2⟩
  have hv2 := PsR.mono hv hBg.size
  have hB2 := hBg.trans (hb2.mono hBg.size)
  clear MA hv hb2
  go_wp2
  go_ret2
  exact ⟨⟨_, rfl, hv2⟩, hB2⟩

set_option maxHeartbeats 4000000 in
set_option maxRecDepth 100000 in
theorem Upper_any (c d : List P4) (vc vd : Value) (w : World) (hc : P4R 0 w vc c) (hd : P4R 0 w vd d) (hz : Z0 w) :
    Calls Tryz.prog 30 #[vc, vd] w fun r w' => (∃ v, r = .returned (.tuple #[v, .int .i64 (envE true c d)]) ∧ PsR w.heap.size w' v (envL true c d)) ∧ Below w.heap.size w w' := by
  have EN := hid (envelope_any true c d vc vd w hc hd hz)
  generalize envE true c d = E at EN ⊢
  generalize envL true c d = R at EN ⊢
  obtain ⟨ac, cc, rfl, -⟩ := id hc
  obtain ⟨ad, cd, rfl, -⟩ := id hd
  clear hc hd hz
  have EN2 : Hid (Calls Tryz.prog 71 #[.slice ac c.length cc, .slice ad d.length cd, .func (.func 72) #[] #[]] w fun r w' => (∃ v, r = .returned (.tuple #[v, .int .i64 E]) ∧ PsR w.heap.size w' v R) ∧ Below w.heap.size w w') := EN
  clear EN
  go_enter Tryz.func30, Tryz.ntmps30
  go_wp2_with fail
  refine EN2.out.mono ?_
  rintro r w2 ⟨⟨v, rfl, hv2⟩, hB2⟩
  clear EN2
  go_wp2
  go_ret2
  exact ⟨⟨_, rfl, hv2⟩, hB2⟩
set_option maxHeartbeats 4000000 in
set_option maxRecDepth 100000 in
theorem Lower_any (c d : List P4) (vc vd : Value) (w : World) (hc : P4R 0 w vc c) (hd : P4R 0 w vd d) (hz : Z0 w) :
    Calls Tryz.prog 32 #[vc, vd] w fun r w' => (∃ v, r = .returned (.tuple #[v, .int .i64 (envE false c d)]) ∧ PsR w.heap.size w' v (envL false c d)) ∧ Below w.heap.size w w' := by
  have EN := hid (envelope_any false c d vc vd w hc hd hz)
  generalize envE false c d = E at EN ⊢
  generalize envL false c d = R at EN ⊢
  obtain ⟨ac, cc, rfl, -⟩ := id hc
  obtain ⟨ad, cd, rfl, -⟩ := id hd
  clear hc hd hz
  have EN2 : Hid (Calls Tryz.prog 71 #[.slice ac c.length cc, .slice ad d.length cd, .func (.func 74) #[] #[]] w fun r w' => (∃ v, r = .returned (.tuple #[v, .int .i64 E]) ∧ PsR w.heap.size w' v R) ∧ Below w.heap.size w w') := EN
  clear EN
  go_enter Tryz.func32, Tryz.ntmps32
  go_wp2_with fail
  refine EN2.out.mono ?_
  rintro r w2 ⟨⟨v, rfl, hv2⟩, hB2⟩
  clear EN2
  go_wp2
  go_ret2
  exact ⟨⟨_, rfl, hv2⟩, hB2⟩

end Go.Proofs.YtfkclcoipadhmaaGreatDoor

/- Walk of curve.Crossings. -/
namespace Go.Proofs.YtfkclcoipadhmaaGreatDoor
open Go.RowKit
attribute [local irreducible] seqS seqST walkV walkJ

theorem zerL_stay {l d : List Rat} {i : Nat} (h : l.length ≤ i + 1) : ∀ k, i ≤ k → zerL l d k = zerL l d i := by
  intro k hk
  induction k with
  | zero => obtain rfl : i = 0 := by omega
            rfl
  | succ k ih =>
    by_cases he : i = k + 1
    · rw [he]
    · have hz : zerB l d k = false := by
        unfold zerB
        rw [decide_eq_false (by omega)]
        rfl
      rw [zerL_no hz]
      exact ih (by omega)
theorem zerL_one (l d : List Rat) : zerL l d 1 = [] := by
  have hz : zerB l d 0 = false := by
    unfold zerB
    rw [decide_eq_false (by omega)]
    rfl
  rw [zerL_no hz]
  rfl
theorem zerL_all (l d : List Rat) {i : Nat} (h0 : 1 ≤ i) (h : l.length ≤ i + 1) : zerL l d i = zerL l d l.length := by
  rw [zerL_stay (i := l.length - 1) (by omega) i (by omega), zerL_stay (i := l.length - 1) (by omega) l.length (by omega)]
theorem QsR.of_row {B g n cap : Nat} {w : World} {d : List Rat} (h : QRow w g d) (hg : B ≤ g) (hs : g < w.heap.size) (hn : d.length = n) (h1 : n ≤ cap) (h2 : cap ≤ maxLen) : QsR B w (.slice (some ⟨g, 0, none⟩) n cap) d := by
  unfold QsR
  rw [hn]
  refine ⟨some ⟨g, 0, none⟩, cap, rfl, h1, h2, fun _ => ⟨g, 0, rfl, hg, hs, fun j hj => ?_⟩⟩
  exact (h j _ (getD_some hj)).1

theorem vals_fits {A C : List Pt} {l o : List Rat} (h : valsO (dffO A C) l l.length = some o) {q : Rat} (hq : q ∈ o) : fits q := by
  obtain ⟨i, hi, rfl⟩ := List.getElem_of_mem hq
  have hl := valsO_len h
  have hg := valsO_get h i (by omega)
  rw [List.getD_eq_getElem?_getD (l := o), List.getElem?_eq_getElem hi] at hg
  unfold dffO at hg
  cases hc : atO C (l.getD i 0) with
  | none => rw [hc] at hg; cases hg
  | some z =>
    rw [hc] at hg
    simp only [Option.bind_some] at hg
    cases ha : atO A (l.getD i 0) with
    | none => rw [ha] at hg; cases hg
    | some y =>
      rw [ha] at hg
      exact (fitO_fits hg).1

set_option maxHeartbeats 4000000 in
set_option maxRecDepth 100000 in
theorem sort_nil (w : World) (cap : Nat) : Calls Tryz.prog 77 #[.slice none 0 cap, .func (.func 57) #[] #[]] w fun r w' => r = .returned (.tuple #[]) ∧ Below w.heap.size w w' :=
  (AnyF.slices_SortFunc_none (P := Tryz.prog) Tryz.laysSort none cap _ w).mono fun _ _ ⟨h1, h2⟩ => ⟨h1, by rw [h2]; exact Below.refl _ _⟩

set_option maxHeartbeats 8000000 in
set_option maxRecDepth 100000 in
theorem Crossings_any (c d : List P4) (vc vd : Value) (w : World) (hc : P4R 0 w vc c) (hd : P4R 0 w vd d) (hz : Z0 w) :
    Calls Tryz.prog 33 #[vc, vd] w fun r w' => (∃ v, r = .returned (.tuple #[v, .int .i64 (cmpE c d)]) ∧ QsR w.heap.size w' v (croL c d)) ∧ Below w.heap.size w w' := by
  obtain ⟨ac, cc, rfl, -⟩ := id hc
  obtain ⟨ad, cd, rfl, -⟩ := id hd
  obtain ⟨E, hE⟩ : ∃ E, cmpE c d = E := ⟨_, rfl⟩
  obtain ⟨R, hR⟩ : ∃ R, croL c d = R := ⟨_, rfl⟩
  rw [hE, hR]
  have HE := hid hE
  have HR := hid hR
  have CO := hid (compared_any c d _ _ w hc hd hz)
  clear hE hR hc hd hz
  go_enter Tryz.func33, Tryz.ntmps33
  go_wp2_with fail
  refine CO.out.mono ?_
  rintro r w1 ⟨⟨a1, n1, c1, a2, n2, c2, a3, n3, c3, a4, n4, c4, rfl, hin⟩, hb1⟩
  have kg := Blk.new w1 #[.slice a1 n1 c1, .slice a2 n2 c2, .slice a3 n3 c3, .slice a4 n4 c4] 70
  have bg := alloc_below w1 (.cells #[.slice a1 n1 c1, .slice a2 n2 c2, .slice a3 n3 c3, .slice a4 n4 c4] 70)
  have hbg := hb1.trans (bg.mono hb1.size)
  rw [HE.out] at hin ⊢
  clear CO
  by_cases h0 : E = 0
  case neg =>
    have e2 : R = [] := by rw [← HR.out]; exact if_neg (by rw [HE.out]; exact h0)
    subst e2
    clear hin bg kg hb1
    go_wp2
    go_ret2
    exact ⟨⟨_, rfl, SlR.nil _ _⟩, hbg⟩
  obtain ⟨-, B2, hB2, hB2s, hown, hall⟩ := hin h0
  subst h0
  have h0 : cmpE c d = 0 := HE.out
  obtain ⟨h00, hrc, hrd, hcd, hgr, hlen⟩ := cmp_zero h0
  have HFM := hid (fun x hx => (cmp_mem h0 (x := x) hx).2.2)
  have HCR : Hid (croL c d = crsL (comG (toQ c) (toQ d)) (cmpV c d) (cmpA c d).1) := hid (if_pos h0)
  have hris : Rising (comG (toQ c) (toQ d)) := (gridQ_grid _ _).1
  have HSO := hid (fun s hp hs => crs_sorted hris hgr (s := s) hp hs)
  have hgl := (comE_zero h00).2.2.1
  have hVl : (cmpV c d).length = (comG (toQ c) (toQ d)).length := valsO_len hcd
  have hGI := grd_inv hris (Nat.le_refl _) hgr
  have HVF : Hid (∀ q ∈ cmpV c d, fits q) := hid (fun q hq => vals_fits hcd hq)
  have HGM : Hid (∀ q ∈ comG (toQ c) (toQ d), fits q) := hid (fun q hq => (comG_mem (rv_cv hrc) (rv_cv hrd) hq).2.2)
  have HMO : Hid (∀ q ∈ (cmpA c d).2, fits q) := hid (fun q hq => HFM.out q ((hGI.mem q).2 (.inr hq)))
  have hMl : (cmpA c d).2.length ≤ 48 := by have := hGI.len; omega
  have HRR := hid (HR.out.symm.trans HCR.out)
  clear hgr hris hGI hcd h00 hrc hrd h0 HR HCR HFM
  obtain ⟨G, hG⟩ : ∃ G, comG (toQ c) (toQ d) = G := ⟨_, rfl⟩
  obtain ⟨V, hV⟩ : ∃ V, cmpV c d = V := ⟨_, rfl⟩
  obtain ⟨M, hM⟩ : ∃ V, (cmpA c d).2 = V := ⟨_, rfl⟩
  obtain ⟨A, hA⟩ : ∃ V, (cmpA c d).1 = V := ⟨_, rfl⟩
  rw [hG] at hall hgl hVl HGM HSO HRR
  rw [hV] at hall hVl HVF HSO HRR
  rw [hM] at hown HMO hMl HSO
  rw [hA] at HSO HRR
  clear hG hV hM hA HE hlen
  have HALL := hid hall
  have HB1 := hid hb1
  have hnB := hB2s
  obtain ⟨-, -⟩ : True ∧ True := ⟨trivial, trivial⟩
  have e4 : n4 = M.length := by
    obtain ⟨ao, cap, e, -⟩ := SlR.of_owns hown
    exact (Value.slice.inj e).2.1
  subst e4
  obtain ⟨⟨ao1, cap1, e1, -, hm1, -⟩, ⟨ao2, cap2, e2, -, hm2, -⟩⟩ := hall w1 (Below.refl B2 w1)
  obtain rfl : n1 = G.length := (Value.slice.inj e1).2.1
  obtain rfl : n2 = V.length := (Value.slice.inj e2).2.1
  obtain ⟨n, hn⟩ : ∃ n, G.length = n := ⟨_, rfl⟩
  rw [hn] at hgl hVl HALL kg bg hbg ⊢
  rw [hVl] at HALL kg bg hbg ⊢
  have HN := hid hn
  have HVN := hid hVl
  clear e1 e2 hm1 hm2 hn hVl hall
  obtain ⟨gg, hgg⟩ : ∃ g, w1.heap.size = g := ⟨_, rfl⟩
  obtain ⟨W0, hW0⟩ : ∃ W, w1.alloc (.cells #[.slice a1 n c1, .slice a2 n c2, .slice a3 n3 c3, .slice a4 M.length c4] 70) = W := ⟨_, rfl⟩
  have hs0 : gg < W0.heap.size := by rw [← hW0, ← hgg]; simp
  have ho0 := owns_below hown bg
  have hlt0 : ∀ k, (Value.slice a4 M.length c4).ownBlock = some k → k ≠ gg := fun k hk e => by
    have := (hown.lt k hk).2
    omega
  have hb2 : Below B2 w1 W0 := by rw [← hW0]; exact bg.mono hB2s
  rw [hW0] at kg ho0
  rw [hgg] at kg hB2s
  have KG := hid kg
  have HO0 := hid ho0
  have HW0 := hid hW0
  have HGG := hid hgg
  have HBB := hid hb2
  have hhs : w.heap.size ≤ B2 := hB2
  clear kg bg hown ho0 hW0 hgg hbg hb1 hb2 hnB hB2
  go_wp2_with fail
  rw [HW0.out, HGG.out]
  clear HW0
  go_loopw [8, 9] (fun y x wr => ∃ (i : Nat) (u : Value), x = .int .i64 i ∧ y = u ∧ 1 ≤ i ∧ i ≤ n + 1 ∧ Hid (wr.ownsRow B2 31 2 u (M ++ zerL G V i).length (frsC (M ++ zerL G V i))) ∧ (∀ k, u.ownBlock = some k → k ≠ gg) ∧ Hid (Blk wr gg #[.slice a1 n c1, .slice a2 n c2, .slice a3 n3 c3, .slice a4 M.length c4] 70) ∧ Hid (Below B2 w1 wr)) (fun _ x _ => n + 1 - (intOf x).toNat)
  case atStart => exact ⟨1, _, rfl, rfl, Nat.le_refl _, by omega, by rw [zerL_one, List.append_nil]; exact HO0, hlt0, KG, HBB⟩
  case round =>
    clear KG HO0 HBB
    obtain ⟨i, u, rfl, rfl, hi, hin, HO, hne, HKG, HBR⟩ := hrel
    have hbr := HBR.out
    obtain ⟨⟨ao1, cap1, e1, -, -, hG1⟩, ⟨ao2, cap2, e2, -, -, hV1⟩⟩ := HALL.out wr hbr
    obtain ⟨rfl, -, -⟩ := Value.slice.inj e1
    obtain ⟨rfl, -, -⟩ := Value.slice.inj e2
    have wA : IntKind.i64.wrap ((i : Int) + 1) = (i : Int) + 1 := by rw [IntWalk.i64_left]; unfold wrap64; omega
    have g0 := HKG.out.look 0 rfl
    clear e1 e2
    by_cases hin2 : i + 1 < n
    case pos =>
      have hi2 : (i : Int) + 1 < (n : Int) := by omega
      obtain ⟨bv, ov, rfl, hbv, y0, y1⟩ := q_cell hV1 (show i < V.length by rw [HVN.out]; omega)
      obtain ⟨bv2, ov2, e3, -, y2, y3⟩ := q_cell hV1 (show i - 1 < V.length by rw [HVN.out]; omega)
      obtain ⟨rfl, rfl⟩ : bv = bv2 ∧ ov = ov2 := by simpa using e3
      obtain ⟨bv3, ov3, e4, -, y4, y5⟩ := q_cell hV1 (show i + 1 < V.length by rw [HVN.out]; omega)
      obtain ⟨rfl, rfl⟩ : bv = bv3 ∧ ov = ov3 := by simpa using e4
      obtain ⟨bl, ol, rfl, hbl, x0, x1⟩ := q_cell hG1 (show i < G.length by rw [HN.out]; omega)
      clear e3 e4 hG1 hV1
      have hzf := HVF.out (V.getD i 0) (getD_memQ (by rw [HVN.out]; omega))
      have hpf := HVF.out (V.getD (i - 1) 0) (getD_memQ (by rw [HVN.out]; omega))
      have hrf := HVF.out (V.getD (i + 1) 0) (getD_memQ (by rw [HVN.out]; omega))
      have hzb : zerB G V i = (decide (V.getD i 0 = 0) && chgB (V.getD (i - 1) 0) (V.getD (i + 1) 0)) := by
        unfold zerB
        congr 1
        rw [HN.out]
        simp only [decide_eq_decide]
        exact ⟨fun h => h.2.2, fun h => ⟨by omega, hin2, h⟩⟩
      have hmu := sgnI_mul (V.getD (i - 1) 0) (V.getD (i + 1) 0)
      obtain ⟨x, hx⟩ : ∃ x, G.getD i 0 = x := ⟨_, rfl⟩
      obtain ⟨q, hq⟩ : ∃ x, V.getD i 0 = x := ⟨_, rfl⟩
      obtain ⟨p, hp⟩ : ∃ x, V.getD (i - 1) 0 = x := ⟨_, rfl⟩
      obtain ⟨r, hr⟩ : ∃ x, V.getD (i + 1) 0 = x := ⟨_, rfl⟩
      rw [hx] at x0 x1
      rw [hq] at y0 y1 hzf hzb
      rw [hp] at y2 y3 hpf hzb hmu
      rw [hr] at y4 y5 hrf hzb hmu
      have hq0 : q = 0 ↔ q.num = 0 := Rat.num_eq_zero.symm
      have SG1 := hid (fun w => signI_any p w)
      have SG2 := hid (fun w => signI_any r w)
      have sp : -1 ≤ sgnI p ∧ sgnI p ≤ 1 := by unfold sgnI; split <;> (try split) <;> omega
      have sr : -1 ≤ sgnI r ∧ sgnI r ≤ 1 := by unfold sgnI; split <;> (try split) <;> omega
      obtain ⟨s1, hs1⟩ : ∃ z, sgnI p = z := ⟨_, rfl⟩
      obtain ⟨s2, hs2⟩ : ∃ z, sgnI r = z := ⟨_, rfl⟩
      rw [hs1] at SG1 hmu sp
      rw [hs2] at SG2 hmu sr
      have wM : IntKind.i64.wrap (s1 * s2) = s1 * s2 := by
        have : -1 ≤ s1 * s2 ∧ s1 * s2 ≤ 1 := by
          obtain rfl | rfl | rfl : s1 = -1 ∨ s1 = 0 ∨ s1 = 1 := by omega
          all_goals omega
        rw [IntWalk.i64_left]; unfold wrap64; omega
      have wS : IntKind.i64.wrap ((i : Int) - 1) = ((i - 1 : Nat) : Int) := by rw [IntWalk.i64_left]; unfold wrap64; omega
      unfold frQ at SG1 SG2
      have HX := hid hx
      obtain ⟨x9, hx9⟩ : ∃ z, x.num = z := ⟨_, rfl⟩
      obtain ⟨x8, hx8⟩ : ∃ z, (x.den : Int) = z := ⟨_, rfl⟩
      obtain ⟨q1, hq1⟩ : ∃ z, q.num = z := ⟨_, rfl⟩
      obtain ⟨p1, hp1⟩ : ∃ z, p.num = z := ⟨_, rfl⟩
      obtain ⟨p2, hp2⟩ : ∃ z, (p.den : Int) = z := ⟨_, rfl⟩
      obtain ⟨r1, hr1⟩ : ∃ z, r.num = z := ⟨_, rfl⟩
      obtain ⟨r2, hr2⟩ : ∃ z, (r.den : Int) = z := ⟨_, rfl⟩
      rw [hx9] at x0
      rw [hx8] at x1
      rw [hq1] at y0 hq0
      rw [hp1] at y2 SG1
      rw [hp2] at y3 SG1
      rw [hr1] at y4 SG2
      rw [hr2] at y5 SG2
      have HX9 := hid hx9
      have HX8 := hid hx8
      have g1 := HKG.out.look 1 rfl
      have hlg := HKG.out.lt
      clear hx hq hp hr hs1 hs2 hzf hpf hrf hx9 hx8 hq1 hp1 hp2 hr1 hr2 y1
      go_wp2_with fail
      go_cut [53] from 29 to 53 (fun t wx => t = .bool (zerB G V i) ∧ Below wr.heap.size wr wx)
      case first =>
        have hd := (Below.refl wr.heap.size wr).drew
        have z0 := fun y : SubT (Below wr.heap.size) wr.drew => ((hd.trans y.b).cell (p := ⟨gg, 1, none⟩) hlg).trans g1
        have z1 := fun y : SubT (Below wr.heap.size) wr.drew => ((hd.trans y.b).cell (p := ⟨bv, ov + i * 2, none⟩) hbv).trans y0
        have z2 := fun y : SubT (Below wr.heap.size) wr.drew => ((hd.trans y.b).cell (p := ⟨bv, ov + (i - 1) * 2, none⟩) hbv).trans y2
        have z3 := fun y : SubT (Below wr.heap.size) wr.drew => ((hd.trans y.b).cell (p := ⟨bv, ov + (i - 1) * 2 + 1, none⟩) hbv).trans y3
        have z4 := fun y : SubT (Below wr.heap.size) wr.drew => ((hd.trans y.b).cell (p := ⟨bv, ov + (i + 1) * 2, none⟩) hbv).trans y4
        have z5 := fun y : SubT (Below wr.heap.size) wr.drew => ((hd.trans y.b).cell (p := ⟨bv, ov + (i + 1) * 2 + 1, none⟩) hbv).trans y5
        have hi3 : 0 ≤ ((i - 1 : Nat) : Int) := Int.natCast_nonneg _
        have hi4 : ((i - 1 : Nat) : Int) < (n : Int) := by omega
        have hi5 : (i : Int) < (n : Int) := by omega
        have hi6 : 0 ≤ (i : Int) + 1 := by omega
        clear y0 y2 y3 y4 y5
        by_cases h0 : q1 = 0
        case pos =>
          have hq : q = 0 := hq0.2 h0
          have hz9 : zerB G V i = chgB p r := by rw [hzb, decide_eq_true hq, Bool.true_and]
          have hlt9 : (decide (s1 * s2 < 0)) = chgB p r := by
            cases hc : chgB p r with
            | true =>
              refine decide_eq_true ?_
              apply Decidable.byContradiction
              intro h
              rw [hmu.1 (by omega)] at hc
              cases hc
            | false =>
              refine decide_eq_false ?_
              have := hmu.2 hc
              omega
          have HZ9 := hid (hlt9.trans hz9.symm)
          subst h0
          clear hmu hlt9 hz9 hzb hq0 hq
          refine wp_walkJ (T := Below (wr.heap.size)) (belowV_pre _) (.rd 0 (.rd 1 (.rd 2 (.rd 3 (.rd 4 (.rd 5 (.rd 6 (.rd 7 (.rd 8 (.rd 9 (.rd 10 (.rd 11 (.rd 12 (.rd 13 (.rd 15 (.rd 16 (.rd 17 (.rd 18 (.rd 19 (.rd 20 (.mv 14 (.bt 21 (.rd 22 (.rd 23 (.rd 24 (.inv [])))))))))))))))))))))))))) (by kernel_rfl) rfl (by kernel_rfl) (by kernel_rfl) ?_
          iterate 20 (refine walkJ_rd rfl (fun K hK => ?_); go_simp; refine hK _ ?_; clear hK K)
          clear z0 z1 z2 z3 z4 z5
          (refine walkJ_mv rfl (fun K hK => ?_); go_simp; refine (SG1.out _).mono ?_; rintro e w9 ⟨rfl, hb9⟩; refine ⟨_, rfl, hK _ _ hb9 ?_⟩; clear hK K)
          (refine walkJ_bt rfl (fun K hK => ?_); go_simp; refine (SG2.out _).mono ?_; rintro e w10 ⟨rfl, hb10⟩; refine ⟨_, rfl, hK _ _ ?_⟩; clear hK K)
          iterate 3 (refine walkJ_rd rfl (fun K hK => ?_); go_simp; refine hK _ ?_; clear hK K)
          refine walkJ_nil ?_
          have hbB : Below wr.heap.size wr w10 := (hd.trans (hb9.mono hd.size)).trans (hb10.mono (Nat.le_trans hd.size hb9.size))
          have HBB := hid hbB
          clear hd hb9 hb10 hbB
          go_wp2_with fail
          go_meet
          exact ⟨by rw [HZ9.out], HBB.out⟩
        case neg =>
          have hz9 : zerB G V i = false := by rw [hzb, decide_eq_false (fun h => h0 (hq0.1 h))]; rfl
          have HZ9 := hid hz9
          clear hmu hz9 hzb hq0
          refine wp_walkJ (T := Below (wr.heap.size)) (belowV_pre _) (.rd 0 (.rd 1 (.rd 2 (.rd 3 (.rd 4 (.rd 5 (.rd 6 (.rd 7 (.rd 8 (.rd 9 (.rd 10 (.rd 11 (.rd 12 (.rd 13 (.rd 15 (.rd 16 (.rd 17 (.rd 18 (.rd 19 (.rd 20 (.mv 14 (.bt 21 (.rd 22 (.rd 23 (.rd 24 (.inv [])))))))))))))))))))))))))) (by kernel_rfl) rfl (by kernel_rfl) (by kernel_rfl) ?_
          iterate 20 (refine walkJ_rd rfl (fun K hK => ?_); go_simp; refine hK _ ?_; clear hK K)
          clear z0 z1 z2 z3 z4 z5
          (refine walkJ_sk rfl (fun K hK => ?_); go_simp; refine hK _ ?_; clear hK K)
          (refine walkJ_bs rfl (fun K hK => ?_); go_simp; refine hK _ ?_; clear hK K)
          iterate 3 (refine walkJ_rd rfl (fun K hK => ?_); go_simp; refine hK _ ?_; clear hK K)
          refine walkJ_nil ?_
          go_wp2_with fail
          go_meet
          exact ⟨by rw [HZ9.out], hd⟩
      case rest =>
        obtain ⟨rfl, hbc⟩ := hcut
        have kgc := HKG.out.below hbc
        have hoc := owns_below HO.out hbc
        have hbrc := hbr.trans (hbc.mono (Nat.le_trans hB2s (Nat.le_of_lt hlg)))
        have hsc : B2 ≤ wc.heap.size := Nat.le_trans (Nat.le_trans hB2s (Nat.le_of_lt hlg)) hbc.size
        have x0c := (hbc.cell (p := ⟨bl, ol + i * 2, none⟩) hbl).trans x0
        have x1c := (hbc.cell (p := ⟨bl, ol + i * 2 + 1, none⟩) hbl).trans x1
        have hmz : (M ++ zerL G V i).length ≤ 200 := by
          rw [List.length_append]
          have : (zerL G V i).length ≤ i := by
            unfold zerL
            rw [List.length_map]
            exact Nat.le_trans (List.length_filter_le _ _) (by rw [List.length_range]; exact Nat.le_refl _)
          omega
        have hi5 : (i : Int) < (n : Int) := by omega
        clear x0 x1 y0 y2 y3 y4 y5 g0 g1 hzb hmu hq0 hbl hbv
        cases hzz : zerB G V i with
        | false =>
          have HZE := hid (zerL_no hzz)
          clear hzz
          go_wp2
          go_roundw
          case rel => exact ⟨i + 1, _, by go_num, rfl, by omega, by omega, by rw [HZE.out]; exact hid hoc, hne, hid kgc, hid hbrc⟩
          case measure => simp [intOf]; omega
        | true =>
          have HZE : Hid (M ++ zerL G V (i + 1) = M ++ zerL G V i ++ [x]) := hid (by rw [zerL_yes hzz, HX.out, List.append_assoc])
          have g0 := kgc.look 0 rfl
          have HOC := hid hoc
          obtain ⟨m, hm⟩ : ∃ m, (M ++ zerL G V i).length = m := ⟨_, rfl⟩
          rw [hm] at HOC hmz
          have HM := hid hm
          clear hzz hoc hm
          go_wp2_with (first
            | (at_builtin; refine wpList_appO rfl (.tmp 54) (.tmp 60) _ rfl B2 31 (frV 0 0) 2 16 Tryz.underlying37 infoFrac rfl (by decide) 31 _ _ _ rfl HOC.out [.int .i64 x9, .int .i64 x8] _ (by first | rfl | simp) rfl rfl (by simp [Value.oneCell']) (by unfold maxLen; omega) (by omega) hsc ?_; intro g5 gcap w7 ho7 hb7 hgr7 hg5 hg5s hg7))
          have hgl9 := kgc.lt
          have hgx : gg ≠ g5 := by
            intro e
            rcases hg7 with h | h
            · exact hne g5 h e.symm
            · omega
          have kg7 : Blk w7 gg _ _ := (World.grownBy.block hgr7 gg hgl9 (fun e => hne gg e.symm rfl)).trans kgc
          rw [← show frsC (M ++ zerL G V i ++ [x]) = frsC (M ++ zerL G V i) ++ [.int .i64 x9, .int .i64 x8] from by rw [frsC_append _ [x], ← HX9.out, ← HX8.out]; rfl] at ho7
          have HL : Hid ((M ++ zerL G V i ++ [x]).length = m + 1) := hid (by rw [List.length_append, HM.out]; rfl)
          have HB7 := hid (hbrc.trans hb7)
          have HO7 := hid ho7
          have HK7 := hid kg7
          clear hgr7 hg7 hb7 kgc hbrc ho7 kg7 x0c x1c g0
          go_wp2
          go_roundw
          case rel => exact ⟨i + 1, _, by go_num, rfl, by omega, by omega, by rw [HZE.out, HL.out]; exact HO7, fun k hk e => hgx ((Option.some.inj hk).trans e).symm, HK7, HB7⟩
          case measure => simp [intOf]; omega
    case neg =>
      have hi2 : ¬ (i : Int) + 1 < (n : Int) := by omega
      have hze := zerL_all G V hi (by rw [HN.out]; omega)
      rw [hze] at HO
      have HOO := HO.out
      have hfa : ∀ q ∈ M ++ zerL G V G.length, fits q := fun q hq => by
        rcases List.mem_append.1 hq with h | h
        · exact HMO.out q h
        · obtain ⟨j, hj, -, rfl⟩ := zerL_mem.1 h
          exact HGM.out _ (getD_memQ hj)
      have hml : (M ++ zerL G V G.length).length ≤ 200 := by
        rw [List.length_append]
        have : (zerL G V G.length).length ≤ G.length := by
          unfold zerL
          rw [List.length_map]
          exact Nat.le_trans (List.length_filter_le _ _) (by rw [List.length_range]; exact Nat.le_refl _)
        rw [HN.out] at this ⊢
        omega
      have hbw := HB1.out.trans (hbr.mono hhs)
      obtain ⟨hll, ⟨rfl, hn0⟩ | ⟨g, cap, cur, rfl, hg, hgh, hc1, hc2, -, -⟩⟩ := id HOO
      · have hnil : M ++ zerL G V G.length = [] := List.length_eq_zero_iff.1 hn0
        have HRN : Hid (R = []) := hid (by
          rw [HRR.out]
          refine (HSO.out [] (by rw [hnil]) (fun i j _ h => by cases h)).symm)
        have SO := hid (fun w => sort_nil w 0)
        clear HO HOO hnil HSO hfa hml hze hG1 hV1
        go_wp2_with fail
        refine (SO.out _).mono ?_
        rintro r w2 ⟨rfl, hb2⟩
        have hB2 := hbw.trans (hb2.mono hbw.size)
        clear SO hb2
        go_wp2
        go_ret2
        exact ⟨⟨_, rfl, by rw [HRN.out]; exact SlR.nil _ _⟩, hB2⟩
      · obtain ⟨-, -, hgs⟩ : ∃ _ : True, True ∧ g < wr.heap.size := ⟨trivial, trivial, (Array.getElem?_eq_some_iff.1 hgh).1⟩
        obtain ⟨m, hm⟩ : ∃ m, (M ++ zerL G V G.length).length = m := ⟨_, rfl⟩
        rw [hm] at HOO hml hc1 ⊢
        have SO := hid (sort_any (M ++ zerL G V G.length) B2 g m cap wr hm (by omega) hfa hg hgs (RowF.of_owns HOO))
        have HM := hid hm
        clear HO HOO hm hgh hfa hze hG1 hV1 hll
        go_wp2_with fail
        refine SO.out.mono ?_
        rintro r w2 ⟨⟨rfl, d9, hp, hso, hQ⟩, hb2⟩
        have hB2 := hbw.trans (hb2.mono hhs)
        have hgs2 := Nat.lt_of_lt_of_le hgs hb2.size
        have HRD : Hid (R = d9) := hid (by rw [HRR.out]; exact (HSO.out d9 hp hso).symm)
        have HQR := hid (QsR.of_row hQ (Nat.le_trans hhs hg) hgs2 (hp.length_eq.trans HM.out) hc1 hc2)
        clear SO hb2 hp hso hQ HSO
        go_wp2
        go_ret2
        exact ⟨⟨_, rfl, by rw [HRD.out]; exact HQR.out⟩, hB2⟩

end Go.Proofs.YtfkclcoipadhmaaGreatDoor
