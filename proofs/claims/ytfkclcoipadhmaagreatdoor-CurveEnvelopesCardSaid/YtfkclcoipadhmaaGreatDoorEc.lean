/- Walks of trankref02.Slope, slopes, Slopes. -/
import Derived.Test.YtfkclcoipadhmaaGreatDoorEb
import Derived.Test.YtfkclcoipadhmaaGreatDoorDy
import Derived.Test.YtfkclcoipadhmaaGreatDoorRc
namespace Go.Proofs.YtfkclcoipadhmaaGreatDoor
open Go.RowKit
attribute [local irreducible] seqS seqST walkV walkJ

/-- A fraction that may be missing, as two numbers and an error. -/
def oN (o : Option Rat) : Int := match o with | some q => q.num | none => 0
def oD (o : Option Rat) : Int := match o with | some q => (q.den : Int) | none => 0
def oE (o : Option Rat) : Int := match o with | some _ => 0 | none => 5
theorem fit_o (q : Rat) : fitN q = oN (fitO q) ∧ fitD q = oD (fitO q) ∧ fitE q = oE (fitO q) := by
  unfold fitN fitD fitE fitO
  by_cases h : fits q
  · rw [if_pos h, if_pos h, if_pos h, if_pos h]; exact ⟨rfl, rfl, rfl⟩
  · rw [if_neg h, if_neg h, if_neg h, if_neg h]; exact ⟨rfl, rfl, rfl⟩
theorem slO_one {p q : Pt} (h : ¬ fits (q.2 - p.2)) : slO p q = none := by
  unfold slO fitO; rw [if_neg h]; rfl
theorem slO_two {p q : Pt} (h : fits (q.2 - p.2)) (h2 : ¬ fits (q.1 - p.1)) : slO p q = none := by
  unfold slO fitO; rw [if_pos h, if_neg h2]; rfl
theorem slO_three {p q : Pt} (h : fits (q.2 - p.2)) (h2 : fits (q.1 - p.1)) : slO p q = fitO ((q.2 - p.2) / (q.1 - p.1)) := by
  unfold slO fitO; rw [if_pos h, if_pos h2]; rfl

set_option maxHeartbeats 4000000 in
set_option maxRecDepth 100000 in
theorem rSlope_any (p q : Pt) (hp : fits p.1 ∧ fits p.2) (hq : fits q.1 ∧ fits q.2) (hne : p.1 ≠ q.1) (w : World) :
    Calls Tryz.prog 85 #[ptQ p, ptQ q] w fun r w' => r = .returned (.tuple #[.agg #[.int .i64 (oN (slO p q)), .int .i64 (oD (slO p q))], .int .i64 (oE (slO p q))]) ∧ Below w.heap.size w w' := by
  have SY := hid (fun w => rSub_any q.2 p.2 hq.2 hp.2 w)
  have SX := hid (fun w => rSub_any q.1 p.1 hq.1 hp.1 w)
  have DV := hid (fun h1 h2 w => rDiv_any (q.2 - p.2) (q.1 - p.1) h1 h2 (fun e => hne (by grind)) w)
  obtain ⟨dy, hdy⟩ : ∃ d, q.2 - p.2 = d := ⟨_, rfl⟩
  obtain ⟨dx, hdx⟩ : ∃ d, q.1 - p.1 = d := ⟨_, rfl⟩
  have h1 := slO_one (p := p) (q := q)
  have h2 := slO_two (p := p) (q := q)
  have h3 := slO_three (p := p) (q := q)
  rw [hdy] at SY
  rw [hdx] at SX
  rw [hdy, hdx] at DV h3 h2
  rw [hdy] at h1
  obtain ⟨sn, hsn⟩ : ∃ z, oN (slO p q) = z := ⟨_, rfl⟩
  obtain ⟨sd, hsd⟩ : ∃ z, oD (slO p q) = z := ⟨_, rfl⟩
  obtain ⟨se, hse⟩ : ∃ z, oE (slO p q) = z := ⟨_, rfl⟩
  rw [hsn, hsd, hse]
  have H1 : Hid (¬ fits dy → sn = 0 ∧ sd = 0 ∧ se = 5) := hid (fun h => by rw [← hsn, ← hsd, ← hse, h1 h]; exact ⟨rfl, rfl, rfl⟩)
  have H2 : Hid (fits dy → ¬ fits dx → sn = 0 ∧ sd = 0 ∧ se = 5) := hid (fun h h' => by rw [← hsn, ← hsd, ← hse, h2 h h']; exact ⟨rfl, rfl, rfl⟩)
  have H3 : Hid (fits dy → fits dx → fitN (dy / dx) = sn ∧ fitD (dy / dx) = sd ∧ fitE (dy / dx) = se) := hid (fun h h' => by rw [← hsn, ← hsd, ← hse, h3 h h']; exact fit_o _)
  unfold frQ frV at SY SX DV
  unfold ptQ
  clear hdy hdx hsn hsd hse hp hq hne h1 h2 h3
  obtain ⟨w0, hw0, k0, k1, k2, b0, hsz⟩ := three_new w #[.int .i64 p.1.num, .int .i64 (p.1.den : Int), .int .i64 p.2.num, .int .i64 (p.2.den : Int)] #[.int .i64 q.1.num, .int .i64 (q.1.den : Int), .int .i64 q.2.num, .int .i64 (q.2.den : Int)] #[.int .i64 0, .int .i64 0] 44 44 31
  have d0 := k0.look 2 rfl
  have d1 := k0.look 3 rfl
  have d2 := k1.look 2 rfl
  have d3 := k1.look 3 rfl
  have HW := hid hw0
  rw [← hw0] at d0 d1 d2 d3
  have K0 := hid k0
  have K1 := hid k1
  have K2 := hid k2
  have B0 := hid b0
  clear k0 k1 k2 b0 hsz hw0
  go_enter Tryz.func85, Tryz.ntmps85
  go_wp2_with fail
  rw [HW.out]
  clear HW d0 d1 d2 d3
  refine (SY.out _).mono ?_
  rintro r w1 ⟨rfl, hb1⟩
  have b1 := B0.out.trans (hb1.mono B0.out.size)
  have k01 := K0.out.below hb1
  have k11 := K1.out.below hb1
  have k21 := K2.out.below hb1
  clear K0 K1 K2 B0 hb1 SY
  have f2 := k21.frozen
  have q0 := k21.look 0 rfl
  have q1 := k21.look 1 rfl
  by_cases hfy : fits dy
  case neg =>
    obtain ⟨rfl, rfl, rfl⟩ := H1.out hfy
    have e1 : fitN dy = 0 := if_neg hfy
    have e2 : fitD dy = 0 := if_neg hfy
    have e3 : fitE dy = 5 := if_neg hfy
    rw [e1, e2, e3]
    have ba := alloc_below w1 (.cells #[.int .i64 0, .int .i64 0] 31)
    have b2 := b1.trans (ba.mono b1.size)
    have k22 := k21.below ba
    have f2 := k22.frozen
    have q0 := k22.look 0 rfl
    have q1 := k22.look 1 rfl
    have r0 := k22.cell 0
    have r1 := k22.cell 1
    have HB := hid ((b2.setCell (p := ⟨w.heap.size + 1 + 1, 0, none⟩) (by show w.heap.size ≤ w.heap.size + 1 + 1; omega) (.int .i64 0)).setCell (p := ⟨w.heap.size + 1 + 1, 1, none⟩) (by show w.heap.size ≤ w.heap.size + 1 + 1; omega) (.int .i64 0))
    clear ba b2 k22 k21 b1 k01 k11
    go_wp2
    refine bodyPost_ret (v := .tuple #[.agg #[.int .i64 0, .int .i64 0], .int .i64 5]) ?_ rfl ⟨rfl, HB.out⟩
    simp [results, Tryz.results85, go_sem, r0, r1]
  have e1 : fitN dy = dy.num := if_pos hfy
  have e2 : fitD dy = (dy.den : Int) := if_pos hfy
  have e3 : fitE dy = 0 := if_pos hfy
  rw [e1, e2, e3]
  have HFY := hid hfy
  have kdy := Blk.new w1 #[.int .i64 dy.num, .int .i64 (dy.den : Int)] 31
  have ba := alloc_below w1 (.cells #[.int .i64 dy.num, .int .i64 (dy.den : Int)] 31)
  have hs1 := b1.size
  have b2 := b1.trans (ba.mono b1.size)
  have k02 := k01.below ba
  have k12 := k11.below ba
  have k22 := k21.below ba
  have d0 := k02.look 0 rfl
  have d1 := k02.look 1 rfl
  have d2 := k12.look 0 rfl
  have d3 := k12.look 1 rfl
  clear e1 e2 e3 hfy k01 k11 k21 b1 ba f2 q0 q1
  go_wp2_with fail
  refine (SX.out _).mono ?_
  rintro r w2 ⟨rfl, hb2⟩
  have b3 := b2.trans (hb2.mono b2.size)
  have k23 := k22.below hb2
  have kdy2 := kdy.below hb2
  have hs2 : w.heap.size + 1 + 1 < w2.heap.size := k23.lt
  clear k02 k12 k22 kdy b2 hb2 d0 d1 d2 d3 SX
  by_cases hfx : fits dx
  case neg =>
    obtain ⟨rfl, rfl, rfl⟩ := H2.out HFY.out hfx
    have e1 : fitN dx = 0 := if_neg hfx
    have e2 : fitD dx = 0 := if_neg hfx
    have e3 : fitE dx = 5 := if_neg hfx
    rw [e1, e2, e3]
    have f3 := k23.frozen
    have q2 := k23.look 0 rfl
    have q3 := k23.look 1 rfl
    have kf := ((k23.set 0 (.int .i64 0)).set 1 (.int .i64 0)).alloc (.cells #[.int .i64 0, .int .i64 0] 31)
    have r0 : _ = some (Value.int .i64 0) := kf.look 0 rfl
    have r1 : _ = some (Value.int .i64 0) := kf.look 1 rfl
    have R0 := hid r0
    have R1 := hid r1
    have b4 := (b3.setCell (p := ⟨w.heap.size + 1 + 1, 0, none⟩) (by show w.heap.size ≤ w.heap.size + 1 + 1; omega) (.int .i64 0)).setCell (p := ⟨w.heap.size + 1 + 1, 1, none⟩) (by show w.heap.size ≤ w.heap.size + 1 + 1; omega) (.int .i64 0)
    have HB := hid (b4.trans ((alloc_below _ (.cells #[.int .i64 0, .int .i64 0] 31)).mono b4.size))
    clear b4 kf k23 b3 kdy2 r0 r1
    go_wp2
    refine bodyPost_ret (v := .tuple #[.agg #[.int .i64 0, .int .i64 0], .int .i64 5]) ?_ rfl ⟨rfl, HB.out⟩
    have r0 := R0.out
    have r1 := R1.out
    simp [results, Tryz.results85, go_sem, r0, r1]
  have e1 : fitN dx = dx.num := if_pos hfx
  have e2 : fitD dx = (dx.den : Int) := if_pos hfx
  have e3 : fitE dx = 0 := if_pos hfx
  rw [e1, e2, e3]
  have DV2 := hid (DV.out HFY.out hfx)
  obtain ⟨f1, f2, f3⟩ := H3.out HFY.out hfx
  rw [f1, f2, f3] at DV2
  have kdx := Blk.new w2 #[.int .i64 dx.num, .int .i64 (dx.den : Int)] 31
  have ba := alloc_below w2 (.cells #[.int .i64 dx.num, .int .i64 (dx.den : Int)] 31)
  have b4 := b3.trans (ba.mono b3.size)
  have k24 := k23.below ba
  have kdy3 := kdy2.below ba
  have d0 := kdy3.look 0 rfl
  have d1 := kdy3.look 1 rfl
  have d2 := kdx.look 0 rfl
  have d3 := kdx.look 1 rfl
  clear e1 e2 e3 hfx k23 b3 ba f1 f2 f3 kdy2 DV
  go_wp2_with fail
  refine (DV2.out _).mono ?_
  rintro r w3 ⟨rfl, hb3⟩
  have b5 := b4.trans (hb3.mono b4.size)
  have k25 := k24.below hb3
  have f2 := k25.frozen
  have q0 := k25.look 0 rfl
  have q1 := k25.look 1 rfl
  have r0 := k25.cell 0
  have r1 := k25.cell 1
  have HB := hid ((b5.setCell (p := ⟨w.heap.size + 1 + 1, 0, none⟩) (by show w.heap.size ≤ w.heap.size + 1 + 1; omega) (.int .i64 sn)).setCell (p := ⟨w.heap.size + 1 + 1, 1, none⟩) (by show w.heap.size ≤ w.heap.size + 1 + 1; omega) (.int .i64 sd))
  clear b4 b5 k24 k25 kdy3 hb3 d0 d1 d2 d3 kdx
  go_wp2
  refine bodyPost_ret (v := .tuple #[.agg #[.int .i64 sn, .int .i64 sd], .int .i64 se]) ?_ rfl ⟨rfl, HB.out⟩
  simp [results, Tryz.results85, go_sem, r0, r1]

theorem slsO_stay {c : List Pt} {k : Nat} (h : slsO c k = none) : ∀ {m : Nat}, k ≤ m → slsO c m = none := by
  intro m hm
  induction m with
  | zero => obtain rfl : k = 0 := by omega
            exact h
  | succ m ih =>
    by_cases hk : k = m + 1
    · rw [← hk]; exact h
    · show (slsO c m).bind _ = none
      rw [ih (by omega)]
      rfl
theorem slsO_some {c : List Pt} {k : Nat} {l : List Rat} {s : Rat} (h : slsO c k = some l) (h2 : slO (c.getD k (0, 0)) (c.getD (k + 1) (0, 0)) = some s) : slsO c (k + 1) = some (l ++ [s]) := by
  show (slsO c k).bind _ = _
  rw [h, Option.bind_some, h2]
  rfl
theorem slsO_none {c : List Pt} {k : Nat} (h2 : slO (c.getD k (0, 0)) (c.getD (k + 1) (0, 0)) = none) : slsO c (k + 1) = none := by
  show (slsO c k).bind _ = _
  rw [h2]
  cases slsO c k <;> rfl

set_option maxHeartbeats 8000000 in
set_option maxRecDepth 100000 in
theorem rslopes_any (C : List Pt) (v : Value) (w : World) (hcv : CV C) (h : PsR 0 w v C) :
    Calls Tryz.prog 121 #[v] w fun r w' => (∃ vl, r = .returned (.tuple #[vl, .int .i64 (match slsO C (C.length - 1) with | some _ => 0 | none => 5)]) ∧ QsR w.heap.size w' vl ((slsO C (C.length - 1)).getD [])) ∧ Below w.heap.size w w' := by
  obtain ⟨ao, cap, rfl, hcap, hmax, hcc⟩ := h
  unfold maxLen at hmax
  obtain ⟨E, hE⟩ : ∃ E : Int, (match slsO C (C.length - 1) with | some _ => 0 | none => 5) = E := ⟨_, rfl⟩
  obtain ⟨R, hR⟩ : ∃ R, (slsO C (C.length - 1)).getD [] = R := ⟨_, rfl⟩
  rw [hE, hR]
  have HY : Hid (∀ l, slsO C (C.length - 1) = some l → E = 0 ∧ R = l) := hid (fun l h => by rw [← hE, ← hR, h]; exact ⟨rfl, rfl⟩)
  have HX : Hid (slsO C (C.length - 1) = none → E = 5 ∧ R = []) := hid (fun h => by rw [← hE, ← hR, h]; exact ⟨rfl, rfl⟩)
  clear hE hR
  obtain ⟨L, hL⟩ : ∃ L, C.length = L := ⟨_, rfl⟩
  rw [hL] at hcap HX HY ⊢
  have HL := hid hL
  have hL2 : 2 ≤ L := by have := hcv.two; omega
  have hL48 : L ≤ 48 := by have := hcv.most; omega
  have CVC := hid hcv
  obtain ⟨b, off, rfl, hb, -, -, -, -⟩ := p_cell hcc (show 0 < C.length by omega)
  have hget : ∀ (i : Nat) (W : World), i < L → Below w.heap.size w W → W.cell? ⟨b, off + i * 4, none⟩ = some (.int .i64 (C.getD i (0, 0)).1.num) ∧ W.cell? ⟨b, off + i * 4 + 1, none⟩ = some (.int .i64 ((C.getD i (0, 0)).1.den : Int)) ∧ W.cell? ⟨b, off + i * 4 + 2, none⟩ = some (.int .i64 (C.getD i (0, 0)).2.num) ∧ W.cell? ⟨b, off + i * 4 + 3, none⟩ = some (.int .i64 ((C.getD i (0, 0)).2.den : Int)) := by
    intro i W hi hbW
    obtain ⟨b', off', he, hb', x0, x1, x2, x3⟩ := p_cell hcc (show i < C.length by omega)
    cases he
    exact ⟨(hbW.cell (p := ⟨b, off + i * 4, none⟩) hb').trans x0, (hbW.cell (p := ⟨b, off + i * 4 + 1, none⟩) hb').trans x1, (hbW.cell (p := ⟨b, off + i * 4 + 2, none⟩) hb').trans x2, (hbW.cell (p := ⟨b, off + i * 4 + 3, none⟩) hb').trans x3⟩
  have HGET := hid hget
  clear hL hcv hcc hget
  go_enter Tryz.func121, Tryz.ntmps121
  go_wp2_with fail
  go_loopw [4, 5] (fun y x wr => ∃ i : Nat, x = .int .i64 ((i : Int) + 1) ∧ i + 1 ≤ L ∧ (∃ l, slsO C i = some l ∧ l.length = i ∧ Hid (wr.ownsRow w.heap.size 31 2 y i (frsC l))) ∧ Below w.heap.size w wr) (fun _ x _ => L - (intOf x).toNat)
  case atStart => exact ⟨0, rfl, by omega, ⟨[], rfl, rfl, hid (World.ownsRow_nil _ _ _ _)⟩, Below.refl _ _⟩
  case round =>
    obtain ⟨i, rfl, hi, ⟨l, hsl, hll, HO⟩, hbel⟩ := hrel
    by_cases hiL : i + 1 < L
    · have hi2 : (i : Int) + 1 < (L : Int) := by omega
      have hiL3 : i < L := by omega
      have hiL2 : (i : Int) < (L : Int) := by omega
      have hi1p : 0 ≤ (i : Int) + 1 := by omega
      have wI : IntKind.i64.wrap ((i : Int) + 1 - 1) = (i : Int) := by rw [IntWalk.i64_left]; unfold wrap64; omega
      have wI2 : IntKind.i64.wrap (i : Int) = (i : Int) := by rw [IntWalk.i64_left]; unfold wrap64; omega
      have hP := CVC.out.fit i (by rw [HL.out]; exact hiL3)
      have hQ := CVC.out.fit (i + 1) (by rw [HL.out]; exact hiL)
      have hri := CVC.out.rise i (by rw [HL.out]; exact hiL)
      have gP := fun W hb => HGET.out i W hiL3 hb
      have gQ := fun W hb => HGET.out (i + 1) W hiL hb
      have hs1 := fun s (h : slO (C.getD i (0, 0)) (C.getD (i + 1) (0, 0)) = some s) => slsO_some hsl h
      have hs2 := fun (h : slO (C.getD i (0, 0)) (C.getD (i + 1) (0, 0)) = none) => slsO_stay (slsO_none h) (show i + 1 ≤ L - 1 by omega)
      obtain ⟨P, hPe⟩ : ∃ P, C.getD i (0, 0) = P := ⟨_, rfl⟩
      obtain ⟨Q, hQe⟩ : ∃ P, C.getD (i + 1) (0, 0) = P := ⟨_, rfl⟩
      rw [hPe, hQe] at hri hs1 hs2
      rw [hPe] at hP gP
      rw [hQe] at hQ gQ
      have SL := hid (fun w => rSlope_any P Q hP hQ (fun e => by rw [e] at hri; exact absurd hri.1 Rat.lt_irrefl) w)
      obtain ⟨o, ho⟩ : ∃ o, slO P Q = o := ⟨_, rfl⟩
      rw [ho] at SL hs1 hs2
      obtain ⟨s1, hs1e⟩ : ∃ z, oN o = z := ⟨_, rfl⟩
      obtain ⟨t1, ht1e⟩ : ∃ z, oD o = z := ⟨_, rfl⟩
      obtain ⟨u1, hu1e⟩ : ∃ z, oE o = z := ⟨_, rfl⟩
      rw [hs1e, ht1e, hu1e] at SL
      unfold ptQ at SL
      have HS1 := hid hs1
      have HS2 := hid hs2
      have HGP := hid gP
      have HGQ := hid gQ
      have HLL := hid hll
      have HE1 := hid hs1e
      have HE2 := hid ht1e
      have HE3 := hid hu1e
      clear hs1 hs2 gP gQ hll hs1e ht1e hu1e hPe hQe hP hQ hri ho hsl
      go_wp2_with fail
      have hd0 := (Below.refl wr.heap.size wr).drew
      have bx := fun x : SubT (Below wr.heap.size) wr.drew => hbel.trans ((hd0.trans x.b).mono hbel.size)
      have z0 := fun x : SubT (Below wr.heap.size) wr.drew => (HGP.out x.w (bx x)).1
      have z1 := fun x : SubT (Below wr.heap.size) wr.drew => (HGP.out x.w (bx x)).2.1
      have z2 := fun x : SubT (Below wr.heap.size) wr.drew => (HGP.out x.w (bx x)).2.2.1
      have z3 := fun x : SubT (Below wr.heap.size) wr.drew => (HGP.out x.w (bx x)).2.2.2
      have z4 := fun x : SubT (Below wr.heap.size) wr.drew => (HGQ.out x.w (bx x)).1
      have z5 := fun x : SubT (Below wr.heap.size) wr.drew => (HGQ.out x.w (bx x)).2.1
      have z6 := fun x : SubT (Below wr.heap.size) wr.drew => (HGQ.out x.w (bx x)).2.2.1
      have z7 := fun x : SubT (Below wr.heap.size) wr.drew => (HGQ.out x.w (bx x)).2.2.2
      clear bx
      refine wp_walkJ (T := Below (wr.heap.size)) (belowV_pre _) (.rd 0 (.rd 1 (.rd 2 (.rd 3 (.rd 4 (.rd 5 (.rd 6 (.rd 7 (.rd 8 (.inv [9, 10, 11, 12, 13, 14, 15])))))))))) (by kernel_rfl) rfl (by kernel_rfl) (by kernel_rfl) ?_
      iterate 9 (refine walkJ_rd rfl (fun K hK => ?_); go_simp; refine hK _ ?_; clear hK K)
      clear z0 z1 z2 z3 z4 z5 z6 z7 hd0
      have hd := (Below.refl wr.heap.size wr).drew
      obtain ⟨Wd, hWd⟩ : ∃ Wd, wr.drew = Wd := ⟨_, rfl⟩
      have hs9 : wr.heap.size = Wd.heap.size := by rw [← hWd]; rfl
      rw [hWd] at hd ⊢
      clear hWd
      have HS9 := hid hs9
      clear hs9
      refine walkJ_inv (CallI wr.heap.size wr 9 10 11 12 13 14 15 (.tuple #[.agg #[.int .i64 s1, .int .i64 t1], .int .i64 u1]) (.agg #[.int .i64 s1, .int .i64 t1]) (.int .i64 u1) 31 2 #[.int .i64 s1, .int .i64 t1]) [(9, 24), (10, 14), (11, 25), (12, 26), (13, 6), (15, 7)] (by kernel_rfl) ?_ ?_ ?_
      · exact ⟨hd, fun h => (by cases h), fun h => (by cases h), fun h => (by cases h), fun h => (by cases h), fun h => (by cases h), fun h => (by cases h)⟩
      · refine stepsI_cons [] [10, 11, 12, 14, 15] [] rfl (by kernel_rfl) (by kernel_rfl) (by kernel_rfl) (fun K l V x hx hl hds hn hI hK => ?_) ?_
        · go_simp
          have hsx : wr.heap.size ≤ x.heap.size := by rw [HS9.out]; exact hx.size
          refine (SL.out _).mono ?_
          rintro e w9 ⟨rfl, hb9⟩
          refine ⟨_, rfl, hK _ _ (hb9.mono hsx) ?_⟩
          exact ⟨hI.b.trans (hb9.mono hsx), fun _ => rfl, fun h => hI.m h, fun h => hI.e0 h, fun h => hI.e1 h, fun h => (hI.a h).below hb9, fun h => hI.z h⟩
        refine stepsI_cons [9] [11, 12, 14, 15] [(9, 24)] rfl (by kernel_rfl) (by kernel_rfl) (by kernel_rfl) (fun K l V x hx hl hds hn hI hK => ?_) ?_
        · go_simp
          refine hK _ _ (Below.refl _ _) ?_
          exact ⟨hI.b, fun h => hI.c h, fun _ => hI.c hl.1, fun h => hI.e0 h, fun h => hI.e1 h, fun h => hI.a h, fun h => hI.z h⟩
        refine stepsI_cons [9, 10] [14, 15] [(9, 24), (10, 14)] rfl (by kernel_rfl) (by kernel_rfl) (by kernel_rfl) (fun K l V x hx hl hds hn hI hK => ?_) ?_
        · simp only [putsP, hI.m hl.2.1]
          go_simp
          refine hK _ _ (Below.refl _ _) ?_
          exact ⟨hI.b, fun h => hI.c h, fun h => hI.m h, fun _ => rfl, fun h => hI.e1 h, fun h => hI.a h, fun h => hI.z h⟩
        refine stepsI_cons [9, 10] [15] [(9, 24), (10, 14)] rfl (by kernel_rfl) (by kernel_rfl) (by kernel_rfl) (fun K l V x hx hl hds hn hI hK => ?_) ?_
        · simp only [putsP, hI.m hl.2.1]
          go_simp
          refine hK _ _ (Below.refl _ _) ?_
          exact ⟨hI.b, fun h => hI.c h, fun h => hI.m h, fun h => hI.e0 h, fun _ => rfl, fun h => hI.a h, fun h => hI.z h⟩
        refine stepsI_cons [] [14, 15] [] rfl (by kernel_rfl) (by kernel_rfl) (by kernel_rfl) (fun K l V x hx hl hds hn hI hK => ?_) ?_
        · go_simp
          have hsx : wr.heap.size ≤ x.heap.size := by rw [HS9.out]; exact hx.size
          have hb9 := alloc_below x (.cells #[.int .i64 0, .int .i64 0] 31)
          refine hK _ _ (hb9.mono hsx) ?_
          exact ⟨hI.b.trans (hb9.mono hsx), fun h => hI.c h, fun h => hI.m h, fun h => hI.e0 h, fun h => hI.e1 h, fun _ => VarI.new x _ _ hsx rfl hds.1, fun h => hI.z h⟩
        refine stepsI_cons [9, 10, 11, 13] [15] [(9, 24), (10, 14), (11, 25), (13, 6)] rfl (by kernel_rfl) (by kernel_rfl) (by kernel_rfl) (fun K l V x hx hl hds hn hI hK => ?_) ?_
        · obtain ⟨g, cs, e1, e2, e3, e4, -⟩ := hI.a hl.2.2.2.1
          have hb9 := row_below (Below.refl wr.heap.size x) e2 #[.int .i64 s1, .int .i64 t1]
          refine ⟨rfl, gives_store_row 31 (.tmp 6) (.tmp 25) rfl g _ e1 (hI.e0 hl.2.2.1) 31 cs e3 pinfoFrac e4 (by simp [Value.oneCell']) (hK _ _ hb9 ?_)⟩
          refine ⟨hI.b.trans hb9, fun h => hI.c h, fun h => hI.m h, fun h => hI.e0 h, fun h => hI.e1 h, fun _ => ?_, fun h => hI.z h⟩
          show VarI _ _ (V 13) _ _ _ _
          rw [e1]
          exact VarI.filled e2 e3 rfl
        refine stepsI_cons [9, 10, 11, 12, 13, 14] [] [(9, 24), (10, 14), (11, 25), (12, 26), (13, 6)] rfl (by kernel_rfl) (by kernel_rfl) (by kernel_rfl) (fun K l V x hx hl hds hn hI hK => ?_) ?_
        · simp only [putsP, hI.e1 hl.2.2.2.1]
          go_simp
          refine hK _ _ (Below.refl _ _) ?_
          exact ⟨hI.b, fun h => hI.c h, fun h => hI.m h, fun h => hI.e0 h, fun h => hI.e1 h, fun h => hI.a h, fun _ => rfl⟩
        exact stepsI_nil
      intro V W2 hW2 hI
      obtain ⟨gI, eI1, geI, kI⟩ := (hI.a rfl).out
      have qI0 := hI.c rfl
      have qI1 := hI.m rfl
      have qI2 := hI.e0 rfl
      have qI3 := hI.e1 rfl
      have qI4 := hI.z rfl
      have hbI := hI.b
      clear hI hd HS9 hW2
      simp only [putsP, qI0, qI1, qI2, qI3, qI4, eI1]
      go_simp
      clear qI0 qI1 qI2 qI3 qI4 eI1
      have hbel2 := hbel.trans (hbI.mono hbel.size)
      have HO2 := hid (owns_below HO.out hbI)
      have hs2 : w.heap.size ≤ W2.heap.size := hbel2.size
      clear HO hbI hbel
      cases o with
      | none =>
        obtain rfl : 5 = u1 := HE3.out
        obtain ⟨rfl, rfl⟩ := HX.out (HS2.out rfl)
        go_wp2
        go_ret2
        exact ⟨⟨_, rfl, SlR.nil _ _⟩, hbel2⟩
      | some s =>
        obtain rfl : 0 = u1 := HE3.out
        have d0 := kI.look 0 rfl
        have d1 := kI.look 1 rfl
        have HFC : Hid (frsC [s] = [.int .i64 s1, .int .i64 t1]) := hid (by rw [← HE1.out, ← HE2.out]; rfl)
        have HST := hid (HS1.out s rfl)
        clear HE1 HE2 HE3 HS1 HS2 HX
        go_wp2_with (first
          | (at_builtin; refine wpList_app rfl (.tmp 30) (.tmp 32) _ rfl w.heap.size 31 (frV 0 0) 2 16 Tryz.underlying37 infoFrac rfl (by decide) 31 _ _ _ rfl HO2.out [.int .i64 s1, .int .i64 t1] rfl rfl (by simp [Value.oneCell']) (by unfold maxLen; omega) (by omega) (by omega) ?_; intro g5 gcap w5 ho5 hb5 _ _ _))
        go_roundw
        case rel =>
          refine ⟨i + 1, by go_num, by omega, ⟨l ++ [s], HST.out, by rw [List.length_append, HLL.out]; rfl, ?_⟩, hbel2.trans hb5⟩
          rw [frsC_append, HFC.out]
          exact hid ho5
        case measure => simp [intOf]; omega
    · have hi2 : ¬ (i : Int) + 1 < (L : Int) := by omega
      have e : L - 1 = i := by omega
      obtain ⟨ao3, c3, rfl, -⟩ := id (SlR.of_owns HO.out)
      obtain ⟨rfl, rfl⟩ := HY.out l (by rw [e]; exact hsl)
      have hr := SlR.of_owns HO.out
      have HR := hid hr
      have HLL := hid hll
      clear hr hll hsl HX HY
      go_wp2
      go_ret2
      refine ⟨⟨_, rfl, ?_⟩, hbel⟩
      unfold QsR
      rw [HLL.out]
      exact HR.out

end Go.Proofs.YtfkclcoipadhmaaGreatDoor
