/- Several of my texts in one: Fv, Fw. -/
import Derived.Test.YtfkclcoipadhmaaGreatDoorFp
import Derived.Test.YtfkclcoipadhmaaGreatDoorEc
import Derived.Test.YtfkclcoipadhmaaGreatDoorFl
import Derived.Test.YtfkclcoipadhmaaGreatDoorFu
/- Walk of trankref02.strip. -/
namespace Go.Proofs.YtfkclcoipadhmaaGreatDoor
open Go.RowKit
attribute [local irreducible] seqS seqST walkV walkJ

theorem six_new (w : World) (a0 a1 a2 a3 a4 a5 : Array Value) (t : TypeId) : ∃ w0, (((((w.alloc (.cells a0 t)).alloc (.cells a1 t)).alloc (.cells a2 t)).alloc (.cells a3 t)).alloc (.cells a4 t)).alloc (.cells a5 t) = w0 ∧
    Blk w0 w.heap.size a0 t ∧ Blk w0 (w.heap.size + 1) a1 t ∧ Blk w0 (w.heap.size + 1 + 1) a2 t ∧ Blk w0 (w.heap.size + 1 + 1 + 1) a3 t ∧ Blk w0 (w.heap.size + 1 + 1 + 1 + 1) a4 t ∧ Blk w0 (w.heap.size + 1 + 1 + 1 + 1 + 1) a5 t ∧ Below w.heap.size w w0 := by
  obtain ⟨w3, h3, k0, k1, k2, b3, s3⟩ := three_new w a0 a1 a2 t t t
  obtain ⟨w6, h6, k3, k4, k5, b6, s6⟩ := three_new w3 a3 a4 a5 t t t
  rw [s3] at k3 k4 k5
  refine ⟨w6, by rw [h3, h6], k0.below b6, k1.below b6, k2.below b6, k3, k4, k5, b3.trans (b6.mono b3.size)⟩
theorem strip_one {W : Rat} {p q : Pt} (h : ¬ fits (p.2 + q.2)) : stripO W p q = none := by unfold stripO fitO; rw [if_neg h]; rfl
theorem strip_two {W : Rat} {p q : Pt} (h1 : fits (p.2 + q.2)) (h : ¬ fits ((p.2 + q.2) / 2)) : stripO W p q = none := by
  unfold stripO fitO; rw [if_pos h1]; simp only [Option.bind_some]; rw [if_neg h]; rfl
theorem strip_three {W : Rat} {p q : Pt} (h1 : fits (p.2 + q.2)) (h2 : fits ((p.2 + q.2) / 2)) (h : ¬ fits (q.1 - p.1)) : stripO W p q = none := by
  unfold stripO fitO; rw [if_pos h1]; simp only [Option.bind_some]; rw [if_pos h2]; simp only [Option.bind_some]; rw [if_neg h]; rfl
theorem strip_four {W : Rat} {p q : Pt} (h1 : fits (p.2 + q.2)) (h2 : fits ((p.2 + q.2) / 2)) (h3 : fits (q.1 - p.1)) (h : ¬ fits ((p.2 + q.2) / 2 * (q.1 - p.1))) : stripO W p q = none := by
  unfold stripO fitO; rw [if_pos h1]; simp only [Option.bind_some]; rw [if_pos h2]; simp only [Option.bind_some]; rw [if_pos h3]; simp only [Option.bind_some]; rw [if_neg h]; rfl
theorem strip_five {W : Rat} {p q : Pt} (h1 : fits (p.2 + q.2)) (h2 : fits ((p.2 + q.2) / 2)) (h3 : fits (q.1 - p.1)) (h4 : fits ((p.2 + q.2) / 2 * (q.1 - p.1))) : stripO W p q = fitO (W + (p.2 + q.2) / 2 * (q.1 - p.1)) := by
  unfold stripO; rw [show fitO (p.2 + q.2) = some (p.2 + q.2) from if_pos h1]; simp only [Option.bind_some]; rw [show fitO ((p.2 + q.2) / 2) = some _ from if_pos h2]; simp only [Option.bind_some]
  rw [show fitO (q.1 - p.1) = some _ from if_pos h3]; simp only [Option.bind_some]; rw [show fitO ((p.2 + q.2) / 2 * (q.1 - p.1)) = some _ from if_pos h4]; rfl

set_option maxHeartbeats 8000000 in
set_option maxRecDepth 100000 in
theorem rstrip_any (W p q r s : Rat) (hW : fits W) (hp : fits p) (hq : fits q) (hr : fits r) (hs : fits s) (w : World) :
    Calls Tryz.prog 70 #[frQ W, frQ p, frQ q, frQ r, frQ s] w fun e w' => e = .returned (.tuple #[.agg #[.int .i64 (oN (stripO W (p, q) (r, s))), .int .i64 (oD (stripO W (p, q) (r, s)))], .int .i64 (oE (stripO W (p, q) (r, s)))]) ∧ Below w.heap.size w w' := by
  have A1 := hid (fun w => rAdd_any q s hq hs w)
  have A2 := hid (fun h w => rDiv_any (q + s) 2 h ⟨by decide, by decide⟩ (by decide) w)
  have A3 := hid (fun w => rSub_any r p hr hp w)
  have A4 := hid (fun h1 h2 w => rMul_any ((q + s) / 2) (r - p) h1 h2 w)
  have A5 := hid (fun h w => rAdd_any W ((q + s) / 2 * (r - p)) hW h w)
  have g1 := strip_one (W := W) (p := (p, q)) (q := (r, s))
  have g2 := strip_two (W := W) (p := (p, q)) (q := (r, s))
  have g3 := strip_three (W := W) (p := (p, q)) (q := (r, s))
  have g4 := strip_four (W := W) (p := (p, q)) (q := (r, s))
  have g5 := strip_five (W := W) (p := (p, q)) (q := (r, s))
  simp only at g1 g2 g3 g4 g5
  obtain ⟨x1, hx1⟩ : ∃ x, q + s = x := ⟨_, rfl⟩
  rw [hx1] at A1 A2 A4 A5 g1 g2 g3 g4 g5
  obtain ⟨x2, hx2⟩ : ∃ x, x1 / 2 = x := ⟨_, rfl⟩
  rw [hx2] at A2 A4 A5 g2 g3 g4 g5
  obtain ⟨x3, hx3⟩ : ∃ x, r - p = x := ⟨_, rfl⟩
  rw [hx3] at A3 A4 A5 g3 g4 g5
  obtain ⟨x4, hx4⟩ : ∃ x, x2 * x3 = x := ⟨_, rfl⟩
  rw [hx4] at A4 A5 g4 g5
  obtain ⟨o, ho⟩ : ∃ o, stripO W (p, q) (r, s) = o := ⟨_, rfl⟩
  rw [ho] at g1 g2 g3 g4 g5 ⊢
  have G1 := hid g1
  have G2 := hid g2
  have G3 := hid g3
  have G4 := hid g4
  have G5 := hid g5
  rw [show frQ 2 = .agg #[.int .i64 2, .int .i64 1] from rfl] at A2
  unfold frQ frV at *
  clear hW hp hq hr hs hx1 hx2 hx3 hx4 ho g1 g2 g3 g4 g5
  obtain ⟨w0, hw0, k0, k1, k2, k3, k4, k5, b0⟩ := six_new w #[.int .i64 W.num, .int .i64 (W.den : Int)] #[.int .i64 p.num, .int .i64 (p.den : Int)] #[.int .i64 q.num, .int .i64 (q.den : Int)] #[.int .i64 r.num, .int .i64 (r.den : Int)] #[.int .i64 s.num, .int .i64 (s.den : Int)] #[.int .i64 0, .int .i64 0] 31
  have d0 := k2.look 0 rfl
  have d1 := k2.look 1 rfl
  have d2 := k4.look 0 rfl
  have d3 := k4.look 1 rfl
  have HW := hid hw0
  rw [← hw0] at d0 d1 d2 d3
  have K0 := hid k0
  have K1 := hid k1
  have K3 := hid k3
  have K5 := hid k5
  have B0 := hid b0
  clear k0 k1 k2 k3 k4 k5 b0 hw0
  go_enter Tryz.func70, Tryz.ntmps70
  go_wp2_with fail
  rw [HW.out]
  clear HW d0 d1 d2 d3
  refine (A1.out _).mono ?_
  rintro e w1 ⟨rfl, hb1⟩
  have bX := B0.out.trans (hb1.mono B0.out.size)
  replace K0 := hid (K0.out.below hb1)
  replace K1 := hid (K1.out.below hb1)
  replace K3 := hid (K3.out.below hb1)
  have kR := K5.out.below hb1
  obtain ⟨S, hS⟩ : ∃ S, w.heap.size = S := ⟨_, rfl⟩
  have hlt1 : S + 1 + 1 + 1 + 1 + 1 < w1.heap.size := by rw [← hS]; exact kR.lt
  have HS := hid hS
  rw [hS] at K0 K1 K3 kR
  clear K5 B0 hb1 A1
  by_cases h1 : fits x1
  case neg =>
    obtain rfl : none = o := (G1.out h1).symm
    rw [show fitN x1 = 0 from if_neg h1, show fitD x1 = 0 from if_neg h1, show fitE x1 = 5 from if_neg h1]
    rw [hS]
    clear G1 G2 G3 G4 G5
    have f3 := kR.frozen
    have q2 := kR.look 0 rfl
    have q3 := kR.look 1 rfl
    have kf := ((kR.set 0 (.int .i64 0)).set 1 (.int .i64 0)).alloc (.cells #[.int .i64 0, .int .i64 0] 31)
    have kRA := kR.alloc (.cells #[.int .i64 0, .int .i64 0] 31)
    have f4 := kRA.frozen
    have q4 := kRA.look 0 rfl
    have q5 := kRA.look 1 rfl
    have r0 : _ = some (Value.int .i64 0) := kf.look 0 rfl
    have r1 : _ = some (Value.int .i64 0) := kf.look 1 rfl
    have R0 := hid r0
    have R1 := hid r1
    have b4 := (bX.setCell (p := ⟨S + 1 + 1 + 1 + 1 + 1, 0, none⟩) (by show w.heap.size ≤ S + 1 + 1 + 1 + 1 + 1; omega) (.int .i64 0)).setCell (p := ⟨S + 1 + 1 + 1 + 1 + 1, 1, none⟩) (by show w.heap.size ≤ S + 1 + 1 + 1 + 1 + 1; omega) (.int .i64 0)
    have HB := hid (b4.trans ((alloc_below _ (.cells #[.int .i64 0, .int .i64 0] 31)).mono b4.size))
    clear b4 kf kR bX r0 r1 kRA
    go_wp2
    refine bodyPost_ret (v := .tuple #[.agg #[.int .i64 0, .int .i64 0], .int .i64 5]) ?_ rfl ⟨rfl, HB.out⟩
    have r0 := R0.out
    have r1 := R1.out
    simp [results, Tryz.results70, go_sem, r0, r1]
  rw [show fitN x1 = x1.num from if_pos h1, show fitD x1 = (x1.den : Int) from if_pos h1, show fitE x1 = 0 from if_pos h1]
  have AA2 := hid (A2.out h1)
  have kH := Blk.new w1 #[.int .i64 x1.num, .int .i64 (x1.den : Int)] 31
  have ba := alloc_below w1 (.cells #[.int .i64 x1.num, .int .i64 (x1.den : Int)] 31)
  replace K0 := hid (K0.out.below ba)
  replace K1 := hid (K1.out.below ba)
  replace K3 := hid (K3.out.below ba)
  replace kR := kR.below ba
  replace bX := bX.trans (ba.mono bX.size)
  have y0 := kH.look 0 rfl
  have y1 := kH.look 1 rfl
  rw [hS]
  have H1 := hid h1
  clear A2 ba h1 hS
  go_wp2_with fail
  obtain ⟨H, hH⟩ : ∃ H, w1.heap.size = H := ⟨_, rfl⟩
  obtain ⟨wA, hwA⟩ : ∃ W, w1.alloc (.cells #[.int .i64 x1.num, .int .i64 (x1.den : Int)] 31) = W := ⟨_, rfl⟩
  rw [hwA] at K0 K1 K3 kR bX kH ⊢
  rw [hH] at kH hlt1 ⊢
  clear hH hwA y0 y1 w1
  refine (AA2.out _).mono ?_
  rintro e w2 ⟨rfl, hb2⟩
  have hwS : w.heap.size = S := HS.out
  replace K0 := hid (K0.out.below hb2)
  replace K1 := hid (K1.out.below hb2)
  replace K3 := hid (K3.out.below hb2)
  replace kR := kR.below hb2
  replace kH := kH.below hb2
  replace bX := bX.trans (hb2.mono bX.size)
  clear AA2 hb2
  by_cases h2 : fits x2
  case neg =>
    obtain rfl : none = o := (G2.out H1.out h2).symm
    rw [show fitN x2 = 0 from if_neg h2, show fitD x2 = 0 from if_neg h2, show fitE x2 = 5 from if_neg h2]
    clear G1 G2 G3 G4 G5
    have f3 := kH.frozen
    have q2 := kH.look 0 rfl
    have q3 := kH.look 1 rfl
    have kR2 := (kR.other (p := ⟨H, 0, none⟩) (show _ ≠ H by omega) (.int .i64 0)).other (p := ⟨H, 1, none⟩) (show _ ≠ H by omega) (.int .i64 0)
    have f4 := kR2.frozen
    have q4 := kR2.look 0 rfl
    have q5 := kR2.look 1 rfl
    have kf := (kR2.set 0 (.int .i64 0)).set 1 (.int .i64 0)
    have r0 : _ = some (Value.int .i64 0) := kf.look 0 rfl
    have r1 : _ = some (Value.int .i64 0) := kf.look 1 rfl
    have R0 := hid r0
    have R1 := hid r1
    have b4 := (bX.setCell (p := ⟨H, 0, none⟩) (by show w.heap.size ≤ H; omega) (.int .i64 0)).setCell (p := ⟨H, 1, none⟩) (by show w.heap.size ≤ H; omega) (.int .i64 0)
    have HB := hid ((b4.setCell (p := ⟨S + 1 + 1 + 1 + 1 + 1, 0, none⟩) (by show w.heap.size ≤ S + 1 + 1 + 1 + 1 + 1; omega) (.int .i64 0)).setCell (p := ⟨S + 1 + 1 + 1 + 1 + 1, 1, none⟩) (by show w.heap.size ≤ S + 1 + 1 + 1 + 1 + 1; omega) (.int .i64 0))
    clear b4 kf kR bX r0 r1 kR2 kH
    go_wp2
    refine bodyPost_ret (v := .tuple #[.agg #[.int .i64 0, .int .i64 0], .int .i64 5]) ?_ rfl ⟨rfl, HB.out⟩
    have r0 := R0.out
    have r1 := R1.out
    simp [results, Tryz.results70, go_sem, r0, r1]
  rw [show fitN x2 = x2.num from if_pos h2, show fitD x2 = (x2.den : Int) from if_pos h2, show fitE x2 = 0 from if_pos h2]
  have f3 := kH.frozen
  have q2 := kH.look 0 rfl
  have q3 := kH.look 1 rfl
  replace K0 := hid ((K0.out.other (p := ⟨H, 0, none⟩) (show _ ≠ H by omega) (.int .i64 x2.num)).other (p := ⟨H, 1, none⟩) (show _ ≠ H by omega) (.int .i64 (x2.den : Int)))
  have k1 := (K1.out.other (p := ⟨H, 0, none⟩) (show _ ≠ H by omega) (.int .i64 x2.num)).other (p := ⟨H, 1, none⟩) (show _ ≠ H by omega) (.int .i64 (x2.den : Int))
  have k3 := (K3.out.other (p := ⟨H, 0, none⟩) (show _ ≠ H by omega) (.int .i64 x2.num)).other (p := ⟨H, 1, none⟩) (show _ ≠ H by omega) (.int .i64 (x2.den : Int))
  replace kR := (kR.other (p := ⟨H, 0, none⟩) (show _ ≠ H by omega) (.int .i64 x2.num)).other (p := ⟨H, 1, none⟩) (show _ ≠ H by omega) (.int .i64 (x2.den : Int))
  have kH2 := (kH.set 0 (.int .i64 x2.num)).set 1 (.int .i64 (x2.den : Int))
  replace bX := (bX.setCell (p := ⟨H, 0, none⟩) (by show w.heap.size ≤ H; omega) (.int .i64 x2.num)).setCell (p := ⟨H, 1, none⟩) (by show w.heap.size ≤ H; omega) (.int .i64 (x2.den : Int))
  have y0 := k1.look 0 rfl
  have y1 := k1.look 1 rfl
  have y2 := k3.look 0 rfl
  have y3 := k3.look 1 rfl
  have H2 := hid h2
  clear h2 K1 K3 k1 k3
  go_wp2_with fail
  obtain ⟨wA, hwA⟩ : ∃ W, (w2.setCell ⟨H, 0, none⟩ (.int .i64 x2.num)).setCell ⟨H, 1, none⟩ (.int .i64 (x2.den : Int)) = W := ⟨_, rfl⟩
  replace kH2 : Blk wA H #[.int .i64 x2.num, .int .i64 (x2.den : Int)] 31 := by rw [← hwA]; exact kH2
  rw [hwA] at K0 kR bX ⊢
  clear hwA y0 y1 y2 y3 f3 q2 q3 kH w2
  refine (A3.out _).mono ?_
  rintro e w3 ⟨rfl, hb3⟩
  replace K0 := hid (K0.out.below hb3)
  replace kR := kR.below hb3
  replace kH2 := kH2.below hb3
  replace bX := bX.trans (hb3.mono bX.size)
  clear A3 hb3
  by_cases h3 : fits x3
  case neg =>
    obtain rfl : none = o := (G3.out H1.out H2.out h3).symm
    rw [show fitN x3 = 0 from if_neg h3, show fitD x3 = 0 from if_neg h3, show fitE x3 = 5 from if_neg h3]
    clear G1 G2 G3 G4 G5
    have kRA := kR.alloc (.cells #[.int .i64 0, .int .i64 0] 31)
    have bXA := bX.trans ((alloc_below _ (.cells #[.int .i64 0, .int .i64 0] 31)).mono bX.size)
    have f4 := kRA.frozen
    have q4 := kRA.look 0 rfl
    have q5 := kRA.look 1 rfl
    have kf := (kRA.set 0 (.int .i64 0)).set 1 (.int .i64 0)
    have r0 : _ = some (Value.int .i64 0) := kf.look 0 rfl
    have r1 : _ = some (Value.int .i64 0) := kf.look 1 rfl
    have R0 := hid r0
    have R1 := hid r1
    have HB := hid ((bXA.setCell (p := ⟨S + 1 + 1 + 1 + 1 + 1, 0, none⟩) (by show w.heap.size ≤ S + 1 + 1 + 1 + 1 + 1; omega) (.int .i64 0)).setCell (p := ⟨S + 1 + 1 + 1 + 1 + 1, 1, none⟩) (by show w.heap.size ≤ S + 1 + 1 + 1 + 1 + 1; omega) (.int .i64 0))
    clear kf kR bX r0 r1 kRA bXA
    go_wp2
    refine bodyPost_ret (v := .tuple #[.agg #[.int .i64 0, .int .i64 0], .int .i64 5]) ?_ rfl ⟨rfl, HB.out⟩
    have r0 := R0.out
    have r1 := R1.out
    simp [results, Tryz.results70, go_sem, r0, r1]
  rw [show fitN x3 = x3.num from if_pos h3, show fitD x3 = (x3.den : Int) from if_pos h3, show fitE x3 = 0 from if_pos h3]
  have AA4 := hid (A4.out H2.out h3)
  have kG := Blk.new w3 #[.int .i64 x3.num, .int .i64 (x3.den : Int)] 31
  have ba := alloc_below w3 (.cells #[.int .i64 x3.num, .int .i64 (x3.den : Int)] 31)
  replace K0 := hid (K0.out.below ba)
  replace kR := kR.below ba
  replace kH2 := kH2.below ba
  replace bX := bX.trans (ba.mono bX.size)
  have y0 := kH2.look 0 rfl
  have y1 := kH2.look 1 rfl
  have y2 := kG.look 0 rfl
  have y3 := kG.look 1 rfl
  have H3 := hid h3
  clear A4 ba h3
  go_wp2_with fail
  obtain ⟨wA, hwA⟩ : ∃ W, w3.alloc (.cells #[.int .i64 x3.num, .int .i64 (x3.den : Int)] 31) = W := ⟨_, rfl⟩
  rw [hwA] at K0 kR bX kH2 ⊢
  clear hwA y0 y1 y2 y3 kG
  refine (AA4.out _).mono ?_
  rintro e w4 ⟨rfl, hb4⟩
  replace K0 := hid (K0.out.below hb4)
  replace kR := kR.below hb4
  have kH := kH2.below hb4
  replace bX := bX.trans (hb4.mono bX.size)
  clear AA4 hb4 kH2
  by_cases h4 : fits x4
  case neg =>
    obtain rfl : none = o := (G4.out H1.out H2.out H3.out h4).symm
    rw [show fitN x4 = 0 from if_neg h4, show fitD x4 = 0 from if_neg h4, show fitE x4 = 5 from if_neg h4]
    clear G1 G2 G3 G4 G5
    have f3 := kH.frozen
    have q2 := kH.look 0 rfl
    have q3 := kH.look 1 rfl
    have kR2 := (kR.other (p := ⟨H, 0, none⟩) (show _ ≠ H by omega) (.int .i64 0)).other (p := ⟨H, 1, none⟩) (show _ ≠ H by omega) (.int .i64 0)
    have f4 := kR2.frozen
    have q4 := kR2.look 0 rfl
    have q5 := kR2.look 1 rfl
    have kf := (kR2.set 0 (.int .i64 0)).set 1 (.int .i64 0)
    have r0 : _ = some (Value.int .i64 0) := kf.look 0 rfl
    have r1 : _ = some (Value.int .i64 0) := kf.look 1 rfl
    have R0 := hid r0
    have R1 := hid r1
    have b4 := (bX.setCell (p := ⟨H, 0, none⟩) (by show w.heap.size ≤ H; omega) (.int .i64 0)).setCell (p := ⟨H, 1, none⟩) (by show w.heap.size ≤ H; omega) (.int .i64 0)
    have HB := hid ((b4.setCell (p := ⟨S + 1 + 1 + 1 + 1 + 1, 0, none⟩) (by show w.heap.size ≤ S + 1 + 1 + 1 + 1 + 1; omega) (.int .i64 0)).setCell (p := ⟨S + 1 + 1 + 1 + 1 + 1, 1, none⟩) (by show w.heap.size ≤ S + 1 + 1 + 1 + 1 + 1; omega) (.int .i64 0))
    clear b4 kf kR bX r0 r1 kR2 kH
    go_wp2
    refine bodyPost_ret (v := .tuple #[.agg #[.int .i64 0, .int .i64 0], .int .i64 5]) ?_ rfl ⟨rfl, HB.out⟩
    have r0 := R0.out
    have r1 := R1.out
    simp [results, Tryz.results70, go_sem, r0, r1]
  rw [show fitN x4 = x4.num from if_pos h4, show fitD x4 = (x4.den : Int) from if_pos h4, show fitE x4 = 0 from if_pos h4]
  have AA5 := hid (A5.out h4)
  have ho := G5.out H1.out H2.out H3.out h4
  have hfo := fit_o (W + x4)
  rw [← ho] at hfo
  obtain ⟨N, hN⟩ : ∃ z, oN o = z := ⟨_, rfl⟩
  obtain ⟨D, hD⟩ : ∃ z, oD o = z := ⟨_, rfl⟩
  obtain ⟨E, hE⟩ : ∃ z, oE o = z := ⟨_, rfl⟩
  rw [hN, hD, hE] at hfo
  rw [hfo.1, hfo.2.1, hfo.2.2] at AA5
  have HN := hid hN
  have HD := hid hD
  have HE := hid hE
  have f3 := kH.frozen
  have q2 := kH.look 0 rfl
  have q3 := kH.look 1 rfl
  have k0 := (K0.out.other (p := ⟨H, 0, none⟩) (show _ ≠ H by omega) (.int .i64 x4.num)).other (p := ⟨H, 1, none⟩) (show _ ≠ H by omega) (.int .i64 (x4.den : Int))
  replace kR := (kR.other (p := ⟨H, 0, none⟩) (show _ ≠ H by omega) (.int .i64 x4.num)).other (p := ⟨H, 1, none⟩) (show _ ≠ H by omega) (.int .i64 (x4.den : Int))
  have kH2 := (kH.set 0 (.int .i64 x4.num)).set 1 (.int .i64 (x4.den : Int))
  replace bX := (bX.setCell (p := ⟨H, 0, none⟩) (by show w.heap.size ≤ H; omega) (.int .i64 x4.num)).setCell (p := ⟨H, 1, none⟩) (by show w.heap.size ≤ H; omega) (.int .i64 (x4.den : Int))
  have y0 := k0.look 0 rfl
  have y1 := k0.look 1 rfl
  have y2 : _ = some (Value.int .i64 x4.num) := kH2.look 0 rfl
  have y3 : _ = some (Value.int .i64 (x4.den : Int)) := kH2.look 1 rfl
  clear h4 K0 k0 A5 ho hfo hN hD hE G1 G2 G3 G4 G5
  go_wp2_with fail
  obtain ⟨wA, hwA⟩ : ∃ W, (w4.setCell ⟨H, 0, none⟩ (.int .i64 x4.num)).setCell ⟨H, 1, none⟩ (.int .i64 (x4.den : Int)) = W := ⟨_, rfl⟩
  rw [hwA] at kR bX ⊢
  clear hwA y0 y1 y2 y3 f3 q2 q3 kH kH2 w4
  refine (AA5.out _).mono ?_
  rintro e w5 ⟨rfl, hb5⟩
  replace kR := kR.below hb5
  replace bX := bX.trans (hb5.mono bX.size)
  clear AA5 hb5
  have f3 := kR.frozen
  have q2 := kR.look 0 rfl
  have q3 := kR.look 1 rfl
  have kf := (kR.set 0 (.int .i64 N)).set 1 (.int .i64 D)
  have r0 : _ = some (Value.int .i64 N) := kf.look 0 rfl
  have r1 : _ = some (Value.int .i64 D) := kf.look 1 rfl
  have R0 := hid r0
  have R1 := hid r1
  have HB := hid ((bX.setCell (p := ⟨S + 1 + 1 + 1 + 1 + 1, 0, none⟩) (by show w.heap.size ≤ S + 1 + 1 + 1 + 1 + 1; omega) (.int .i64 N)).setCell (p := ⟨S + 1 + 1 + 1 + 1 + 1, 1, none⟩) (by show w.heap.size ≤ S + 1 + 1 + 1 + 1 + 1; omega) (.int .i64 D))
  clear kf kR bX r0 r1
  go_wp2
  refine bodyPost_ret (v := .tuple #[.agg #[.int .i64 N, .int .i64 D], .int .i64 E]) ?_ rfl ⟨by rw [HN.out, HD.out, HE.out], HB.out⟩
  have r0 := R0.out
  have r1 := R1.out
  simp [results, Tryz.results70, go_sem, r0, r1]

end Go.Proofs.YtfkclcoipadhmaaGreatDoor

/- Walk of trankref02.Work. -/
namespace Go.Proofs.YtfkclcoipadhmaaGreatDoor
open Go.RowKit
attribute [local irreducible] seqS seqST walkV walkJ

theorem at_fits3 {C : List Pt} (hc : CV C) {x y : Rat} (hd : InDom C x) (h : atO C x = some y) : fits y := by
  rcases place hc hd with ⟨i, hi, he⟩ | ⟨i, hi, hl, hr⟩
  · rw [at_same hc hi he] at h
    rw [← Option.some.inj h]
    exact (hc.fit i hi).2
  · rw [at_between hc hi hl hr] at h
    exact segO_fits h
theorem work_stay {C : List Pt} {x : Rat} {k : Nat} (h : workO C x k = none) : ∀ n, workO C x (k + n) = none
  | 0 => h
  | n + 1 => by
    rw [show k + (n + 1) = k + n + 1 from rfl, work_step, work_stay h n]
    rfl
theorem work_end {C : List Pt} (hc : CV C) {x : Rat} {k : Nat} (hk : k < C.length) (h : x ≤ (C.getD k (0, 0)).1) : ∀ n, k + n < C.length → workO C x (k + n) = workO C x k
  | 0, _ => rfl
  | n + 1, hn => by
    have h1 : ¬ (C.getD (k + n + 1) (0, 0)).1 ≤ x := by
      have := (hc.lt (show k < k + n + 1 by omega) hn).1
      grind
    have h2 : ¬ (C.getD (k + n) (0, 0)).1 < x := by
      by_cases hz : n = 0
      · subst hz; exact Rat.not_lt.2 h
      · have := (hc.lt (show k < k + n by omega) (by omega)).1
        grind
    rw [show k + (n + 1) = k + n + 1 from rfl, work_step, work_end hc hk h n (by omega)]
    simp only [if_neg h1, if_neg h2]
    cases workO C x k <;> rfl
/-- What holds of the two points that a round makes. -/
structure TwoI (B : Nat) (w0 : World) (t : TypeId) (rcP rcQ : Array Value) (l : Nat → Bool) (V : Nat → Value) (w : World) : Prop where
  b : Below B w0 w
  p : l 9 = true → VarI B w (V 9) t 4 (l 11) rcP
  q : l 10 = true → VarI B w (V 10) t 4 (l 12) rcQ
  ne : l 9 = true → l 10 = true → V 9 ≠ V 10
theorem VarI.other {B g : Nat} {w : World} {v : Value} {t : TypeId} {sz : Nat} {st : Bool} {rc : Array Value} (h : VarI B w v t sz st rc) (hne : v ≠ .pointer (some ⟨g, 0, none⟩)) (cs : Array Value) : VarI B (w.setRow g cs) v t sz st rc := by
  obtain ⟨g', c, h1, h2, h3, h4⟩ := h
  refine ⟨g', c, h1, h2, row_blk_other h3 (fun e => hne (by rw [h1, e])), h4⟩
theorem VarI.fresh {B : Nat} {w : World} {v : Value} {t : TypeId} {sz : Nat} {st : Bool} {rc : Array Value} (h : VarI B w v t sz st rc) : v ≠ .pointer (some ⟨w.heap.size, 0, none⟩) := by
  obtain ⟨g', c, h1, h2, h3, h4⟩ := h
  rw [h1]
  intro e
  injection e with e1
  injection e1 with e2
  injection e2 with e3
  have := h3.lt
  omega
theorem pinfoPt : (Tryz.prog.info? 44).map (·.size) = some 4 := by kernel_rfl

set_option maxHeartbeats 8000000 in
set_option maxRecDepth 100000 in
theorem rWork_any (c : List P4) (n d : Int) (v : Value) (w : World) (h : P4R 0 w v c) :
    Calls Tryz.prog 29 #[v, .agg #[.int .i64 n, .int .i64 d]] w fun r w' => r = .returned (.tuple #[.agg #[.int .i64 (oN (wrkV c n d)), .int .i64 (oD (wrkV c n d))], .int .i64 (wrkE c n d)]) ∧ Below w.heap.size w w' := by
  have VA := hid (fun w h => r2Valid_any c v w h)
  obtain ⟨E, hE⟩ : ∃ E, wrkE c n d = E := ⟨_, rfl⟩
  obtain ⟨N, hN⟩ : ∃ N, oN (wrkV c n d) = N := ⟨_, rfl⟩
  obtain ⟨D, hD⟩ : ∃ D, oD (wrkV c n d) = D := ⟨_, rfl⟩
  rw [hE, hN, hD]
  have HE := hid hE
  have HN := hid hN
  have HD := hid hD
  obtain ⟨ao, cap, rfl, -⟩ := id h
  have k0 := (Blk.new w #[.int .i64 n, .int .i64 d] 31).alloc (.cells #[.int .i64 0, .int .i64 0] 31)
  have k1 := Blk.new (w.alloc (.cells #[.int .i64 n, .int .i64 d] 31)) #[.int .i64 0, .int .i64 0] 31
  have b0 := ((Below.refl w.heap.size w).alloc (Nat.le_refl _) (.cells #[.int .i64 n, .int .i64 d] 31)).alloc (by simp) (.cells #[.int .i64 0, .int .i64 0] 31)
  rw [World.size_alloc] at k1
  clear hE hN hD
  go_enter Tryz.func29, Tryz.ntmps29
  go_wp2_with fail
  obtain ⟨w0, hw0⟩ : ∃ w0, (w.alloc (.cells #[.int .i64 n, .int .i64 d] 31)).alloc (.cells #[.int .i64 0, .int .i64 0] 31) = w0 := ⟨_, rfl⟩
  rw [hw0] at k0 k1 b0 ⊢
  clear hw0
  have h0 := h.below b0
  refine (VA.out _ h0).mono ?_
  rintro r w1 ⟨rfl, hb1⟩
  have hB := b0.trans (hb1.mono b0.size)
  have k01 := k0.below hb1
  have k11 := k1.below hb1
  have h1 := h0.below hb1
  clear VA h0 h k0 k1 b0 hb1
  have c0 := k01.look 0 rfl
  have c1 := k01.look 1 rfl
  have c2 := k11.look 0 rfl
  have c3 := k11.look 1 rfl
  by_cases hrv : RV c
  case neg =>
    rw [decide_eq_false hrv]
    have hno : ¬ (RV c ∧ FV n d) := fun h => hrv h.1
    have kR := k11
    clear c0 c1 c2 c3 k11
    obtain rfl : 2 = E := by rw [← HE.out]; exact (if_neg hno).symm
    obtain rfl : 0 = N := by rw [← HN.out]; unfold wrkV; rw [if_neg (fun h => hno ⟨h.1, h.2.1⟩)]; rfl
    obtain rfl : 0 = D := by rw [← HD.out]; unfold wrkV; rw [if_neg (fun h => hno ⟨h.1, h.2.1⟩)]; rfl
    clear hno HE HN HD
    have hBz := hB
    clear hB
    have f2 := kR.frozen
    have q0 := kR.look 0 rfl
    have q1 := kR.look 1 rfl
    have ks := (kR.set 0 (.int .i64 0)).set 1 (.int .i64 0)
    have r0 : _ = some (Value.int .i64 0) := ks.look 0 rfl
    have r1 : _ = some (Value.int .i64 0) := ks.look 1 rfl
    have R0 := hid r0
    have R1 := hid r1
    have HBF := hid ((hBz.setCell (p := ⟨w.heap.size + 1, 0, none⟩) (by show w.heap.size ≤ w.heap.size + 1; omega) (.int .i64 0)).setCell (p := ⟨w.heap.size + 1, 1, none⟩) (by show w.heap.size ≤ w.heap.size + 1; omega) (.int .i64 0))
    clear kR ks r0 r1 hBz
    go_wp2
    refine bodyPost_ret (v := .tuple #[.agg #[.int .i64 0, .int .i64 0], .int .i64 2]) ?_ rfl ⟨rfl, HBF.out⟩
    have r0 := R0.out
    have r1 := R1.out
    simp [results, Tryz.results29, go_sem, r0, r1]
  rw [decide_eq_true hrv]
  have HRV := hid hrv
  clear hrv
  go_wp2_with fail
  refine (Valid_any n d _).mono ?_
  rintro r w2 ⟨rfl, hb2⟩
  replace hB := hB.trans (hb2.mono hB.size)
  have k02 := k01.below hb2
  have k12 := k11.below hb2
  have h2 := h1.below hb2
  clear k01 k11 h1 hb2 c0 c1 c2 c3
  by_cases hf1 : FV n d
  case neg =>
    rw [decide_eq_false hf1]
    have hno : ¬ (RV c ∧ FV n d) := fun h => hf1 h.2
    have kR := k12
    clear k12
    obtain rfl : 2 = E := by rw [← HE.out]; exact (if_neg hno).symm
    obtain rfl : 0 = N := by rw [← HN.out]; unfold wrkV; rw [if_neg (fun h => hno ⟨h.1, h.2.1⟩)]; rfl
    obtain rfl : 0 = D := by rw [← HD.out]; unfold wrkV; rw [if_neg (fun h => hno ⟨h.1, h.2.1⟩)]; rfl
    clear hno HE HN HD
    have hBz := hB
    clear hB
    have f2 := kR.frozen
    have q0 := kR.look 0 rfl
    have q1 := kR.look 1 rfl
    have ks := (kR.set 0 (.int .i64 0)).set 1 (.int .i64 0)
    have r0 : _ = some (Value.int .i64 0) := ks.look 0 rfl
    have r1 : _ = some (Value.int .i64 0) := ks.look 1 rfl
    have R0 := hid r0
    have R1 := hid r1
    have HBF := hid ((hBz.setCell (p := ⟨w.heap.size + 1, 0, none⟩) (by show w.heap.size ≤ w.heap.size + 1; omega) (.int .i64 0)).setCell (p := ⟨w.heap.size + 1, 1, none⟩) (by show w.heap.size ≤ w.heap.size + 1; omega) (.int .i64 0))
    clear kR ks r0 r1 hBz
    go_wp2
    refine bodyPost_ret (v := .tuple #[.agg #[.int .i64 0, .int .i64 0], .int .i64 2]) ?_ rfl ⟨rfl, HBF.out⟩
    have r0 := R0.out
    have r1 := R1.out
    simp [results, Tryz.results29, go_sem, r0, r1]
  rw [decide_eq_true hf1]
  have HF1 := hid hf1
  have hcv := rv_cv HRV.out
  have hq := P4R.toQ h2 HRV.out
  have WI := hid (fun w h => rwithin_any (toQ c) (vq (n, d)) (.slice ao c.length cap) w hcv (vq_fits hf1) h)
  have AT := hid (fun hd w h => rat_any (toQ c) (vq (n, d)) (.slice ao c.length cap) hcv hd (vq_fits hf1) w h)
  rw [frQ_vq hf1] at WI AT
  clear hf1
  have c0 := k02.look 0 rfl
  have c1 := k02.look 1 rfl
  go_wp2_with fail
  refine (WI.out _ hq).mono ?_
  rintro r w3 ⟨rfl, hb3⟩
  replace hB := hB.trans (hb3.mono hB.size)
  have k03 := k02.below hb3
  have k13 := k12.below hb3
  have q3 := hq.below hb3
  clear WI hq h2 k02 k12 c0 c1 hb3
  have c0 := k03.look 0 rfl
  have c1 := k03.look 1 rfl
  by_cases hdm : InDom (toQ c) (vq (n, d))
  case neg =>
    rw [decide_eq_false hdm]
    have e0 : wrkV c n d = none := if_neg (fun h => hdm h.2.2)
    obtain rfl : 5 = E := by rw [← HE.out]; unfold wrkE; rw [if_pos ⟨HRV.out, HF1.out⟩, e0]; rfl
    obtain rfl : 0 = N := by rw [← HN.out, e0]; rfl
    obtain rfl : 0 = D := by rw [← HD.out, e0]; rfl
    clear e0 HE HN HD c0 c1
    have kR := k13
    have hBz := hB
    clear hB k13
    have f2 := kR.frozen
    have q0 := kR.look 0 rfl
    have q1 := kR.look 1 rfl
    have ks := (kR.set 0 (.int .i64 0)).set 1 (.int .i64 0)
    have r0 : _ = some (Value.int .i64 0) := ks.look 0 rfl
    have r1 : _ = some (Value.int .i64 0) := ks.look 1 rfl
    have R0 := hid r0
    have R1 := hid r1
    have HBF := hid ((hBz.setCell (p := ⟨w.heap.size + 1, 0, none⟩) (by show w.heap.size ≤ w.heap.size + 1; omega) (.int .i64 0)).setCell (p := ⟨w.heap.size + 1, 1, none⟩) (by show w.heap.size ≤ w.heap.size + 1; omega) (.int .i64 0))
    clear kR ks r0 r1 hBz
    go_wp2
    refine bodyPost_ret (v := .tuple #[.agg #[.int .i64 0, .int .i64 0], .int .i64 5]) ?_ rfl ⟨rfl, HBF.out⟩
    have r0 := R0.out
    have r1 := R1.out
    simp [results, Tryz.results29, go_sem, r0, r1]
  rw [decide_eq_true hdm]
  have e0 : wrkV c n d = workO (toQ c) (vq (n, d)) ((toQ c).length - 1) := if_pos ⟨HRV.out, HF1.out, hdm⟩
  have AT2 := hid (AT.out hdm)
  have ORD := hid (fun (p : Rat) (hp : fits p) w => rorder_any p (vq (n, d)) hp (vq_fits HF1.out) w)
  rw [frQ_vq HF1.out] at ORD
  have hxf := vq_fits HF1.out
  have hxe := frQ_vq HF1.out
  have HX : Hid (workO (toQ c) (vq (n, d)) ((toQ c).length - 1) = none → E = 5 ∧ N = 0 ∧ D = 0) := hid (fun hh => by
    refine ⟨?_, ?_, ?_⟩
    · rw [← HE.out]; unfold wrkE; rw [if_pos ⟨HRV.out, HF1.out⟩, e0, hh]; rfl
    · rw [← HN.out, e0, hh]; rfl
    · rw [← HD.out, e0, hh]; rfl)
  have HY : Hid (∀ y, workO (toQ c) (vq (n, d)) ((toQ c).length - 1) = some y → E = 0 ∧ N = y.num ∧ D = (y.den : Int)) := hid (fun y hh => by
    refine ⟨?_, ?_, ?_⟩
    · rw [← HE.out]; unfold wrkE; rw [if_pos ⟨HRV.out, HF1.out⟩, e0, hh]; rfl
    · rw [← HN.out, e0, hh]; rfl
    · rw [← HD.out, e0, hh]; rfl)
  have HATF := hid (fun y (h : atO (toQ c) (vq (n, d)) = some y) => at_fits3 hcv hdm h)
  have hlen := toQ_len c
  have CVC := hid hcv
  clear AT hdm e0 HE HN HD HRV HF1
  generalize vq (n, d) = x at AT2 ORD HX HY hxf hxe HATF
  generalize toQ c = C at q3 hcv AT2 HX HY hlen CVC HATF
  obtain ⟨L, hL⟩ : ∃ L, c.length = L := ⟨_, rfl⟩
  rw [hL] at q3 AT2 hlen ⊢
  have hL2 : 2 ≤ L := by have := hcv.two; omega
  have hL48 : L ≤ 48 := by have := hcv.most; omega
  rw [hlen] at HX HY
  have HCL := hid hlen
  obtain ⟨M, hM⟩ : ∃ M, L = M + 1 := ⟨L - 1, by omega⟩
  subst hM
  rw [Nat.add_sub_cancel] at HX HY
  go_wp2_with fail
  refine (nought_any _).mono ?_
  rintro r w4 ⟨rfl, hb4⟩
  replace hB := hB.trans (hb4.mono hB.size)
  have k04 := k03.below hb4
  have k14 := k13.below hb4
  have hg1 : w.heap.size + 1 < w4.heap.size := k14.lt
  have q4 := q3.below hb4
  clear hb4 q3 k03 k13 c0 c1
  have ba := alloc_below w4 (.cells #[.int .i64 0, .int .i64 1] 31)
  have k6 := Blk.new w4 #[.int .i64 0, .int .i64 1] 31
  go_wp2_with fail
  obtain ⟨H6, hH6⟩ : ∃ H, w4.heap.size = H := ⟨_, rfl⟩
  obtain ⟨w5, hw5⟩ : ∃ W, w4.alloc (.cells #[.int .i64 0, .int .i64 1] 31) = W := ⟨_, rfl⟩
  rw [hw5] at k6 ba ⊢
  rw [hH6] at k6 hg1 ba ⊢
  obtain ⟨ao2, cap2, he2, hcap2, hmax2, hcc⟩ := id q4
  obtain ⟨rfl, rfl⟩ : ao2 = ao ∧ cap2 = cap := by
    injection he2 with g1 g2 g3
    exact ⟨g1.symm, g3.symm⟩
  obtain ⟨b, off, rfl, hb, -, -, -, -⟩ := p_cell hcc (show 0 < C.length by rw [HCL.out]; omega)
  have HCC := hid hcc
  have hget : ∀ (i : Nat) (W : World), i < M + 1 → Below H6 w4 W → W.cell? ⟨b, off + i * 4, none⟩ = some (.int .i64 (C.getD i (0, 0)).1.num) ∧ W.cell? ⟨b, off + i * 4 + 1, none⟩ = some (.int .i64 ((C.getD i (0, 0)).1.den : Int)) ∧ W.cell? ⟨b, off + i * 4 + 2, none⟩ = some (.int .i64 (C.getD i (0, 0)).2.num) ∧ W.cell? ⟨b, off + i * 4 + 3, none⟩ = some (.int .i64 ((C.getD i (0, 0)).2.den : Int)) := by
    intro i W hi hbW
    obtain ⟨b', off', he, hb', x0, x1, x2, x3⟩ := p_cell HCC.out (show i < C.length by rw [HCL.out]; exact hi)
    cases he
    rw [hH6] at hb'
    exact ⟨(hbW.cell (p := ⟨b, off + i * 4, none⟩) hb').trans x0, (hbW.cell (p := ⟨b, off + i * 4 + 1, none⟩) hb').trans x1, (hbW.cell (p := ⟨b, off + i * 4 + 2, none⟩) hb').trans x2, (hbW.cell (p := ⟨b, off + i * 4 + 3, none⟩) hb').trans x3⟩
  have HGET := hid hget
  have K0 := hid k04
  have K1 := hid k14
  have HQ := hid q4
  have HB := hid hB
  have HH := hid hH6
  have HK6 := hid k6
  have hs6 : H6 + 1 ≤ w5.heap.size := k6.lt
  have hlt0 : w.heap.size < H6 := by omega
  have HF0 := hid fits_nought
  rw [HCL.out] at hcap2
  unfold maxLen at hmax2
  clear he2 hcc hget k04 k14 q4 hB hH6 k6 hw5 HCC hcv hlen hb
  go_loopw [8] (fun z wr => ∃ j : Nat, z = .int .i64 ((j + 1 : Nat) : Int) ∧ j ≤ M ∧ ∃ W, workO C x j = some W ∧ Hid (fits W) ∧ Hid (Blk wr H6 #[.int .i64 W.num, .int .i64 (W.den : Int)] 31) ∧ Below H6 w4 wr ∧ H6 + 1 ≤ wr.heap.size) (fun z _ => M + 1 - (intOf z).toNat)
  case atStart => exact ⟨0, rfl, Nat.zero_le _, 0, rfl, HF0, HK6, ba, hs6⟩
  case round =>
    obtain ⟨j, rfl, hj, W, hWo, HFW, HK, hbel, hsr⟩ := hrel
    have HWO := hid hWo
    have wJ : IntKind.i64.wrap (j : Int) = (j : Int) := by rw [IntWalk.i64_left]; unfold wrap64; omega
    have kxr : Blk wr w.heap.size #[.int .i64 n, .int .i64 d] 31 := K0.out.below' hbel hlt0
    have kRr : Blk wr (w.heap.size + 1) #[.int .i64 0, .int .i64 0] 31 := K1.out.below' hbel hg1
    clear hWo
    have hcast : (((j + 1 : Nat)) : Int) = (j : Int) + 1 := by omega
    by_cases hjM : j < M
    case neg =>
      obtain rfl : j = M := by omega
      have hi2 : ¬ (j : Int) + 1 < (j : Int) + 1 := by omega
      have HWV := hid (HY.out W HWO.out)
      have hd0 := (Below.refl wr.heap.size wr).drew
      go_wp2_with fail
      refine wp_walkJ (T := Below (wr.heap.size)) (belowV_pre _) (.rd 0 (.rd 1 (.rd 2 (.rd 3 (.rd 4 (.rd 5 (.rd 6 (.rd 7 (.rd 8 (.rd 9 (.rd 10 (.rd 11 (.bt 12 (.rd 13 (.rd 14 (.inv [])))))))))))))))) (by kernel_rfl) rfl (by kernel_rfl) (by kernel_rfl) ?_
      iterate 12 (refine walkJ_rd rfl (fun K hK => ?_); go_simp; refine hK _ ?_; clear hK K)
      (refine walkJ_bs rfl (fun K hK => ?_); go_simp; refine hK _ ?_; clear hK K)
      iterate 2 (refine walkJ_rd rfl (fun K hK => ?_); go_simp; refine hK _ ?_; clear hK K)
      refine walkJ_nil ?_
      obtain ⟨Wd, hWd⟩ : ∃ Wd, wr.drew = Wd := ⟨_, rfl⟩
      rw [hWd] at hd0 ⊢
      clear hWd
      have kW := HK.out.below hd0
      have kR := kRr.below hd0
      have hBz := (HB.out.trans (hbel.mono (show w.heap.size ≤ H6 by omega))).trans (hd0.mono (show w.heap.size ≤ wr.heap.size by omega))
      clear HK kRr hbel hd0 HX HY kxr
      have f2 := kR.frozen
      have q0 := kR.look 0 rfl
      have q1 := kR.look 1 rfl
      have c8 := kW.look 0 rfl
      have c9 := kW.look 1 rfl
      have ks := (kR.set 0 (.int .i64 W.num)).set 1 (.int .i64 (W.den : Int))
      have r0 : _ = some (Value.int .i64 W.num) := ks.look 0 rfl
      have r1 : _ = some (Value.int .i64 (W.den : Int)) := ks.look 1 rfl
      have R0 := hid r0
      have R1 := hid r1
      have HBF := hid ((hBz.setCell (p := ⟨w.heap.size + 1, 0, none⟩) (by show w.heap.size ≤ w.heap.size + 1; omega) (.int .i64 W.num)).setCell (p := ⟨w.heap.size + 1, 1, none⟩) (by show w.heap.size ≤ w.heap.size + 1; omega) (.int .i64 (W.den : Int)))
      clear kR kW ks r0 r1 hBz
      go_wp2
      refine bodyPost_ret (v := .tuple #[.agg #[.int .i64 W.num, .int .i64 (W.den : Int)], .int .i64 0]) ?_ rfl ⟨by rw [HWV.out.1, HWV.out.2.1, HWV.out.2.2], HBF.out⟩
      have r0 := R0.out
      have r1 := R1.out
      simp [results, Tryz.results29, go_sem, r0, r1]
    case pos =>
      have hi2 : (j : Int) + 1 < (M : Int) + 1 := by omega
      have hi3 : (j : Int) < (M : Int) + 1 := by omega
      have hi4 : (j : Int) < (M : Int) := by omega
      have hj1p : 0 ≤ (j : Int) + 1 := by omega
      have hP := CVC.out.fit j (by rw [HCL.out]; omega)
      have hQ := CVC.out.fit (j + 1) (by rw [HCL.out]; omega)
      have gP := fun W hb => HGET.out j W (by omega) hb
      have gQ := fun W hb => HGET.out (j + 1) W (by omega) hb
      have hst := work_step C x j
      have hend := work_end CVC.out (x := x) (k := j) (by rw [HCL.out]; omega)
      rw [HWO.out] at hst
      simp only [Option.bind_some] at hst
      obtain ⟨P, hPe⟩ : ∃ P, C.getD j (0, 0) = P := ⟨_, rfl⟩
      obtain ⟨Q, hQe⟩ : ∃ P, C.getD (j + 1) (0, 0) = P := ⟨_, rfl⟩
      rw [hPe] at hst hP gP hend
      rw [hQe] at hst hQ gQ
      have HST := hid hst
      have HEND := hid hend
      have O1 := hid (fun w => ORD.out Q.1 hQ.1 w)
      have O2 := hid (fun w => ORD.out P.1 hP.1 w)
      have hc1 := cmp_cases Q.1 x
      have hc2 := cmp_cases P.1 x
      obtain ⟨z1, hz1e⟩ : ∃ z, cmpQ Q.1 x = z := ⟨_, rfl⟩
      obtain ⟨z2, hz2e⟩ : ∃ z, cmpQ P.1 x = z := ⟨_, rfl⟩
      rw [hz1e] at O1 hc1
      rw [hz2e] at O2 hc2
      have hle1 : Q.1 ≤ x ↔ z1 ≤ 0 := by
        rcases hc1 with ⟨hl, rfl, -⟩ | ⟨hl, rfl, -⟩ | ⟨hl, rfl, -⟩
        · exact ⟨fun _ => by omega, fun _ => Rat.le_of_lt hl⟩
        · exact ⟨fun h => absurd h (Rat.not_le.2 hl), fun h => by omega⟩
        · exact ⟨fun _ => by omega, fun _ => by rw [hl]; exact Rat.le_refl⟩
      have hlt2 : P.1 < x ↔ z2 < 0 := by
        rcases hc2 with ⟨hl, rfl, -⟩ | ⟨hl, rfl, -⟩ | ⟨hl, rfl, -⟩
        · exact ⟨fun _ => by omega, fun _ => hl⟩
        · exact ⟨fun h => absurd h (Rat.not_lt.2 (Rat.le_of_lt hl)), fun h => by omega⟩
        · exact ⟨fun h => by rw [hl] at h; exact absurd h Rat.lt_irrefl, fun h => by omega⟩
      have HL1 := hid hle1
      have HL2 := hid hlt2
      obtain ⟨p1, hp1⟩ : ∃ z, P.1.num = z := ⟨_, rfl⟩
      obtain ⟨p2, hp2⟩ : ∃ z, (P.1.den : Int) = z := ⟨_, rfl⟩
      obtain ⟨p3, hp3⟩ : ∃ z, P.2.num = z := ⟨_, rfl⟩
      obtain ⟨p4, hp4⟩ : ∃ z, (P.2.den : Int) = z := ⟨_, rfl⟩
      obtain ⟨q1, hq1⟩ : ∃ z, Q.1.num = z := ⟨_, rfl⟩
      obtain ⟨q2, hq2⟩ : ∃ z, (Q.1.den : Int) = z := ⟨_, rfl⟩
      obtain ⟨q3, hq3⟩ : ∃ z, Q.2.num = z := ⟨_, rfl⟩
      obtain ⟨q4, hq4⟩ : ∃ z, (Q.2.den : Int) = z := ⟨_, rfl⟩
      have HP4 := hid (⟨hp1, hp2, hp3, hp4⟩ : P.1.num = p1 ∧ (P.1.den : Int) = p2 ∧ P.2.num = p3 ∧ (P.2.den : Int) = p4)
      have HQ4 := hid (⟨hq1, hq2, hq3, hq4⟩ : Q.1.num = q1 ∧ (Q.1.den : Int) = q2 ∧ Q.2.num = q3 ∧ (Q.2.den : Int) = q4)
      rw [hp1, hp2, hp3, hp4] at gP
      rw [hq1, hq2, hq3, hq4] at gQ
      unfold frQ at O1 O2
      rw [hq1, hq2] at O1
      rw [hp1, hp2] at O2
      have HFP := hid hP
      have HFQ := hid hQ
      have HGP := hid gP
      have HGQ := hid gQ
      clear hst hend hPe hQe hc1 hc2 hz1e hz2e hle1 hlt2 hp1 hp2 hp3 hp4 hq1 hq2 hq3 hq4 hP hQ gP gQ
      have hd0 := (Below.refl wr.heap.size wr).drew
      have z0 := fun y : SubT (Below wr.heap.size) wr.drew => (HGP.out y.w (hbel.trans ((hd0.trans y.b).mono (show H6 ≤ wr.heap.size by omega)))).1
      have z1 := fun y : SubT (Below wr.heap.size) wr.drew => (HGP.out y.w (hbel.trans ((hd0.trans y.b).mono (show H6 ≤ wr.heap.size by omega)))).2.1
      have z2 := fun y : SubT (Below wr.heap.size) wr.drew => (kxr.below (hd0.trans y.b)).look 0 rfl
      have z3 := fun y : SubT (Below wr.heap.size) wr.drew => (kxr.below (hd0.trans y.b)).look 1 rfl
      go_wp2_with fail
      refine wp_walkJ (T := Below (wr.heap.size)) (belowV_pre _) (.rd 0 (.rd 1 (.rd 2 (.rd 3 (.rd 4 (.rd 5 (.rd 6 (.rd 7 (.rd 8 (.rd 9 (.rd 10 (.rd 11 (.bt 12 (.rd 13 (.rd 14 (.inv [])))))))))))))))) (by kernel_rfl) rfl (by kernel_rfl) (by kernel_rfl) ?_
      iterate 12 (refine walkJ_rd rfl (fun K hK => ?_); go_simp; refine hK _ ?_; clear hK K)
      clear z0 z1 z2 z3
      (refine walkJ_bt rfl (fun K hK => ?_); go_simp; refine (O2.out _).mono ?_; rintro r W0 ⟨rfl, hb0⟩; refine ⟨_, rfl, hK _ _ ?_⟩; clear hK K)
      have hd1 := hd0.trans (hb0.mono hd0.size)
      have kx1 := kxr.below hd1
      have kR := kRr.below hd1
      have kW := HK.out.below hd1
      have hbel1 := hbel.trans (hd1.mono (show H6 ≤ wr.heap.size by omega))
      have hs1 := Nat.le_trans hsr hd1.size
      clear hd0 hb0 hd1 kxr kRr HK hbel hsr O2
      by_cases hz2 : z2 < 0
      case neg =>
        have hee := HEND.out (Rat.not_lt.1 (fun h => hz2 (HL2.out.1 h))) (M - j) (by rw [HCL.out]; omega)
        rw [show j + (M - j) = M by omega, HWO.out] at hee
        have HWV := hid (HY.out W hee)
        have hBz := HB.out.trans (hbel1.mono (show w.heap.size ≤ H6 by omega))
        clear hee HX HY hbel1 hs1 kx1
        iterate 2 (refine walkJ_rd rfl (fun K hK => ?_); go_simp; refine hK _ ?_; clear hK K)
        refine walkJ_nil ?_
        have f2 := kR.frozen
        have q0 := kR.look 0 rfl
        have q1 := kR.look 1 rfl
        have c8 := kW.look 0 rfl
        have c9 := kW.look 1 rfl
        have ks := (kR.set 0 (.int .i64 W.num)).set 1 (.int .i64 (W.den : Int))
        have r0 : _ = some (Value.int .i64 W.num) := ks.look 0 rfl
        have r1 : _ = some (Value.int .i64 (W.den : Int)) := ks.look 1 rfl
        have R0 := hid r0
        have R1 := hid r1
        have HBF := hid ((hBz.setCell (p := ⟨w.heap.size + 1, 0, none⟩) (by show w.heap.size ≤ w.heap.size + 1; omega) (.int .i64 W.num)).setCell (p := ⟨w.heap.size + 1, 1, none⟩) (by show w.heap.size ≤ w.heap.size + 1; omega) (.int .i64 (W.den : Int)))
        clear kR kW ks r0 r1 hBz
        go_wp2
        refine bodyPost_ret (v := .tuple #[.agg #[.int .i64 W.num, .int .i64 (W.den : Int)], .int .i64 0]) ?_ rfl ⟨by rw [HWV.out.1, HWV.out.2.1, HWV.out.2.2], HBF.out⟩
        have r0 := R0.out
        have r1 := R1.out
        simp [results, Tryz.results29, go_sem, r0, r1]
      case pos =>
        iterate 2 (refine walkJ_rd rfl (fun K hK => ?_); go_simp; refine hK _ ?_; clear hK K)
        refine walkJ_nil ?_
        go_wp2_with fail
        have hd0 := (Below.refl W0.heap.size W0).drew
        have bx := fun y : SubT (Below W0.heap.size) W0.drew => hbel1.trans ((hd0.trans y.b).mono (show H6 ≤ W0.heap.size by omega))
        have z0 := fun y : SubT (Below W0.heap.size) W0.drew => (HGP.out y.w (bx y)).1
        have z1 := fun y : SubT (Below W0.heap.size) W0.drew => (HGP.out y.w (bx y)).2.1
        have z2 := fun y : SubT (Below W0.heap.size) W0.drew => (HGP.out y.w (bx y)).2.2.1
        have z3 := fun y : SubT (Below W0.heap.size) W0.drew => (HGP.out y.w (bx y)).2.2.2
        have z4 := fun y : SubT (Below W0.heap.size) W0.drew => (HGQ.out y.w (bx y)).1
        have z5 := fun y : SubT (Below W0.heap.size) W0.drew => (HGQ.out y.w (bx y)).2.1
        have z6 := fun y : SubT (Below W0.heap.size) W0.drew => (HGQ.out y.w (bx y)).2.2.1
        have z7 := fun y : SubT (Below W0.heap.size) W0.drew => (HGQ.out y.w (bx y)).2.2.2
        clear bx
        refine wp_walkJ (T := Below (W0.heap.size)) (belowV_pre _) (.rd 0 (.rd 1 (.rd 2 (.rd 3 (.rd 4 (.rd 5 (.rd 6 (.rd 7 (.rd 8 (.inv [9, 10, 11, 12])))))))))) (by kernel_rfl) rfl (by kernel_rfl) (by kernel_rfl) ?_
        iterate 9 (refine walkJ_rd rfl (fun K hK => ?_); go_simp; refine hK _ ?_; clear hK K)
        clear z0 z1 z2 z3 z4 z5 z6 z7
        obtain ⟨Wd, hWd⟩ : ∃ Wd, W0.drew = Wd := ⟨_, rfl⟩
        have hs9 : W0.heap.size = Wd.heap.size := by rw [← hWd]; rfl
        rw [hWd] at hd0 ⊢
        have HS9 := hid hs9
        clear hs9 hWd
        refine walkJ_inv (TwoI W0.heap.size Wd 44 #[.int .i64 p1, .int .i64 p2, .int .i64 p3, .int .i64 p4] #[.int .i64 q1, .int .i64 q2, .int .i64 q3, .int .i64 q4]) [(9, 9), (10, 10)] (by kernel_rfl) ?_ ?_ ?_
        · exact ⟨Below.refl _ _, fun h => (by cases h), fun h => (by cases h), fun h => (by cases h)⟩
        · refine stepsI_cons [] [11, 12] [] rfl (by kernel_rfl) (by kernel_rfl) (by kernel_rfl) (fun K l V x hx hl hds hn hI hK => ?_) ?_
          · go_simp
            have hsx : W0.heap.size ≤ x.heap.size := by rw [HS9.out]; exact hx.size
            have hb9 := alloc_below x (.cells #[.int .i64 0, .int .i64 0, .int .i64 0, .int .i64 0] 44)
            refine hK _ _ (hb9.mono hsx) ?_
            exact ⟨hI.b.trans (hb9.mono hsx), fun _ => VarI.new x _ _ hsx rfl hds.1, fun h => (hI.q h).below hb9, fun _ h => fun e => (hI.q h).fresh e.symm⟩
          refine stepsI_cons [] [11, 12] [] rfl (by kernel_rfl) (by kernel_rfl) (by kernel_rfl) (fun K l V x hx hl hds hn hI hK => ?_) ?_
          · go_simp
            have hsx : W0.heap.size ≤ x.heap.size := by rw [HS9.out]; exact hx.size
            have hb9 := alloc_below x (.cells #[.int .i64 0, .int .i64 0, .int .i64 0, .int .i64 0] 44)
            refine hK _ _ (hb9.mono hsx) ?_
            exact ⟨hI.b.trans (hb9.mono hsx), fun h => (hI.p h).below hb9, fun _ => VarI.new x _ _ hsx rfl hds.2.1, fun h _ => fun e => (hI.p h).fresh e⟩
          refine stepsI_cons [9, 10] [12] [(9, 9), (10, 10)] rfl (by kernel_rfl) (by kernel_rfl) (by kernel_rfl) (fun K l V x hx hl hds hn hI hK => ?_) ?_
          · obtain ⟨g, cs, e1, e2, e3, e4, -⟩ := hI.p hl.1
            have hb9 := row_below (Below.refl W0.heap.size x) e2 #[.int .i64 p1, .int .i64 p2, .int .i64 p3, .int .i64 p4]
            refine ⟨rfl, gives_store_row 44 (.tmp 9) (.tmp 47) rfl g _ e1 rfl 44 cs e3 pinfoPt e4 (by simp [Value.oneCell']) (hK _ _ hb9 ?_)⟩
            refine ⟨hI.b.trans hb9, fun _ => ?_, fun h => (hI.q h).other (fun e => hI.ne hl.1 hl.2.1 (e1.trans e.symm)) _, hI.ne⟩
            show VarI _ _ (V 9) _ _ _ _
            rw [e1]
            exact VarI.filled e2 e3 rfl
          refine stepsI_cons [9, 10, 11] [] [(9, 9), (10, 10)] rfl (by kernel_rfl) (by kernel_rfl) (by kernel_rfl) (fun K l V x hx hl hds hn hI hK => ?_) ?_
          · obtain ⟨g, cs, e1, e2, e3, e4, -⟩ := hI.q hl.2.1
            have hb9 := row_below (Below.refl W0.heap.size x) e2 #[.int .i64 q1, .int .i64 q2, .int .i64 q3, .int .i64 q4]
            refine ⟨rfl, gives_store_row 44 (.tmp 10) (.tmp 51) rfl g _ e1 rfl 44 cs e3 pinfoPt e4 (by simp [Value.oneCell']) (hK _ _ hb9 ?_)⟩
            refine ⟨hI.b.trans hb9, fun h => (hI.p h).other (fun e => hI.ne hl.1 hl.2.1 (e.trans e1.symm)) _, fun _ => ?_, hI.ne⟩
            show VarI _ _ (V 10) _ _ _ _
            rw [e1]
            exact VarI.filled e2 e3 rfl
          exact stepsI_nil
        intro V W2 hW2 hI
        obtain ⟨gp, ep, hgp, kp⟩ := (hI.p rfl).out
        obtain ⟨gq, eq, hgq, kq⟩ := (hI.q rfl).out
        have hpq : gp ≠ gq := fun e => hI.ne rfl rfl (by rw [ep, eq, e])
        have hbI := hI.b
        clear hI hW2
        simp only [putsP, ep, eq]
        go_simp
        clear ep eq
        have hb2 : Below W0.heap.size W0 W2 := hd0.trans hbI
        have kx2 := kx1.below hb2
        have kR2 := kR.below hb2
        have kW2 := kW.below hb2
        have hbel2 := hbel1.trans (hb2.mono (show H6 ≤ W0.heap.size by omega))
        have hs2 := Nat.le_trans hs1 hb2.size
        have hgp1 : H6 + 1 ≤ gp := Nat.le_trans hs1 hgp
        have hgq1 : H6 + 1 ≤ gq := Nat.le_trans hs1 hgq
        clear hd0 hbI hb2 kx1 kR kW hbel1 hs1 hgp hgq HS9 Wd
        have c0 := kx2.look 0 rfl
        have c1 := kx2.look 1 rfl
        have v0 := kq.look 0 rfl
        have v1 := kq.look 1 rfl
        go_wp2_with fail
        refine (O1.out _).mono ?_
        rintro r w8 ⟨rfl, hb8⟩
        have kx8 := kx2.below hb8
        have kR := kR2.below hb8
        have kW := kW2.below hb8
        replace kp := kp.below hb8
        replace kq := kq.below hb8
        have hbelq := hbel2.trans (hb8.mono (show H6 ≤ W2.heap.size by omega))
        have hsq := Nat.le_trans hs2 hb8.size
        obtain ⟨hp1, hp2, hp3, hp4⟩ := HP4.out
        clear c0 c1 v0 v1 kx2 kR2 kW2 hbel2 hs2 hb8 O1
        by_cases hz1 : 0 < z1
        case neg =>
          have hstq := HST.out
          rw [if_pos (HL1.out.2 (by omega))] at hstq
          obtain ⟨QQ, hQQ⟩ : ∃ QQ, Q = QQ := ⟨_, rfl⟩
          obtain ⟨hqa, hqb, hqc, hqd⟩ := HQ4.out
          have hfq := HFQ.out
          rw [hQQ] at hstq hqa hqb hqc hqd hfq
          clear hQQ kx8
          have SQ := hid (fun w => rstrip_any W P.1 P.2 QQ.1 QQ.2 HFW.out HFP.out.1 HFP.out.2 hfq.1 hfq.2 w)
          obtain ⟨o, hoo⟩ : ∃ o, stripO W (P.1, P.2) (QQ.1, QQ.2) = o := ⟨_, rfl⟩
          rw [hoo] at SQ
          replace hoo : stripO W P QQ = o := hoo
          rw [hoo] at hstq
          have hfo : ∀ V, o = some V → fits V := fun V h => stripO_fits (hoo.trans h)
          have HSQ := hid hstq
          have HFO := hid hfo
          unfold frQ at SQ
          rw [hp1, hp2, hp3, hp4, hqa, hqb, hqc, hqd] at SQ
          clear hstq hoo hfq hqa hqb hqc hqd hfo
          obtain ⟨oa, hoa⟩ : ∃ z, oN o = z := ⟨_, rfl⟩
          obtain ⟨ob, hob⟩ : ∃ z, oD o = z := ⟨_, rfl⟩
          obtain ⟨oe, hoe⟩ : ∃ z, oE o = z := ⟨_, rfl⟩
          rw [hoa, hob, hoe] at SQ
          have HOA := hid hoa
          have HOB := hid hob
          have HOE := hid hoe
          clear hoa hob hoe
          have y0 := kp.look 0 rfl
          have y1 := kp.look 1 rfl
          have y2 := kp.look 2 rfl
          have y3 := kp.look 3 rfl
          have v0 := kq.look 0 rfl
          have v1 := kq.look 1 rfl
          have v2 := kq.look 2 rfl
          have v3 := kq.look 3 rfl
          have c8 := kW.look 0 rfl
          have c9 := kW.look 1 rfl
          go_wp2_with fail
          refine (SQ.out _).mono ?_
          rintro r ws ⟨rfl, hbs⟩
          have kWs := kW.below hbs
          have kRs := kR.below hbs
          have hbels := hbelq.trans (hbs.mono (show H6 ≤ _ by omega))
          have hss := Nat.le_trans hsq hbs.size
          clear y0 y1 y2 y3 v0 v1 v2 v3 c8 c9 SQ kp kq kW kR hbelq hsq hbs
          have f3 := kWs.frozen
          have u0 := kWs.look 0 rfl
          have u1 := kWs.look 1 rfl
          cases o with
          | none =>
            obtain rfl : 0 = oa := HOA.out
            obtain rfl : 0 = ob := HOB.out
            obtain rfl : 5 = oe := HOE.out
            have hn := work_stay HSQ.out (M - (j + 1))
            rw [show j + 1 + (M - (j + 1)) = M by omega] at hn
            obtain ⟨rfl, rfl, rfl⟩ := HX.out hn
            have hBz := HB.out.trans (((hbels.setCell (p := ⟨H6, 0, none⟩) (Nat.le_refl H6) (.int .i64 0)).setCell (p := ⟨H6, 1, none⟩) (Nat.le_refl H6) (.int .i64 0)).mono (show w.heap.size ≤ H6 by omega))
            have kR := (kRs.other (p := ⟨H6, 0, none⟩) (show _ ≠ H6 by omega) (.int .i64 0)).other (p := ⟨H6, 1, none⟩) (show _ ≠ H6 by omega) (.int .i64 0)
            clear hn HX HY HSQ HOA HOB HOE kWs kRs hbels hss HFO
            have f2 := kR.frozen
            have q0 := kR.look 0 rfl
            have q1 := kR.look 1 rfl
            have ks := (kR.set 0 (.int .i64 0)).set 1 (.int .i64 0)
            have r0 : _ = some (Value.int .i64 0) := ks.look 0 rfl
            have r1 : _ = some (Value.int .i64 0) := ks.look 1 rfl
            have R0 := hid r0
            have R1 := hid r1
            have HBF := hid ((hBz.setCell (p := ⟨w.heap.size + 1, 0, none⟩) (by show w.heap.size ≤ w.heap.size + 1; omega) (.int .i64 0)).setCell (p := ⟨w.heap.size + 1, 1, none⟩) (by show w.heap.size ≤ w.heap.size + 1; omega) (.int .i64 0))
            clear kR ks r0 r1 hBz
            go_wp2
            refine bodyPost_ret (v := .tuple #[.agg #[.int .i64 0, .int .i64 0], .int .i64 5]) ?_ rfl ⟨rfl, HBF.out⟩
            have r0 := R0.out
            have r1 := R1.out
            simp [results, Tryz.results29, go_sem, r0, r1]
          | some V =>
            obtain rfl : V.num = oa := HOA.out
            obtain rfl : (V.den : Int) = ob := HOB.out
            obtain rfl : 0 = oe := HOE.out
            have HK2 := hid ((kWs.set 0 (.int .i64 V.num)).set 1 (.int .i64 (V.den : Int)))
            have hbel2 := (hbels.setCell (p := ⟨H6, 0, none⟩) (Nat.le_refl H6) (.int .i64 V.num)).setCell (p := ⟨H6, 1, none⟩) (Nat.le_refl H6) (.int .i64 (V.den : Int))
            have hs2 : H6 + 1 ≤ ((ws.setCell ⟨H6, 0, none⟩ (.int .i64 V.num)).setCell ⟨H6, 1, none⟩ (.int .i64 (V.den : Int))).heap.size := by simpa [World.setCell] using hss
            have HFV := hid (HFO.out V rfl)
            have wJ2 : IntKind.i64.wrap ((j : Int) + 1 + 1) = ((j + 1 + 1 : Nat) : Int) := by rw [IntWalk.i64_left]; unfold wrap64; omega
            clear HOA HOB HOE kWs kRs hbels hss HFO
            go_wp2
            go_roundw
            case rel => exact ⟨j + 1, by go_num, by omega, V, HSQ.out, HFV, HK2, hbel2, hs2⟩
            case measure => simp [intOf]; omega
        case pos =>
          have hstq := HST.out
          rw [if_neg (fun h => (by have := HL1.out.1 h; omega)), if_pos (HL2.out.2 hz2)] at hstq
          have HSTQ := hid hstq
          have c0 := kx8.look 0 rfl
          have c1 := kx8.look 1 rfl
          have f3 := kq.frozen
          have v0 := kq.look 0 rfl
          have v1 := kq.look 1 rfl
          have kx9 := (kx8.other (p := ⟨gq, 0, none⟩) (show _ ≠ gq by omega) (.int .i64 n)).other (p := ⟨gq, 1, none⟩) (show _ ≠ gq by omega) (.int .i64 d)
          have kR9 := (kR.other (p := ⟨gq, 0, none⟩) (show _ ≠ gq by omega) (.int .i64 n)).other (p := ⟨gq, 1, none⟩) (show _ ≠ gq by omega) (.int .i64 d)
          have kW9 := (kW.other (p := ⟨gq, 0, none⟩) (show _ ≠ gq by omega) (.int .i64 n)).other (p := ⟨gq, 1, none⟩) (show _ ≠ gq by omega) (.int .i64 d)
          have kp9 := (kp.other (p := ⟨gq, 0, none⟩) (show _ ≠ gq by omega) (.int .i64 n)).other (p := ⟨gq, 1, none⟩) (show _ ≠ gq by omega) (.int .i64 d)
          have kq9 : Blk ((w8.setCell ⟨gq, 0, none⟩ (.int .i64 n)).setCell ⟨gq, 1, none⟩ (.int .i64 d)) gq #[.int .i64 n, .int .i64 d, .int .i64 q3, .int .i64 q4] 44 := (kq.set 0 (.int .i64 n)).set 1 (.int .i64 d)
          have hbel9 := (hbelq.setCell (p := ⟨gq, 0, none⟩) (show H6 ≤ gq by omega) (.int .i64 n)).setCell (p := ⟨gq, 1, none⟩) (show H6 ≤ gq by omega) (.int .i64 d)
          have hs9 : H6 + 1 ≤ ((w8.setCell ⟨gq, 0, none⟩ (.int .i64 n)).setCell ⟨gq, 1, none⟩ (.int .i64 d)).heap.size := by simpa [World.setCell] using hsq
          have c2 := kx9.look 0 rfl
          have c3 := kx9.look 1 rfl
          clear kx8 kR kW kp hstq
          go_wp2_with fail
          obtain ⟨w9, hw9⟩ : ∃ w9, (w8.setCell ⟨gq, 0, none⟩ (.int .i64 n)).setCell ⟨gq, 1, none⟩ (.int .i64 d) = w9 := ⟨_, rfl⟩
          rw [hw9] at kx9 kR9 kW9 kp9 kq9 hbel9 hs9 ⊢
          clear hw9 c0 c1 c2 c3 f3 v0 v1 kq hbelq hsq w8 kx9
          refine (AT2.out _ (PsR.below HQ.out (show Below w4.heap.size w4 w9 by rw [HH.out]; exact hbel9))).mono ?_
          rintro r w10 ⟨rfl, hb10⟩
          have kR := kR9.below hb10
          have kW := kW9.below hb10
          have kp := kp9.below hb10
          have kq := kq9.below hb10
          have hbelq := hbel9.trans (hb10.mono (show H6 ≤ w9.heap.size by omega))
          have hsq := Nat.le_trans hs9 hb10.size
          clear kR9 kW9 kp9 kq9 hbel9 hs9 hb10
          have hatf := HATF.out
          obtain ⟨oa, hoa⟩ : ∃ z, oN (atO C x) = z := ⟨_, rfl⟩
          obtain ⟨ob, hob⟩ : ∃ z, oD (atO C x) = z := ⟨_, rfl⟩
          obtain ⟨oe, hoe⟩ : ∃ z, oE (atO C x) = z := ⟨_, rfl⟩
          rw [hoa, hob, hoe]
          have f3 := kq.frozen
          have v2 := kq.look 2 rfl
          have v3 := kq.look 3 rfl
          have hkq2 := (kq.set 2 (.int .i64 oa)).set 3 (.int .i64 ob)
          have kR2 := (kR.other (p := ⟨gq, 2, none⟩) (show _ ≠ gq by omega) (.int .i64 oa)).other (p := ⟨gq, 3, none⟩) (show _ ≠ gq by omega) (.int .i64 ob)
          have kW2 := (kW.other (p := ⟨gq, 2, none⟩) (show _ ≠ gq by omega) (.int .i64 oa)).other (p := ⟨gq, 3, none⟩) (show _ ≠ gq by omega) (.int .i64 ob)
          have kp2 := (kp.other (p := ⟨gq, 2, none⟩) (show _ ≠ gq by omega) (.int .i64 oa)).other (p := ⟨gq, 3, none⟩) (show _ ≠ gq by omega) (.int .i64 ob)
          have hbel2 := (hbelq.setCell (p := ⟨gq, 2, none⟩) (show H6 ≤ gq by omega) (.int .i64 oa)).setCell (p := ⟨gq, 3, none⟩) (show H6 ≤ gq by omega) (.int .i64 ob)
          have hs2 : H6 + 1 ≤ ((w10.setCell ⟨gq, 2, none⟩ (.int .i64 oa)).setCell ⟨gq, 3, none⟩ (.int .i64 ob)).heap.size := by simpa [World.setCell] using hsq
          clear kR kW kp hbelq hsq
          cases hat : atO C x with
          | none =>
            rw [hat] at hoa hob hoe
            obtain rfl : 0 = oa := hoa
            obtain rfl : 0 = ob := hob
            obtain rfl : 5 = oe := hoe
            have hstq := HSTQ.out
            rw [hat] at hstq
            have hn := work_stay hstq (M - (j + 1))
            rw [show j + 1 + (M - (j + 1)) = M by omega] at hn
            obtain ⟨rfl, rfl, rfl⟩ := HX.out hn
            have kR := kR2
            have hBz := HB.out.trans (hbel2.mono (show w.heap.size ≤ H6 by omega))
            clear hstq hn HX HY HSTQ kR2 kW2 kp2 hbel2 hs2 hkq2 hat hatf
            have f2 := kR.frozen
            have q0 := kR.look 0 rfl
            have q1 := kR.look 1 rfl
            have ks := (kR.set 0 (.int .i64 0)).set 1 (.int .i64 0)
            have r0 : _ = some (Value.int .i64 0) := ks.look 0 rfl
            have r1 : _ = some (Value.int .i64 0) := ks.look 1 rfl
            have R0 := hid r0
            have R1 := hid r1
            have HBF := hid ((hBz.setCell (p := ⟨w.heap.size + 1, 0, none⟩) (by show w.heap.size ≤ w.heap.size + 1; omega) (.int .i64 0)).setCell (p := ⟨w.heap.size + 1, 1, none⟩) (by show w.heap.size ≤ w.heap.size + 1; omega) (.int .i64 0))
            clear kR ks r0 r1 hBz
            go_wp2
            refine bodyPost_ret (v := .tuple #[.agg #[.int .i64 0, .int .i64 0], .int .i64 5]) ?_ rfl ⟨rfl, HBF.out⟩
            have r0 := R0.out
            have r1 := R1.out
            simp [results, Tryz.results29, go_sem, r0, r1]
          | some y =>
            have hfy := hatf y hat
            rw [hat] at hoa hob hoe
            obtain rfl : 0 = oe := hoe
            have hstq := HSTQ.out
            rw [hat] at hstq
            simp only [Option.bind_some] at hstq
            obtain ⟨QQ, hQQ⟩ : ∃ QQ : Pt, (x, y) = QQ := ⟨_, rfl⟩
            have hqa : QQ.1.num = n := by rw [← hQQ]; exact (frQ_eq3 hxe).1
            have hqb : (QQ.1.den : Int) = d := by rw [← hQQ]; exact (frQ_eq3 hxe).2
            have hqc : QQ.2.num = oa := by rw [← hQQ]; exact hoa
            have hqd : (QQ.2.den : Int) = ob := by rw [← hQQ]; exact hob
            have hfq : fits QQ.1 ∧ fits QQ.2 := by rw [← hQQ]; exact ⟨hxf, hfy⟩
            rw [hQQ] at hstq
            have kq2 : Blk ((w10.setCell ⟨gq, 2, none⟩ (.int .i64 oa)).setCell ⟨gq, 3, none⟩ (.int .i64 ob)) gq #[.int .i64 n, .int .i64 d, .int .i64 oa, .int .i64 ob] 44 := hkq2
            clear hQQ hoa hob hfy hat hatf hkq2
            obtain ⟨v2, v3, f3⟩ : (w10.cell? ⟨gq, 2, none⟩ = some (.int .i64 q3) ∧ w10.cell? ⟨gq, 3, none⟩ = some (.int .i64 q4) ∧ ∀ o, w10.frozen? ⟨gq, o, none⟩ = false) := ⟨v2, v3, f3⟩
            have kR := kR2
            have kW := kW2
            have kp := kp2
            have hbelq := hbel2
            have hsq := hs2
            clear kR2 kW2 kp2 hbel2 hs2 kq
            have kq := kq2
            clear kq2
            have SQ := hid (fun w => rstrip_any W P.1 P.2 QQ.1 QQ.2 HFW.out HFP.out.1 HFP.out.2 hfq.1 hfq.2 w)
            obtain ⟨o, hoo⟩ : ∃ o, stripO W (P.1, P.2) (QQ.1, QQ.2) = o := ⟨_, rfl⟩
            rw [hoo] at SQ
            replace hoo : stripO W P QQ = o := hoo
            rw [hoo] at hstq
            have hfo : ∀ V, o = some V → fits V := fun V h => stripO_fits (hoo.trans h)
            have HSQ := hid hstq
            have HFO := hid hfo
            unfold frQ at SQ
            rw [hp1, hp2, hp3, hp4, hqa, hqb, hqc, hqd] at SQ
            clear hstq hoo hfq hqa hqb hqc hqd hfo
            obtain ⟨oa, hoa⟩ : ∃ z, oN o = z := ⟨_, rfl⟩
            obtain ⟨ob, hob⟩ : ∃ z, oD o = z := ⟨_, rfl⟩
            obtain ⟨oe, hoe⟩ : ∃ z, oE o = z := ⟨_, rfl⟩
            rw [hoa, hob, hoe] at SQ
            have HOA := hid hoa
            have HOB := hid hob
            have HOE := hid hoe
            clear hoa hob hoe
            have y0 := kp.look 0 rfl
            have y1 := kp.look 1 rfl
            have y2 := kp.look 2 rfl
            have y3 := kp.look 3 rfl
            have v0 := kq.look 0 rfl
            have v1 := kq.look 1 rfl
            have v2 := kq.look 2 rfl
            have v3 := kq.look 3 rfl
            have c8 := kW.look 0 rfl
            have c9 := kW.look 1 rfl
            go_wp2_with fail
            refine (SQ.out _).mono ?_
            rintro r ws ⟨rfl, hbs⟩
            have kWs := kW.below hbs
            have kRs := kR.below hbs
            have hbels := hbelq.trans (hbs.mono (show H6 ≤ _ by omega))
            have hss := Nat.le_trans hsq hbs.size
            clear y0 y1 y2 y3 v0 v1 v2 v3 c8 c9 SQ kp kq kW kR hbelq hsq hbs
            have f3 := kWs.frozen
            have u0 := kWs.look 0 rfl
            have u1 := kWs.look 1 rfl
            cases o with
            | none =>
              obtain rfl : 0 = oa := HOA.out
              obtain rfl : 0 = ob := HOB.out
              obtain rfl : 5 = oe := HOE.out
              have hn := work_stay HSQ.out (M - (j + 1))
              rw [show j + 1 + (M - (j + 1)) = M by omega] at hn
              obtain ⟨rfl, rfl, rfl⟩ := HX.out hn
              have hBz := HB.out.trans (((hbels.setCell (p := ⟨H6, 0, none⟩) (Nat.le_refl H6) (.int .i64 0)).setCell (p := ⟨H6, 1, none⟩) (Nat.le_refl H6) (.int .i64 0)).mono (show w.heap.size ≤ H6 by omega))
              have kR := (kRs.other (p := ⟨H6, 0, none⟩) (show _ ≠ H6 by omega) (.int .i64 0)).other (p := ⟨H6, 1, none⟩) (show _ ≠ H6 by omega) (.int .i64 0)
              clear hn HX HY HSQ HOA HOB HOE kWs kRs hbels hss HFO
              have f2 := kR.frozen
              have q0 := kR.look 0 rfl
              have q1 := kR.look 1 rfl
              have ks := (kR.set 0 (.int .i64 0)).set 1 (.int .i64 0)
              have r0 : _ = some (Value.int .i64 0) := ks.look 0 rfl
              have r1 : _ = some (Value.int .i64 0) := ks.look 1 rfl
              have R0 := hid r0
              have R1 := hid r1
              have HBF := hid ((hBz.setCell (p := ⟨w.heap.size + 1, 0, none⟩) (by show w.heap.size ≤ w.heap.size + 1; omega) (.int .i64 0)).setCell (p := ⟨w.heap.size + 1, 1, none⟩) (by show w.heap.size ≤ w.heap.size + 1; omega) (.int .i64 0))
              clear kR ks r0 r1 hBz
              go_wp2
              refine bodyPost_ret (v := .tuple #[.agg #[.int .i64 0, .int .i64 0], .int .i64 5]) ?_ rfl ⟨rfl, HBF.out⟩
              have r0 := R0.out
              have r1 := R1.out
              simp [results, Tryz.results29, go_sem, r0, r1]
            | some V =>
              obtain rfl : V.num = oa := HOA.out
              obtain rfl : (V.den : Int) = ob := HOB.out
              obtain rfl : 0 = oe := HOE.out
              have HK2 := hid ((kWs.set 0 (.int .i64 V.num)).set 1 (.int .i64 (V.den : Int)))
              have hbel2 := (hbels.setCell (p := ⟨H6, 0, none⟩) (Nat.le_refl H6) (.int .i64 V.num)).setCell (p := ⟨H6, 1, none⟩) (Nat.le_refl H6) (.int .i64 (V.den : Int))
              have hs2 : H6 + 1 ≤ ((ws.setCell ⟨H6, 0, none⟩ (.int .i64 V.num)).setCell ⟨H6, 1, none⟩ (.int .i64 (V.den : Int))).heap.size := by simpa [World.setCell] using hss
              have HFV := hid (HFO.out V rfl)
              have wJ2 : IntKind.i64.wrap ((j : Int) + 1 + 1) = ((j + 1 + 1 : Nat) : Int) := by rw [IntWalk.i64_left]; unfold wrap64; omega
              clear HOA HOB HOE kWs kRs hbels hss HFO
              go_wp2
              go_roundw
              case rel => exact ⟨j + 1, by go_num, by omega, V, HSQ.out, HFV, HK2, hbel2, hs2⟩
              case measure => simp [intOf]; omega

end Go.Proofs.YtfkclcoipadhmaaGreatDoor
