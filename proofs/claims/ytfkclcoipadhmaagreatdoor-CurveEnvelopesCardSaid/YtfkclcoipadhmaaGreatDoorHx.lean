/- Several of my texts in one: Hh, Hi, Hl. -/
import Derived.Test.YtfkclcoipadhmaaGreatDoorEt
import Derived.Test.YtfkclcoipadhmaaGreatDoorGp
import Derived.Test.YtfkclcoipadhmaaGreatDoorGo
import Derived.Test.YtfkclcoipadhmaaGreatDoorEz
import Derived.Test.YtfkclcoipadhmaaGreatDoorRg
/- Walk of trankref02.crossing. -/
namespace Go.Proofs.YtfkclcoipadhmaaGreatDoor
open Go.RowKit
attribute [local irreducible] seqS seqST walkV walkJ

theorem crs_cases (x z d f : Rat) :
    (¬ fits (d - f) → crsO x z d f = none) ∧ (fits (d - f) → ¬ fits (d / (d - f)) → crsO x z d f = none) ∧ (fits (d - f) → fits (d / (d - f)) → ¬ fits (z - x) → crsO x z d f = none) ∧
      (fits (d - f) → fits (d / (d - f)) → fits (z - x) → ¬ fits (d / (d - f) * (z - x)) → crsO x z d f = none) ∧
      (fits (d - f) → fits (d / (d - f)) → fits (z - x) → fits (d / (d - f) * (z - x)) → crsO x z d f = fitO (x + d / (d - f) * (z - x))) := by
  have y : ∀ q, fits q → fitO q = some q := fun q h => if_pos h
  have n : ∀ q, ¬ fits q → fitO q = none := fun q h => if_neg h
  unfold crsO
  refine ⟨fun h => ?_, fun h1 h => ?_, fun h1 h2 h => ?_, fun h1 h2 h3 h => ?_, fun h1 h2 h3 h4 => ?_⟩
  · rw [n _ h]; rfl
  · rw [y _ h1, Option.bind_some, n _ h]; rfl
  · rw [y _ h1, Option.bind_some, y _ h2, Option.bind_some, n _ h]; rfl
  · rw [y _ h1, Option.bind_some, y _ h2, Option.bind_some, y _ h3, Option.bind_some, n _ h]; rfl
  · rw [y _ h1, Option.bind_some, y _ h2, Option.bind_some, y _ h3, Option.bind_some, y _ h4, Option.bind_some]
/-- Five new blocks. -/
theorem five_new (w : World) (a b c d e : Array Value) (t : TypeId) :
    ∃ w0, ((((w.alloc (.cells a t)).alloc (.cells b t)).alloc (.cells c t)).alloc (.cells d t)).alloc (.cells e t) = w0 ∧ Blk w0 w.heap.size a t ∧ Blk w0 (w.heap.size + 1) b t ∧ Blk w0 (w.heap.size + 1 + 1) c t ∧ Blk w0 (w.heap.size + 1 + 1 + 1) d t ∧ Blk w0 (w.heap.size + 1 + 1 + 1 + 1) e t ∧ Below w.heap.size w w0 := by
  refine ⟨_, rfl, ?_, ?_, ?_, ?_, ?_, ?_⟩
  · exact ((((Blk.new w a t).alloc _).alloc _).alloc _).alloc _
  · have h := (((Blk.new (w.alloc (.cells a t)) b t).alloc (.cells c t)).alloc (.cells d t)).alloc (.cells e t)
    rw [World.size_alloc] at h
    exact h
  · have h := ((Blk.new ((w.alloc (.cells a t)).alloc (.cells b t)) c t).alloc (.cells d t)).alloc (.cells e t)
    rw [World.size_alloc, World.size_alloc] at h
    exact h
  · have h := (Blk.new (((w.alloc (.cells a t)).alloc (.cells b t)).alloc (.cells c t)) d t).alloc (.cells e t)
    rw [World.size_alloc, World.size_alloc, World.size_alloc] at h
    exact h
  · have h := Blk.new ((((w.alloc (.cells a t)).alloc (.cells b t)).alloc (.cells c t)).alloc (.cells d t)) e t
    rw [World.size_alloc, World.size_alloc, World.size_alloc, World.size_alloc] at h
    exact h
  · exact (((((Below.refl w.heap.size w).alloc (Nat.le_refl _) _).alloc (by simp) _).alloc (by simp; omega) _).alloc (by simp; omega) _).alloc (by simp; omega) _

set_option maxHeartbeats 8000000 in
set_option maxRecDepth 100000 in
theorem rcrossing_any (x z d f : Rat) (hx : fits x) (hz : fits z) (hd : fits d) (hf : fits f) (hne : d - f ≠ 0) (w : World) :
    Calls Tryz.prog 106 #[frQ x, frQ z, frQ d, frQ f] w fun r w' => r = .returned (.tuple #[.agg #[.int .i64 (oN (crsO x z d f)), .int .i64 (oD (crsO x z d f))], .int .i64 (oE (crsO x z d f))]) ∧ Below w.heap.size w w' := by
  have HC := hid (crs_cases x z d f)
  have S1 := hid (fun w => rSub_any d f hd hf w)
  have S2 := hid (fun h1 w => rDiv_any d (d - f) hd h1 hne w)
  have S3 := hid (fun w => rSub_any z x hz hx w)
  have S4 := hid (fun h1 h2 w => rMul_any (d / (d - f)) (z - x) h1 h2 w)
  have S5 := hid (fun h1 w => rAdd_any x (d / (d - f) * (z - x)) hx h1 w)
  have fo := fun q => fit_o q
  obtain ⟨p, hp⟩ : ∃ q, d - f = q := ⟨_, rfl⟩
  rw [hp] at HC S1 S2 S4 S5
  obtain ⟨t, ht⟩ : ∃ q, d / p = q := ⟨_, rfl⟩
  rw [ht] at HC S2 S4 S5
  obtain ⟨s, hs⟩ : ∃ q, z - x = q := ⟨_, rfl⟩
  rw [hs] at HC S3 S4 S5
  obtain ⟨m, hm⟩ : ∃ q, t * s = q := ⟨_, rfl⟩
  rw [hm] at HC S4 S5
  obtain ⟨c, hc⟩ : ∃ o, crsO x z d f = o := ⟨_, rfl⟩
  rw [hc] at HC ⊢
  have HF := hid fo
  have nn : ∀ q, ¬ fits q → fitN q = 0 ∧ fitD q = 0 ∧ fitE q = 5 := fun q h => ⟨if_neg h, if_neg h, if_neg h⟩
  have yy : ∀ q, fits q → fitN q = q.num ∧ fitD q = (q.den : Int) ∧ fitE q = 0 := fun q h => ⟨if_pos h, if_pos h, if_pos h⟩
  have HN := hid nn
  have HY := hid yy
  clear hp ht hs hm hc fo nn yy hx hz hd hf hne
  unfold frQ frV at S1 S2 S3 S4 S5
  unfold frQ
  obtain ⟨w0, hw0, k0, k1, k2, k3, kR, bR⟩ := five_new w #[.int .i64 x.num, .int .i64 (x.den : Int)] #[.int .i64 z.num, .int .i64 (z.den : Int)] #[.int .i64 d.num, .int .i64 (d.den : Int)] #[.int .i64 f.num, .int .i64 (f.den : Int)] #[.int .i64 0, .int .i64 0] 31
  have a0 := k2.look 0 rfl
  have a1 := k2.look 1 rfl
  have a2 := k3.look 0 rfl
  have a3 := k3.look 1 rfl
  rw [← hw0] at a0 a1 a2 a3
  have HW := hid hw0
  have K0 := hid k0
  have K1 := hid k1
  have K2 := hid k2
  have KR := hid kR
  have BR := hid bR
  clear k0 k1 k2 k3 kR bR hw0
  go_enter Tryz.func106, Tryz.ntmps106
  go_wp2_with fail
  rw [HW.out]
  clear HW a0 a1 a2 a3
  refine (S1.out _).mono ?_
  rintro r w1 ⟨rfl, hb1⟩
  have k0 := K0.out.below hb1
  have k1 := K1.out.below hb1
  have k2 := K2.out.below hb1
  have kR := KR.out.below hb1
  have bR := BR.out.trans (hb1.mono BR.out.size)
  have hle : w.heap.size ≤ w.heap.size + 1 + 1 + 1 + 1 := by omega
  clear K0 K1 K2 KR BR hb1 S1
  by_cases hp : fits p
  case neg =>
    obtain ⟨e1, e2, e3⟩ := HN.out p hp
    rw [e1, e2, e3]
    have hcn : c = none := HC.out.1 hp
    subst hcn
    have ba := alloc_below w1 (.cells #[.int .i64 0, .int .i64 0] 31)
    replace kR := kR.below ba
    replace bR := bR.trans (ba.mono bR.size)
    have f2 := kR.frozen
    have q0 := kR.look 0 rfl
    have q1 := kR.look 1 rfl
    have r0 := kR.cell 0
    have r1 := kR.cell 1
    have HB := hid ((bR.setCell (p := ⟨w.heap.size + 1 + 1 + 1 + 1, 0, none⟩) hle (.int .i64 0)).setCell (p := ⟨w.heap.size + 1 + 1 + 1 + 1, 1, none⟩) hle (.int .i64 0))
    clear kR bR ba k0 k1 k2 e1 e2 e3 hp
    go_wp2
    refine bodyPost_ret (v := .tuple #[.agg #[.int .i64 0, .int .i64 0], .int .i64 5]) ?_ rfl ⟨rfl, HB.out⟩
    simp [results, Tryz.results106, go_sem, r0, r1]
  obtain ⟨e1, e2, e3⟩ := HY.out p hp
  rw [e1, e2, e3]
  have kP := Blk.new w1 #[.int .i64 p.num, .int .i64 (p.den : Int)] 31
  have ba := alloc_below w1 (.cells #[.int .i64 p.num, .int .i64 (p.den : Int)] 31)
  have hg1 : w.heap.size + 1 + 1 + 1 + 1 < w1.heap.size := kR.lt
  replace kR := kR.below ba
  replace bR := bR.trans (ba.mono bR.size)
  replace k0 := k0.below ba
  replace k1 := k1.below ba
  replace k2 := k2.below ba
  have a0 := k2.look 0 rfl
  have a1 := k2.look 1 rfl
  have a2 := kP.look 0 rfl
  have a3 := kP.look 1 rfl
  clear e1 e2 e3 ba
  go_wp2_with fail
  clear a0 a1 a2 a3
  obtain ⟨W, hW⟩ : ∃ W, w1.alloc (.cells #[.int .i64 p.num, .int .i64 (p.den : Int)] 31) = W := ⟨_, rfl⟩
  obtain ⟨gP, hgP⟩ : ∃ g, w1.heap.size = g := ⟨_, rfl⟩
  rw [hW] at kP kR bR k0 k1 k2 ⊢
  rw [hgP] at kP hg1 ⊢
  clear hW hgP k2
  refine (S2.out hp _).mono ?_
  rintro r w2 ⟨rfl, hb2⟩
  replace kR := kR.below hb2
  replace bR := bR.trans (hb2.mono bR.size)
  replace k0 := k0.below hb2
  replace k1 := k1.below hb2
  replace kP := kP.below hb2
  have c0 := kP.look 0 rfl
  have c1 := kP.look 1 rfl
  have fP := kP.frozen
  have hPR : w.heap.size + 1 + 1 + 1 + 1 ≠ gP := by omega
  have hP0 : w.heap.size ≠ gP := by omega
  have hP1 : w.heap.size + 1 ≠ gP := by omega
  have hwP : w.heap.size ≤ gP := by omega
  clear S2 hb2
  by_cases ht : fits t
  case neg =>
    obtain ⟨e1, e2, e3⟩ := HN.out t ht
    rw [e1, e2, e3]
    have hcn : c = none := HC.out.2.1 hp ht
    subst hcn
    replace kR := (kR.other (p := ⟨gP, 0, none⟩) hPR (.int .i64 0)).other (p := ⟨gP, 1, none⟩) hPR (.int .i64 0)
    replace bR := (bR.setCell (p := ⟨gP, 0, none⟩) hwP (.int .i64 0)).setCell (p := ⟨gP, 1, none⟩) hwP (.int .i64 0)
    have f2 := kR.frozen
    have q0 := kR.look 0 rfl
    have q1 := kR.look 1 rfl
    have r0 := kR.cell 0
    have r1 := kR.cell 1
    have HB := hid ((bR.setCell (p := ⟨w.heap.size + 1 + 1 + 1 + 1, 0, none⟩) hle (.int .i64 0)).setCell (p := ⟨w.heap.size + 1 + 1 + 1 + 1, 1, none⟩) hle (.int .i64 0))
    clear kR bR k0 k1 kP e1 e2 e3 hp ht
    go_wp2
    refine bodyPost_ret (v := .tuple #[.agg #[.int .i64 0, .int .i64 0], .int .i64 5]) ?_ rfl ⟨rfl, HB.out⟩
    simp [results, Tryz.results106, go_sem, r0, r1]
  obtain ⟨e1, e2, e3⟩ := HY.out t ht
  rw [e1, e2, e3]
  replace kR := (kR.other (p := ⟨gP, 0, none⟩) hPR (.int .i64 t.num)).other (p := ⟨gP, 1, none⟩) hPR (.int .i64 (t.den : Int))
  replace bR := (bR.setCell (p := ⟨gP, 0, none⟩) hwP (.int .i64 t.num)).setCell (p := ⟨gP, 1, none⟩) hwP (.int .i64 (t.den : Int))
  replace k0 := (k0.other (p := ⟨gP, 0, none⟩) hP0 (.int .i64 t.num)).other (p := ⟨gP, 1, none⟩) hP0 (.int .i64 (t.den : Int))
  replace k1 := (k1.other (p := ⟨gP, 0, none⟩) hP1 (.int .i64 t.num)).other (p := ⟨gP, 1, none⟩) hP1 (.int .i64 (t.den : Int))
  replace kP := (kP.set 0 (.int .i64 t.num)).set 1 (.int .i64 (t.den : Int))
  have a0 := k0.look 0 rfl
  have a1 := k0.look 1 rfl
  have a2 := k1.look 0 rfl
  have a3 := k1.look 1 rfl
  clear e1 e2 e3
  go_wp2_with fail
  clear a0 a1 a2 a3 c0 c1 fP
  obtain ⟨W2, hW2⟩ : ∃ W, (w2.setCell ⟨gP, 0, none⟩ (.int .i64 t.num)).setCell ⟨gP, 1, none⟩ (.int .i64 (t.den : Int)) = W := ⟨_, rfl⟩
  rw [hW2] at kR bR k0 k1 kP ⊢
  clear hW2 k1
  refine (S3.out _).mono ?_
  rintro r w3 ⟨rfl, hb3⟩
  replace kR := kR.below hb3
  replace bR := bR.trans (hb3.mono bR.size)
  replace k0 := k0.below hb3
  replace kP : Blk w3 gP #[.int .i64 t.num, .int .i64 (t.den : Int)] 31 := Blk.below kP hb3
  clear S3 hb3
  by_cases hs : fits s
  case neg =>
    obtain ⟨e1, e2, e3⟩ := HN.out s hs
    rw [e1, e2, e3]
    have hcn : c = none := HC.out.2.2.1 hp ht hs
    subst hcn
    have ba := alloc_below w3 (.cells #[.int .i64 0, .int .i64 0] 31)
    replace kR := kR.below ba
    replace bR := bR.trans (ba.mono bR.size)
    have f2 := kR.frozen
    have q0 := kR.look 0 rfl
    have q1 := kR.look 1 rfl
    have r0 := kR.cell 0
    have r1 := kR.cell 1
    have HB := hid ((bR.setCell (p := ⟨w.heap.size + 1 + 1 + 1 + 1, 0, none⟩) hle (.int .i64 0)).setCell (p := ⟨w.heap.size + 1 + 1 + 1 + 1, 1, none⟩) hle (.int .i64 0))
    clear kR bR ba k0 kP e1 e2 e3 hp ht hs
    go_wp2
    refine bodyPost_ret (v := .tuple #[.agg #[.int .i64 0, .int .i64 0], .int .i64 5]) ?_ rfl ⟨rfl, HB.out⟩
    simp [results, Tryz.results106, go_sem, r0, r1]
  obtain ⟨e1, e2, e3⟩ := HY.out s hs
  rw [e1, e2, e3]
  have kS := Blk.new w3 #[.int .i64 s.num, .int .i64 (s.den : Int)] 31
  have ba := alloc_below w3 (.cells #[.int .i64 s.num, .int .i64 (s.den : Int)] 31)
  replace kR := kR.below ba
  replace bR := bR.trans (ba.mono bR.size)
  replace k0 := k0.below ba
  replace kP := kP.below ba
  have a0 := kP.look 0 rfl
  have a1 := kP.look 1 rfl
  have a2 := kS.look 0 rfl
  have a3 := kS.look 1 rfl
  clear e1 e2 e3 ba
  go_wp2_with fail
  clear a0 a1 a2 a3
  obtain ⟨W3, hW3⟩ : ∃ W, w3.alloc (.cells #[.int .i64 s.num, .int .i64 (s.den : Int)] 31) = W := ⟨_, rfl⟩
  rw [hW3] at kS kR bR k0 kP ⊢
  clear hW3 kS
  refine (S4.out ht hs _).mono ?_
  rintro r w4 ⟨rfl, hb4⟩
  replace kR := kR.below hb4
  replace bR := bR.trans (hb4.mono bR.size)
  replace k0 := k0.below hb4
  replace kP := kP.below hb4
  have c0 := kP.look 0 rfl
  have c1 := kP.look 1 rfl
  have fP := kP.frozen
  clear S4 hb4
  by_cases hm : fits m
  case neg =>
    obtain ⟨e1, e2, e3⟩ := HN.out m hm
    rw [e1, e2, e3]
    have hcn : c = none := HC.out.2.2.2.1 hp ht hs hm
    subst hcn
    replace kR := (kR.other (p := ⟨gP, 0, none⟩) hPR (.int .i64 0)).other (p := ⟨gP, 1, none⟩) hPR (.int .i64 0)
    replace bR := (bR.setCell (p := ⟨gP, 0, none⟩) hwP (.int .i64 0)).setCell (p := ⟨gP, 1, none⟩) hwP (.int .i64 0)
    have f2 := kR.frozen
    have q0 := kR.look 0 rfl
    have q1 := kR.look 1 rfl
    have r0 := kR.cell 0
    have r1 := kR.cell 1
    have HB := hid ((bR.setCell (p := ⟨w.heap.size + 1 + 1 + 1 + 1, 0, none⟩) hle (.int .i64 0)).setCell (p := ⟨w.heap.size + 1 + 1 + 1 + 1, 1, none⟩) hle (.int .i64 0))
    clear kR bR k0 kP e1 e2 e3 hp ht hs hm
    go_wp2
    refine bodyPost_ret (v := .tuple #[.agg #[.int .i64 0, .int .i64 0], .int .i64 5]) ?_ rfl ⟨rfl, HB.out⟩
    simp [results, Tryz.results106, go_sem, r0, r1]
  obtain ⟨e1, e2, e3⟩ := HY.out m hm
  rw [e1, e2, e3]
  have hcv := HC.out.2.2.2.2 hp ht hs hm
  have hfo := HF.out (x + m)
  rw [← hcv] at hfo
  have S6 := S5.out hm
  rw [hfo.1, hfo.2.1, hfo.2.2] at S6
  have HS6 := hid S6
  obtain ⟨sn, hsn⟩ : ∃ z, oN c = z := ⟨_, rfl⟩
  obtain ⟨sd, hsd⟩ : ∃ z, oD c = z := ⟨_, rfl⟩
  obtain ⟨se, hse⟩ : ∃ z, oE c = z := ⟨_, rfl⟩
  rw [hsn, hsd, hse] at HS6
  have HSN := hid hsn
  have HSD := hid hsd
  have HSE := hid hse
  replace kR := (kR.other (p := ⟨gP, 0, none⟩) hPR (.int .i64 m.num)).other (p := ⟨gP, 1, none⟩) hPR (.int .i64 (m.den : Int))
  replace bR := (bR.setCell (p := ⟨gP, 0, none⟩) hwP (.int .i64 m.num)).setCell (p := ⟨gP, 1, none⟩) hwP (.int .i64 (m.den : Int))
  replace k0 := (k0.other (p := ⟨gP, 0, none⟩) hP0 (.int .i64 m.num)).other (p := ⟨gP, 1, none⟩) hP0 (.int .i64 (m.den : Int))
  replace kP := (kP.set 0 (.int .i64 m.num)).set 1 (.int .i64 (m.den : Int))
  have a0 := k0.look 0 rfl
  have a1 := k0.look 1 rfl
  clear e1 e2 e3 hcv hfo S6 S5 hsn hsd hse kP
  go_wp2_with fail
  clear a0 a1 c0 c1 fP
  obtain ⟨W4, hW4⟩ : ∃ W, (w4.setCell ⟨gP, 0, none⟩ (.int .i64 m.num)).setCell ⟨gP, 1, none⟩ (.int .i64 (m.den : Int)) = W := ⟨_, rfl⟩
  rw [hW4] at kR bR k0 ⊢
  clear hW4 k0
  refine (HS6.out _).mono ?_
  rintro r w5 ⟨rfl, hb5⟩
  replace kR := kR.below hb5
  replace bR := bR.trans (hb5.mono bR.size)
  clear HS6 hb5 HC HN HY HF hp ht hs hm
  have f2 := kR.frozen
  have q0 := kR.look 0 rfl
  have q1 := kR.look 1 rfl
  have k24 := (kR.set 0 (.int .i64 sn)).set 1 (.int .i64 sd)
  have r0 := k24.look 0 rfl
  have r1 := k24.look 1 rfl
  have HB := hid ((bR.setCell (p := ⟨w.heap.size + 1 + 1 + 1 + 1, 0, none⟩) hle (.int .i64 sn)).setCell (p := ⟨w.heap.size + 1 + 1 + 1 + 1, 1, none⟩) hle (.int .i64 sd))
  have R0 := hid r0
  have R1 := hid r1
  clear r0 r1 k24 kR bR
  go_wp2
  refine bodyPost_ret (v := .tuple #[.agg #[.int .i64 sn, .int .i64 sd], .int .i64 se]) ?_ rfl ⟨by rw [HSN.out, HSD.out, HSE.out], HB.out⟩
  have r0 := R0.out
  have r1 := R1.out
  simp [results, Tryz.results106, go_sem, r0, r1]

end Go.Proofs.YtfkclcoipadhmaaGreatDoor

/- What trankref02.Grid hands back; an append to a row that may be the first cell of another one. -/
namespace Go.Proofs.YtfkclcoipadhmaaGreatDoor
open Go.RowKit
attribute [local irreducible] seqS seqST walkV walkJ

/-- What Grid hands back. -/
structure RGrd (c d : List P4) (w : World) (r : Ending) (w' : World) : Prop where
  out : ∃ v1 v2 v3, r = .returned (.tuple #[v1, v2, v3, .int .i64 (cmpE c d)]) ∧ (cmpE c d = 0 → QsR w.heap.size w' v1 (comG (toQ c) (toQ d)) ∧ QsR w.heap.size w' v2 (cmpV c d) ∧ QsR w.heap.size w' v3 (cmpA c d).1)
  b : Below w.heap.size w w'
/-- A row of one's own, or the first cell of another one, without room. -/
def GrA (lo S : Nat) (e : TypeId) (size : Nat) (w : World) (v : Value) (n : Nat) (xs : List Value) : Prop :=
  w.ownsRow S e size v n xs ∨ (n = 1 ∧ xs.length = size ∧ ∃ b off, v = .slice (some ⟨b, off, none⟩) 1 1 ∧ lo ≤ b ∧ b < S ∧ S ≤ w.heap.size ∧ ∀ j x, xs[j]? = some x → w.cell? ⟨b, off + j, none⟩ = some x)
theorem owns_lower {w : World} {S B : Nat} {e : TypeId} {size : Nat} {v : Value} {n : Nat} {xs : List Value} (h : w.ownsRow B e size v n xs) (hS : S ≤ B) : w.ownsRow S e size v n xs := by
  obtain ⟨hl, h | ⟨g, cap, cur, hv, hg, hr⟩⟩ := h
  · exact ⟨hl, .inl h⟩
  · exact ⟨hl, .inr ⟨g, cap, cur, hv, Nat.le_trans hS hg, hr⟩⟩
theorem GrA.below {lo S : Nat} {e : TypeId} {size : Nat} {w w' : World} {v : Value} {n : Nat} {xs : List Value} (h : GrA lo S e size w v n xs) (hb : Below w.heap.size w w') : GrA lo S e size w' v n xs := by
  rcases h with h | ⟨h1, h2, b, off, h3, h0, h4, h5, h6⟩
  · exact .inl (owns_below h hb)
  · exact .inr ⟨h1, h2, b, off, h3, h0, h4, Nat.le_trans h5 hb.size, fun j x hj => (hb.cell (p := ⟨b, off + j, none⟩) (by show b < _; omega)).trans (h6 j x hj)⟩
theorem GrA.sl {lo S : Nat} {e : TypeId} {size : Nat} {w : World} {v : Value} {n : Nat} {xs : List Value} (h : GrA lo S e size w v n xs) : ∃ ao cap, v = .slice ao n cap := by
  rcases h with h | ⟨h1, h2, b, off, h3, -⟩
  · obtain ⟨ao, cap, e, -⟩ := SlR.of_owns h
    exact ⟨ao, cap, e⟩
  · exact ⟨_, _, by rw [h3, h1]⟩
theorem GrA.slR {lo S : Nat} {e : TypeId} {size : Nat} {w : World} {v : Value} {n : Nat} {xs : List Value} (h : GrA lo S e size w v n xs) (h1 : lo ≤ S) : SlR lo w v n xs := by
  rcases h with h | ⟨rfl, hl, b, off, rfl, h0, hb, hs, hc⟩
  · exact SlR.mono (SlR.of_owns h) h1
  · exact ⟨_, 1, rfl, Nat.le_refl _, by unfold maxLen; omega, fun _ => ⟨b, off, rfl, h0, by omega, fun j hj => hc j _ (getD_some hj)⟩⟩
theorem wpList_appG {P : Program} {w0 : World} {ops : Array Oper} {rest : List Oper} {o : Oper} {a : Act} {Q : Exit → Act → World → Prop} (hgd : o.guard = none) (s x : Operand) (t : TypeId)
    (ho : o.op = .call { callee := .builtin .append, args := #[s, x], argTypes := #[t, t] })
    (lo S : Nat) (e : TypeId) (z : Value) (size bytes : Nat) (ht : P.underlying t = some (.slice e)) (hi : (P.info? e).map (fun i => (i.zero, i.size, i.bytes)) = some (some z, size, bytes))
    (hzs : z.cells.size = size) (hsz : 0 < size) (te : TypeId)
    (v : Value) (n : Nat) (xs : List Value) (hs : a.eval s = v) (hown : GrA lo S e size w0 v n xs)
    (news : List Value) (H : Nat) (hH : w0.heap.size = H) (hx : a.eval x = .slice (some ⟨H, 0, none⟩) 1 1) (hl : news.length = size) (h1 : ∀ u ∈ news, u.oneCell' = true)
    (h63 : n + 1 ≤ maxLen) (hbytes : (n + 1) * bytes ≤ 140737488355328) (hbase : S ≤ w0.heap.size)
    (h : ∀ g cap w', w'.ownsRow S e size (.slice (some ⟨g, 0, none⟩) (n + 1) cap) (n + 1) (xs ++ news) → Below S w0 w' → wpList P ops Q rest (a.put o.dst (.slice (some ⟨g, 0, none⟩) (n + 1) cap)) w') :
    wpList P ops Q (o :: rest) a (w0.alloc (.cells news.toArray te)) := by
  rcases hown with hown | ⟨rfl, hxl, b, off, hv, -, hb, -, hc⟩
  · exact wpList_appO hgd s x t ho S e z size bytes ht hi hzs hsz te v n xs hs hown news H hH hx hl h1 h63 hbytes hbase fun g cap w' k1 k2 _ _ _ _ => h g cap w' k1 k2
  · subst hH
    obtain ⟨i, hi0, hz, hsize, hby⟩ := info_parts hi
    refine wpList_plain hgd fun K hK => ?_
    have hB := (Below.refl S w0).alloc hbase (.cells news.toArray te)
    obtain ⟨v', w', hr, h2, h3⟩ := run_append_arg_grows (P := P) (w0.alloc (.cells news.toArray te)) t o.type e i z size bytes ht hi0 hz hsize hby hzs hsz ⟨b, off, none⟩ 1 1 xs (by omega) (fun j u hj => by
      rw [Addr.add_lit, hB.cell (p := ⟨b, off + j, none⟩) hb]
      exact hc j u hj) ⟨w0.heap.size, 0, none⟩ 1 1 news (by omega) (cells_news (Blk.new w0 news.toArray te)) (by omega) h63 hbytes
    have h0 := owns_lower (S := S) h2 (by simp; omega)
    obtain ⟨-, ⟨-, h00⟩ | ⟨g, cap, cur, rfl, -⟩⟩ := h2
    · omega
    unfold Oper.wp execOp
    simp only [ho, resolve, invoke, builtin, Sem.run_bind, Sem.run_pure, Result.andThen_ok, List.map_toArray, List.map_cons, List.map_nil, hs, hv, hx, hr]
    exact hK _ _ (h g cap w' h0 (hB.grown h3 (by simp; omega) (fun k hk => by cases hk)))
theorem vals_get {A C : List Pt} {l o : List Rat} {k : Nat} (h : valsO (dffO A C) l k = some o) {q : Rat} (hq : q ∈ o) : fits q := by
  obtain ⟨i, hi, rfl⟩ := List.getElem_of_mem hq
  have hl := valsO_len h
  have hg := valsO_get h i (by omega)
  rw [List.getD_eq_getElem?_getD (l := o), List.getElem?_eq_getElem hi] at hg
  unfold dffO at hg
  cases hc : atO C (l.getD i 0) with
  | none => rw [hc] at hg; cases hg
  | some z =>
    rw [hc] at hg
    simp only [Option.bind_some] at hg
    cases ha : atO A (l.getD i 0) with
    | none => rw [ha] at hg; cases hg
    | some y =>
      rw [ha] at hg
      exact (fitO_fits hg).1
theorem comG_one {A C : List Pt} (hA : CV A) (hC : CV C) : 1 ≤ (comG A C).length := by
  have h2 := hA.two
  have h3 := hC.two
  have hm : (0 : Rat) ∈ comG A C := by
    refine ((gridQ_grid _ _).2 _).2 ⟨List.mem_append_left _ ?_, ?_⟩
    · have h0 : A[0]'(by omega) = (0, 0) := by
        have := hA.first
        rw [List.getD_eq_getElem?_getD, List.getElem?_eq_getElem (by omega)] at this
        exact this
      exact List.mem_map.2 ⟨A[0]'(by omega), List.getElem_mem _, by rw [h0]⟩
    · have ha : (0 : Rat) ≤ (endQ A).1 := (hA.nonneg (show A.length - 1 < A.length by omega)).1
      have hc : (0 : Rat) ≤ (endQ C).1 := (hC.nonneg (show C.length - 1 < C.length by omega)).1
      unfold lesQ
      split
      · exact hc
      · exact ha
  exact List.length_pos_of_mem hm
/-- The signs, as the reference compares them. -/
theorem chg_num (p q : Rat) : chgB p q = decide (p.num < 0 ∧ 0 < q.num ∨ 0 < p.num ∧ q.num < 0) := by
  have key : ∀ x : Rat, (x < 0 ↔ x.num < 0) ∧ (0 < x ↔ 0 < x.num) := fun x => by
    have a1 := Rat.num_nonneg (q := x)
    have h := Rat.num_nonneg (q := -x)
    rw [Rat.neg_num] at h
    refine ⟨?_, ?_⟩
    · constructor <;> intro h1 <;> grind
    · constructor <;> intro h1 <;> grind
  unfold chgB
  rw [decide_eq_decide, (key p).1, (key p).2, (key q).1, (key q).2]

end Go.Proofs.YtfkclcoipadhmaaGreatDoor

/- Walk of trankref02.Grid. -/
namespace Go.Proofs.YtfkclcoipadhmaaGreatDoor
open Go.RowKit
attribute [local irreducible] seqS seqST walkV walkJ

set_option maxHeartbeats 16000000 in
set_option maxRecDepth 100000 in
theorem rGrid_any (c d : List P4) (vc vd : Value) (w : World) (hc : P4R 0 w vc c) (hd : P4R 0 w vd d) (hrc : RV c) (hrd : RV d) :
    Calls Tryz.prog 73 #[vc, vd] w fun r w' => RGrd c d w r w' := by
  have pc := P4R.toQ hc hrc
  have pd := P4R.toQ hd hrd
  have hvc := rv_cv hrc
  have hvd := rv_cv hrd
  obtain ⟨ac, cc, rfl, -⟩ := id hc
  obtain ⟨ad, cd, rfl, -⟩ := id hd
  have lc := toQ_len c
  have ld := toQ_len d
  have hris : Rising (comG (toQ c) (toQ d)) := (gridQ_grid _ _).1
  have hce : comE c d = if 48 < (comG (toQ c) (toQ d)).length then 3 else 0 := if_pos ⟨hrc, hrd⟩
  have hse : cmpE c d = if comE c d = 0 then (match cmpG c d with | some g => if 48 < g.1.length then 3 else 0 | none => 5) else comE c d := rfl
  have hcd : cmpD c d = valsO (dffO (toQ c) (toQ d)) (comG (toQ c) (toQ d)) (comG (toQ c) (toQ d)).length := rfl
  have hcg : cmpG c d = (cmpD c d).bind fun l => grdO (comG (toQ c) (toQ d)) l (comG (toQ c) (toQ d)).length := rfl
  have hca : cmpA c d = (cmpG c d).getD ([], []) := rfl
  have hcv : cmpV c d = (cmpD c d).getD [] := rfl
  obtain ⟨E, hE⟩ : ∃ E, cmpE c d = E := ⟨_, rfl⟩
  have HEQ : Hid (∀ r w', (∃ v1 v2 v3, r = .returned (.tuple #[v1, v2, v3, .int .i64 E]) ∧ (E = 0 → QsR w.heap.size w' v1 (comG (toQ c) (toQ d)) ∧ QsR w.heap.size w' v2 (cmpV c d) ∧ QsR w.heap.size w' v3 (cmpA c d).1)) → Below w.heap.size w w' → RGrd c d w r w') := hid (fun r w' h1 h2 => ⟨by rw [hE]; exact h1, h2⟩)
  rw [hce, hE] at hse
  have HMEM := hid (fun x hx => comG_mem (x := x) hvc hvd hx)
  have HVC := hid hvc
  have HVD := hid hvd
  have HTWO : Hid (1 ≤ (comG (toQ c) (toQ d)).length) := hid (comG_one hvc hvd)
  suffices h : Calls Tryz.prog 73 #[.slice ac c.length cc, .slice ad d.length cd] w fun r w' => (∃ v1 v2 v3, r = .returned (.tuple #[v1, v2, v3, .int .i64 E]) ∧ (E = 0 → QsR w.heap.size w' v1 (comG (toQ c) (toQ d)) ∧ QsR w.heap.size w' v2 (cmpV c d) ∧ QsR w.heap.size w' v3 (cmpA c d).1)) ∧ Below w.heap.size w w' from h.mono fun r w' hh => HEQ.out r w' hh.1 hh.2
  clear HEQ hce hE hc hd hrc hrd
  generalize cmpG c d = CG at hse hcg hca
  generalize cmpA c d = CA at hca ⊢
  generalize cmpV c d = CV' at hcv ⊢
  generalize cmpD c d = CD at hcd hcg hcv
  generalize toQ c = C at pc hvc lc hcd hcg hse HMEM HVC hris HTWO ⊢
  generalize toQ d = D at pd hvd ld hcd hcg hse HMEM HVD hris HTWO ⊢
  rw [← lc] at pc ⊢
  rw [← ld] at pd ⊢
  have GR := hid (grounds_any C D _ _ w hvc hvd pc pd)
  obtain ⟨G, hG⟩ : ∃ G, comG C D = G := ⟨_, rfl⟩
  rw [hG] at GR hse hcd hcg HMEM hris HTWO ⊢
  have HRIS := hid hris
  clear lc ld hG hvc hvd hris
  go_enter Tryz.func73, Tryz.ntmps73
  go_wp2_with fail
  refine GR.out.mono ?_
  rintro r w3 ⟨⟨vg, rfl, hg⟩, hB⟩
  have pc3 := hid (pc.below hB)
  have pd3 := hid (pd.below hB)
  have HQG := hid hg
  obtain ⟨ag, cg, rfl, hcg1, hcg2, hgg⟩ := hg
  unfold maxLen at hcg2
  obtain ⟨n, hn⟩ : ∃ n, G.length = n := ⟨_, rfl⟩
  have HN := hid hn
  rw [hn] at hcg1 hse hcd hcg HTWO HQG ⊢
  have HGG := hid hgg
  clear GR pc pd hn hgg
  by_cases h48 : 48 < n
  case pos =>
    have h48i : (48 : Int) < (n : Int) := by omega
    have e1 : E = 3 := by
      rw [hse, if_pos h48]
      rfl
    subst e1
    clear hse hcd hcg hca hcv
    go_wp2
    refine bodyPost_ret (v := .tuple #[.slice none 0 0, .slice none 0 0, .slice none 0 0, .int .i64 3]) ?_ rfl ?_
    · simp [results, Tryz.results73, go_sem]
    · first
      | exact ⟨⟨_, _, _, rfl, fun h => by cases h⟩, hB⟩
      | exact ⟨⟨_, _, _, rfl⟩, hB⟩
  have h48i : ¬ (48 : Int) < (n : Int) := by omega
  have e1 : E = (match (generalizing := false) CG with | some g => if 48 < g.1.length then 3 else 0 | none => 5) := by rw [hse, if_neg h48]; rfl
  have HX : Hid (valsO (dffO C D) G n = none → E = 5) := hid (fun hh => by rw [e1, hcg, hcd, hh]; rfl)
  have HY : Hid (∀ o, valsO (dffO C D) G n = some o → CV' = o ∧ (grdO G o n = none → E = 5) ∧ ∀ g, grdO G o n = some g → CA = g ∧ E = if 48 < g.1.length then 3 else 0) := hid (fun o hh => by
    refine ⟨by rw [hcv, hcd, hh]; rfl, fun h2 => ?_, fun g h2 => ⟨?_, ?_⟩⟩
    · rw [e1, hcg, hcd, hh, Option.bind_some, h2]
    · rw [hca, hcg, hcd, hh, Option.bind_some, h2]; rfl
    · rw [e1, hcg, hcd, hh, Option.bind_some, h2])
  have HB := hid hB
  obtain ⟨B, hBs⟩ : ∃ k, w3.heap.size = k := ⟨_, rfl⟩
  have HBS := hid hBs
  clear e1 hse hcd hcg hca hcv hB hBs
  go_wp2_with fail
  go_loopw [9, 28] (fun y x wr => ∃ (i : Nat) (u : Value) (o : List Rat), x = .int .i64 i ∧ y = u ∧ i ≤ n ∧ Hid (valsO (dffO C D) G i = some o) ∧ o.length = i ∧ Hid (wr.ownsRow B 31 2 u i (frsC o)) ∧ Below B w3 wr ∧ B ≤ wr.heap.size) (fun _ x _ => n - (intOf x).toNat)
  case atStart => exact ⟨0, _, [], rfl, rfl, Nat.zero_le _, hid rfl, rfl, hid (World.ownsRow_nil _ _ _ _), Below.refl _ _, Nat.le_of_eq HBS.out.symm⟩
  case round =>
    obtain ⟨i, u, o, rfl, rfl, hi, HV, hol, HO, hbel, hsr⟩ := hrel
    have hu := HO.out
    obtain ⟨au, cu, hue, -⟩ := id (SlR.of_owns hu)
    subst hue
    by_cases hiL : i < n
    case pos =>
      have hi2 : (i : Int) < (n : Int) := by omega
      obtain ⟨b, off, rfl, hb, x0, x1⟩ := q_cell HGG.out (show i < G.length by rw [HN.out]; exact hiL)
      replace x0 := (hbel.cell (p := ⟨b, off + i * 2, none⟩) (by show b < B; rw [← HBS.out]; exact hb)).trans x0
      replace x1 := (hbel.cell (p := ⟨b, off + i * 2 + 1, none⟩) (by show b < B; rw [← HBS.out]; exact hb)).trans x1
      obtain ⟨i1, i2, hxf⟩ := HMEM.out (G.getD i 0) (getD_memQ (by rw [HN.out]; exact hiL))
      have hyes := fun q h2 => valsO_some (f := dffO C D) (p := q) HV.out h2
      have hno := fun h => valsO_stay (valsO_none (f := dffO C D) (l := G) (k := i) h) (show i + 1 ≤ n by omega)
      have hdf : dffO C D (G.getD i 0) = (atO D (G.getD i 0)).bind fun z => (atO C (G.getD i 0)).bind fun y => fitO (z - y) := rfl
      obtain ⟨x, hx⟩ : ∃ x, G.getD i 0 = x := ⟨_, rfl⟩
      rw [hx] at x0 x1 i1 i2 hxf hyes hno hdf
      have AT1 := hid (fun w h => rat_any D x (.slice ad D.length cd) HVD.out i2 hxf w h)
      have AT2 := hid (fun w h => rat_any C x (.slice ac C.length cc) HVC.out i1 hxf w h)
      have hfy := fun y (h : atO C x = some y) => at_fits HVC.out h i1
      have hfz := fun z (h : atO D x = some z) => at_fits HVD.out h i2
      obtain ⟨oy, hoy⟩ : ∃ o, atO C x = o := ⟨_, rfl⟩
      obtain ⟨oz, hoz⟩ : ∃ o, atO D x = o := ⟨_, rfl⟩
      rw [hoy] at AT2 hdf hfy
      rw [hoz] at AT1 hdf hfz
      rw [hdf] at hyes hno
      have HS1 := hid hyes
      have HS2 := hid hno
      have HFY := hid hfy
      have HFZ := hid hfz
      obtain ⟨n1, hn1⟩ : ∃ z, x.num = z := ⟨_, rfl⟩
      obtain ⟨d1, hd1⟩ : ∃ z, (x.den : Int) = z := ⟨_, rfl⟩
      unfold frQ at AT1 AT2
      rw [hn1] at x0
      rw [hd1] at x1
      rw [hn1, hd1] at AT1 AT2
      obtain ⟨y1, hy1⟩ : ∃ z, oN oy = z := ⟨_, rfl⟩
      obtain ⟨y2, hy2⟩ : ∃ z, oD oy = z := ⟨_, rfl⟩
      obtain ⟨y3, hy3⟩ : ∃ z, oE oy = z := ⟨_, rfl⟩
      obtain ⟨z1, hz1⟩ : ∃ z, oN oz = z := ⟨_, rfl⟩
      obtain ⟨z2, hz2⟩ : ∃ z, oD oz = z := ⟨_, rfl⟩
      obtain ⟨z3, hz3⟩ : ∃ z, oE oz = z := ⟨_, rfl⟩
      rw [hy1, hy2, hy3] at AT2
      rw [hz1, hz2, hz3] at AT1
      have HY1 := hid hy1
      have HY2 := hid hy2
      have HY3 := hid hy3
      have HZ1 := hid hz1
      have HZ2 := hid hz2
      have HZ3 := hid hz3
      clear hyes hno hdf hfy hfz hxf hx hoy hoz hn1 hd1 hy1 hy2 hy3 hz1 hz2 hz3 i1 i2 hu
      have bA := alloc_below wr (.cells #[.int .i64 n1, .int .i64 d1] 31)
      have kx := Blk.new wr #[.int .i64 n1, .int .i64 d1] 31
      have hoA := owns_below HO.out bA
      have hsA := Nat.le_trans hsr bA.size
      have hbA := hbel.trans (bA.mono hsr)
      go_wp2_with fail
      refine (AT1.out _ (PsR.below pd3.out (by rw [HBS.out]; exact hbA))).mono ?_
      rintro r w5 ⟨rfl, hb5⟩
      have kx5 := kx.below hb5
      have ho5 := owns_below hoA hb5
      have hs5 := Nat.le_trans hsA hb5.size
      have hb5' := hbA.trans (hb5.mono hsA)
      have HOW := hid (fun k hk => (ho5.lt k hk).2)
      clear AT1 bA kx hbA hb5 x0 x1 hbel hoA hsA HO hsr
      have bC := alloc_below w5 (.cells #[.int .i64 z1, .int .i64 z2] 31)
      have kZ := Blk.new w5 #[.int .i64 z1, .int .i64 z2] 31
      have kx6 := kx5.below bC
      have ho6 := owns_below ho5 bC
      have hb6 := hb5'.trans (bC.mono hs5)
      have hs6 := Nat.le_trans hs5 bC.size
      have c0 := kx6.look 0 rfl
      have c1 := kx6.look 1 rfl
      have hgz : B ≤ w5.heap.size := hs5
      go_wp2_with fail
      refine (AT2.out _ (PsR.below pc3.out (by rw [HBS.out]; exact hb6))).mono ?_
      rintro r w7 ⟨rfl, hb7⟩
      have kZ7 := kZ.below hb7
      have ho7 := owns_below ho6 hb7
      have hs7 := Nat.le_trans hs6 hb7.size
      have hb7' := hb6.trans (hb7.mono hs6)
      have hlz := kZ7.lt
      clear AT2 bC kZ kx6 hb6 hb7 c0 c1 kx5 hb5' ho6 ho5 hs6 hs5
      have bD := alloc_below w7 (.cells #[.int .i64 y1, .int .i64 y2] 31)
      have kY := Blk.new w7 #[.int .i64 y1, .int .i64 y2] 31
      have kZ8 := kZ7.below bD
      have ho8 := owns_below ho7 bD
      have hs8 := Nat.le_trans hs7 bD.size
      have hb8 := hb7'.trans (bD.mono hs7)
      have hBf : Below w.heap.size w (w7.alloc (.cells #[.int .i64 y1, .int .i64 y2] 31)) := HB.out.trans (hb8.mono (by rw [← HBS.out]; exact HB.out.size))
      clear bD hb7' ho7
      cases oz with
      | none =>
        obtain rfl : 5 = z3 := HZ3.out
        have hnone := HS2.out rfl
        clear HS1 HS2 kY kZ8 kZ7 ho8
        obtain e1 := HX.out hnone
        subst e1
        clear hnone HX
        go_wp2
        refine bodyPost_ret (v := .tuple #[.slice none 0 0, .slice none 0 0, .slice none 0 0, .int .i64 5]) ?_ rfl ?_
        · simp [results, Tryz.results73, go_sem]
        · first
          | exact ⟨⟨_, _, _, rfl, fun h => by cases h⟩, hBf⟩
          | exact ⟨⟨_, _, _, rfl⟩, hBf⟩
      | some z =>
        obtain rfl : 0 = z3 := HZ3.out
        cases oy with
        | none =>
          obtain rfl : 5 = y3 := HY3.out
          have hnone := HS2.out rfl
          clear HS1 HS2 kY kZ8 kZ7 ho8
          obtain e1 := HX.out hnone
          subst e1
          clear hnone HX
          go_wp2
          refine bodyPost_ret (v := .tuple #[.slice none 0 0, .slice none 0 0, .slice none 0 0, .int .i64 5]) ?_ rfl ?_
          · simp [results, Tryz.results73, go_sem]
          · first
            | exact ⟨⟨_, _, _, rfl, fun h => by cases h⟩, hBf⟩
            | exact ⟨⟨_, _, _, rfl⟩, hBf⟩
        | some y =>
          obtain rfl : 0 = y3 := HY3.out
          have SB := hid (fun w => rSub_any z y (HFZ.out z rfl) (HFY.out y rfl) w)
          have HQ1 : Hid (∀ q, fitO (z - y) = some q → valsO (dffO C D) G (i + 1) = some (o ++ [q])) := hid (fun q h => HS1.out q h)
          have HQ2 : Hid (fitO (z - y) = none → valsO (dffO C D) G n = none) := hid (fun h => HS2.out h)
          have hfo := fit_o (z - y)
          have hff := fun q (h : fitO (z - y) = some q) => (fitO_fits h).2
          rw [hfo.1, hfo.2.1, hfo.2.2] at SB
          generalize fitO (z - y) = oq at SB HQ1 HQ2 hff
          unfold frQ frV at SB
          rw [show y.num = y1 from HY1.out, show (y.den : Int) = y2 from HY2.out, show z.num = z1 from HZ1.out, show (z.den : Int) = z2 from HZ2.out] at SB
          have c0 := kY.look 0 rfl
          have c1 := kY.look 1 rfl
          have c2 := kZ8.look 0 rfl
          have c3 := kZ8.look 1 rfl
          obtain ⟨q1, hq1⟩ : ∃ z, oN oq = z := ⟨_, rfl⟩
          obtain ⟨q2, hq2⟩ : ∃ z, oD oq = z := ⟨_, rfl⟩
          obtain ⟨q3, hq3⟩ : ∃ z, oE oq = z := ⟨_, rfl⟩
          rw [hq1, hq2, hq3] at SB
          have hls : w5.heap.size < w7.heap.size + 1 := by omega
          clear hfo hff HS1 HS2 kZ7
          go_wp2_with fail
          refine (SB.out _).mono ?_
          rintro r w9 ⟨rfl, hb9⟩
          have kZ9 := kZ8.below hb9
          have ho9 := owns_below ho8 hb9
          have hs9 := Nat.le_trans hs8 hb9.size
          have hb9' := hb8.trans (hb9.mono hs8)
          have hB9 := hBf.trans (hb9.mono hBf.size)
          obtain ⟨gz, hgze⟩ : ∃ g, w5.heap.size = g := ⟨_, rfl⟩
          rw [hgze] at kZ9 hgz HOW ⊢
          clear SB c0 c1 c2 c3 kY kZ8 ho8 hs8 hb8 hBf hb9 hgze hls hlz
          have f2 := kZ9.frozen
          have e0 := kZ9.look 0 rfl
          have e1 := kZ9.look 1 rfl
          have hwB : w.heap.size ≤ gz := Nat.le_trans HB.out.size (by rw [HBS.out]; exact hgz)
          cases oq with
          | none =>
            obtain rfl : 5 = q3 := hq3
            obtain rfl : 0 = q1 := hq1
            obtain rfl : 0 = q2 := hq2
            have hnone := HQ2.out rfl
            have hBf := (hB9.setCell (p := ⟨gz, 0, none⟩) hwB (.int .i64 0)).setCell (p := ⟨gz, 1, none⟩) hwB (.int .i64 0)
            clear HQ1 HQ2 hB9 ho9
            obtain e1 := HX.out hnone
            subst e1
            clear hnone HX
            go_wp2
            refine bodyPost_ret (v := .tuple #[.slice none 0 0, .slice none 0 0, .slice none 0 0, .int .i64 5]) ?_ rfl ?_
            · simp [results, Tryz.results73, go_sem]
            · first
              | exact ⟨⟨_, _, _, rfl, fun h => by cases h⟩, hBf⟩
              | exact ⟨⟨_, _, _, rfl⟩, hBf⟩
          | some q =>
            obtain rfl : 0 = q3 := hq3
            have HNX := hid (HQ1.out q rfl)
            have HQN : Hid (q.num = q1) := hid hq1
            have HQD : Hid ((q.den : Int) = q2) := hid hq2
            have k24 := (kZ9.set 0 (.int .i64 q1)).set 1 (.int .i64 q2)
            have c0 := k24.look 0 rfl
            have c1 := k24.look 1 rfl
            have hno : (Value.slice au i cu).ownBlock ≠ some gz := fun e => Nat.lt_irrefl _ (HOW.out gz e)
            have HOF := hid (ownsRow_setCell_other (ownsRow_setCell_other ho9 (a := ⟨gz, 0, none⟩) hno (.int .i64 q1)) (a := ⟨gz, 1, none⟩) hno (.int .i64 q2))
            have hbF := (hb9'.setCell (p := ⟨gz, 0, none⟩) hgz (.int .i64 q1)).setCell (p := ⟨gz, 1, none⟩) hgz (.int .i64 q2)
            have hsF : B ≤ ((w9.setCell ⟨gz, 0, none⟩ (.int .i64 q1)).setCell ⟨gz, 1, none⟩ (.int .i64 q2)).heap.size := by simpa [World.setCell] using hs9
            clear HQ1 HQ2 hB9 ho9 hno k24 kZ9 hb9' hs9 hq1 hq2
            go_wp2_with (first
              | (at_builtin; refine wpList_appO rfl (.tmp 59) (.tmp 61) _ rfl B 31 (frV 0 0) 2 16 Tryz.underlying37 infoFrac rfl (by decide) 31 _ _ _ rfl HOF.out [.int .i64 q1, .int .i64 q2] _ (by first | rfl | simp) rfl rfl (by simp [Value.oneCell']) (by unfold maxLen; omega) (by omega) hsF ?_; intro g5 gcap w11 ho11 hb11 _ _ hg11 _))
            rw [← show frsC (o ++ [q]) = frsC o ++ [.int .i64 q1, .int .i64 q2] from by rw [frsC_append o [q], ← HQN.out, ← HQD.out]; rfl] at ho11
            have HO11 := hid ho11
            have hs11 := Nat.le_trans hsF hb11.size
            have hb11' := hbF.trans hb11
            clear ho11 hb11 hbF hsF HOF c0 c1 f2 e0 e1
            go_roundw
            case rel => exact ⟨i + 1, _, o ++ [q], by go_num, rfl, by omega, HNX, by rw [List.length_append, hol]; rfl, HO11, hb11', hs11⟩
            case measure => simp [intOf]; omega
    case neg =>
      obtain rfl : n = i := by omega
      have hi2 : ¬ (n : Int) < (n : Int) := by omega
      obtain ⟨hcv, hg5, hgy⟩ := HY.out o HV.out
      have HF : Hid (∀ q ∈ o, fits q) := hid (fun q hq => vals_get HV.out hq)
      have HOL := hid hol
      have HG5 := hid hg5
      have HGY := hid hgy
      have hcv' := hcv.symm
      subst hcv'
      have HBF := hid (HB.out.trans (hbel.mono (by rw [← HBS.out]; exact HB.out.size)))
      have h1n := HTWO.out
      have hqg := SlR.below HQG.out (w' := wr) (by rw [HBS.out]; exact hbel)
      have hlow : w.heap.size ≤ B := by rw [← HBS.out]; exact HB.out.size
      clear HX HY hi hg5 hgy HV hbel HGG hol HTWO HQG
      generalize wr = wp at *
      obtain ⟨S, hS⟩ : ∃ k, wp.heap.size = k := ⟨_, rfl⟩
      rw [hS] at hsr
      have HS := hid hS
      have HQG := hid hqg
      obtain ⟨ag2, cg2, heg, hcg3, hcg4, hgg⟩ := hqg
      obtain ⟨rfl, -, rfl⟩ : ag = ag2 ∧ n = G.length ∧ cg = cg2 := by simpa using heg
      obtain ⟨b, off, hag, hlo, hb, x0, x1⟩ := q_cellB hgg (show 0 < G.length by rw [HN.out]; omega)
      subst hag
      rw [hS] at hb
      have HGG := hid hgg
      have hc1 : (1 : Int) ≤ (cg : Int) := by omega
      have hst : GrA w.heap.size S 31 2 wp (.slice (some ⟨b, off, none⟩) 1 1) 1 (frsC ([] ++ [G.getD 0 0])) := .inr ⟨rfl, rfl, b, off, rfl, hlo, hb, Nat.le_of_eq hS.symm, fun j x hj => by
        rcases j with _ | _ | j
        · rw [show x = _ from (Option.some.inj hj).symm]
          rw [Nat.zero_mul, Nat.add_zero] at x0
          exact x0
        · rw [show x = _ from (Option.some.inj hj).symm]
          rw [Nat.zero_mul, Nat.add_zero] at x1
          exact x1
        · simp [frsC, frC] at hj⟩
      have HST := hid hst
      clear heg hst x0 x1 hgg hS
      go_wp2_with fail
      go_loopw [16, 17] (fun y x wx => ∃ (j : Nat) (u : Value) (g : List Rat × List Rat), x = .int .i64 j ∧ y = u ∧ 1 ≤ j ∧ j ≤ n ∧ Hid (grdO G o (j - 1) = some g) ∧ g.1.length ≤ 2 * j ∧ Hid (GrA w.heap.size S 31 2 wx u (g.1.length + 1) (frsC (g.1 ++ [G.getD (j - 1) 0]))) ∧ Below S wp wx) (fun _ x _ => n - (intOf x).toNat)
      case atStart => exact ⟨1, _, ([], []), rfl, rfl, Nat.le_refl _, by omega, hid rfl, by simp, HST, Below.refl _ _⟩
      case round =>
        obtain ⟨j, u, g, rfl, rfl, hj1, hj2, HGR, hgl, HGA, hbw⟩ := hrel
        obtain ⟨a7, c7, hu7⟩ := HGA.out.sl
        subst hu7
        have hsw : S ≤ wr.heap.size := by rw [← HS.out]; exact hbw.size
        have hjk : j - 1 + 1 = j := by omega
        have hbw' : Below wp.heap.size wp wr := by rw [HS.out]; exact hbw
        by_cases hjn : j < n
        case pos =>
          have hj3 : (j : Int) < (n : Int) := by omega
          have hO9 := SlR.of_owns HO.out
          obtain ⟨ao, co, heo, -, -, hcl⟩ := hO9
          obtain ⟨rfl, -, rfl⟩ : au = ao ∧ True ∧ cu = co := by simpa using heo
          have hol := HOL.out
          obtain ⟨bo, oo, he1, hbo, y0, y1⟩ := q_cell hcl (show j < o.length by omega)
          obtain ⟨bo', oo', he2, -, y2, y3⟩ := q_cell hcl (show j - 1 < o.length by omega)
          subst he1
          obtain ⟨rfl, rfl⟩ : bo = bo' ∧ oo = oo' := by simpa using he2
          obtain ⟨bl, ol, he3, hbl, x0, x1⟩ := q_cell HGG.out (show j < G.length by rw [HN.out]; exact hjn)
          obtain ⟨rfl, rfl⟩ : b = bl ∧ off = ol := by simpa using he3
          obtain ⟨bl', ol', he4, -, x2, x3⟩ := q_cell HGG.out (show j - 1 < G.length by rw [HN.out]; omega)
          obtain ⟨rfl, rfl⟩ : b = bl' ∧ off = ol' := by simpa using he4
          rw [HS.out] at hbo hbl
          replace y0 := (hbw.cell (p := ⟨bo, oo + j * 2, none⟩) hbo).trans y0
          replace y1 := (hbw.cell (p := ⟨bo, oo + j * 2 + 1, none⟩) hbo).trans y1
          replace y2 := (hbw.cell (p := ⟨bo, oo + (j - 1) * 2, none⟩) hbo).trans y2
          replace y3 := (hbw.cell (p := ⟨bo, oo + (j - 1) * 2 + 1, none⟩) hbo).trans y3
          replace x0 := (hbw.cell (p := ⟨b, off + j * 2, none⟩) hbl).trans x0
          replace x1 := (hbw.cell (p := ⟨b, off + j * 2 + 1, none⟩) hbl).trans x1
          replace x2 := (hbw.cell (p := ⟨b, off + (j - 1) * 2, none⟩) hbl).trans x2
          replace x3 := (hbw.cell (p := ⟨b, off + (j - 1) * 2 + 1, none⟩) hbl).trans x3
          have hfp := HF.out (o.getD (j - 1) 0) (getD_memQ (by omega))
          have hfq := HF.out (o.getD j 0) (getD_memQ (by omega))
          have hfx := (HMEM.out (G.getD (j - 1) 0) (getD_memQ (by rw [HN.out]; omega))).2.2
          have hfz := (HMEM.out (G.getD j 0) (getD_memQ (by rw [HN.out]; exact hjn))).2.2
          have hyes := fun u h1 h2 => grdO_yes (d := o) (u := u) HGR.out (by rw [hjk, HN.out]; exact hjn) h1 h2
          have hbad := fun h1 h2 => grdO_bad (l := G) (d := o) (k := j - 1) (by rw [hjk, HN.out]; exact hjn) h1 h2
          have hgno := fun h1 => grdO_no (d := o) HGR.out h1
          rw [hjk] at hyes hbad hgno
          have hch := chg_num (o.getD (j - 1) 0) (o.getD j 0)
          have hne := fun h => chg_ne (d := o.getD (j - 1) 0) (f := o.getD j 0) h
          have wS : IntKind.i64.wrap ((j : Int) - 1) = ((j - 1 : Nat) : Int) := by rw [IntWalk.i64_left]; unfold wrap64; omega
          have wJ : IntKind.i64.wrap ((j : Int) + 1) = ((j + 1 : Nat) : Int) := by rw [IntWalk.i64_left]; unfold wrap64; omega
          have hj5 : 0 ≤ ((j - 1 : Nat) : Int) := Int.natCast_nonneg _
          have hj6 : ((j - 1 : Nat) : Int) < (n : Int) := by omega
          obtain ⟨p, hp⟩ : ∃ z, o.getD (j - 1) 0 = z := ⟨_, rfl⟩
          obtain ⟨q, hq⟩ : ∃ z, o.getD j 0 = z := ⟨_, rfl⟩
          obtain ⟨x, hx⟩ : ∃ z, G.getD (j - 1) 0 = z := ⟨_, rfl⟩
          obtain ⟨z, hz⟩ : ∃ z, G.getD j 0 = z := ⟨_, rfl⟩
          rw [hp] at y2 y3 hfp hyes hbad hgno hch hne
          rw [hq] at y0 y1 hfq hyes hbad hgno hch hne
          rw [hx] at x2 x3 hfx hyes hbad hgno HGA
          rw [hz] at x0 x1 hfz hyes hbad
          have HZE := hid hz
          have CR := hid (fun h w => rcrossing_any x z p q hfx hfz hfp hfq (hne h) w)
          have HYES := hid hyes
          have HBAD := hid hbad
          have HNO := hid hgno
          unfold frQ at CR
          obtain ⟨p1, hp1⟩ : ∃ z, p.num = z := ⟨_, rfl⟩
          obtain ⟨p2, hp2⟩ : ∃ z, (p.den : Int) = z := ⟨_, rfl⟩
          obtain ⟨q1, hq1⟩ : ∃ z, q.num = z := ⟨_, rfl⟩
          obtain ⟨q2, hq2⟩ : ∃ z, (q.den : Int) = z := ⟨_, rfl⟩
          obtain ⟨e1, he1⟩ : ∃ z, x.num = z := ⟨_, rfl⟩
          obtain ⟨e2, he2⟩ : ∃ z, (x.den : Int) = z := ⟨_, rfl⟩
          obtain ⟨z1, hz1⟩ : ∃ y, z.num = y := ⟨_, rfl⟩
          obtain ⟨z2, hz2⟩ : ∃ y, (z.den : Int) = y := ⟨_, rfl⟩
          rw [hp1] at y2 hch CR
          rw [hp2] at y3 CR
          rw [hq1] at y0 hch CR
          rw [hq2] at y1 CR
          rw [he1] at x2 CR
          rw [he2] at x3 CR
          rw [hz1] at x0 CR
          rw [hz2] at x1 CR
          have HZN := hid hz1
          have HZD := hid hz2
          obtain ⟨cb, hcb⟩ : ∃ c, chgB p q = c := ⟨_, rfl⟩
          rw [hcb] at hch
          have HCH := hid hch
          have HCB := hid hcb
          clear hp hq hx hz hyes hbad hgno hne hp1 hp2 hq1 hq2 he1 he2 hz1 hz2 hfp hfq hfx hfz hcl heo hch hcb hol
          have hc := HCH.out
          by_cases h1 : p1 < 0
          case pos =>
            have h1' : ¬ 0 < p1 := by omega
            by_cases h2 : 0 < q1
            case pos =>
              have e : cb = true := by rw [hc]; exact decide_eq_true (.inl ⟨h1, h2⟩)
              subst e
              clear hc HCH
              have CR2 := hid (CR.out HCB.out)
              have HBD := hid (HBAD.out HCB.out)
              have HYS := hid (fun u h => HYES.out u HCB.out h)
              have HCF := hid (fun u (h : crsO x z p q = some u) => (crsO_val h).2)
              generalize crsO x z p q = oc at CR2 HBD HYS HCF
              obtain ⟨s1, hs1⟩ : ∃ z, oN oc = z := ⟨_, rfl⟩
              obtain ⟨t1, ht1⟩ : ∃ z, oD oc = z := ⟨_, rfl⟩
              obtain ⟨u1, hu1⟩ : ∃ z, oE oc = z := ⟨_, rfl⟩
              rw [hs1, ht1, hu1] at CR2
              have HS1 := hid hs1
              have HT1 := hid ht1
              have HU1 := hid hu1
              clear hs1 ht1 hu1 CR HBAD HYES HNO
              go_wp2_with fail
              have hd0 := (Below.refl wr.heap.size wr).drew
              have z0 := fun y : SubT (Below wr.heap.size) wr.drew => ((hd0.trans y.b).cell (p := ⟨b, off + (j - 1) * 2, none⟩) (show b < wr.heap.size by omega)).trans x2
              have z1' := fun y : SubT (Below wr.heap.size) wr.drew => ((hd0.trans y.b).cell (p := ⟨b, off + (j - 1) * 2 + 1, none⟩) (show b < wr.heap.size by omega)).trans x3
              have z2' := fun y : SubT (Below wr.heap.size) wr.drew => ((hd0.trans y.b).cell (p := ⟨b, off + j * 2, none⟩) (show b < wr.heap.size by omega)).trans x0
              have z3 := fun y : SubT (Below wr.heap.size) wr.drew => ((hd0.trans y.b).cell (p := ⟨b, off + j * 2 + 1, none⟩) (show b < wr.heap.size by omega)).trans x1
              have z4 := fun y : SubT (Below wr.heap.size) wr.drew => ((hd0.trans y.b).cell (p := ⟨bo, oo + (j - 1) * 2, none⟩) (show bo < wr.heap.size by omega)).trans y2
              have z5 := fun y : SubT (Below wr.heap.size) wr.drew => ((hd0.trans y.b).cell (p := ⟨bo, oo + (j - 1) * 2 + 1, none⟩) (show bo < wr.heap.size by omega)).trans y3
              have z6 := fun y : SubT (Below wr.heap.size) wr.drew => ((hd0.trans y.b).cell (p := ⟨bo, oo + j * 2, none⟩) (show bo < wr.heap.size by omega)).trans y0
              have z7 := fun y : SubT (Below wr.heap.size) wr.drew => ((hd0.trans y.b).cell (p := ⟨bo, oo + j * 2 + 1, none⟩) (show bo < wr.heap.size by omega)).trans y1
              refine wp_walkJ (T := Below (wr.heap.size)) (belowV_pre _) (.rd 0 (.rd 1 (.rd 2 (.rd 3 (.rd 4 (.rd 5 (.rd 6 (.rd 7 (.rd 8 (.rd 9 (.rd 10 (.rd 11 (.rd 12 (.rd 13 (.rd 14 (.rd 15 (.rd 16 (.rd 17 (.inv [18, 19, 20, 21, 22, 23, 24]))))))))))))))))))) (by kernel_rfl) rfl (by kernel_rfl) (by kernel_rfl) ?_
              iterate 18 (refine walkJ_rd rfl (fun K hK => ?_); go_simp; refine hK _ ?_; clear hK K)
              clear z0 z1' z2' z3 z4 z5 z6 z7 hd0
              have hd := (Below.refl wr.heap.size wr).drew
              obtain ⟨Wd, hWd⟩ : ∃ Wd, wr.drew = Wd := ⟨_, rfl⟩
              have hs9 : wr.heap.size = Wd.heap.size := by rw [← hWd]; rfl
              rw [hWd] at hd ⊢
              clear hWd
              have HS9 := hid hs9
              clear hs9
              refine walkJ_inv (CallI wr.heap.size wr 18 19 20 21 22 23 24 (.tuple #[.agg #[.int .i64 s1, .int .i64 t1], .int .i64 u1]) (.agg #[.int .i64 s1, .int .i64 t1]) (.int .i64 u1) 31 2 #[.int .i64 s1, .int .i64 t1]) [(18, 123), (19, 104), (20, 124), (21, 125), (22, 18), (24, 19)] (by kernel_rfl) ?_ ?_ ?_
              · exact ⟨hd, fun h => (by cases h), fun h => (by cases h), fun h => (by cases h), fun h => (by cases h), fun h => (by cases h), fun h => (by cases h)⟩
              · refine stepsI_cons [] [19, 20, 21, 23, 24] [] rfl (by kernel_rfl) (by kernel_rfl) (by kernel_rfl) (fun K l V x hx hl hds hn hI hK => ?_) ?_
                · go_simp
                  have hsx : wr.heap.size ≤ x.heap.size := by rw [HS9.out]; exact hx.size
                  refine (CR2.out _).mono ?_
                  rintro e w9 ⟨rfl, hb9⟩
                  refine ⟨_, rfl, hK _ _ (hb9.mono hsx) ?_⟩
                  exact ⟨hI.b.trans (hb9.mono hsx), fun _ => rfl, fun h => hI.m h, fun h => hI.e0 h, fun h => hI.e1 h, fun h => (hI.a h).below hb9, fun h => hI.z h⟩
                refine stepsI_cons [18] [20, 21, 23, 24] [(18, 123)] rfl (by kernel_rfl) (by kernel_rfl) (by kernel_rfl) (fun K l V x hx hl hds hn hI hK => ?_) ?_
                · go_simp
                  refine hK _ _ (Below.refl _ _) ?_
                  exact ⟨hI.b, fun h => hI.c h, fun _ => hI.c hl.1, fun h => hI.e0 h, fun h => hI.e1 h, fun h => hI.a h, fun h => hI.z h⟩
                refine stepsI_cons [18, 19] [23, 24] [(18, 123), (19, 104)] rfl (by kernel_rfl) (by kernel_rfl) (by kernel_rfl) (fun K l V x hx hl hds hn hI hK => ?_) ?_
                · simp only [putsP, hI.m hl.2.1]
                  go_simp
                  refine hK _ _ (Below.refl _ _) ?_
                  exact ⟨hI.b, fun h => hI.c h, fun h => hI.m h, fun _ => rfl, fun h => hI.e1 h, fun h => hI.a h, fun h => hI.z h⟩
                refine stepsI_cons [18, 19] [24] [(18, 123), (19, 104)] rfl (by kernel_rfl) (by kernel_rfl) (by kernel_rfl) (fun K l V x hx hl hds hn hI hK => ?_) ?_
                · simp only [putsP, hI.m hl.2.1]
                  go_simp
                  refine hK _ _ (Below.refl _ _) ?_
                  exact ⟨hI.b, fun h => hI.c h, fun h => hI.m h, fun h => hI.e0 h, fun _ => rfl, fun h => hI.a h, fun h => hI.z h⟩
                refine stepsI_cons [] [23, 24] [] rfl (by kernel_rfl) (by kernel_rfl) (by kernel_rfl) (fun K l V x hx hl hds hn hI hK => ?_) ?_
                · go_simp
                  have hsx : wr.heap.size ≤ x.heap.size := by rw [HS9.out]; exact hx.size
                  have hb9 := alloc_below x (.cells #[.int .i64 0, .int .i64 0] 31)
                  refine hK _ _ (hb9.mono hsx) ?_
                  exact ⟨hI.b.trans (hb9.mono hsx), fun h => hI.c h, fun h => hI.m h, fun h => hI.e0 h, fun h => hI.e1 h, fun _ => VarI.new x _ _ hsx rfl hds.1, fun h => hI.z h⟩
                refine stepsI_cons [18, 19, 20, 22] [24] [(18, 123), (19, 104), (20, 124), (22, 18)] rfl (by kernel_rfl) (by kernel_rfl) (by kernel_rfl) (fun K l V x hx hl hds hn hI hK => ?_) ?_
                · obtain ⟨g, cs, e1, e2, e3, e4, -⟩ := hI.a hl.2.2.2.1
                  have hb9 := row_below (Below.refl wr.heap.size x) e2 #[.int .i64 s1, .int .i64 t1]
                  refine ⟨rfl, gives_store_row 31 (.tmp 18) (.tmp 124) rfl g _ e1 (hI.e0 hl.2.2.1) 31 cs e3 pinfoFrac e4 (by simp [Value.oneCell']) (hK _ _ hb9 ?_)⟩
                  refine ⟨hI.b.trans hb9, fun h => hI.c h, fun h => hI.m h, fun h => hI.e0 h, fun h => hI.e1 h, fun _ => ?_, fun h => hI.z h⟩
                  show VarI _ _ (V 22) _ _ _ _
                  rw [e1]
                  exact VarI.filled e2 e3 rfl
                refine stepsI_cons [18, 19, 20, 21, 22, 23] [] [(18, 123), (19, 104), (20, 124), (21, 125), (22, 18)] rfl (by kernel_rfl) (by kernel_rfl) (by kernel_rfl) (fun K l V x hx hl hds hn hI hK => ?_) ?_
                · simp only [putsP, hI.e1 hl.2.2.2.1]
                  go_simp
                  refine hK _ _ (Below.refl _ _) ?_
                  exact ⟨hI.b, fun h => hI.c h, fun h => hI.m h, fun h => hI.e0 h, fun h => hI.e1 h, fun h => hI.a h, fun _ => rfl⟩
                exact stepsI_nil
              intro V W2 hW2 hI
              obtain ⟨gI, eI1, geI, kI⟩ := (hI.a rfl).out
              have qI0 := hI.c rfl
              have qI1 := hI.m rfl
              have qI2 := hI.e0 rfl
              have qI3 := hI.e1 rfl
              have qI4 := hI.z rfl
              have hbI := hI.b
              clear hI hd HS9 hW2
              simp only [putsP, qI0, qI1, qI2, qI3, qI4, eI1]
              go_simp
              clear qI0 qI1 qI2 qI3 qI4 eI1
              have hbw2 := hbw.trans (hbI.mono hsw)
              have hs2 := Nat.le_trans hsw hbI.size
              have HGA2 := hid (HGA.out.below hbI)
              have hbl2 : b < W2.heap.size := by omega
              have x0' := (hbI.cell (p := ⟨b, off + j * 2, none⟩) (show b < wr.heap.size by omega)).trans x0
              have x1' := (hbI.cell (p := ⟨b, off + j * 2 + 1, none⟩) (show b < wr.heap.size by omega)).trans x1
              clear CR2 x0 x1 x2 x3 y0 y1 y2 y3
              cases oc with
              | none =>
                obtain rfl : 5 = u1 := HU1.out
                have e9 := HG5.out (grdO_stay (HBD.out rfl) hj2)
                subst e9
                have hBf := HBF.out.trans (hbw2.mono (by omega))
                clear HBD HYS HCF hbw2 hbI hbw
                go_wp2
                refine bodyPost_ret (v := .tuple #[.slice none 0 0, .slice none 0 0, .slice none 0 0, .int .i64 5]) ?_ rfl ?_
                · simp [results, Tryz.results73, go_sem]
                · first
                  | exact ⟨⟨_, _, _, rfl, fun h => by cases h⟩, hBf⟩
                  | exact ⟨⟨_, _, _, rfl⟩, hBf⟩
              | some v =>
                obtain rfl : 0 = u1 := HU1.out
                have HNW := hid (HYS.out v rfl)
                have HVN : Hid (v.num = s1) := HS1
                have HVD' : Hid ((v.den : Int) = t1) := HT1
                have d0 := kI.look 0 rfl
                have d1 := kI.look 1 rfl
                clear HBD HYS HCF hbI hbw HU1
                go_wp2_with (first
                  | (at_builtin; refine wpList_appG rfl (.tmp 129) (.tmp 131) _ rfl w.heap.size S 31 (frV 0 0) 2 16 Tryz.underlying37 infoFrac rfl (by decide) 31 _ _ _ rfl HGA2.out [.int .i64 s1, .int .i64 t1] _ (by first | rfl | simp) rfl rfl (by simp [Value.oneCell']) (by unfold maxLen; omega) (by omega) hs2 ?_; intro g5 gcap w11 ho11 hb11; have hs11 := Nat.le_trans hs2 hb11.size; have x0'' := (hb11.cell (p := ⟨b, off + j * 2, none⟩) hbl).trans x0'; have x1'' := (hb11.cell (p := ⟨b, off + j * 2 + 1, none⟩) hbl).trans x1'; have HO11 := hid ho11; clear ho11 x0' x1')
                  | (at_builtin; refine wpList_appO rfl (.tmp 133) (.tmp 138) _ rfl S 31 (frV 0 0) 2 16 Tryz.underlying37 infoFrac rfl (by decide) 31 _ _ _ rfl HO11.out [.int .i64 z1, .int .i64 z2] _ (by first | rfl | simp) rfl rfl (by simp [Value.oneCell']) (by unfold maxLen; omega) (by omega) hs11 ?_; intro g6 gcap6 w12 ho12 hb12 _ _ _ _))
                rw [← show frsC (g.1 ++ [x] ++ [v] ++ [z]) = frsC (g.1 ++ [x]) ++ [.int .i64 s1, .int .i64 t1] ++ [.int .i64 z1, .int .i64 z2] from by rw [frsC_append _ [z], frsC_append _ [v], ← HZN.out, ← HZD.out, ← HVN.out, ← HVD'.out]; rfl] at ho12
                have HO12 := hid ho12
                have hb12' := (hbw2.trans hb11).trans hb12
                have hl7 : (g.1 ++ [x] ++ [v]).length = g.1.length + 1 + 1 := by simp
                have HL7 := hid hl7
                clear ho12 hb12 hb11 hl7 HO11 x0'' x1'' hbw2 d0 d1
                go_roundw
                case rel => exact ⟨j + 1, _, (g.1 ++ [x] ++ [v], g.2 ++ [v]), by go_num, rfl, by omega, by omega, HNW, by rw [HL7.out]; omega, hid (.inl (by rw [show (g.1 ++ [x] ++ [v], g.2 ++ [v]).1.length = g.1.length + 1 + 1 from HL7.out, Nat.add_sub_cancel, HZE.out]; exact HO12.out)), hb12'⟩
                case measure => simp [intOf]; omega
            case neg =>
              have e : cb = false := by rw [hc]; exact decide_eq_false (by omega)
              subst e
              clear hc HCH
              have hnew := HNO.out (fun h => by rw [HCB.out] at h; cases h.2)
              have HNW := hid hnew
              clear hnew CR HYES HBAD HNO
              have hl7 : (g.1 ++ [x]).length = g.1.length + 1 := by simp
              have HL7 := hid hl7
              clear hl7
              go_wp2_with (first
                | (at_builtin; refine wpList_appG rfl (.tmp 133) (.tmp 138) _ rfl w.heap.size S 31 (frV 0 0) 2 16 Tryz.underlying37 infoFrac rfl (by decide) 31 _ _ _ rfl HGA.out [.int .i64 z1, .int .i64 z2] _ (by first | rfl | simp) rfl rfl (by simp [Value.oneCell']) (by unfold maxLen; omega) (by omega) hsw ?_; intro g5 gcap w11 ho11 hb11))
              rw [← show frsC (g.1 ++ [x] ++ [z]) = frsC (g.1 ++ [x]) ++ [.int .i64 z1, .int .i64 z2] from by rw [frsC_append _ [z], ← HZN.out, ← HZD.out]; rfl] at ho11
              have HO11 := hid ho11
              have hb11' := hbw.trans hb11
              clear ho11 hb11 x0 x1 hbw
              go_roundw
              case rel => exact ⟨j + 1, _, (g.1 ++ [x], g.2), by go_num, rfl, by omega, by omega, HNW, by rw [HL7.out]; omega, hid (.inl (by rw [show (g.1 ++ [x], g.2).1.length = g.1.length + 1 from HL7.out, Nat.add_sub_cancel, HZE.out]; exact HO11.out)), hb11'⟩
              case measure => simp [intOf]; omega
          case neg =>
            by_cases h3 : 0 < p1
            case pos =>
              by_cases h2 : q1 < 0
              case pos =>
                have e : cb = true := by rw [hc]; exact decide_eq_true (.inr ⟨h3, h2⟩)
                subst e
                clear hc HCH
                have CR2 := hid (CR.out HCB.out)
                have HBD := hid (HBAD.out HCB.out)
                have HYS := hid (fun u h => HYES.out u HCB.out h)
                have HCF := hid (fun u (h : crsO x z p q = some u) => (crsO_val h).2)
                generalize crsO x z p q = oc at CR2 HBD HYS HCF
                obtain ⟨s1, hs1⟩ : ∃ z, oN oc = z := ⟨_, rfl⟩
                obtain ⟨t1, ht1⟩ : ∃ z, oD oc = z := ⟨_, rfl⟩
                obtain ⟨u1, hu1⟩ : ∃ z, oE oc = z := ⟨_, rfl⟩
                rw [hs1, ht1, hu1] at CR2
                have HS1 := hid hs1
                have HT1 := hid ht1
                have HU1 := hid hu1
                clear hs1 ht1 hu1 CR HBAD HYES HNO
                go_wp2_with fail
                have hd0 := (Below.refl wr.heap.size wr).drew
                have z0 := fun y : SubT (Below wr.heap.size) wr.drew => ((hd0.trans y.b).cell (p := ⟨b, off + (j - 1) * 2, none⟩) (show b < wr.heap.size by omega)).trans x2
                have z1' := fun y : SubT (Below wr.heap.size) wr.drew => ((hd0.trans y.b).cell (p := ⟨b, off + (j - 1) * 2 + 1, none⟩) (show b < wr.heap.size by omega)).trans x3
                have z2' := fun y : SubT (Below wr.heap.size) wr.drew => ((hd0.trans y.b).cell (p := ⟨b, off + j * 2, none⟩) (show b < wr.heap.size by omega)).trans x0
                have z3 := fun y : SubT (Below wr.heap.size) wr.drew => ((hd0.trans y.b).cell (p := ⟨b, off + j * 2 + 1, none⟩) (show b < wr.heap.size by omega)).trans x1
                have z4 := fun y : SubT (Below wr.heap.size) wr.drew => ((hd0.trans y.b).cell (p := ⟨bo, oo + (j - 1) * 2, none⟩) (show bo < wr.heap.size by omega)).trans y2
                have z5 := fun y : SubT (Below wr.heap.size) wr.drew => ((hd0.trans y.b).cell (p := ⟨bo, oo + (j - 1) * 2 + 1, none⟩) (show bo < wr.heap.size by omega)).trans y3
                have z6 := fun y : SubT (Below wr.heap.size) wr.drew => ((hd0.trans y.b).cell (p := ⟨bo, oo + j * 2, none⟩) (show bo < wr.heap.size by omega)).trans y0
                have z7 := fun y : SubT (Below wr.heap.size) wr.drew => ((hd0.trans y.b).cell (p := ⟨bo, oo + j * 2 + 1, none⟩) (show bo < wr.heap.size by omega)).trans y1
                refine wp_walkJ (T := Below (wr.heap.size)) (belowV_pre _) (.rd 0 (.rd 1 (.rd 2 (.rd 3 (.rd 4 (.rd 5 (.rd 6 (.rd 7 (.rd 8 (.rd 9 (.rd 10 (.rd 11 (.rd 12 (.rd 13 (.rd 14 (.rd 15 (.rd 16 (.rd 17 (.inv [18, 19, 20, 21, 22, 23, 24]))))))))))))))))))) (by kernel_rfl) rfl (by kernel_rfl) (by kernel_rfl) ?_
                iterate 18 (refine walkJ_rd rfl (fun K hK => ?_); go_simp; refine hK _ ?_; clear hK K)
                clear z0 z1' z2' z3 z4 z5 z6 z7 hd0
                have hd := (Below.refl wr.heap.size wr).drew
                obtain ⟨Wd, hWd⟩ : ∃ Wd, wr.drew = Wd := ⟨_, rfl⟩
                have hs9 : wr.heap.size = Wd.heap.size := by rw [← hWd]; rfl
                rw [hWd] at hd ⊢
                clear hWd
                have HS9 := hid hs9
                clear hs9
                refine walkJ_inv (CallI wr.heap.size wr 18 19 20 21 22 23 24 (.tuple #[.agg #[.int .i64 s1, .int .i64 t1], .int .i64 u1]) (.agg #[.int .i64 s1, .int .i64 t1]) (.int .i64 u1) 31 2 #[.int .i64 s1, .int .i64 t1]) [(18, 123), (19, 104), (20, 124), (21, 125), (22, 18), (24, 19)] (by kernel_rfl) ?_ ?_ ?_
                · exact ⟨hd, fun h => (by cases h), fun h => (by cases h), fun h => (by cases h), fun h => (by cases h), fun h => (by cases h), fun h => (by cases h)⟩
                · refine stepsI_cons [] [19, 20, 21, 23, 24] [] rfl (by kernel_rfl) (by kernel_rfl) (by kernel_rfl) (fun K l V x hx hl hds hn hI hK => ?_) ?_
                  · go_simp
                    have hsx : wr.heap.size ≤ x.heap.size := by rw [HS9.out]; exact hx.size
                    refine (CR2.out _).mono ?_
                    rintro e w9 ⟨rfl, hb9⟩
                    refine ⟨_, rfl, hK _ _ (hb9.mono hsx) ?_⟩
                    exact ⟨hI.b.trans (hb9.mono hsx), fun _ => rfl, fun h => hI.m h, fun h => hI.e0 h, fun h => hI.e1 h, fun h => (hI.a h).below hb9, fun h => hI.z h⟩
                  refine stepsI_cons [18] [20, 21, 23, 24] [(18, 123)] rfl (by kernel_rfl) (by kernel_rfl) (by kernel_rfl) (fun K l V x hx hl hds hn hI hK => ?_) ?_
                  · go_simp
                    refine hK _ _ (Below.refl _ _) ?_
                    exact ⟨hI.b, fun h => hI.c h, fun _ => hI.c hl.1, fun h => hI.e0 h, fun h => hI.e1 h, fun h => hI.a h, fun h => hI.z h⟩
                  refine stepsI_cons [18, 19] [23, 24] [(18, 123), (19, 104)] rfl (by kernel_rfl) (by kernel_rfl) (by kernel_rfl) (fun K l V x hx hl hds hn hI hK => ?_) ?_
                  · simp only [putsP, hI.m hl.2.1]
                    go_simp
                    refine hK _ _ (Below.refl _ _) ?_
                    exact ⟨hI.b, fun h => hI.c h, fun h => hI.m h, fun _ => rfl, fun h => hI.e1 h, fun h => hI.a h, fun h => hI.z h⟩
                  refine stepsI_cons [18, 19] [24] [(18, 123), (19, 104)] rfl (by kernel_rfl) (by kernel_rfl) (by kernel_rfl) (fun K l V x hx hl hds hn hI hK => ?_) ?_
                  · simp only [putsP, hI.m hl.2.1]
                    go_simp
                    refine hK _ _ (Below.refl _ _) ?_
                    exact ⟨hI.b, fun h => hI.c h, fun h => hI.m h, fun h => hI.e0 h, fun _ => rfl, fun h => hI.a h, fun h => hI.z h⟩
                  refine stepsI_cons [] [23, 24] [] rfl (by kernel_rfl) (by kernel_rfl) (by kernel_rfl) (fun K l V x hx hl hds hn hI hK => ?_) ?_
                  · go_simp
                    have hsx : wr.heap.size ≤ x.heap.size := by rw [HS9.out]; exact hx.size
                    have hb9 := alloc_below x (.cells #[.int .i64 0, .int .i64 0] 31)
                    refine hK _ _ (hb9.mono hsx) ?_
                    exact ⟨hI.b.trans (hb9.mono hsx), fun h => hI.c h, fun h => hI.m h, fun h => hI.e0 h, fun h => hI.e1 h, fun _ => VarI.new x _ _ hsx rfl hds.1, fun h => hI.z h⟩
                  refine stepsI_cons [18, 19, 20, 22] [24] [(18, 123), (19, 104), (20, 124), (22, 18)] rfl (by kernel_rfl) (by kernel_rfl) (by kernel_rfl) (fun K l V x hx hl hds hn hI hK => ?_) ?_
                  · obtain ⟨g, cs, e1, e2, e3, e4, -⟩ := hI.a hl.2.2.2.1
                    have hb9 := row_below (Below.refl wr.heap.size x) e2 #[.int .i64 s1, .int .i64 t1]
                    refine ⟨rfl, gives_store_row 31 (.tmp 18) (.tmp 124) rfl g _ e1 (hI.e0 hl.2.2.1) 31 cs e3 pinfoFrac e4 (by simp [Value.oneCell']) (hK _ _ hb9 ?_)⟩
                    refine ⟨hI.b.trans hb9, fun h => hI.c h, fun h => hI.m h, fun h => hI.e0 h, fun h => hI.e1 h, fun _ => ?_, fun h => hI.z h⟩
                    show VarI _ _ (V 22) _ _ _ _
                    rw [e1]
                    exact VarI.filled e2 e3 rfl
                  refine stepsI_cons [18, 19, 20, 21, 22, 23] [] [(18, 123), (19, 104), (20, 124), (21, 125), (22, 18)] rfl (by kernel_rfl) (by kernel_rfl) (by kernel_rfl) (fun K l V x hx hl hds hn hI hK => ?_) ?_
                  · simp only [putsP, hI.e1 hl.2.2.2.1]
                    go_simp
                    refine hK _ _ (Below.refl _ _) ?_
                    exact ⟨hI.b, fun h => hI.c h, fun h => hI.m h, fun h => hI.e0 h, fun h => hI.e1 h, fun h => hI.a h, fun _ => rfl⟩
                  exact stepsI_nil
                intro V W2 hW2 hI
                obtain ⟨gI, eI1, geI, kI⟩ := (hI.a rfl).out
                have qI0 := hI.c rfl
                have qI1 := hI.m rfl
                have qI2 := hI.e0 rfl
                have qI3 := hI.e1 rfl
                have qI4 := hI.z rfl
                have hbI := hI.b
                clear hI hd HS9 hW2
                simp only [putsP, qI0, qI1, qI2, qI3, qI4, eI1]
                go_simp
                clear qI0 qI1 qI2 qI3 qI4 eI1
                have hbw2 := hbw.trans (hbI.mono hsw)
                have hs2 := Nat.le_trans hsw hbI.size
                have HGA2 := hid (HGA.out.below hbI)
                have hbl2 : b < W2.heap.size := by omega
                have x0' := (hbI.cell (p := ⟨b, off + j * 2, none⟩) (show b < wr.heap.size by omega)).trans x0
                have x1' := (hbI.cell (p := ⟨b, off + j * 2 + 1, none⟩) (show b < wr.heap.size by omega)).trans x1
                clear CR2 x0 x1 x2 x3 y0 y1 y2 y3
                cases oc with
                | none =>
                  obtain rfl : 5 = u1 := HU1.out
                  have e9 := HG5.out (grdO_stay (HBD.out rfl) hj2)
                  subst e9
                  have hBf := HBF.out.trans (hbw2.mono (by omega))
                  clear HBD HYS HCF hbw2 hbI hbw
                  go_wp2
                  refine bodyPost_ret (v := .tuple #[.slice none 0 0, .slice none 0 0, .slice none 0 0, .int .i64 5]) ?_ rfl ?_
                  · simp [results, Tryz.results73, go_sem]
                  · first
                    | exact ⟨⟨_, _, _, rfl, fun h => by cases h⟩, hBf⟩
                    | exact ⟨⟨_, _, _, rfl⟩, hBf⟩
                | some v =>
                  obtain rfl : 0 = u1 := HU1.out
                  have HNW := hid (HYS.out v rfl)
                  have HVN : Hid (v.num = s1) := HS1
                  have HVD' : Hid ((v.den : Int) = t1) := HT1
                  have d0 := kI.look 0 rfl
                  have d1 := kI.look 1 rfl
                  clear HBD HYS HCF hbI hbw HU1
                  go_wp2_with (first
                    | (at_builtin; refine wpList_appG rfl (.tmp 129) (.tmp 131) _ rfl w.heap.size S 31 (frV 0 0) 2 16 Tryz.underlying37 infoFrac rfl (by decide) 31 _ _ _ rfl HGA2.out [.int .i64 s1, .int .i64 t1] _ (by first | rfl | simp) rfl rfl (by simp [Value.oneCell']) (by unfold maxLen; omega) (by omega) hs2 ?_; intro g5 gcap w11 ho11 hb11; have hs11 := Nat.le_trans hs2 hb11.size; have x0'' := (hb11.cell (p := ⟨b, off + j * 2, none⟩) hbl).trans x0'; have x1'' := (hb11.cell (p := ⟨b, off + j * 2 + 1, none⟩) hbl).trans x1'; have HO11 := hid ho11; clear ho11 x0' x1')
                    | (at_builtin; refine wpList_appO rfl (.tmp 133) (.tmp 138) _ rfl S 31 (frV 0 0) 2 16 Tryz.underlying37 infoFrac rfl (by decide) 31 _ _ _ rfl HO11.out [.int .i64 z1, .int .i64 z2] _ (by first | rfl | simp) rfl rfl (by simp [Value.oneCell']) (by unfold maxLen; omega) (by omega) hs11 ?_; intro g6 gcap6 w12 ho12 hb12 _ _ _ _))
                  rw [← show frsC (g.1 ++ [x] ++ [v] ++ [z]) = frsC (g.1 ++ [x]) ++ [.int .i64 s1, .int .i64 t1] ++ [.int .i64 z1, .int .i64 z2] from by rw [frsC_append _ [z], frsC_append _ [v], ← HZN.out, ← HZD.out, ← HVN.out, ← HVD'.out]; rfl] at ho12
                  have HO12 := hid ho12
                  have hb12' := (hbw2.trans hb11).trans hb12
                  have hl7 : (g.1 ++ [x] ++ [v]).length = g.1.length + 1 + 1 := by simp
                  have HL7 := hid hl7
                  clear ho12 hb12 hb11 hl7 HO11 x0'' x1'' hbw2 d0 d1
                  go_roundw
                  case rel => exact ⟨j + 1, _, (g.1 ++ [x] ++ [v], g.2 ++ [v]), by go_num, rfl, by omega, by omega, HNW, by rw [HL7.out]; omega, hid (.inl (by rw [show (g.1 ++ [x] ++ [v], g.2 ++ [v]).1.length = g.1.length + 1 + 1 from HL7.out, Nat.add_sub_cancel, HZE.out]; exact HO12.out)), hb12'⟩
                  case measure => simp [intOf]; omega
              case neg =>
                have e : cb = false := by rw [hc]; exact decide_eq_false (by omega)
                subst e
                clear hc HCH
                have hnew := HNO.out (fun h => by rw [HCB.out] at h; cases h.2)
                have HNW := hid hnew
                clear hnew CR HYES HBAD HNO
                have hl7 : (g.1 ++ [x]).length = g.1.length + 1 := by simp
                have HL7 := hid hl7
                clear hl7
                go_wp2_with (first
                  | (at_builtin; refine wpList_appG rfl (.tmp 133) (.tmp 138) _ rfl w.heap.size S 31 (frV 0 0) 2 16 Tryz.underlying37 infoFrac rfl (by decide) 31 _ _ _ rfl HGA.out [.int .i64 z1, .int .i64 z2] _ (by first | rfl | simp) rfl rfl (by simp [Value.oneCell']) (by unfold maxLen; omega) (by omega) hsw ?_; intro g5 gcap w11 ho11 hb11))
                rw [← show frsC (g.1 ++ [x] ++ [z]) = frsC (g.1 ++ [x]) ++ [.int .i64 z1, .int .i64 z2] from by rw [frsC_append _ [z], ← HZN.out, ← HZD.out]; rfl] at ho11
                have HO11 := hid ho11
                have hb11' := hbw.trans hb11
                clear ho11 hb11 x0 x1 hbw
                go_roundw
                case rel => exact ⟨j + 1, _, (g.1 ++ [x], g.2), by go_num, rfl, by omega, by omega, HNW, by rw [HL7.out]; omega, hid (.inl (by rw [show (g.1 ++ [x], g.2).1.length = g.1.length + 1 from HL7.out, Nat.add_sub_cancel, HZE.out]; exact HO11.out)), hb11'⟩
                case measure => simp [intOf]; omega
            case neg =>
              have e : cb = false := by rw [hc]; exact decide_eq_false (by omega)
              subst e
              clear hc HCH
              have hnew := HNO.out (fun h => by rw [HCB.out] at h; cases h.2)
              have HNW := hid hnew
              clear hnew CR HYES HBAD HNO
              have hl7 : (g.1 ++ [x]).length = g.1.length + 1 := by simp
              have HL7 := hid hl7
              clear hl7
              go_wp2_with (first
                | (at_builtin; refine wpList_appG rfl (.tmp 133) (.tmp 138) _ rfl w.heap.size S 31 (frV 0 0) 2 16 Tryz.underlying37 infoFrac rfl (by decide) 31 _ _ _ rfl HGA.out [.int .i64 z1, .int .i64 z2] _ (by first | rfl | simp) rfl rfl (by simp [Value.oneCell']) (by unfold maxLen; omega) (by omega) hsw ?_; intro g5 gcap w11 ho11 hb11))
              rw [← show frsC (g.1 ++ [x] ++ [z]) = frsC (g.1 ++ [x]) ++ [.int .i64 z1, .int .i64 z2] from by rw [frsC_append _ [z], ← HZN.out, ← HZD.out]; rfl] at ho11
              have HO11 := hid ho11
              have hb11' := hbw.trans hb11
              clear ho11 hb11 x0 x1 hbw
              go_roundw
              case rel => exact ⟨j + 1, _, (g.1 ++ [x], g.2), by go_num, rfl, by omega, by omega, HNW, by rw [HL7.out]; omega, hid (.inl (by rw [show (g.1 ++ [x], g.2).1.length = g.1.length + 1 from HL7.out, Nat.add_sub_cancel, HZE.out]; exact HO11.out)), hb11'⟩
              case measure => simp [intOf]; omega
        case neg =>
          obtain rfl : n = j := by omega
          have hj3 : ¬ (n : Int) < (n : Int) := by omega
          have hfin := grdO_no (d := o) HGR.out (fun h => by rw [hjk, HN.out] at h; omega)
          rw [hjk] at hfin
          obtain ⟨hca, hee⟩ := HGY.out _ hfin
          subst hca
          have hlen : (g.1 ++ [G.getD (n - 1) 0]).length = g.1.length + 1 := by simp
          have hee2 : E = if 48 < g.1.length + 1 then 3 else 0 := by rw [hee]; show (if 48 < (g.1 ++ [G.getD (n - 1) 0]).length then (3 : Int) else 0) = _; rw [hlen]
          have hBf := HBF.out.trans (hbw.mono (by omega))
          have hq1 := hid (SlR.below HQG.out hbw')
          have hq2 : Hid (QsR w.heap.size wr (.slice au n cu) o) := hid (by
            have h := SlR.below (SlR.mono (SlR.of_owns HO.out) hlow) hbw'
            unfold QsR
            rw [HOL.out]
            exact h)
          have hq3 : Hid (QsR w.heap.size wr (.slice a7 (g.1.length + 1) c7) (g.1 ++ [G.getD (n - 1) 0])) := hid (by
            unfold QsR
            rw [hlen]
            exact GrA.slR HGA.out (by omega))
          clear hfin hee hlen hbw hbw' HGR HGA HO HQG
          by_cases h48 : 48 < g.1.length + 1
          case pos =>
            have h48i : (48 : Int) < (g.1.length : Int) + 1 := by omega
            have e9 : E = 3 := by rw [hee2, if_pos h48]
            subst e9
            clear hee2
            go_wp2
            refine bodyPost_ret (v := .tuple #[.slice none 0 0, .slice none 0 0, .slice none 0 0, .int .i64 3]) ?_ rfl ?_
            · simp [results, Tryz.results73, go_sem]
            · first
              | exact ⟨⟨_, _, _, rfl, fun h => by cases h⟩, hBf⟩
              | exact ⟨⟨_, _, _, rfl⟩, hBf⟩
          case neg =>
            have h48i : ¬ (48 : Int) < (g.1.length : Int) + 1 := by omega
            have e9 : E = 0 := by rw [hee2, if_neg h48]
            subst e9
            clear hee2
            go_wp2
            refine bodyPost_ret (v := .tuple #[.slice (some ⟨b, off, none⟩) n cg, .slice au n cu, .slice a7 (g.1.length + 1) c7, .int .i64 0]) ?_ rfl ?_
            · simp [results, Tryz.results73, go_sem]
            · first
              | exact ⟨⟨_, _, _, rfl, fun _ => ⟨hq1.out, hq2.out, hq3.out⟩⟩, hBf⟩
              | exact ⟨⟨_, _, _, rfl, hq1.out, hq2.out, hq3.out⟩, hBf⟩

end Go.Proofs.YtfkclcoipadhmaaGreatDoor
