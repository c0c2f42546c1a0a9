/- Walk of curve.envelope, Upper, Lower. -/
import Derived.Test.YtfkclcoipadhmaaDoorGg
namespace Go.Proofs.YtfkclcoipadhmaaDoor
open Go.RowKit
attribute [local irreducible] seqS seqST walkV walkJ

set_option maxHeartbeats 8000000 in
set_option maxRecDepth 100000 in
theorem envelope_any (up : Bool) (c d : List P4) (vc vd : Value) (w : World) (hc : P4R 0 w vc c) (hd : P4R 0 w vd d) (hz : Z0 w) :
    Calls Tryd.prog 99 #[vc, vd, .func (.func (chooseF up)) #[] #[]] w fun r w' => (∃ v, r = .returned (.tuple #[v, .int .i64 (envE up c d)]) ∧ PsR w.heap.size w' v (envL up c d)) ∧ Below w.heap.size w w' := by
  obtain ⟨ac, cc, rfl, -⟩ := id hc
  obtain ⟨ad, cd, rfl, -⟩ := id hd
  obtain ⟨E, hE⟩ : ∃ E, envE up c d = E := ⟨_, rfl⟩
  obtain ⟨R, hR⟩ : ∃ R, envL up c d = R := ⟨_, rfl⟩
  rw [hE, hR]
  have HE := hid hE
  have HR := hid hR
  have EP := hid (fun x va vc hA hC hdA hdC hx g ga gc gf ok W h1 h2 h3 h4 h5 h6 h7 h8 h9 h10 => envPt_any up (toQ c) (toQ d) x va vc hA hC hdA hdC hx g ga gc gf ok W h1 h2 h3 h4 (tf := 99) h5 h6 h7 h8 h9 h10)
  generalize chooseF up = fp at EP ⊢
  have k0 := ((Blk.new w #[.slice ac c.length cc] 22).alloc (.cells #[.slice ad d.length cd] 22)).alloc (.cells #[.func (.func fp) #[] #[]] 99)
  have k1 := (Blk.new (w.alloc (.cells #[.slice ac c.length cc] 22)) #[.slice ad d.length cd] 22).alloc (.cells #[.func (.func fp) #[] #[]] 99)
  have k2 := Blk.new ((w.alloc (.cells #[.slice ac c.length cc] 22)).alloc (.cells #[.slice ad d.length cd] 22)) #[.func (.func fp) #[] #[]] 99
  have b0 := (((Below.refl w.heap.size w).alloc (Nat.le_refl _) (.cells #[.slice ac c.length cc] 22)).alloc (by simp) (.cells #[.slice ad d.length cd] 22)).alloc (by simp; omega) (.cells #[.func (.func fp) #[] #[]] 99)
  rw [World.size_alloc] at k1
  rw [World.size_alloc, World.size_alloc] at k2
  have c0 := k0.look 0 rfl
  have c1 := k1.look 0 rfl
  clear hE hR
  go_enter Tryd.func99, Tryd.ntmps99
  go_wp2_with fail
  obtain ⟨w0, hw0⟩ : ∃ w0, ((w.alloc (.cells #[.slice ac c.length cc] 22)).alloc (.cells #[.slice ad d.length cd] 22)).alloc (.cells #[.func (.func fp) #[] #[]] 99) = w0 := ⟨_, rfl⟩
  rw [hw0] at k0 k1 k2 b0 ⊢
  clear hw0 c0 c1
  have CO := hid (compared_any c d _ _ w0 (hc.below b0) (hd.below b0) (hz.below b0))
  refine CO.out.mono ?_
  rintro r w1 ⟨⟨a1, n1, c1, a2, n2, c2, a3, n3, c3, a4, n4, c4, rfl, hin⟩, hb1⟩
  have hB1 := b0.trans (hb1.mono b0.size)
  have k01 := k0.below hb1
  have k11 := k1.below hb1
  have k21 := k2.below hb1
  have hc1 := (hc.below b0).below hb1
  have hd1 := (hd.below b0).below hb1
  have hz1 := (hz.below b0).below hb1
  have hs1 : w.heap.size + 1 + 1 + 1 ≤ w1.heap.size := k21.lt
  have hlo : 0 ≤ w0.heap.size := Nat.zero_le _
  clear CO hb1 k0 k1 k2 b0 hc hd hz
  by_cases h0 : cmpE c d = 0
  case neg =>
    have e1 : E = cmpE c d := by rw [← HE.out]; exact if_neg h0
    have e2 : R = [] := by rw [← HR.out]; exact if_neg h0
    rw [← e1] at h0 ⊢
    subst e2
    clear e1 hin EP
    have hB2 := hB1.alloc hB1.size (.cells #[.slice a1 n1 c1, .slice a2 n2 c2, .slice a3 n3 c3, .slice a4 n4 c4] 101)
    go_wp2
    go_ret2
    exact ⟨⟨_, rfl, SlR.nil _ _⟩, hB2⟩
  obtain ⟨hq3, -⟩ := hin h0
  obtain ⟨h00, hrc, hrd, -, -, hlen⟩ := cmp_zero h0
  have e1 : envE up c d = madE (envO up (toQ c) (toQ d)) (cmpA c d).1 := if_pos h0
  have e2 : envL up c d = madL (envO up (toQ c) (toQ d)) (cmpA c d).1 := if_pos h0
  have pc := P4R.toQ hc1 hrc
  have pd := P4R.toQ hd1 hrd
  have vc := rv_cv hrc
  have vd := rv_cv hrd
  have bg := alloc_below w1 (.cells #[.slice a1 n1 c1, .slice a2 n2 c2, .slice a3 n3 c3, .slice a4 n4 c4] 101)
  have kg := Blk.new w1 #[.slice a1 n1 c1, .slice a2 n2 c2, .slice a3 n3 c3, .slice a4 n4 c4] 101
  have hBg := hB1.trans (bg.mono hB1.size)
  have HMM := hid (fun x hx => cmp_mem h0 (x := x) hx)
  rw [h0]
  have MA := hid (made_c (cmpA c d).1 130 #[.pointer (some ⟨w.heap.size, 0, none⟩), .pointer (some ⟨w.heap.size + 1, 0, none⟩), .pointer (some ⟨w.heap.size + 1 + 1, 0, none⟩)] (envO up (toQ c) (toQ d)) (.slice a3 n3 c3) _ (SlR.below (SlR.mono hq3 hlo) bg) (hz1.below bg) (by omega)
    ⟨enters_of Tryd.func130 (by kernel_rfl) rfl, fun x hx g ok W hg hb hz hk => by
      obtain ⟨i1, i2, i3⟩ := HMM.out x hx
      have hsg := bg.size
      exact EP.out x _ _ vc vd i1 i2 i3 g w.heap.size (w.heap.size + 1) (w.heap.size + 1 + 1) ok W (PsR.below (PsR.below pc bg) hb) (PsR.below (PsR.below pd bg) hb) ((k01.below bg).below hb) ((k11.below bg).below hb) ((k21.below bg).below hb) (by omega) (by omega) (by omega) hz hk⟩)
  rw [← e1, ← e2, HE.out, HR.out] at MA
  have q2 := kg.look 2 rfl
  clear e1 e2 pc pd vc vd hc1 hd1 hz1 hlen hrc hrd HE HR h0 hq3 hin EP HMM k01 k11 k21 kg hB1 bg h00
  go_wp2_with fail
  refine MA.out.mono ?_
  rintro r w2 ⟨⟨v, rfl, hv⟩, hb2⟩
  have hv2 := PsR.mono hv hBg.size
  have hB2 := hBg.trans (hb2.mono hBg.size)
  clear MA hv hb2
  go_wp2
  go_ret2
  exact ⟨⟨_, rfl, hv2⟩, hB2⟩

set_option maxHeartbeats 4000000 in
set_option maxRecDepth 100000 in
theorem Upper_any (c d : List P4) (vc vd : Value) (w : World) (hc : P4R 0 w vc c) (hd : P4R 0 w vd d) (hz : Z0 w) :
    Calls Tryd.prog 52 #[vc, vd] w fun r w' => (∃ v, r = .returned (.tuple #[v, .int .i64 (envE true c d)]) ∧ PsR w.heap.size w' v (envL true c d)) ∧ Below w.heap.size w w' := by
  have EN := hid (envelope_any true c d vc vd w hc hd hz)
  generalize envE true c d = E at EN ⊢
  generalize envL true c d = R at EN ⊢
  obtain ⟨ac, cc, rfl, -⟩ := id hc
  obtain ⟨ad, cd, rfl, -⟩ := id hd
  clear hc hd hz
  have EN2 : Hid (Calls Tryd.prog 99 #[.slice ac c.length cc, .slice ad d.length cd, .func (.func 100) #[] #[]] w fun r w' => (∃ v, r = .returned (.tuple #[v, .int .i64 E]) ∧ PsR w.heap.size w' v R) ∧ Below w.heap.size w w') := EN
  clear EN
  go_enter Tryd.func52, Tryd.ntmps52
  go_wp2_with fail
  refine EN2.out.mono ?_
  rintro r w2 ⟨⟨v, rfl, hv2⟩, hB2⟩
  clear EN2
  go_wp2
  go_ret2
  exact ⟨⟨_, rfl, hv2⟩, hB2⟩
set_option maxHeartbeats 4000000 in
set_option maxRecDepth 100000 in
theorem Lower_any (c d : List P4) (vc vd : Value) (w : World) (hc : P4R 0 w vc c) (hd : P4R 0 w vd d) (hz : Z0 w) :
    Calls Tryd.prog 53 #[vc, vd] w fun r w' => (∃ v, r = .returned (.tuple #[v, .int .i64 (envE false c d)]) ∧ PsR w.heap.size w' v (envL false c d)) ∧ Below w.heap.size w w' := by
  have EN := hid (envelope_any false c d vc vd w hc hd hz)
  generalize envE false c d = E at EN ⊢
  generalize envL false c d = R at EN ⊢
  obtain ⟨ac, cc, rfl, -⟩ := id hc
  obtain ⟨ad, cd, rfl, -⟩ := id hd
  clear hc hd hz
  have EN2 : Hid (Calls Tryd.prog 99 #[.slice ac c.length cc, .slice ad d.length cd, .func (.func 101) #[] #[]] w fun r w' => (∃ v, r = .returned (.tuple #[v, .int .i64 E]) ∧ PsR w.heap.size w' v R) ∧ Below w.heap.size w w') := EN
  clear EN
  go_enter Tryd.func53, Tryd.ntmps53
  go_wp2_with fail
  refine EN2.out.mono ?_
  rintro r w2 ⟨⟨v, rfl, hv2⟩, hB2⟩
  clear EN2
  go_wp2
  go_ret2
  exact ⟨⟨_, rfl, hv2⟩, hB2⟩

end Go.Proofs.YtfkclcoipadhmaaDoor
