/- Walk of the law CurveBetween. -/
import Derived.Test.YtfkclcoipadhmaaDoorHf
import Derived.Test.YtfkclcoipadhmaaDoorHg
import Derived.Test.YtfkclcoipadhmaaDoorGq
import Derived.Test.YtfkclcoipadhmaaDoorEe
import Derived.Test.YtfkclcoipadhmaaDoorCw
namespace Go.Proofs.YtfkclcoipadhmaaDoor
open Go.RowKit
attribute [local irreducible] seqS seqST walkV walkJ

theorem mad_none {f : Rat → Option Pt} {l : List Rat} (h : madE f l ≠ 0) : madL f l = [] := by
  unfold madE at h
  unfold madL
  cases ho : ptsO f l l.length with
  | none => rfl
  | some o =>
    rw [ho] at h
    show nrmL (ofQ o) = []
    exact if_neg h

set_option maxHeartbeats 8000000 in
set_option maxRecDepth 100000 in
theorem CurveBetween_any (c d : List P4) (u v : Value) (w : World) (h : P4R 0 w u c) (k : P4R 0 w v d) (hz : Z0 w) :
    Calls Tryd.prog 14 #[u, v] w fun r w' => r = .returned (.bool true) ∧ Below w.heap.size w w' := by
  obtain ⟨au, cu, rfl, -⟩ := id h
  obtain ⟨av, cv, rfl, -⟩ := id k
  have U1 := hid (Upper_any c d _ _ w h k hz)
  have U2 := hid (fun w h k hz => Upper_any d c (.slice av d.length cv) (.slice au c.length cu) w h k hz)
  have L1 := hid (fun w h k hz => Lower_any c d (.slice au c.length cu) (.slice av d.length cv) w h k hz)
  have L2 := hid (fun w h k hz => Lower_any d c (.slice av d.length cv) (.slice au c.length cu) w h k hz)
  have C1 := hid (fun w h k hz => Crossings_any c d (.slice au c.length cu) (.slice av d.length cv) w h k hz)
  have C2 := hid (fun w h k hz => Crossings_any d c (.slice av d.length cv) (.slice au c.length cu) w h k hz)
  rw [(envs_comm true c d).1, (envs_comm true c d).2] at U2
  rw [(envs_comm false c d).1, (envs_comm false c d).2] at L2
  rw [(cmp_comm c d).1, cros_comm c d] at C2
  have HLO := hid (fun h => low_under (c := c) (d := d) h)
  have HUP := hid (fun h => up_under (c := c) (d := d) h)
  have HUN : Hid (envE true c d ≠ 0 → envL true c d = []) := hid (fun h0 => by
    unfold envL
    by_cases hc : cmpE c d = 0
    · rw [if_pos hc]
      unfold envE at h0
      rw [if_pos hc] at h0
      exact mad_none h0
    · rw [if_neg hc])
  obtain ⟨E1, hE1⟩ : ∃ e, envE true c d = e := ⟨_, rfl⟩
  obtain ⟨R1, hR1⟩ : ∃ e, envL true c d = e := ⟨_, rfl⟩
  obtain ⟨E2, hE2⟩ : ∃ e, envE false c d = e := ⟨_, rfl⟩
  obtain ⟨R2, hR2⟩ : ∃ e, envL false c d = e := ⟨_, rfl⟩
  rw [hE1, hR1] at U1 U2 HUP HUN
  rw [hE2, hR2] at L1 L2 HLO
  generalize cmpE c d = E3 at C1 C2
  generalize croL c d = R3 at C1 C2
  clear hE1 hR1 hE2 hR2
  go_enter Tryd.func14, Tryd.ntmps14
  go_wp2_with fail
  refine U1.out.mono ?_
  rintro r w1 ⟨⟨v1, rfl, p1⟩, hB⟩
  replace p1 := PsR.mono p1 (Nat.zero_le _)
  have h1 := h.below hB
  have k1 := k.below hB
  have hz1 := hz.below hB
  obtain ⟨a1, c1, rfl, -⟩ := id p1
  clear h k hz U1
  go_wp2_with fail
  refine (U2.out _ k1 h1 hz1).mono ?_
  rintro r w2 ⟨⟨v2, rfl, p2⟩, hb2⟩
  replace p2 := PsR.mono p2 (Nat.zero_le _)
  replace p1 := PsR.below p1 hb2
  have h2 := h1.below hb2
  have k2 := k1.below hb2
  have hz2 := hz1.below hb2
  replace hB := hB.trans (hb2.mono hB.size)
  obtain ⟨a2, c2, rfl, -⟩ := id p2
  have EQ := hid (eqP_self R1 _ _ w2 p1 p2)
  clear h1 k1 hz1 U2 hb2 p2
  go_wp2_with fail
  refine EQ.out.mono ?_
  rintro r w3 ⟨rfl, hb3⟩
  replace p1 := PsR.below p1 hb3
  have h3 := h2.below hb3
  have k3 := k2.below hb3
  have hz3 := hz2.below hb3
  replace hB := hB.trans (hb3.mono hB.size)
  clear h2 k2 hz2 EQ hb3
  go_wp2_with fail
  refine (L1.out _ h3 k3 hz3).mono ?_
  rintro r w4 ⟨⟨v4, rfl, p4⟩, hb4⟩
  replace p4 := PsR.mono p4 (Nat.zero_le _)
  replace p1 := PsR.below p1 hb4
  have h4 := h3.below hb4
  have k4 := k3.below hb4
  have hz4 := hz3.below hb4
  replace hB := hB.trans (hb4.mono hB.size)
  obtain ⟨a4, c4, rfl, -⟩ := id p4
  clear h3 k3 hz3 L1 hb4
  go_wp2_with fail
  refine (L2.out _ k4 h4 hz4).mono ?_
  rintro r w5 ⟨⟨v5, rfl, p5⟩, hb5⟩
  replace p5 := PsR.mono p5 (Nat.zero_le _)
  replace p1 := PsR.below p1 hb5
  replace p4 := PsR.below p4 hb5
  have h5 := h4.below hb5
  have k5 := k4.below hb5
  have hz5 := hz4.below hb5
  replace hB := hB.trans (hb5.mono hB.size)
  obtain ⟨a5, c5, rfl, -⟩ := id p5
  have EQ := hid (eqP_self R2 _ _ w5 p4 p5)
  clear h4 k4 hz4 L2 hb5 p5
  go_wp2_with fail
  refine EQ.out.mono ?_
  rintro r w6 ⟨rfl, hb6⟩
  replace p1 := PsR.below p1 hb6
  replace p4 := PsR.below p4 hb6
  have h6 := h5.below hb6
  have k6 := k5.below hb6
  have hz6 := hz5.below hb6
  replace hB := hB.trans (hb6.mono hB.size)
  clear h5 k5 hz5 EQ hb6
  by_cases hE : E2 = 0
  case neg =>
    have hE' : (E2 != 0) = true := by simpa using hE
    go_wp2_with fail
    refine (awake_any _ hz6).mono ?_
    rintro r w7 ⟨rfl, hb7⟩
    replace hB := hB.trans (hb7.mono hB.size)
    clear hz6 hb7
    go_wp2
    go_ret
    exact ⟨rfl, hB⟩
  subst hE
  have HL0 := HLO.out rfl
  have kb := Blk.new w6 #[.slice au c.length cu, .slice av d.length cv] 22
  have bb := alloc_below w6 (.cells #[.slice au c.length cu, .slice av d.length cv] 22)
  replace p1 := PsR.below p1 bb
  replace p4 := PsR.below p4 bb
  have h7 := h6.below bb
  have k7 := k6.below bb
  have hz7 := hz6.below bb
  replace hB := hB.trans (bb.mono hB.size)
  obtain ⟨W, hW⟩ : ∃ W, w6.alloc (.cells #[.slice au c.length cu, .slice av d.length cv] 22) = W := ⟨_, rfl⟩
  obtain ⟨gb, hgb⟩ : ∃ g, w6.heap.size = g := ⟨_, rfl⟩
  rw [hW] at kb p1 p4 h7 k7 hz7 hB
  rw [hgb] at kb
  have HW := hid hW
  have HGB := hid hgb
  have HKB := hid kb
  have HP1 := hid p1
  have HP4 := hid p4
  have HH := hid h7
  have HKK := hid k7
  have HZ := hid hz7
  have HB := hid hB
  clear kb bb p1 p4 h6 k6 hz6 h7 k7 hz7 hB hW hgb
  go_wp2_with fail
  rw [HW.out, HGB.out]
  clear HW HGB
  go_loopw [68] (fun x wr => ∃ i : Nat, x = .int .i64 i ∧ i ≤ 2 ∧ Hid (Below W.heap.size W wr)) (fun x _ => 2 - (intOf x).toNat)
  case atStart => exact ⟨0, rfl, by omega, hid (Below.refl _ _)⟩
  case round =>
    obtain ⟨i, rfl, hi, HR⟩ := hrel
    have hb := HR.out
    have hz8 := HZ.out.below hb
    by_cases hi2 : i < 2
    case pos =>
      have hi3 : (i : Int) < 2 := by omega
      obtain ⟨ax, X, cx, hcell, hPX, hA, hBB⟩ : ∃ (ax : Option Addr) (X : List P4) (cx : Nat), wr.cell? ⟨gb, i, none⟩ = some (.slice ax X.length cx) ∧ P4R 0 wr (.slice ax X.length cx) X ∧ (undE (ofQ R2) X = 0 → undB (ofQ R2) X = true) ∧ (E1 = 0 → undE X (ofQ R1) = 0 → undB X (ofQ R1) = true) := by
        obtain rfl | rfl : i = 0 ∨ i = 1 := by omega
        · exact ⟨au, c, cu, (HKB.out.below hb).look 0 rfl, HH.out.below hb, HL0.1, fun h => (HUP.out h).1⟩
        · exact ⟨av, d, cv, (HKB.out.below hb).look 1 rfl, HKK.out.below hb, HL0.2, fun h => (HUP.out h).2⟩
      have UN1 := hid (Under_any (ofQ R2) X _ _ wr (PsR.below HP4.out hb).ofQ hPX hz8)
      obtain ⟨e1, he1⟩ : ∃ e, undE (ofQ R2) X = e := ⟨_, rfl⟩
      obtain ⟨b1, hb1⟩ : ∃ e, undB (ofQ R2) X = e := ⟨_, rfl⟩
      rw [he1, hb1] at UN1 hA
      clear he1 hb1
      have wI : IntKind.i64.wrap ((i : Int) + 1) = ((i + 1 : Nat) : Int) := by rw [IntWalk.i64_left]; unfold wrap64; omega
      go_wp2_with fail
      refine UN1.out.mono ?_
      rintro r w8 ⟨rfl, hb8⟩
      have hb' := hb.trans (hb8.mono hb.size)
      have UN2 := hid (Under_any X (ofQ R1) _ _ w8 (hPX.below hb8) (PsR.below HP1.out hb').ofQ (hz8.below hb8))
      obtain ⟨e2, he2⟩ : ∃ e, undE X (ofQ R1) = e := ⟨_, rfl⟩
      obtain ⟨b2, hb2⟩ : ∃ e, undB X (ofQ R1) = e := ⟨_, rfl⟩
      rw [he2, hb2] at UN2 hBB
      have HBB := hid hBB
      clear he2 hb2 hBB UN1 hb8 hb hz8 hPX hcell
      have hcut1 : (e1 == 0 && !b1) = false := by
        by_cases h : e1 = 0
        · rw [hA h]; simp
        · simp [h]
      clear hA
      by_cases he1 : e1 = 0
      case pos =>
        subst he1
        obtain rfl : b1 = true := by simpa using hcut1
        clear hcut1
        go_wp2_with fail
        refine UN2.out.mono ?_
        rintro r w9 ⟨rfl, hb9⟩
        have hb'' := hb'.trans (hb9.mono hb'.size)
        have HBX := hid hb''
        clear UN2 hb9 hb'
        by_cases hl : R1.length = 0
        case pos =>
          have hln : ¬ (0 : Int) < (R1.length : Int) := by omega
          clear hb'' hl
          go_wp2
          go_roundw
          case rel => exact ⟨i + 1, by go_num, by omega, HBX⟩
          case measure => simp [intOf]; omega
        case neg =>
          have hE0 : E1 = 0 := by
            apply Decidable.byContradiction
            intro hn
            rw [HUN.out hn] at hl
            exact hl rfl
          have hlp : (0 : Int) < (R1.length : Int) := by omega
          have hB2 := HBB.out hE0
          clear hb'' hE0 hl
          by_cases he2 : e2 = 0
          case pos =>
            subst he2
            obtain rfl : b2 = true := hB2 rfl
            clear hB2
            go_wp2
            go_roundw
            case rel => exact ⟨i + 1, by go_num, by omega, HBX⟩
            case measure => simp [intOf]; omega
          case neg =>
            have he2' : (e2 == 0) = false := by simpa using he2
            clear hB2
            go_wp2
            go_roundw
            case rel => exact ⟨i + 1, by go_num, by omega, HBX⟩
            case measure => simp [intOf]; omega
      case neg =>
        have he1' : (e1 == 0) = false := by simpa using he1
        clear hcut1
        go_wp2_with fail
        refine UN2.out.mono ?_
        rintro r w9 ⟨rfl, hb9⟩
        have hb'' := hb'.trans (hb9.mono hb'.size)
        have HBX := hid hb''
        clear UN2 hb9 hb'
        by_cases hl : R1.length = 0
        case pos =>
          have hln : ¬ (0 : Int) < (R1.length : Int) := by omega
          clear hb'' hl
          go_wp2
          go_roundw
          case rel => exact ⟨i + 1, by go_num, by omega, HBX⟩
          case measure => simp [intOf]; omega
        case neg =>
          have hE0 : E1 = 0 := by
            apply Decidable.byContradiction
            intro hn
            rw [HUN.out hn] at hl
            exact hl rfl
          have hlp : (0 : Int) < (R1.length : Int) := by omega
          have hB2 := HBB.out hE0
          clear hb'' hE0 hl
          by_cases he2 : e2 = 0
          case pos =>
            subst he2
            obtain rfl : b2 = true := hB2 rfl
            clear hB2
            go_wp2
            go_roundw
            case rel => exact ⟨i + 1, by go_num, by omega, HBX⟩
            case measure => simp [intOf]; omega
          case neg =>
            have he2' : (e2 == 0) = false := by simpa using he2
            clear hB2
            go_wp2
            go_roundw
            case rel => exact ⟨i + 1, by go_num, by omega, HBX⟩
            case measure => simp [intOf]; omega
    case neg =>
      obtain rfl : i = 2 := by omega
      have h8 := HH.out.below hb
      have k8 := HKK.out.below hb
      have hB8 := HB.out.trans (hb.mono HB.out.size)
      clear HR hb
      go_wp2_with fail
      refine (C1.out _ h8 k8 hz8).mono ?_
      rintro r w9 ⟨⟨v9, rfl, p9⟩, hb9⟩
      replace p9 := QsR.mono p9 (Nat.zero_le _)
      have h9 := h8.below hb9
      have k9 := k8.below hb9
      have hz9 := hz8.below hb9
      replace hB8 := hB8.trans (hb9.mono hB8.size)
      obtain ⟨a9, c9, rfl, -⟩ := id p9
      clear h8 k8 hz8 hb9 C1
      go_wp2_with fail
      refine (C2.out _ k9 h9 hz9).mono ?_
      rintro r w10 ⟨⟨v10, rfl, p10⟩, hb10⟩
      replace p10 := QsR.mono p10 (Nat.zero_le _)
      replace p9 := QsR.below p9 hb10
      have hz10 := hz9.below hb10
      replace hB8 := hB8.trans (hb10.mono hB8.size)
      obtain ⟨a10, c10, rfl, -⟩ := id p10
      have EQ := hid (eqQ_self R3 _ _ w10 p9 p10)
      clear h9 k9 hz9 C2 hb10 p9 p10
      go_wp2_with fail
      refine EQ.out.mono ?_
      rintro r w11 ⟨rfl, hb11⟩
      have hz11 := hz10.below hb11
      replace hB8 := hB8.trans (hb11.mono hB8.size)
      clear hz10 hb11 EQ
      go_wp2_with fail
      refine (awake_any _ hz11).mono ?_
      rintro r w12 ⟨rfl, hb12⟩
      replace hB8 := hB8.trans (hb12.mono hB8.size)
      clear hz11 hb12
      go_wp2
      go_ret
      exact ⟨rfl, hB8⟩

end Go.Proofs.YtfkclcoipadhmaaDoor
