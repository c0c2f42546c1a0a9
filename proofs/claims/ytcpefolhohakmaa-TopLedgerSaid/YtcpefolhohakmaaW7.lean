/- The law TopLedger: the walk. -/
import Derived.Test.YtcpefolhohakmaaW6
namespace Go.Proofs.Ytcpefolhohakmaa
open Go.RowKit
attribute [local irreducible] seqS seqST walkV walkJ

theorem umod (z : Int) (m : Nat) (hm : 0 < m) (hm2 : m ≤ 1000000) : ∃ k : Nat, k < m ∧ wrap64 ((IntKind.u64.wrap z).tmod (m : Int)) = (k : Int) := by
  have h1 : IntKind.u64.wrap z = z % 2 ^ 64 := by simp [IntKind.wrap, IntKind.bits, IntKind.signed]
  have h2 : 0 ≤ z % 2 ^ 64 := Int.emod_nonneg _ (by decide)
  rw [h1, Int.tmod_eq_emod_of_nonneg h2]
  have h3 := Int.emod_nonneg (z % 2 ^ 64) (show (m : Int) ≠ 0 by omega)
  have h4 := Int.emod_lt_of_pos (z % 2 ^ 64) (show (0 : Int) < m by omega)
  refine ⟨(z % 2 ^ 64 % (m : Int)).toNat, by omega, ?_⟩
  unfold wrap64
  omega


set_option maxHeartbeats 16000000 in
set_option maxRecDepth 100000 in
theorem TopLedger_any (most : Int) (rs : List Rd) (v : Value) (w : World) (h : RdsR w v rs) :
    Calls Try.prog 4 #[.int .i64 most, v] w fun r w' => r = .returned (.bool true) ∧ Below w.heap.size w w' := by
  obtain ⟨a0, c0, rfl, hc0, hm0, hcs⟩ := id h.1
  unfold maxLen at hm0
  have HRD := hid h
  have ND := hid (fun M h1 h2 => NewDisk_any M w h1 h2)
  have ST := hid (fun w => stored_any w)
  clear h hcs
  obtain ⟨M0, hM0, hM1⟩ := umod most 5000 (by decide) (by decide)
  obtain ⟨MM, hMM⟩ : ∃ MM : Nat, 200 + M0 = MM := ⟨_, rfl⟩
  have hM2 : 200 + (M0 : Int) = (MM : Int) := by omega
  have hM3 : wrap64 (MM : Int) = (MM : Int) := by unfold wrap64; omega
  have ND1 := hid (ND.out MM (by omega) (by omega))
  obtain ⟨R, hR⟩ : ∃ R, rs.length = R := ⟨_, rfl⟩
  have HR := hid hR
  rw [hR] at hc0 HRD ⊢
  have hM1' : wrap64 ((IntKind.u64.wrap most).tmod 5000) = (M0 : Int) := hM1
  clear ND hMM hM1 hR
  go_enter Try.func4, Try.ntmps4
  go_wp2_with fail
  refine ND1.out.mono ?_
  rintro r w1 ⟨⟨gd, rfl, hgd, v1, hd1, hv1⟩, hb1⟩
  have HH := hid (hd_start hd1 hgd hv1)
  have HB1 := hid hb1
  clear ND1 hd1 hv1 hb1 hM1' hM2 hM3
  go_wp2_with fail
  go_loopw [7, 8, 9, 10, 11, 12, 13, 14, 15, 16, 17, 18, 19, 40] (fun y z _ _ _ _ _ _ _ _ _ _ _ x wr => ∃ i : Nat, x = .int .i64 (i : Int) ∧ i ≤ R ∧ i ≤ 6 ∧ Hid (Hd w.heap.size wr gd y z i) ∧ Hid (Below w.heap.size w wr)) (fun _ _ _ _ _ _ _ _ _ _ _ _ _ x _ => R - (intOf x).toNat)
  case atStart => exact ⟨0, rfl, Nat.zero_le _, Nat.zero_le _, HH, HB1⟩
  case round =>
    obtain ⟨i, rfl, hi, hi6, HHD, HB⟩ := hrel
    clear HH HB1
    by_cases hiR : i < R
    case neg =>
      have hi2 : ¬ (i : Int) < (R : Int) := by omega
      have LH := hid (loaded_hd (gr := 0) (rc := none) HHD.out trivial HB.out.size hi6)
      go_wp2_with fail
      refine LH.out.mono ?_
      rintro r w2 ⟨⟨gb, gl, T, S, M, rfl, hT, hlw⟩, hb2⟩
      have HB2 := hid (HB.out.trans hb2)
      have HLW := hid hlw
      have HTT := hid hT
      clear LH hlw hb2 hT HHD HB
      have SV := hid (lw_save HLW.out (by omega) HB2.out.size)
      go_wp2_with fail
      refine SV.out.mono ?_
      rintro r w3 ⟨⟨v3, rfl, hl3⟩, hb3⟩
      have HL3 := hid hl3
      have HB3 := hid (HB2.out.trans (hb3.mono HB2.out.size))
      have EQ := hid (Equal_any (encB T) (encB S) v3 u7 w3 hl3.bsq hl3.bsy)
      clear SV hl3 hb3 HLW HB2
      by_cases e1 : encB T = encB S
      case pos =>
        rw [decide_eq_true e1] at EQ
        clear e1
        go_wp2_with fail
        refine EQ.out.mono ?_
        rintro r w4 ⟨rfl, rfl⟩
        have WH := hid (lw_whole HL3.out)
        clear EQ HL3
        go_wp2_with fail
        refine WH.out.mono ?_
        rintro r w5 ⟨rfl, -, hb5⟩
        have HB5 := hid (HB3.out.trans (hb5.mono HB3.out.size))
        clear WH hb5 HB3
        go_wp2_with fail
        refine (ST.out w5).mono ?_
        rintro r w6 ⟨rfl, hb6⟩
        have HB6 := hid (HB5.out.trans (hb6.mono HB5.out.size))
        clear hb6 HB5
        go_wp2
        go_ret
        exact ⟨rfl, HB6.out⟩
      case neg =>
        rw [decide_eq_false e1] at EQ
        have e2 : encB T = encB M := by
          rcases HTT.out with h | h
          · exact absurd (by rw [h]) e1
          · rw [h]
        have HE2 := hid e2
        clear e1 e2
        go_wp2_with fail
        refine EQ.out.mono ?_
        rintro r w4 ⟨rfl, rfl⟩
        clear EQ
        have SV := hid (lw_save HL3.out (by omega) HB3.out.size)
        go_wp2_with fail
        refine SV.out.mono ?_
        rintro r w4 ⟨⟨v4, rfl, hl4⟩, hb4⟩
        have HL4 := hid hl4
        have HB4 := hid (HB3.out.trans (hb4.mono HB3.out.size))
        have EQ2 := hid (Equal_any (encB T) (encB M) v4 u8 w4 hl4.bsq hl4.bsz)
        rw [decide_eq_true HE2.out] at EQ2
        clear SV hl4 hb4 HL3 HB3
        go_wp2_with fail
        refine EQ2.out.mono ?_
        rintro r w5 ⟨rfl, rfl⟩
        have WH := hid (lw_whole HL4.out)
        clear EQ2 HL4
        go_wp2_with fail
        refine WH.out.mono ?_
        rintro r w5 ⟨rfl, -, hb5⟩
        have HB5 := hid (HB4.out.trans (hb5.mono HB4.out.size))
        clear WH hb5 HB4
        go_wp2_with fail
        refine (ST.out w5).mono ?_
        rintro r w6 ⟨rfl, hb6⟩
        have HB6 := hid (HB5.out.trans (hb6.mono HB5.out.size))
        clear hb6 HB5
        go_wp2
        go_ret
        exact ⟨rfl, HB6.out⟩
    case pos =>
      have hi2 : (i : Int) < (R : Int) := by omega
      obtain ⟨r0, hr0⟩ : ∃ r, rs[i]? = some r := ⟨_, List.getElem?_eq_getElem (by rw [HR.out]; exact hiR)⟩
      have hcl := HRD.out.1
      rw [HR.out] at hcl
      obtain ⟨g0, o0, rfl, hg0, x0, x1, x2, x3, x4⟩ := rd_cell (by rw [HR.out]; exact hcl) hr0
      have hts := HRD.out.2 r0 (List.mem_of_getElem? hr0)
      clear hr0 hcl
      obtain ⟨rv, ls, pk, fu, k0, k1⟩ := r0
      simp only at x0 x1 x2 x3 x4 hts
      obtain ⟨ap, cp, rfl, hcp, hmp, -⟩ := id hts.1
      unfold maxLen at hmp
      obtain ⟨K, hK⟩ : ∃ K, ls.length = K := ⟨_, rfl⟩
      have HK := hid hK
      have HTS := hid hts
      rw [hK] at hcp x0 HTS
      clear hts hK
      replace x0 := (HB.out.cell (p := ⟨g0, o0 + i * 5, none⟩) hg0).trans x0
      replace x1 := (HB.out.cell (p := ⟨g0, o0 + i * 5 + 1, none⟩) hg0).trans x1
      replace x2 := (HB.out.cell (p := ⟨g0, o0 + i * 5 + 2, none⟩) hg0).trans x2
      replace x3 := (HB.out.cell (p := ⟨g0, o0 + i * 5 + 3, none⟩) hg0).trans x3
      replace x4 := (HB.out.cell (p := ⟨g0, o0 + i * 5 + 4, none⟩) hg0).trans x4
      have kR := Blk.new wr #[.slice ap K cp, .int .i64 pk, .int .i64 fu, .int .i64 k0, .int .i64 k1] 51
      have bR := alloc_below wr (.cells #[.slice ap K cp, .int .i64 pk, .int .i64 fu, .int .i64 k0, .int .i64 k1] 51)
      have HHD1 := hid (HHD.out.below bR)
      have HBR := hid (HB.out.trans (bR.mono HB.out.size))
      have KR := hid kR
      clear kR bR HHD HB
      by_cases hi5 : i = 6
      case pos =>
        have hi62 : (6 : Int) ≤ (i : Int) := by omega
        have HHD := HHD1
        have HB := HBR
        clear hi5 KR HTS HHD1 HBR
        have LH := hid (loaded_hd (gr := 0) (rc := none) HHD.out trivial HB.out.size hi6)
        go_wp2_with fail
        refine LH.out.mono ?_
        rintro r w2 ⟨⟨gb, gl, T, S, M, rfl, hT, hlw⟩, hb2⟩
        have HB2 := hid (HB.out.trans hb2)
        have HLW := hid hlw
        have HTT := hid hT
        clear LH hlw hb2 hT HHD HB
        have SV := hid (lw_save HLW.out (by omega) HB2.out.size)
        go_wp2_with fail
        refine SV.out.mono ?_
        rintro r w3 ⟨⟨v3, rfl, hl3⟩, hb3⟩
        have HL3 := hid hl3
        have HB3 := hid (HB2.out.trans (hb3.mono HB2.out.size))
        have EQ := hid (Equal_any (encB T) (encB S) v3 u7 w3 hl3.bsq hl3.bsy)
        clear SV hl3 hb3 HLW HB2
        by_cases e1 : encB T = encB S
        case pos =>
          rw [decide_eq_true e1] at EQ
          clear e1
          go_wp2_with fail
          refine EQ.out.mono ?_
          rintro r w4 ⟨rfl, rfl⟩
          have WH := hid (lw_whole HL3.out)
          clear EQ HL3
          go_wp2_with fail
          refine WH.out.mono ?_
          rintro r w5 ⟨rfl, -, hb5⟩
          have HB5 := hid (HB3.out.trans (hb5.mono HB3.out.size))
          clear WH hb5 HB3
          go_wp2_with fail
          refine (ST.out w5).mono ?_
          rintro r w6 ⟨rfl, hb6⟩
          have HB6 := hid (HB5.out.trans (hb6.mono HB5.out.size))
          clear hb6 HB5
          go_wp2
          go_ret
          exact ⟨rfl, HB6.out⟩
        case neg =>
          rw [decide_eq_false e1] at EQ
          have e2 : encB T = encB M := by
            rcases HTT.out with h | h
            · exact absurd (by rw [h]) e1
            · rw [h]
          have HE2 := hid e2
          clear e1 e2
          go_wp2_with fail
          refine EQ.out.mono ?_
          rintro r w4 ⟨rfl, rfl⟩
          clear EQ
          have SV := hid (lw_save HL3.out (by omega) HB3.out.size)
          go_wp2_with fail
          refine SV.out.mono ?_
          rintro r w4 ⟨⟨v4, rfl, hl4⟩, hb4⟩
          have HL4 := hid hl4
          have HB4 := hid (HB3.out.trans (hb4.mono HB3.out.size))
          have EQ2 := hid (Equal_any (encB T) (encB M) v4 u8 w4 hl4.bsq hl4.bsz)
          rw [decide_eq_true HE2.out] at EQ2
          clear SV hl4 hb4 HL3 HB3
          go_wp2_with fail
          refine EQ2.out.mono ?_
          rintro r w5 ⟨rfl, rfl⟩
          have WH := hid (lw_whole HL4.out)
          clear EQ2 HL4
          go_wp2_with fail
          refine WH.out.mono ?_
          rintro r w5 ⟨rfl, -, hb5⟩
          have HB5 := hid (HB4.out.trans (hb5.mono HB4.out.size))
          clear WH hb5 HB4
          go_wp2_with fail
          refine (ST.out w5).mono ?_
          rintro r w6 ⟨rfl, hb6⟩
          have HB6 := hid (HB5.out.trans (hb6.mono HB5.out.size))
          clear hb6 HB5
          go_wp2
          go_ret
          exact ⟨rfl, HB6.out⟩
      case neg =>
        have hi62 : ¬ (6 : Int) ≤ (i : Int) := by omega
        have hi5' : i ≤ 5 := by omega
        obtain ⟨F1, HF1, hF2⟩ := umod fu 40 (by decide) (by decide)
        have hF2' : wrap64 ((IntKind.u64.wrap fu).tmod 40) = (F1 : Int) := hF2
        clear hF2
        have LH := hid (loaded_hd (gr := wr.heap.size) (rc := some #[.slice ap K cp, .int .i64 pk, .int .i64 fu, .int .i64 k0, .int .i64 k1]) HHD1.out KR.out HBR.out.size hi6)
        go_wp2_with fail
        generalize wr.heap.size = gr at LH KR ⊢
        refine LH.out.mono ?_
        rintro r w2 ⟨⟨gb, gl, T, S, M, rfl, hT, hlw⟩, hb2⟩
        have HB2 := hid (HBR.out.trans hb2)
        have HLW := hid hlw
        have HTT := hid hT
        clear LH hlw hb2 hT HHD1 HBR x0 x1 x2 x3 x4 KR
        have SV := hid (lw_save HLW.out (by omega) HB2.out.size)
        go_wp2_with fail
        refine SV.out.mono ?_
        rintro r w3 ⟨⟨v3, rfl, hl3⟩, hb3⟩
        have HL3 := hid hl3
        have HB3 := hid (HB2.out.trans (hb3.mono HB2.out.size))
        have EQ := hid (Equal_any (encB T) (encB S) v3 u7 w3 hl3.bsq hl3.bsy)
        clear SV hl3 hb3 HLW HB2
        by_cases e1 : encB T = encB S
        case pos =>
          rw [decide_eq_true e1] at EQ
          clear e1
          go_wp2_with fail
          refine EQ.out.mono ?_
          rintro r w4 ⟨rfl, rfl⟩
          have WH := hid (lw_whole HL3.out)
          clear EQ HL3
          go_wp2_with fail
          refine WH.out.mono ?_
          rintro r w4 ⟨rfl, hlw, hb5⟩
          have HLW := hid hlw
          have HB2 := hid (HB3.out.trans (hb5.mono HB3.out.size))
          clear WH hb5 HB3 hlw HTT
          have SV := hid (lw_save HLW.out (by omega) HB2.out.size)
          go_wp2_with fail
          refine SV.out.mono ?_
          rintro r w5 ⟨⟨v5, rfl, hl5⟩, hb5⟩
          have HL5 := hid hl5.sure
          have HB5 := hid (HB2.out.trans (hb5.mono HB2.out.size))
          have xf := Blk.look hl5.rv 2 rfl
          clear SV hl5 hb5 HLW HB2
          have FU := hid (lw_fuse HL5.out F1 (by omega) HB5.out.size)
          go_wp2_with fail
          refine FU.out.mono ?_
          rintro r w6 ⟨rfl, hl6, hb6⟩
          have HL6 := hid (hl6.mono (Nat.le_refl 0) (Nat.le_refl (13 * i)) (Nat.le_refl (100 * i + 1)))
          have HB6 := hid (HB5.out.trans hb6)
          have xp := Blk.look hl6.rv 0 rfl
          clear FU hl6 hb6 HL5 HB5 xf
          go_wp2_with fail
          clear xp
          clear HF1 hF2' hi5 hi62
          go_loopw [7, 8, 14, 15, 16, 17, 18, 19, 87] (fun y z _ _ _ _ _ _ x wq => ∃ (k : Nat) (ps : List (List Tr)) (q : Value) (xq : Bts), x = .int .i64 (k : Int) ∧ k ≤ K ∧ k ≤ 12 ∧ Hid (LwI w.heap.size wq gd gl gb gr (some #[.slice ap K cp, .int .i64 pk, .int .i64 fu, .int .i64 k0, .int .i64 k1]) y (encB ps) z (encB ps) q xq ps ps k (13 * i + k) (100 * i + 1 + k)) ∧ Hid (Below w.heap.size w wq)) (fun _ _ _ _ _ _ _ _ x _ => K - (intOf x).toNat)
          case atStart => exact ⟨0, T, _, _, rfl, Nat.zero_le _, Nat.zero_le _, HL6, HB6⟩
          case round =>
            obtain ⟨k, ps, q, xq, rfl, hk, hk12, HLI, HBI⟩ := hrel
            clear HL6 HB6
            by_cases hkK : k < K
            case neg =>
              have hk2 : ¬ (k : Int) < (K : Int) := by omega
              have HRQ := hid HLI.out.rd
              have HBQ := HBI
              clear HLI HBI
              have xk0 := Blk.look HRQ.out.rv 3 rfl
              have xk1 := Blk.look HRQ.out.rv 4 rfl
              have CR := hid (rd_crash (i := i) HRQ.out (by omega) (by omega) HBQ.out.size k0 k1)
              go_wp2_with fail
              refine CR.out.mono ?_
              rintro r wc ⟨rfl, hhd, hbc⟩
              have HHC := hid hhd
              have HBC := hid (HBQ.out.trans hbc)
              clear CR hhd hbc HRQ HBQ xk0 xk1
              go_wp2_with fail
              go_roundw
              case rel => exact ⟨i + 1, by go_num, by omega, by omega, HHC, HBC⟩
              case measure => simp [intOf]; omega
            case pos =>
              have hk2 : (k : Int) < (K : Int) := by omega
              obtain ⟨xx, hxx⟩ : ∃ x, ls[k]? = some x := ⟨_, List.getElem?_eq_getElem (by rw [HK.out]; exact hkK)⟩
              have hsl := HTS.out.1
              rw [HK.out] at hsl
              obtain ⟨gp, op, rfl, hgp, y0⟩ := ts_cell (by rw [HK.out]; exact hsl) hxx
              have htr := HTS.out.2 xx (List.mem_of_getElem? hxx)
              clear hxx hsl
              obtain ⟨xv, xl⟩ := xx
              simp only at y0 htr
              obtain ⟨ax, cx, rfl, -, -, -⟩ := id htr
              replace y0 := (HBI.out.cell (p := ⟨gp, op + k, none⟩) hgp).trans y0
              have HTR := hid htr
              clear htr hgp
              by_cases hk11 : k = 12
              case pos =>
                subst hk11
                have HRQ := hid HLI.out.rd
                have HBQ := HBI
                clear HLI HBI
                have xk0 := Blk.look HRQ.out.rv 3 rfl
                have xk1 := Blk.look HRQ.out.rv 4 rfl
                have CR := hid (rd_crash (i := i) HRQ.out (by omega) (by omega) HBQ.out.size k0 k1)
                go_wp2_with fail
                refine CR.out.mono ?_
                rintro r wc ⟨rfl, hhd, hbc⟩
                have HHC := hid hhd
                have HBC := hid (HBQ.out.trans hbc)
                clear CR hhd hbc HRQ HBQ xk0 xk1
                go_wp2_with fail
                go_roundw
                case rel => exact ⟨i + 1, by go_num, by omega, by omega, HHC, HBC⟩
                case measure => simp [intOf]; omega
              case neg =>
                have hk122 : ¬ (12 : Int) ≤ (k : Int) := by omega
                have hk13 : k ≤ 11 := by omega
                have SV := hid (lw_save HLI.out (by omega) HBI.out.size)
                go_wp2_with fail
                refine SV.out.mono ?_
                rintro r w7 ⟨⟨v7, rfl, hl7⟩, hb7⟩
                have HL7 := hid hl7
                have HB7 := hid (HBI.out.trans (hb7.mono HBI.out.size))
                obtain ⟨a7, c7, rfl, -, -, -⟩ := id hl7.bsq
                obtain ⟨O, hO⟩ : ∃ O, (encB ps).length = O := ⟨_, rfl⟩
                have HO := hid hO
                rw [hO]
                rw [hO] at HL7
                have TF := hid (transfers_any xl _ w7 (TsR.below HTR.out HB7.out))
                clear SV hl7 hb7 HLI HBI hO
                go_wp2_with fail
                clear y0
                refine TF.out.mono ?_
                rintro r w8 ⟨⟨tv, rfl, ho8⟩, hb8⟩
                have HL8 := hid (HL7.out.below hb8)
                have HB8 := hid (HB7.out.trans (hb8.mono HB7.out.size))
                have PO := hid (lw_post HL8.out ho8 (by omega) HB8.out.size)
                clear TF ho8 hb8 HL7 HB7
                go_wp2_with fail
                refine PO.out.mono ?_
                rintro r w9 ⟨⟨hl16, ⟨np, rfl⟩, hl9⟩ | ⟨e, he, rfl, hl9⟩, hb9⟩
                case inr =>
                  have he2 : (e == 0) = false := by rw [beq_eq_false_iff_ne]; exact he
                  have HL9 := hid (hl9.mono (Nat.le_succ k) (show 13 * i + k ≤ 13 * i + (k + 1) by omega) (show 100 * i + 1 + k ≤ 100 * i + 1 + (k + 1) by omega))
                  have HB9 := hid (HB8.out.trans hb9)
                  clear PO he hl9 hb9 HL8 HB8
                  go_wp2_with fail
                  go_roundw
                  case rel => exact ⟨k + 1, ps, _, _, by go_num, by omega, by omega, HL9, HB9⟩
                  case measure => simp [intOf]; omega
                case inl =>
                  obtain ⟨l, hl⟩ : ∃ l, cut18 xl = l := ⟨_, rfl⟩
                  rw [hl] at hl16 hl9
                  have HL9 := hid hl9
                  have HB9 := hid (HB8.out.trans hb9)
                  have SV := hid (lw_save HL9.out (by omega) HB9.out.size)
                  clear PO hl hl9 hb9 HL8 HB8
                  go_wp2_with fail
                  refine SV.out.mono ?_
                  rintro r w10 ⟨⟨v10, rfl, hl10⟩, hb10⟩
                  have hXO : (encB (ps ++ [l])).length = O + (6 * l.length + 1) := by rw [encB_snoc, List.length_append, encP_length, HO.out]
                  obtain ⟨g1, c1, rfl, hXc, hcm⟩ := hl10.row (by omega)
                  unfold maxLen at hcm
                  have HB10 := hid (HB9.out.trans (hb10.mono HB9.out.size))
                  have AD := hid (lw_add hl10 rfl rfl hl16 (by omega) HB10.out.size)
                  obtain ⟨X, hX⟩ : ∃ X, (encB (ps ++ [l])).length = X := ⟨_, rfl⟩
                  rw [hX, HO.out] at AD
                  rw [hX]
                  rw [hX] at hXO hXc
                  have hOX : O ≤ X := by omega
                  have hOc : O ≤ c1 := by omega
                  have hc1O : ¬ c1 = O := by omega
                  have hOXi : (O : Int) ≤ (X : Int) := by omega
                  clear SV hl10 hb10 HL9 HB9 hXO hX
                  go_wp2_with fail
                  refine AD.out.mono ?_
                  rintro r w11 ⟨⟨e, rfl, hor⟩, hb11⟩
                  have HB11 := hid (HB10.out.trans hb11)
                  have HOR := hid hor
                  clear AD hor hb11 HB10 hOX hOc hc1O hOXi hXc
                  by_cases he : e = 0
                  case neg =>
                    have he2 : (e == 0) = false := by rw [beq_eq_false_iff_ne]; exact he
                    have hrd := HOR.out.resolve_left (fun h => he h.1)
                    have RS := hid (rd_save hrd.2 (by omega) HB11.out.size)
                    clear HOR he hrd
                    go_wp2_with fail
                    refine RS.out.mono ?_
                    rintro r w12 ⟨⟨v12, rfl, hrd⟩, hb12⟩
                    have HRQ := hid hrd
                    have HBQ := hid (HB11.out.trans (hb12.mono HB11.out.size))
                    clear RS hrd hb12 HB11
                    have xk0 := Blk.look HRQ.out.rv 3 rfl
                    have xk1 := Blk.look HRQ.out.rv 4 rfl
                    have CR := hid (rd_crash (i := i) HRQ.out (by omega) (by omega) HBQ.out.size k0 k1)
                    go_wp2_with fail
                    refine CR.out.mono ?_
                    rintro r wc ⟨rfl, hhd, hbc⟩
                    have HHC := hid hhd
                    have HBC := hid (HBQ.out.trans hbc)
                    clear CR hhd hbc HRQ HBQ xk0 xk1
                    go_wp2_with fail
                    go_roundw
                    case rel => exact ⟨i + 1, by go_num, by omega, by omega, HHC, HBC⟩
                    case measure => simp [intOf]; omega
                  case pos =>
                    have hli := HOR.out.resolve_right (fun h => h.1 he)
                    subst he
                    have SV := hid (lw_save hli.2 (by omega) HB11.out.size)
                    clear HOR hli
                    go_wp2_with fail
                    refine SV.out.mono ?_
                    rintro r w12 ⟨⟨v12, rfl, hl12⟩, hb12⟩
                    have HL12 := hid hl12.sure
                    have HB12 := hid (HB11.out.trans (hb12.mono HB11.out.size))
                    have xpk := Blk.look hl12.rv 1 rfl
                    clear SV hl12 hb12 HB11
                    by_cases hpk : 0 < pk
                    case neg =>
                      have HL13 := hid (HL12.out.mono (Nat.le_refl _) (show 13 * i + k + 1 ≤ 13 * i + (k + 1) by omega) (show 100 * i + 1 + k ≤ 100 * i + 1 + (k + 1) by omega))
                      clear HL12
                      go_wp2_with fail
                      go_roundw
                      case rel => exact ⟨k + 1, _, _, _, by go_num, by omega, by omega, HL13, HB12⟩
                      case measure => simp [intOf]; omega
                    case pos =>
                      have hpk0 : ¬ pk = 0 := by omega
                      by_cases hkp : (k : Int) % pk = 0
                      case neg =>
                        have HL13 := hid (HL12.out.mono (Nat.le_refl _) (show 13 * i + k + 1 ≤ 13 * i + (k + 1) by omega) (show 100 * i + 1 + k ≤ 100 * i + 1 + (k + 1) by omega))
                        clear HL12
                        go_wp2_with fail
                        go_roundw
                        case rel => exact ⟨k + 1, _, _, _, by go_num, by omega, by omega, HL13, HB12⟩
                        case measure => simp [intOf]; omega
                      case pos =>
                        have SV := hid (lw_save HL12.out (by omega) HB12.out.size)
                        go_wp2_with fail
                        refine SV.out.mono ?_
                        rintro r w13 ⟨⟨v13, rfl, hl13⟩, hb13⟩
                        have HB13 := hid (HB12.out.trans (hb13.mono HB12.out.size))
                        have RW := hid (lw_rewrite hl13 (by omega) (by omega) HB13.out.size)
                        clear SV hl13 hb13 HL12 HB12
                        go_wp2_with fail
                        refine RW.out.mono ?_
                        rintro r w14 ⟨⟨e, rfl, hor⟩, hb14⟩
                        have HB14 := hid (HB13.out.trans hb14)
                        have HOR := hid hor
                        clear RW hor hb14 HB13
                        by_cases he : e = 14
                        case pos =>
                          have hrd := HOR.out.resolve_left (fun h => h.1 he)
                          subst he
                          have HRQ := hid hrd.2
                          have HBQ := HB14
                          clear HOR hrd HB14
                          have xk0 := Blk.look HRQ.out.rv 3 rfl
                          have xk1 := Blk.look HRQ.out.rv 4 rfl
                          have CR := hid (rd_crash (i := i) HRQ.out (by omega) (by omega) HBQ.out.size k0 k1)
                          go_wp2_with fail
                          refine CR.out.mono ?_
                          rintro r wc ⟨rfl, hhd, hbc⟩
                          have HHC := hid hhd
                          have HBC := hid (HBQ.out.trans hbc)
                          clear CR hhd hbc HRQ HBQ xk0 xk1
                          go_wp2_with fail
                          go_roundw
                          case rel => exact ⟨i + 1, by go_num, by omega, by omega, HHC, HBC⟩
                          case measure => simp [intOf]; omega
                        case neg =>
                          have he2 : (e == 14) = false := by rw [beq_eq_false_iff_ne]; exact he
                          have hli := HOR.out.resolve_right (fun h => he h.1)
                          have HL13 := hid (hli.2.mono (Nat.le_refl _) (show 13 * i + k + 1 ≤ 13 * i + (k + 1) by omega) (show 100 * i + 1 + k + 1 ≤ 100 * i + 1 + (k + 1) by omega))
                          clear HOR hli he
                          go_wp2_with fail
                          go_roundw
                          case rel => exact ⟨k + 1, _, _, _, by go_num, by omega, by omega, HL13, HB14⟩
                          case measure => simp [intOf]; omega
        case neg =>
          rw [decide_eq_false e1] at EQ
          have e2 : encB T = encB M := by
            rcases HTT.out with h | h
            · exact absurd (by rw [h]) e1
            · rw [h]
          have HE2 := hid e2
          clear e1 e2
          go_wp2_with fail
          refine EQ.out.mono ?_
          rintro r w4 ⟨rfl, rfl⟩
          clear EQ
          have SV := hid (lw_save HL3.out (by omega) HB3.out.size)
          go_wp2_with fail
          refine SV.out.mono ?_
          rintro r w4 ⟨⟨v4, rfl, hl4⟩, hb4⟩
          have HL4 := hid hl4
          have HB4 := hid (HB3.out.trans (hb4.mono HB3.out.size))
          have EQ2 := hid (Equal_any (encB T) (encB M) v4 u8 w4 hl4.bsq hl4.bsz)
          rw [decide_eq_true HE2.out] at EQ2
          clear SV hl4 hb4 HL3 HB3
          go_wp2_with fail
          refine EQ2.out.mono ?_
          rintro r w5 ⟨rfl, rfl⟩
          have WH := hid (lw_whole HL4.out)
          clear EQ2 HL4
          go_wp2_with fail
          refine WH.out.mono ?_
          rintro r w5 ⟨rfl, hlw, hb5⟩
          have HLW := hid hlw
          have HB2 := hid (HB4.out.trans (hb5.mono HB4.out.size))
          clear WH hb5 HB4 hlw HTT HE2
          have SV := hid (lw_save HLW.out (by omega) HB2.out.size)
          go_wp2_with fail
          refine SV.out.mono ?_
          rintro r w5 ⟨⟨v5, rfl, hl5⟩, hb5⟩
          have HL5 := hid hl5.sure
          have HB5 := hid (HB2.out.trans (hb5.mono HB2.out.size))
          have xf := Blk.look hl5.rv 2 rfl
          clear SV hl5 hb5 HLW HB2
          have FU := hid (lw_fuse HL5.out F1 (by omega) HB5.out.size)
          go_wp2_with fail
          refine FU.out.mono ?_
          rintro r w6 ⟨rfl, hl6, hb6⟩
          have HL6 := hid (hl6.mono (Nat.le_refl 0) (Nat.le_refl (13 * i)) (Nat.le_refl (100 * i + 1)))
          have HB6 := hid (HB5.out.trans hb6)
          have xp := Blk.look hl6.rv 0 rfl
          clear FU hl6 hb6 HL5 HB5 xf
          go_wp2_with fail
          clear xp
          clear HF1 hF2' hi5 hi62
          go_loopw [7, 8, 14, 15, 16, 17, 18, 19, 87] (fun y z _ _ _ _ _ _ x wq => ∃ (k : Nat) (ps : List (List Tr)) (q : Value) (xq : Bts), x = .int .i64 (k : Int) ∧ k ≤ K ∧ k ≤ 12 ∧ Hid (LwI w.heap.size wq gd gl gb gr (some #[.slice ap K cp, .int .i64 pk, .int .i64 fu, .int .i64 k0, .int .i64 k1]) y (encB ps) z (encB ps) q xq ps ps k (13 * i + k) (100 * i + 1 + k)) ∧ Hid (Below w.heap.size w wq)) (fun _ _ _ _ _ _ _ _ x _ => K - (intOf x).toNat)
          case atStart => exact ⟨0, T, _, _, rfl, Nat.zero_le _, Nat.zero_le _, HL6, HB6⟩
          case round =>
            obtain ⟨k, ps, q, xq, rfl, hk, hk12, HLI, HBI⟩ := hrel
            clear HL6 HB6
            by_cases hkK : k < K
            case neg =>
              have hk2 : ¬ (k : Int) < (K : Int) := by omega
              have HRQ := hid HLI.out.rd
              have HBQ := HBI
              clear HLI HBI
              have xk0 := Blk.look HRQ.out.rv 3 rfl
              have xk1 := Blk.look HRQ.out.rv 4 rfl
              have CR := hid (rd_crash (i := i) HRQ.out (by omega) (by omega) HBQ.out.size k0 k1)
              go_wp2_with fail
              refine CR.out.mono ?_
              rintro r wc ⟨rfl, hhd, hbc⟩
              have HHC := hid hhd
              have HBC := hid (HBQ.out.trans hbc)
              clear CR hhd hbc HRQ HBQ xk0 xk1
              go_wp2_with fail
              go_roundw
              case rel => exact ⟨i + 1, by go_num, by omega, by omega, HHC, HBC⟩
              case measure => simp [intOf]; omega
            case pos =>
              have hk2 : (k : Int) < (K : Int) := by omega
              obtain ⟨xx, hxx⟩ : ∃ x, ls[k]? = some x := ⟨_, List.getElem?_eq_getElem (by rw [HK.out]; exact hkK)⟩
              have hsl := HTS.out.1
              rw [HK.out] at hsl
              obtain ⟨gp, op, rfl, hgp, y0⟩ := ts_cell (by rw [HK.out]; exact hsl) hxx
              have htr := HTS.out.2 xx (List.mem_of_getElem? hxx)
              clear hxx hsl
              obtain ⟨xv, xl⟩ := xx
              simp only at y0 htr
              obtain ⟨ax, cx, rfl, -, -, -⟩ := id htr
              replace y0 := (HBI.out.cell (p := ⟨gp, op + k, none⟩) hgp).trans y0
              have HTR := hid htr
              clear htr hgp
              by_cases hk11 : k = 12
              case pos =>
                subst hk11
                have HRQ := hid HLI.out.rd
                have HBQ := HBI
                clear HLI HBI
                have xk0 := Blk.look HRQ.out.rv 3 rfl
                have xk1 := Blk.look HRQ.out.rv 4 rfl
                have CR := hid (rd_crash (i := i) HRQ.out (by omega) (by omega) HBQ.out.size k0 k1)
                go_wp2_with fail
                refine CR.out.mono ?_
                rintro r wc ⟨rfl, hhd, hbc⟩
                have HHC := hid hhd
                have HBC := hid (HBQ.out.trans hbc)
                clear CR hhd hbc HRQ HBQ xk0 xk1
                go_wp2_with fail
                go_roundw
                case rel => exact ⟨i + 1, by go_num, by omega, by omega, HHC, HBC⟩
                case measure => simp [intOf]; omega
              case neg =>
                have hk122 : ¬ (12 : Int) ≤ (k : Int) := by omega
                have hk13 : k ≤ 11 := by omega
                have SV := hid (lw_save HLI.out (by omega) HBI.out.size)
                go_wp2_with fail
                refine SV.out.mono ?_
                rintro r w7 ⟨⟨v7, rfl, hl7⟩, hb7⟩
                have HL7 := hid hl7
                have HB7 := hid (HBI.out.trans (hb7.mono HBI.out.size))
                obtain ⟨a7, c7, rfl, -, -, -⟩ := id hl7.bsq
                obtain ⟨O, hO⟩ : ∃ O, (encB ps).length = O := ⟨_, rfl⟩
                have HO := hid hO
                rw [hO]
                rw [hO] at HL7
                have TF := hid (transfers_any xl _ w7 (TsR.below HTR.out HB7.out))
                clear SV hl7 hb7 HLI HBI hO
                go_wp2_with fail
                clear y0
                refine TF.out.mono ?_
                rintro r w8 ⟨⟨tv, rfl, ho8⟩, hb8⟩
                have HL8 := hid (HL7.out.below hb8)
                have HB8 := hid (HB7.out.trans (hb8.mono HB7.out.size))
                have PO := hid (lw_post HL8.out ho8 (by omega) HB8.out.size)
                clear TF ho8 hb8 HL7 HB7
                go_wp2_with fail
                refine PO.out.mono ?_
                rintro r w9 ⟨⟨hl16, ⟨np, rfl⟩, hl9⟩ | ⟨e, he, rfl, hl9⟩, hb9⟩
                case inr =>
                  have he2 : (e == 0) = false := by rw [beq_eq_false_iff_ne]; exact he
                  have HL9 := hid (hl9.mono (Nat.le_succ k) (show 13 * i + k ≤ 13 * i + (k + 1) by omega) (show 100 * i + 1 + k ≤ 100 * i + 1 + (k + 1) by omega))
                  have HB9 := hid (HB8.out.trans hb9)
                  clear PO he hl9 hb9 HL8 HB8
                  go_wp2_with fail
                  go_roundw
                  case rel => exact ⟨k + 1, ps, _, _, by go_num, by omega, by omega, HL9, HB9⟩
                  case measure => simp [intOf]; omega
                case inl =>
                  obtain ⟨l, hl⟩ : ∃ l, cut18 xl = l := ⟨_, rfl⟩
                  rw [hl] at hl16 hl9
                  have HL9 := hid hl9
                  have HB9 := hid (HB8.out.trans hb9)
                  have SV := hid (lw_save HL9.out (by omega) HB9.out.size)
                  clear PO hl hl9 hb9 HL8 HB8
                  go_wp2_with fail
                  refine SV.out.mono ?_
                  rintro r w10 ⟨⟨v10, rfl, hl10⟩, hb10⟩
                  have hXO : (encB (ps ++ [l])).length = O + (6 * l.length + 1) := by rw [encB_snoc, List.length_append, encP_length, HO.out]
                  obtain ⟨g1, c1, rfl, hXc, hcm⟩ := hl10.row (by omega)
                  unfold maxLen at hcm
                  have HB10 := hid (HB9.out.trans (hb10.mono HB9.out.size))
                  have AD := hid (lw_add hl10 rfl rfl hl16 (by omega) HB10.out.size)
                  obtain ⟨X, hX⟩ : ∃ X, (encB (ps ++ [l])).length = X := ⟨_, rfl⟩
                  rw [hX, HO.out] at AD
                  rw [hX]
                  rw [hX] at hXO hXc
                  have hOX : O ≤ X := by omega
                  have hOc : O ≤ c1 := by omega
                  have hc1O : ¬ c1 = O := by omega
                  have hOXi : (O : Int) ≤ (X : Int) := by omega
                  clear SV hl10 hb10 HL9 HB9 hXO hX
                  go_wp2_with fail
                  refine AD.out.mono ?_
                  rintro r w11 ⟨⟨e, rfl, hor⟩, hb11⟩
                  have HB11 := hid (HB10.out.trans hb11)
                  have HOR := hid hor
                  clear AD hor hb11 HB10 hOX hOc hc1O hOXi hXc
                  by_cases he : e = 0
                  case neg =>
                    have he2 : (e == 0) = false := by rw [beq_eq_false_iff_ne]; exact he
                    have hrd := HOR.out.resolve_left (fun h => he h.1)
                    have RS := hid (rd_save hrd.2 (by omega) HB11.out.size)
                    clear HOR he hrd
                    go_wp2_with fail
                    refine RS.out.mono ?_
                    rintro r w12 ⟨⟨v12, rfl, hrd⟩, hb12⟩
                    have HRQ := hid hrd
                    have HBQ := hid (HB11.out.trans (hb12.mono HB11.out.size))
                    clear RS hrd hb12 HB11
                    have xk0 := Blk.look HRQ.out.rv 3 rfl
                    have xk1 := Blk.look HRQ.out.rv 4 rfl
                    have CR := hid (rd_crash (i := i) HRQ.out (by omega) (by omega) HBQ.out.size k0 k1)
                    go_wp2_with fail
                    refine CR.out.mono ?_
                    rintro r wc ⟨rfl, hhd, hbc⟩
                    have HHC := hid hhd
                    have HBC := hid (HBQ.out.trans hbc)
                    clear CR hhd hbc HRQ HBQ xk0 xk1
                    go_wp2_with fail
                    go_roundw
                    case rel => exact ⟨i + 1, by go_num, by omega, by omega, HHC, HBC⟩
                    case measure => simp [intOf]; omega
                  case pos =>
                    have hli := HOR.out.resolve_right (fun h => h.1 he)
                    subst he
                    have SV := hid (lw_save hli.2 (by omega) HB11.out.size)
                    clear HOR hli
                    go_wp2_with fail
                    refine SV.out.mono ?_
                    rintro r w12 ⟨⟨v12, rfl, hl12⟩, hb12⟩
                    have HL12 := hid hl12.sure
                    have HB12 := hid (HB11.out.trans (hb12.mono HB11.out.size))
                    have xpk := Blk.look hl12.rv 1 rfl
                    clear SV hl12 hb12 HB11
                    by_cases hpk : 0 < pk
                    case neg =>
                      have HL13 := hid (HL12.out.mono (Nat.le_refl _) (show 13 * i + k + 1 ≤ 13 * i + (k + 1) by omega) (show 100 * i + 1 + k ≤ 100 * i + 1 + (k + 1) by omega))
                      clear HL12
                      go_wp2_with fail
                      go_roundw
                      case rel => exact ⟨k + 1, _, _, _, by go_num, by omega, by omega, HL13, HB12⟩
                      case measure => simp [intOf]; omega
                    case pos =>
                      have hpk0 : ¬ pk = 0 := by omega
                      by_cases hkp : (k : Int) % pk = 0
                      case neg =>
                        have HL13 := hid (HL12.out.mono (Nat.le_refl _) (show 13 * i + k + 1 ≤ 13 * i + (k + 1) by omega) (show 100 * i + 1 + k ≤ 100 * i + 1 + (k + 1) by omega))
                        clear HL12
                        go_wp2_with fail
                        go_roundw
                        case rel => exact ⟨k + 1, _, _, _, by go_num, by omega, by omega, HL13, HB12⟩
                        case measure => simp [intOf]; omega
                      case pos =>
                        have SV := hid (lw_save HL12.out (by omega) HB12.out.size)
                        go_wp2_with fail
                        refine SV.out.mono ?_
                        rintro r w13 ⟨⟨v13, rfl, hl13⟩, hb13⟩
                        have HB13 := hid (HB12.out.trans (hb13.mono HB12.out.size))
                        have RW := hid (lw_rewrite hl13 (by omega) (by omega) HB13.out.size)
                        clear SV hl13 hb13 HL12 HB12
                        go_wp2_with fail
                        refine RW.out.mono ?_
                        rintro r w14 ⟨⟨e, rfl, hor⟩, hb14⟩
                        have HB14 := hid (HB13.out.trans hb14)
                        have HOR := hid hor
                        clear RW hor hb14 HB13
                        by_cases he : e = 14
                        case pos =>
                          have hrd := HOR.out.resolve_left (fun h => h.1 he)
                          subst he
                          have HRQ := hid hrd.2
                          have HBQ := HB14
                          clear HOR hrd HB14
                          have xk0 := Blk.look HRQ.out.rv 3 rfl
                          have xk1 := Blk.look HRQ.out.rv 4 rfl
                          have CR := hid (rd_crash (i := i) HRQ.out (by omega) (by omega) HBQ.out.size k0 k1)
                          go_wp2_with fail
                          refine CR.out.mono ?_
                          rintro r wc ⟨rfl, hhd, hbc⟩
                          have HHC := hid hhd
                          have HBC := hid (HBQ.out.trans hbc)
                          clear CR hhd hbc HRQ HBQ xk0 xk1
                          go_wp2_with fail
                          go_roundw
                          case rel => exact ⟨i + 1, by go_num, by omega, by omega, HHC, HBC⟩
                          case measure => simp [intOf]; omega
                        case neg =>
                          have he2 : (e == 14) = false := by rw [beq_eq_false_iff_ne]; exact he
                          have hli := HOR.out.resolve_right (fun h => he h.1)
                          have HL13 := hid (hli.2.mono (Nat.le_refl _) (show 13 * i + k + 1 ≤ 13 * i + (k + 1) by omega) (show 100 * i + 1 + k + 1 ≤ 100 * i + 1 + (k + 1) by omega))
                          clear HOR hli he
                          go_wp2_with fail
                          go_roundw
                          case rel => exact ⟨k + 1, _, _, _, by go_num, by omega, by omega, HL13, HB14⟩
                          case measure => simp [intOf]; omega

end Go.Proofs.Ytcpefolhohakmaa
