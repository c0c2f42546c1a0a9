/- Walk of Save. -/
import Derived.Test.YtcpefolhohakmaaV5
namespace Go.Proofs.Ytcpefolhohakmaa
open Go.RowKit
attribute [local irreducible] seqS seqST walkV walkJ

theorem encB_step (ps : List (List Tr)) {k : Nat} (h : k < ps.length) : encB (ps.take (k + 1)) = encB (ps.take k) ++ encP (ps.getD k []) := by
  rw [List.take_succ_eq_append_getElem h, encB_snoc, List.getD_eq_getElem?_getD, List.getElem?_eq_getElem h]; rfl
theorem encL_step (l : List Tr) {k : Nat} (h : k < l.length) : encL (l.take (k + 1)) = encL (l.take k) ++ encT (l.getD k ⟨0, 0, 0, 0⟩) := by
  rw [List.take_succ_eq_append_getElem h, List.getD_eq_getElem?_getD, List.getElem?_eq_getElem h]
  unfold encL
  rw [List.flatMap_append]
  simp only [List.flatMap_cons, List.flatMap_nil, List.append_nil]
  rfl
theorem encB_take_le (ps : List (List Tr)) (k : Nat) : (encB (ps.take k)).length ≤ (encB ps).length := by
  conv => rhs; rw [← List.take_append_drop k ps]
  unfold encB
  rw [List.flatMap_append, List.length_append]; omega
theorem GrwO.bel {w w' : World} {v v' : Value} (h : GrwO w w' v v') {B n : Nat} {xs : List Value} {e : TypeId} {s : Nat} (ho : w.ownsRow B e s v n xs) (hB : B ≤ w.heap.size) : Below B w w' := (Below.refl B w).grown h.g hB (fun k hk => (ho.lt k hk).1)
theorem trs_cell {lo : Nat} {w : World} {ao : Option Addr} {n cap : Nat} {vs : List Value} (h : w.ownsRow lo 62 1 (.slice ao n cap) n vs) {i : Nat} (hi : i < vs.length) : ∃ g off, ao = some ⟨g, off, none⟩ ∧ g < w.heap.size ∧ w.cell? ⟨g, off + i, none⟩ = some (vs.getD i undef) := by
  obtain ⟨ao', cap', e, -, -, hc⟩ := SlR.of_owns h
  cases e
  obtain ⟨g, off, h1, -, h3, h4⟩ := hc (by intro e; rw [e] at hi; exact absurd hi (Nat.not_lt_zero _))
  exact ⟨g, off, h1, h3, h4 i hi⟩

set_option maxHeartbeats 4000000 in
set_option maxRecDepth 100000 in
theorem Save_any (gb : Nat) (c : List Int) (ch : Nat → Int) (vp : Value) (vs : List Value) (ps : List (List Tr)) (lo : Nat) (w : World) (h : BkB w gb c ch vp) (hpo : w.ownsRow lo 62 1 vp ps.length vs) (hps : TrsO lo w vs ps) (hn : ps.length ≤ 1000) (hok : ∀ l ∈ ps, l.length ≤ 16 ∧ ∀ t ∈ l, t.Ok) :
    Calls Try.prog 18 #[.pointer (some ⟨gb, 0, none⟩)] w fun r w' => (∃ v', r = .returned v' ∧ w'.ownsRow w.heap.size 5 1 v' (encB ps).length (u8V (encB ps))) ∧ Below w.heap.size w w' := by
  have BN := hid (bnone_any gb c ch vp w h)
  have xp := h.cP
  have HPO := hid hpo
  have HPS := hid hps
  have HOK := hid hok
  have HBL := hid (encB_bound (fun l hl => (hok l hl).1))
  have hpl := hps.1
  obtain ⟨ap, cp, rfl, hcp, hmp, -⟩ := SlR.of_owns hpo
  unfold maxLen at hmp
  obtain ⟨P, hP⟩ : ∃ P, ps.length = P := ⟨_, rfl⟩
  have HP := hid hP
  have HVL := hid (hpl.trans hP)
  rw [hP] at hcp xp HPO HBL hn
  clear hpl h hpo hps hok hP
  go_enter Try.func18, Try.ntmps18
  go_wp2_with fail
  refine BN.out.mono ?_
  rintro r w1 ⟨rfl, rfl⟩
  clear BN
  go_wp2_with fail
  go_loopw [3, 5, 7, 15] (fun y _ _ z wr => ∃ k : Nat, z = .int .i64 (k : Int) ∧ k ≤ P ∧ Hid (Below w.heap.size w wr) ∧ Hid (wr.ownsRow w.heap.size 5 1 y (encB (ps.take k)).length (u8V (encB (ps.take k))))) (fun _ _ _ z _ => P - (intOf z).toNat)
  case atStart => exact ⟨0, rfl, Nat.zero_le _, hid (Below.refl _ _), hid (World.ownsRow_nil _ _ _ _)⟩
  case round =>
    obtain ⟨k, rfl, hk, HB, HO⟩ := hrel
    by_cases hkP : k < P
    case neg =>
      obtain rfl : P = k := by omega
      have hk2 : ¬ (P : Int) < (P : Int) := by omega
      have HF : Hid (wr.ownsRow w.heap.size 5 1 u3 (encB ps).length (u8V (encB ps))) := hid (by have := HO.out; rwa [List.take_of_length_le (by rw [HP.out]; exact Nat.le_refl _)] at this)
      go_wp2
      go_ret
      exact ⟨⟨_, rfl, HF.out⟩, HB.out⟩
    case pos =>
      have hk2 : (k : Int) < (P : Int) := by omega
      obtain ⟨gx, ox, rfl, hgx, x0⟩ := trs_cell HPO.out (show k < vs.length by rw [HVL.out]; exact hkP)
      have hli := HPS.out.2 k (by rw [HP.out]; exact hkP)
      obtain ⟨ai, ci, hvi, -⟩ := SlR.of_owns hli
      rw [hvi] at x0 hli
      have x1 := (HB.out.cell (p := ⟨gx, ox + k, none⟩) hgx).trans x0
      have hst := encB_step ps (show k < ps.length by rw [HP.out]; exact hkP)
      have hle1 := encB_take_le ps (k + 1)
      have hol := HOK.out (ps.getD k []) (by rw [List.getD_eq_getElem?_getD, List.getElem?_eq_getElem (by rw [HP.out]; exact hkP)]; exact List.getElem_mem _)
      obtain ⟨l, hl⟩ : ∃ l, ps.getD k [] = l := ⟨_, rfl⟩
      rw [hl] at x1 hli hst hol
      obtain ⟨E, hE⟩ : ∃ E, encB (ps.take k) = E := ⟨_, rfl⟩
      rw [hE] at HO hst
      rw [hst, List.length_append, encP_length] at hle1
      have hb9 := HBL.out
      obtain ⟨L, hL⟩ : ∃ L, l.length = L := ⟨_, rfl⟩
      rw [hL] at x1 hli hol hle1
      have HL := hid hL
      have HST := hid hst
      have HLI := hid (SlR.of_owns (owns_low hli (Nat.zero_le _)))
      have hcap : L ≤ ci := by
        obtain ⟨ao, cap, e, h1, -⟩ := SlR.of_owns hli
        cases e; exact h1
      have HOL := hid hol.2
      have hol1 := hol.1
      clear hvi hli x0 hl hE hL hst hol
      have hu1 : u8V [UInt8.ofNat L] = [.int .u8 (L : Int)] := by
        show [Value.int .u8 _] = _
        rw [u8_toNat (by omega)]
      have kL := Blk.new wr #[.int .u8 (L : Int)] 5
      have bL := alloc_below wr (.cells #[.int .u8 (L : Int)] 5)
      have HLb := hid (blk_bs (b := [UInt8.ofNat L]) kL (by rw [hu1]) (by simp))
      have HOL1 := hid (owns_below HO.out bL)
      have hsL : w.heap.size ≤ (wr.alloc (.cells #[.int .u8 (L : Int)] 5)).heap.size := Nat.le_trans HB.out.size bL.size
      have HBl := hid (HB.out.trans (bL.mono HB.out.size))
      have HE1 : Hid (E.length + 1 = (E ++ [UInt8.ofNat L]).length ∧ u8V E ++ u8V [UInt8.ofNat L] = u8V (E ++ [UInt8.ofNat L])) := hid ⟨by simp, (u8V_append _ _).symm⟩
      clear hu1 kL bL HO HB
      go_wp2_with (at_builtin; refine wpList_appV rfl (.tmp 19) (.tmp 23) rfl w.heap.size rfl HOL1.out rfl HLb.out (by simp; omega) hsL ?_; intro v3 w3 ho3 hg3)
      have hb3 := hg3.bel HOL1.out hsL
      have HB3 := hid (HBl.out.trans hb3)
      rw [show E.length + [UInt8.ofNat L].length = E.length + 1 from rfl] at ho3
      obtain ⟨a3, c3, rfl, -⟩ := SlR.of_owns ho3
      obtain ⟨E1, hE1⟩ : ∃ E1, E ++ [UInt8.ofNat L] = E1 := ⟨_, rfl⟩
      have HO3 : Hid (w3.ownsRow w.heap.size 5 1 (.slice a3 (E.length + 1) c3) E1.length (u8V E1)) := hid (by
        have h9 := ho3
        rw [HE1.out.2] at h9
        rw [← hE1, ← HE1.out.1]
        exact h9)
      have hE1l : E1.length = E.length + 1 := by rw [← hE1]; simp
      have HST2 : Hid (encB (ps.take (k + 1)) = E1 ++ encL l) := hid (by rw [HST.out, ← hE1]; unfold encP; rw [HL.out]; simp)
      clear ho3 hg3 hb3 HBl HOL1 HLb HE1 hE1 x1 HST
      go_wp2_with fail
      go_loopw [3, 7, 27] (fun y _ z wq => ∃ j : Nat, z = .int .i64 (j : Int) ∧ j ≤ L ∧ Hid (Below w.heap.size w wq) ∧ Hid (wq.ownsRow w.heap.size 5 1 y (E1 ++ encL (l.take j)).length (u8V (E1 ++ encL (l.take j))))) (fun _ _ z _ => L - (intOf z).toNat)
      case atStart => exact ⟨0, rfl, Nat.zero_le _, HB3, hid (by have h9 := HO3.out; simpa [encL] using h9)⟩
      case round =>
        obtain ⟨j, rfl, hj, HB4, HO4⟩ := hrel
        by_cases hjL : j < L
        case neg =>
          obtain rfl : L = j := by omega
          have hj2 : ¬ (L : Int) < (L : Int) := by omega
          have HF : Hid (wr.ownsRow w.heap.size 5 1 u3 (encB (ps.take (k + 1))).length (u8V (encB (ps.take (k + 1))))) := hid (by
            have h9 := HO4.out
            rw [List.take_of_length_le (by rw [HL.out]; exact Nat.le_refl _)] at h9
            rw [HST2.out]; exact h9)
          clear HO4 HB3 HO3
          go_wp2_with fail
          go_roundw
          case rel => exact ⟨k + 1, by go_num, by omega, HB4, HF⟩
          case measure => simp [intOf]; omega
        case pos =>
          have hj2 : (j : Int) < (L : Int) := by omega
          have hsl := SlR.below HLI.out HB4.out
          obtain ⟨ao', cap', e, -, -, hcs⟩ := hsl
          cases e
          obtain ⟨g, off, rfl, hg, y0, y1, y2, y3⟩ := tr_cell hcs (show j < l.length by rw [HL.out]; exact hjL)
          have hok : (l.getD j ⟨0, 0, 0, 0⟩).Ok := HOL.out _ (by
            rw [List.getD_eq_getElem?_getD, List.getElem?_eq_getElem (by rw [HL.out]; exact hjL)]
            exact List.getElem_mem _)
          have hst := encL_step l (show j < l.length by rw [HL.out]; exact hjL)
          obtain ⟨t, ht⟩ : ∃ t, l.getD j ⟨0, 0, 0, 0⟩ = t := ⟨_, rfl⟩
          rw [ht] at y0 y1 y2 y3 hok hst
          clear ht hcs
          obtain ⟨ti, ts, td, tn⟩ := t
          obtain ⟨⟨a1, a2⟩, ⟨b1, b2⟩, ⟨c1, c2⟩, hsd, d1, d2⟩ := hok
          simp only at y0 y1 y2 y3 a1 a2 b1 b2 c1 c2 hsd d1 d2
          obtain ⟨i, rfl⟩ : ∃ i : Nat, ti = i := ⟨ti.toNat, by omega⟩
          obtain ⟨sr, rfl⟩ : ∃ i : Nat, ts = i := ⟨ts.toNat, by omega⟩
          obtain ⟨de, rfl⟩ : ∃ i : Nat, td = i := ⟨td.toNat, by omega⟩
          obtain ⟨M, rfl⟩ : ∃ i : Nat, tn = i := ⟨tn.toNat, by omega⟩
          have hel : (E1 ++ encL (l.take j)).length ≤ 100000 := by
            rw [List.length_append, encL_length, List.length_take, hE1l]; omega
          have HSTL : Hid (encL (l.take (j + 1)) = encL (l.take j) ++ ([UInt8.ofNat (i * 16 + sr), UInt8.ofNat de] ++ putN M 4)) := hid hst
          clear hst hsd
          obtain ⟨X, hX⟩ : ∃ X, E1 ++ encL (l.take j) = X := ⟨_, rfl⟩
          rw [hX] at HO4 hel
          have HX := hid hX
          clear hX
          have hu2 : u8V [UInt8.ofNat (i * 16 + sr), UInt8.ofNat de] = [.int .u8 ((i : Int) * 16 + (sr : Int)), .int .u8 (de : Int)] := by
            show [Value.int .u8 _, Value.int .u8 _] = _
            rw [u8_toNat (show i * 16 + sr < 256 by omega), u8_toNat (show de < 256 by omega)]
            simp
          have kT := Blk.new wr #[.int .i64 (i : Int), .int .i64 (sr : Int), .int .i64 (de : Int), .int .i64 (M : Int)] 103
          have bT := alloc_below wr (.cells #[.int .i64 (i : Int), .int .i64 (sr : Int), .int .i64 (de : Int), .int .i64 (M : Int)] 103)
          have kB := Blk.new (wr.alloc (.cells #[.int .i64 (i : Int), .int .i64 (sr : Int), .int .i64 (de : Int), .int .i64 (M : Int)] 103)) #[.int .u8 ((i : Int) * 16 + (sr : Int)), .int .u8 (de : Int)] 5
          have bB := alloc_below (wr.alloc (.cells #[.int .i64 (i : Int), .int .i64 (sr : Int), .int .i64 (de : Int), .int .i64 (M : Int)] 103)) (.cells #[.int .u8 ((i : Int) * 16 + (sr : Int)), .int .u8 (de : Int)] 5)
          rw [World.size_alloc] at kB
          have HLb := hid (blk_bs (b := [UInt8.ofNat (i * 16 + sr), UInt8.ofNat de]) kB (by rw [hu2]) (by simp))
          have HO5 := hid (owns_below (owns_below HO4.out bT) bB)
          have KT5 := hid (kT.below bB)
          have hb5 := bT.trans (bB.mono bT.size)
          have HB5 := hid (HB4.out.trans (hb5.mono HB4.out.size))
          have hs5 : w.heap.size ≤ ((wr.alloc (.cells #[.int .i64 (i : Int), .int .i64 (sr : Int), .int .i64 (de : Int), .int .i64 (M : Int)] 103)).alloc (.cells #[.int .u8 ((i : Int) * 16 + (sr : Int)), .int .u8 (de : Int)] 5)).heap.size := HB5.out.size
          have HNT : Hid (∀ x, u3.ownBlock = some x → x ≠ wr.heap.size) := hid (owns_blk_neT HO5.out KT5.out (by decide))
          clear hu2 kT bT kB bB hb5 HO4 HB4
          go_wp2_with (at_builtin; refine wpList_appV rfl (.tmp 31) (.tmp 42) rfl w.heap.size rfl HO5.out rfl HLb.out (by simp; omega) hs5 ?_; intro v6 w6 ho6 hg6; have kT6 := (hg6.g.block wr.heap.size KT5.out.lt (fun e => HNT.out _ e.symm rfl)).trans KT5.out; have x3 := Blk.look kT6 3 rfl; have hb6 := hg6.bel HO5.out hs5)
          rw [← u8V_append] at ho6
          have HB6 := hid (HB5.out.trans hb6)
          have P1 := hid (putNumber_any M 4 (by omega) w.heap.size _ _ v6 w6 (by simp; omega) HB6.out.size ho6)
          clear ho6 hg6 kT6 hb6 HLb HO5 KT5 HB5 hs5 HNT
          go_wp2_with fail
          refine P1.out.mono ?_
          rintro r w7 ⟨⟨v7, rfl, ho7, -⟩, hb7⟩
          have HB7 := hid (HB6.out.trans hb7)
          have HO7 : Hid (w7.ownsRow w.heap.size 5 1 v7 (E1 ++ encL (l.take (j + 1))).length (u8V (E1 ++ encL (l.take (j + 1))))) := hid (by
            have e : X ++ [UInt8.ofNat (i * 16 + sr), UInt8.ofNat de] ++ putN M 4 = E1 ++ encL (l.take (j + 1)) := by rw [HSTL.out, ← HX.out]; simp [List.append_assoc]
            have e2 : (E1 ++ encL (l.take (j + 1))).length = X.length + [UInt8.ofNat (i * 16 + sr), UInt8.ofNat de].length + 4 := by rw [← e]; simp [putN_length]
            rw [e2, ← e]; exact ho7)
          clear P1 hb7 ho7 x3 y0 y1 y2 y3 HB6
          go_wp2_with fail
          go_roundw
          case rel => exact ⟨j + 1, by go_num, by omega, HB7, HO7⟩
          case measure => simp [intOf]; omega

end Go.Proofs.Ytcpefolhohakmaa
