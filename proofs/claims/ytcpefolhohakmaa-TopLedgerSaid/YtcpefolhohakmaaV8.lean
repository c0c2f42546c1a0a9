/- Walks of the law's own helpers: whole0, transfers. -/
import Derived.Test.YtcpefolhohakmaaV5
namespace Go.Proofs.Ytcpefolhohakmaa
open Go.RowKit
attribute [local irreducible] seqS seqST walkV walkJ

set_option maxHeartbeats 4000000 in
set_option maxRecDepth 100000 in
theorem whole0_any (gb : Nat) (c : List Int) (ch : Nat → Int) (vp : Value) (w : World) (h : BkB w gb c ch vp) (hc : Cnts c) :
    Calls Try.prog 19 #[.pointer (some ⟨gb, 0, none⟩)] w fun r w' => r = .returned (.bool true) ∧ Below w.heap.size w w' := by
  have HE := hid (fun p i W (k : Below w.heap.size w W) hp hi => Held_any gb p i c ch vp W (h.below k) hp hi)
  have TO := hid (fun i W (k : Below w.heap.size w W) hi => Total_any gb i c ch vp W (h.below k) hi hc.bd)
  have HC := hid hc
  clear h hc
  go_enter Try.func19, Try.ntmps19
  go_wp2_with fail
  go_loopw [3, 4, 5, 6, 7, 8, 9, 10] (fun _ _ _ _ _ _ _ z wr => ∃ k : Nat, z = .int .i64 (k : Int) ∧ k ≤ 16 ∧ Hid (Below w.heap.size w wr)) (fun _ _ _ _ _ _ _ z _ => 16 - (intOf z).toNat)
  case atStart => exact ⟨0, rfl, Nat.zero_le _, hid (Below.refl _ _)⟩
  case round =>
    obtain ⟨k, rfl, hk, HB⟩ := hrel
    by_cases hk16 : k < 16
    case neg =>
      obtain rfl : k = 16 := by omega
      have hk2 : ¬ ((16 : Nat) : Int) < 16 := by omega
      go_wp2
      go_ret
      exact ⟨rfl, HB.out⟩
    case pos =>
      have hk2 : (k : Int) < 16 := by omega
      have HT := hid (HC.out.tot k hk16)
      have HBN := hid (totN_bd c k hk16 HC.out.bd)
      go_wp2_with fail
      go_loopw [4, 5, 6, 7, 13] (fun y _ _ _ z wq => ∃ p : Nat, z = .int .i64 (p : Int) ∧ p ≤ 16 ∧ y = .int .i64 (totN c k p) ∧ Hid (Below w.heap.size w wq)) (fun _ _ _ _ z _ => 16 - (intOf z).toNat)
      case atStart => exact ⟨0, rfl, Nat.zero_le _, rfl, HB⟩
      case round =>
        obtain ⟨p, rfl, hp, rfl, HB2⟩ := hrel
        by_cases hp16 : p < 16
        case neg =>
          obtain rfl : p = 16 := by omega
          have hp2 : ¬ ((16 : Nat) : Int) < 16 := by omega
          have ht : totN c k 16 = 0 := HT.out
          have TO1 := hid (TO.out k wr HB2.out hk16)
          rw [HT.out] at TO1
          rw [ht]
          go_wp2_with fail
          refine TO1.out.mono ?_
          rintro r w1 ⟨rfl, hb1⟩
          have HB3 := hid (HB2.out.trans (hb1.mono HB2.out.size))
          clear TO1 hb1 HB2
          go_wp2_with fail
          go_roundw
          case rel => exact ⟨k + 1, by go_num, by omega, HB3⟩
          case measure => simp [intOf]; omega
        case pos =>
          have hp2 : (p : Int) < 16 := by omega
          have HE1 := hid (HE.out p k wr HB2.out hp16 hk16)
          have hst := totN_succ c k p
          have hb1 := HBN.out p (by omega)
          have hb2 := HC.out.bd (p * 16 + k) (by omega)
          have hpos : 0 < p → 0 ≤ c.getD (p * 16 + k) 0 := fun h0 => HC.out.pos (p * 16 + k) (by omega) (by omega)
          obtain ⟨X, hX⟩ : ∃ X, c.getD (p * 16 + k) 0 = X := ⟨_, rfl⟩
          obtain ⟨Y, hY⟩ : ∃ X, totN c k p = X := ⟨_, rfl⟩
          rw [hX] at HE1 hst hb2 hpos
          rw [hY] at hst hb1 ⊢
          have hw1 : IntKind.i64.wrap (Y + X) = Y + X := wrap_id (by omega) (by omega)
          have HST := hid hst
          clear hX hY hst
          go_wp2_with fail
          refine HE1.out.mono ?_
          rintro r w1 ⟨rfl, hb3⟩
          have HB3 := hid (HB2.out.trans (hb3.mono HB2.out.size))
          clear HE1 hb3 HB2
          by_cases hp0 : 0 < p
          · have hx0 : ¬ X < 0 := by have := hpos hp0; omega
            have hp3 : (0 : Int) < (p : Int) := by omega
            clear hpos
            go_wp2_with fail
            go_roundw
            case rel => exact ⟨p + 1, by go_num, by omega, by rw [HST.out], HB3⟩
            case measure => simp [intOf]; omega
          · have hp3 : ¬ (0 : Int) < (p : Int) := by omega
            clear hpos
            go_wp2_with fail
            go_roundw
            case rel => exact ⟨p + 1, by go_num, by omega, by rw [HST.out], HB3⟩
            case measure => simp [intOf]; omega

def cut18 (l : List Tr) : List Tr := l.take 18

set_option maxHeartbeats 4000000 in
set_option maxRecDepth 100000 in
theorem transfers_any (l : List Tr) (v : Value) (w : World) (h : TsR 0 w v l) :
    Calls Try.prog 22 #[v] w fun r w' => (∃ z, r = .returned z ∧ w'.ownsRow w.heap.size 103 4 z (cut18 l).length (trsC (cut18 l))) ∧ Below w.heap.size w w' := by
  obtain ⟨ao, cap, rfl, hcap, hmax, hc⟩ := h
  unfold maxLen at hmax
  have HC := hid hc
  obtain ⟨n, hn⟩ : ∃ n, l.length = n := ⟨_, rfl⟩
  have HN := hid hn
  rw [hn] at hcap
  rw [hn]
  have HO0 : Hid (w.ownsRow w.heap.size 103 4 (.slice none 0 0) 0 (trsC [])) := hid (World.ownsRow_nil _ _ _ _)
  obtain ⟨BW, hBW⟩ : ∃ x, w.heap.size = x := ⟨_, rfl⟩
  rw [hBW] at HO0 ⊢
  have HBW := hid hBW
  clear hc hn hBW
  go_enter Try.func22, Try.ntmps22
  go_wp2_with fail
  go_loopw [3, 4, 5, 8] (fun ro _ _ z wr => ∃ k : Nat, z = .int .i64 (k : Int) ∧ k ≤ n ∧ k ≤ 18 ∧ Hid (wr.ownsRow BW 103 4 ro k (trsC (l.take k))) ∧ Hid (Below BW w wr)) (fun _ _ _ z _ => n - (intOf z).toNat)
  case atStart => exact ⟨0, rfl, Nat.zero_le _, Nat.zero_le _, hid (by simpa using HO0.out), hid (Below.refl _ _)⟩
  case round =>
    obtain ⟨k, rfl, hk, hk18, HO, HBE⟩ := hrel
    by_cases hkn : k < n
    case neg =>
      obtain rfl : n = k := by omega
      have hk2 : ¬ (n : Int) < (n : Int) := by omega
      have HF : Hid (wr.ownsRow BW 103 4 u3 (cut18 l).length (trsC (cut18 l))) := hid (by
        have e : cut18 l = l.take n := by
          unfold cut18
          rw [List.take_of_length_le (by rw [HN.out]; exact hk18), List.take_of_length_le (by rw [HN.out]; exact Nat.le_refl _)]
        have e2 : (l.take n).length = n := by rw [List.length_take, HN.out]; omega
        rw [e, e2]; exact HO.out)
      go_wp2
      go_ret
      exact ⟨⟨_, rfl, HF.out⟩, HBE.out⟩
    case pos =>
      have hk2 : (k : Int) < (n : Int) := by omega
      obtain ⟨b, off, rfl, hb, x0, x1, x2, x3⟩ := tr_cell HC.out (show k < l.length by rw [HN.out]; exact hkn)
      obtain ⟨t, ht⟩ : ∃ g, l.getD k ⟨0, 0, 0, 0⟩ = g := ⟨_, rfl⟩
      rw [ht] at x0 x1 x2 x3
      have HT : Hid (trsC (l.take (k + 1)) = trsC (l.take k) ++ [.int .i64 t.item, .int .i64 t.src, .int .i64 t.dst, .int .i64 t.cnt]) := hid (by
        have hkl : k < l.length := by rw [HN.out]; exact hkn
        have e : l.take (k + 1) = l.take k ++ [t] := by
          rw [List.take_succ_eq_append_getElem hkl, ← ht, List.getD_eq_getElem?_getD, List.getElem?_eq_getElem hkl]; rfl
        rw [e, trsC_append]
        simp [trsC, trC])
      rw [HBW.out] at hb
      replace x0 := (HBE.out.cell (p := ⟨b, off + k * 4, none⟩) hb).trans x0
      replace x1 := (HBE.out.cell (p := ⟨b, off + k * 4 + 1, none⟩) hb).trans x1
      replace x2 := (HBE.out.cell (p := ⟨b, off + k * 4 + 2, none⟩) hb).trans x2
      replace x3 := (HBE.out.cell (p := ⟨b, off + k * 4 + 3, none⟩) hb).trans x3
      have hsz := HBE.out.size
      rw [HBW.out] at hsz
      obtain ⟨ti, ts, td, tn⟩ := t
      simp only at x0 x1 x2 x3 HT
      have bA := alloc_below wr (.cells #[.int .i64 ti, .int .i64 ts, .int .i64 td, .int .i64 tn] 111)
      have HBE2 := hid (HBE.out.trans (bA.mono hsz))
      have HO2 := hid (owns_below HO.out bA)
      have hs2 : BW ≤ (wr.alloc (.cells #[.int .i64 ti, .int .i64 ts, .int .i64 td, .int .i64 tn] 111)).heap.size := Nat.le_trans hsz bA.size
      clear ht bA HBE HO
      by_cases h17 : 17 < k
      · have h172 : (17 : Int) < (k : Int) := by omega
        have hk8 : k = 18 := by omega
        have HF : Hid ((wr.alloc (.cells #[.int .i64 ti, .int .i64 ts, .int .i64 td, .int .i64 tn] 111)).ownsRow BW 103 4 u3 (cut18 l).length (trsC (cut18 l))) := hid (by
          have e2 : (cut18 l).length = 18 := by unfold cut18; rw [List.length_take, HN.out]; omega
          rw [e2]; unfold cut18; rw [← hk8]; exact HO2.out)
        clear hk8
        go_wp2
        go_ret
        exact ⟨⟨_, rfl, HF.out⟩, HBE2.out⟩
      · have h172 : ¬ (17 : Int) < (k : Int) := by omega
        go_wp2_with (at_builtin; refine wpList_appH rfl (.tmp 15) (.tmp 25) _ rfl BW 103 (.agg #[.int .i64 0, .int .i64 0, .int .i64 0, .int .i64 0]) 4 32 Try.underlying62 infoTr rfl (by decide) 103 _ _ _ rfl HO2.out [.int .i64 ti, .int .i64 ts, .int .i64 td, .int .i64 tn] (wr.heap.size + 1) (by simp) rfl rfl (by simp [Value.oneCell']) (by unfold maxLen; omega) (by omega) hs2 ?_; intro g5 gcap w5 ho5 hb5 _ _ _)
        have HO5 := hid ho5
        have HB5 := hid (HBE2.out.trans hb5)
        clear ho5 hb5 HO2 HBE2 hs2 x0 x1 x2 x3
        go_roundw
        case rel => exact ⟨k + 1, by go_num, by omega, by omega, hid (by rw [HT.out]; exact HO5.out), HB5⟩
        case measure => simp [intOf]; omega

end Go.Proofs.Ytcpefolhohakmaa
