/- The reference: which gloves, sides and rules are valid; the program's gloves, sides and rules from the reference's. -/
import Derived.Test.YtcpefolhohakmaaH5
namespace Go.Proofs.Ytcpefolhohakmaa
open Go.RowKit
attribute [local irreducible] seqS seqST walkV walkJ

set_option maxHeartbeats 1000000 in
theorem four_any (g : Gv) (w : World) :
    Calls Try.prog 67 #[gV g] w fun r w' => r = .returned (.agg #[.int .i64 g.a, .int .i64 g.b, .int .i64 g.c, .int .i64 g.d]) ∧ Below w.heap.size w w' := by
  obtain ⟨a, b, c, d⟩ := g
  go_enter Try.func67, Try.ntmps67
  go_wp2
  refine bodyPost_ret (v := .agg #[.int .i64 a, .int .i64 b, .int .i64 c, .int .i64 d]) (by simp [results, Try.results67, go_sem]) rfl ⟨rfl, ?_⟩
  (repeat' (first | exact Below.refl _ _ | assumption | (refine Below.setCell ?_ ?_ _) | (refine Below.alloc ?_ ?_ _) | (refine below_drewN0 ?_ _) | (refine Below.drew ?_))) <;> (first | exact Nat.le_refl _ | (simp; done) | (simp; omega) | omega)

set_option maxHeartbeats 1000000 in
theorem glove_any (g : Gv) (w : World) :
    Calls Try.prog 30 #[gV g] w fun r w' => r = .returned (gV g) ∧ Below w.heap.size w w' := by
  obtain ⟨a, b, c, d⟩ := g
  go_enter Try.func30, Try.ntmps30
  go_wp2
  refine bodyPost_ret (v := .agg #[.int .i64 a, .int .i64 b, .int .i64 c, .int .i64 d]) (by simp [results, Try.results30, go_sem]) rfl ⟨rfl, ?_⟩
  (repeat' (first | exact Below.refl _ _ | assumption | (refine Below.setCell ?_ ?_ _) | (refine Below.alloc ?_ ?_ _) | (refine below_drewN0 ?_ _) | (refine Below.drew ?_))) <;> (first | exact Nat.le_refl _ | (simp; done) | (simp; omega) | omega)

theorem ix0 (a b c d : Int) (w : World) : (Instr.index 135 (.agg #[.int .i64 a, .int .i64 b, .int .i64 c, .int .i64 d]) (.int .i64 0)).run Try.prog w = .ok (.int .i64 a) w := by kernel_rfl
theorem ix1 (a b c d : Int) (w : World) : (Instr.index 135 (.agg #[.int .i64 a, .int .i64 b, .int .i64 c, .int .i64 d]) (.int .i64 1)).run Try.prog w = .ok (.int .i64 b) w := by kernel_rfl
theorem ix2 (a b c d : Int) (w : World) : (Instr.index 135 (.agg #[.int .i64 a, .int .i64 b, .int .i64 c, .int .i64 d]) (.int .i64 2)).run Try.prog w = .ok (.int .i64 c) w := by kernel_rfl
theorem ix3 (a b c d : Int) (w : World) : (Instr.index 135 (.agg #[.int .i64 a, .int .i64 b, .int .i64 c, .int .i64 d]) (.int .i64 3)).run Try.prog w = .ok (.int .i64 d) w := by kernel_rfl

set_option maxHeartbeats 4000000 in
set_option maxRecDepth 100000 in
theorem valid_any (g : Gv) (w : World) :
    Calls Try.prog 34 #[gV g] w fun r w' => r = .returned (.bool (gokB g)) ∧ Below w.heap.size w w' := by
  have FO := hid (fun w => four_any g w)
  have hok : gokB g = true ↔ ∀ i, i < 4 → 0 ≤ (g4 g).getD i 0 ∧ (g4 g).getD i 0 ≤ 1000 := by
    show decide (GOk g) = true ↔ _
    rw [decide_eq_true_iff]
    exact (four_iff (fun z => 0 ≤ z ∧ z ≤ 1000) g.a g.b g.c g.d).symm
  obtain ⟨a, b, c, d⟩ := g
  go_enter Try.func34, Try.ntmps34
  go_wp2_with fail
  refine (FO.out _).mono ?_
  rintro r w1 ⟨rfl, hb1⟩
  have hb2 := (alloc_below w _).trans (hb1.mono (by simp))
  have HB := hid hb2
  have HOK := hid hok
  clear hb1 hb2 hok FO
  go_wp2_with fail
  go_loopw [7] (fun z wr => ∃ k : Nat, z = .int .i64 (k : Int) ∧ k ≤ 4 ∧ Hid (∀ i, i < k → 0 ≤ (g4 ⟨a, b, c, d⟩).getD i 0 ∧ (g4 ⟨a, b, c, d⟩).getD i 0 ≤ 1000) ∧ w1 = wr) (fun z _ => 4 - (intOf z).toNat)
  case atStart => exact ⟨0, rfl, Nat.zero_le _, hid (fun i h => absurd h (Nat.not_lt_zero _)), rfl⟩
  case round =>
    obtain ⟨k, rfl, hk, HA, rfl⟩ := hrel
    by_cases hk4 : k < 4
    case neg =>
      obtain rfl : k = 4 := by omega
      have hr : Hid (gokB ⟨a, b, c, d⟩ = true) := hid (HOK.out.2 HA.out)
      clear HA
      go_wp2
      go_ret
      exact ⟨ret_bool hr.out.symm, HB.out⟩
    case pos =>
      obtain rfl | rfl | rfl | rfl : k = 0 ∨ k = 1 ∨ k = 2 ∨ k = 3 := by omega
      · have hg : (g4 ⟨a, b, c, d⟩).getD 0 0 = a := rfl
        have hx := ix0
        by_cases h0 : a < 0
        · have hr : Hid (gokB ⟨a, b, c, d⟩ = false) := hid (by
            cases e : gokB ⟨a, b, c, d⟩ with
            | false => rfl
            | true => have := (HOK.out.1 e 0 (by omega)).1; rw [hg] at this; omega)
          clear HA HOK hg
          go_wp2_with fail
          go_ret
          exact ⟨ret_bool hr.out.symm, HB.out⟩
        · by_cases h1 : 1000 < a
          · have hr : Hid (gokB ⟨a, b, c, d⟩ = false) := hid (by
              cases e : gokB ⟨a, b, c, d⟩ with
              | false => rfl
              | true => have := (HOK.out.1 e 0 (by omega)).2; rw [hg] at this; omega)
            clear HA HOK hg
            go_wp2_with fail
            go_ret
            exact ⟨ret_bool hr.out.symm, HB.out⟩
          · have HA2 : Hid (∀ i, i < 1 → 0 ≤ (g4 ⟨a, b, c, d⟩).getD i 0 ∧ (g4 ⟨a, b, c, d⟩).getD i 0 ≤ 1000) := hid (fun i hi => by
              by_cases e : i = 0
              · rw [e, hg]; omega
              · exact HA.out i (by omega))
            clear HA hg
            go_wp2_with fail
            go_roundw
            case rel => exact ⟨1, by go_num, by omega, HA2, trivial⟩
            case measure => simp [intOf]
      · have hg : (g4 ⟨a, b, c, d⟩).getD 1 0 = b := rfl
        have hx := ix1
        by_cases h0 : b < 0
        · have hr : Hid (gokB ⟨a, b, c, d⟩ = false) := hid (by
            cases e : gokB ⟨a, b, c, d⟩ with
            | false => rfl
            | true => have := (HOK.out.1 e 1 (by omega)).1; rw [hg] at this; omega)
          clear HA HOK hg
          go_wp2_with fail
          go_ret
          exact ⟨ret_bool hr.out.symm, HB.out⟩
        · by_cases h1 : 1000 < b
          · have hr : Hid (gokB ⟨a, b, c, d⟩ = false) := hid (by
              cases e : gokB ⟨a, b, c, d⟩ with
              | false => rfl
              | true => have := (HOK.out.1 e 1 (by omega)).2; rw [hg] at this; omega)
            clear HA HOK hg
            go_wp2_with fail
            go_ret
            exact ⟨ret_bool hr.out.symm, HB.out⟩
          · have HA2 : Hid (∀ i, i < 2 → 0 ≤ (g4 ⟨a, b, c, d⟩).getD i 0 ∧ (g4 ⟨a, b, c, d⟩).getD i 0 ≤ 1000) := hid (fun i hi => by
              by_cases e : i = 1
              · rw [e, hg]; omega
              · exact HA.out i (by omega))
            clear HA hg
            go_wp2_with fail
            go_roundw
            case rel => exact ⟨2, by go_num, by omega, HA2, trivial⟩
            case measure => simp [intOf]
      · have hg : (g4 ⟨a, b, c, d⟩).getD 2 0 = c := rfl
        have hx := ix2
        by_cases h0 : c < 0
        · have hr : Hid (gokB ⟨a, b, c, d⟩ = false) := hid (by
            cases e : gokB ⟨a, b, c, d⟩ with
            | false => rfl
            | true => have := (HOK.out.1 e 2 (by omega)).1; rw [hg] at this; omega)
          clear HA HOK hg
          go_wp2_with fail
          go_ret
          exact ⟨ret_bool hr.out.symm, HB.out⟩
        · by_cases h1 : 1000 < c
          · have hr : Hid (gokB ⟨a, b, c, d⟩ = false) := hid (by
              cases e : gokB ⟨a, b, c, d⟩ with
              | false => rfl
              | true => have := (HOK.out.1 e 2 (by omega)).2; rw [hg] at this; omega)
            clear HA HOK hg
            go_wp2_with fail
            go_ret
            exact ⟨ret_bool hr.out.symm, HB.out⟩
          · have HA2 : Hid (∀ i, i < 3 → 0 ≤ (g4 ⟨a, b, c, d⟩).getD i 0 ∧ (g4 ⟨a, b, c, d⟩).getD i 0 ≤ 1000) := hid (fun i hi => by
              by_cases e : i = 2
              · rw [e, hg]; omega
              · exact HA.out i (by omega))
            clear HA hg
            go_wp2_with fail
            go_roundw
            case rel => exact ⟨3, by go_num, by omega, HA2, trivial⟩
            case measure => simp [intOf]
      · have hg : (g4 ⟨a, b, c, d⟩).getD 3 0 = d := rfl
        have hx := ix3
        by_cases h0 : d < 0
        · have hr : Hid (gokB ⟨a, b, c, d⟩ = false) := hid (by
            cases e : gokB ⟨a, b, c, d⟩ with
            | false => rfl
            | true => have := (HOK.out.1 e 3 (by omega)).1; rw [hg] at this; omega)
          clear HA HOK hg
          go_wp2_with fail
          go_ret
          exact ⟨ret_bool hr.out.symm, HB.out⟩
        · by_cases h1 : 1000 < d
          · have hr : Hid (gokB ⟨a, b, c, d⟩ = false) := hid (by
              cases e : gokB ⟨a, b, c, d⟩ with
              | false => rfl
              | true => have := (HOK.out.1 e 3 (by omega)).2; rw [hg] at this; omega)
            clear HA HOK hg
            go_wp2_with fail
            go_ret
            exact ⟨ret_bool hr.out.symm, HB.out⟩
          · have HA2 : Hid (∀ i, i < 4 → 0 ≤ (g4 ⟨a, b, c, d⟩).getD i 0 ∧ (g4 ⟨a, b, c, d⟩).getD i 0 ≤ 1000) := hid (fun i hi => by
              by_cases e : i = 3
              · rw [e, hg]; omega
              · exact HA.out i (by omega))
            clear HA hg
            go_wp2_with fail
            go_roundw
            case rel => exact ⟨4, by go_num, by omega, HA2, trivial⟩
            case measure => simp [intOf]

set_option maxHeartbeats 4000000 in
set_option maxRecDepth 100000 in
theorem rSide_any (l : List Gv) (v : Value) (w : World) (h : GsR 0 w v l) :
    Calls Try.prog 11 #[v] w fun r w' => r = .returned (.bool (sideB l)) ∧ Below w.heap.size w w' := by
  obtain ⟨ao, cap, rfl, hcap, hmax, hc⟩ := h
  unfold maxLen at hmax
  have HC := hid hc
  have HSB : Hid (sideB l = true ↔ l.length ≤ 32 ∧ ∀ i, i < l.length → gokB (l.getD i g0) = true) := hid (by
    show decide (SideOk l) = true ↔ _
    rw [decide_eq_true_iff]
    show (l.length ≤ 32 ∧ ∀ i, i < l.length → GOk (l.getD i g0)) ↔ _
    refine and_congr_right fun _ => forall_congr' fun i => forall_congr' fun _ => ?_
    show GOk _ ↔ decide (GOk _) = true
    rw [decide_eq_true_iff])
  obtain ⟨n, hn⟩ : ∃ n, l.length = n := ⟨_, rfl⟩
  have HN := hid hn
  obtain ⟨sb, hsb⟩ : ∃ sb, sideB l = sb := ⟨_, rfl⟩
  have HB := hid hsb
  rw [hn] at hcap HSB
  rw [hn, hsb]
  rw [hsb] at HSB
  clear hc hn hsb
  go_enter Try.func11, Try.ntmps11
  by_cases h32 : n ≤ 32
  case neg =>
    have h33 : (32 : Int) < (n : Int) := by omega
    have hf : Hid (sb = false) := hid (by
      cases sb with
      | false => rfl
      | true => exact absurd (HSB.out.1 rfl).1 h32)
    clear HSB
    go_wp2
    go_ret
    exact ⟨ret_bool hf.out.symm, Below.refl _ _⟩
  case pos =>
  have h33 : ¬ (32 : Int) < (n : Int) := by omega
  go_wp2_with fail
  go_loopw [10] (fun z wr => ∃ k : Nat, z = .int .i64 (k : Int) ∧ k ≤ n ∧ Hid (∀ i, i < k → gokB (l.getD i g0) = true) ∧ Below w.heap.size w wr) (fun z _ => n - (intOf z).toNat)
  case atStart => exact ⟨0, rfl, Nat.zero_le _, hid (fun i h => absurd h (Nat.not_lt_zero _)), Below.refl _ _⟩
  case round =>
    obtain ⟨k, rfl, hk, HA, hbw⟩ := hrel
    by_cases hkn : k < n
    case neg =>
      obtain rfl : n = k := by omega
      have hk2 : ¬ (n : Int) < (n : Int) := by omega
      have hf : Hid (sb = true) := hid (HSB.out.2 ⟨h32, HA.out⟩)
      clear HSB HA
      go_wp2
      go_ret
      exact ⟨ret_bool hf.out.symm, hbw⟩
    case pos =>
      have hk2 : (k : Int) < (n : Int) := by omega
      obtain ⟨b, off, rfl, hb, x0, x1, x2, x3⟩ := g_cell HC.out (show k < l.length by rw [HN.out]; exact hkn)
      have hgk : l.getD k ⟨0, 0, 0, 0⟩ = l.getD k g0 := rfl
      rw [hgk] at x0 x1 x2 x3
      obtain ⟨ga, hga⟩ : ∃ g, l.getD k g0 = g := ⟨_, rfl⟩
      rw [hga] at x0 x1 x2 x3
      have HGA := hid hga
      replace x0 := (hbw.cell (p := ⟨b, off + k * 4, none⟩) hb).trans x0
      replace x1 := (hbw.cell (p := ⟨b, off + k * 4 + 1, none⟩) hb).trans x1
      replace x2 := (hbw.cell (p := ⟨b, off + k * 4 + 2, none⟩) hb).trans x2
      replace x3 := (hbw.cell (p := ⟨b, off + k * 4 + 3, none⟩) hb).trans x3
      have bA := alloc_below wr (.cells #[.int .i64 ga.a, .int .i64 ga.b, .int .i64 ga.c, .int .i64 ga.d] 24)
      have hbw2 := hbw.trans (bA.mono hbw.size)
      have V1 := hid (fun w => valid_any ga w)
      clear hga hgk bA hbw
      go_wp2_with fail
      refine (V1.out _).mono ?_
      rintro r w2 ⟨rfl, hb2⟩
      have hbw3 := hbw2.trans (hb2.mono hbw2.size)
      clear V1 x0 x1 x2 x3 hb2 hbw2
      cases hgo : gokB ga with
      | false =>
        have hf : Hid (sb = false) := hid (by
          cases sb with
          | false => rfl
          | true =>
            have := (HSB.out.1 rfl).2 k hkn
            rw [HGA.out, hgo] at this
            cases this)
        clear HSB HA hgo
        go_wp2
        go_ret
        exact ⟨ret_bool hf.out.symm, hbw3⟩
      | true =>
        have HA2 : Hid (∀ i, i < k + 1 → gokB (l.getD i g0) = true) := hid (fun i hi => by
          by_cases e : i = k
          · rw [e, HGA.out]; exact hgo
          · exact HA.out i (by omega))
        clear HA hgo
        go_wp2
        go_roundw
        case rel => exact ⟨k + 1, by go_num, by omega, HA2, hbw3⟩
        case measure => simp [intOf]; omega

set_option maxHeartbeats 4000000 in
set_option maxRecDepth 100000 in
theorem rLaw_any (u : Ru) (w : World) :
    Calls Try.prog 33 #[ruV u] w fun r w' => r = .returned (.bool (rokB u)) ∧ Below w.heap.size w w' := by
  have V1 := hid (fun w => valid_any u.wt w)
  have V2 := hid (fun w => valid_any u.lim w)
  have hr : rokB u = (gokB u.wt && gokB u.lim) := rfl
  have HR := hid hr
  obtain ⟨z, hz⟩ : ∃ z, rokB u = z := ⟨_, rfl⟩
  rw [hz] at HR ⊢
  obtain ⟨b1, h1⟩ : ∃ z, gokB u.wt = z := ⟨_, rfl⟩
  obtain ⟨b2, h2⟩ : ∃ z, gokB u.lim = z := ⟨_, rfl⟩
  rw [h1] at HR V1
  rw [h2] at HR V2
  clear hr hz h1 h2
  obtain ⟨⟨wa, wb, wc, wd⟩, ⟨la, lb, lc, ld⟩⟩ := u
  have kU := Blk.new w #[.int .i64 wa, .int .i64 wb, .int .i64 wc, .int .i64 wd, .int .i64 la, .int .i64 lb, .int .i64 lc, .int .i64 ld] 26
  have bU := alloc_below w (.cells #[.int .i64 wa, .int .i64 wb, .int .i64 wc, .int .i64 wd, .int .i64 la, .int .i64 lb, .int .i64 lc, .int .i64 ld] 26)
  go_enter Try.func33, Try.ntmps33
  go_wp2_with fail
  refine (V1.out _).mono ?_
  rintro r w1 ⟨rfl, hb1⟩
  have k1 := kU.below hb1
  have bb1 := bU.trans (hb1.mono bU.size)
  clear V1 kU bU hb1
  cases b1 with
  | false =>
    have hf : Hid (z = false) := hid (by rw [HR.out]; rfl)
    clear k1
    go_wp2
    go_ret
    exact ⟨ret_bool hf.out.symm, bb1⟩
  | true =>
    have hf : Hid (z = b2) := hid (by rw [HR.out]; rfl)
    have x4 := k1.look 4 rfl
    have x5 := k1.look 5 rfl
    have x6 := k1.look 6 rfl
    have x7 := k1.look 7 rfl
    go_wp2_with fail
    refine (V2.out _).mono ?_
    rintro r w2 ⟨rfl, hb2⟩
    have bb2 := bb1.trans (hb2.mono bb1.size)
    clear V2 k1 x4 x5 x6 x7 hb2
    go_wp2
    go_ret
    exact ⟨ret_bool hf.out.symm, bb2⟩

def goodB (l r : List Gv) (u : Ru) : Bool := sideB l && sideB r && rokB u
set_option maxHeartbeats 4000000 in
set_option maxRecDepth 100000 in
theorem rGood_any (l r : List Gv) (u : Ru) (v v2 : Value) (w : World) (h : GsR 0 w v l) (h2 : GsR 0 w v2 r) :
    Calls Try.prog 10 #[v, v2, ruV u] w fun e w' => e = .returned (.bool (goodB l r u)) ∧ Below w.heap.size w w' := by
  have S1 := hid (fun w h => rSide_any l v w h)
  have S2 := hid (fun w h => rSide_any r v2 w h)
  have LW := hid (fun w => rLaw_any u w)
  have HR : Hid (goodB l r u = (sideB l && sideB r && rokB u)) := hid rfl
  obtain ⟨z, hz⟩ : ∃ z, goodB l r u = z := ⟨_, rfl⟩
  rw [hz] at HR ⊢
  obtain ⟨b1, h1⟩ : ∃ z, sideB l = z := ⟨_, rfl⟩
  obtain ⟨b2, h3⟩ : ∃ z, sideB r = z := ⟨_, rfl⟩
  obtain ⟨b3, h4⟩ : ∃ z, rokB u = z := ⟨_, rfl⟩
  rw [h1] at HR S1
  rw [h3] at HR S2
  rw [h4] at HR LW
  clear hz h1 h3 h4
  obtain ⟨U, hU⟩ : ∃ U, u = U := ⟨_, rfl⟩
  obtain ⟨⟨wa, wb, wc, wd⟩, ⟨la, lb, lc, ld⟩⟩ := u
  have kU := Blk.new w #[.int .i64 wa, .int .i64 wb, .int .i64 wc, .int .i64 wd, .int .i64 la, .int .i64 lb, .int .i64 lc, .int .i64 ld] 26
  have bU := alloc_below w (.cells #[.int .i64 wa, .int .i64 wb, .int .i64 wc, .int .i64 wd, .int .i64 la, .int .i64 lb, .int .i64 lc, .int .i64 ld] 26)
  have hLU := hid (h.below bU)
  have hRU := hid (h2.below bU)
  clear hU
  go_enter Try.func10, Try.ntmps10
  go_wp2_with fail
  refine (S1.out _ hLU.out).mono ?_
  rintro e1 w1 ⟨rfl, hb1⟩
  have k1 := kU.below hb1
  have bb1 := bU.trans (hb1.mono bU.size)
  have hR1 := hid (hRU.out.below hb1)
  clear S1 kU bU hb1 hLU hRU
  cases b1 with
  | false =>
    have hf : Hid (z = false) := hid (by rw [HR.out]; rfl)
    clear k1
    go_wp2
    go_ret
    exact ⟨ret_bool hf.out.symm, bb1⟩
  | true =>
    go_wp2_with fail
    refine (S2.out _ hR1.out).mono ?_
    rintro e2 w2 ⟨rfl, hb2⟩
    have k2 := k1.below hb2
    have bb2 := bb1.trans (hb2.mono bb1.size)
    clear S2 k1 bb1 hb2 hR1
    cases b2 with
    | false =>
      have hf : Hid (z = false) := hid (by rw [HR.out]; rfl)
      clear k2
      go_wp2
      go_ret
      exact ⟨ret_bool hf.out.symm, bb2⟩
    | true =>
      have hf : Hid (z = b3) := hid (by rw [HR.out]; rfl)
      have x0 := k2.look 0 rfl
      have x1 := k2.look 1 rfl
      have x2 := k2.look 2 rfl
      have x3 := k2.look 3 rfl
      have x4 := k2.look 4 rfl
      have x5 := k2.look 5 rfl
      have x6 := k2.look 6 rfl
      have x7 := k2.look 7 rfl
      go_wp2_with fail
      refine (LW.out _).mono ?_
      rintro e3 w3 ⟨rfl, hb3⟩
      have bb3 := bb2.trans (hb3.mono bb2.size)
      clear LW k2 x0 x1 x2 x3 x4 x5 x6 x7 hb3
      go_wp2
      go_ret
      exact ⟨ret_bool hf.out.symm, bb3⟩

end Go.Proofs.Ytcpefolhohakmaa
