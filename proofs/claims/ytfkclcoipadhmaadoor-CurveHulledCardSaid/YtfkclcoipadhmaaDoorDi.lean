/- Walks of calc.at's comparison and of slices.BinarySearchFunc at points. -/
import Derived.Test.YtfkclcoipadhmaaDoorDg
namespace Go.Proofs.YtfkclcoipadhmaaDoor
open Go.RowKit
attribute [local irreducible] seqS seqST walkV walkJ

set_option maxHeartbeats 1000000 in
theorem atc_any (p : Pt) (x : Rat) (hp : fits p.1) (hx : fits x) (w : World) :
    Calls Tryd.prog 118 #[ptQ p, frQ x] w fun r w' => r = .returned (.int .i64 (cmpQ p.1 x)) ∧ Below w.heap.size w w' := by
  have OR := hid (fun w => order_any p.1 x hp hx w)
  obtain ⟨cz, hcz⟩ : ∃ z, cmpQ p.1 x = z := ⟨_, rfl⟩
  rw [hcz] at OR ⊢
  unfold frQ at OR ⊢
  unfold ptQ
  clear hcz
  have b0 := ((Below.refl w.heap.size w).alloc (Nat.le_refl _) (.cells #[.int .i64 p.1.num, .int .i64 (p.1.den : Int), .int .i64 p.2.num, .int .i64 (p.2.den : Int)] 52)).alloc (by simp) (.cells #[.int .i64 x.num, .int .i64 (x.den : Int)] 32)
  go_enter Tryd.func118, Tryd.ntmps118
  go_wp2_with fail
  refine (OR.out _).mono ?_
  rintro r w1 ⟨rfl, hb1⟩
  go_wp2
  go_ret
  exact ⟨rfl, b0.trans (hb1.mono b0.size)⟩
/-- cmp < 0, cmp = 0. -/
theorem cmpQ_lt (a b : Rat) : cmpQ a b < 0 ↔ a < b := by
  rcases cmp_cases a b with ⟨h, e, -⟩ | ⟨h, e, -⟩ | ⟨h, e, -⟩ <;> rw [e]
  · simp [h]
  · constructor
    · intro h2; omega
    · intro h2; grind
  · constructor
    · intro h2; omega
    · intro h2; grind
theorem cmpQ_eq (a b : Rat) : cmpQ a b = 0 ↔ a = b := by
  rcases cmp_cases a b with ⟨h, e, -⟩ | ⟨h, e, -⟩ | ⟨h, e, -⟩ <;> rw [e]
  · constructor
    · intro h2; omega
    · intro h2; grind
  · constructor
    · intro h2; omega
    · intro h2; grind
  · simp [h]

/-- Where a number lies among the points. -/
structure Found (C : List Pt) (x : Rat) (i : Nat) (f : Bool) : Prop where
  le : i ≤ C.length
  lo : ∀ j, j < i → (C.getD j (0, 0)).1 < x
  hi : ∀ j, i ≤ j → j < C.length → x ≤ (C.getD j (0, 0)).1
  yes : f = true ↔ i < C.length ∧ (C.getD i (0, 0)).1 = x

structure FoundR (C : List Pt) (x : Rat) (r : Ending) : Prop where
  out : ∃ (i : Nat) (f : Bool), r = .returned (.tuple #[.int .i64 i, .bool f]) ∧ Found C x i f

set_option maxHeartbeats 4000000 in
set_option maxRecDepth 100000 in
theorem search_any (C : List Pt) (x : Rat) (v : Value) (w : World) (h : PsR 0 w v C) (hf : ∀ i, i < C.length → fits (C.getD i (0, 0)).1) (hr : ∀ i j, i < j → j < C.length → (C.getD i (0, 0)).1 < (C.getD j (0, 0)).1) (hl : C.length ≤ 48) (hx : fits x) :
    Calls Tryd.prog 117 #[v, frQ x, .func (.func 118) #[] #[]] w fun r w' =>
      FoundR C x r ∧ Below w.heap.size w w' := by
  obtain ⟨ao, cap, rfl, hcap, hmax, hc⟩ := h
  unfold maxLen at hmax
  obtain ⟨L, hL⟩ : ∃ L, C.length = L := ⟨_, rfl⟩
  have HL := hid hL
  rw [hL] at hcap hf hr hl ⊢
  have HF := hid hf
  have HR := hid hr
  have HC := hid hc
  have CM := hid (fun (i : Nat) (hi : i < L) w => atc_any (C.getD i (0, 0)) x (hf i hi) hx w)
  unfold frQ ptQ at CM
  unfold frQ
  clear hL hc hf hr
  go_enter Tryd.func117, Tryd.ntmps117
  go_wp2_with fail
  have k0 := Blk.new w #[.int .i64 x.num, .int .i64 (x.den : Int)] 32
  have b0 := alloc_below w (.cells #[.int .i64 x.num, .int .i64 (x.den : Int)] 32)
  obtain ⟨w0, hw0⟩ : ∃ w0, w.alloc (.cells #[.int .i64 x.num, .int .i64 (x.den : Int)] 32) = w0 := ⟨_, rfl⟩
  rw [hw0] at k0 b0 ⊢
  clear hw0
  go_loopw [9, 10] (fun x' y' wr => ∃ i j : Nat, x' = .int .i64 i ∧ y' = .int .i64 j ∧ i ≤ j ∧ j ≤ L ∧ (∀ k, k < i → (C.getD k (0, 0)).1 < x) ∧ (∀ k, j ≤ k → k < L → x ≤ (C.getD k (0, 0)).1) ∧ Below w0.heap.size w0 wr) (fun x' y' _ => (intOf y').toNat - (intOf x').toNat)
  case atStart => exact ⟨0, L, rfl, rfl, Nat.zero_le _, Nat.le_refl _, fun k hk => by omega, fun k h1 h2 => by omega, Below.refl _ _⟩
  case round =>
    obtain ⟨i, j, rfl, rfl, hij, hj, hlo, hhi, hbel⟩ := hrel
    have HLO := hid hlo
    have HHI := hid hhi
    clear hlo hhi
    by_cases hlt : i < j
    · have hlt2 : (i : Int) < (j : Int) := by omega
      go_wp2_with fail
      obtain ⟨m, hm⟩ : ∃ m : Nat, (i + j) / 2 = m := ⟨_, rfl⟩
      have hm2 : ((i : Int) + (j : Int)) / 2 = (m : Int) := by omega
      rw [hm2]
      have hmL : m < L := by omega
      have him : i ≤ m := by omega
      have hmj : m < j := by omega
      have hmL2 : (m : Int) < (L : Int) := by omega
      obtain ⟨b, off, rfl, hb, e0, e1, e2, e3⟩ := p_cell HC.out (show m < C.length by rw [HL.out]; exact hmL)
      have CMM := hid (CM.out m hmL)
      have hlo2 : ∀ k, k < m → k < L → (C.getD k (0, 0)).1 < (C.getD m (0, 0)).1 := fun k h1 _ => HR.out k m h1 hmL
      have hhi2 : ∀ k, m < k → k < L → (C.getD m (0, 0)).1 < (C.getD k (0, 0)).1 := fun k h1 h2 => HR.out m k h1 h2
      obtain ⟨P, hP⟩ : ∃ P, C.getD m (0, 0) = P := ⟨_, rfl⟩
      rw [hP] at e0 e1 e2 e3 CMM hlo2 hhi2
      have HP := hid hP
      have HLO2 := hid hlo2
      have HHI2 := hid hhi2
      have hcl := cmpQ_lt P.1 x
      obtain ⟨cz, hcz⟩ : ∃ z, cmpQ P.1 x = z := ⟨_, rfl⟩
      rw [hcz] at CMM hcl
      have HCL := hid hcl
      have hbw : Below w.heap.size w wr := b0.trans (hbel.mono b0.size)
      clear hm hm2 hP hlo2 hhi2 hcz hcl
      have hd := (Below.refl wr.heap.size wr).drew
      have z0 := fun y : SubT (Below wr.heap.size) wr.drew => ((hbw.trans ((hd.trans y.b).mono hbw.size)).cell (p := ⟨b, off + m * 4, none⟩) hb).trans e0
      have z1 := fun y : SubT (Below wr.heap.size) wr.drew => ((hbw.trans ((hd.trans y.b).mono hbw.size)).cell (p := ⟨b, off + m * 4 + 1, none⟩) hb).trans e1
      have z2 := fun y : SubT (Below wr.heap.size) wr.drew => ((hbw.trans ((hd.trans y.b).mono hbw.size)).cell (p := ⟨b, off + m * 4 + 2, none⟩) hb).trans e2
      have z3 := fun y : SubT (Below wr.heap.size) wr.drew => ((hbw.trans ((hd.trans y.b).mono hbw.size)).cell (p := ⟨b, off + m * 4 + 3, none⟩) hb).trans e3
      have z4 := fun y : SubT (Below wr.heap.size) wr.drew => (k0.below (hbel.trans ((hd.trans y.b).mono hbel.size))).look 0 rfl
      have z5 := fun y : SubT (Below wr.heap.size) wr.drew => (k0.below (hbel.trans ((hd.trans y.b).mono hbel.size))).look 1 rfl
      refine wp_walkJ (T := Below (wr.heap.size)) (belowV_pre _) (.rd 0 (.rd 1 (.rd 2 (.rd 3 (.rd 4 (.rd 5 (.bt 6 (.rd 7 (.inv []))))))))) (by kernel_rfl) rfl (by kernel_rfl) (by kernel_rfl) ?_
      iterate 6 (refine walkJ_rd rfl (fun K hK => ?_); go_simp; refine hK _ ?_; clear hK K)
      clear z0 z1 z2 z3 z4 z5
      (refine walkJ_bt rfl (fun K hK => ?_); go_simp; refine (CMM.out _).mono ?_; rintro r w3 ⟨rfl, hb3⟩; refine ⟨_, rfl, hK _ _ ?_⟩; clear hK K)
      have hbel3 := hbel.trans ((hd.trans hb3).mono hbel.size)
      clear hb3 hd e0 e1 e2 e3
      by_cases hcz : cz < 0
      · have HLT := hid (HCL.out.1 hcz)
        iterate 1 (refine walkJ_rd rfl (fun K hK => ?_); go_simp; refine hK _ ?_; clear hK K)
        refine walkJ_nil ?_
        go_wp2
        go_roundw
        case rel =>
          refine ⟨m + 1, j, by go_num, rfl, by omega, hj, fun k hk => ?_, HHI.out, hbel3⟩
          by_cases hkm : k = m
          · rw [hkm, HP.out]; exact HLT.out
          · have h1 := HLO2.out k (by omega) (by omega)
            have h2 := HLT.out
            grind
        case measure => simp [intOf]; omega
      · have HGE := hid (Rat.not_lt.1 (fun h => hcz (HCL.out.2 h)))
        iterate 1 (refine walkJ_rd rfl (fun K hK => ?_); go_simp; refine hK _ ?_; clear hK K)
        refine walkJ_nil ?_
        go_wp2
        go_roundw
        case rel =>
          refine ⟨i, m, rfl, rfl, by omega, by omega, HLO.out, fun k hk hkL => ?_, hbel3⟩
          by_cases hkm : k = m
          · rw [hkm, HP.out]; exact HGE.out
          · have h1 := HHI2.out k (by omega) hkL
            have h2 := HGE.out
            grind
        case measure => simp [intOf]; omega
    · obtain rfl : i = j := by omega
      have hlt2 : ¬ (i : Int) < (i : Int) := by omega
      have hbw : Below w.heap.size w wr := b0.trans (hbel.mono b0.size)
      go_wp2_with fail
      have hd := (Below.refl wr.heap.size wr).drew
      by_cases hiL : i < L
      · have hiL2 : (i : Int) < (L : Int) := by omega
        obtain ⟨b, off, rfl, hb, e0, e1, e2, e3⟩ := p_cell HC.out (show i < C.length by rw [HL.out]; exact hiL)
        have CMM := hid (CM.out i hiL)
        obtain ⟨P, hP⟩ : ∃ P, C.getD i (0, 0) = P := ⟨_, rfl⟩
        rw [hP] at e0 e1 e2 e3 CMM
        have HP := hid hP
        have hcl := cmpQ_eq P.1 x
        obtain ⟨cz, hcz⟩ : ∃ z, cmpQ P.1 x = z := ⟨_, rfl⟩
        rw [hcz] at CMM hcl
        have HCL := hid hcl
        clear hP hcz hcl
        have z0 := fun y : SubT (Below wr.heap.size) wr.drew => ((hbw.trans ((hd.trans y.b).mono hbw.size)).cell (p := ⟨b, off + i * 4, none⟩) hb).trans e0
        have z1 := fun y : SubT (Below wr.heap.size) wr.drew => ((hbw.trans ((hd.trans y.b).mono hbw.size)).cell (p := ⟨b, off + i * 4 + 1, none⟩) hb).trans e1
        have z2 := fun y : SubT (Below wr.heap.size) wr.drew => ((hbw.trans ((hd.trans y.b).mono hbw.size)).cell (p := ⟨b, off + i * 4 + 2, none⟩) hb).trans e2
        have z3 := fun y : SubT (Below wr.heap.size) wr.drew => ((hbw.trans ((hd.trans y.b).mono hbw.size)).cell (p := ⟨b, off + i * 4 + 3, none⟩) hb).trans e3
        have z4 := fun y : SubT (Below wr.heap.size) wr.drew => (k0.below (hbel.trans ((hd.trans y.b).mono hbel.size))).look 0 rfl
        have z5 := fun y : SubT (Below wr.heap.size) wr.drew => (k0.below (hbel.trans ((hd.trans y.b).mono hbel.size))).look 1 rfl
        refine wp_walkJ (T := Below (wr.heap.size)) (belowV_pre _) (.rd 0 (.rd 1 (.rd 2 (.rd 3 (.rd 4 (.rd 5 (.rd 6 (.rd 7 (.rd 8 (.rd 9 (.rd 10 (.mv 11 (.rd 12 (.rd 13 (.rd 14 (.rd 15 (.inv []))))))))))))))))) (by kernel_rfl) rfl (by kernel_rfl) (by kernel_rfl) ?_
        iterate 11 (refine walkJ_rd rfl (fun K hK => ?_); go_simp; refine hK _ ?_; clear hK K)
        clear z0 z1 z2 z3 z4 z5
        (refine walkJ_mv rfl (fun K hK => ?_); go_simp; refine (CMM.out _).mono ?_; rintro r w3 ⟨rfl, hb3⟩; refine ⟨_, rfl, hK _ _ hb3 ?_⟩; clear hK K)
        have hbw3 := hbw.trans ((hd.trans hb3).mono hbw.size)
        clear hb3 hd e0 e1 e2 e3
        by_cases hcz : cz = 0
        · have HEQ := hid (HCL.out.1 hcz)
          subst hcz
          iterate 4 (refine walkJ_rd rfl (fun K hK => ?_); go_simp; refine hK _ ?_; clear hK K)
          refine walkJ_nil ?_
          go_wp2
          go_ret2
          exact ⟨⟨⟨i, true, rfl, ⟨by rw [HL.out]; exact hj, HLO.out, by rw [HL.out]; exact HHI.out, ⟨fun _ => ⟨by rw [HL.out]; exact hiL, by rw [HP.out]; exact HEQ.out⟩, fun _ => rfl⟩⟩⟩⟩, hbw3⟩
        · have HNE := hid (fun h => hcz (HCL.out.2 h))
          iterate 4 (refine walkJ_rd rfl (fun K hK => ?_); go_simp; refine hK _ ?_; clear hK K)
          refine walkJ_nil ?_
          go_wp2
          go_ret2
          exact ⟨⟨⟨i, _, rfl, ⟨by rw [HL.out]; exact hj, HLO.out, by rw [HL.out]; exact HHI.out, ⟨fun h => absurd (by simpa using h) hcz, fun h => absurd (by rw [← HP.out]; exact h.2) HNE.out⟩⟩⟩⟩, hbw3⟩
      · have hiL2 : ¬ (i : Int) < (L : Int) := by omega
        refine wp_walkJ (T := Below (wr.heap.size)) (belowV_pre _) (.rd 0 (.rd 1 (.rd 2 (.rd 3 (.rd 4 (.rd 5 (.rd 6 (.rd 7 (.rd 8 (.rd 9 (.rd 10 (.mv 11 (.rd 12 (.rd 13 (.rd 14 (.rd 15 (.inv []))))))))))))))))) (by kernel_rfl) rfl (by kernel_rfl) (by kernel_rfl) ?_
        iterate 11 (refine walkJ_rd rfl (fun K hK => ?_); go_simp; refine hK _ ?_; clear hK K)
        (refine walkJ_sk rfl (fun K hK => ?_); go_simp; refine hK _ ?_; clear hK K)
        iterate 4 (refine walkJ_rd rfl (fun K hK => ?_); go_simp; refine hK _ ?_; clear hK K)
        refine walkJ_nil ?_
        have hbw3 := hbw.trans (hd.mono hbw.size)
        go_wp2
        go_ret2
        exact ⟨⟨⟨i, false, rfl, ⟨by rw [HL.out]; exact hj, HLO.out, by rw [HL.out]; exact HHI.out, ⟨fun h => (by cases h), fun h => absurd (by rw [← HL.out]; exact h.1) hiL⟩⟩⟩⟩, hbw3⟩

end Go.Proofs.YtfkclcoipadhmaaDoor
