/- Walks of curve.end, slices.IndexFunc with merged's closure. -/
import Derived.Test.YtfkclcoipadhmaaDoorDk
namespace Go.Proofs.YtfkclcoipadhmaaDoor
open Go.RowKit
attribute [local irreducible] seqS seqST walkV walkJ

set_option maxHeartbeats 1000000 in
theorem end_any (C : List Pt) (v : Value) (w : World) (h : PsR 0 w v C) (hl : 1 ≤ C.length) (hl2 : C.length ≤ 48) :
    Calls Tryd.prog 76 #[v] w fun r w' => r = .returned (ptQ (C.getD (C.length - 1) (0, 0))) ∧ Below w.heap.size w w' := by
  obtain ⟨ao, cap, rfl, hcap, hmax, hcc⟩ := h
  unfold maxLen at hmax
  obtain ⟨b, off, rfl, hb, x0, x1, x2, x3⟩ := p_cell hcc (show C.length - 1 < C.length by omega)
  obtain ⟨P, hP⟩ : ∃ P, C.getD (C.length - 1) (0, 0) = P := ⟨_, rfl⟩
  rw [hP] at x0 x1 x2 x3 ⊢
  clear hP hcc
  obtain ⟨L, hL⟩ : ∃ L, C.length = L := ⟨_, rfl⟩
  rw [hL] at hcap hl hl2 x0 x1 x2 x3 ⊢
  clear hL
  have wL : IntKind.i64.wrap ((L : Int) - 1) = ((L - 1 : Nat) : Int) := by rw [IntWalk.i64_left]; unfold wrap64; omega
  have h1 : L - 1 < L := by omega
  unfold ptQ
  have b0 := alloc_below w (.cells #[.int .i64 P.1.num, .int .i64 (P.1.den : Int), .int .i64 P.2.num, .int .i64 (P.2.den : Int)] 52)
  go_enter Tryd.func76, Tryd.ntmps76
  go_wp2
  refine bodyPost_ret (v := .agg #[.int .i64 P.1.num, .int .i64 (P.1.den : Int), .int .i64 P.2.num, .int .i64 (P.2.den : Int)]) ?_ rfl ⟨rfl, b0⟩
  simp [results, Tryd.results76, go_sem]

/-- The first number above the limit. -/
structure FirstOver (l : List Rat) (m : Rat) (z : Int) : Prop where
  is : (z = -1 ∧ ∀ i, i < l.length → l.getD i 0 ≤ m) ∨ ∃ i : Nat, z = i ∧ i < l.length ∧ m < l.getD i 0 ∧ ∀ j, j < i → l.getD j 0 ≤ m

set_option maxHeartbeats 2000000 in
set_option maxRecDepth 100000 in
theorem indexOver_any (l : List Rat) (m : Rat) (v : Value) (gm : Nat) (w : World) (h : QsR 0 w v l) (hf : ∀ i, i < l.length → fits (l.getD i 0)) (hm : fits m) (hl : l.length ≤ 1000) (hk : Blk w gm #[.int .i64 m.num, .int .i64 (m.den : Int)] 32) :
    Calls Tryd.prog 137 #[v, .func (.func 125) #[] #[.pointer (some ⟨gm, 0, none⟩)]] w fun r w' => (∃ z : Int, r = .returned (.int .i64 z) ∧ FirstOver l m z) ∧ Below w.heap.size w w' := by
  obtain ⟨ao, cap, rfl, hcap, hmax, hc⟩ := h
  unfold maxLen at hmax
  have CM := hid (fun (i : Nat) (hi : i < l.length) w h => over_any m (l.getD i 0) hm (hf i hi) gm w h)
  obtain ⟨L, hL⟩ : ∃ L, l.length = L := ⟨_, rfl⟩
  have HL := hid hL
  rw [hL] at hcap hl CM ⊢
  have HC := hid hc
  unfold frQ at CM
  clear hL hc hf
  go_enter Tryd.func137, Tryd.ntmps137
  go_wp2_with fail
  go_loopw [8] (fun x' wr => ∃ i : Nat, x' = .int .i64 i ∧ i ≤ L ∧ (∀ k, k < i → l.getD k 0 ≤ m) ∧ Below w.heap.size w wr) (fun x' _ => L - (intOf x').toNat)
  case atStart => exact ⟨0, rfl, Nat.zero_le _, fun k hk => by omega, Below.refl _ _⟩
  case round =>
    obtain ⟨i, rfl, hi, hlo, hbel⟩ := hrel
    have HLO := hid hlo
    clear hlo
    by_cases hiL : i < L
    · have hiL2 : (i : Int) < (L : Int) := by omega
      obtain ⟨b, off, rfl, hb, e0, e1⟩ := q_cell HC.out (show i < l.length by rw [HL.out]; exact hiL)
      have CMM := hid (CM.out i hiL)
      obtain ⟨q, hq⟩ : ∃ P, l.getD i 0 = P := ⟨_, rfl⟩
      rw [hq] at e0 e1 CMM
      have HQ := hid hq
      have x0 := (hbel.cell (p := ⟨b, off + i * 2, none⟩) hb).trans e0
      have x1 := (hbel.cell (p := ⟨b, off + i * 2 + 1, none⟩) hb).trans e1
      have hkr := hk.below hbel
      clear hq e0 e1
      go_wp2_with fail
      refine (CMM.out _ hkr).mono ?_
      rintro r w3 ⟨rfl, hb3⟩
      have hbel3 := hbel.trans (hb3.mono hbel.size)
      clear hb3 hkr x0 x1
      by_cases hmq : m < q
      · rw [decide_eq_true hmq]
        have HMQ := hid hmq
        clear hmq
        go_wp2
        go_ret
        exact ⟨⟨_, rfl, ⟨.inr ⟨i, rfl, by rw [HL.out]; exact hiL, by rw [HQ.out]; exact HMQ.out, HLO.out⟩⟩⟩, hbel3⟩
      · rw [decide_eq_false hmq]
        have HMQ := hid (Rat.not_lt.1 hmq)
        clear hmq
        go_wp2
        go_roundw
        case rel =>
          refine ⟨i + 1, by go_num, by omega, fun k hk => ?_, hbel3⟩
          by_cases hki : k = i
          · rw [hki, HQ.out]; exact HMQ.out
          · exact HLO.out k (by omega)
        case measure => simp [intOf]; omega
    · obtain rfl : L = i := by omega
      have hiL2 : ¬ (L : Int) < (L : Int) := by omega
      go_wp2
      go_ret
      exact ⟨⟨_, rfl, ⟨.inl ⟨rfl, fun k hk => HLO.out k (by rw [← HL.out]; exact hk)⟩⟩⟩, hbel⟩

end Go.Proofs.YtfkclcoipadhmaaDoor
