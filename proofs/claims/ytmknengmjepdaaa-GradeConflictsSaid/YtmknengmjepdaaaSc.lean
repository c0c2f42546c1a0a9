/- Walk of grade.Pattern.weigh. -/
import Derived.Test.YtmknengmjepdaaaSb
import Derived.Test.YtmknengmjepdaaaKx
namespace Go.Proofs.Ytmknengmjepdaaa
open Go.RowKit
attribute [local irreducible] seqS seqST

theorem take_snocE {es : List (Int × Rul)} {i : Nat} {e : Int × Rul} (h : es[i]? = some e) : es.take (i + 1) = es.take i ++ [e] := by
  obtain ⟨hi, he⟩ := List.getElem?_eq_some_iff.1 h
  rw [List.take_succ_eq_append_getElem hi, he]

set_option maxHeartbeats 2000000 in
set_option maxRecDepth 100000 in
theorem weigh_any (p : Pat) (es : List (Int × Rul)) (v vl : Value) (w : World) (h : PatF 0 w v p) (hl : IntsR 0 w vl (es.map (·.1))) (hp : PValid p) (hm : ∀ e ∈ es, e ∈ allL p) (hlen : es.length ≤ 16) :
    Calls Try.prog 118 #[v, vl] w fun e w' => e = .returned (.tuple #[.int .i64 (sumC es), .int .i64 (sumD es)]) ∧ Below w.heap.size w w' := by
  obtain ⟨sv, rfl, -⟩ := id h
  obtain ⟨al, capl, rfl, hcapl, hmaxl, hcl⟩ := hl
  rw [List.length_map] at hcapl ⊢
  obtain ⟨E, hE⟩ : ∃ E, es.length = E := ⟨_, rfl⟩
  have HE := hid hE
  have HP := hid hp
  have HM := hid hm
  have H := hid h
  rw [hE] at hcapl hlen ⊢
  unfold maxLen at hmaxl
  clear hE hp hm h
  go_enter Try.func118, Try.ntmps118
  go_wp2_with fail
  have k0 := Blk.new w #[.int .i64 p.n, sv] 33
  have b0 := (Below.refl w.heap.size w).alloc (Nat.le_refl _) (.cells #[.int .i64 p.n, sv] 33)
  obtain ⟨w0, hw0⟩ : ∃ w0, w.alloc (.cells #[.int .i64 p.n, sv] 33) = w0 := ⟨_, rfl⟩
  rw [hw0] at k0 b0 ⊢
  clear hw0
  obtain ⟨S, hS⟩ : ∃ S, w.heap.size = S := ⟨_, rfl⟩
  have HS := hid hS
  rw [hS] at k0 b0 ⊢
  clear hS
  go_loopw [4, 5, 11] (fun c d x wr => ∃ i : Nat, x = .int .i64 i ∧ i ≤ E ∧ c = .int .i64 (sumC (es.take i)) ∧ d = .int .i64 (sumD (es.take i)) ∧ Blk wr S #[.int .i64 p.n, sv] 33 ∧ Below S w wr) (fun _ _ x _ => E - (intOf x).toNat)
  case atStart => exact ⟨0, rfl, Nat.zero_le _, rfl, rfl, k0, b0⟩
  case round =>
    obtain ⟨i, rfl, hi, rfl, rfl, k1, b1⟩ := hrel
    clear k0 b0
    by_cases hiE : i < E
    · obtain ⟨e, he⟩ : ∃ e, es[i]? = some e := ⟨es[i]'(by rw [HE.out]; exact hiE), List.getElem?_eq_getElem _⟩
      have hem := HM.out e (List.mem_of_getElem? he)
      have hnb := num_bd hem
      have hrv := allL_RV HP.out hem
      have hnr := numRule_of hem
      have htk := take_snocE he
      have hbd := sumcd_bd HP.out (es.take i) (fun x hx => HM.out x (List.mem_of_mem_take hx))
      have hl1 : (es.take i).length ≤ 16 := by rw [List.length_take]; omega
      have hC : sumC (es.take (i + 1)) = sumC (es.take i) + e.2.c := by rw [htk, sumC_snoc]
      have hD : sumD (es.take (i + 1)) = sumD (es.take i) + e.2.d := by rw [htk, sumD_snoc]
      obtain ⟨g1, g2, g3, g4, g5, g6, g7, g8⟩ := hrv
      have wC : IntKind.i64.wrap (sumC (es.take i) + e.2.c) = sumC (es.take (i + 1)) := by rw [IntWalk.i64_left, ← hC]; unfold wrap64; omega
      have wD : IntKind.i64.wrap (sumD (es.take i) + e.2.d) = sumD (es.take (i + 1)) := by rw [IntWalk.i64_left, ← hD]; unfold wrap64; omega
      have hln : (es.map (·.1))[i]? = some e.1 := by rw [List.getElem?_map, he]; rfl
      obtain ⟨bl, ol, rfl, hbl, xl⟩ := int_cell hcl hln
      have c0 := (b1.cell (p := ⟨bl, ol + i, none⟩) (by have := HS.out; show bl < S; omega)).trans xl
      have c1 := k1.look 0 rfl
      have c2 := k1.look 1 rfl
      have RU : Hid (∀ w', Below S w w' → Calls Try.prog 113 #[.agg #[.int .i64 p.n, sv], .int .i64 e.1] w' fun r w'' => r = .returned (ruV e.2) ∧ Below w'.heap.size w' w'') :=
        hid (fun w' hb => by
          have := rule_any p e.1 _ w' (H.out.below (by rw [HS.out]; exact hb)) (by have := HP.out.2.1; omega) hnb.2
          rw [hnr] at this
          exact this)
      obtain ⟨ne, re⟩ := e
      obtain ⟨ra, rb, rc, rd⟩ := re
      dsimp only at wC wD c0
      simp only [ruV] at RU
      obtain ⟨C0, hC0⟩ : ∃ t, sumC (es.take i) = t := ⟨_, rfl⟩
      obtain ⟨D0, hD0⟩ : ∃ t, sumD (es.take i) = t := ⟨_, rfl⟩
      obtain ⟨C1, hC1⟩ : ∃ t, sumC (es.take (i + 1)) = t := ⟨_, rfl⟩
      obtain ⟨D1, hD1⟩ : ∃ t, sumD (es.take (i + 1)) = t := ⟨_, rfl⟩
      rw [hC0, hC1] at wC
      rw [hD0, hD1] at wD
      have HC1 := hid hC1
      have HD1 := hid hD1
      rw [hC0, hD0]
      have hiE2 : (i : Int) < (E : Int) := by omega
      clear he hem hnb hnr htk hbd hl1 hC hD g1 g2 g3 g4 g5 g6 g7 g8 hln xl hC0 hD0 hC1 hD1
      go_wp2_with fail
      refine (RU.out _ b1).mono ?_
      rintro r w2 ⟨rfl, hb2⟩
      have b2 := b1.trans (hb2.mono (by have := k1.lt; omega))
      have k2 := k1.below hb2
      clear c0 c1 c2 k1 b1 hb2
      go_wp2_with fail
      have kr := Blk.new w2 #[.int .i64 ra, .int .i64 rb, .int .i64 rc, .int .i64 rd] 92
      have k3 := k2.alloc (.cells #[.int .i64 ra, .int .i64 rb, .int .i64 rc, .int .i64 rd] 92)
      have b3 := b2.alloc (by have := k2.lt; omega) (.cells #[.int .i64 ra, .int .i64 rb, .int .i64 rc, .int .i64 rd] 92)
      obtain ⟨w3, hw3⟩ : ∃ w3, w2.alloc (.cells #[.int .i64 ra, .int .i64 rb, .int .i64 rc, .int .i64 rd] 92) = w3 := ⟨_, rfl⟩
      rw [hw3] at kr k3 b3 ⊢
      clear hw3 k2 b2
      have z2 := fun x : Sub w3.drew => (kr.drew.below x.b).look 2 rfl
      have z3 := fun x : Sub w3.drew => (kr.drew.below x.b).look 3 rfl
      refine wp_seq [(0, false), (1, false), (2, false), (3, false), (4, false), (5, false), (6, false), (7, false), (8, false), (9, false)] [(_, false), (_, false), (_, false), (_, false), (_, false), (_, false), (_, false), (_, false), (_, false), (_, false)] (by kernel_rfl) rfl rfl (by kernel_rfl) ?_
      iterate 10 (refine seqS_read (fun K hK => ?_); go_simp; refine hK _ ?_; clear hK K)
      refine seqS_nil ?_
      go_wp2_with fail
      refine ⟨⟨i + 1, by go_num, by omega, by rw [HC1.out], by rw [HD1.out], k3.drew, b3.drew⟩, by simp [intOf]; omega⟩
    · obtain rfl : i = E := by omega
      have t1 : es.take i = es := List.take_of_length_le (by rw [HE.out]; omega)
      rw [t1]
      clear t1
      go_wp2
      go_ret2
      exact ⟨rfl, by rw [HS.out]; exact b1⟩

end Go.Proofs.Ytmknengmjepdaaa
