/- Walk of trankref04.Chain over a right chain. -/
import Derived.Test.YtmknengmjepdaaaVa
import Derived.Test.YtmknengmjepdaaaGa
import Derived.Test.YtmknengmjepdaaaKx
namespace Go.Proofs.Ytmknengmjepdaaa
open Go.RowKit

theorem infoBool : (Try.prog.info? 4).map (fun i => (i.zero, i.size, i.bytes)) = some (some (.bool false), 1, 1) := by kernel_rfl
theorem made_bool (N : Nat) : madeCells #[Value.bool false] N = vArr N (fun _ => .bool false) := by
  apply Array.ext'
  rw [toList_madeCells_one]
  unfold vArr
  simp [List.map_const']
/-- The unknowns that have been the A of a rule. -/
def metF (es : List (Int × Rul)) (a i : Nat) (v : Nat) : Value := .bool ((List.range i).any fun j => vert (es.map (·.2)) a j == v)
theorem met_zero (es : List (Int × Rul)) (a N : Nat) : vArr N (metF es a 0) = vArr N (fun _ => .bool false) := rfl
theorem met_set (es : List (Int × Rul)) (a N i : Nat) : (vArr N (metF es a i)).setIfInBounds (vert (es.map (·.2)) a i) (.bool true) = vArr N (metF es a (i + 1)) := by
  rw [vArr_set]
  refine vArr_congr fun v _ => ?_
  unfold metF
  rw [List.range_succ, List.any_append]
  by_cases h : v = vert (es.map (·.2)) a i
  · rw [if_pos h, h]; simp
  · rw [if_neg h]
    have : (vert (es.map (·.2)) a i == v) = false := by simpa using fun e => h e.symm
    simp [this]
theorem met_new {p : Pat} {es : List (Int × Rul)} {a b i : Nat} (h : OkChain p es a b) (hi : i < es.length) : metF es a i (vert (es.map (·.2)) a i) = .bool false := by
  unfold metF
  congr 1
  rw [List.any_eq_false]
  intro j hj
  have := h.dist j i (List.mem_range.1 hj) hi
  simpa using this

set_option maxHeartbeats 8000000 in
set_option maxRecDepth 100000 in
theorem rChain_any (p : Pat) (es : List (Int × Rul)) (a b : Nat) (vl v : Value) (w : World) (h : PatF 0 w v p) (hl : IntsR 0 w vl (es.map (·.1))) (hp : PValid p) (hok : OkChain p es a b) (hlen : es.length ≤ 16) :
    Calls Try.prog 39 #[v, vl, .int .i64 (a : Int), .int .i64 (b : Int)] w fun e w' => e = .returned (.tuple #[.int .i64 (sumC es), .int .i64 (sumD es), .bool true]) ∧ Below w.heap.size w w' := by
  obtain ⟨sv, rfl, -⟩ := id h
  obtain ⟨al, capl, rfl, hcapl, hmaxl, hcl⟩ := hl
  rw [List.length_map] at hcapl ⊢
  obtain ⟨E, hE⟩ : ∃ E, es.length = E := ⟨_, rfl⟩
  have HE := hid hE
  obtain ⟨N, hN⟩ : ∃ N : Nat, p.n = N := ⟨p.n.toNat, by have := hp.1; omega⟩
  have hN16 : N ≤ 16 := by have := hp.2.1; omega
  have HN := hid hN
  have HP := hid hp
  have HOK := hid hok
  rw [hE] at hcapl hlen ⊢
  rw [hN] at h ⊢
  unfold maxLen at hmaxl
  clear hp hok hE hN
  go_enter Try.func39, Try.ntmps39
  go_wp2_with fail
  have k0 := Blk.new w #[.int .i64 (N : Int), sv] 24
  have b0 := (Below.refl w.heap.size w).alloc (Nat.le_refl _) (.cells #[.int .i64 (N : Int), sv] 24)
  obtain ⟨w0, hw0⟩ : ∃ w0, w.alloc (.cells #[.int .i64 (N : Int), sv] 24) = w0 := ⟨_, rfl⟩
  rw [hw0] at k0 b0 ⊢
  clear hw0
  have c0 := k0.look 0 rfl
  have c1 := k0.look 1 rfl
  go_wp2_with fail
  refine (All4_any p _ _ (h.below b0) HP.out.1 HP.out.2.1 HP.out.2.2.1).mono ?_
  rintro e w1 ⟨vr, vn, rfl, hr, hn, hb1⟩
  have b1 := b0.trans (hb1.mono b0.size)
  have k01 := k0.below hb1
  clear c0 c1 hb1 k0 b0
  obtain ⟨ar, capr, rfl, hcapr, hmaxr, hcr⟩ := hr
  obtain ⟨an, capn, rfl, hcapn, hmaxn, hcn⟩ := hn
  obtain ⟨R, hR⟩ : ∃ R, (ext p).length = R := ⟨_, rfl⟩
  have hRn : (nums p).length = R := by rw [nums_len, ← hR, ext_len]
  have HR := hid hR
  have HRN := hid hRn
  rw [hR] at hcapr ⊢
  rw [hRn] at hcapn ⊢
  unfold maxLen at hmaxr hmaxn
  clear hR hRn
  have c0 := k01.look 0 rfl
  go_wp2_with (at_make; refine wpList_mkr rfl (.tmp 28) (.tmp 28) 107 rfl 4 (.bool false) 1 Try.underlying107 infoBool rfl _ _ N rfl rfl (by omega) (by omega) ?_; rw [made_bool])
  clear c0
  obtain ⟨B, hB⟩ : ∃ B, w1.heap.size = B := ⟨_, rfl⟩
  have km := Blk.new w1 (vArr N (fun _ => .bool false)) 4
  have b2 := (Below.refl w1.heap.size w1).alloc (Nat.le_refl _) (.cells (vArr N (fun _ => .bool false)) 4)
  rw [← met_zero es a N] at km b2 ⊢
  obtain ⟨w2, hw2⟩ : ∃ w2, w1.alloc (.cells (vArr N (metF es a 0)) 4) = w2 := ⟨_, rfl⟩
  rw [hw2] at km b2 ⊢
  rw [hB] at km b2 ⊢
  have HB := hid hB
  clear hw2 hB
  have hbw := b1.size
  go_loopw [14, 15, 16, 33] (fun c d t x wr => ∃ i : Nat, x = .int .i64 i ∧ i ≤ E ∧ c = .int .i64 (sumC (es.take i)) ∧ d = .int .i64 (sumD (es.take i)) ∧ t = .int .i64 ((vert (es.map (·.2)) a i : Nat) : Int) ∧ Blk wr B (vArr N (metF es a i)) 4 ∧ Below B w1 wr) (fun _ _ _ x _ => E - (intOf x).toNat)
  case atStart => exact ⟨0, rfl, Nat.zero_le _, rfl, rfl, by rw [vert_zero], km, b2⟩
  case round =>
    obtain ⟨i, rfl, hi, rfl, rfl, rfl, km1, bel1⟩ := hrel
    clear km b2
    by_cases hiE : i < E
    · obtain ⟨e, he⟩ : ∃ e, es[i]? = some e := ⟨es[i]'(by rw [HE.out]; exact hiE), List.getElem?_eq_getElem _⟩
      have hem := HOK.out.mem e (List.mem_of_getElem? he)
      obtain ⟨J, hJ1, hJ2⟩ := allL_at hem
      have hJR : J < R := by have := (List.getElem?_eq_some_iff.1 hJ2).1; have := HR.out; omega
      have hrv := allL_RV HP.out hem
      obtain ⟨q1, q2⟩ := chain_at HOK.out.walk he
      have htk : es.take (i + 1) = es.take i ++ [e] := by
        obtain ⟨hi9, he9⟩ := List.getElem?_eq_some_iff.1 he
        rw [List.take_succ_eq_append_getElem hi9, he9]
      have hbd := sumcd_bd HP.out (es.take i) (fun x hx => HOK.out.mem x (List.mem_of_mem_take hx))
      have hbd2 := sumcd_bd HP.out (es.take (i + 1)) (fun x hx => HOK.out.mem x (List.mem_of_mem_take hx))
      have hl1 : (es.take i).length ≤ 16 := by rw [List.length_take]; omega
      have hl2 : (es.take (i + 1)).length ≤ 17 := by rw [List.length_take]; omega
      have hC : sumC (es.take (i + 1)) = sumC (es.take i) + e.2.c := by rw [htk, sumC_snoc]
      have hD : sumD (es.take (i + 1)) = sumD (es.take i) + e.2.d := by rw [htk, sumD_snoc]
      have wC : IntKind.i64.wrap (sumC (es.take i) + e.2.c) = sumC (es.take (i + 1)) := by rw [IntWalk.i64_left, ← hC]; unfold wrap64; omega
      have wD : IntKind.i64.wrap (sumD (es.take i) + e.2.d) = sumD (es.take (i + 1)) := by rw [IntWalk.i64_left, ← hD]; unfold wrap64; omega
      obtain ⟨at0, hat0⟩ : ∃ t, vert (es.map (·.2)) a i = t := ⟨_, rfl⟩
      have hmet := met_new HOK.out (show i < es.length by rw [HE.out]; exact hiE)
      have hmset := met_set es a N i
      have hatN : at0 < N := by
        rw [hat0] at q1
        have a1 := hrv.2.1
        rw [HN.out] at a1
        omega
      rw [hat0] at q1 hmet hmset
      obtain ⟨at1, hat1⟩ : ∃ t, vert (es.map (·.2)) a (i + 1) = t := ⟨_, rfl⟩
      rw [hat1] at q2
      obtain ⟨C0, hC0⟩ : ∃ t, sumC (es.take i) = t := ⟨_, rfl⟩
      obtain ⟨D0, hD0⟩ : ∃ t, sumD (es.take i) = t := ⟨_, rfl⟩
      obtain ⟨C1, hC1⟩ : ∃ t, sumC (es.take (i + 1)) = t := ⟨_, rfl⟩
      obtain ⟨D1, hD1⟩ : ∃ t, sumD (es.take (i + 1)) = t := ⟨_, rfl⟩
      rw [hC0, hC1] at wC
      rw [hD0, hD1] at wD
      have hb1' : e.2.b = (at1 : Int) := by have := hrv.2.2.1; omega
      have hln : (es.map (·.1))[i]? = some e.1 := by rw [List.getElem?_map, he]; rfl
      obtain ⟨bl, ol, rfl, hbl, xl⟩ := int_cell hcl hln
      have hww : w.heap.size ≤ B := by have := HB.out; omega
      have c0 := ((b1.trans (bel1.mono hww)).cell (p := ⟨bl, ol + i, none⟩) hbl).trans xl
      have hiE2 : (i : Int) < (E : Int) := by omega
      have HC1 := hid hC1
      have HD1 := hid hD1
      have HA1 := hid hat1
      obtain ⟨n0, hn0⟩ : ∃ z, e.1 = z := ⟨_, rfl⟩
      rw [hn0] at hJ1 c0
      have HJ1 := hid hJ1
      have HJ2 := hid hJ2
      rw [hC0, hD0, hat0]
      clear he hem hJ1 hJ2 hrv htk hbd hbd2 hl1 hl2 hC hD hat0 hat1 hC0 hD0 hC1 hD1 hln hn0 xl q2
      go_wp2_with fail
      clear c0
      generalize wr = w3 at *
      go_loopw [14, 15, 16, 19, 39] (fun c d t f x wr => ∃ j : Nat, x = .int .i64 j ∧ j ≤ R ∧ ((j ≤ J ∧ c = .int .i64 C0 ∧ d = .int .i64 D0 ∧ t = .int .i64 (at0 : Int) ∧ f = .bool false ∧ Blk wr B (vArr N (metF es a i)) 4) ∨ (J < j ∧ c = .int .i64 C1 ∧ d = .int .i64 D1 ∧ t = .int .i64 (at1 : Int) ∧ f = .bool true ∧ Blk wr B (vArr N (metF es a (i + 1))) 4)) ∧ Below B w1 wr) (fun _ _ _ _ x _ => R - (intOf x).toNat)
      case atStart => exact ⟨0, rfl, Nat.zero_le _, .inl ⟨Nat.zero_le _, rfl, rfl, rfl, rfl, km1⟩, bel1⟩
      case round =>
        obtain ⟨j, rfl, hj, hst, bel2⟩ := hrel
        clear km1 bel1
        by_cases hjR : j < R
        · obtain ⟨nj, hnj⟩ := ex_int (l := nums p) (i := j) (by rw [HRN.out]; exact hjR)
          obtain ⟨bn, on, rfl, hbn, xn⟩ := int_cell hcn hnj
          have cn := (bel2.cell (p := ⟨bn, on + j, none⟩) (by have := HB.out; show bn < B; omega)).trans xn
          have hjR2 : (j : Int) < (R : Int) := by omega
          rcases hst with ⟨hjJ, rfl, rfl, rfl, rfl, km2⟩ | ⟨hjJ, rfl, rfl, rfl, rfl, km2⟩
          · by_cases hjq : j = J
            · subst hjq
              have hnn : nj = n0 := by have := HJ1.out; rw [hnj] at this; exact Option.some.inj this
              subst hnn
              obtain ⟨br, or_, rfl, hbr, r0, r1, r2, r3⟩ := ru_cell hcr HJ2.out
              have hbr' : br < B := by have := HB.out; omega
              replace r0 := (bel2.cell (p := ⟨br, or_ + j * 4, none⟩) hbr').trans r0
              replace r1 := (bel2.cell (p := ⟨br, or_ + j * 4 + 1, none⟩) hbr').trans r1
              replace r2 := (bel2.cell (p := ⟨br, or_ + j * 4 + 2, none⟩) hbr').trans r2
              replace r3 := (bel2.cell (p := ⟨br, or_ + j * 4 + 3, none⟩) hbr').trans r3
              rw [q1] at r0
              rw [hb1'] at r1
              have cm := km2.look at0 (vArr_get hatN)
              rw [hmet] at cm
              have fm := km2.frozen
              have hat2 : (at0 : Int) < (N : Int) := by omega
              have so : ∀ q, (wr.setCell ⟨B, at0, none⟩ (.bool true)).cell? ⟨br, q, none⟩ = wr.cell? ⟨br, q, none⟩ := fun q => World.cell?_of_block (Below.heap_setCell wr ⟨B, at0, none⟩ (.bool true) br (by show br ≠ B; omega))
              have t0 := (so _).trans r0
              have t1 := (so _).trans r1
              have t2 := (so _).trans r2
              have t3 := (so _).trans r3
              have km3 := km2.set at0 (.bool true)
              rw [hmset] at km3
              have bel3 := bel2.setCell (p := ⟨B, at0, none⟩) (Nat.le_refl _) (.bool true)
              clear so
              go_wp2_with fail
              refine ⟨⟨j + 1, by go_num, by omega, .inr ⟨by omega, rfl, rfl, rfl, rfl, km3⟩, bel3⟩, by simp [intOf]; omega⟩
            · have hne : nj ≠ n0 := fun hh => hjq (nums_inj hnj (by rw [hh]; exact HJ1.out))
              go_wp2_with fail
              refine ⟨⟨j + 1, by go_num, by omega, .inl ⟨by omega, rfl, rfl, rfl, rfl, km2⟩, bel2⟩, by simp [intOf]; omega⟩
          · have hne : nj ≠ n0 := fun hh => by
              have := nums_inj hnj (by rw [hh]; exact HJ1.out)
              omega
            go_wp2_with fail
            refine ⟨⟨j + 1, by go_num, by omega, .inr ⟨by omega, rfl, rfl, rfl, rfl, km2⟩, bel2⟩, by simp [intOf]; omega⟩
        · obtain rfl : j = R := by omega
          rcases hst with ⟨hjJ, -⟩ | ⟨-, rfl, rfl, rfl, rfl, km2⟩
          · omega
          · go_wp2_with fail
            refine ⟨⟨i + 1, by go_num, by omega, by rw [HC1.out], by rw [HD1.out], by rw [HA1.out], km2, bel2⟩, by simp [intOf]; omega⟩
    · obtain rfl : i = E := by omega
      have hend := chain_end HOK.out.walk
      rw [HE.out] at hend
      have t1 : es.take i = es := List.take_of_length_le (by rw [HE.out]; omega)
      rw [hend, t1]
      have hww : w.heap.size ≤ B := by have := HB.out; omega
      clear hend t1
      go_wp2
      go_ret3
      exact ⟨rfl, b1.trans (bel1.mono hww)⟩

end Go.Proofs.Ytmknengmjepdaaa
