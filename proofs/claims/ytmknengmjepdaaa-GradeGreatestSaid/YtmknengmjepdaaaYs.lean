/- Walk of grade.Greatest. -/
import Derived.Test.YtmknengmjepdaaaYu
import Derived.Test.YtmknengmjepdaaaGb
import Derived.Test.YtmknengmjepdaaaKx
namespace Go.Proofs.Ytmknengmjepdaaa
open Go.RowKit
attribute [local irreducible] seqS seqST walkV walkJ

set_option maxHeartbeats 8000000 in
set_option maxRecDepth 100000 in
theorem gGreatest_any (p : Pat) (n d mn md : Int) (v : Value) (w : World) (h : PatF 0 w v p) :
    Calls Try.prog 58 #[v, .agg #[.int .i64 n, .int .i64 d], .agg #[.int .i64 mn, .int .i64 md]] w fun e w' => (∃ vm, e = .returned (.tuple #[vm, .int .i64 (grE p n d mn md)]) ∧ FrsR w.heap.size w' vm (grL p n d mn md)) ∧ Below w.heap.size w w' := by
  obtain ⟨sv, rfl, hsl⟩ := id h
  obtain ⟨Z, hZ⟩ : ∃ Z, clArr 0 (fun _ _ => NONE) = Z := ⟨_, rfl⟩
  have hz := (zero_of_info infoCl).1
  rw [hZ] at hz
  have HZ := hid hZ
  clear hZ
  obtain ⟨ge, hge⟩ : ∃ g, grE p n d mn md = g := ⟨_, rfl⟩
  obtain ⟨gl, hgl⟩ : ∃ g, grL p n d mn md = g := ⟨_, rfl⟩
  have HGE := hid hge
  have HGL := hid hgl
  rw [hge, hgl]
  clear hge hgl
  go_enter Try.func58, Try.ntmps58
  go_wp2_with fail
  obtain ⟨w0, hw0, k0, k1, k2, hB0, hsz⟩ := three_new w #[.int .i64 p.n, sv] #[.int .i64 n, .int .i64 d] #[.int .i64 mn, .int .i64 md] 33 26 26
  rw [hw0]
  clear hw0
  have h0 := h.below hB0
  obtain ⟨S, hS⟩ : ∃ S, w.heap.size = S := ⟨_, rfl⟩
  rw [hS] at k0 k1 k2 hsz hB0 ⊢
  have hS0 : S ≤ w0.heap.size := by omega
  have HS := hid hS
  clear h hsl hS hsz
  have c0 := k0.look 0 rfl
  have c1 := k0.look 1 rfl
  go_wp2_with fail
  refine (gValid_any p _ _ h0).mono ?_
  rintro e w1 ⟨rfl, b1⟩
  clear c0 c1
  have hB := hB0.trans (b1.mono hS0)
  by_cases hp : PValid p
  case neg =>
    rw [decide_eq_false hp]
    have hn : ¬ (PValid p ∧ FSize n d ∧ FMost mn md) := fun hh => hp hh.1
    clear hp
    have E1 := hid (HGE.out.symm.trans (gr_two hn).1)
    have E2 := hid (HGL.out.symm.trans (gr_two hn).2)
    clear hn
    go_wp2
    go_ret2
    refine ⟨⟨_, by rw [E1.out]; rfl, ?_⟩, by rw [HS.out]; exact hB⟩
    rw [E2.out]
    exact SlR.nil _ _
  rw [decide_eq_true hp]
  have HP := hid hp
  clear hp
  have h1 := h0.below b1
  have k01 := k0.below b1
  have k11 := k1.below b1
  have k21 := k2.below b1
  have hS1 : S ≤ w1.heap.size := Nat.le_trans hS0 b1.size
  clear k0 k1 k2 h0 b1 hB0 hS0
  have hB1 := hB
  clear hB
  have c0 := k11.look 0 rfl
  have c1 := k11.look 1 rfl
  go_wp2_with fail
  refine (sized_any n d _).mono ?_
  rintro e w2 ⟨rfl, b2⟩
  clear c0 c1
  have hB := hB1.trans (b2.mono hS1)
  by_cases hs : FSize n d
  case neg =>
    rw [decide_eq_false hs]
    have hn : ¬ (PValid p ∧ FSize n d ∧ FMost mn md) := fun hh => hs hh.2.1
    clear hs
    have E1 := hid (HGE.out.symm.trans (gr_two hn).1)
    have E2 := hid (HGL.out.symm.trans (gr_two hn).2)
    clear hn
    go_wp2
    go_ret2
    refine ⟨⟨_, by rw [E1.out]; rfl, ?_⟩, by rw [HS.out]; exact hB⟩
    rw [E2.out]
    exact SlR.nil _ _
  rw [decide_eq_true hs]
  have HF := hid hs
  clear hs
  have h2 := h1.below b2
  have k02 := k01.below b2
  have k12 := k11.below b2
  have k22 := k21.below b2
  have hS2 : S ≤ w2.heap.size := Nat.le_trans hS1 b2.size
  clear k01 k11 k21 h1 b2 hB1 hS1
  have hB2 := hB
  clear hB
  have c0 := k22.look 0 rfl
  have c1 := k22.look 1 rfl
  go_wp2_with fail
  refine (fValid_any mn md _).mono ?_
  rintro e w3 ⟨rfl, b3⟩
  clear c0 c1
  have hB := hB2.trans (b3.mono hS2)
  have h3 := h2.below b3
  have k03 := k02.below b3
  have k13 := k12.below b3
  have k23 := k22.below b3
  have hS3 : S ≤ w3.heap.size := Nat.le_trans hS2 b3.size
  clear k02 k12 k22 h2 b3 hB2 hS2
  have c0 := k23.look 0 rfl
  have c1 := k23.look 1 rfl
  by_cases hm : FMost mn md
  case neg =>
    have hn : ¬ (PValid p ∧ FSize n d ∧ FMost mn md) := fun hh => hm hh.2.2
    rcases fmost_cases mn md with hv | ⟨hv, e1⟩ | ⟨hv, e1, e2⟩ | ⟨hv, e1, e2, e3⟩ | hv
    · rw [decide_eq_false hv]
      clear hv hm
      have E1 := hid (HGE.out.symm.trans (gr_two hn).1)
      have E2 := hid (HGL.out.symm.trans (gr_two hn).2)
      clear hn
      go_wp2
      go_ret2
      refine ⟨⟨_, by rw [E1.out]; rfl, ?_⟩, by rw [HS.out]; exact hB⟩
      rw [E2.out]
      exact SlR.nil _ _
    · rw [decide_eq_true hv]
      have hd1 := hv.1
      have hd2 := hv.2.1
      clear hv hm
      have E1 := hid (HGE.out.symm.trans (gr_two hn).1)
      have E2 := hid (HGL.out.symm.trans (gr_two hn).2)
      clear hn
      go_wp2
      go_ret2
      refine ⟨⟨_, by rw [E1.out]; rfl, ?_⟩, by rw [HS.out]; exact hB⟩
      rw [E2.out]
      exact SlR.nil _ _
    · rw [decide_eq_true hv]
      have hd1 := hv.1
      have hd2 := hv.2.1
      clear hv hm
      have E1 := hid (HGE.out.symm.trans (gr_two hn).1)
      have E2 := hid (HGL.out.symm.trans (gr_two hn).2)
      clear hn
      go_wp2
      go_ret2
      refine ⟨⟨_, by rw [E1.out]; rfl, ?_⟩, by rw [HS.out]; exact hB⟩
      rw [E2.out]
      exact SlR.nil _ _
    · rw [decide_eq_true hv]
      have hd1 := hv.1
      have hd2 := hv.2.1
      clear hv hm
      have E1 := hid (HGE.out.symm.trans (gr_two hn).1)
      have E2 := hid (HGL.out.symm.trans (gr_two hn).2)
      clear hn
      go_wp2
      go_ret2
      refine ⟨⟨_, by rw [E1.out]; rfl, ?_⟩, by rw [HS.out]; exact hB⟩
      rw [E2.out]
      exact SlR.nil _ _
    · exact absurd hv hm
  have hn : PValid p ∧ FSize n d ∧ FMost mn md := ⟨HP.out, HF.out, hm⟩
  have HN := hid hn
  have HM := hid hm
  rw [decide_eq_true hm.1]
  have hm1 := hm.2.1
  have hm2 := hm.2.2.1
  have hm3 := hm.2.2.2
  have hm4 := hm.1.1
  clear hm hn
  have hB3 := hB
  clear hB
  have d0 := k03.look 0 rfl
  have d1 := k03.look 1 rfl
  have d2 := k13.look 0 rfl
  have d3 := k13.look 1 rfl
  go_wp2_with fail
  refine (checked_any p n d _ _ h3).mono ?_
  rintro e w4 ⟨⟨vx, rfl, hE1, hE2⟩, b4⟩
  rw [leastE_of HP.out HF.out] at hE1 hE2 ⊢
  have hB := hB3.trans (b4.mono hS3)
  have h4 := h3.below b4
  have k04 := k03.below b4
  have k14 := k13.below b4
  have k24 := k23.below b4
  have hS4 : S ≤ w4.heap.size := Nat.le_trans hS3 b4.size
  clear k03 k13 k23 h3 b4 hB3 hS3 d0 d1 d2 d3 c0 c1
  cases hbad : chBad p n d with
  | true =>
    rw [if_pos rfl]
    have E1 := hid (HGE.out.symm.trans (gr_ten HN.out hbad).1)
    have E2 := hid (HGL.out.symm.trans (gr_ten HN.out hbad).2)
    clear hbad hE1 hE2
    go_wp2
    go_ret2
    refine ⟨⟨_, by rw [E1.out]; rfl, ?_⟩, by rw [HS.out]; exact hB⟩
    rw [E2.out]
    exact SlR.nil _ _
  | false =>
  rw [hbad] at hE1 hE2
  rw [if_neg (by decide)]
  have hxl := hE2 rfl
  have HBAD := hid hbad
  clear hbad hE1 hE2
  obtain ⟨N, hNN⟩ : ∃ N : Nat, p.n = N := ⟨p.n.toNat, by have := HP.out.1; omega⟩
  have hN1 : 1 ≤ N := by have := HP.out.1; omega
  have hN16 : N ≤ 16 := by have := HP.out.2.1; omega
  have HNN := hid hNN
  rw [hNN] at k04 h4
  have hpn : p.n.toNat = N := by rw [hNN, Int.toNat_natCast]
  have HPN := hid hpn
  rw [hNN]
  have hcb := fun (i j : Nat) (hi : i < N) (hj : j < N) => chain_small HP.out HF.out HBAD.out (i := i) (j := j) (by rw [hpn]; exact hj) (by rw [hpn]; exact hi)
  have HCB := hid hcb
  have hmb := most_bd HF.out HM.out
  have HMB := hid hmb
  have hd1 : 1 ≤ d := HF.out.1.1
  have hd2 : d ≤ 10000 := HF.out.2.2.1
  clear hNN hpn hcb
  obtain ⟨lim, hlim⟩ : ∃ z, mn * d = z := ⟨_, rfl⟩
  obtain ⟨dm, hdm⟩ : ∃ z, d * md = z := ⟨_, rfl⟩
  have wL : IntKind.i64.wrap (mn * d) = lim := by rw [hlim, IntWalk.i64_left]; rw [hlim] at hmb; unfold wrap64; omega
  have wD : IntKind.i64.wrap (d * md) = dm := by rw [hdm, IntWalk.i64_left]; rw [hdm] at hmb; unfold wrap64; omega
  rw [hlim, hdm] at hmb
  have HLIM := hid hlim
  have HDM := hid hdm
  clear hlim hdm
  obtain ⟨ao, cap, rfl, hcap, hmax, hc⟩ := hxl
  have hlen : (leastX p n d).length = N := by unfold leastX; rw [List.length_map, List.length_range, HPN.out]
  rw [hlen] at hcap ⊢
  have hget : ∀ i, i < N → (leastX p n d)[i]? = some (chainM p n d i 0) := by
    intro i hi
    unfold leastX
    rw [List.getElem?_map, List.getElem?_range (by rw [HPN.out]; exact hi)]
    rfl
  have HG := hid hget
  have HC := hid hc
  clear hget hlen hc
  unfold maxLen at hmax
  have c0 := k24.look 0 rfl
  have c3 := k14.look 1 rfl
  go_wp2_with fail
  clear c0 c3 wL
  have hB4 := hB
  clear hB
  go_loopw [66] (fun x wr => ∃ i : Nat, x = .int .i64 i ∧ i ≤ N ∧ (∀ j, j < i → ¬ lim < chainM p n d j 0 * md) ∧ Below w4.heap.size w4 wr) (fun x _ => N - (intOf x).toNat)
  case atStart => exact ⟨0, rfl, Nat.zero_le _, fun j hj => by omega, Below.refl _ _⟩
  case round =>
    obtain ⟨i, rfl, hi, hall, hbel⟩ := hrel
    have hB := hB4.trans (hbel.mono hS4)
    have k2r := k24.below hbel
    by_cases hiN : i < N
    · have hiN2 : (i : Int) < (N : Int) := by omega
      obtain ⟨b9, off9, rfl, hb9, cx9⟩ := int_cell HC.out (HG.out i hiN)
      have cx := (hbel.cell (p := ⟨b9, off9 + i, none⟩) hb9).trans cx9
      have c1 := k2r.look 1 rfl
      have hpb := chain_mul (chain_bd HP.out HF.out HBAD.out (by rw [HPN.out]; exact hiN)) hm4 hm2
      obtain ⟨z, hz0⟩ : ∃ z, chainM p n d i 0 = z := ⟨_, rfl⟩
      rw [hz0] at cx hpb
      obtain ⟨q, hq⟩ : ∃ q, z * md = q := ⟨_, rfl⟩
      rw [hq] at hpb
      have wQ : IntKind.i64.wrap (z * md) = q := by rw [hq, IntWalk.i64_left]; unfold wrap64; omega
      have hval : chainM p n d i 0 * md = q := by rw [hz0, hq]
      have HV := hid hval
      have HALL := hid hall
      clear hall hval hq hz0 cx9
      by_cases hlq : lim < q
      · have hsh : grShort p n d mn md = true := by
          unfold grShort
          rw [List.any_eq_true]
          exact ⟨i, List.mem_range.2 (by rw [HPN.out]; exact hiN), by rw [HV.out, HLIM.out]; exact decide_eq_true hlq⟩
        have E1 := hid (HGE.out.symm.trans (gr_eleven HN.out HBAD.out hsh).1)
        have E2 := hid (HGL.out.symm.trans (gr_eleven HN.out HBAD.out hsh).2)
        clear hsh
        go_wp2
        go_ret2
        refine ⟨⟨_, by rw [E1.out]; rfl, ?_⟩, by rw [HS.out]; exact hB⟩
        rw [E2.out]
        exact SlR.nil _ _
      · go_wp2_with fail
        refine ⟨⟨i + 1, by go_num, by omega, fun j hj => ?_, hbel⟩, by simp [intOf]; omega⟩
        by_cases hji : j = i
        · subst hji
          rw [HV.out]
          exact hlq
        · exact HALL.out j (by omega)
    · obtain rfl : N = i := by omega
      have hsh : grShort p n d mn md = false := by
        unfold grShort
        rw [List.any_eq_false]
        intro j hj
        rw [List.mem_range, HPN.out] at hj
        rw [HLIM.out]
        simpa using hall j hj
      have HSH := hid hsh
      clear hall hsh HG HC
      have k0r := k04.below hbel
      have k1r := k14.below hbel
      have h4r := h4.below hbel
      have hSr : S ≤ wr.heap.size := Nat.le_trans hS4 hbel.size
      have d0 := k0r.look 0 rfl
      have d1 := k0r.look 1 rfl
      have d2 := k1r.look 0 rfl
      have d3 := k1r.look 1 rfl
      clear k04 k14 k24 hB4 hbel hS4 h4
      go_wp2_with fail
      refine (closed_any p n d _ _ h4r HP.out HF.out ((chBad_iff HP.out HF.out).1 HBAD.out)).mono ?_
      rintro e w5 ⟨rfl, b5⟩
      rw [HPN.out]
      have hB5 := hB.trans (b5.mono hSr)
      have k05 := k0r.below b5
      have k15 := k1r.below b5
      have k25 := k2r.below b5
      have hS5 : S ≤ w5.heap.size := Nat.le_trans hSr b5.size
      clear d0 d1 d2 d3 hB k0r k1r k2r h4r b5 hSr
      have kv := Blk.new w5 Z 122
      have kq := setRow_blk (cs' := clArr N (chainM p n d)) kv
      have k0q : Blk ((w5.alloc (.cells Z 122)).setRow w5.heap.size (clArr N (chainM p n d))) S #[.int .i64 (N : Int), sv] 33 := (setRow_other _ _ _ (by have := k05.lt; omega)).trans (k05.alloc (.cells Z 122))
      have k1q : Blk ((w5.alloc (.cells Z 122)).setRow w5.heap.size (clArr N (chainM p n d))) (S + 1) #[.int .i64 n, .int .i64 d] 26 := (setRow_other _ _ _ (by have := k15.lt; omega)).trans (k15.alloc (.cells Z 122))
      have k2q : Blk ((w5.alloc (.cells Z 122)).setRow w5.heap.size (clArr N (chainM p n d))) (S + 1 + 1) #[.int .i64 mn, .int .i64 md] 26 := (setRow_other _ _ _ (by have := k25.lt; omega)).trans (k25.alloc (.cells Z 122))
      have hBq := setRow_below (hB5.alloc hS5 (.cells Z 122)) hS5 (clArr N (chainM p n d))
      have hZs : Z.size = (clArr N (chainM p n d)).size := by rw [← HZ.out, clArr_size, clArr_size]
      obtain ⟨wq, hwq⟩ : ∃ wq, (w5.alloc (.cells Z 122)).setRow w5.heap.size (clArr N (chainM p n d)) = wq := ⟨_, rfl⟩
      rw [hwq] at kq k0q k1q k2q hBq
      clear k05 k15 k25 hB5
      have c0 := k0q.look 0 rfl
      go_wp2_with (first
        | (refine wpList_store_row rfl 122 (.tmp 13) (.tmp 79) rfl w5.heap.size (clArr N (chainM p n d)) rfl rfl 122 Z kv (cl_info _ _) hZs (cl_one _ _) ?_; rw [hwq])
        | (at_make; refine wpList_mks rfl (.tmp 81) (.tmp 81) 27 rfl 26 (frV 0 0) 2 16 Try.underlying27 infoFrac _ _ N rfl rfl (by omega) (by omega) ?_; rw [made_row2]))
      clear c0 kv hwq hZs hz
      obtain ⟨Q, hQ⟩ : ∃ Q, w5.heap.size = Q := ⟨_, rfl⟩
      rw [hQ] at kq hS5 ⊢
      clear hQ
      have hSq : S ≤ wq.heap.size := by have := kq.lt; omega
      have kx := Blk.new wq (rowArr (N * 2) fun _ => 0) 26
      have hb2 := (Below.refl wq.heap.size wq).alloc (Nat.le_refl _) (.cells (rowArr (N * 2) fun _ => 0) 26)
      obtain ⟨w6, hw6⟩ : ∃ w6, wq.alloc (.cells (rowArr (N * 2) fun _ => 0) 26) = w6 := ⟨_, rfl⟩
      rw [hw6] at kx hb2 ⊢
      clear hw6
      obtain ⟨B, hBB⟩ : ∃ B, wq.heap.size = B := ⟨_, rfl⟩
      have hlt := kq.lt
      have hlt0 := k0q.lt
      have hlt1 := k1q.lt
      have hlt2 := k2q.lt
      rw [hBB] at kx hlt hlt0 hlt1 hlt2 hb2 hSq ⊢
      have HBB := hid hBB
      clear hBB
      go_loopw [85] (fun x wr => ∃ i : Nat, x = .int .i64 i ∧ i ≤ N ∧ Below B wq wr ∧ ∃ g, Blk wr B (rowArr (N * 2) g) 26 ∧ ∀ j, j < i → g (j * 2) = (grF p n d mn md j).1 ∧ g (j * 2 + 1) = (grF p n d mn md j).2 ∧ newE (grZ p n d mn md j N) dm = 0) (fun x _ => N - (intOf x).toNat)
      case atStart => exact ⟨0, rfl, Nat.zero_le _, hb2, _, kx, fun j hj => by omega⟩
      case round =>
        obtain ⟨i, rfl, hi, hbel, g, kr, hg⟩ := hrel
        have hB := hBq.trans (hbel.mono hSq)
        clear hb2 kx
        by_cases hiN : i < N
        · have hiN2 : (i : Int) < (N : Int) := by omega
          have hi16 : i < 16 := by omega
          have hi162 : (i : Int) < 16 := by omega
          have c0 := (k0q.below' hbel hlt0).look 0 rfl
          have HG := hid hg
          clear hg
          go_wp2_with fail
          clear c0
          have hkq := kq.below' hbel hlt
          have hk0 := k0q.below' hbel hlt0
          have hk1 := k1q.below' hbel hlt1
          have hk2 := k2q.below' hbel hlt2
          generalize wr = w3 at *
          go_loopw [16, 91] (fun y x wr => ∃ a : Nat, x = .int .i64 a ∧ y = .int .i64 (grZ p n d mn md i a) ∧ a ≤ N ∧ Below w3.heap.size w3 wr) (fun _ x _ => N - (intOf x).toNat)
          case atStart => exact ⟨0, rfl, by show _ = Value.int .i64 (mn * d); rw [HLIM.out], Nat.zero_le _, Below.refl _ _⟩
          case round =>
            obtain ⟨a, rfl, rfl, ha, hbel3⟩ := hrel
            by_cases haN : a < N
            · have haN2 : (a : Int) < (N : Int) := by omega
              have ha16 : a < 16 := by omega
              have ha162 : (a : Int) < 16 := by omega
              have cis := (hkq.below hbel3).look (256 + a * 16 + i) (clArr_b ha16 hi16)
              by_cases h1 : chainM p n d a i = NONE
              · rw [onB_no (N := N) h1] at cis
                go_wp2_with fail
                refine ⟨⟨a + 1, by go_num, by rw [grZ_none h1], by omega, hbel3⟩, by simp [intOf]; omega⟩
              · rw [onB_yes haN hiN h1] at cis
                have hcb := small_mul (HCB.out i a hiN haN h1) hm4 hm2
                have hgb := grC_bd HP.out HF.out HM.out HBAD.out (i := i) (j := a) (by rw [HPN.out]; exact haN) (by rw [HPN.out]; exact hiN) h1
                have hzs := grZ_some (mn := mn) (md := md) h1
                unfold grC at hgb hzs
                rw [HLIM.out] at hgb hzs
                obtain ⟨m, hm⟩ : ∃ m, chainM p n d a i = m := ⟨_, rfl⟩
                obtain ⟨za, hza⟩ : ∃ z, grZ p n d mn md i a = z := ⟨_, rfl⟩
                obtain ⟨zb, hzb⟩ : ∃ z, grZ p n d mn md i (a + 1) = z := ⟨_, rfl⟩
                obtain ⟨q, hq⟩ : ∃ q, m * md = q := ⟨_, rfl⟩
                have wQ : IntKind.i64.wrap (m * md) = q := by rw [hm, hq] at hcb; rw [hq, IntWalk.i64_left]; unfold wrap64; omega
                rw [hm, hq] at hcb hgb hzs
                rw [hza, hzb] at hzs
                rw [hza]
                have HM2 := hid hm
                have HZB := hid hzb
                have hw0 : onW N (chainM p n d) a i = m := by rw [onW_yes haN hiN h1, hm]
                have HW0 := hid hw0
                clear hm hza hzb hq hw0 h1
                by_cases ha0 : a = 0
                · rw [if_pos ha0] at hgb hzs
                  have ha02 : (a : Int) = 0 := by omega
                  obtain ⟨cc, hcc⟩ : ∃ c, 0 - q = c := ⟨_, rfl⟩
                  have wC : IntKind.i64.wrap (0 - q) = cc := by rw [hcc, IntWalk.i64_left]; unfold wrap64; omega
                  have wC2 : IntKind.i64.wrap (-q) = cc := by rw [← Int.zero_sub]; exact wC
                  have wCc : IntKind.i64.wrap cc = cc := by rw [← hcc, IntWalk.i64_left]; unfold wrap64; omega
                  rw [hcc] at hzs
                  clear hcc
                  have cis0 : wr.cell? ⟨Q, 256 + i, none⟩ = some (.bool true) := by
                    have := cis
                    rw [ha0] at this
                    simpa using this
                  go_wp2_with fail
                  have hk2r := hk2.below hbel3
                  have hkqr := hkq.below hbel3
                  have hd := (Below.refl wr.heap.size wr).drew
                  have z0 := fun x : SubT (Below wr.heap.size) wr.drew => ((hkqr.below (hd.trans x.b)).look (a * 16 + i) (clArr_w ha16 hi16)).trans (congrArg (fun y => some (Value.int .i64 y)) HW0.out)
                  have z1 := fun x : SubT (Below wr.heap.size) wr.drew => (hk2r.below (hd.trans x.b)).look 1 rfl
                  have z00 : ∀ x : SubT (Below wr.heap.size) wr.drew, x.w.cell? ⟨Q, i, none⟩ = some (.int .i64 m) := fun x => by
                    have := z0 x
                    rw [ha0] at this
                    simpa using this
                  rcases (by omega : (za < cc ∧ za ≤ cc ∧ ¬ cc < za) ∨ (¬ za < cc ∧ za ≤ cc ∧ za = cc ∧ ¬ cc < za) ∨ (¬ za < cc ∧ ¬ za ≤ cc ∧ cc < za)) with ⟨m1, m2, m4⟩ | ⟨m1, m2, m3, m4⟩ | ⟨m1, m2, m4⟩
                  · skip
                    refine wp_walkJ (T := Below (wr.heap.size)) (belowV_pre _) (.rd 0 (.rd 1 (.rd 2 (.rd 3 (.rd 4 (.rd 5 (.rd 6 (.rd 7 (.rd 8 (.rd 9 (.rd 10 (.rd 11 (.rd 12 (.rd 13 (.inv []))))))))))))))) (by kernel_rfl) rfl (by kernel_rfl) (by kernel_rfl) ?_
                    iterate 14 (refine walkJ_rd rfl (fun K hK => ?_); go_simp; refine hK _ ?_; clear hK K)
                    refine walkJ_nil ?_
                    go_wp2
                    exact ⟨⟨a + 1, by go_num, by first | (rw [HZB.out, hzs, Int.min_eq_left (by omega)]; done) | rw [HZB.out, hzs, Int.min_eq_right (by omega)], by omega, hbel3.trans (hd.mono hbel3.size)⟩, by simp [intOf]; omega⟩
                  · skip
                    refine wp_walkJ (T := Below (wr.heap.size)) (belowV_pre _) (.rd 0 (.rd 1 (.rd 2 (.rd 3 (.rd 4 (.rd 5 (.rd 6 (.rd 7 (.rd 8 (.rd 9 (.rd 10 (.rd 11 (.rd 12 (.rd 13 (.inv []))))))))))))))) (by kernel_rfl) rfl (by kernel_rfl) (by kernel_rfl) ?_
                    iterate 14 (refine walkJ_rd rfl (fun K hK => ?_); go_simp; refine hK _ ?_; clear hK K)
                    refine walkJ_nil ?_
                    go_wp2
                    exact ⟨⟨a + 1, by go_num, by first | (rw [HZB.out, hzs, Int.min_eq_left (by omega)]; done) | rw [HZB.out, hzs, Int.min_eq_right (by omega)], by omega, hbel3.trans (hd.mono hbel3.size)⟩, by simp [intOf]; omega⟩
                  · skip
                    refine wp_walkJ (T := Below (wr.heap.size)) (belowV_pre _) (.rd 0 (.rd 1 (.rd 2 (.rd 3 (.rd 4 (.rd 5 (.rd 6 (.rd 7 (.rd 8 (.rd 9 (.rd 10 (.rd 11 (.rd 12 (.rd 13 (.inv []))))))))))))))) (by kernel_rfl) rfl (by kernel_rfl) (by kernel_rfl) ?_
                    iterate 14 (refine walkJ_rd rfl (fun K hK => ?_); go_simp; refine hK _ ?_; clear hK K)
                    refine walkJ_nil ?_
                    go_wp2
                    exact ⟨⟨a + 1, by go_num, by first | (rw [HZB.out, hzs, Int.min_eq_left (by omega)]; done) | rw [HZB.out, hzs, Int.min_eq_right (by omega)], by omega, hbel3.trans (hd.mono hbel3.size)⟩, by simp [intOf]; omega⟩
                · rw [if_neg ha0] at hgb hzs
                  have ha02 : ¬ (a : Int) = 0 := by omega
                  obtain ⟨cc, hcc⟩ : ∃ c, lim - q = c := ⟨_, rfl⟩
                  have wC : IntKind.i64.wrap (lim - q) = cc := by rw [hcc, IntWalk.i64_left]; unfold wrap64; omega
                  have wCc : IntKind.i64.wrap cc = cc := by rw [← hcc, IntWalk.i64_left]; unfold wrap64; omega
                  rw [hcc] at hzs
                  clear hcc
                  go_wp2_with fail
                  have hk2r := hk2.below hbel3
                  have hkqr := hkq.below hbel3
                  have hd := (Below.refl wr.heap.size wr).drew
                  have z0 := fun x : SubT (Below wr.heap.size) wr.drew => ((hkqr.below (hd.trans x.b)).look (a * 16 + i) (clArr_w ha16 hi16)).trans (congrArg (fun y => some (Value.int .i64 y)) HW0.out)
                  have z1 := fun x : SubT (Below wr.heap.size) wr.drew => (hk2r.below (hd.trans x.b)).look 1 rfl
                  rcases (by omega : (za < cc ∧ za ≤ cc ∧ ¬ cc < za) ∨ (¬ za < cc ∧ za ≤ cc ∧ za = cc ∧ ¬ cc < za) ∨ (¬ za < cc ∧ ¬ za ≤ cc ∧ cc < za)) with ⟨m1, m2, m4⟩ | ⟨m1, m2, m3, m4⟩ | ⟨m1, m2, m4⟩
                  · skip
                    refine wp_walkJ (T := Below (wr.heap.size)) (belowV_pre _) (.rd 0 (.rd 1 (.rd 2 (.rd 3 (.rd 4 (.rd 5 (.rd 6 (.rd 7 (.rd 8 (.rd 9 (.rd 10 (.rd 11 (.rd 12 (.rd 13 (.inv []))))))))))))))) (by kernel_rfl) rfl (by kernel_rfl) (by kernel_rfl) ?_
                    iterate 14 (refine walkJ_rd rfl (fun K hK => ?_); go_simp; refine hK _ ?_; clear hK K)
                    refine walkJ_nil ?_
                    go_wp2
                    exact ⟨⟨a + 1, by go_num, by first | (rw [HZB.out, hzs, Int.min_eq_left (by omega)]; done) | rw [HZB.out, hzs, Int.min_eq_right (by omega)], by omega, hbel3.trans (hd.mono hbel3.size)⟩, by simp [intOf]; omega⟩
                  · skip
                    refine wp_walkJ (T := Below (wr.heap.size)) (belowV_pre _) (.rd 0 (.rd 1 (.rd 2 (.rd 3 (.rd 4 (.rd 5 (.rd 6 (.rd 7 (.rd 8 (.rd 9 (.rd 10 (.rd 11 (.rd 12 (.rd 13 (.inv []))))))))))))))) (by kernel_rfl) rfl (by kernel_rfl) (by kernel_rfl) ?_
                    iterate 14 (refine walkJ_rd rfl (fun K hK => ?_); go_simp; refine hK _ ?_; clear hK K)
                    refine walkJ_nil ?_
                    go_wp2
                    exact ⟨⟨a + 1, by go_num, by first | (rw [HZB.out, hzs, Int.min_eq_left (by omega)]; done) | rw [HZB.out, hzs, Int.min_eq_right (by omega)], by omega, hbel3.trans (hd.mono hbel3.size)⟩, by simp [intOf]; omega⟩
                  · skip
                    refine wp_walkJ (T := Below (wr.heap.size)) (belowV_pre _) (.rd 0 (.rd 1 (.rd 2 (.rd 3 (.rd 4 (.rd 5 (.rd 6 (.rd 7 (.rd 8 (.rd 9 (.rd 10 (.rd 11 (.rd 12 (.rd 13 (.inv []))))))))))))))) (by kernel_rfl) rfl (by kernel_rfl) (by kernel_rfl) ?_
                    iterate 14 (refine walkJ_rd rfl (fun K hK => ?_); go_simp; refine hK _ ?_; clear hK K)
                    refine walkJ_nil ?_
                    go_wp2
                    exact ⟨⟨a + 1, by go_num, by first | (rw [HZB.out, hzs, Int.min_eq_left (by omega)]; done) | rw [HZB.out, hzs, Int.min_eq_right (by omega)], by omega, hbel3.trans (hd.mono hbel3.size)⟩, by simp [intOf]; omega⟩
            · obtain rfl : N = a := by omega
              have hzb := grZ_bd HP.out HF.out HM.out HBAD.out (i := i) (k := N) (by rw [HPN.out]; exact hiN) (by rw [HPN.out]; exact Nat.le_refl _)
              have hgf : grF p n d mn md i = (newN (grZ p n d mn md i N) dm, newD (grZ p n d mn md i N) dm) := by unfold grF; rw [HPN.out, HDM.out]
              obtain ⟨z, hz⟩ : ∃ z, grZ p n d mn md i N = z := ⟨_, rfl⟩
              rw [hz] at hzb hgf ⊢
              have HGF := hid hgf
              have HZ := hid hz
              have NEW : Hid (∀ w, Calls Try.prog 71 #[.int .i64 z, .int .i64 dm] w fun e w' => e = .returned (.tuple #[frV (newN z dm) (newD z dm), .int .i64 (newE z dm)]) ∧ Below w.heap.size w w') := hid (fun w => fNew_any z dm w (by omega) (by omega) (by omega) (by omega))
              have hnc := newE_cases z dm (by omega)
              obtain ⟨xn, hxn⟩ : ∃ z', newN z dm = z' := ⟨_, rfl⟩
              obtain ⟨xd, hxd⟩ : ∃ z', newD z dm = z' := ⟨_, rfl⟩
              obtain ⟨xe, hxe⟩ : ∃ z', newE z dm = z' := ⟨_, rfl⟩
              rw [hxn, hxd, hxe] at NEW
              rw [hxe] at hnc
              have HXN := hid hxn
              have HXD := hid hxd
              have HXE := hid hxe
              clear hxn hxd hxe hz hgf hzb
              have c1 := (hk1.below hbel3).look 1 rfl
              have c2 := (hk2.below hbel3).look 1 rfl
              go_wp2_with fail
              refine (NEW.out _).mono ?_
              rintro e w7 ⟨rfl, hb7⟩
              clear c1 c2
              have hb37 := hbel3.trans (hb7.mono hbel3.size)
              have hltB : B ≤ w3.heap.size := by have := kr.lt; omega
              have kr3 := kr.below hb37
              have hbel7 := hbel.trans (hb37.mono hltB)
              have f3 := kr3.frozen
              unfold frV
              have kr4 := kr3.set (i * 2) (.int .i64 xn)
              rw [rowArr_set] at kr4
              have kr5 := kr4.set (i * 2 + 1) (.int .i64 xd)
              rw [rowArr_set] at kr5
              have s0 := kr3.look (i * 2) (rowArr_get (by omega))
              have s1 := kr4.look (i * 2 + 1) (rowArr_get (by omega))
              have f4 := kr4.frozen
              have hbel5 := (hbel7.setCell (p := ⟨B, i * 2, none⟩) (Nat.le_refl _) (.int .i64 xn)).setCell (p := ⟨B, i * 2 + 1, none⟩) (Nat.le_refl _) (.int .i64 xd)
              clear kr4 hB hb37 hb7 hbel3
              rcases hnc with rfl | rfl
              · go_wp2
                go_roundw
                case rel =>
                  refine ⟨i + 1, by go_num, by omega, hbel5, _, kr5, fun j hj => ?_⟩
                  by_cases hji : j = i
                  · subst hji
                    rw [if_neg (by omega), if_pos rfl, if_pos rfl, HGF.out, HZ.out]
                    exact ⟨HXN.out.symm, HXD.out.symm, HXE.out⟩
                  · rw [if_neg (by omega), if_neg (by omega), if_neg (by omega), if_neg (by omega)]
                    exact HG.out j (by omega)
                case measure => simp [intOf]; omega
              · have hw : grWide p n d mn md = true := by
                  unfold grWide
                  rw [List.any_eq_true]
                  exact ⟨i, List.mem_range.2 (by rw [HPN.out]; exact hiN), by rw [HPN.out, HDM.out, HZ.out, HXE.out]; decide⟩
                have E1 := hid (HGE.out.symm.trans (gr_five HN.out HBAD.out HSH.out hw).1)
                have E2 := hid (HGL.out.symm.trans (gr_five HN.out HBAD.out HSH.out hw).2)
                have hB := hBq.trans (hbel5.mono hSq)
                clear hw
                go_wp2
                go_ret2
                refine ⟨⟨_, by rw [E1.out]; rfl, ?_⟩, by rw [HS.out]; exact hB⟩
                rw [E2.out]
                exact SlR.nil _ _
        · obtain rfl : N = i := by omega
          have hw : grWide p n d mn md = false := by
            unfold grWide
            rw [List.any_eq_false]
            intro j hj
            rw [List.mem_range, HPN.out] at hj
            rw [HPN.out, HDM.out, (hg j hj).2.2]
            decide
          have E1 := hid (HGE.out.symm.trans (gr_ok HN.out HBAD.out HSH.out hw).1)
          have E2 := hid (HGL.out.symm.trans (gr_ok HN.out HBAD.out HSH.out hw).2)
          have HG := hid hg
          clear hg hw
          go_wp2
          go_ret2
          refine ⟨⟨_, by rw [E1.out]; rfl, ?_⟩, by rw [HS.out]; exact hB⟩
          rw [E2.out, HPN.out, HS.out]
          exact row_frs kr hSq (by omega) (fun j hj => ⟨(HG.out j hj).1, (HG.out j hj).2.1⟩)

end Go.Proofs.Ytmknengmjepdaaa
