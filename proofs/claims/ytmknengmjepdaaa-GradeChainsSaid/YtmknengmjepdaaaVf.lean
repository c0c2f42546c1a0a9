/- Walk of grade.Chain. -/
import Derived.Test.YtmknengmjepdaaaVe
import Derived.Test.YtmknengmjepdaaaUa
namespace Go.Proofs.Ytmknengmjepdaaa
open Go.RowKit Go.Shelf
attribute [local go_sem] Oper.semAt_some
attribute [local irreducible] seqS seqST walkV

/-- What Chain hands back. -/
def ChainR (p : Pat) (n d i : Int) (lo : Nat) (e : Ending) (W : World) : Prop :=
  ∃ vl E, e = .returned (.tuple #[vl, .int .i64 E]) ∧ ((¬ (PValid p ∧ FSize n d ∧ 0 ≤ i ∧ i < p.n) ∧ E = 2 ∧ vl = .slice none 0 0) ∨
    (PValid p ∧ FSize n d ∧ 0 ≤ i ∧ i < p.n ∧ chBad p n d = true ∧ E = 10 ∧ vl = .slice none 0 0) ∨
    (PValid p ∧ FSize n d ∧ 0 ≤ i ∧ i < p.n ∧ chBad p n d = false ∧ E = 0 ∧ ∃ es at_, Way p n d at_ i.toNat 0 es ∧ es.length ≤ 15 ∧ IntsR lo W vl (es.map (·.1))))

theorem infoBoolV : (Try.prog.info? 4).map (fun i => (i.zero, i.size, i.bytes)) = some (some (.bool false), 1, 1) := by kernel_rfl

theorem leaves_nil {F : Fence} {n : Nat} {P : Program} {fn : Func} {tmps : Array Value} {R : Ending → World → Prop} {W : World} (v : Value) (hr : (results fn tmps).run P W = .ok v W) (h : R (.returned v) W) : LeavesInM F n P fn tmps R [] .returning W := ⟨v, hr, h⟩

set_option maxHeartbeats 8000000 in
set_option maxRecDepth 100000 in
theorem gChain_any (p : Pat) (n d i : Int) (v : Value) (w : World) (h : PatF 0 w v p) :
    Calls Try.prog 38 #[v, .agg #[.int .i64 n, .int .i64 d], .int .i64 i] w fun e w' => ChainR p n d i w.heap.size e w' ∧ Below w.heap.size w w' := by
  have h00 := h
  obtain ⟨ao, cap, rfl, hcap, hmax, hc⟩ := h.shape
  clear h
  refine (callsIn_wide (n := 6)).1 (callsIn_of_wp_marks Try.func38 rfl trivial (wpIn_wide.2 ?_) rfl)
  simp only [Try.ntmps38, List.size_toArray, List.length_cons, List.length_nil, Nat.reduceAdd, Nat.reduceSub, Array.replicate_succ, Array.replicate_zero, List.push_toArray, List.append_toArray, List.nil_append, List.cons_append]
  go_wp2_with fail
  obtain ⟨w0, hw0, k0, k1, hB, hsz⟩ := one_new w #[.int .i64 p.n, .slice ao p.rules.length cap] #[.int .i64 n, .int .i64 d] 33 26
  rw [hw0]
  clear hw0
  have c0 := k0.look 0 rfl
  have c1 := k0.look 1 rfl
  go_wp2_with fail
  refine (gValid_any p _ _ (h00.below hB)).mono ?_
  rintro e w1 ⟨rfl, hb1⟩
  clear c0 c1
  have hB1 := hB.trans (hb1.mono hB.size)
  have c2 := (k1.below hb1).look 0 rfl
  have c3 := (k1.below hb1).look 1 rfl
  have k01 := k0.below hb1
  have k11 := k1.below hb1
  clear k0 k1 hb1
  by_cases hp : PValid p
  · rw [decide_eq_true hp]
    have HP := hid hp
    clear hp
    go_wp2_with fail
    refine (sized_any n d _).mono ?_
    rintro e w2 ⟨rfl, hb2⟩
    clear c2 c3
    have hB2 := hB1.trans (hb2.mono hB1.size)
    have k02 := k01.below hb2
    have k12 := k11.below hb2
    clear hb2 hB1 hB k01 k11
    by_cases hs : FSize n d
    · rw [decide_eq_true hs]
      have HS := hid hs
      clear hs
      have c0 := k02.look 0 rfl
      have c1 := k02.look 1 rfl
      have c2 := k12.look 0 rfl
      have c3 := k12.look 1 rfl
      by_cases hi0 : i < 0
      · go_wp2
        exact leaves_nil (.tuple #[.slice none 0 0, .int .i64 2]) (by simp [results, Try.results38, go_sem]) ⟨⟨_, _, rfl, .inl ⟨fun hh => by omega, rfl, rfl⟩⟩, hB2⟩
      · by_cases hi1 : p.n ≤ i
        · go_wp2
          exact leaves_nil (.tuple #[.slice none 0 0, .int .i64 2]) (by simp [results, Try.results38, go_sem]) ⟨⟨_, _, rfl, .inl ⟨fun hh => by omega, rfl, rfl⟩⟩, hB2⟩
        · go_wp2_with fail
          refine (checked_any p n d _ _ (h00.below hB2)).mono ?_
          rintro e w3 ⟨⟨vx, rfl, hE1, hE2⟩, hb3⟩
          clear c0 c1 c2 c3
          have hB3 := hB2.trans (hb3.mono hB2.size)
          have k03 := k02.below hb3
          have k13 := k12.below hb3
          have hsz3 := hB3.size
          clear hb3 hB2 k02 k12
          by_cases hE : rLeastE p n d = 0
          · rw [hE]
            have HE := hid hE
            have hx := hE2 hE
            obtain ⟨I, rfl⟩ : ∃ I : Nat, i = I := ⟨i.toNat, by omega⟩
            obtain ⟨N, hN⟩ : ∃ N : Nat, p.n = N := ⟨p.n.toNat, by have := HP.out.1; omega⟩
            have hN16 : N ≤ 16 := by have := HP.out.2.1; omega
            have hIN : I < N := by omega
            have HN := hid hN
            obtain ⟨L, hL⟩ : ∃ L, p.rules.length = L := ⟨_, rfl⟩
            have HL := hid hL
            rw [hL] at h00 hcap k03 ⊢
            rw [hN] at h00 k03 ⊢
            obtain ⟨S, hS⟩ : ∃ S, w.heap.size = S := ⟨_, rfl⟩
            have HSS := hid hS
            have hBs := k13.lt
            rw [hS] at k03 k13 hBs ⊢
            have hBs0 : S < w3.heap.size := by omega
            clear hE hE1 hE2 hi0 hi1 hN hL hS
            obtain ⟨ax, capx, rfl, hcapx, hmaxx, hcx⟩ := hx
            have hlx : (leastX p n d).length = N := by unfold leastX; rw [List.length_map, List.length_range, HN.out, Int.toNat_natCast]
            have hgx : ∀ j, j < N → (leastX p n d)[j]? = some (chainM p n d j 0) := by
              intro j hj
              unfold leastX
              rw [List.getElem?_map, List.getElem?_range (by rw [HN.out, Int.toNat_natCast]; exact hj)]
              rfl
            obtain ⟨bx, ox, rfl, hbx, -⟩ := int_cell hcx (hgx 0 (by omega))
            have hxc : ∀ j, j < N → w3.cell? ⟨bx, ox + j, none⟩ = some (.int .i64 (chainM p n d j 0)) := by
              intro j hj
              obtain ⟨b9, o9, h9, _, h8⟩ := int_cell hcx (hgx j hj)
              obtain ⟨rfl, rfl⟩ : bx = b9 ∧ ox = o9 := by simpa using h9
              exact h8
            have HXC := hid hxc
            rw [hlx] at hcapx ⊢
            clear hlx hgx hcx hxc
            have c0 := k03.look 0 rfl
            have c1 := k03.look 1 rfl
            have hvg : (vArr N fun _ => Value.bool false)[I]? = some (.bool false) := vArr_get hIN
            go_wp2_with (first | (at_make; refine wpList_mkr rfl (.tmp 44) (.tmp 44) 107 rfl 4 (.bool false) 1 Try.underlying107 infoBoolV rfl _ _ N rfl rfl (by omega) (by omega) ?_; rw [made_bool]))
            obtain ⟨hst0, hbel0⟩ := cst_start (N := N) (I := I) (vx := .slice (some ⟨bx, ox, none⟩) N capx) k03 k13
            obtain ⟨B, hB⟩ : ∃ B, w3.heap.size = B := ⟨_, rfl⟩
            have HBB := hid hB
            obtain ⟨vx, hvx⟩ : ∃ v, Value.slice (some ⟨bx, ox, none⟩) N capx = v := ⟨_, rfl⟩
            have HVX := hid hvx
            rw [hB, hvx] at hst0 hbel0 ⊢
            obtain ⟨w4, hw4⟩ : ∃ w4, ((((((((w3.alloc (.cells #[vx] 49)).alloc (.cells ((vArr N fun _ => .bool false).setIfInBounds I (.bool true)) 4)).alloc (.cells #[.slice none 0 0] 49)).alloc (.cells #[.slice (some ⟨B + 1, 0, none⟩) N N] 107)).alloc (.cells #[.slice (some ⟨B + 1 + 1, 0, none⟩) 1 1] 77)).alloc (.cells #[.int .i64 (I : Int)] 3)).alloc (.cells #[.slice (some ⟨B + 1 + 1 + 1 + 1 + 1, 0, none⟩) 1 1] 49)).alloc (.cells #[.int .i64 0] 3)) = w4 := ⟨_, rfl⟩
            rw [hw4] at hst0 hbel0 ⊢
            have hIN2 : I < p.n.toNat := by rw [HN.out, Int.toNat_natCast]; exact hIN
            have hbok0 := bok_start (n := n) (d := d) hIN2
            clear hw4 hvx hB hvg c0 c1
            refine wp_loop (fun a' wr => ∃ (st : BF) (m c ga gw ca cw : Nat) (rows : List Value) (Ds : List Nat) (u52 u53 u54 u55 u56 u57 u58 u59 u60 u61 u62 u67 u68 u124 : Value), a' = { tmps := #[.agg #[.int .i64 (N : Int), .slice ao L cap], .agg #[.int .i64 n, .int .i64 d], .int .i64 (I : Int), .pointer (some ⟨S, 0, none⟩), .pointer (some ⟨S + 1, 0, none⟩), undef, .slice none 0 0, .int .i64 0, .pointer (some ⟨B, 0, none⟩), .int .i64 0, .pointer (some ⟨B + 3, 0, none⟩), .pointer (some ⟨B + 4, 0, none⟩), .pointer (some ⟨B + 6, 0, none⟩), .pointer (some ⟨c, 0, none⟩), undef, undef, .agg #[.int .i64 (N : Int), .slice ao L cap], .bool true, .bool false, .bool false, .agg #[.int .i64 n, .int .i64 d], .bool true, .bool false, .bool false, .bool false, .int .i64 (I : Int), .bool (decide ((I : Int) < 0)), .bool (decide ((I : Int) < 0)), .bool (decide ((I : Int) < 0)), .int .i64 (I : Int), .pointer (some ⟨S, 0, none⟩), .int .i64 (N : Int), .bool (decide (N ≤ I)), .bool (decide ((I : Int) < 0) || decide (N ≤ I)), .tuple #[vx, .int .i64 0], .agg #[.int .i64 (N : Int), .slice ao L cap], .agg #[.int .i64 n, .int .i64 d], .tuple #[vx, .int .i64 0], vx, .int .i64 0, .int .i64 0, .bool false, undef, .pointer (some ⟨S, 0, none⟩), .int .i64 (N : Int), .slice (some ⟨B + 1, 0, none⟩) N N, .slice (some ⟨B + 2, 0, none⟩) 1 1, .int .i64 (I : Int), .slice (some ⟨B + 5, 0, none⟩) 1 1, .slice (some ⟨B + 1, 0, none⟩) N N, .int .i64 (I : Int), .pointer (some ⟨B + 1, I, none⟩), u52, u53, u54, u55, u56, u57, u58, u59, u60, u61, u62, undef, undef, undef, undef, u67, u68, undef, undef, undef, undef, undef, undef, undef, undef, undef, undef, undef, undef, undef, undef, undef, undef, undef, undef, undef, undef, undef, undef, undef, undef, undef, undef, undef, undef, undef, undef, undef, undef, undef, undef, undef, undef, undef, undef, undef, undef, undef, undef, undef, undef, undef, undef, undef, undef, undef, undef, undef, undef, undef, undef, undef, u124], defers := Ds.map mkD } ∧ BOk p n d I m [] st ∧ m ≤ st.at_.length ∧ (∀ j : Nat, j < m → st.at_[j]? ≠ some 0) ∧ CSt wr S B N c ga gw #[.int .i64 (N : Int), .slice ao L cap] n d vx m (fun v => decide (v ∈ st.at_)) st.at_ (st.ways.map fun es => es.map (·.1)) ca cw rows ∧ Mks Ds wr ∧ (∀ D ∈ Ds, B ≤ D) ∧ Below B w3 wr) (fun a' wr => N + 1 - (boxInt wr (a'.tmps.getD 13 undef)).toNat) ?_ ?_
            · exact ⟨⟨[I], [[]]⟩, 0, B + 7, B + 5, B + 2, 1, 1, [.slice none 0 0], [], undef, undef, undef, undef, undef, undef, undef, undef, undef, undef, undef, undef, undef, undef, rfl, hbok0, Nat.zero_le _, fun j hj => (by omega), hst0, ⟨List.nodup_nil, fun D hD => (by cases hD)⟩, fun D hD => (by cases hD), hbel0⟩
            · rintro a' wr ⟨st, m, c, ga, gw, ca, cw, rows, Ds, u52, u53, u54, u55, u56, u57, u58, u59, u60, u61, u62, u67, u68, u124, rfl, hbok, hml, hnz, hst, hmk, hDS, hbel⟩
              clear hst0 hbel0 hbok0
              have hlen := bok_len hbok
              rw [HN.out, Int.toNat_natCast] at hlen
              have hltS := hst.lt
              have d0 := hst.kc.look 0 rfl
              have d1 := hst.ka.look 0 rfl
              by_cases hmL : m < st.at_.length
              · obtain ⟨am, ham⟩ : ∃ x, st.at_[m]? = some x := ⟨st.at_[m], List.getElem?_eq_getElem hmL⟩
                have d2 : wr.cell? ⟨ga, m, none⟩ = some (.int .i64 (am : Int)) := by
                  rw [hst.oa.cellAt m (by omega)]
                  simp [intCells, ham]
                have hmL2 : (m : Int) < (st.at_.length : Int) := by omega
                by_cases ham0 : am = 0
                · subst ham0
                  have hmw : m < st.ways.length := by rw [hbok.len]; exact hmL
                  obtain ⟨es, hes⟩ : ∃ x, st.ways[m]? = some x := ⟨st.ways[m], List.getElem?_eq_getElem hmw⟩
                  have hway := hbok.way m 0 es ham hes
                  have hwl := way_len hbok ham hes
                  obtain ⟨rv, hrv, hav⟩ := hst.rws m (es.map (·.1)) (by rw [List.getElem?_map, hes]; rfl)
                  have d3 := hst.kw.look 0 rfl
                  have d4 : wr.cell? ⟨gw, m, none⟩ = some rv := by
                    rw [hst.ow.cellAt m (by rw [List.length_map]; omega)]
                    exact hrv
                  have hmw2 : m < (st.ways.map fun es => es.map (·.1)).length := by rw [List.length_map]; exact hmw
                  have hmw3 : (m : Int) < ((st.ways.map fun es => es.map (·.1)).length : Int) := by omega
                  have hmw4 : m < st.ways.length := hmw
                  have hmw5 : (m : Int) < (st.ways.length : Int) := by omega
                  have HW := hid hway
                  clear hway
                  go_wp2
                  refine leaves_marks Ds wr hmk fun W6 hs6 => ?_
                  have hav6 := hav.keep (hs6.cells hmk) (fun x hx => by cases hx) (.inl rfl) (.inl rfl) (.inl rfl)
                  have hfin : Below w.heap.size w W6 := hB3.trans ((hbel.trans (hs6.below hDS)).mono (by have := HBB.out; omega))
                  refine ⟨.tuple #[rv, .int .i64 0], by simp [results, Try.results38, go_sem], ⟨_, _, rfl, .inr (.inr ⟨HP.out, HS.out, by omega, by omega, (leastE_zero HE.out).2.2, rfl, es, st.at_, by simpa using HW.out, by have := HN.out; omega, ?_⟩)⟩, hfin⟩
                  exact SlR.mono hav6.1 (by have := HBB.out; have := HSS.out; omega)
                · have d5 := hst.kp.look 0 rfl
                  have d6 := hst.kp.look 1 rfl
                  go_wp2_with fail
                  refine ((callsIn_wide (n := 0)).1 (all_in Fence.wide 0 trivial rfl _ _ _)).mono ?_
                  rintro e w5 ⟨rfl, rfl⟩
                  have hst2 := hst.keep (CellsKept.alloc wr (.cells #[.int .i64 (N : Int), .slice ao L cap] 33) [])
                  have hmk2 := hmk.below ((Below.refl _ wr).alloc (Nat.le_refl _) (.cells #[.int .i64 (N : Int), .slice ao L cap] 33))
                  have hbel2 := hbel.alloc (by have := hbel.size; have := HBB.out; omega) (.cells #[.int .i64 (N : Int), .slice ao L cap] 33)
                  have kX := Blk.new wr #[.int .i64 (N : Int), .slice ao L cap] 33
                  have hszW := World.size_alloc wr (.cells #[.int .i64 (N : Int), .slice ao L cap] 33)
                  obtain ⟨X, hX⟩ : ∃ X, wr.heap.size = X := ⟨_, rfl⟩
                  obtain ⟨W0, hW0⟩ : ∃ W0, wr.alloc (.cells #[.int .i64 (N : Int), .slice ao L cap] 33) = W0 := ⟨_, rfl⟩
                  have hXs := hbel.size
                  have hbox0 : boxInt wr (.pointer (some ⟨c, 0, none⟩)) = (m : Int) := boxInt_of d0
                  have HBOX := hid hbox0
                  clear hbox0
                  rw [hW0] at hst2 hmk2 hbel2 kX hszW ⊢
                  rw [hX] at kX hszW hltS hXs ⊢
                  clear hW0 hst hmk hbel d0 d1 d2 d5 d6
                  have hXW : X < W0.heap.size := by omega
                  clear hszW
                  have hBX : B ≤ X := by have := HBB.out; omega
                  have hwB : w.heap.size ≤ B := by have := HBB.out; omega
                  have hSB : S + 1 < B := hst2.lo
                  have hwS : w.heap.size ≤ S := by have := HSS.out; omega
                  have hp3 := HP.out.2.2.1
                  rw [HL.out] at hp3
                  go_wp2_with fail
                  refine wpIn_wide.1 (wpIn_rangeFunc_ownH (F := Fence.wide) (n := 6) (α := Ent p) rfl (by omega) (gf := 114) (lb := #[.pointer (some ⟨X, 0, none⟩)]) rfl trivial (enters_of Try.func114 (by kernel_rfl) rfl)
                    (all_stops Fence.wide 5 trivial rfl (by omega) X S p N HN.out (by omega) (by omega) (by rw [HL.out]; exact hp3) ao cap (by rw [HL.out]; exact hcap) W0 (by omega) (by rw [HL.out]; exact kX) (fun W' hb => hc.below (hB3.trans ((hbel2.mono (by omega)).trans (hb.mono hwS)))))
                    (fun h k => KpB.trans h k) (fun W l o o' hl _ _ _ => KpB.put (by omega) (by omega) o') (Below.refl _ _) (fun _ => rfl)
                    (ChI p n d I m S B N X c #[.int .i64 (N : Int), .slice ao L cap] vx st Ds w3 W0) (fun _ _ _ => False) (ChI_own p n d I m S B N X c _ vx st Ds w3 W0 (by omega)) (fun _ _ _ _ _ hf _ _ => hf)
                    ⟨st, ga, gw, ca, cw, rows, hbok, fun _ _ h => h, hst2, ⟨hmk2, fun D hD => hmk2.lt hD⟩, hbel2, Nat.le_refl _, by omega, by omega⟩
                    (fun x a' W => ∃ Bx, W0.heap.size ≤ Bx ∧ Blk W Bx #[.int .i64 x.1.2.a, .int .i64 x.1.2.b, .int .i64 x.1.2.c, .int .i64 x.1.2.d] 92 ∧ a' = { tmps := #[.agg #[.int .i64 (N : Int), .slice ao L cap], .agg #[.int .i64 n, .int .i64 d], .int .i64 (I : Int), .pointer (some ⟨S, 0, none⟩), .pointer (some ⟨S + 1, 0, none⟩), undef, .slice none 0 0, .int .i64 0, .pointer (some ⟨B, 0, none⟩), .int .i64 0, .pointer (some ⟨B + 3, 0, none⟩), .pointer (some ⟨B + 4, 0, none⟩), .pointer (some ⟨B + 6, 0, none⟩), .pointer (some ⟨c, 0, none⟩), .int .i64 x.1.1, .pointer (some ⟨Bx, 0, none⟩), .agg #[.int .i64 (N : Int), .slice ao L cap], .bool true, .bool false, .bool false, .agg #[.int .i64 n, .int .i64 d], .bool true, .bool false, .bool false, .bool false, .int .i64 (I : Int), .bool (decide ((I : Int) < 0)), .bool (decide ((I : Int) < 0)), .bool (decide ((I : Int) < 0)), .int .i64 (I : Int), .pointer (some ⟨S, 0, none⟩), .int .i64 (N : Int), .bool (decide (N ≤ I)), .bool (decide ((I : Int) < 0) || decide (N ≤ I)), .tuple #[vx, .int .i64 0], .agg #[.int .i64 (N : Int), .slice ao L cap], .agg #[.int .i64 n, .int .i64 d], .tuple #[vx, .int .i64 0], vx, .int .i64 0, .int .i64 0, .bool false, undef, .pointer (some ⟨S, 0, none⟩), .int .i64 (N : Int), .slice (some ⟨B + 1, 0, none⟩) N N, .slice (some ⟨B + 2, 0, none⟩) 1 1, .int .i64 (I : Int), .slice (some ⟨B + 5, 0, none⟩) 1 1, .slice (some ⟨B + 1, 0, none⟩) N N, .int .i64 (I : Int), .pointer (some ⟨B + 1, I, none⟩), .int .i64 (m : Int), .slice (some ⟨ga, 0, none⟩) st.at_.length ca, .int .i64 (st.at_.length : Int), .bool true, u56, u57, .slice (some ⟨ga, 0, none⟩) st.at_.length ca, .int .i64 (m : Int), .pointer (some ⟨ga, m, none⟩), .int .i64 (am : Int), .bool false, undef, undef, undef, undef, .agg #[.int .i64 (N : Int), .slice ao L cap], .func (.func 114) #[] #[.pointer (some ⟨X, 0, none⟩)], .int .i64 x.1.1, ruV x.1.2, undef, undef, undef, undef, undef, undef, undef, undef, undef, undef, undef, undef, undef, undef, undef, undef, undef, undef, undef, undef, undef, undef, undef, undef, undef, undef, undef, undef, undef, undef, undef, undef, undef, undef, undef, undef, undef, undef, undef, undef, undef, undef, undef, undef, undef, undef, undef, undef, undef, undef, undef, undef, undef, u124], defers := [] })
                    (fun x a' _ X Y row hs hg hr => by obtain ⟨Bx, b1, b2, b3⟩ := hs; exact ⟨Bx, b1, blk_own b2 hg (fun r e => (hr r e).2), b3⟩) ?assign ?body ?done ?stop)
                  case assign =>
                    rintro l pre x W K hI hK
                    have hI2 := (ChI_own p n d I m S B N X c #[.int .i64 (N : Int), .slice ao L cap] vx st Ds w3 W0 (by omega)).alloc (.cells #[.int .i64 x.1.2.a, .int .i64 x.1.2.b, .int .i64 x.1.2.c, .int .i64 x.1.2.d] 92) hI
                    obtain ⟨_, _, _, _, _, _, _, _, _, _, _, i4, _⟩ := hI
                    obtain ⟨⟨xk, r⟩, hx⟩ := x
                    dsimp only at hK hI2 ⊢
                    gi_wp2
                    refine hK _ _ ((KeepsOthers.alloc _ _).from _) ((KpB.refl S X W).alloc (by omega) (by omega) _) hI2 ⟨W.heap.size, i4, Blk.new W _ _, rfl⟩
                  case body =>
                    rintro l pre x a' W hl - hI ⟨Bx, hBx, kx, rfl⟩ hlen2
                    obtain ⟨s1, ga1, gw1, ca1, cw1, rows1, i1, i2, i3, ⟨i4, i4'⟩, i5, i6, i7, i8⟩ := hI
                    have hrv := allL_RV HP.out x.2
                    have AT : Hid (∀ w, Calls Try.prog 80 #[ruV x.1.2, .agg #[.int .i64 n, .int .i64 d]] w fun e w' => e = .returned (.int .i64 (wt x.1.2 n d)) ∧ Below w.heap.size w w') := hid (fun w => at_any p.n x.1.2 n d w hrv HS.out)
                    have ham1 : s1.at_[m]? = some am := i2 m am ham
                    have hm1 := (List.getElem?_eq_some_iff.1 ham1).1
                    have hgd : s1.at_.getD m 0 = am := by rw [List.getD_eq_getElem?_getD, ham1]; rfl
                    have hbstep := bok_step HP.out i1 hm1 x.2
                    have hpre : (pre ++ [x]).map (·.1) = pre.map (·.1) ++ [x.1] := by rw [List.map_append]; rfl
                    rw [← hpre] at hbstep
                    obtain ⟨A, hA⟩ : ∃ A : Nat, x.1.2.a = A := ⟨x.1.2.a.toNat, by have := hrv.1; omega⟩
                    obtain ⟨C, hC⟩ : ∃ A : Nat, x.1.2.b = A := ⟨x.1.2.b.toNat, by have := hrv.2.2.1; omega⟩
                    have hAN : A < N := by have := hrv.2.1; have := HN.out; omega
                    have hCN : C < N := by have := hrv.2.2.2.1; have := HN.out; omega
                    have hcbd := (leastE_zero HE.out).2.2
                    have hxa := chain_bd HP.out HS.out hcbd (v := A) (by rw [HN.out, Int.toNat_natCast]; exact hAN)
                    have hxcb := chain_bd HP.out HS.out hcbd (v := C) (by rw [HN.out, Int.toNat_natCast]; exact hCN)
                    have htgt : Tgt p n d x.1.2 ↔ chainM p n d A 0 - chainM p n d C 0 = wt x.1.2 n d := by
                      unfold Tgt
                      rw [hA, hC, Int.toNat_natCast, Int.toNat_natCast]
                    have hbs : bstep p n d m s1 x.1 = if A = am ∧ C ∉ s1.at_ ∧ Tgt p n d x.1.2 then ⟨s1.at_ ++ [C], s1.ways ++ [s1.ways.getD m [] ++ [x.1]]⟩ else s1 := by
                      unfold bstep
                      rw [hgd, hA, hC, Int.toNat_natCast, Int.toNat_natCast]
                    have hold2 : ∀ j y : Nat, st.at_[j]? = some y → (bstep p n d m s1 x.1).at_[j]? = some y := fun j y hj => bstep_old (i2 j y hj)
                    obtain ⟨xa, hxae⟩ : ∃ z, chainM p n d A 0 = z := ⟨_, rfl⟩
                    obtain ⟨xc, hxce⟩ : ∃ z, chainM p n d C 0 = z := ⟨_, rfl⟩
                    have XA := (i5.cell (p := ⟨bx, ox + A, none⟩) (by have := HBB.out; show bx < B; omega)).trans (HXC.out A hAN)
                    have XC := (i5.cell (p := ⟨bx, ox + C, none⟩) (by have := HBB.out; show bx < B; omega)).trans (HXC.out C hCN)
                    rw [hxae] at XA hxa htgt
                    rw [hxce] at XC hxcb htgt
                    obtain ⟨xk, hxk⟩ : ∃ z, x.1.1 = z := ⟨_, rfl⟩
                    obtain ⟨rc, hrc⟩ : ∃ z, x.1.2.c = z := ⟨_, rfl⟩
                    obtain ⟨rd, hrd⟩ : ∃ z, x.1.2.d = z := ⟨_, rfl⟩
                    obtain ⟨y, hy⟩ : ∃ z, wt x.1.2 n d = z := ⟨_, rfl⟩
                    have hsub : IntKind.i64.wrap (xa - xc) = xa - xc := by rw [IntWalk.i64_left]; exact wrap64_small (by omega) (by omega)
                    simp only [ruV] at AT ⊢
                    rw [hA, hC, hrc, hrd, hy] at AT
                    rw [hA, hC, hrc, hrd] at kx
                    rw [hy] at htgt
                    rw [hA, hC, hxk, hrc, hrd]
                    have HXK := hid hxk
                    have HBS := hid hbs
                    have HBST := hid hbstep
                    have HOLD := hid hold2
                    have HTG := hid htgt
                    have FIN : Hid (∀ Wf, Below W.heap.size W Wf → bstep p n d m s1 x.1 = s1 → KeepsFrom W0.heap.size W Wf ∧ KpB S X W Wf ∧ ChI p n d I m S B N X c #[.int .i64 (N : Int), .slice ao L cap] vx st Ds w3 W0 (pre ++ [x]) Wf) := hid (by
                      intro Wf hb he
                      refine ⟨(keeps_of_below hb).from _, ⟨hb.mono (by omega), hb.block X (by omega)⟩, s1, ga1, gw1, ca1, cw1, rows1, ?_, i2, i3.below hb, ⟨i4.below hb, i4'⟩, i5.trans (hb.mono (by omega)), Nat.le_trans i6 hb.size, i7, i8⟩
                      have := HBST.out
                      rw [he] at this
                      exact this)
                    have hlt1 := i3.lt
                    clear hrv hpre hA hC hxae hxce hxk hrc hrd hy hbs hbstep hold2 htgt hxa hxcb hcbd
                    gi_wp2_with fail
                    have hD : Below W.heap.size W W.drew := (Below.refl _ _).drew
                    have z0 := fun x : Sub W.drew => (kx.below (hD.trans x.b)).look 0 rfl
                    have z1 := fun x : Sub W.drew => (kx.below (hD.trans x.b)).look 1 rfl
                    have z2 := fun x : Sub W.drew => (kx.below (hD.trans x.b)).look 2 rfl
                    have z3 := fun x : Sub W.drew => (kx.below (hD.trans x.b)).look 3 rfl
                    have z4 := fun x : Sub W.drew => (i3.below (hD.trans x.b)).ka.look 0 rfl
                    have z5 := fun x : Sub W.drew => (i3.below (hD.trans x.b)).kc.look 0 rfl
                    have z6 : ∀ x : Sub W.drew, x.w.cell? ⟨ga1, m, none⟩ = some (.int .i64 (am : Int)) := fun x => by
                      rw [(i3.below (hD.trans x.b)).oa.cellAt m (by omega)]
                      simp [intCells, ham1]
                    have z7 := fun x : Sub W.drew => (i3.below (hD.trans x.b)).kb.look 0 rfl
                    have z8 := fun x : Sub W.drew => (i3.below (hD.trans x.b)).ksn.look C (vArr_get hCN)
                    have z9 := fun x : Sub W.drew => ((i3.below (hD.trans x.b)).kx.look 0 rfl).trans (congrArg some HVX.out.symm)
                    have z10 := fun x : Sub W.drew => ((hD.trans x.b).cell (p := ⟨bx, ox + A, none⟩) (by have := HBB.out; show bx < W.heap.size; omega)).trans XA
                    have z11 := fun x : Sub W.drew => ((hD.trans x.b).cell (p := ⟨bx, ox + C, none⟩) (by have := HBB.out; show bx < W.heap.size; omega)).trans XC
                    have z12 := fun x : Sub W.drew => (i3.below (hD.trans x.b)).ks.look 0 rfl
                    have z13 := fun x : Sub W.drew => (i3.below (hD.trans x.b)).ks.look 1 rfl
                    have hm12 : (m : Int) < (s1.at_.length : Int) := by omega
                    have hCN2 : (C : Int) < (N : Int) := by omega
                    have hAN2 : (A : Int) < (N : Int) := by omega
                    refine wpIn_seq [(0, false), (1, false), (2, false), (3, false), (4, false), (5, false), (6, false), (7, false), (8, false), (9, false), (10, false), (11, false), (12, false), (13, false), (14, false), (15, false), (16, false), (17, false), (18, false), (19, false), (20, false), (21, false), (22, false), (23, false), (24, false), (25, false), (26, false), (27, false), (28, false), (29, true), (30, false), (31, false)] [(_, false), (_, false), (_, false), (_, false), (_, false), (_, false), (_, false), (_, false), (_, false), (_, false), (_, false), (_, false), (_, false), (_, false), (_, false), (_, false), (_, false), (_, false), (_, false), (_, false), (_, false), (_, false), (_, false), (_, false), (_, false), (_, false), (_, false), (_, false), (_, false), (_, true), (_, false), (_, false)] (by kernel_rfl) (by kernel_rfl) ?letsout rfl rfl (by kernel_rfl) ?_
                    case letsout => rintro ⟨a9, w9, h9⟩; exact h9
                    by_cases hAa : A = am
                    · subst hAa
                      by_cases hCm : C ∈ s1.at_
                      · have hCd : decide (C ∈ s1.at_) = true := decide_eq_true hCm
                        rw [hCd] at z8
                        iterate 29 (refine seqS_read (fun K hK => ?_); go_simp; refine hK _ ?_; clear hK K)
                        (refine seqS_skip2 (fun K hK => ?_); go_simp; refine hK _ ?_; clear hK K)
                        iterate 2 (refine seqS_read (fun K hK => ?_); go_simp; refine hK _ ?_; clear hK K)
                        refine seqS_nil ?_
                        gi_wp2_with fail
                        exact FIN.out _ hD (by rw [HBS.out, if_neg (fun hh => hh.2.1 hCm)])
                      · have hCd : decide (C ∈ s1.at_) = false := decide_eq_false hCm
                        rw [hCd] at z8
                        iterate 29 (refine seqS_read (fun K hK => ?_); go_simp; refine hK _ ?_; clear hK K)
                        clear z0 z1 z2 z3 z4 z5 z6 z7 z8 z9 z10 z11 z12 z13
                        (refine seqS_call (fun K hK => ?_); go_simp; refine (AT.out _).mono ?_; rintro e w6 ⟨rfl, hb6⟩; refine ⟨_, rfl, hK _ _ hb6 ?_⟩; clear hK K)
                        have hb7 : Below W.heap.size W w6 := hD.trans hb6
                        by_cases hq : xa - xc = y
                        · have hT : Tgt p n d x.1.2 := HTG.out.2 hq
                          iterate 2 (refine seqS_read (fun K hK => ?_); go_simp; refine hK _ ?_; clear hK K)
                          refine seqS_nil ?_
                          have HTT := hid hT
                          have j3 := i3.below hb7
                          have q3 : Kp4 S X B Ds w3 W w6 := ⟨keeps_of_below hb7, ⟨hb7.mono (by omega), hb7.block X (by omega)⟩, i4.below hb7, i5.trans (hb7.mono (by omega)), hb7.size⟩
                          have kx7 := kx.below hb7
                          have hs7 := hb7.size
                          clear hD hb6 hq hT hb7
                          generalize w6 = W2 at j3 q3 kx7 hs7 ⊢
                          have hnc3 := j3.nc
                          have hna3 := j3.na
                          have hnw3 := j3.nw
                          have hnn3 := j3.nn
                          have hlt3 := j3.lt
                          have e0 := j3.kb.look 0 rfl
                          have e1 := kx7.look 1 rfl
                          have e2 := j3.ksn.look C (vArr_get hCN)
                          rw [hCd] at e2
                          have e3 := j3.ksn.frozen
                          have j3m := j3.mark C
                          rw [mark_new] at j3m
                          have q3m := q3.set j3.ksn (by omega) (by omega) (by omega) C (.bool true)
                          have kxm := kx7.other (p := ⟨B + 1, C, none⟩) (by show Bx ≠ B + 1; omega) (.bool true)
                          have e4 := j3m.ka.look 0 rfl
                          have e5 := kxm.look 1 rfl
                          have HSZ3 : Hid (W2.heap.size = (W2.setCell ⟨B + 1, C, none⟩ (.bool true)).heap.size) := hid (by simp [World.setCell])
                          have hlen3 : s1.at_.length ≤ N := by
                            have := bok_len i1
                            rw [HN.out, Int.toNat_natCast] at this
                            exact this
                          gi_wp2_with (first
                            | (gi_at_builtin; refine wpListIn_app2 rfl (.tmp 107) (.tmp 110) _ rfl B 3 (.int .i64 0) 8 Try.underlying49 infoInt rfl 3 rfl j3m.oa (.int .i64 (C : Int)) (congrArg (fun z => Value.slice (some ⟨z, 0, none⟩) 1 1) HSZ3.out) rfl (by unfold maxLen; omega) (by omega) (by rw [← HSZ3.out]; omega) ?_; intro ga2 ca2 W4 ho4 hg4 hat4; have hk4 := (CellsKept.grown hg4).blk (by simp; omega) j3m.ka; have f4 := hk4.frozen; have l4 := hk4.look 0 rfl))
                          have j5 := j3m.meet hg4 ho4 hat4
                          obtain ⟨cur4, hcur4, -, -⟩ := owns_block j3m.oa
                          have q4 := q3m.grown hg4 hcur4 (by omega) (by have := HSZ3.out; omega) (by have := HSZ3.out; omega) (by omega) i7
                          have q5 := q4.set hk4 (by omega) (by omega) (by omega) 0 (.slice (some ⟨ga2, 0, none⟩) (s1.at_.length + 1) ca2)
                          have hga2 : ga2 = ga1 ∨ W2.heap.size ≤ ga2 := by have := HSZ3.out; omega
                          obtain ⟨W5, hW5⟩ : ∃ W5, W4.setCell ⟨B + 6, 0, none⟩ (.slice (some ⟨ga2, 0, none⟩) (s1.at_.length + 1) ca2) = W5 := ⟨_, rfl⟩
                          rw [hW5] at j5 q5 ⊢
                          clear hW5 e0 e1 e2 e3 e4 e5 hk4 f4 l4 hcur4 q3 q3m q4 ho4 hg4 hat4 j3 j3m kx7 kxm HSZ3
                          have hmw : m < s1.ways.length := by rw [i1.len]; exact hm1
                          obtain ⟨es, hes⟩ : ∃ x, s1.ways[m]? = some x := ⟨s1.ways[m], List.getElem?_eq_getElem hmw⟩
                          obtain ⟨rv, hrv, hav⟩ := j5.rws m (es.map (·.1)) (by rw [List.getElem?_map, hes]; rfl)
                          have hwl := way_len i1 ham1 hes
                          rw [HN.out, Int.toNat_natCast] at hwl
                          have hmw2 : (m : Int) < (s1.ways.length : Int) := by omega
                          have hwN : s1.ways.length ≤ N := by rw [i1.len]; exact hlen3
                          have hd5 : Below W5.heap.size W5 W5.drew := (Below.refl _ _).drew
                          have z0 := fun x : SubT (Below W5.heap.size) W5.drew => (j5.below (hd5.trans x.b)).kw.look 0 rfl
                          have z1 := fun x : SubT (Below W5.heap.size) W5.drew => (j5.below (hd5.trans x.b)).kc.look 0 rfl
                          have z2 : ∀ x : SubT (Below W5.heap.size) W5.drew, x.w.cell? ⟨gw1, m, none⟩ = some rv := fun x => by
                            rw [(j5.below (hd5.trans x.b)).ow.cellAt m (by rw [List.length_map]; omega)]
                            exact hrv
                          refine wpIn_walkV (T := Below (W5.heap.size)) (belowV_pre _) (.rd 0 (.rd 2 (.rd 3 (.rd 4 (.rd 5 (.rd 7 (.two 1 (.two 6 (.mv 8 (.mv 9 (.mv 10 (.bt 11 (.bt 12 .nil))))) 8 (.mv 6 (.mv 9 (.mv 10 (.bt 11 (.bt 12 .nil)))))) 8 (.mv 1 (.mv 6 (.mv 9 (.mv 10 (.bt 11 (.bt 12 .nil))))))))))))) (by kernel_rfl) (by kernel_rfl) ?letsout2 rfl rfl (by kernel_rfl) (by kernel_rfl) ?_
                          case letsout2 => rintro ⟨a9, w9, h9⟩; exact h9
                          iterate 6 (refine walkV_rd rfl (fun K hK => ?_); go_simp; refine hK _ ?_; clear hK K)
                          clear z0 z1 z2
                          have j5d := j5.below hd5
                          have hav5 : IntsAv B c ga2 gw1 W5.drew rv (es.map (·.1)) := hav.keep (CellsKept.drew W5 []) (fun x hx => by cases hx) (.inl rfl) (.inl rfl) (.inl rfl)
                          have q5d := q5.below hd5 (by omega) (by have := q5.sz; omega) (by have := q5.sz; omega)
                          have hlt5 := j5.lt
                          have hs5 := q5.sz
                          clear j5 q5 hav hrv
                          obtain ⟨BB, hBB⟩ : ∃ BB, W5.heap.size = BB := ⟨_, rfl⟩
                          obtain ⟨wd, hwd⟩ : ∃ wd, W5.drew = wd := ⟨_, rfl⟩
                          have hsd : BB = wd.heap.size := by rw [← hwd, ← hBB]; rfl
                          have HSD := hid hsd
                          rw [hwd] at j5d q5d hav5 ⊢
                          rw [hBB] at hlt5 hs5 ⊢
                          clear hwd hBB hd5 hsd
                          refine walkV_cut (R := fun a' wt => ∃ g1 g6 cap6 g8 : Nat, a' = { tmps := #[.agg #[.int .i64 (N : Int), .slice ao L cap], .agg #[.int .i64 n, .int .i64 d], .int .i64 (I : Int), .pointer (some ⟨S, 0, none⟩), .pointer (some ⟨S + 1, 0, none⟩), undef, .slice none 0 0, .int .i64 0, .pointer (some ⟨B, 0, none⟩), .int .i64 0, .pointer (some ⟨B + 3, 0, none⟩), .pointer (some ⟨B + 4, 0, none⟩), .pointer (some ⟨B + 6, 0, none⟩), .pointer (some ⟨c, 0, none⟩), .int .i64 xk, .pointer (some ⟨Bx, 0, none⟩), .agg #[.int .i64 (N : Int), .slice ao L cap], .bool true, .bool false, .bool false, .agg #[.int .i64 n, .int .i64 d], .bool true, .bool false, .bool false, .bool false, .int .i64 (I : Int), .bool (decide ((I : Int) < 0)), .bool (decide ((I : Int) < 0)), .bool (decide ((I : Int) < 0)), .int .i64 (I : Int), .pointer (some ⟨S, 0, none⟩), .int .i64 (N : Int), .bool (decide (N ≤ I)), .bool (decide ((I : Int) < 0) || decide (N ≤ I)), .tuple #[vx, .int .i64 0], .agg #[.int .i64 (N : Int), .slice ao L cap], .agg #[.int .i64 n, .int .i64 d], .tuple #[vx, .int .i64 0], vx, .int .i64 0, .int .i64 0, .bool false, undef, .pointer (some ⟨S, 0, none⟩), .int .i64 (N : Int), .slice (some ⟨B + 1, 0, none⟩) N N, .slice (some ⟨B + 2, 0, none⟩) 1 1, .int .i64 (I : Int), .slice (some ⟨B + 5, 0, none⟩) 1 1, .slice (some ⟨B + 1, 0, none⟩) N N, .int .i64 (I : Int), .pointer (some ⟨B + 1, I, none⟩), .int .i64 (m : Int), .slice (some ⟨ga, 0, none⟩) st.at_.length ca, .int .i64 (st.at_.length : Int), .bool true, u56, u57, .slice (some ⟨ga, 0, none⟩) st.at_.length ca, .int .i64 (m : Int), .pointer (some ⟨ga, m, none⟩), .int .i64 (A : Int), .bool false, undef, undef, undef, undef, .agg #[.int .i64 (N : Int), .slice ao L cap], .func (.func 114) #[] #[.pointer (some ⟨X, 0, none⟩)], .int .i64 xk, .agg #[.int .i64 (A : Int), .int .i64 (C : Int), .int .i64 rc, .int .i64 rd], .pointer (some ⟨Bx, 0, none⟩), .int .i64 (A : Int), .slice (some ⟨ga1, 0, none⟩) s1.at_.length ca1, .int .i64 (m : Int), .pointer (some ⟨ga1, m, none⟩), .int .i64 (A : Int), .bool true, .bool true, .slice (some ⟨B + 1, 0, none⟩) N N, .pointer (some ⟨Bx, 1, none⟩), .int .i64 (C : Int), .pointer (some ⟨B + 1, C, none⟩), .bool false, .bool true, .bool true, .bool true, .slice (some ⟨bx, ox, none⟩) N capx, .pointer (some ⟨Bx, 0, none⟩), .int .i64 (A : Int), .pointer (some ⟨bx, ox + A, none⟩), .int .i64 xa, .slice (some ⟨bx, ox, none⟩) N capx, .pointer (some ⟨Bx, 1, none⟩), .int .i64 (C : Int), .pointer (some ⟨bx, ox + C, none⟩), .int .i64 xc, .int .i64 y, .agg #[.int .i64 (A : Int), .int .i64 (C : Int), .int .i64 rc, .int .i64 rd], .agg #[.int .i64 n, .int .i64 d], .int .i64 y, .bool true, .bool true, .slice (some ⟨B + 1, 0, none⟩) N N, .pointer (some ⟨Bx, 1, none⟩), .int .i64 (C : Int), .pointer (some ⟨B + 1, C, none⟩), .slice (some ⟨ga1, 0, none⟩) s1.at_.length ca1, .pointer (some ⟨Bx, 1, none⟩), .int .i64 (C : Int), .slice (some ⟨W2.heap.size, 0, none⟩) 1 1, .slice (some ⟨ga2, 0, none⟩) (s1.at_.length + 1) ca2, .slice (some ⟨gw1, 0, none⟩) s1.ways.length cw1, .slice (some ⟨g1, 0, none⟩) 0 0, .slice (some ⟨gw1, 0, none⟩) s1.ways.length cw1, .int .i64 (m : Int), .pointer (some ⟨gw1, m, none⟩), rv, .slice (some ⟨g6, 0, none⟩) es.length cap6, .int .i64 xk, .slice (some ⟨g8, 0, none⟩) 1 1, undef, undef, undef, u124], defers := [] } ∧ Below BB wd wt ∧ wt.ownsRow BB 3 1 (.slice (some ⟨g6, 0, none⟩) es.length cap6) es.length (intCells (es.map (·.1))) ∧ Blk wt g8 #[.int .i64 xk] 3 ∧ BB ≤ g6) (r := .mv 9 (.mv 10 (.bt 11 (.bt 12 .nil)))) ?_ (.two 1 (.two 6 (.mv 8 .nil) 8 (.mv 6 .nil)) 8 (.mv 1 (.mv 6 .nil))) _ _ ?_
                          rotate_left
                          refine walkV_two rfl rfl (fun K hK => ?_) (fun K hK => ?_)
                          · go_simp
                            refine hK _ _ ((Below.refl _ _).alloc (by have := HSD.out; omega) _) ?_
                            clear hK K
                            have k1 := Blk.new wd #[] 3
                            have hb1 : Below BB wd (wd.alloc (.cells #[] 3)) := (Below.refl _ _).alloc (by have := HSD.out; omega) _
                            have hv1 := hav5.1.below ((Below.refl _ wd).alloc (Nat.le_refl _) (.cells #[] 3))
                            obtain ⟨g1, hg1⟩ : ∃ g, wd.heap.size = g := ⟨_, rfl⟩
                            have hg1B : BB ≤ g1 := by have := HSD.out; omega
                            have hs1 : (wd.alloc (.cells #[] 3)).heap.size = g1 + 1 := by rw [World.size_alloc, hg1]
                            rw [hg1] at k1 ⊢
                            obtain ⟨we, hwe⟩ : ∃ we, wd.alloc (.cells #[] 3) = we := ⟨_, rfl⟩
                            rw [hwe] at k1 hb1 hv1 hs1 ⊢
                            have HS1 := hid hs1
                            clear hwe hg1 hs1
                            refine walkV_two rfl rfl (fun K hK => ⟨rfl, ?_⟩) (fun K hK => ?_)
                            · obtain ⟨g6, cap6, wf, hr6, o6, hg6, hat6, hl6⟩ := app_copy we BB 49 49 3 (.int .i64 0) 8 Try.underlying49 infoInt rfl k1 hg1B hv1 (by rw [intCells_len]) (fun u hu => (by unfold intCells at hu; obtain ⟨_, _, rfl⟩ := List.mem_map.1 hu; rfl)) (by rw [List.length_map]; unfold maxLen; omega) (by rw [List.length_map]; omega) (by have := HS1.out; omega)
                              rw [List.length_map] at hr6 o6
                              refine gives_append2 (.tmp 113) (.tmp 117) _ rfl rfl rfl rfl hr6 (hK _ _ ((Below.refl _ _).grown hg6 (by have := HS1.out; omega) (fun k hk => by cases hk; exact hg1B)) ?_)
                              clear hK K
                              have hb6 : Below BB wd wf := hb1.trans ((Below.refl _ _).grown hg6 (by have := HS1.out; omega) (fun k hk => by cases hk; exact hg1B))
                              obtain ⟨_, _, hg6B, -⟩ := owns_block o6
                              have hwf := hg6.size
                              clear hr6 hg6 hat6 k1 hb1 hv1
                              refine walkV_mv rfl (fun K hK => ?_)
                              go_simp
                              refine hK _ _ ((Below.refl _ _).alloc (by have := HS1.out; omega) _) ?_
                              clear hK K
                              have k8 := Blk.new wf #[.int .i64 xk] 3
                              have hbt : Below BB wd (wf.alloc (.cells #[.int .i64 xk] 3)) := hb6.alloc (by have := HS1.out; omega) _
                              have o6t := o6.alloc (.cells #[.int .i64 xk] 3)
                              have hg8B : BB ≤ wf.heap.size := by have := HS1.out; omega
                              generalize wf.heap.size = g8 at k8 hg8B ⊢
                              generalize wf.alloc (.cells #[.int .i64 xk] 3) = wt at k8 hbt o6t ⊢
                              clear o6 hb6 hl6 hwf HS1
                              exact walkV_nil ⟨_, _, _, _, rfl, hbt, o6t, k8, hg6B⟩
                            · go_simp
                              refine hK _ _ ((Below.refl _ _).alloc (by have := HS1.out; omega) _) ?_
                              clear hK K
                              have k8 := Blk.new we #[.int .i64 xk] 3
                              have k1e := k1.alloc (.cells #[.int .i64 xk] 3)
                              have hb8 : Below BB wd (we.alloc (.cells #[.int .i64 xk] 3)) := hb1.alloc (by have := HS1.out; omega) _
                              have hv8 := hv1.below ((Below.refl _ we).alloc (Nat.le_refl _) (.cells #[.int .i64 xk] 3))
                              have hs8 : (we.alloc (.cells #[.int .i64 xk] 3)).heap.size = we.heap.size + 1 := World.size_alloc _ _
                              have hg8B : BB ≤ we.heap.size := by have := HS1.out; omega
                              have hg81 : we.heap.size ≠ g1 := by have := HS1.out; omega
                              generalize we.heap.size = g8 at k8 hg8B hg81 hs8 ⊢
                              generalize we.alloc (.cells #[.int .i64 xk] 3) = wf at k8 k1e hb8 hv8 hs8 ⊢
                              have HS8 := hid hs8
                              clear k1 hb1 hv1 HS1 hs8
                              refine walkV_mv rfl (fun K hK => ⟨rfl, ?_⟩)
                              obtain ⟨g6, cap6, wt, hr6, o6t, hg6, hat6, hl6⟩ := app_copy wf BB 49 49 3 (.int .i64 0) 8 Try.underlying49 infoInt rfl k1e hg1B hv8 (by rw [intCells_len]) (fun u hu => (by unfold intCells at hu; obtain ⟨_, _, rfl⟩ := List.mem_map.1 hu; rfl)) (by rw [List.length_map]; unfold maxLen; omega) (by rw [List.length_map]; omega) (by have := HS8.out; omega)
                              rw [List.length_map] at hr6 o6t
                              refine gives_append2 (.tmp 113) (.tmp 117) _ rfl rfl rfl rfl hr6 (hK _ _ ((Below.refl _ _).grown hg6 (by have := HS8.out; omega) (fun k hk => by cases hk; exact hg1B)) ?_)
                              clear hK K
                              have hbt : Below BB wd wt := hb8.trans ((Below.refl _ _).grown hg6 (by have := HS8.out; omega) (fun k hk => by cases hk; exact hg1B))
                              have hl8 := k8.lt
                              replace k8 := (CellsKept.grown hg6).blk (by simp; omega) k8
                              obtain ⟨_, _, hg6B, -⟩ := owns_block o6t
                              clear hr6 hg6 hat6 hl6 k1e hb8 hv8 HS8 hl8
                              exact walkV_nil ⟨_, _, _, _, rfl, hbt, o6t, k8, hg6B⟩
                          · go_simp
                            refine hK _ _ ((Below.refl _ _).alloc (by have := HSD.out; omega) _) ?_
                            clear hK K
                            have k8 := Blk.new wd #[.int .i64 xk] 3
                            have hb1 : Below BB wd (wd.alloc (.cells #[.int .i64 xk] 3)) := (Below.refl _ _).alloc (by have := HSD.out; omega) _
                            have hv1 := hav5.1.below ((Below.refl _ wd).alloc (Nat.le_refl _) (.cells #[.int .i64 xk] 3))
                            obtain ⟨g8, hg8⟩ : ∃ g, wd.heap.size = g := ⟨_, rfl⟩
                            have hg8B : BB ≤ g8 := by have := HSD.out; omega
                            have hs1 : (wd.alloc (.cells #[.int .i64 xk] 3)).heap.size = g8 + 1 := by rw [World.size_alloc, hg8]
                            rw [hg8] at k8 ⊢
                            obtain ⟨we, hwe⟩ : ∃ we, wd.alloc (.cells #[.int .i64 xk] 3) = we := ⟨_, rfl⟩
                            rw [hwe] at k8 hb1 hv1 hs1 ⊢
                            have HS1 := hid hs1
                            clear hwe hg8 hs1
                            refine walkV_mv rfl (fun K hK => ?_)
                            go_simp
                            refine hK _ _ ((Below.refl _ _).alloc (by have := HS1.out; omega) _) ?_
                            clear hK K
                            have k1e := Blk.new we #[] 3
                            have hb8 : Below BB wd (we.alloc (.cells #[] 3)) := hb1.alloc (by have := HS1.out; omega) _
                            have hv8 := hv1.below ((Below.refl _ we).alloc (Nat.le_refl _) (.cells #[] 3))
                            have hs8 : (we.alloc (.cells #[] 3)).heap.size = we.heap.size + 1 := World.size_alloc _ _
                            have hg1B : BB ≤ we.heap.size := by have := HS1.out; omega
                            have hg81 : g8 ≠ we.heap.size := by have := HS1.out; omega
                            replace k8 := k8.alloc (.cells #[] 3)
                            generalize we.heap.size = g1 at k1e hg1B hg81 hs8 ⊢
                            generalize we.alloc (.cells #[] 3) = wf at k8 k1e hb8 hv8 hs8 ⊢
                            have HS8 := hid hs8
                            clear hb1 hv1 HS1 hs8
                            refine walkV_mv rfl (fun K hK => ⟨rfl, ?_⟩)
                            obtain ⟨g6, cap6, wt, hr6, o6t, hg6, hat6, hl6⟩ := app_copy wf BB 49 49 3 (.int .i64 0) 8 Try.underlying49 infoInt rfl k1e hg1B hv8 (by rw [intCells_len]) (fun u hu => (by unfold intCells at hu; obtain ⟨_, _, rfl⟩ := List.mem_map.1 hu; rfl)) (by rw [List.length_map]; unfold maxLen; omega) (by rw [List.length_map]; omega) (by have := HS8.out; omega)
                            rw [List.length_map] at hr6 o6t
                            refine gives_append2 (.tmp 113) (.tmp 117) _ rfl rfl rfl rfl hr6 (hK _ _ ((Below.refl _ _).grown hg6 (by have := HS8.out; omega) (fun k hk => by cases hk; exact hg1B)) ?_)
                            clear hK K
                            have hbt : Below BB wd wt := hb8.trans ((Below.refl _ _).grown hg6 (by have := HS8.out; omega) (fun k hk => by cases hk; exact hg1B))
                            have hl8 := k8.lt
                            replace k8 := (CellsKept.grown hg6).blk (by simp; omega) k8
                            obtain ⟨_, _, hg6B, -⟩ := owns_block o6t
                            clear hr6 hg6 hat6 hl6 k1e hb8 hv8 HS8 hl8
                            exact walkV_nil ⟨_, _, _, _, rfl, hbt, o6t, k8, hg6B⟩
                          rintro _ wt ⟨g1, g6, cap6, g8, rfl, hbt, o6t, k8, hg6B⟩
                          obtain ⟨g9, cap9, wu, hr9, o9, hg9, hat9, hl9⟩ := app_at wt BB 49 49 3 (.int .i64 0) 1 8 Try.underlying49 infoInt rfl (by decide) o6t ⟨g8, 0, none⟩ 1 1 [.int .i64 xk] (by simp) (blk_one_news k8) (fun u hu => (by simp at hu; rw [hu]; rfl)) (by unfold maxLen; omega) (by omega) (by have := hbt.size; have := HSD.out; omega)
                          refine walkV_mv rfl (fun K hK => ⟨rfl, gives_append2 (.tmp 118) (.tmp 120) _ rfl rfl rfl rfl hr9 (hK _ _ ((Below.refl _ _).grown hg9 (by have := hbt.size; have := HSD.out; omega) (fun k hk => by cases hk; exact hg6B)) ?_)⟩)
                          clear hK K
                          have hbu : Below BB wd wu := hbt.trans ((Below.refl _ _).grown hg9 (by have := hbt.size; have := HSD.out; omega) (fun k hk => by cases hk; exact hg6B))
                          obtain ⟨cur9, hcur9, hg9B, -⟩ := owns_block o9
                          clear hr9 hg9 hat9 o6t k8 hbt
                          refine walkV_mv rfl (fun K hK => ?_)
                          go_simp
                          refine hK _ _ ((Below.refl _ _).alloc (by have := hbu.size; have := HSD.out; omega) _) ?_
                          clear hK K
                          have kv := Blk.new wu #[.slice (some ⟨g9, 0, none⟩) (es.length + 1) cap9] 49
                          have hbv : Below BB wd (wu.alloc (.cells #[.slice (some ⟨g9, 0, none⟩) (es.length + 1) cap9] 49)) := hbu.alloc (by have := hbu.size; have := HSD.out; omega) _
                          have o9v := o9.alloc (.cells #[.slice (some ⟨g9, 0, none⟩) (es.length + 1) cap9] 49)
                          have hc9 := (Below.heap_alloc wu (.cells #[.slice (some ⟨g9, 0, none⟩) (es.length + 1) cap9] 49) g9 hl9).trans hcur9
                          generalize wu.heap.size = gv at kv ⊢
                          generalize wu.alloc (.cells #[.slice (some ⟨g9, 0, none⟩) (es.length + 1) cap9] 49) = wv at kv hbv o9v hc9 ⊢
                          clear o9 hbu hl9 hcur9
                          have hbv2 : Below wd.heap.size wd wv := (below_eq hbv HSD.out)
                          have j6 := j5d.below hbv2
                          have q6 := q5d.below hbv2 (by omega) (by have := HSD.out; omega) (by have := HSD.out; omega)
                          have hav6 : IntsAv B c ga2 gw1 wv (.slice (some ⟨g9, 0, none⟩) (es.length + 1) cap9) (es.map (·.1) ++ [xk]) := by
                            have e1 : (es.map (·.1) ++ [xk]).length = es.length + 1 := by simp
                            have e2 : intCells (es.map (·.1) ++ [xk]) = intCells (es.map (·.1)) ++ [.int .i64 xk] := by simp [intCells]
                            refine ⟨?_, fun ao cap b off hv hao _ => ?_⟩
                            · rw [e1, e2]
                              exact (SlR.of_owns o9v).mono (by omega)
                            · have hao2 : some (⟨g9, 0, none⟩ : Addr) = ao := by injection hv
                              cases hao2.trans hao
                              exact ⟨by omega, _, _, _, hc9⟩
                          obtain ⟨gw2, cw2, wx, hr11, o11, hg11, hat11, hl11⟩ := app_at wv B 77 77 49 (.slice none 0 0) 1 24 Try.underlying77 infoInts rfl (by decide) j6.ow ⟨gv, 0, none⟩ 1 1 [.slice (some ⟨g9, 0, none⟩) (es.length + 1) cap9] (by simp) (blk_one_news kv) (fun u hu => (by simp at hu; rw [hu]; rfl)) (by rw [List.length_map]; unfold maxLen; omega) (by rw [List.length_map]; omega) (by have := hbv.size; have := HSD.out; omega)
                          refine walkV_bt rfl (fun K hK => ⟨rfl, gives_append2 (.tmp 112) (.tmp 122) _ rfl rfl (by rw [List.length_map]; rfl) rfl hr11 (hK _ _ ?_)⟩)
                          clear hK K
                          rw [List.length_map] at o11
                          have jz := j6.way hg11 (by rw [List.length_map]; exact o11) (by omega) hav6
                          obtain ⟨curw, hcurw, -, -⟩ := owns_block j6.ow
                          have hnc6 := j6.nc
                          have hna6 := j6.na
                          have hnw6 := j6.nw
                          have hnn6 := j6.nn
                          have q7 := q6.grown hg11 hcurw (by omega) (by have := hbv.size; have := HSD.out; omega) (by have := hbv.size; have := HSD.out; omega) (by omega) i8
                          have kwx := (CellsKept.grown hg11).blk (by simp; omega) j6.kw
                          have q8 := q7.set kwx (by omega) (by omega) (by omega) 0 (.slice (some ⟨gw2, 0, none⟩) (s1.ways.length + 1) cw2)
                          have fwx := kwx.frozen
                          have lwx := kwx.look 0 rfl
                          have hgw2 : gw2 ≠ X := by have := hbv.size; have := HSD.out; omega
                          rw [List.length_map] at jz
                          clear hr11 hg11 hat11 hl11 o11 hcurw q6 q7 j6 hav6 kv hc9 o9v hbv hbv2 kwx
                          refine walkV_bt rfl (fun K hK => ?_)
                          go_simp
                          refine hK _ _ ?_
                          clear hK K
                          refine walkV_nil ?_
                          gi_wp2_with fail
                          have hesx : s1.ways.getD m [] = es := by rw [List.getD_eq_getElem?_getD, hes]; rfl
                          have hnew : bstep p n d m s1 x.1 = ⟨s1.at_ ++ [C], s1.ways ++ [es ++ [x.1]]⟩ := by rw [HBS.out, if_pos (by refine ⟨?_, hCm, HTT.out⟩; first | rfl | trivial), hesx]
                          have hb9 := HBST.out
                          have ho9 := HOLD.out
                          rw [hnew] at hb9 ho9
                          have e3 : (s1.ways ++ [es ++ [x.1]]).map (fun es => es.map (·.1)) = s1.ways.map (fun es => es.map (·.1)) ++ [es.map (·.1) ++ [xk]] := by simp [HXK.out]
                          refine ⟨q8.keep.from _, q8.kp, ⟨s1.at_ ++ [C], s1.ways ++ [es ++ [x.1]]⟩, ga2, gw2, ca2, cw2, rows1 ++ [.slice (some ⟨g9, 0, none⟩) (es.length + 1) cap9], hb9, ho9, ?_, ⟨q8.mks, i4'⟩, q8.bl, Nat.le_trans i6 q8.sz, by omega, hgw2⟩
                          dsimp only
                          rw [e3]
                          exact jz
                        · have hT : ¬ Tgt p n d x.1.2 := fun hh => hq (HTG.out.1 hh)
                          iterate 2 (refine seqS_read (fun K hK => ?_); go_simp; refine hK _ ?_; clear hK K)
                          refine seqS_nil ?_
                          gi_wp2_with fail
                          exact FIN.out _ hb7 (by rw [HBS.out, if_neg (fun hh => hT hh.2.2)])
                    · have hAa2 : (A : Int) ≠ (am : Int) := by omega
                      iterate 29 (refine seqS_read (fun K hK => ?_); go_simp; refine hK _ ?_; clear hK K)
                      (refine seqS_skip2 (fun K hK => ?_); go_simp; refine hK _ ?_; clear hK K)
                      iterate 2 (refine seqS_read (fun K hK => ?_); go_simp; refine hK _ ?_; clear hK K)
                      refine seqS_nil ?_
                      gi_wp2_with fail
                      exact FIN.out _ hD (by rw [HBS.out, if_neg (fun hh => hAa hh.1)])
                  case done =>
                    rintro D xs W hDs hxs ⟨s1, ga1, gw1, ca1, cw1, rows1, i1, i2, i3, ⟨i4, i4'⟩, i5, i6, i7, i8⟩ hKD
                    rw [hxs] at i1
                    have hbn := bok_next i1
                    have hml1 : m + 1 ≤ s1.at_.length := (List.getElem?_eq_some_iff.1 (i2 m am ham)).1
                    have hnz1 : ∀ j : Nat, j < m + 1 → s1.at_[j]? ≠ some 0 := by
                      intro j hj he
                      by_cases hjm : j = m
                      · subst hjm
                        rw [i2 j am ham] at he
                        exact ham0 (Option.some.inj he)
                      · have hjl : j < st.at_.length := by omega
                        rw [i2 j _ (List.getElem?_eq_getElem hjl)] at he
                        exact hnz j (by omega) (by rw [List.getElem?_eq_getElem hjl]; exact he)
                    have hmk4 : Mks (D :: Ds) W := ⟨List.nodup_cons.2 ⟨fun hm => by have := i4' D hm; omega, i4.nd⟩, fun D' hD' => (List.mem_cons.1 hD').elim (fun e => by rw [e]; exact hKD) (i4.all D')⟩
                    have hDS2 : ∀ D' ∈ D :: Ds, B ≤ D' := fun D' hD' => (List.mem_cons.1 hD').elim (fun e => by omega) (hDS D')
                    have hlen1 := bok_len hbn
                    rw [HN.out, Int.toNat_natCast] at hlen1
                    have hlt1 := i3.lt
                    have c0 := i3.kc.look 0 rfl
                    dsimp only
                    have hnx := i3.next (z := (m : Int) + 1) (by omega)
                    have hmkx := hmk4.below ((Below.refl _ W).alloc (Nat.le_refl _) (.cells #[.int .i64 ((m : Int) + 1)] 3))
                    have hbx5 := i5.alloc (by omega) (.cells #[.int .i64 ((m : Int) + 1)] 3)
                    have hbox1 : boxInt (W.alloc (.cells #[.int .i64 ((m : Int) + 1)] 3)) (.pointer (some ⟨W.heap.size, 0, none⟩)) = (m : Int) + 1 := boxInt_of ((Blk.new W #[.int .i64 ((m : Int) + 1)] 3).look 0 rfl)
                    have HBX1 := hid hbox1
                    clear hbox1 hmk4
                    go_wp2
                    refine ⟨⟨s1, m + 1, W.heap.size, ga1, gw1, ca1, cw1, rows1, D :: Ds, _, _, _, _, _, _, _, _, _, _, _, _, _, _, rfl, hbn, hml1, hnz1, hnx, hmkx, hDS2, hbx5⟩, ?_⟩
                    show N + 1 - (boxInt (W.alloc (.cells #[.int .i64 ((m : Int) + 1)] 3)) (.pointer (some ⟨W.heap.size, 0, none⟩))).toNat < N + 1 - (boxInt wr (.pointer (some ⟨c, 0, none⟩))).toNat
                    rw [HBX1.out, HBOX.out]
                    omega
                  case stop =>
                    intro D c pre W hD hS hI
                    exact hI.elim
              · exfalso
                obtain ⟨j, hj⟩ := List.getElem?_of_mem (bok_zero HP.out HS.out (leastE_zero HE.out).2.2 hbok (by omega))
                have := (List.getElem?_eq_some_iff.1 hj).1
                exact hnz j (by omega) hj
          · rw [hE1 hE]
            obtain ⟨ee, hee⟩ : ∃ ee, rLeastE p n d = ee := ⟨_, rfl⟩
            have hee10 : ee = 10 ∧ chBad p n d = true := by
              rw [← hee]
              unfold rLeastE at hE ⊢
              rw [decide_eq_true HP.out, decide_eq_true HS.out, if_neg (by decide)] at hE ⊢
              cases hb : chBad p n d with
              | true => exact ⟨rfl, rfl⟩
              | false => rw [hb] at hE; exact absurd rfl hE
            obtain ⟨rfl, hbad⟩ := hee10
            rw [hee]
            have HBAD := hid hbad
            clear hE hE1 hE2 hee hbad
            go_wp2
            exact leaves_nil (.tuple #[.slice none 0 0, .int .i64 10]) (by simp [results, Try.results38, go_sem]) ⟨⟨_, _, rfl, .inr (.inl ⟨HP.out, HS.out, by omega, by omega, HBAD.out, rfl, rfl⟩)⟩, hB3.alloc hsz3 _⟩
    · rw [decide_eq_false hs]
      have HS := hid hs
      clear hs
      go_wp2
      exact leaves_nil (.tuple #[.slice none 0 0, .int .i64 2]) (by simp [results, Try.results38, go_sem]) ⟨⟨_, _, rfl, .inl ⟨fun hh => HS.out hh.2.1, rfl, rfl⟩⟩, hB2⟩
  · rw [decide_eq_false hp]
    have HP := hid hp
    clear hp
    go_wp2
    exact leaves_nil (.tuple #[.slice none 0 0, .int .i64 2]) (by simp [results, Try.results38, go_sem]) ⟨⟨_, _, rfl, .inl ⟨fun hh => HP.out hh.1, rfl, rfl⟩⟩, hB1⟩

end Go.Proofs.Ytmknengmjepdaaa
