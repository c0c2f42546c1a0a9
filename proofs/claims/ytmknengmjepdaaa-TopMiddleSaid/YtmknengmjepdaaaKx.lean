/- Several of my texts in one: Ka, Kb, Kc. -/
import Derived.Test.YtmknengmjepdaaaMx
import Derived.Test.YtmknengmjepdaaaRx
import Derived.Test.YtmknengmjepdaaaJx
/- Walk of slices.Equal over whole numbers. -/
namespace Go.Proofs.Ytmknengmjepdaaa
open Go.RowKit
attribute [local irreducible] seqS seqST

theorem ex_int {l : List Int} {i : Nat} (h : i < l.length) : ∃ r, l[i]? = some r := ⟨l[i], List.getElem?_eq_getElem h⟩
set_option maxHeartbeats 1000000 in
set_option maxRecDepth 100000 in
theorem EqInt_any (l m : List Int) (v u : Value) (w : World) (h : IntsR 0 w v l) (h2 : IntsR 0 w u m) :
    Calls Try.prog 37 #[v, u] w fun e w' => e = .returned (.bool (decide (l = m))) ∧ Below w.heap.size w w' := by
  obtain ⟨ao, cap, rfl, hcap, hmax, hc⟩ := h
  obtain ⟨ao2, cap2, rfl, hcap2, hmax2, hc2⟩ := h2
  unfold maxLen at hmax hmax2
  obtain ⟨L, hL⟩ : ∃ L, l.length = L := ⟨_, rfl⟩
  obtain ⟨M, hM⟩ : ∃ L, m.length = L := ⟨_, rfl⟩
  obtain ⟨res, hres⟩ : ∃ b, decide (l = m) = b := ⟨_, rfl⟩
  rw [hres]
  have HR := hid hres
  have HL := hid hL
  have HM := hid hM
  rw [hL] at hcap ⊢
  rw [hM] at hcap2 ⊢
  clear hres hL hM
  by_cases hLM : L = M
  · subst hLM
    go_enter Try.func37, Try.ntmps37
    go_wp2
    go_loopw [13] (fun x wr => ∃ i : Nat, x = .int .i64 i ∧ i ≤ L ∧ l.take i = m.take i ∧ Below w.heap.size w wr) (fun x _ => L - (intOf x).toNat)
    case atStart => exact ⟨0, rfl, Nat.zero_le _, by simp, Below.refl _ _⟩
    case round =>
      obtain ⟨i, rfl, hi, htk, hbel⟩ := hrel
      have HT := hid htk
      clear htk
      by_cases h1 : i < L
      · obtain ⟨n, hn⟩ := ex_int (l := l) (i := i) (by rw [HL.out]; exact h1)
        obtain ⟨n2, hn2⟩ := ex_int (l := m) (i := i) (by rw [HM.out]; exact h1)
        obtain ⟨b, off, rfl, hb, c0⟩ := int_cell hc hn
        obtain ⟨b2, off2, rfl, hb2, d0⟩ := int_cell hc2 hn2
        have e0 := fun x : Sub wr.drew => ((hbel.drew.trans (x.b.mono hbel.size)).cell (p := ⟨b, off + i, none⟩) hb).trans c0
        have f0 := fun x : Sub wr.drew => ((hbel.drew.trans (x.b.mono hbel.size)).cell (p := ⟨b2, off2 + i, none⟩) hb2).trans d0
        have HN := hid hn
        have HN2 := hid hn2
        have hi2 : (i : Int) < (L : Int) := by omega
        clear hn c0 hn2 d0
        by_cases hn : n = n2
        · have HEN := hid hn
          subst hn
          go_wp2_with fail
          refine wp_seq [(0, false), (1, false), (2, false), (3, false), (4, false), (5, false), (6, false), (7, false), (8, false)] [(_, false), (_, false), (_, false), (_, false), (_, false), (_, false), (_, false), (_, false), (_, false)] (by kernel_rfl) rfl rfl (by kernel_rfl) ?_
          iterate 9 (refine seqS_read (fun K hK => ?_); go_simp; refine hK _ ?_; clear hK K)
          refine seqS_nil ?_
          clear e0 f0
          go_wp2_with fail
          go_roundw
          case rel =>
            refine ⟨i + 1, by go_num, by omega, ?_, hbel.drew⟩
            have g1 := HL.out
            have g2 := HM.out
            rw [List.take_succ_eq_append_getElem (by omega), List.take_succ_eq_append_getElem (by omega), HT.out]
            have x1 := (List.getElem?_eq_some_iff.1 HN.out).2
            have x2 := (List.getElem?_eq_some_iff.1 HN2.out).2
            rw [x1, x2]
          case measure => simp [intOf]; omega
        · have hlm : l ≠ m := by
            intro he
            have x1 := HN.out
            rw [he, HN2.out] at x1
            exact hn (Option.some.inj x1).symm
          have HLM := hid hlm
          clear hlm
          go_wp2_with fail
          refine wp_seq [(0, false), (1, false), (2, false), (3, false), (4, false), (5, false), (6, false), (7, false), (8, false)] [(_, false), (_, false), (_, false), (_, false), (_, false), (_, false), (_, false), (_, false), (_, false)] (by kernel_rfl) rfl rfl (by kernel_rfl) ?_
          iterate 9 (refine seqS_read (fun K hK => ?_); go_simp; refine hK _ ?_; clear hK K)
          refine seqS_nil ?_
          clear e0 f0
          go_wp2
          refine bodyPost_ret (v := .bool false) (by simp [results, Try.results37, go_sem]) rfl ⟨?_, hbel.drew⟩
          rw [← HR.out, decide_eq_false HLM.out]
      · obtain rfl : i = L := by omega
        go_wp2
        refine bodyPost_ret (v := .bool true) (by simp [results, Try.results37, go_sem]) rfl ⟨?_, hbel⟩
        have g1 := HT.out
        rw [List.take_of_length_le (by rw [HL.out]; omega), List.take_of_length_le (by rw [HM.out]; omega)] at g1
        rw [← HR.out, decide_eq_true g1]
  · have hlm : l ≠ m := by
      intro he
      apply hLM
      rw [← HL.out, ← HM.out, he]
    have HLM := hid hlm
    clear hlm
    go_enter Try.func37, Try.ntmps37
    go_wp2
    refine bodyPost_ret (v := .bool false) (by simp [results, Try.results37, go_sem]) rfl ⟨?_, Below.refl _ _⟩
    rw [← HR.out, decide_eq_false HLM.out]

end Go.Proofs.Ytmknengmjepdaaa

/- Walk of grade.Tight. -/
namespace Go.Proofs.Ytmknengmjepdaaa
open Go.RowKit
attribute [local irreducible] seqS seqST

/-- Rule k holds with equality for the least measures. -/
def tightB (p : Pat) (n d : Int) (k : Nat) : Bool := match p.rules[k]? with
  | some r => decide (wrap64 (chainM p n d r.a.toNat 0 - chainM p n d r.b.toNat 0) = wt r n d)
  | none => false
def tightTo (p : Pat) (n d : Int) (i : Nat) : List Int := ((List.range i).filter (tightB p n d)).map fun (k : Nat) => (k : Int)
def rTightL (p : Pat) (n d : Int) : List Int := if rLeastE p n d = 0 then tightTo p n d p.rules.length else []
theorem tightTo_yes {p : Pat} {n d : Int} {i : Nat} (h : tightB p n d i = true) : tightTo p n d (i + 1) = tightTo p n d i ++ [(i : Int)] := by
  unfold tightTo; rw [List.range_succ, List.filter_append, List.map_append]; simp [h]
theorem tightTo_no {p : Pat} {n d : Int} {i : Nat} (h : tightB p n d i = false) : tightTo p n d (i + 1) = tightTo p n d i := by
  unfold tightTo; rw [List.range_succ, List.filter_append, List.map_append]; simp [h]
theorem tightTo_len (p : Pat) (n d : Int) (i : Nat) : (tightTo p n d i).length ≤ i := by
  unfold tightTo; rw [List.length_map]
  have := List.length_filter_le (tightB p n d) (List.range i)
  rw [List.length_range] at this
  exact this
theorem leastE_zero {p : Pat} {n d : Int} (hE : rLeastE p n d = 0) : PValid p ∧ FSize n d ∧ chBad p n d = false := by
  have hpv : PValid p := by
    apply Decidable.byContradiction
    intro hp
    unfold rLeastE at hE
    rw [decide_eq_false hp] at hE
    simp at hE
  have hfs : FSize n d := by
    apply Decidable.byContradiction
    intro hp
    unfold rLeastE at hE
    rw [decide_eq_false hp] at hE
    simp at hE
  refine ⟨hpv, hfs, ?_⟩
  unfold rLeastE at hE
  rw [decide_eq_true hpv, decide_eq_true hfs, if_neg (by decide)] at hE
  cases hb : chBad p n d with
  | false => rfl
  | true => rw [hb] at hE; cases hE

set_option maxHeartbeats 4000000 in
set_option maxRecDepth 100000 in
theorem Tight_any (p : Pat) (n d : Int) (v : Value) (w : World) (h : PatF 0 w v p) :
    Calls Try.prog 35 #[v, .agg #[.int .i64 n, .int .i64 d]] w fun e w' => (∃ vm, e = .returned (.tuple #[vm, .int .i64 (rLeastE p n d)]) ∧ IntsR w.heap.size w' vm (rTightL p n d)) ∧ Below w.heap.size w w' := by
  obtain ⟨sv, rfl, hsl⟩ := id h
  go_enter Try.func35, Try.ntmps35
  go_wp2_with fail
  obtain ⟨w0, hw0, k0, k1, hB, hsz⟩ := one_new w #[.int .i64 p.n, sv] #[.int .i64 n, .int .i64 d] 33 26
  rw [hw0]
  clear hw0
  have c0 := k0.look 0 rfl
  have c1 := k0.look 1 rfl
  have c2 := k1.look 0 rfl
  have c3 := k1.look 1 rfl
  go_wp2_with fail
  refine (checked_any p n d _ _ (h.below hB)).mono ?_
  rintro e w1 ⟨⟨vx, rfl, hE1, hE2⟩, hb1⟩
  clear c0 c1 c2 c3
  have hB1 := hB.trans (hb1.mono hB.size)
  have k01 := k0.below hb1
  have k11 := k1.below hb1
  have hsz1 := hb1.size
  have hsl1 := hsl.below hB1
  obtain ⟨S, hS⟩ : ∃ S, w.heap.size = S := ⟨_, rfl⟩
  have HS := hid hS
  rw [hS] at k01 k11 hsz ⊢
  clear hS k0 k1
  by_cases hE : rLeastE p n d = 0
  · have hl := hE2 hE
    obtain ⟨hpv, hfs, hbad⟩ := leastE_zero hE
    obtain ⟨N, hN⟩ : ∃ N : Nat, p.n = N := ⟨p.n.toNat, by have := hpv.1; omega⟩
    have hN16 : N ≤ 16 := by have := hpv.2.1; omega
    have HP := hid hpv
    have HF := hid hfs
    have HN := hid hN
    have hL : rTightL p n d = tightTo p n d p.rules.length := by unfold rTightL; rw [if_pos hE]
    have HLL := hid hL
    have HE := hid hE
    have hget : ∀ i, i < N → (leastX p n d)[i]? = some (chainM p n d i 0) := by
      intro i hi
      unfold leastX
      rw [List.getElem?_map, List.getElem?_range (by omega)]
      rfl
    have HG := hid hget
    rw [hE]
    obtain ⟨ao, cap, rfl, hcap, hmax, hc⟩ := hl
    have hlen : (leastX p n d).length = N := by unfold leastX; rw [List.length_map, List.length_range, hN, Int.toNat_natCast]
    rw [hlen] at hcap ⊢
    obtain ⟨ar, capr, rfl, hcapr, hmaxr, hcr⟩ := hsl1
    obtain ⟨L, hL2⟩ : ∃ L, p.rules.length = L := ⟨_, rfl⟩
    have hL64 : L ≤ 64 := by have := hpv.2.2.1; omega
    have HL := hid hL2
    rw [hL2] at hcapr k01 h ⊢
    rw [hN] at k01 h ⊢
    unfold maxLen at hmax hmaxr
    clear hget hlen hpv hfs hL hE1 hE2 hE hN hL2 hbad hsl
    have c0 := k01.look 0 rfl
    have c1 := k01.look 1 rfl
    go_wp2_with fail
    clear c0 c1
    go_loopw [8, 23] (fun y x wr => ∃ i : Nat, x = .int .i64 i ∧ i ≤ L ∧ wr.ownsRow w1.heap.size 3 1 y (tightTo p n d i).length (intCells (tightTo p n d i)) ∧ Below w1.heap.size w1 wr) (fun _ x _ => L - (intOf x).toNat)
    case atStart => exact ⟨0, rfl, Nat.zero_le _, (World.ownsRow_nil _ _ _ _ : w1.ownsRow _ _ _ _ 0 []), Below.refl _ _⟩
    case round =>
      obtain ⟨i, rfl, hi, ho, hbel⟩ := hrel
      by_cases hiL : i < L
      · obtain ⟨r, hr⟩ := ex_rule (l := p.rules) (i := i) (by rw [HL.out]; omega)
        obtain ⟨b9, off9, rfl, hb9, c0, c1, c2, c3⟩ := ru_cell hcr hr
        replace c0 := (hbel.cell (p := ⟨b9, off9 + i * 4, none⟩) hb9).trans c0
        replace c1 := (hbel.cell (p := ⟨b9, off9 + i * 4 + 1, none⟩) hb9).trans c1
        replace c2 := (hbel.cell (p := ⟨b9, off9 + i * 4 + 2, none⟩) hb9).trans c2
        replace c3 := (hbel.cell (p := ⟨b9, off9 + i * 4 + 3, none⟩) hb9).trans c3
        have hrv := HP.out.2.2.2 r (rule_mem hr)
        have AT := hid (fun w => at_any p.n r n d w hrv HF.out)
        have htb : tightB p n d i = decide (wrap64 (chainM p n d r.a.toNat 0 - chainM p n d r.b.toNat 0) = wt r n d) := by unfold tightB; rw [hr]
        have hiL2 : (i : Int) < (L : Int) := by omega
        obtain ⟨A, hA⟩ : ∃ A : Nat, r.a = A := ⟨r.a.toNat, by have := hrv.1; omega⟩
        obtain ⟨C, hC⟩ : ∃ A : Nat, r.b = A := ⟨r.b.toNat, by have := hrv.2.2.1; omega⟩
        have hAN : A < N := by have := hrv.2.1; have := HN.out; omega
        have hCN : C < N := by have := hrv.2.2.2.1; have := HN.out; omega
        rw [hA, hC, Int.toNat_natCast, Int.toNat_natCast] at htb
        rw [hA] at c0
        rw [hC] at c1
        rw [hA, hC] at AT
        obtain ⟨bx, offx, rfl, hbx, xA⟩ := int_cell hc (HG.out A hAN)
        obtain ⟨bx', offx', he', hbx', xC⟩ := int_cell hc (HG.out C hCN)
        obtain ⟨rfl, rfl⟩ : bx = bx' ∧ offx = offx' := by simpa using he'
        obtain ⟨rc, hrc⟩ : ∃ z, r.c = z := ⟨_, rfl⟩
        obtain ⟨rd, hrd⟩ : ∃ z, r.d = z := ⟨_, rfl⟩
        obtain ⟨y, hy⟩ : ∃ z, wt r n d = z := ⟨_, rfl⟩
        obtain ⟨xa, hxa⟩ : ∃ z, chainM p n d A 0 = z := ⟨_, rfl⟩
        obtain ⟨xc, hxc⟩ : ∃ z, chainM p n d C 0 = z := ⟨_, rfl⟩
        rw [hrc, hrd, hy] at AT
        rw [hrc] at c2
        rw [hrd] at c3
        rw [hy, hxa, hxc] at htb
        rw [hxa] at xA
        rw [hxc] at xC
        have HTB := hid htb
        clear htb hrv hr hA hC hrc hrd hy hxa hxc he'
        go_wp2_with fail
        clear c0 c1 c2 c3
        have kb := Blk.new wr #[.int .i64 (A : Int), .int .i64 (C : Int), .int .i64 rc, .int .i64 rd] 92
        have hbA := (Below.refl wr.heap.size wr).alloc (Nat.le_refl _) (.cells #[.int .i64 (A : Int), .int .i64 (C : Int), .int .i64 rc, .int .i64 rd] 92)
        obtain ⟨w2, hw2⟩ : ∃ w2, wr.alloc (.cells #[.int .i64 (A : Int), .int .i64 (C : Int), .int .i64 rc, .int .i64 rd] 92) = w2 := ⟨_, rfl⟩
        rw [hw2] at kb hbA ⊢
        clear hw2
        obtain ⟨B, hBq⟩ : ∃ B, wr.heap.size = B := ⟨_, rfl⟩
        have HBQ := hid hBq
        rw [hBq] at kb ⊢
        clear hBq
        have hbel2 := hbel.trans (hbA.mono hbel.size)
        have z0 := fun x : Sub w2.drew => (kb.drew.below x.b).look 0 rfl
        have z1 := fun x : Sub w2.drew => (kb.drew.below x.b).look 1 rfl
        have z2 := fun x : Sub w2.drew => (kb.drew.below x.b).look 2 rfl
        have z3 := fun x : Sub w2.drew => (kb.drew.below x.b).look 3 rfl
        have z4 := fun x : Sub w2.drew => ((hbel2.drew.trans (x.b.mono hbel2.size)).cell (p := ⟨bx, offx + A, none⟩) hbx).trans xA
        have z5 := fun x : Sub w2.drew => ((hbel2.drew.trans (x.b.mono hbel2.size)).cell (p := ⟨bx, offx + C, none⟩) hbx).trans xC
        have z6 := fun x : Sub w2.drew => (k11.below (hbel2.drew.trans (x.b.mono hbel2.size))).look 0 rfl
        have z7 := fun x : Sub w2.drew => (k11.below (hbel2.drew.trans (x.b.mono hbel2.size))).look 1 rfl
        refine wp_seq [(0, false), (1, false), (2, false), (3, false), (4, false), (5, false), (6, false), (7, false), (8, false), (9, false), (10, false), (11, false), (12, false), (13, true), (14, false)] [(_, false), (_, false), (_, false), (_, false), (_, false), (_, false), (_, false), (_, false), (_, false), (_, false), (_, false), (_, false), (_, false), (_, true), (_, false)] (by kernel_rfl) rfl rfl (by kernel_rfl) ?_
        iterate 13 (refine seqS_read (fun K hK => ?_); go_simp; refine hK _ ?_; clear hK K)
        clear z0 z1 z2 z3 z4 z5 z6 z7
        (refine seqS_call (fun K hK => ?_); go_simp; refine (AT.out _).mono ?_; rintro e w4 ⟨rfl, hb4⟩; refine ⟨_, rfl, hK _ _ hb4 ?_⟩; clear hK K)
        have hbel4 : Below w1.heap.size w1 w4 := hbel2.drew.trans (hb4.mono hbel2.size)
        have ho4 := owns_below ho (hbA.drew.trans (hb4.mono hbA.size))
        clear hb4 hbA hbel2 kb ho
        obtain ⟨yy, hyy⟩ : ∃ z, IntKind.i64.wrap (xa - xc) = z := ⟨_, rfl⟩
        have htb2 := HTB.out
        rw [← IntWalk.i64_left, hyy] at htb2
        rw [hyy]
        have hlen := tightTo_len p n d i
        have hs4 := hbel4.size
        clear hyy
        by_cases hq : yy = y
        · subst hq
          have ht : tightB p n d i = true := by rw [htb2]; simp
          have HSN := hid (tightTo_yes ht)
          clear ht htb2
          iterate 1 (refine seqS_read (fun K hK => ?_); go_simp; refine hK _ ?_; clear hK K)
          refine seqS_nil ?_
          go_wp2_with (first
            | (at_builtin; refine wpList_app rfl (.tmp 43) (.tmp 45) _ rfl w1.heap.size 3 (.int .i64 0) 1 8 Try.underlying49 infoInt rfl (by decide) 3 _ _ _ rfl ho4 [.int .i64 (i : Int)] rfl rfl (by simp [Value.oneCell']) (by unfold maxLen; omega) (by omega) (by omega) ?_; intro g5 gcap w5 ho5 hb5 _ _ _))
          refine ⟨⟨i + 1, by go_num, by omega, ?_, hbel4.trans hb5⟩, by simp [intOf]; omega⟩
          rw [HSN.out, List.length_append, intCells_append]
          exact ho5
        · have ht : tightB p n d i = false := by rw [htb2]; simpa using hq
          have HSN := hid (tightTo_no ht)
          clear ht htb2
          iterate 1 (refine seqS_read (fun K hK => ?_); go_simp; refine hK _ ?_; clear hK K)
          refine seqS_nil ?_
          go_wp2_with fail
          refine ⟨⟨i + 1, by go_num, by omega, ?_, hbel4⟩, by simp [intOf]; omega⟩
          rw [HSN.out]
          exact ho4
      · obtain rfl : i = L := by omega
        go_wp2
        go_ret2
        refine ⟨⟨_, by rw [HE.out]; rfl, ?_⟩, hB1.trans (hbel.mono (by have := hB1.size; omega))⟩
        rw [HLL.out, HL.out]
        exact SlR.mono (SlR.of_owns ho) (by have := hB1.size; omega)
  · have hL : rTightL p n d = [] := by unfold rTightL; rw [if_neg hE]
    have HL := hid hL
    rw [hE1 hE]
    obtain ⟨ee, hee⟩ : ∃ ee, rLeastE p n d = ee := ⟨_, rfl⟩
    have HEE := hid hee
    rw [hee] at hE ⊢
    clear hE1 hE2 hL hee
    go_wp2
    go_ret2
    refine ⟨⟨_, by rw [HEE.out]; rfl, ?_⟩, hB1⟩
    rw [HL.out]
    exact SlR.nil _ _

end Go.Proofs.Ytmknengmjepdaaa

/- Walk of trankref04.Tight. -/
namespace Go.Proofs.Ytmknengmjepdaaa
open Go.RowKit
attribute [local irreducible] seqS seqST

theorem chBad_true {p : Pat} {n d : Int} (h : ∃ a, a < p.n.toNat ∧ 0 < chainM p n d a a) : chBad p n d = true := by
  obtain ⟨a, ha, hpos⟩ := h
  unfold chBad
  exact List.any_eq_true.2 ⟨a, List.mem_range.2 ha, by simpa using hpos⟩
theorem chBad_not {p : Pat} {n d : Int} (h : ∀ a, a < p.n.toNat → chainM p n d a a ≤ 0) : chBad p n d = false := chBad_false.2 h
theorem leastE_of {p : Pat} {n d : Int} (hp : PValid p) (hs : FSize n d) : rLeastE p n d = if chBad p n d then 10 else 0 := by
  unfold rLeastE; rw [decide_eq_true hp, decide_eq_true hs]; rfl
theorem leastE_two {p : Pat} {n d : Int} (h : (decide (PValid p) && decide (FSize n d)) = false) : rLeastE p n d = 2 := by
  unfold rLeastE; rw [if_pos h]

set_option maxHeartbeats 4000000 in
set_option maxRecDepth 100000 in
theorem rTight_any (p : Pat) (n d : Int) (v : Value) (w : World) (h : PatF 0 w v p) :
    Calls Try.prog 36 #[v, .agg #[.int .i64 n, .int .i64 d]] w fun e w' => (∃ vm, e = .returned (.tuple #[vm, .int .i64 (rLeastE p n d)]) ∧ IntsR w.heap.size w' vm (rTightL p n d)) ∧ Below w.heap.size w w' := by
  obtain ⟨sv, rfl, hsl⟩ := id h
  go_enter Try.func36, Try.ntmps36
  go_wp2_with fail
  obtain ⟨w0, hw0, k0, k1, hB, hsz⟩ := one_new w #[.int .i64 p.n, sv] #[.int .i64 n, .int .i64 d] 24 26
  rw [hw0]
  clear hw0
  have c0 := k0.look 0 rfl
  have c1 := k0.look 1 rfl
  have c2 := k1.look 0 rfl
  have c3 := k1.look 1 rfl
  go_wp2_with fail
  refine (Good_any p n d _ _ (h.below hB)).mono ?_
  rintro e w1 ⟨rfl, hb1⟩
  obtain ⟨S, hS⟩ : ∃ S, w.heap.size = S := ⟨_, rfl⟩
  have HS := hid hS
  rw [hS] at k0 k1 hsz ⊢
  clear c0 c1 c2 c3 hS
  replace k0 := k0.below hb1
  replace k1 := k1.below hb1
  have hB1 := hB.trans (hb1.mono hB.size)
  clear hB hb1
  by_cases hg : (decide (PValid p) && decide (FSize n d)) = true
  · rw [hg]
    have hpv : PValid p := by simp only [Bool.and_eq_true, decide_eq_true_eq] at hg; exact hg.1
    have hfs : FSize n d := by simp only [Bool.and_eq_true, decide_eq_true_eq] at hg; exact hg.2
    have hEE := leastE_of hpv hfs
    have HEE := hid hEE
    have HP := hid hpv
    have HF := hid hfs
    clear hg hpv hfs hEE
    have c0 := k0.look 0 rfl
    have c1 := k0.look 1 rfl
    have c2 := k1.look 0 rfl
    have c3 := k1.look 1 rfl
    go_wp2_with fail
    refine (chains_any p n d _ _ (h.below hB1) HP.out HF.out).mono ?_
    rintro e w2 ⟨⟨vm, ok, rfl, hcase⟩, hb2⟩
    replace k0 := k0.below hb2
    replace k1 := k1.below hb2
    have hB2 := hB1.trans (hb2.mono hB1.size)
    clear c0 c1 c2 c3 hB1 hb2
    rcases hcase with ⟨rfl, rfl, hbad⟩ | ⟨rfl, hgood, hmat⟩
    · have hE : rLeastE p n d = 10 := by rw [HEE.out, chBad_true hbad]; rfl
      have hL : rTightL p n d = [] := by unfold rTightL; rw [hE]; rfl
      have HE := hid hE
      have HL := hid hL
      clear hbad hE hL
      go_wp2
      go_ret2
      refine ⟨⟨_, by rw [HE.out]; rfl, ?_⟩, hB2⟩
      rw [HL.out]
      exact SlR.nil _ _
    · have hbd := chBad_not hgood
      have hE : rLeastE p n d = 0 := by rw [HEE.out, hbd]; rfl
      have hL : rTightL p n d = tightTo p n d p.rules.length := by unfold rTightL; rw [if_pos hE]
      have HE := hid hE
      have HLL := hid hL
      obtain ⟨N, hN⟩ : ∃ N : Nat, p.n = N := ⟨p.n.toNat, by have := HP.out.1; omega⟩
      have hN16 : N ≤ 16 := by have := HP.out.2.1; omega
      have HN := hid hN
      obtain ⟨o, base, rfl, hlo, hlb, ko, km⟩ := hmat
      rw [hN, Int.toNat_natCast] at ko km ⊢
      obtain ⟨ar, capr, rfl, hcapr, hmaxr, hcr⟩ := hsl.below hB2
      obtain ⟨L, hL2⟩ : ∃ L, p.rules.length = L := ⟨_, rfl⟩
      have hL64 : L ≤ 64 := by have := HP.out.2.2.1; omega
      have HL := hid hL2
      rw [hL2] at hcapr k0 h ⊢
      rw [hN] at k0 h
      unfold maxLen at hmaxr
      clear hgood hbd hE hL hN hL2 hsl
      have c0 := k0.look 0 rfl
      have c1 := k0.look 1 rfl
      go_wp2_with fail
      clear c0 c1
      go_loopw [8, 26] (fun y x wr => ∃ i : Nat, x = .int .i64 i ∧ i ≤ L ∧ wr.ownsRow w2.heap.size 3 1 y (tightTo p n d i).length (intCells (tightTo p n d i)) ∧ Below w2.heap.size w2 wr) (fun _ x _ => L - (intOf x).toNat)
      case atStart => exact ⟨0, rfl, Nat.zero_le _, (World.ownsRow_nil _ _ _ _ : w2.ownsRow _ _ _ _ 0 []), Below.refl _ _⟩
      case round =>
        obtain ⟨i, rfl, hi, ho, hbel⟩ := hrel
        by_cases hiL : i < L
        · obtain ⟨r, hr⟩ := ex_rule (l := p.rules) (i := i) (by rw [HL.out]; omega)
          obtain ⟨b9, off9, rfl, hb9, c0, c1, c2, c3⟩ := ru_cell hcr hr
          replace c0 := (hbel.cell (p := ⟨b9, off9 + i * 4, none⟩) hb9).trans c0
          replace c1 := (hbel.cell (p := ⟨b9, off9 + i * 4 + 1, none⟩) hb9).trans c1
          replace c2 := (hbel.cell (p := ⟨b9, off9 + i * 4 + 2, none⟩) hb9).trans c2
          replace c3 := (hbel.cell (p := ⟨b9, off9 + i * 4 + 3, none⟩) hb9).trans c3
          have hrv := HP.out.2.2.2 r (rule_mem hr)
          have AT := hid (fun w => weight_any p.n r n d w hrv HF.out)
          have htb : tightB p n d i = decide (wrap64 (chainM p n d r.a.toNat 0 - chainM p n d r.b.toNat 0) = wt r n d) := by unfold tightB; rw [hr]
          have hiL2 : (i : Int) < (L : Int) := by omega
          obtain ⟨A, hA⟩ : ∃ A : Nat, r.a = A := ⟨r.a.toNat, by have := hrv.1; omega⟩
          obtain ⟨C, hC⟩ : ∃ A : Nat, r.b = A := ⟨r.b.toNat, by have := hrv.2.2.1; omega⟩
          have hAN : A < N := by have := hrv.2.1; have := HN.out; omega
          have hCN : C < N := by have := hrv.2.2.2.1; have := HN.out; omega
          rw [hA, hC, Int.toNat_natCast, Int.toNat_natCast] at htb
          rw [hA] at c0
          rw [hC] at c1
          rw [hA, hC] at AT
          obtain ⟨rc, hrc⟩ : ∃ z, r.c = z := ⟨_, rfl⟩
          obtain ⟨rd, hrd⟩ : ∃ z, r.d = z := ⟨_, rfl⟩
          obtain ⟨y, hy⟩ : ∃ z, wt r n d = z := ⟨_, rfl⟩
          have kA := km A hAN
          have kC := km C hCN
          obtain ⟨gA, hgA⟩ : ∃ g : Nat → Int, chainM p n d A = g := ⟨_, rfl⟩
          obtain ⟨gC, hgC⟩ : ∃ g : Nat → Int, chainM p n d C = g := ⟨_, rfl⟩
          rw [hgA] at kA
          rw [hgC] at kC
          rw [hgA, hgC] at htb
          obtain ⟨xa, hxa⟩ : ∃ z, gA 0 = z := ⟨_, rfl⟩
          obtain ⟨xc, hxc⟩ : ∃ z, gC 0 = z := ⟨_, rfl⟩
          rw [hrc, hrd, hy] at AT
          rw [hrc] at c2
          rw [hrd] at c3
          rw [hy, hxa, hxc] at htb
          have HXA := hid hxa
          have HXC := hid hxc
          have HTB := hid htb
          clear htb hrv hr hA hC hrc hrd hy hxa hxc hgA hgC
          go_wp2_with fail
          clear c0 c1 c2 c3
          have kb := Blk.new wr #[.int .i64 (A : Int), .int .i64 (C : Int), .int .i64 rc, .int .i64 rd] 46
          have hbA := (Below.refl wr.heap.size wr).alloc (Nat.le_refl _) (.cells #[.int .i64 (A : Int), .int .i64 (C : Int), .int .i64 rc, .int .i64 rd] 46)
          obtain ⟨w3, hw3⟩ : ∃ w3, wr.alloc (.cells #[.int .i64 (A : Int), .int .i64 (C : Int), .int .i64 rc, .int .i64 rd] 46) = w3 := ⟨_, rfl⟩
          rw [hw3] at kb hbA ⊢
          clear hw3
          obtain ⟨B, hBq⟩ : ∃ B, wr.heap.size = B := ⟨_, rfl⟩
          have HBQ := hid hBq
          rw [hBq] at kb ⊢
          clear hBq
          have hbel2 := hbel.trans (hbA.mono hbel.size)
          have hN0 : (0 : Int) < (N : Int) := by omega
          have hN00 : 0 < N := by omega
          have bx := fun x : Sub w3.drew => hbel2.drew.trans (x.b.mono hbel2.size)
          have z0 := fun x : Sub w3.drew => (kb.drew.below x.b).look 0 rfl
          have z1 := fun x : Sub w3.drew => (kb.drew.below x.b).look 1 rfl
          have z2 := fun x : Sub w3.drew => (kb.drew.below x.b).look 2 rfl
          have z3 := fun x : Sub w3.drew => (kb.drew.below x.b).look 3 rfl
          have z4 := fun x : Sub w3.drew => (ko.below (bx x)).look A (outArr_get hAN hAN)
          have z5 := fun x : Sub w3.drew => (ko.below (bx x)).look C (outArr_get hCN hCN)
          have z6 := fun x : Sub w3.drew => ((kA.below (bx x)).look 0 (rowArr_get hN00)).trans (congrArg (fun y => some (Value.int .i64 y)) HXA.out)
          have z7 := fun x : Sub w3.drew => ((kC.below (bx x)).look 0 (rowArr_get hN00)).trans (congrArg (fun y => some (Value.int .i64 y)) HXC.out)
          have z8 := fun x : Sub w3.drew => (k1.below (bx x)).look 0 rfl
          have z9 := fun x : Sub w3.drew => (k1.below (bx x)).look 1 rfl
          clear bx
          refine wp_seq [(0, false), (1, false), (2, false), (3, false), (4, false), (5, false), (6, false), (7, false), (8, false), (9, false), (10, false), (11, false), (12, false), (13, false), (14, false), (15, false), (16, false), (17, true), (18, false)] [(_, false), (_, false), (_, false), (_, false), (_, false), (_, false), (_, false), (_, false), (_, false), (_, false), (_, false), (_, false), (_, false), (_, false), (_, false), (_, false), (_, false), (_, true), (_, false)] (by kernel_rfl) rfl rfl (by kernel_rfl) ?_
          iterate 17 (refine seqS_read (fun K hK => ?_); go_simp; refine hK _ ?_; clear hK K)
          clear z0 z1 z2 z3 z4 z5 z6 z7 z8 z9
          (refine seqS_call (fun K hK => ?_); go_simp; refine (AT.out _).mono ?_; rintro e w4 ⟨rfl, hb4⟩; refine ⟨_, rfl, hK _ _ hb4 ?_⟩; clear hK K)
          have hbel4 : Below w2.heap.size w2 w4 := hbel2.drew.trans (hb4.mono hbel2.size)
          have ho4 := owns_below ho (hbA.drew.trans (hb4.mono hbA.size))
          clear hb4 hbA hbel2 kb ho
          obtain ⟨yy, hyy⟩ : ∃ z, IntKind.i64.wrap (xa - xc) = z := ⟨_, rfl⟩
          have htb2 := HTB.out
          rw [← IntWalk.i64_left, hyy] at htb2
          rw [hyy]
          have hlen := tightTo_len p n d i
          have hs4 := hbel4.size
          clear hyy
          by_cases hq : yy = y
          · subst hq
            have ht : tightB p n d i = true := by rw [htb2]; simp
            have HSN := hid (tightTo_yes ht)
            clear ht htb2
            iterate 1 (refine seqS_read (fun K hK => ?_); go_simp; refine hK _ ?_; clear hK K)
            refine seqS_nil ?_
            go_wp2_with (first
              | (at_builtin; refine wpList_app rfl (.tmp 50) (.tmp 52) _ rfl w2.heap.size 3 (.int .i64 0) 1 8 Try.underlying49 infoInt rfl (by decide) 3 _ _ _ rfl ho4 [.int .i64 (i : Int)] rfl rfl (by simp [Value.oneCell']) (by unfold maxLen; omega) (by omega) (by omega) ?_; intro g5 gcap w5 ho5 hb5 _ _ _))
            refine ⟨⟨i + 1, by go_num, by omega, ?_, hbel4.trans hb5⟩, by simp [intOf]; omega⟩
            rw [HSN.out, List.length_append, intCells_append]
            exact ho5
          · have ht : tightB p n d i = false := by rw [htb2]; simpa using hq
            have HSN := hid (tightTo_no ht)
            clear ht htb2
            iterate 1 (refine seqS_read (fun K hK => ?_); go_simp; refine hK _ ?_; clear hK K)
            refine seqS_nil ?_
            go_wp2_with fail
            refine ⟨⟨i + 1, by go_num, by omega, ?_, hbel4⟩, by simp [intOf]; omega⟩
            rw [HSN.out]
            exact ho4
        · obtain rfl : i = L := by omega
          go_wp2
          go_ret2
          refine ⟨⟨_, by rw [HE.out]; rfl, ?_⟩, hB2.trans (hbel.mono (by have := hB2.size; omega))⟩
          rw [HLL.out, HL.out]
          exact SlR.mono (SlR.of_owns ho) (by have := hB2.size; omega)
  · have hg' : (decide (PValid p) && decide (FSize n d)) = false := by simpa using hg
    have hE := leastE_two hg'
    have hL : rTightL p n d = [] := by unfold rTightL; rw [hE]; rfl
    have HE := hid hE
    have HL := hid hL
    rw [hg']
    clear hg hg' hE hL
    go_wp2
    go_ret2
    refine ⟨⟨_, by rw [HE.out]; rfl, ?_⟩, hB1⟩
    rw [HL.out]
    exact SlR.nil _ _

end Go.Proofs.Ytmknengmjepdaaa
