/- Walk of trankref04.Tight. -/
import Derived.Test.YtmknengmjepdaaaKb
namespace Go.Proofs.Ytmknengmjepdaaa
open Go.RowKit

theorem chBad_true {p : Pat} {n d : Int} (h : ∃ a, a < p.n.toNat ∧ 0 < chainM p n d a a) : chBad p n d = true := by
  obtain ⟨a, ha, hpos⟩ := h
  unfold chBad
  exact List.any_eq_true.2 ⟨a, List.mem_range.2 ha, by simpa using hpos⟩
theorem chBad_not {p : Pat} {n d : Int} (h : ∀ a, a < p.n.toNat → chainM p n d a a ≤ 0) : chBad p n d = false := chBad_false.2 h
theorem leastE_of {p : Pat} {n d : Int} (hp : PValid p) (hs : FSize n d) : rLeastE p n d = if chBad p n d then 10 else 0 := by
  unfold rLeastE; rw [decide_eq_true hp, decide_eq_true hs]; rfl
theorem leastE_two {p : Pat} {n d : Int} (h : (decide (PValid p) && decide (FSize n d)) = false) : rLeastE p n d = 2 := by
  unfold rLeastE; rw [if_pos h]

set_option maxHeartbeats 4000000 in
set_option maxRecDepth 100000 in
theorem rTight_any (p : Pat) (n d : Int) (v : Value) (w : World) (h : PatF 0 w v p) :
    Calls Try.prog 36 #[v, .agg #[.int .i64 n, .int .i64 d]] w fun e w' => (∃ vm, e = .returned (.tuple #[vm, .int .i64 (rLeastE p n d)]) ∧ IntsR w.heap.size w' vm (rTightL p n d)) ∧ Below w.heap.size w w' := by
  obtain ⟨sv, rfl, hsl⟩ := id h
  go_enter Try.func36, Try.ntmps36
  go_wp2_with fail
  obtain ⟨w0, hw0, k0, k1, hB, hsz⟩ := one_new w #[.int .i64 p.n, sv] #[.int .i64 n, .int .i64 d] 24 26
  rw [hw0]
  clear hw0
  have c0 := k0.look 0 rfl
  have c1 := k0.look 1 rfl
  have c2 := k1.look 0 rfl
  have c3 := k1.look 1 rfl
  go_wp2_with fail
  refine (Good_any p n d _ _ (h.below hB)).mono ?_
  rintro e w1 ⟨rfl, hb1⟩
  obtain ⟨S, hS⟩ : ∃ S, w.heap.size = S := ⟨_, rfl⟩
  have HS := hid hS
  rw [hS] at k0 k1 hsz ⊢
  clear c0 c1 c2 c3 hS
  replace k0 := k0.below hb1
  replace k1 := k1.below hb1
  have hB1 := hB.trans (hb1.mono hB.size)
  clear hB hb1
  by_cases hg : (decide (PValid p) && decide (FSize n d)) = true
  · rw [hg]
    have hpv : PValid p := by simp only [Bool.and_eq_true, decide_eq_true_eq] at hg; exact hg.1
    have hfs : FSize n d := by simp only [Bool.and_eq_true, decide_eq_true_eq] at hg; exact hg.2
    have hEE := leastE_of hpv hfs
    have HEE := hid hEE
    have HP := hid hpv
    have HF := hid hfs
    clear hg hpv hfs hEE
    have c0 := k0.look 0 rfl
    have c1 := k0.look 1 rfl
    have c2 := k1.look 0 rfl
    have c3 := k1.look 1 rfl
    go_wp2_with fail
    refine (chains_any p n d _ _ (h.below hB1) HP.out HF.out).mono ?_
    rintro e w2 ⟨⟨vm, ok, rfl, hcase⟩, hb2⟩
    replace k0 := k0.below hb2
    replace k1 := k1.below hb2
    have hB2 := hB1.trans (hb2.mono hB1.size)
    clear c0 c1 c2 c3 hB1 hb2
    rcases hcase with ⟨rfl, rfl, hbad⟩ | ⟨rfl, hgood, hmat⟩
    · have hE : rLeastE p n d = 10 := by rw [HEE.out, chBad_true hbad]; rfl
      have hL : rTightL p n d = [] := by unfold rTightL; rw [hE]; rfl
      have HE := hid hE
      have HL := hid hL
      clear hbad hE hL
      go_wp2
      go_ret2
      refine ⟨⟨_, by rw [HE.out]; rfl, ?_⟩, hB2⟩
      rw [HL.out]
      exact SlR.nil _ _
    · have hbd := chBad_not hgood
      have hE : rLeastE p n d = 0 := by rw [HEE.out, hbd]; rfl
      have hL : rTightL p n d = tightTo p n d p.rules.length := by unfold rTightL; rw [if_pos hE]
      have HE := hid hE
      have HLL := hid hL
      obtain ⟨N, hN⟩ : ∃ N : Nat, p.n = N := ⟨p.n.toNat, by have := HP.out.1; omega⟩
      have hN16 : N ≤ 16 := by have := HP.out.2.1; omega
      have HN := hid hN
      obtain ⟨o, base, rfl, hlo, hlb, ko, km⟩ := hmat
      rw [hN, Int.toNat_natCast] at ko km ⊢
      obtain ⟨ar, capr, rfl, hcapr, hmaxr, hcr⟩ := hsl.below hB2
      obtain ⟨L, hL2⟩ : ∃ L, p.rules.length = L := ⟨_, rfl⟩
      have hL64 : L ≤ 64 := by have := HP.out.2.2.1; omega
      have HL := hid hL2
      rw [hL2] at hcapr k0 h ⊢
      rw [hN] at k0 h
      unfold maxLen at hmaxr
      clear hgood hbd hE hL hN hL2 hsl
      have c0 := k0.look 0 rfl
      have c1 := k0.look 1 rfl
      go_wp2_with fail
      clear c0 c1
      go_loopw [8, 26] (fun y x wr => ∃ i : Nat, x = .int .i64 i ∧ i ≤ L ∧ wr.ownsRow w2.heap.size 3 1 y (tightTo p n d i).length (intCells (tightTo p n d i)) ∧ Below w2.heap.size w2 wr) (fun _ x _ => L - (intOf x).toNat)
      case atStart => exact ⟨0, rfl, Nat.zero_le _, (World.ownsRow_nil _ _ _ _ : w2.ownsRow _ _ _ _ 0 []), Below.refl _ _⟩
      case round =>
        obtain ⟨i, rfl, hi, ho, hbel⟩ := hrel
        by_cases hiL : i < L
        · obtain ⟨r, hr⟩ := ex_rule (l := p.rules) (i := i) (by rw [HL.out]; omega)
          obtain ⟨b9, off9, rfl, hb9, c0, c1, c2, c3⟩ := ru_cell hcr hr
          replace c0 := (hbel.cell (p := ⟨b9, off9 + i * 4, none⟩) hb9).trans c0
          replace c1 := (hbel.cell (p := ⟨b9, off9 + i * 4 + 1, none⟩) hb9).trans c1
          replace c2 := (hbel.cell (p := ⟨b9, off9 + i * 4 + 2, none⟩) hb9).trans c2
          replace c3 := (hbel.cell (p := ⟨b9, off9 + i * 4 + 3, none⟩) hb9).trans c3
          have hrv := HP.out.2.2.2 r (rule_mem hr)
          have AT := hid (fun w => weight_any p.n r n d w hrv HF.out)
          have htb : tightB p n d i = decide (wrap64 (chainM p n d r.a.toNat 0 - chainM p n d r.b.toNat 0) = wt r n d) := by unfold tightB; rw [hr]
          have hiL2 : (i : Int) < (L : Int) := by omega
          obtain ⟨A, hA⟩ : ∃ A : Nat, r.a = A := ⟨r.a.toNat, by have := hrv.1; omega⟩
          obtain ⟨C, hC⟩ : ∃ A : Nat, r.b = A := ⟨r.b.toNat, by have := hrv.2.2.1; omega⟩
          have hAN : A < N := by have := hrv.2.1; have := HN.out; omega
          have hCN : C < N := by have := hrv.2.2.2.1; have := HN.out; omega
          rw [hA, hC, Int.toNat_natCast, Int.toNat_natCast] at htb
          rw [hA] at c0
          rw [hC] at c1
          rw [hA, hC] at AT
          obtain ⟨rc, hrc⟩ : ∃ z, r.c = z := ⟨_, rfl⟩
          obtain ⟨rd, hrd⟩ : ∃ z, r.d = z := ⟨_, rfl⟩
          obtain ⟨y, hy⟩ : ∃ z, wt r n d = z := ⟨_, rfl⟩
          have kA := km A hAN
          have kC := km C hCN
          obtain ⟨gA, hgA⟩ : ∃ g : Nat → Int, chainM p n d A = g := ⟨_, rfl⟩
          obtain ⟨gC, hgC⟩ : ∃ g : Nat → Int, chainM p n d C = g := ⟨_, rfl⟩
          rw [hgA] at kA
          rw [hgC] at kC
          rw [hgA, hgC] at htb
          obtain ⟨xa, hxa⟩ : ∃ z, gA 0 = z := ⟨_, rfl⟩
          obtain ⟨xc, hxc⟩ : ∃ z, gC 0 = z := ⟨_, rfl⟩
          rw [hrc, hrd, hy] at AT
          rw [hrc] at c2
          rw [hrd] at c3
          rw [hy, hxa, hxc] at htb
          have HXA := hid hxa
          have HXC := hid hxc
          have HTB := hid htb
          clear htb hrv hr hA hC hrc hrd hy hxa hxc hgA hgC
          go_wp2_with fail
          clear c0 c1 c2 c3
          have kb := Blk.new wr #[.int .i64 (A : Int), .int .i64 (C : Int), .int .i64 rc, .int .i64 rd] 46
          have hbA := (Below.refl wr.heap.size wr).alloc (Nat.le_refl _) (.cells #[.int .i64 (A : Int), .int .i64 (C : Int), .int .i64 rc, .int .i64 rd] 46)
          obtain ⟨w3, hw3⟩ : ∃ w3, wr.alloc (.cells #[.int .i64 (A : Int), .int .i64 (C : Int), .int .i64 rc, .int .i64 rd] 46) = w3 := ⟨_, rfl⟩
          rw [hw3] at kb hbA ⊢
          clear hw3
          obtain ⟨B, hBq⟩ : ∃ B, wr.heap.size = B := ⟨_, rfl⟩
          have HBQ := hid hBq
          rw [hBq] at kb ⊢
          clear hBq
          have hbel2 := hbel.trans (hbA.mono hbel.size)
          have hN0 : (0 : Int) < (N : Int) := by omega
          have hN00 : 0 < N := by omega
          have bx := fun x : Sub w3.drew => hbel2.drew.trans (x.b.mono hbel2.size)
          have z0 := fun x : Sub w3.drew => (kb.drew.below x.b).look 0 rfl
          have z1 := fun x : Sub w3.drew => (kb.drew.below x.b).look 1 rfl
          have z2 := fun x : Sub w3.drew => (kb.drew.below x.b).look 2 rfl
          have z3 := fun x : Sub w3.drew => (kb.drew.below x.b).look 3 rfl
          have z4 := fun x : Sub w3.drew => (ko.below (bx x)).look A (outArr_get hAN hAN)
          have z5 := fun x : Sub w3.drew => (ko.below (bx x)).look C (outArr_get hCN hCN)
          have z6 := fun x : Sub w3.drew => ((kA.below (bx x)).look 0 (rowArr_get hN00)).trans (congrArg (fun y => some (Value.int .i64 y)) HXA.out)
          have z7 := fun x : Sub w3.drew => ((kC.below (bx x)).look 0 (rowArr_get hN00)).trans (congrArg (fun y => some (Value.int .i64 y)) HXC.out)
          have z8 := fun x : Sub w3.drew => (k1.below (bx x)).look 0 rfl
          have z9 := fun x : Sub w3.drew => (k1.below (bx x)).look 1 rfl
          clear bx
          refine wp_region_seq [(0, false), (1, false), (2, false), (3, false), (4, false), (5, false), (6, false), (7, false), (8, false), (9, false), (10, false), (11, false), (12, false), (13, false), (14, false), (15, false), (16, false), (17, true), (18, false)] [(_, false), (_, false), (_, false), (_, false), (_, false), (_, false), (_, false), (_, false), (_, false), (_, false), (_, false), (_, false), (_, false), (_, false), (_, false), (_, false), (_, false), (_, true), (_, false)] (by kernel_rfl) rfl rfl (by kernel_rfl) ?_
          iterate 17 (refine seqS_read (fun K hK => ?_); go_simp; refine hK _ ?_; clear hK K)
          clear z0 z1 z2 z3 z4 z5 z6 z7 z8 z9
          (refine seqS_call (fun K hK => ?_); go_simp; refine (AT.out _).mono ?_; rintro e w4 ⟨rfl, hb4⟩; refine ⟨_, rfl, hK _ _ hb4 ?_⟩; clear hK K)
          have hbel4 : Below w2.heap.size w2 w4 := hbel2.drew.trans (hb4.mono hbel2.size)
          have ho4 := owns_below ho (hbA.drew.trans (hb4.mono hbA.size))
          clear hb4 hbA hbel2 kb ho
          obtain ⟨yy, hyy⟩ : ∃ z, IntKind.i64.wrap (xa - xc) = z := ⟨_, rfl⟩
          have htb2 := HTB.out
          rw [← IntWalk.i64_left, hyy] at htb2
          rw [hyy]
          have hlen := tightTo_len p n d i
          have hs4 := hbel4.size
          clear hyy
          by_cases hq : yy = y
          · subst hq
            have ht : tightB p n d i = true := by rw [htb2]; simp
            have HSN := hid (tightTo_yes ht)
            clear ht htb2
            iterate 1 (refine seqS_read (fun K hK => ?_); go_simp; refine hK _ ?_; clear hK K)
            refine seqS_nil ?_
            go_wp2_with (first
              | (at_builtin; refine wpList_app rfl (.tmp 50) (.tmp 52) _ rfl w2.heap.size 3 (.int .i64 0) 1 8 Try.underlying49 infoInt rfl (by decide) 3 _ _ _ rfl ho4 [.int .i64 (i : Int)] rfl rfl (by simp [Value.oneCell']) (by unfold maxLen; omega) (by omega) (by omega) ?_; intro g5 gcap w5 ho5 hb5 _ _ _))
            refine ⟨⟨i + 1, by go_num, by omega, ?_, hbel4.trans hb5⟩, by simp [intOf]; omega⟩
            rw [HSN.out, List.length_append, intCells_append]
            exact ho5
          · have ht : tightB p n d i = false := by rw [htb2]; simpa using hq
            have HSN := hid (tightTo_no ht)
            clear ht htb2
            iterate 1 (refine seqS_read (fun K hK => ?_); go_simp; refine hK _ ?_; clear hK K)
            refine seqS_nil ?_
            go_wp2_with fail
            refine ⟨⟨i + 1, by go_num, by omega, ?_, hbel4⟩, by simp [intOf]; omega⟩
            rw [HSN.out]
            exact ho4
        · obtain rfl : i = L := by omega
          go_wp2
          go_ret2
          refine ⟨⟨_, by rw [HE.out]; rfl, ?_⟩, hB2.trans (hbel.mono (by have := hB2.size; omega))⟩
          rw [HLL.out, HL.out]
          exact SlR.mono (SlR.of_owns ho) (by have := hB2.size; omega)
  · have hg' : (decide (PValid p) && decide (FSize n d)) = false := by simpa using hg
    have hE := leastE_two hg'
    have hL : rTightL p n d = [] := by unfold rTightL; rw [hE]; rfl
    have HE := hid hE
    have HL := hid hL
    rw [hg']
    clear hg hg' hE hL
    go_wp2
    go_ret2
    refine ⟨⟨_, by rw [HE.out]; rfl, ?_⟩, hB1⟩
    rw [HL.out]
    exact SlR.nil _ _

end Go.Proofs.Ytmknengmjepdaaa
