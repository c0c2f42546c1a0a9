/- Walk of frac.Blend at two fractions with the weights 1, 1. -/
import Derived.Test.YtmknengmjepdaaaFh
import Derived.Test.YtmknengmjepdaaaYg
namespace Go.Proofs.Ytmknengmjepdaaa
open Go.RowKit
attribute [local irreducible] seqS seqST walkV walkJ

theorem fitE_ok {q : Rat} (h : fitE q = 0) : FV (fitN q) (fitD q) ∧ ((fitN q : Int) : Rat) / ((fitD q : Int) : Rat) = q := by
  have hf : fits q := by
    apply Decidable.byContradiction
    intro hf
    unfold fitE at h
    rw [if_neg hf] at h
    cases h
  unfold fitN fitD
  rw [if_pos hf, if_pos hf]
  have hd := q.den_pos
  refine ⟨⟨by omega, by have := hf.2; omega, by have := hf.1; omega, by have := hf.1; omega, ?_⟩, ?_⟩
  · have := q.reduced
    rw [Int.natAbs_natCast]
    exact this
  · exact (rat_parts q).symm
/-- The sum of the first i. -/
def blS (a b c e : Int) (i : Nat) : Rat := if i = 0 then 0 else if i = 1 then (a : Rat) / (b : Rat) else (a : Rat) / (b : Rat) + (c : Rat) / (e : Rat)

theorem mul_ok {a b : Int} (h : FV a b) (hE : mulE a b 1 1 = 0) : FV (mulN a b 1 1) (mulD a b 1 1) ∧ ((mulN a b 1 1 : Int) : Rat) / ((mulD a b 1 1 : Int) : Rat) = (a : Rat) / (b : Rat) := by
  have h1 : FV a b ∧ FV 1 1 := ⟨h, by decide⟩
  have e : (a : Rat) / (b : Rat) * (((1 : Int) : Rat) / ((1 : Int) : Rat)) = (a : Rat) / (b : Rat) := by
    rw [show ((1 : Int) : Rat) = 1 from rfl]
    grind
  unfold mulE at hE
  unfold mulN mulD
  rw [if_pos h1, e] at hE
  rw [if_pos h1, if_pos h1, e]
  exact fitE_ok hE
theorem add_ok {a b c e : Int} (hE : addE a b c e = 0) : FV (addN a b c e) (addD a b c e) ∧ ((addN a b c e : Int) : Rat) / ((addD a b c e : Int) : Rat) = (a : Rat) / (b : Rat) + (c : Rat) / (e : Rat) := by
  by_cases h1 : FV a b ∧ FV c e
  · unfold addE at hE
    unfold addN addD
    rw [if_pos h1] at hE
    rw [if_pos h1, if_pos h1]
    exact fitE_ok hE
  · unfold addE at hE
    rw [if_neg h1] at hE
    cases hE
theorem div_ok {a b c e : Int} (hE : divE a b c e = 0) : FV (divN a b c e) (divD a b c e) ∧ ((divN a b c e : Int) : Rat) / ((divD a b c e : Int) : Rat) = (a : Rat) / (b : Rat) / ((c : Rat) / (e : Rat)) := by
  by_cases h1 : FV a b ∧ FV c e
  · by_cases hc : c = 0
    · unfold divE at hE
      rw [if_pos h1, if_pos hc] at hE
      cases hE
    · unfold divE at hE
      unfold divN divD
      rw [if_pos h1, if_neg hc] at hE
      rw [if_pos h1, if_pos h1, if_neg hc, if_neg hc]
      exact fitE_ok hE
  · unfold divE at hE
    rw [if_neg h1] at hE
    cases hE
theorem blS_step {a b c e : Int} {i : Nat} (hi : i < 2) : blS a b c e (i + 1) = blS a b c e i + (([(a, b), (c, e)].getD i (0, 0)).1 : Rat) / (([(a, b), (c, e)].getD i (0, 0)).2 : Rat) := by
  match i, hi with
  | 0, _ => show (a : Rat) / (b : Rat) = 0 + (a : Rat) / (b : Rat); grind
  | 1, _ => rfl

set_option maxHeartbeats 4000000 in
set_option maxRecDepth 100000 in
theorem Blend_any (a b c e : Int) (v u : Value) (w : World) (h : FrsR 0 w v [(a, b), (c, e)]) (hu : IntsR 0 w u [1, 1]) :
    Calls Try.prog 53 #[v, u] w fun r w' => (∃ x y z, r = .returned (.tuple #[frV x y, .int .i64 z]) ∧ (z = 0 → FV a b ∧ FV c e ∧ FV x y ∧ ((x : Int) : Rat) / ((y : Int) : Rat) = ((a : Rat) / (b : Rat) + (c : Rat) / (e : Rat)) / (((2 : Int) : Rat) / ((1 : Int) : Rat)))) ∧ Below w.heap.size w w' := by
  have HX := hid h
  obtain ⟨ax, cx, rfl, hcx, hmx, hlx⟩ := h
  obtain ⟨au, cu, rfl, hcu, hmu, hlu⟩ := hu
  unfold maxLen at hmx hmu
  have HLX := hid hlx
  have HLU := hid hlu
  replace hcx : 2 ≤ cx := hcx
  replace hcu : 2 ≤ cu := hcu
  clear hlx hlu
  rw [show [(a, b), (c, e)].length = 2 from rfl] at HX ⊢
  rw [show ([1, 1] : List Int).length = 2 from rfl] at ⊢
  go_enter Try.func53, Try.ntmps53
  go_wp2_with fail
  obtain ⟨S, hS⟩ : ∃ S, w.heap.size = S := ⟨_, rfl⟩
  have HS := hid hS
  have k0 := Blk.new w #[.int .i64 0, .int .i64 0] 26
  have b0 := alloc_below w (.cells #[.int .i64 0, .int .i64 0] 26)
  obtain ⟨w0, hw0⟩ : ∃ w0, w.alloc (.cells #[.int .i64 0, .int .i64 0] 26) = w0 := ⟨_, rfl⟩
  rw [hw0] at k0 b0 ⊢
  rw [hS] at k0 b0 ⊢
  clear hw0 hS
  have hS0 : S ≤ w0.heap.size := Nat.le_of_lt k0.lt
  have hX0 : FrsR 0 w0 (.slice ax 2 cx) [(a, b), (c, e)] := FrsR.below HX.out (by rw [HS.out]; exact b0)
  refine (fvalid_any _ _ _ hX0).mono ?_
  rintro r w1 ⟨rfl, hb1⟩
  have hB := b0.trans (hb1.mono hS0)
  have kr := k0.below hb1
  have hS1 : S ≤ w1.heap.size := Nat.le_trans hS0 hb1.size
  clear hb1 k0 b0 hX0 hS0
  by_cases hv : ∀ f ∈ [(a, b), (c, e)], FV f.1 f.2
  case neg =>
    rw [decide_eq_false hv]
    clear hv
    obtain ⟨wx, hwx⟩ : ∃ wx, w1 = wx := ⟨_, rfl⟩
    have hBx := hB
    rw [hwx] at kr hBx ⊢
    clear hwx hB
    have ez : Hid ((2 : Int) ≠ 0) := hid (by decide)
    have r0 := kr.cell 0
    have r1 := kr.cell 1
    have q0 := kr.look 0 rfl
    have q1 := kr.look 1 rfl
    have rf := kr.frozen
    have bz : Hid (∀ x y : Value, Below S w ((wx.setCell ⟨S, 0, none⟩ x).setCell ⟨S, 1, none⟩ y)) := hid (fun x y => (hBx.setCell (p := ⟨S, 0, none⟩) (by show S ≤ S; omega) x).setCell (p := ⟨S, 1, none⟩) (by show S ≤ S; omega) y)
    go_wp2
    refine bodyPost_ret (v := .tuple #[frV 0 0, .int .i64 2]) ?_ rfl ⟨⟨0, 0, 2, rfl, fun h => absurd h ez.out⟩, by rw [HS.out]; exact bz.out _ _⟩
    simp [results, Try.results53, go_sem, r0, r1]
  rw [decide_eq_true hv]
  have HV := hid hv
  clear hv
  go_wp2_with fail
  go_loopw [6, 38] (fun y x wr => ∃ i : Nat, x = .int .i64 i ∧ i ≤ 2 ∧ y = .int .i64 i ∧ wr = w1) (fun _ x _ => 2 - (intOf x).toNat)
  case atStart => exact ⟨0, rfl, Nat.zero_le _, rfl, rfl⟩
  case round =>
    obtain ⟨i, rfl, hi, rfl, rfl⟩ := hrel
    by_cases hi2 : i < 2
    · have hi3 : (i : Int) < 2 := by omega
      obtain ⟨bu, offu, rfl, hbu, cu0⟩ := int_cell HLU.out (show ([1, 1] : List Int)[i]? = some 1 by match i, hi2 with | 0, _ => rfl | 1, _ => rfl)
      have cu := (hB.cell (p := ⟨bu, offu + i, none⟩) (by rw [← HS.out]; exact hbu)).trans cu0
      have wI : IntKind.i64.wrap ((i : Int) + 1) = (i : Int) + 1 := by rw [IntWalk.i64_left]; unfold wrap64; omega
      clear cu0
      go_wp2_with fail
      exact ⟨⟨i + 1, by go_num, by omega, by go_num, trivial⟩, by simp [intOf]; omega⟩
    · obtain rfl : i = 2 := by omega
      rw [show ((2 : Nat) : Int) = 2 from rfl]
      go_wp2_with fail
      have k9 := Blk.new wr #[.int .i64 0, .int .i64 1] 26
      have b9 := alloc_below wr (.cells #[.int .i64 0, .int .i64 1] 26)
      obtain ⟨w2, hw2⟩ : ∃ w2, wr.alloc (.cells #[.int .i64 0, .int .i64 1] 26) = w2 := ⟨_, rfl⟩
      obtain ⟨B9, hB9⟩ : ∃ B9, wr.heap.size = B9 := ⟨_, rfl⟩
      have hB2 := hB.trans (b9.mono hS1)
      have kr2 := kr.below b9
      have hlr : S < B9 := by rw [← hB9]; exact kr.lt
      rw [hw2] at k9 hB2 kr2 ⊢
      rw [hB9] at k9 ⊢
      clear hw2 b9 hB9 kr hB
      have hS2 : S ≤ w2.heap.size := by have := k9.lt; omega
      go_loopw [59] (fun x wr => ∃ i : Nat, x = .int .i64 i ∧ i ≤ 2 ∧ (∃ tn td, FV tn td ∧ (tn : Rat) / (td : Rat) = blS a b c e i ∧ Hid (Blk wr B9 #[.int .i64 tn, .int .i64 td] 26)) ∧ Below B9 w2 wr) (fun x _ => 2 - (intOf x).toNat)
      case atStart => exact ⟨0, rfl, Nat.zero_le _, ⟨0, 1, by decide, by unfold blS; rw [if_pos rfl]; grind, hid k9⟩, Below.refl _ _⟩
      case round =>
        obtain ⟨i, rfl, hi, ⟨tn, td, hft, hval, HK⟩, hbel⟩ := hrel
        have hBr := hB2.trans (hbel.mono (Nat.le_of_lt hlr))
        have kr3 := kr2.below' hbel hlr
        by_cases hi2 : i < 2
        · have hi3 : (i : Int) < 2 := by omega
          obtain ⟨bu, offu, rfl, hbu, cu0⟩ := int_cell HLU.out (show ([1, 1] : List Int)[i]? = some 1 by match i, hi2 with | 0, _ => rfl | 1, _ => rfl)
          obtain ⟨bx, offx, rfl, hbx, x0, x1⟩ := fr_cell HLX.out (show i < [(a, b), (c, e)].length from hi2)
          have hfv : FV ([(a, b), (c, e)].getD i (0, 0)).1 ([(a, b), (c, e)].getD i (0, 0)).2 := HV.out _ (getD_mem' hi2)
          have hst := blS_step (a := a) (b := b) (c := c) (e := e) hi2
          obtain ⟨fn, hfn⟩ : ∃ z, ([(a, b), (c, e)].getD i (0, 0)).1 = z := ⟨_, rfl⟩
          obtain ⟨fd, hfd⟩ : ∃ z, ([(a, b), (c, e)].getD i (0, 0)).2 = z := ⟨_, rfl⟩
          rw [hfn] at x0
          rw [hfd] at x1
          rw [hfn, hfd] at hfv hst
          have HFV := hid hfv
          have HST := hid hst
          have HVAL := hid hval
          have HFT := hid hft
          have y0 := (hBr.cell (p := ⟨bx, offx + i * 2, none⟩) (by rw [← HS.out]; exact hbx)).trans x0
          have y1 := (hBr.cell (p := ⟨bx, offx + i * 2 + 1, none⟩) (by rw [← HS.out]; exact hbx)).trans x1
          have MU := hid (fun w => fMul_any fn fd 1 1 w)
          have HMO := hid (fun h => mul_ok HFV.out h)
          obtain ⟨s1, hs1⟩ : ∃ z, mulN fn fd 1 1 = z := ⟨_, rfl⟩
          obtain ⟨t1, ht1⟩ : ∃ z, mulD fn fd 1 1 = z := ⟨_, rfl⟩
          obtain ⟨u1, hu1⟩ : ∃ z, mulE fn fd 1 1 = z := ⟨_, rfl⟩
          rw [hs1, ht1, hu1] at MU HMO
          unfold frV at MU
          clear hfn hfd hs1 ht1 hu1 hfv hst hval hft x0 x1
          have hcu := fun W (hb : Below S w W) => (hb.cell (p := ⟨bu, offu + i, none⟩) (by rw [← HS.out]; exact hbu)).trans cu0
          have HCU := hid hcu
          clear hcu cu0
          go_wp2_with fail
          have kb := Blk.new wr #[.int .i64 fn, .int .i64 fd] 26
          have hbA := alloc_below wr (.cells #[.int .i64 fn, .int .i64 fd] 26)
          obtain ⟨W, hw2⟩ : ∃ w2, wr.alloc (.cells #[.int .i64 fn, .int .i64 fd] 26) = w2 := ⟨_, rfl⟩
          obtain ⟨H, hH⟩ : ∃ B, wr.heap.size = B := ⟨_, rfl⟩
          have hlt9 : B9 < wr.heap.size := HK.out.lt
          have HKW := hid (HK.out.below hbA)
          have krW := kr3.below hbA
          have hSr : S ≤ wr.heap.size := by omega
          have hBW := hBr.trans (hbA.mono hSr)
          have hbelW := hbel.trans (hbA.mono (Nat.le_of_lt hlt9))
          have hWs : wr.heap.size ≤ W.heap.size := by rw [← hw2]; exact hbA.size
          rw [hw2] at kb HKW krW hBW hbelW ⊢
          rw [hH] at kb hlt9 hSr hWs ⊢
          clear hw2 hH hbA y0 y1 HK kr3 hBr hbel
          have hd := (Below.refl W.heap.size W).drew
          have z0 := fun x : SubT (Below W.heap.size) W.drew => (kb.below (hd.trans x.b)).look 0 rfl
          have z1 := fun x : SubT (Below W.heap.size) W.drew => (kb.below (hd.trans x.b)).look 1 rfl
          have z2 := fun x : SubT (Below W.heap.size) W.drew => HCU.out x.w (hBW.trans ((hd.trans x.b).mono (Nat.le_trans hSr hWs)))
          refine wp_walkJ (T := Below (W.heap.size)) (belowV_pre _) (.rd 0 (.rd 1 (.rd 2 (.rd 3 (.rd 4 (.rd 5 (.inv [6, 7, 8, 9, 10, 11, 12]))))))) (by kernel_rfl) rfl (by kernel_rfl) (by kernel_rfl) ?_
          iterate 6 (refine walkJ_rd rfl (fun K hK => ?_); go_simp; refine hK _ ?_; clear hK K)
          clear z0 z1 z2
          obtain ⟨W1, hW1⟩ : ∃ W1, W.drew = W1 := ⟨_, rfl⟩
          have hs9 : W.heap.size = W1.heap.size := by rw [← hW1]; rfl
          rw [hW1] at hd ⊢
          clear hW1
          have HS9 := hid hs9
          clear hs9
          refine walkJ_inv (CallI W.heap.size W 6 7 8 9 10 11 12 (.tuple #[.agg #[.int .i64 s1, .int .i64 t1], .int .i64 u1]) (.agg #[.int .i64 s1, .int .i64 t1]) (.int .i64 u1) 26 2 #[.int .i64 s1, .int .i64 t1]) [(6, 71), (7, 64), (8, 72), (9, 73), (10, 12), (12, 13)] (by kernel_rfl) ?_ ?_ ?_
          · exact ⟨hd, fun h => (by cases h), fun h => (by cases h), fun h => (by cases h), fun h => (by cases h), fun h => (by cases h), fun h => (by cases h)⟩
          · refine stepsI_cons [] [7, 8, 9, 11, 12] [] rfl (by kernel_rfl) (by kernel_rfl) (by kernel_rfl) (fun K l V x hx hl hds hn hI hK => ?_) ?_
            · go_simp
              have hsx : W.heap.size ≤ x.heap.size := by rw [HS9.out]; exact hx.size
              refine (MU.out _).mono ?_
              rintro e w9 ⟨rfl, hb9⟩
              refine ⟨_, rfl, hK _ _ (hb9.mono hsx) ?_⟩
              exact ⟨hI.b.trans (hb9.mono hsx), fun _ => rfl, fun h => hI.m h, fun h => hI.e0 h, fun h => hI.e1 h, fun h => (hI.a h).below hb9, fun h => hI.z h⟩
            refine stepsI_cons [6] [8, 9, 11, 12] [(6, 71)] rfl (by kernel_rfl) (by kernel_rfl) (by kernel_rfl) (fun K l V x hx hl hds hn hI hK => ?_) ?_
            · go_simp
              refine hK _ _ (Below.refl _ _) ?_
              exact ⟨hI.b, fun h => hI.c h, fun _ => hI.c hl.1, fun h => hI.e0 h, fun h => hI.e1 h, fun h => hI.a h, fun h => hI.z h⟩
            refine stepsI_cons [6, 7] [11, 12] [(6, 71), (7, 64)] rfl (by kernel_rfl) (by kernel_rfl) (by kernel_rfl) (fun K l V x hx hl hds hn hI hK => ?_) ?_
            · simp only [putsP, hI.m hl.2.1]
              go_simp
              refine hK _ _ (Below.refl _ _) ?_
              exact ⟨hI.b, fun h => hI.c h, fun h => hI.m h, fun _ => rfl, fun h => hI.e1 h, fun h => hI.a h, fun h => hI.z h⟩
            refine stepsI_cons [6, 7] [12] [(6, 71), (7, 64)] rfl (by kernel_rfl) (by kernel_rfl) (by kernel_rfl) (fun K l V x hx hl hds hn hI hK => ?_) ?_
            · simp only [putsP, hI.m hl.2.1]
              go_simp
              refine hK _ _ (Below.refl _ _) ?_
              exact ⟨hI.b, fun h => hI.c h, fun h => hI.m h, fun h => hI.e0 h, fun _ => rfl, fun h => hI.a h, fun h => hI.z h⟩
            refine stepsI_cons [] [11, 12] [] rfl (by kernel_rfl) (by kernel_rfl) (by kernel_rfl) (fun K l V x hx hl hds hn hI hK => ?_) ?_
            · go_simp
              have hsx : W.heap.size ≤ x.heap.size := by rw [HS9.out]; exact hx.size
              have hb9 := alloc_below x (.cells #[.int .i64 0, .int .i64 0] 26)
              refine hK _ _ (hb9.mono hsx) ?_
              exact ⟨hI.b.trans (hb9.mono hsx), fun h => hI.c h, fun h => hI.m h, fun h => hI.e0 h, fun h => hI.e1 h, fun _ => VarI.new x _ _ hsx rfl hds.1, fun h => hI.z h⟩
            refine stepsI_cons [6, 7, 8, 10] [12] [(6, 71), (7, 64), (8, 72), (10, 12)] rfl (by kernel_rfl) (by kernel_rfl) (by kernel_rfl) (fun K l V x hx hl hds hn hI hK => ?_) ?_
            · obtain ⟨g, cs, e1, e2, e3, e4, -⟩ := hI.a hl.2.2.2.1
              have hb9 := row_below (Below.refl W.heap.size x) e2 #[.int .i64 s1, .int .i64 t1]
              refine ⟨rfl, gives_store_row 26 (.tmp 12) (.tmp 72) rfl g _ e1 (hI.e0 hl.2.2.1) 26 cs e3 pinfoFrac e4 (by simp [Value.oneCell']) (hK _ _ hb9 ?_)⟩
              refine ⟨hI.b.trans hb9, fun h => hI.c h, fun h => hI.m h, fun h => hI.e0 h, fun h => hI.e1 h, fun _ => ?_, fun h => hI.z h⟩
              show VarI _ _ (V 10) _ _ _ _
              rw [e1]
              exact VarI.filled e2 e3 rfl
            refine stepsI_cons [6, 7, 8, 9, 10, 11] [] [(6, 71), (7, 64), (8, 72), (9, 73), (10, 12)] rfl (by kernel_rfl) (by kernel_rfl) (by kernel_rfl) (fun K l V x hx hl hds hn hI hK => ?_) ?_
            · simp only [putsP, hI.e1 hl.2.2.2.1]
              go_simp
              refine hK _ _ (Below.refl _ _) ?_
              exact ⟨hI.b, fun h => hI.c h, fun h => hI.m h, fun h => hI.e0 h, fun h => hI.e1 h, fun h => hI.a h, fun _ => rfl⟩
            exact stepsI_nil
          intro V W2 hW2 hI
          obtain ⟨g, e1, e2, e3⟩ := (hI.a rfl).out
          have q10 := hI.c rfl
          have q11 := hI.m rfl
          have q12 := hI.e0 rfl
          have q13 := hI.e1 rfl
          have q16 := hI.z rfl
          have hb2' := hI.b
          clear hI
          simp only [putsP, q10, q11, q12, q13, q16, e1]
          go_simp
          clear q10 q11 q12 q13 q16 e1
          have HK2 := hid (HKW.out.below hb2')
          have kr2' := krW.below hb2'
          have hBW2 := hBW.trans (hb2'.mono (Nat.le_trans hSr hWs))
          have hbel2 := hbelW.trans (hb2'.mono (by omega))
          clear HKW krW hBW hbelW hb2' kb hd hW2
          by_cases hu1 : u1 = 0
          case neg =>
            obtain ⟨wx, hwx⟩ : ∃ wx, W2 = wx := ⟨_, rfl⟩
            have kr := kr2'
            have hBx := hBW2
            rw [hwx] at kr hBx ⊢
            have hu2 : ¬ u1 = 0 := hu1
            have HU := hid hu1
            clear hwx hu1
            have r0 := kr.cell 0
            have r1 := kr.cell 1
            have q0 := kr.look 0 rfl
            have q1 := kr.look 1 rfl
            have rf := kr.frozen
            have bz : Hid (∀ x y : Value, Below S w ((wx.setCell ⟨S, 0, none⟩ x).setCell ⟨S, 1, none⟩ y)) := hid (fun x y => (hBx.setCell (p := ⟨S, 0, none⟩) (by show S ≤ S; omega) x).setCell (p := ⟨S, 1, none⟩) (by show S ≤ S; omega) y)
            go_wp2
            refine bodyPost_ret (v := .tuple #[frV 0 0, .int .i64 u1]) ?_ rfl ⟨⟨0, 0, u1, rfl, fun h => absurd h HU.out⟩, by rw [HS.out]; exact bz.out _ _⟩
            simp [results, Try.results53, go_sem, r0, r1]
          subst hu1
          have hmo := HMO.out rfl
          have HMO1 := hid hmo
          have AD := hid (fun w => fAdd_any tn td s1 t1 w)
          have HAO := hid (fun h => add_ok (a := tn) (b := td) (c := s1) (e := t1) h)
          obtain ⟨s2, hs2⟩ : ∃ z, addN tn td s1 t1 = z := ⟨_, rfl⟩
          obtain ⟨t2, ht2⟩ : ∃ z, addD tn td s1 t1 = z := ⟨_, rfl⟩
          obtain ⟨u2, hu2⟩ : ∃ z, addE tn td s1 t1 = z := ⟨_, rfl⟩
          rw [hs2, ht2, hu2] at AD HAO
          unfold frV at AD
          clear hmo hs2 ht2 hu2
          have c0 := HK2.out.look 0 rfl
          have c1 := HK2.out.look 1 rfl
          have c2 := e3.look 0 rfl
          have c3 := e3.look 1 rfl
          go_wp2_with fail
          refine (AD.out _).mono ?_
          rintro r w9 ⟨rfl, hb9⟩
          have HK3 := hid (HK2.out.below hb9)
          have kr3 := kr2'.below hb9
          have hS9 : S ≤ W2.heap.size := by have := kr2'.lt; omega
          have hB9 : B9 ≤ W2.heap.size := by have := HK2.out.lt; omega
          have hBW3 := hBW2.trans (hb9.mono hS9)
          have hbel3 := hbel2.trans (hb9.mono hB9)
          clear c0 c1 c2 c3 HK2 kr2' hBW2 hbel2 e3 e2
          have c0 := HK3.out.look 0 rfl
          have c1 := HK3.out.look 1 rfl
          have cf := HK3.out.frozen
          have HK4 := hid ((HK3.out.set 0 (.int .i64 s2)).set 1 (.int .i64 t2))
          have kr4 := (kr3.other (p := ⟨B9, 0, none⟩) (Nat.ne_of_lt hlr) (.int .i64 s2)).other (p := ⟨B9, 1, none⟩) (Nat.ne_of_lt hlr) (.int .i64 t2)
          have hB4 := (hBW3.setCell (p := ⟨B9, 0, none⟩) (Nat.le_of_lt hlr) (.int .i64 s2)).setCell (p := ⟨B9, 1, none⟩) (Nat.le_of_lt hlr) (.int .i64 t2)
          have hbel4 := (hbel3.setCell (p := ⟨B9, 0, none⟩) (Nat.le_refl _) (.int .i64 s2)).setCell (p := ⟨B9, 1, none⟩) (Nat.le_refl _) (.int .i64 t2)
          clear hb9 kr3 hBW3 hbel3
          by_cases hu2 : u2 = 0
          case neg =>
            have hu3 : ¬ u2 = 0 := hu2
            have HU := hid hu2
            clear hu2
            have r0 := kr4.cell 0
            have r1 := kr4.cell 1
            have q0 := kr4.look 0 rfl
            have q1 := kr4.look 1 rfl
            have rf := kr4.frozen
            have bz := hid (fun x y : Value => (hB4.setCell (p := ⟨S, 0, none⟩) (Nat.le_refl _) x).setCell (p := ⟨S, 1, none⟩) (Nat.le_refl _) y)
            go_wp2
            refine bodyPost_ret (v := .tuple #[frV 0 0, .int .i64 u2]) ?_ rfl ⟨⟨0, 0, u2, rfl, fun h => absurd h HU.out⟩, by rw [HS.out]; exact bz.out _ _⟩
            simp [results, Try.results53, go_sem, r0, r1]
          subst hu2
          have hao := HAO.out rfl
          rw [HMO1.out.2, HVAL.out, ← HST.out] at hao
          have HAO1 := hid hao
          clear hao
          go_wp2
          go_roundw
          case rel => exact ⟨i + 1, by go_num, by omega, ⟨s2, t2, HAO1.out.1, HAO1.out.2, HK4⟩, hbel4⟩
          case measure => simp [intOf]; omega
        · obtain rfl : i = 2 := by omega
          have DV := hid (fun w => fDiv_any tn td 2 1 w)
          have HDO := hid (fun h => div_ok (a := tn) (b := td) (c := 2) (e := 1) h)
          rw [hval] at HDO
          obtain ⟨s2, hs2⟩ : ∃ z, divN tn td 2 1 = z := ⟨_, rfl⟩
          obtain ⟨t2, ht2⟩ : ∃ z, divD tn td 2 1 = z := ⟨_, rfl⟩
          obtain ⟨u2, hu2⟩ : ∃ z, divE tn td 2 1 = z := ⟨_, rfl⟩
          rw [hs2, ht2, hu2] at DV HDO
          clear hs2 ht2 hu2 hval hft
          have c0 := HK.out.look 0 rfl
          have c1 := HK.out.look 1 rfl
          go_wp2_with fail
          refine (DV.out _).mono ?_
          rintro r w9 ⟨rfl, hb9⟩
          have kr4 := kr3.below hb9
          have hS9 : S ≤ wr.heap.size := by have := kr3.lt; omega
          have hB4 := hBr.trans (hb9.mono hS9)
          clear c0 c1 HK kr3 hBr hb9
          unfold frV
          have r0 := kr4.cell 0
          have r1 := kr4.cell 1
          have q0 := kr4.look 0 rfl
          have q1 := kr4.look 1 rfl
          have rf := kr4.frozen
          have bz := hid (fun x y : Value => (hB4.setCell (p := ⟨S, 0, none⟩) (Nat.le_refl _) x).setCell (p := ⟨S, 1, none⟩) (Nat.le_refl _) y)
          go_wp2
          refine bodyPost_ret (v := .tuple #[frV s2 t2, .int .i64 u2]) ?_ rfl ⟨⟨s2, t2, u2, rfl, fun h => ?_⟩, by rw [HS.out]; exact bz.out _ _⟩
          · simp [results, Try.results53, go_sem, r0, r1, frV]
          · have hd := HDO.out h
            exact ⟨HV.out (a, b) (by simp), HV.out (c, e) (by simp), hd.1, hd.2⟩

end Go.Proofs.Ytmknengmjepdaaa
