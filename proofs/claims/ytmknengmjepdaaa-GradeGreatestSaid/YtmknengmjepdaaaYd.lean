/- Walk of grade.Slack. -/
import Derived.Test.YtmknengmjepdaaaYg
namespace Go.Proofs.Ytmknengmjepdaaa
open Go.RowKit
attribute [local irreducible] seqS seqST walkV walkJ

set_option maxHeartbeats 8000000 in
set_option maxRecDepth 100000 in
theorem gSlack_any (p : Pat) (n d : Int) (l : List (Int × Int)) (v vx : Value) (w : World) (h : PatF 0 w v p) (hx : FrsR 0 w vx l) :
    Calls Try.prog 64 #[v, .agg #[.int .i64 n, .int .i64 d], vx] w fun e w' => (∃ vl, e = .returned (.tuple #[vl, .int .i64 (slE p n d l)]) ∧ FrsR w.heap.size w' vl (slL p n d l)) ∧ Below w.heap.size w w' := by
  obtain ⟨ao, cap, rfl, hcap, hmax, hc⟩ := h.shape
  have HX := hid hx
  obtain ⟨ax, cx, rfl, hcx, hmx, hlx⟩ := hx
  unfold maxLen at hmax hmx
  obtain ⟨L, hL⟩ : ∃ L, p.rules.length = L := ⟨_, rfl⟩
  have HL := hid hL
  have HC := hid hc
  have HLX := hid hlx
  rw [hL] at hcap h ⊢
  obtain ⟨bb, hbb⟩ : ∃ b, slL p n d l = b := ⟨_, rfl⟩
  obtain ⟨ee, hee⟩ : ∃ b, slE p n d l = b := ⟨_, rfl⟩
  rw [hbb, hee]
  have HBB := hid hbb
  have HEE := hid hee
  clear hL hbb hee hc hlx
  go_enter Try.func64, Try.ntmps64
  go_wp2_with fail
  obtain ⟨w0, hw0, k0, k1, hB, hsz⟩ := one_new w #[.int .i64 p.n, .slice ao L cap] #[.int .i64 n, .int .i64 d] 33 26
  rw [hw0]
  clear hw0
  have h0 := h.below hB
  have c0 := k0.look 0 rfl
  have c1 := k0.look 1 rfl
  go_wp2_with fail
  refine (gValid_any p _ _ h0).mono ?_
  rintro e w1 ⟨rfl, hb1⟩
  clear c0 c1
  have hB1 := hB.trans (hb1.mono hB.size)
  by_cases hp : PValid p
  case neg =>
    have HNO := hid (slack_two (n := n) (d := d) (l := l) (fun hh => hp hh.1))
    rw [HBB.out, HEE.out] at HNO
    rw [decide_eq_false hp]
    clear hp
    go_wp2
    go_ret2
    exact ⟨⟨_, by rw [HNO.out.1]; rfl, by rw [HNO.out.2]; exact SlR.nil _ _⟩, hB1⟩
  rw [decide_eq_true hp]
  have HP := hid hp
  clear hp
  have k01 := k0.below hb1
  have k11 := k1.below hb1
  have c0 := k11.look 0 rfl
  have c1 := k11.look 1 rfl
  go_wp2_with fail
  refine (sized_any n d _).mono ?_
  rintro e w2 ⟨rfl, hb2⟩
  clear c0 c1
  have hB2 := hB1.trans (hb2.mono hB1.size)
  by_cases hs : FSize n d
  case neg =>
    have HNO := hid (slack_two (p := p) (l := l) (fun hh => hs hh.2.1))
    rw [HBB.out, HEE.out] at HNO
    rw [decide_eq_false hs]
    clear hs
    go_wp2
    go_ret2
    exact ⟨⟨_, by rw [HNO.out.1]; rfl, by rw [HNO.out.2]; exact SlR.nil _ _⟩, hB2⟩
  rw [decide_eq_true hs]
  have HF := hid hs
  clear hs
  have k02 := k01.below hb2
  have k12 := k11.below hb2
  have c0 := k02.look 0 rfl
  have c1 := k02.look 1 rfl
  go_wp2_with fail
  refine (asg_any p l _ _ _ (HX.out.below hB2)).mono ?_
  rintro e w3 ⟨rfl, hb3⟩
  clear c0 c1
  have hB3 := hB2.trans (hb3.mono hB2.size)
  by_cases ha : AsgP p l
  case neg =>
    have HNO := hid (slack_two (n := n) (d := d) (p := p) (l := l) (fun hh => ha hh.2.2))
    rw [HBB.out, HEE.out] at HNO
    rw [decide_eq_false ha]
    clear ha
    go_wp2
    go_ret2
    exact ⟨⟨_, by rw [HNO.out.1]; rfl, by rw [HNO.out.2]; exact SlR.nil _ _⟩, hB3⟩
  rw [decide_eq_true ha]
  have HA := hid ha
  have HG := hid (show PValid p ∧ FSize n d ∧ AsgP p l from ⟨HP.out, HF.out, ha⟩)
  have k03 := k02.below hb3
  have k13 := k12.below hb3
  obtain ⟨N, hN⟩ : ∃ N : Nat, p.n = N := ⟨p.n.toNat, by have := HP.out.1; omega⟩
  have hN1 : 1 ≤ N := by have := HP.out.1; omega
  have hN16 : N ≤ 16 := by have := HP.out.2.1; omega
  have HN := hid hN
  have hL64 : L ≤ 64 := by have := HP.out.2.2.1; have := HL.out; omega
  have hlN : l.length = N := by have := ha.1; omega
  obtain ⟨bx, offx, rfl, hbx, x0, x1⟩ := fr_cell HLX.out (show 0 < l.length by omega)
  have hgw : ∀ (i : Nat) (W : World), i < N → Below w.heap.size w W → W.cell? ⟨bx, offx + i * 2, none⟩ = some (.int .i64 (l.getD i (0, 0)).1) ∧ W.cell? ⟨bx, offx + i * 2 + 1, none⟩ = some (.int .i64 (l.getD i (0, 0)).2) := by
    intro i W hi hb
    obtain ⟨bx', offx', he, hb', y0, y1⟩ := fr_cell HLX.out (show i < l.length by omega)
    cases he
    exact ⟨(hb.cell (p := ⟨bx, offx + i * 2, none⟩) hb').trans y0, (hb.cell (p := ⟨bx, offx + i * 2 + 1, none⟩) hb').trans y1⟩
  have HGW := hid hgw
  rw [hlN] at hcx ⊢
  have hsS := hB3.size
  have hS1 := k13.lt
  clear ha hgw x0 x1 hN hlN hB1 hB2 hb1 hb2 hb3 k0 k1 k01 k11 k02 k12 hB h0
  have c1 := k03.look 1 rfl
  go_wp2_with fail
  clear c1
  go_loopw [8, 32] (fun y x wr => ∃ i : Nat, x = .int .i64 i ∧ i ≤ L ∧ (∀ r ∈ p.rules.take i, slkE n d l r = 0) ∧ wr.ownsRow w3.heap.size 26 2 y i (frCells ((p.rules.take i).map (slkF n d l))) ∧ Below w3.heap.size w3 wr) (fun _ x _ => L - (intOf x).toNat)
  case atStart => exact ⟨0, rfl, Nat.zero_le _, by simp, World.ownsRow_nil _ _ _ _, Below.refl _ _⟩
  case round =>
    obtain ⟨i, rfl, hi, hall, ho, hbel⟩ := hrel
    have HALL := hid hall
    have HO := hid ho
    clear hall ho
    by_cases hiL : i < L
    · have hiL2 : (i : Int) < (L : Int) := by omega
      obtain ⟨r, hr⟩ := ex_rule (l := p.rules) (i := i) (by rw [HL.out]; exact hiL)
      have hrv := HP.out.2.2.2 r (rule_mem hr)
      obtain ⟨b, off, rfl, hb, d0, d1, d2, d3⟩ := ru_cell HC.out hr
      have hbw := hB3.trans (hbel.mono hB3.size)
      have e0 := (hbw.cell (p := ⟨b, off + i * 4, none⟩) hb).trans d0
      have e1 := (hbw.cell (p := ⟨b, off + i * 4 + 1, none⟩) hb).trans d1
      have e2 := (hbw.cell (p := ⟨b, off + i * 4 + 2, none⟩) hb).trans d2
      have e3 := (hbw.cell (p := ⟨b, off + i * 4 + 3, none⟩) hb).trans d3
      have AT := hid (fun w => at_any p.n r n d w hrv HF.out)
      obtain ⟨A, hA⟩ : ∃ A : Nat, r.a = A := ⟨r.a.toNat, by have := hrv.1; omega⟩
      obtain ⟨C, hC⟩ : ∃ A : Nat, r.b = A := ⟨r.b.toNat, by have := hrv.2.2.1; omega⟩
      have hAN : A < N := by have := hrv.2.1; have := HN.out; omega
      have hCN : C < N := by have := hrv.2.2.2.1; have := HN.out; omega
      have hsE : slkE n d l r = if subE (l.getD A (0, 0)).1 (l.getD A (0, 0)).2 (l.getD C (0, 0)).1 (l.getD C (0, 0)).2 = 0 then subE (subN (l.getD A (0, 0)).1 (l.getD A (0, 0)).2 (l.getD C (0, 0)).1 (l.getD C (0, 0)).2) (subD (l.getD A (0, 0)).1 (l.getD A (0, 0)).2 (l.getD C (0, 0)).1 (l.getD C (0, 0)).2) (newN (wt r n d) d) (newD (wt r n d) d) else subE (l.getD A (0, 0)).1 (l.getD A (0, 0)).2 (l.getD C (0, 0)).1 (l.getD C (0, 0)).2 := by
        unfold slkE
        rw [hA, hC, Int.toNat_natCast, Int.toNat_natCast]
      have hsF : slkF n d l r = (subN (subN (l.getD A (0, 0)).1 (l.getD A (0, 0)).2 (l.getD C (0, 0)).1 (l.getD C (0, 0)).2) (subD (l.getD A (0, 0)).1 (l.getD A (0, 0)).2 (l.getD C (0, 0)).1 (l.getD C (0, 0)).2) (newN (wt r n d) d) (newD (wt r n d) d), subD (subN (l.getD A (0, 0)).1 (l.getD A (0, 0)).2 (l.getD C (0, 0)).1 (l.getD C (0, 0)).2) (subD (l.getD A (0, 0)).1 (l.getD A (0, 0)).2 (l.getD C (0, 0)).1 (l.getD C (0, 0)).2) (newN (wt r n d) d) (newD (wt r n d) d)) := by
        unfold slkF
        rw [hA, hC, Int.toNat_natCast, Int.toNat_natCast]
      have hgA := fun W hb => HGW.out A W hAN hb
      have hgC := fun W hb => HGW.out C W hCN hb
      have hyb := wt_le hrv HF.out
      obtain ⟨na, hna⟩ : ∃ z, (l.getD A (0, 0)).1 = z := ⟨_, rfl⟩
      obtain ⟨da, hda⟩ : ∃ z, (l.getD A (0, 0)).2 = z := ⟨_, rfl⟩
      obtain ⟨nb, hnb⟩ : ∃ z, (l.getD C (0, 0)).1 = z := ⟨_, rfl⟩
      obtain ⟨db, hdb⟩ : ∃ z, (l.getD C (0, 0)).2 = z := ⟨_, rfl⟩
      rw [hna, hda] at hgA
      rw [hnb, hdb] at hgC
      rw [hna, hda, hnb, hdb] at hsE hsF
      have SB1 := hid (fun w => fSub_any na da nb db w)
      obtain ⟨s1, hs1⟩ : ∃ z, subN na da nb db = z := ⟨_, rfl⟩
      obtain ⟨t1, ht1⟩ : ∃ z, subD na da nb db = z := ⟨_, rfl⟩
      obtain ⟨u1, hu1⟩ : ∃ z, subE na da nb db = z := ⟨_, rfl⟩
      rw [hs1, ht1, hu1] at SB1 hsE
      rw [hs1, ht1] at hsF
      obtain ⟨y, hy⟩ : ∃ z, wt r n d = z := ⟨_, rfl⟩
      rw [hy] at hsE hsF AT hyb
      have NEW := hid (fun w => fNew_any y d w (by omega) (by omega) (by have := HF.out.1.1; omega) (by have := HF.out.1.2.1; omega))
      obtain ⟨wn, hwn⟩ : ∃ z, newN y d = z := ⟨_, rfl⟩
      obtain ⟨wd, hwd⟩ : ∃ z, newD y d = z := ⟨_, rfl⟩
      obtain ⟨we, hwe⟩ : ∃ z, newE y d = z := ⟨_, rfl⟩
      rw [hwn, hwd, hwe] at NEW
      rw [hwn, hwd] at hsE hsF
      have SB2 := hid (fun w => fSub_any s1 t1 wn wd w)
      obtain ⟨s2, hs2⟩ : ∃ z, subN s1 t1 wn wd = z := ⟨_, rfl⟩
      obtain ⟨t2, ht2⟩ : ∃ z, subD s1 t1 wn wd = z := ⟨_, rfl⟩
      obtain ⟨u2, hu2⟩ : ∃ z, subE s1 t1 wn wd = z := ⟨_, rfl⟩
      rw [hs2, ht2, hu2] at SB2
      rw [hu2] at hsE
      rw [hs2, ht2] at hsF
      unfold frV at SB1 SB2 NEW
      obtain ⟨rc, hrc⟩ : ∃ z, r.c = z := ⟨_, rfl⟩
      obtain ⟨rd, hrd⟩ : ∃ z, r.d = z := ⟨_, rfl⟩
      rw [hA, hC, hrc, hrd] at AT
      rw [hA] at e0
      rw [hC] at e1
      rw [hrc] at e2
      rw [hrd] at e3
      have hA2 : (A : Int) < (N : Int) := by omega
      have hC2 : (C : Int) < (N : Int) := by omega
      have HSE := hid hsE
      have HSF := hid hsF
      have HRR := hid hr
      have HGA := hid hgA
      have HGC := hid hgC
      clear hrv hA hC hrc hrd hy hsE hsF hr hgA hgC hna hda hnb hdb hs1 ht1 hu1 hs2 ht2 hu2 hwn hwd hwe hyb d0 d1 d2 d3
      go_wp2_with fail
      clear e0 e1 e2 e3
      have kb := Blk.new wr #[.int .i64 (A : Int), .int .i64 (C : Int), .int .i64 rc, .int .i64 rd] 92
      have hbA := alloc_below wr (.cells #[.int .i64 (A : Int), .int .i64 (C : Int), .int .i64 rc, .int .i64 rd] 92)
      obtain ⟨W, hw2⟩ : ∃ w2, wr.alloc (.cells #[.int .i64 (A : Int), .int .i64 (C : Int), .int .i64 rc, .int .i64 rd] 92) = w2 := ⟨_, rfl⟩
      rw [hw2] at kb hbA ⊢
      clear hw2
      obtain ⟨H, hH⟩ : ∃ B, wr.heap.size = B := ⟨_, rfl⟩
      have HH := hid hH
      rw [hH] at kb ⊢
      clear hH
      have hbelW := hbel.trans (hbA.mono hbel.size)
      have HWS := hid hbA.size
      have hBW := hB3.trans (hbelW.mono hB3.size)
      have k1W := k13.below hbelW
      have HOW := hid (owns_below HO.out hbA)
      have hd := (Below.refl W.heap.size W).drew
      have z0 := fun x : SubT (Below W.heap.size) W.drew => (kb.below (hd.trans x.b)).look 0 rfl
      have z1 := fun x : SubT (Below W.heap.size) W.drew => (kb.below (hd.trans x.b)).look 1 rfl
      have z6 := fun x : SubT (Below W.heap.size) W.drew => (HGA.out x.w (hBW.trans ((hd.trans x.b).mono hBW.size))).1
      have z7 := fun x : SubT (Below W.heap.size) W.drew => (HGA.out x.w (hBW.trans ((hd.trans x.b).mono hBW.size))).2
      have z8 := fun x : SubT (Below W.heap.size) W.drew => (HGC.out x.w (hBW.trans ((hd.trans x.b).mono hBW.size))).1
      have z9 := fun x : SubT (Below W.heap.size) W.drew => (HGC.out x.w (hBW.trans ((hd.trans x.b).mono hBW.size))).2
      refine wp_walkJ (T := Below (W.heap.size)) (belowV_pre _) (.rd 0 (.rd 1 (.rd 2 (.rd 3 (.rd 4 (.rd 5 (.rd 6 (.rd 7 (.rd 8 (.rd 9 (.inv [10, 11, 12, 13, 14, 15, 16]))))))))))) (by kernel_rfl) rfl (by kernel_rfl) (by kernel_rfl) ?_
      iterate 10 (refine walkJ_rd rfl (fun K hK => ?_); go_simp; refine hK _ ?_; clear hK K)
      clear z0 z1 z6 z7 z8 z9
      obtain ⟨W1, hW1⟩ : ∃ W1, W.drew = W1 := ⟨_, rfl⟩
      have hs9 : W.heap.size = W1.heap.size := by rw [← hW1]; rfl
      rw [hW1] at hd ⊢
      clear hW1
      have HS9 := hid hs9
      clear hs9
      refine walkJ_inv (CallI W.heap.size W 10 11 12 13 14 15 16 (.tuple #[.agg #[.int .i64 s1, .int .i64 t1], .int .i64 u1]) (.agg #[.int .i64 s1, .int .i64 t1]) (.int .i64 u1) 26 2 #[.int .i64 s1, .int .i64 t1]) [(10, 47), (11, 36), (12, 48), (13, 49), (14, 11), (16, 12)] (by kernel_rfl) ?_ ?_ ?_
      · exact ⟨hd, fun h => (by cases h), fun h => (by cases h), fun h => (by cases h), fun h => (by cases h), fun h => (by cases h), fun h => (by cases h)⟩
      · refine stepsI_cons [] [11, 12, 13, 15, 16] [] rfl (by kernel_rfl) (by kernel_rfl) (by kernel_rfl) (fun K l V x hx hl hds hn hI hK => ?_) ?_
        · go_simp
          have hsx : W.heap.size ≤ x.heap.size := by rw [HS9.out]; exact hx.size
          refine (SB1.out _).mono ?_
          rintro e w9 ⟨rfl, hb9⟩
          refine ⟨_, rfl, hK _ _ (hb9.mono hsx) ?_⟩
          exact ⟨hI.b.trans (hb9.mono hsx), fun _ => rfl, fun h => hI.m h, fun h => hI.e0 h, fun h => hI.e1 h, fun h => (hI.a h).below hb9, fun h => hI.z h⟩
        refine stepsI_cons [10] [12, 13, 15, 16] [(10, 47)] rfl (by kernel_rfl) (by kernel_rfl) (by kernel_rfl) (fun K l V x hx hl hds hn hI hK => ?_) ?_
        · go_simp
          refine hK _ _ (Below.refl _ _) ?_
          exact ⟨hI.b, fun h => hI.c h, fun _ => hI.c hl.1, fun h => hI.e0 h, fun h => hI.e1 h, fun h => hI.a h, fun h => hI.z h⟩
        refine stepsI_cons [10, 11] [15, 16] [(10, 47), (11, 36)] rfl (by kernel_rfl) (by kernel_rfl) (by kernel_rfl) (fun K l V x hx hl hds hn hI hK => ?_) ?_
        · simp only [putsP, hI.m hl.2.1]
          go_simp
          refine hK _ _ (Below.refl _ _) ?_
          exact ⟨hI.b, fun h => hI.c h, fun h => hI.m h, fun _ => rfl, fun h => hI.e1 h, fun h => hI.a h, fun h => hI.z h⟩
        refine stepsI_cons [10, 11] [16] [(10, 47), (11, 36)] rfl (by kernel_rfl) (by kernel_rfl) (by kernel_rfl) (fun K l V x hx hl hds hn hI hK => ?_) ?_
        · simp only [putsP, hI.m hl.2.1]
          go_simp
          refine hK _ _ (Below.refl _ _) ?_
          exact ⟨hI.b, fun h => hI.c h, fun h => hI.m h, fun h => hI.e0 h, fun _ => rfl, fun h => hI.a h, fun h => hI.z h⟩
        refine stepsI_cons [] [15, 16] [] rfl (by kernel_rfl) (by kernel_rfl) (by kernel_rfl) (fun K l V x hx hl hds hn hI hK => ?_) ?_
        · go_simp
          have hsx : W.heap.size ≤ x.heap.size := by rw [HS9.out]; exact hx.size
          have hb9 := alloc_below x (.cells #[.int .i64 0, .int .i64 0] 26)
          refine hK _ _ (hb9.mono hsx) ?_
          exact ⟨hI.b.trans (hb9.mono hsx), fun h => hI.c h, fun h => hI.m h, fun h => hI.e0 h, fun h => hI.e1 h, fun _ => VarI.new x _ _ hsx rfl hds.1, fun h => hI.z h⟩
        refine stepsI_cons [10, 11, 12, 14] [16] [(10, 47), (11, 36), (12, 48), (14, 11)] rfl (by kernel_rfl) (by kernel_rfl) (by kernel_rfl) (fun K l V x hx hl hds hn hI hK => ?_) ?_
        · obtain ⟨g, cs, e1, e2, e3, e4, -⟩ := hI.a hl.2.2.2.1
          have hb9 := row_below (Below.refl W.heap.size x) e2 #[.int .i64 s1, .int .i64 t1]
          refine ⟨rfl, gives_store_row 26 (.tmp 11) (.tmp 48) rfl g _ e1 (hI.e0 hl.2.2.1) 26 cs e3 pinfoFrac e4 (by simp [Value.oneCell']) (hK _ _ hb9 ?_)⟩
          refine ⟨hI.b.trans hb9, fun h => hI.c h, fun h => hI.m h, fun h => hI.e0 h, fun h => hI.e1 h, fun _ => ?_, fun h => hI.z h⟩
          show VarI _ _ (V 14) _ _ _ _
          rw [e1]
          exact VarI.filled e2 e3 rfl
        refine stepsI_cons [10, 11, 12, 13, 14, 15] [] [(10, 47), (11, 36), (12, 48), (13, 49), (14, 11)] rfl (by kernel_rfl) (by kernel_rfl) (by kernel_rfl) (fun K l V x hx hl hds hn hI hK => ?_) ?_
        · simp only [putsP, hI.e1 hl.2.2.2.1]
          go_simp
          refine hK _ _ (Below.refl _ _) ?_
          exact ⟨hI.b, fun h => hI.c h, fun h => hI.m h, fun h => hI.e0 h, fun h => hI.e1 h, fun h => hI.a h, fun _ => rfl⟩
        exact stepsI_nil
      intro V W2 hW2 hI
      obtain ⟨g, e1, e2, e3⟩ := (hI.a rfl).out
      have q10 := hI.c rfl
      have q11 := hI.m rfl
      have q12 := hI.e0 rfl
      have q13 := hI.e1 rfl
      have q16 := hI.z rfl
      have hb2' := hI.b
      clear hI
      simp only [putsP, q10, q11, q12, q13, q16, e1]
      go_simp
      clear q10 q11 q12 q13 q16 e1
      have kb2 := kb.below hb2'
      have k12 := k1W.below hb2'
      have hbel2 := hbelW.trans (hb2'.mono (by have := hbelW.size; omega))
      have hBW2 := hB3.trans (hbel2.mono hB3.size)
      have HO2 := hid (owns_below HOW.out hb2')
      by_cases hu1 : u1 = 0
      case neg =>
        have HNO := hid (slack_at HG.out HRR.out HALL.out (e := u1) (by rw [HSE.out, if_neg hu1]) hu1)
        rw [HBB.out, HEE.out] at HNO
        go_wp2
        go_ret2
        exact ⟨⟨_, by rw [HNO.out.1]; rfl, by rw [HNO.out.2]; exact SlR.nil _ _⟩, hBW2⟩
      have hsE2 : slkE n d l r = u2 := by rw [HSE.out, if_pos hu1]
      have HSE2 := hid hsE2
      clear hsE2 HSE
      go_wp2_with fail
      have hd2 := (Below.refl W2.heap.size W2).drew
      have z0 := fun x : SubT (Below W2.heap.size) W2.drew => (kb2.below (hd2.trans x.b)).look 0 rfl
      have z1 := fun x : SubT (Below W2.heap.size) W2.drew => (kb2.below (hd2.trans x.b)).look 1 rfl
      have z2 := fun x : SubT (Below W2.heap.size) W2.drew => (kb2.below (hd2.trans x.b)).look 2 rfl
      have z3 := fun x : SubT (Below W2.heap.size) W2.drew => (kb2.below (hd2.trans x.b)).look 3 rfl
      have z4 := fun x : SubT (Below W2.heap.size) W2.drew => (k12.below (hd2.trans x.b)).look 0 rfl
      have z5 := fun x : SubT (Below W2.heap.size) W2.drew => (k12.below (hd2.trans x.b)).look 1 rfl
      refine wp_walkJ (T := Below (W2.heap.size)) (belowV_pre _) (.rd 0 (.rd 1 (.rd 3 (.rd 4 (.inv [2, 5, 6, 7, 8, 9, 10, 11]))))) (by kernel_rfl) rfl (by kernel_rfl) (by kernel_rfl) ?_
      iterate 4 (refine walkJ_rd rfl (fun K hK => ?_); go_simp; refine hK _ ?_; clear hK K)
      clear z0 z1 z2 z3 z4 z5
      obtain ⟨W1', hW1⟩ : ∃ W1, W2.drew = W1 := ⟨_, rfl⟩
      have hs8 : W2.heap.size = W1'.heap.size := by rw [← hW1]; rfl
      rw [hW1] at hd2 ⊢
      clear hW1
      have HS8 := hid hs8
      clear hs8
      refine walkJ_inv (fun l V w => CallI W2.heap.size W2 5 6 7 8 9 10 11 (.tuple #[.agg #[.int .i64 wn, .int .i64 wd], .int .i64 we]) (.agg #[.int .i64 wn, .int .i64 wd]) (.int .i64 we) 26 2 #[.int .i64 wn, .int .i64 wd] l V w ∧ (l 2 = true → V 2 = .int .i64 y)) [(2, 56), (5, 59), (6, 53), (7, 60), (8, 61), (9, 13), (11, 14)] (by kernel_rfl) ?_ ?_ ?_
      · exact ⟨⟨hd2, fun h => (by cases h), fun h => (by cases h), fun h => (by cases h), fun h => (by cases h), fun h => (by cases h), fun h => (by cases h)⟩, fun h => (by cases h)⟩
      · refine stepsI_cons [] [5, 6, 7, 8, 10, 11] [] rfl (by kernel_rfl) (by kernel_rfl) (by kernel_rfl) (fun K l V x hx hl hds hn hI hK => ?_) ?_
        · obtain ⟨hI, hI2⟩ := hI
          go_simp
          have hsx : W2.heap.size ≤ x.heap.size := by rw [HS8.out]; exact hx.size
          refine (AT.out _).mono ?_
          rintro e w9 ⟨rfl, hb9⟩
          refine ⟨_, rfl, hK _ _ (hb9.mono hsx) ?_⟩
          exact ⟨⟨hI.b.trans (hb9.mono hsx), fun h => hI.c h, fun h => hI.m h, fun h => hI.e0 h, fun h => hI.e1 h, fun h => (hI.a h).below hb9, fun h => hI.z h⟩, fun _ => rfl⟩
        refine stepsI_cons [2] [6, 7, 8, 10, 11] [(2, 56)] rfl (by kernel_rfl) (by kernel_rfl) (by kernel_rfl) (fun K l V x hx hl hds hn hI hK => ?_) ?_
        · obtain ⟨hI, hI2⟩ := hI
          simp only [putsP, hI2 hl.1]
          go_simp
          have hsx : W2.heap.size ≤ x.heap.size := by rw [HS8.out]; exact hx.size
          refine (NEW.out _).mono ?_
          rintro e w9 ⟨rfl, hb9⟩
          refine ⟨_, rfl, hK _ _ (hb9.mono hsx) ?_⟩
          exact ⟨⟨hI.b.trans (hb9.mono hsx), fun _ => rfl, fun h => hI.m h, fun h => hI.e0 h, fun h => hI.e1 h, fun h => (hI.a h).below hb9, fun h => hI.z h⟩, fun h => hI2 h⟩
        refine stepsI_cons [2, 5] [7, 8, 10, 11] [(2, 56), (5, 59)] rfl (by kernel_rfl) (by kernel_rfl) (by kernel_rfl) (fun K l V x hx hl hds hn hI hK => ?_) ?_
        · obtain ⟨hI, hI2⟩ := hI
          go_simp
          refine hK _ _ (Below.refl _ _) ?_
          exact ⟨⟨hI.b, fun h => hI.c h, fun _ => hI.c hl.2.1, fun h => hI.e0 h, fun h => hI.e1 h, fun h => hI.a h, fun h => hI.z h⟩, fun h => hI2 h⟩
        refine stepsI_cons [2, 5, 6] [10, 11] [(2, 56), (5, 59), (6, 53)] rfl (by kernel_rfl) (by kernel_rfl) (by kernel_rfl) (fun K l V x hx hl hds hn hI hK => ?_) ?_
        · obtain ⟨hI, hI2⟩ := hI
          simp only [putsP, hI.m hl.2.2.1]
          go_simp
          refine hK _ _ (Below.refl _ _) ?_
          exact ⟨⟨hI.b, fun h => hI.c h, fun h => hI.m h, fun _ => rfl, fun h => hI.e1 h, fun h => hI.a h, fun h => hI.z h⟩, fun h => hI2 h⟩
        refine stepsI_cons [2, 5, 6] [11] [(2, 56), (5, 59), (6, 53)] rfl (by kernel_rfl) (by kernel_rfl) (by kernel_rfl) (fun K l V x hx hl hds hn hI hK => ?_) ?_
        · obtain ⟨hI, hI2⟩ := hI
          simp only [putsP, hI.m hl.2.2.1]
          go_simp
          refine hK _ _ (Below.refl _ _) ?_
          exact ⟨⟨hI.b, fun h => hI.c h, fun h => hI.m h, fun h => hI.e0 h, fun _ => rfl, fun h => hI.a h, fun h => hI.z h⟩, fun h => hI2 h⟩
        refine stepsI_cons [] [10, 11] [] rfl (by kernel_rfl) (by kernel_rfl) (by kernel_rfl) (fun K l V x hx hl hds hn hI hK => ?_) ?_
        · obtain ⟨hI, hI2⟩ := hI
          go_simp
          have hsx : W2.heap.size ≤ x.heap.size := by rw [HS8.out]; exact hx.size
          have hb9 := alloc_below x (.cells #[.int .i64 0, .int .i64 0] 26)
          refine hK _ _ (hb9.mono hsx) ?_
          exact ⟨⟨hI.b.trans (hb9.mono hsx), fun h => hI.c h, fun h => hI.m h, fun h => hI.e0 h, fun h => hI.e1 h, fun _ => VarI.new x _ _ hsx rfl hds.1, fun h => hI.z h⟩, fun h => hI2 h⟩
        refine stepsI_cons [2, 5, 6, 7, 9] [11] [(2, 56), (5, 59), (6, 53), (7, 60), (9, 13)] rfl (by kernel_rfl) (by kernel_rfl) (by kernel_rfl) (fun K l V x hx hl hds hn hI hK => ?_) ?_
        · obtain ⟨hI, hI2⟩ := hI
          obtain ⟨g, cs, e1, e2, e3, e4, -⟩ := hI.a hl.2.2.2.2.1
          have hb9 := row_below (Below.refl W2.heap.size x) e2 #[.int .i64 wn, .int .i64 wd]
          refine ⟨rfl, gives_store_row 26 (.tmp 13) (.tmp 60) rfl g _ e1 (hI.e0 hl.2.2.2.1) 26 cs e3 pinfoFrac e4 (by simp [Value.oneCell']) (hK _ _ hb9 ?_)⟩
          refine ⟨⟨hI.b.trans hb9, fun h => hI.c h, fun h => hI.m h, fun h => hI.e0 h, fun h => hI.e1 h, fun _ => ?_, fun h => hI.z h⟩, fun h => hI2 h⟩
          show VarI _ _ (V 9) _ _ _ _
          rw [e1]
          exact VarI.filled e2 e3 rfl
        refine stepsI_cons [2, 5, 6, 7, 8, 9, 10] [] [(2, 56), (5, 59), (6, 53), (7, 60), (8, 61), (9, 13)] rfl (by kernel_rfl) (by kernel_rfl) (by kernel_rfl) (fun K l V x hx hl hds hn hI hK => ?_) ?_
        · obtain ⟨hI, hI2⟩ := hI
          simp only [putsP, hI.e1 hl.2.2.2.2.1]
          go_simp
          refine hK _ _ (Below.refl _ _) ?_
          exact ⟨⟨hI.b, fun h => hI.c h, fun h => hI.m h, fun h => hI.e0 h, fun h => hI.e1 h, fun h => hI.a h, fun _ => rfl⟩, fun h => hI2 h⟩
        exact stepsI_nil
      intro V W3 hW3 hI
      obtain ⟨hI, hI2⟩ := hI
      obtain ⟨g', e1', e2', e3'⟩ := (hI.a rfl).out
      have q2 := hI2 rfl
      have q5 := hI.c rfl
      have q6 := hI.m rfl
      have q7 := hI.e0 rfl
      have q8 := hI.e1 rfl
      have q11 := hI.z rfl
      have hb3' := hI.b
      clear hI hI2
      simp only [putsP, q2, q5, q6, q7, q8, q11, e1']
      go_simp
      clear q2 q5 q6 q7 q8 q11 e1'
      have kg := e3.below hb3'
      have hbel3 := hbel2.trans (hb3'.mono hbel2.size)
      have hBW3 := hB3.trans (hbel3.mono hB3.size)
      have HO3 := hid (owns_below HO2.out hb3')
      have hgl := kg.lt
      clear e3 hb3' kb2 k12 kb k1W hb2' hbel2 hbelW hbA HO2 HOW
      have c0 := kg.look 0 rfl
      have c1 := kg.look 1 rfl
      have c2 := e3'.look 0 rfl
      have c3 := e3'.look 1 rfl
      go_wp2_with fail
      refine (SB2.out _).mono ?_
      rintro e w9 ⟨rfl, hb9⟩
      clear c0 c1 c2 c3
      have kg9 := kg.below hb9
      have hbel9 := hbel3.trans (hb9.mono hbel3.size)
      have q0 := kg9.look 0 rfl
      have q1 := kg9.look 1 rfl
      have rf := kg9.frozen
      have hgW : wr.heap.size ≤ g := by have := e2; have := HWS.out; omega
      have hlt3 : ∀ k, u8.ownBlock = some k → k < wr.heap.size := fun k hk => (HO.out.lt k hk).2
      have ho9 := owns_below HO3.out hb9
      have ho10 := owns_setCell (owns_setCell ho9 hlt3 (p := ⟨g, 0, none⟩) hgW (.int .i64 s2)) hlt3 (p := ⟨g, 1, none⟩) hgW (.int .i64 t2)
      have kg10 : Blk ((w9.setCell ⟨g, 0, none⟩ (.int .i64 s2)).setCell ⟨g, 1, none⟩ (.int .i64 t2)) g #[.int .i64 s2, .int .i64 t2] 26 := (kg9.set 0 (.int .i64 s2)).set 1 (.int .i64 t2)
      have hg3 : w3.heap.size ≤ g := Nat.le_trans hbel.size hgW
      have hbel10 := (hbel9.setCell (p := ⟨g, 0, none⟩) hg3 (.int .i64 s2)).setCell (p := ⟨g, 1, none⟩) hg3 (.int .i64 t2)
      have hB10 := hB3.trans (hbel10.mono hB3.size)
      clear hb9 kg9 hbel9 ho9 HO3 hbel3 kg
      by_cases hu2 : u2 = 0
      case neg =>
        have HNO := hid (slack_at HG.out HRR.out HALL.out (e := u2) HSE2.out hu2)
        rw [HBB.out, HEE.out] at HNO
        go_wp2
        go_ret2
        exact ⟨⟨_, by rw [HNO.out.1]; rfl, by rw [HNO.out.2]; exact SlR.nil _ _⟩, hB10⟩
      have hsnoc : frCells ((p.rules.take (i + 1)).map (slkF n d l)) = frCells ((p.rules.take i).map (slkF n d l)) ++ [.int .i64 s2, .int .i64 t2] := by
        obtain ⟨hil, he⟩ := List.getElem?_eq_some_iff.1 HRR.out
        rw [List.take_succ_eq_append_getElem hil, List.map_append, frCells_append, he]
        show _ ++ frCells [slkF n d l r] = _
        rw [HSF.out]
        rfl
      have HSN := hid hsnoc
      have HE0 := hid (show slkE n d l r = 0 by rw [HSE2.out]; exact hu2)
      clear hsnoc HSE2
      subst hu2
      have hlt10 : g < ((w9.setCell ⟨g, 0, none⟩ (.int .i64 s2)).setCell ⟨g, 1, none⟩ (.int .i64 t2)).heap.size := kg10.lt
      have hsz10 := hbel10.size
      clear hlt3 kg10 hgW
      go_wp2_with (first
        | (at_builtin; refine wpList_appH rfl (.tmp 71) (.tmp 73) _ rfl w3.heap.size 26 (frV 0 0) 2 16 Try.underlying27 infoFrac rfl (by decide) 26 _ _ _ rfl ho10 [.int .i64 s2, .int .i64 t2] _ (by simp [World.setCell]) rfl rfl (by simp [Value.oneCell']) (by unfold maxLen; omega) (by omega) (by omega) ?_; intro g5 gcap w5 ho5 hb5 _ _ _))
      refine ⟨⟨i + 1, by go_num, by omega, take_rule HRR.out HALL.out HE0.out, ?_, hbel10.trans hb5⟩, by simp [intOf]; omega⟩
      rw [HSN.out]
      exact ho5
    · obtain rfl : L = i := by omega
      have hiL2 : ¬ (L : Int) < (L : Int) := by omega
      have htk : p.rules.take L = p.rules := List.take_of_length_le (by rw [HL.out]; exact Nat.le_refl _)
      have hall := HALL.out
      have ho := HO.out
      rw [htk] at hall ho
      have HNO := hid (slack_ok HG.out hall)
      rw [HBB.out, HEE.out] at HNO
      have hlen : (p.rules.map (slkF n d l)).length = L := by rw [List.length_map, HL.out]
      have HLEN := hid hlen
      have hS := SlR.of_owns ho
      obtain ⟨ao3, c3, rfl, -⟩ := id hS
      have HS := hid hS
      have hBW := hB3.trans (hbel.mono hB3.size)
      clear htk hall ho hlen hS HO
      go_wp2_with fail
      go_ret2
      refine ⟨⟨_, by rw [HNO.out.1]; rfl, ?_⟩, hBW⟩
      rw [HNO.out.2]
      show SlR _ _ _ (p.rules.map (slkF n d l)).length _
      rw [HLEN.out]
      exact HS.out.mono hB3.size

end Go.Proofs.Ytmknengmjepdaaa
