/- Walk of trankref04.Slack. -/
import Derived.Test.YtmknengmjepdaaaYg
namespace Go.Proofs.Ytmknengmjepdaaa
open Go.RowKit
attribute [local irreducible] seqS seqST walkV walkJ

/-- All but block g is as it was. -/
def GrT (g : Nat) : World → World → Prop := fun a b => a.grownBy b (some g)
theorem grT_pre (g : Nat) : Pre (GrT g) := ⟨fun _ => ⟨rfl, rfl, rfl, Nat.le_refl _, fun _ _ _ => rfl⟩, fun h k => World.grownBy.trans h k⟩
instance instGrT (g : Nat) (W : World) : Nonempty (SubT (GrT g) W) := ⟨⟨W, (grT_pre g).refl W⟩⟩
theorem GrT.of_below {g : Nat} {W W' : World} (hb : Below W.heap.size W W') : GrT g W W' := ⟨hb.os, hb.tape, hb.output, hb.size, fun k hk _ => hb.block k hk⟩
theorem GrT.blk {g b : Nat} {W W' : World} {cs : Array Value} {t : TypeId} (h : GrT g W W') (k : Blk W b cs t) (hne : b ≠ g) : Blk W' b cs t := (World.grownBy.block h b k.lt (fun e => hne (Option.some.inj e))).trans k
theorem GrT.row (g : Nat) (W : World) (cs : Array Value) : GrT g W (W.setRow g cs) := ⟨rfl, rfl, rfl, by rw [row_size]; exact Nat.le_refl _, fun k _ hne => row_other W g cs (fun e => hne (by rw [e]))⟩
theorem GrT.below {g B : Nat} {W0 W W' : World} (h : Below B W0 W) (k : GrT g W W') (hg : B ≤ g) (hs : B ≤ W.heap.size) : Below B W0 W' := h.grown k hs (fun j hj => by cases hj; exact hg)
theorem GrT.owns {g : Nat} {W W' : World} {B0 B : Nat} {e : TypeId} {size : Nat} {v : Value} {n : Nat} {xs : List Value} (k : GrT g W W') (h : W.ownsRow B0 e size v n xs) (hb : ∀ k, v.ownBlock = some k → k < B) (hp : B ≤ g) : W'.ownsRow B0 e size v n xs := by
  refine h.kept (row := some g) k ?_
  cases hv : v.ownBlock with
  | none => exact .inl rfl
  | some k =>
    right
    intro e
    have := hb k hv
    have := Option.some.inj e
    omega

/-- A store into a known block, under an invariant (the goal never shows what the store does). -/
theorem stepsI_store {T : World → World → Prop} {P : Program} {lst : List Oper} {ks : List Nat} {Inv : (Nat → Bool) → (Nat → Value) → World → Prop} {a : Act} {w : World} {k : Nat} {r : List Nat} {o : Oper} (js ds : List Nat) (ps : List (Nat × Tmp)) (ho : opAt lst k = some o) (hjs : ancIn lst ks k = js) (hds : desIn lst ks k = ds) (hps : pairsOf lst js = ps)
    (ty : TypeId) (x y : Operand) (hop : o.op = .store ty x y) (hgd : o.guard = none)
    (h : ∀ (l : Nat → Bool) (V : Nat → Value) (w' : World), T w w' → allJ js l → noneJ ds l → l k = false → Inv l V w' →
      ∃ (g : Nat) (cells : Array Value) (t : TypeId) (old : Array Value), (putsP ps V a).eval x = .pointer (some ⟨g, 0, none⟩) ∧ (putsP ps V a).eval y = .agg cells ∧ Blk w' g old t ∧ (P.info? ty).map (·.size) = some cells.size ∧ old.size = cells.size ∧ cells.all (·.oneCell') = true ∧ T w' (w'.setRow g cells) ∧ Inv (updL l k) (updV V k undef) (w'.setRow g cells))
    (hr : stepsI T P lst ks Inv a w r) : stepsI T P lst ks Inv a w (k :: r) := by
  refine stepsI_cons js ds ps ho hjs hds hps (fun K l V w' h1 h2 h3 h4 h5 hK => ?_) hr
  obtain ⟨g, cells, t, old, e1, e2, e3, e4, e5, e6, e7, e8⟩ := h l V w' h1 h2 h3 h4 h5
  exact ⟨by unfold Region.wanted; rw [hgd], gives_store_row ty x y hop g cells e1 e2 t old e3 e4 e5 e6 (hK _ _ e7 e8)⟩

/-- What holds of what has come up in region 8. -/
structure SubI (g : Nat) (W2 : World) (x0 x3 R x6 x7 : Value) (c1 c2 : Array Value) (l : Nat → Bool) (V : Nat → Value) (w : World) : Prop where
  b : GrT g W2 w
  k : ∃ cs, Blk w g cs 26 ∧ cs.size = 2 ∧ (l 8 = false → cs = c1) ∧ (l 8 = true → cs = c2)
  e0 : l 0 = true → V 0 = x0
  e3 : l 3 = true → V 3 = x3
  e4 : l 4 = true → V 4 = R
  e5 : l 5 = true → V 5 = R
  e6 : l 6 = true → V 6 = x6
  e7 : l 7 = true → V 7 = x7
  e9 : l 9 = true → V 9 = x7
theorem SubI.kb {g : Nat} {W2 : World} {x0 x3 R x6 x7 : Value} {c1 c2 : Array Value} {l : Nat → Bool} {V : Nat → Value} {w w' : World} (h : SubI g W2 x0 x3 R x6 x7 c1 c2 l V w) (hb : Below w.heap.size w w') : ∃ cs, Blk w' g cs 26 ∧ cs.size = 2 ∧ (l 8 = false → cs = c1) ∧ (l 8 = true → cs = c2) := by
  obtain ⟨cs, h1, h2⟩ := h.k
  exact ⟨cs, h1.below hb, h2⟩

set_option maxHeartbeats 8000000 in
set_option maxRecDepth 100000 in
theorem rSlack_any (p : Pat) (n d : Int) (l : List (Int × Int)) (v vx : Value) (w : World) (h : PatF 0 w v p) (hx : FrsR 0 w vx l) (hp : PValid p) (hs : FSize n d) (ha : AsgP p l) :
    Calls Try.prog 67 #[v, .agg #[.int .i64 n, .int .i64 d], vx] w fun e w' => (∃ vl, e = .returned (.tuple #[vl, .int .i64 (slE p n d l)]) ∧ FrsR w.heap.size w' vl (slL p n d l)) ∧ Below w.heap.size w w' := by
  obtain ⟨ao, cap, rfl, hcap, hmax, hc⟩ := h.shape
  have HX := hid hx
  obtain ⟨ax, cx, rfl, hcx, hmx, hlx⟩ := hx
  unfold maxLen at hmax hmx
  obtain ⟨L, hL⟩ : ∃ L, p.rules.length = L := ⟨_, rfl⟩
  have HL := hid hL
  have HC := hid hc
  have HLX := hid hlx
  have HP := hid hp
  have HF := hid hs
  have HA := hid ha
  have HG := hid (show PValid p ∧ FSize n d ∧ AsgP p l from ⟨hp, hs, ha⟩)
  rw [hL] at hcap h ⊢
  obtain ⟨bb, hbb⟩ : ∃ b, slL p n d l = b := ⟨_, rfl⟩
  obtain ⟨ee, hee⟩ : ∃ b, slE p n d l = b := ⟨_, rfl⟩
  rw [hbb, hee]
  have HBB := hid hbb
  have HEE := hid hee
  clear hL hbb hee hc hlx hp hs
  obtain ⟨N, hN⟩ : ∃ N : Nat, p.n = N := ⟨p.n.toNat, by have := HP.out.1; omega⟩
  have hN1 : 1 ≤ N := by have := HP.out.1; omega
  have hN16 : N ≤ 16 := by have := HP.out.2.1; omega
  have HN := hid hN
  have hL64 : L ≤ 64 := by have := HP.out.2.2.1; have := HL.out; omega
  have hlN : l.length = N := by have := ha.1; omega
  obtain ⟨bx, offx, rfl, hbx, x0, x1⟩ := fr_cell HLX.out (show 0 < l.length by omega)
  have hgw : ∀ (i : Nat) (W : World), i < N → Below w.heap.size w W → W.cell? ⟨bx, offx + i * 2, none⟩ = some (.int .i64 (l.getD i (0, 0)).1) ∧ W.cell? ⟨bx, offx + i * 2 + 1, none⟩ = some (.int .i64 (l.getD i (0, 0)).2) := by
    intro i W hi hb
    obtain ⟨bx', offx', he, hb', y0, y1⟩ := fr_cell HLX.out (show i < l.length by omega)
    cases he
    exact ⟨(hb.cell (p := ⟨bx, offx + i * 2, none⟩) hb').trans y0, (hb.cell (p := ⟨bx, offx + i * 2 + 1, none⟩) hb').trans y1⟩
  have HGW := hid hgw
  rw [hlN] at hcx ⊢
  clear ha hgw x0 x1 hN hlN
  go_enter Try.func67, Try.ntmps67
  go_wp2_with fail
  obtain ⟨w3, hw0, k03, k13, hB3, hsz⟩ := one_new w #[.int .i64 p.n, .slice ao L cap] #[.int .i64 n, .int .i64 d] 24 26
  rw [hw0]
  clear hw0
  have hsS := hB3.size
  have hS1 := k13.lt
  go_loopw [8, 16] (fun y x wr => ∃ i : Nat, x = .int .i64 i ∧ i ≤ L ∧ (∀ r ∈ p.rules.take i, slkE n d l r = 0) ∧ wr.ownsRow w3.heap.size 26 2 y i (frCells ((p.rules.take i).map (slkF n d l))) ∧ Below w3.heap.size w3 wr) (fun _ x _ => L - (intOf x).toNat)
  case atStart => exact ⟨0, rfl, Nat.zero_le _, by simp, World.ownsRow_nil _ _ _ _, Below.refl _ _⟩
  case round =>
    obtain ⟨i, rfl, hi, hall, ho, hbel⟩ := hrel
    have HALL := hid hall
    have HO := hid ho
    clear hall ho
    by_cases hiL : i < L
    · have hiL2 : (i : Int) < (L : Int) := by omega
      obtain ⟨r, hr⟩ := ex_rule (l := p.rules) (i := i) (by rw [HL.out]; exact hiL)
      have hrv := HP.out.2.2.2 r (rule_mem hr)
      obtain ⟨b, off, rfl, hb, d0, d1, d2, d3⟩ := ru_cell HC.out hr
      have hbw := hB3.trans (hbel.mono hB3.size)
      have e0 := (hbw.cell (p := ⟨b, off + i * 4, none⟩) hb).trans d0
      have e1 := (hbw.cell (p := ⟨b, off + i * 4 + 1, none⟩) hb).trans d1
      have e2 := (hbw.cell (p := ⟨b, off + i * 4 + 2, none⟩) hb).trans d2
      have e3 := (hbw.cell (p := ⟨b, off + i * 4 + 3, none⟩) hb).trans d3
      have WGT := hid (fun w => Weight_any p.n r n d w hrv HF.out)
      obtain ⟨A, hA⟩ : ∃ A : Nat, r.a = A := ⟨r.a.toNat, by have := hrv.1; omega⟩
      obtain ⟨C, hC⟩ : ∃ A : Nat, r.b = A := ⟨r.b.toNat, by have := hrv.2.2.1; omega⟩
      have hAN : A < N := by have := hrv.2.1; have := HN.out; omega
      have hCN : C < N := by have := hrv.2.2.2.1; have := HN.out; omega
      have hsE : slkE n d l r = if subE (l.getD A (0, 0)).1 (l.getD A (0, 0)).2 (l.getD C (0, 0)).1 (l.getD C (0, 0)).2 = 0 then subE (subN (l.getD A (0, 0)).1 (l.getD A (0, 0)).2 (l.getD C (0, 0)).1 (l.getD C (0, 0)).2) (subD (l.getD A (0, 0)).1 (l.getD A (0, 0)).2 (l.getD C (0, 0)).1 (l.getD C (0, 0)).2) (newN (wt r n d) d) (newD (wt r n d) d) else subE (l.getD A (0, 0)).1 (l.getD A (0, 0)).2 (l.getD C (0, 0)).1 (l.getD C (0, 0)).2 := by
        unfold slkE
        rw [hA, hC, Int.toNat_natCast, Int.toNat_natCast]
      have hsF : slkF n d l r = (subN (subN (l.getD A (0, 0)).1 (l.getD A (0, 0)).2 (l.getD C (0, 0)).1 (l.getD C (0, 0)).2) (subD (l.getD A (0, 0)).1 (l.getD A (0, 0)).2 (l.getD C (0, 0)).1 (l.getD C (0, 0)).2) (newN (wt r n d) d) (newD (wt r n d) d), subD (subN (l.getD A (0, 0)).1 (l.getD A (0, 0)).2 (l.getD C (0, 0)).1 (l.getD C (0, 0)).2) (subD (l.getD A (0, 0)).1 (l.getD A (0, 0)).2 (l.getD C (0, 0)).1 (l.getD C (0, 0)).2) (newN (wt r n d) d) (newD (wt r n d) d)) := by
        unfold slkF
        rw [hA, hC, Int.toNat_natCast, Int.toNat_natCast]
      have hgA := fun W hb => HGW.out A W hAN hb
      have hgC := fun W hb => HGW.out C W hCN hb
      have hyb := wt_le hrv HF.out
      obtain ⟨na, hna⟩ : ∃ z, (l.getD A (0, 0)).1 = z := ⟨_, rfl⟩
      obtain ⟨da, hda⟩ : ∃ z, (l.getD A (0, 0)).2 = z := ⟨_, rfl⟩
      obtain ⟨nb, hnb⟩ : ∃ z, (l.getD C (0, 0)).1 = z := ⟨_, rfl⟩
      obtain ⟨db, hdb⟩ : ∃ z, (l.getD C (0, 0)).2 = z := ⟨_, rfl⟩
      rw [hna, hda] at hgA
      rw [hnb, hdb] at hgC
      rw [hna, hda, hnb, hdb] at hsE hsF
      have SB1 := hid (fun w => rSub_any na da nb db w)
      obtain ⟨s1, hs1⟩ : ∃ z, subN na da nb db = z := ⟨_, rfl⟩
      obtain ⟨t1, ht1⟩ : ∃ z, subD na da nb db = z := ⟨_, rfl⟩
      obtain ⟨u1, hu1⟩ : ∃ z, subE na da nb db = z := ⟨_, rfl⟩
      rw [hs1, ht1, hu1] at SB1 hsE
      rw [hs1, ht1] at hsF
      obtain ⟨y, hy⟩ : ∃ z, wt r n d = z := ⟨_, rfl⟩
      rw [hy] at hsE hsF WGT hyb
      obtain ⟨wn, hwn⟩ : ∃ z, newN y d = z := ⟨_, rfl⟩
      obtain ⟨wd, hwd⟩ : ∃ z, newD y d = z := ⟨_, rfl⟩
      rw [hwn, hwd] at hsE hsF WGT
      have SB2 := hid (fun w => rSub_any s1 t1 wn wd w)
      obtain ⟨s2, hs2⟩ : ∃ z, subN s1 t1 wn wd = z := ⟨_, rfl⟩
      obtain ⟨t2, ht2⟩ : ∃ z, subD s1 t1 wn wd = z := ⟨_, rfl⟩
      obtain ⟨u2, hu2⟩ : ∃ z, subE s1 t1 wn wd = z := ⟨_, rfl⟩
      rw [hs2, ht2, hu2] at SB2
      rw [hu2] at hsE
      rw [hs2, ht2] at hsF
      unfold frV at SB1 SB2 WGT
      obtain ⟨rc, hrc⟩ : ∃ z, r.c = z := ⟨_, rfl⟩
      obtain ⟨rd, hrd⟩ : ∃ z, r.d = z := ⟨_, rfl⟩
      rw [hA, hC, hrc, hrd] at WGT
      rw [hA] at e0
      rw [hC] at e1
      rw [hrc] at e2
      rw [hrd] at e3
      have hA2 : (A : Int) < (N : Int) := by omega
      have hC2 : (C : Int) < (N : Int) := by omega
      have HSE := hid hsE
      have HSF := hid hsF
      have HRR := hid hr
      have HGA := hid hgA
      have HGC := hid hgC
      clear hrv hA hC hrc hrd hy hsE hsF hr hgA hgC hna hda hnb hdb hs1 ht1 hu1 hs2 ht2 hu2 hwn hwd hyb d0 d1 d2 d3
      go_wp2_with fail
      clear e0 e1 e2 e3
      have kb := Blk.new wr #[.int .i64 (A : Int), .int .i64 (C : Int), .int .i64 rc, .int .i64 rd] 46
      have hbA := alloc_below wr (.cells #[.int .i64 (A : Int), .int .i64 (C : Int), .int .i64 rc, .int .i64 rd] 46)
      obtain ⟨W, hw2⟩ : ∃ w2, wr.alloc (.cells #[.int .i64 (A : Int), .int .i64 (C : Int), .int .i64 rc, .int .i64 rd] 46) = w2 := ⟨_, rfl⟩
      rw [hw2] at kb hbA ⊢
      clear hw2
      obtain ⟨H, hH⟩ : ∃ B, wr.heap.size = B := ⟨_, rfl⟩
      have HH := hid hH
      rw [hH] at kb ⊢
      clear hH
      have hbelW := hbel.trans (hbA.mono hbel.size)
      have HWS := hid hbA.size
      have hBW := hB3.trans (hbelW.mono hB3.size)
      have k1W := k13.below hbelW
      have HOW := hid (owns_below HO.out hbA)
      have hd := (Below.refl W.heap.size W).drew
      have z0 := fun x : SubT (Below W.heap.size) W.drew => (kb.below (hd.trans x.b)).look 0 rfl
      have z1 := fun x : SubT (Below W.heap.size) W.drew => (kb.below (hd.trans x.b)).look 1 rfl
      have z6 := fun x : SubT (Below W.heap.size) W.drew => (HGA.out x.w (hBW.trans ((hd.trans x.b).mono hBW.size))).1
      have z7 := fun x : SubT (Below W.heap.size) W.drew => (HGA.out x.w (hBW.trans ((hd.trans x.b).mono hBW.size))).2
      have z8 := fun x : SubT (Below W.heap.size) W.drew => (HGC.out x.w (hBW.trans ((hd.trans x.b).mono hBW.size))).1
      have z9 := fun x : SubT (Below W.heap.size) W.drew => (HGC.out x.w (hBW.trans ((hd.trans x.b).mono hBW.size))).2
      refine wp_walkJ (T := Below (W.heap.size)) (belowV_pre _) (.rd 0 (.rd 1 (.rd 2 (.rd 3 (.rd 4 (.rd 5 (.rd 6 (.rd 7 (.rd 8 (.rd 9 (.inv [10, 11, 12, 13, 14, 15, 16]))))))))))) (by kernel_rfl) rfl (by kernel_rfl) (by kernel_rfl) ?_
      iterate 10 (refine walkJ_rd rfl (fun K hK => ?_); go_simp; refine hK _ ?_; clear hK K)
      clear z0 z1 z6 z7 z8 z9
      obtain ⟨W1, hW1⟩ : ∃ W1, W.drew = W1 := ⟨_, rfl⟩
      have hs9 : W.heap.size = W1.heap.size := by rw [← hW1]; rfl
      rw [hW1] at hd ⊢
      clear hW1
      have HS9 := hid hs9
      clear hs9
      refine walkJ_inv (CallI W.heap.size W 10 11 12 13 14 15 16 (.tuple #[.agg #[.int .i64 s1, .int .i64 t1], .int .i64 u1]) (.agg #[.int .i64 s1, .int .i64 t1]) (.int .i64 u1) 26 2 #[.int .i64 s1, .int .i64 t1]) [(10, 31), (11, 20), (12, 32), (13, 33), (14, 11), (16, 12)] (by kernel_rfl) ?_ ?_ ?_
      · exact ⟨hd, fun h => (by cases h), fun h => (by cases h), fun h => (by cases h), fun h => (by cases h), fun h => (by cases h), fun h => (by cases h)⟩
      · refine stepsI_cons [] [11, 12, 13, 15, 16] [] rfl (by kernel_rfl) (by kernel_rfl) (by kernel_rfl) (fun K l V x hx hl hds hn hI hK => ?_) ?_
        · go_simp
          have hsx : W.heap.size ≤ x.heap.size := by rw [HS9.out]; exact hx.size
          refine (SB1.out _).mono ?_
          rintro e w9 ⟨rfl, hb9⟩
          refine ⟨_, rfl, hK _ _ (hb9.mono hsx) ?_⟩
          exact ⟨hI.b.trans (hb9.mono hsx), fun _ => rfl, fun h => hI.m h, fun h => hI.e0 h, fun h => hI.e1 h, fun h => (hI.a h).below hb9, fun h => hI.z h⟩
        refine stepsI_cons [10] [12, 13, 15, 16] [(10, 31)] rfl (by kernel_rfl) (by kernel_rfl) (by kernel_rfl) (fun K l V x hx hl hds hn hI hK => ?_) ?_
        · go_simp
          refine hK _ _ (Below.refl _ _) ?_
          exact ⟨hI.b, fun h => hI.c h, fun _ => hI.c hl.1, fun h => hI.e0 h, fun h => hI.e1 h, fun h => hI.a h, fun h => hI.z h⟩
        refine stepsI_cons [10, 11] [15, 16] [(10, 31), (11, 20)] rfl (by kernel_rfl) (by kernel_rfl) (by kernel_rfl) (fun K l V x hx hl hds hn hI hK => ?_) ?_
        · simp only [putsP, hI.m hl.2.1]
          go_simp
          refine hK _ _ (Below.refl _ _) ?_
          exact ⟨hI.b, fun h => hI.c h, fun h => hI.m h, fun _ => rfl, fun h => hI.e1 h, fun h => hI.a h, fun h => hI.z h⟩
        refine stepsI_cons [10, 11] [16] [(10, 31), (11, 20)] rfl (by kernel_rfl) (by kernel_rfl) (by kernel_rfl) (fun K l V x hx hl hds hn hI hK => ?_) ?_
        · simp only [putsP, hI.m hl.2.1]
          go_simp
          refine hK _ _ (Below.refl _ _) ?_
          exact ⟨hI.b, fun h => hI.c h, fun h => hI.m h, fun h => hI.e0 h, fun _ => rfl, fun h => hI.a h, fun h => hI.z h⟩
        refine stepsI_cons [] [15, 16] [] rfl (by kernel_rfl) (by kernel_rfl) (by kernel_rfl) (fun K l V x hx hl hds hn hI hK => ?_) ?_
        · go_simp
          have hsx : W.heap.size ≤ x.heap.size := by rw [HS9.out]; exact hx.size
          have hb9 := alloc_below x (.cells #[.int .i64 0, .int .i64 0] 26)
          refine hK _ _ (hb9.mono hsx) ?_
          exact ⟨hI.b.trans (hb9.mono hsx), fun h => hI.c h, fun h => hI.m h, fun h => hI.e0 h, fun h => hI.e1 h, fun _ => VarI.new x _ _ hsx rfl hds.1, fun h => hI.z h⟩
        refine stepsI_cons [10, 11, 12, 14] [16] [(10, 31), (11, 20), (12, 32), (14, 11)] rfl (by kernel_rfl) (by kernel_rfl) (by kernel_rfl) (fun K l V x hx hl hds hn hI hK => ?_) ?_
        · obtain ⟨g, cs, e1, e2, e3, e4, -⟩ := hI.a hl.2.2.2.1
          have hb9 := row_below (Below.refl W.heap.size x) e2 #[.int .i64 s1, .int .i64 t1]
          refine ⟨rfl, gives_store_row 26 (.tmp 11) (.tmp 32) rfl g _ e1 (hI.e0 hl.2.2.1) 26 cs e3 pinfoFrac e4 (by simp [Value.oneCell']) (hK _ _ hb9 ?_)⟩
          refine ⟨hI.b.trans hb9, fun h => hI.c h, fun h => hI.m h, fun h => hI.e0 h, fun h => hI.e1 h, fun _ => ?_, fun h => hI.z h⟩
          show VarI _ _ (V 14) _ _ _ _
          rw [e1]
          exact VarI.filled e2 e3 rfl
        refine stepsI_cons [10, 11, 12, 13, 14, 15] [] [(10, 31), (11, 20), (12, 32), (13, 33), (14, 11)] rfl (by kernel_rfl) (by kernel_rfl) (by kernel_rfl) (fun K l V x hx hl hds hn hI hK => ?_) ?_
        · simp only [putsP, hI.e1 hl.2.2.2.1]
          go_simp
          refine hK _ _ (Below.refl _ _) ?_
          exact ⟨hI.b, fun h => hI.c h, fun h => hI.m h, fun h => hI.e0 h, fun h => hI.e1 h, fun h => hI.a h, fun _ => rfl⟩
        exact stepsI_nil
      intro V W2 hW2 hI
      obtain ⟨g, e1, e2, e3⟩ := (hI.a rfl).out
      have q10 := hI.c rfl
      have q11 := hI.m rfl
      have q12 := hI.e0 rfl
      have q13 := hI.e1 rfl
      have q16 := hI.z rfl
      have hb2' := hI.b
      clear hI
      simp only [putsP, q10, q11, q12, q13, q16, e1]
      go_simp
      clear q10 q11 q12 q13 q16 e1
      have kb2 := kb.below hb2'
      have k12 := k1W.below hb2'
      have hbel2 := hbelW.trans (hb2'.mono (by have := hbelW.size; omega))
      have hBW2 := hB3.trans (hbel2.mono hB3.size)
      have HO2 := hid (owns_below HOW.out hb2')
      by_cases hu1 : u1 = 0
      case neg =>
        have HNO := hid (slack_at HG.out HRR.out HALL.out (e := u1) (by rw [HSE.out, if_neg hu1]) hu1)
        rw [HBB.out, HEE.out] at HNO
        go_wp2
        go_ret2
        exact ⟨⟨_, by rw [HNO.out.1]; rfl, by rw [HNO.out.2]; exact SlR.nil _ _⟩, hBW2⟩
      have hsE2 : slkE n d l r = u2 := by rw [HSE.out, if_pos hu1]
      have HSE2 := hid hsE2
      clear hsE2 HSE
      go_wp2_with fail
      have hHg : H ≠ g := by have := kb.lt; omega
      have hSg : w.heap.size + 1 ≠ g := by have := k1W.lt; omega
      have hd2 : GrT g W2 W2.drew := GrT.of_below (Below.refl W2.heap.size W2).drew
      have z0 := fun x : SubT (GrT g) W2.drew => (GrT.blk ((grT_pre g).trans hd2 x.b) kb2 hHg).look 0 rfl
      have z1 := fun x : SubT (GrT g) W2.drew => (GrT.blk ((grT_pre g).trans hd2 x.b) kb2 hHg).look 1 rfl
      have z2 := fun x : SubT (GrT g) W2.drew => (GrT.blk ((grT_pre g).trans hd2 x.b) kb2 hHg).look 2 rfl
      have z3 := fun x : SubT (GrT g) W2.drew => (GrT.blk ((grT_pre g).trans hd2 x.b) kb2 hHg).look 3 rfl
      have z4 := fun x : SubT (GrT g) W2.drew => (GrT.blk ((grT_pre g).trans hd2 x.b) k12 hSg).look 0 rfl
      have z5 := fun x : SubT (GrT g) W2.drew => (GrT.blk ((grT_pre g).trans hd2 x.b) k12 hSg).look 1 rfl
      refine wp_walkJ (T := GrT g) (grT_pre g) (.rd 1 (.rd 2 (.inv [0, 3, 4, 5, 6, 7, 8, 9]))) (by kernel_rfl) rfl (by kernel_rfl) (by kernel_rfl) ?_
      iterate 2 (refine walkJ_rd rfl (fun K hK => ?_); go_simp; refine hK _ ?_; clear hK K)
      clear z0 z1 z2 z3 z4 z5
      have kg0 : Blk W2.drew g #[.int .i64 s1, .int .i64 t1] 26 := e3.drew
      obtain ⟨W1', hW1⟩ : ∃ W1, W2.drew = W1 := ⟨_, rfl⟩
      rw [hW1] at hd2 kg0 ⊢
      clear hW1
      refine walkJ_inv (SubI g W2 (.agg #[.int .i64 s1, .int .i64 t1]) (.agg #[.int .i64 wn, .int .i64 wd]) (.tuple #[.agg #[.int .i64 s2, .int .i64 t2], .int .i64 u2]) (.agg #[.int .i64 s2, .int .i64 t2]) (.int .i64 u2) #[.int .i64 s1, .int .i64 t1] #[.int .i64 s2, .int .i64 t2]) [(0, 38), (3, 41), (4, 42), (5, 37), (6, 43), (7, 44), (9, 12)] (by kernel_rfl) ?_ ?_ ?_
      · exact ⟨hd2, ⟨_, kg0, rfl, fun _ => rfl, fun h => (by cases h)⟩, fun h => (by cases h), fun h => (by cases h), fun h => (by cases h), fun h => (by cases h), fun h => (by cases h), fun h => (by cases h), fun h => (by cases h)⟩
      · refine stepsI_cons [] [4, 5, 6, 7, 8, 9] [] rfl (by kernel_rfl) (by kernel_rfl) (by kernel_rfl) (fun K l V x hx hl hds hn hI hK => ?_) ?_
        · obtain ⟨cs, kk, kz, k1', k2'⟩ := hI.k
          obtain rfl := k1' hds.2.2.2.2.1
          have c0 := kk.look 0 rfl
          have c1 := kk.look 1 rfl
          simp only [putsP]
          go_simp
          refine hK _ _ ((grT_pre g).refl _) ?_
          exact ⟨hI.b, ⟨_, kk, rfl, fun _ => rfl, fun h => (by rw [show updL l 0 8 = l 8 from rfl, hds.2.2.2.2.1] at h; cases h)⟩, fun _ => rfl, fun h => hI.e3 h, fun h => hI.e4 h, fun h => hI.e5 h, fun h => hI.e6 h, fun h => hI.e7 h, fun h => hI.e9 h⟩
        refine stepsI_cons [] [4, 5, 6, 7, 8, 9] [] rfl (by kernel_rfl) (by kernel_rfl) (by kernel_rfl) (fun K l V x hx hl hds hn hI hK => ?_) ?_
        · go_simp
          refine (WGT.out _).mono ?_
          rintro e w9 ⟨rfl, hb9⟩
          refine ⟨_, rfl, hK _ _ (GrT.of_below hb9) ?_⟩
          exact ⟨(grT_pre g).trans hI.b (GrT.of_below hb9), hI.kb hb9, fun h => hI.e0 h, fun _ => rfl, fun h => hI.e4 h, fun h => hI.e5 h, fun h => hI.e6 h, fun h => hI.e7 h, fun h => hI.e9 h⟩
        refine stepsI_cons [0, 3] [5, 6, 7, 8, 9] [(0, 38), (3, 41)] rfl (by kernel_rfl) (by kernel_rfl) (by kernel_rfl) (fun K l V x hx hl hds hn hI hK => ?_) ?_
        · simp only [putsP, hI.e0 hl.1, hI.e3 hl.2.1]
          go_simp
          refine (SB2.out _).mono ?_
          rintro e w9 ⟨rfl, hb9⟩
          refine ⟨_, rfl, hK _ _ (GrT.of_below hb9) ?_⟩
          exact ⟨(grT_pre g).trans hI.b (GrT.of_below hb9), hI.kb hb9, fun h => hI.e0 h, fun h => hI.e3 h, fun _ => rfl, fun h => hI.e5 h, fun h => hI.e6 h, fun h => hI.e7 h, fun h => hI.e9 h⟩
        refine stepsI_cons [0, 3, 4] [6, 7, 8, 9] [(0, 38), (3, 41), (4, 42)] rfl (by kernel_rfl) (by kernel_rfl) (by kernel_rfl) (fun K l V x hx hl hds hn hI hK => ?_) ?_
        · go_simp
          refine hK _ _ ((grT_pre g).refl _) ?_
          exact ⟨hI.b, hI.k, fun h => hI.e0 h, fun h => hI.e3 h, fun h => hI.e4 h, fun _ => hI.e4 hl.2.2.1, fun h => hI.e6 h, fun h => hI.e7 h, fun h => hI.e9 h⟩
        refine stepsI_cons [0, 3, 4, 5] [8, 9] [(0, 38), (3, 41), (4, 42), (5, 37)] rfl (by kernel_rfl) (by kernel_rfl) (by kernel_rfl) (fun K l V x hx hl hds hn hI hK => ?_) ?_
        · simp only [putsP, hI.e5 hl.2.2.2.1]
          go_simp
          refine hK _ _ ((grT_pre g).refl _) ?_
          exact ⟨hI.b, hI.k, fun h => hI.e0 h, fun h => hI.e3 h, fun h => hI.e4 h, fun h => hI.e5 h, fun _ => rfl, fun h => hI.e7 h, fun h => hI.e9 h⟩
        refine stepsI_cons [0, 3, 4, 5] [9] [(0, 38), (3, 41), (4, 42), (5, 37)] rfl (by kernel_rfl) (by kernel_rfl) (by kernel_rfl) (fun K l V x hx hl hds hn hI hK => ?_) ?_
        · simp only [putsP, hI.e5 hl.2.2.2.1]
          go_simp
          refine hK _ _ ((grT_pre g).refl _) ?_
          exact ⟨hI.b, hI.k, fun h => hI.e0 h, fun h => hI.e3 h, fun h => hI.e4 h, fun h => hI.e5 h, fun h => hI.e6 h, fun _ => rfl, fun h => hI.e9 h⟩
        refine stepsI_store [0, 3, 4, 5, 6] [9] [(0, 38), (3, 41), (4, 42), (5, 37), (6, 43)] rfl (by kernel_rfl) (by kernel_rfl) (by kernel_rfl) 26 (.tmp 11) (.tmp 43) rfl rfl (fun l V x hx hl hds hn hI => ?_) ?_
        · obtain ⟨cs, kk, kz, -, -⟩ := hI.k
          refine ⟨g, #[.int .i64 s2, .int .i64 t2], _, cs, rfl, hI.e6 hl.2.2.2.2.1, kk, pinfoFrac, kz, by simp [Value.oneCell'], GrT.row g x _, ?_⟩
          exact ⟨(grT_pre g).trans hI.b (GrT.row g x _), ⟨_, row_blk kk, rfl, fun h => (by cases h), fun _ => rfl⟩, fun h => hI.e0 h, fun h => hI.e3 h, fun h => hI.e4 h, fun h => hI.e5 h, fun h => hI.e6 h, fun h => hI.e7 h, fun h => hI.e9 h⟩
        refine stepsI_cons [0, 3, 4, 5, 6, 7, 8] [] [(0, 38), (3, 41), (4, 42), (5, 37), (6, 43), (7, 44)] rfl (by kernel_rfl) (by kernel_rfl) (by kernel_rfl) (fun K l V x hx hl hds hn hI hK => ?_) ?_
        · simp only [putsP, hI.e7 hl.2.2.2.2.2.1]
          go_simp
          refine hK _ _ ((grT_pre g).refl _) ?_
          exact ⟨hI.b, hI.k, fun h => hI.e0 h, fun h => hI.e3 h, fun h => hI.e4 h, fun h => hI.e5 h, fun h => hI.e6 h, fun h => hI.e7 h, fun _ => rfl⟩
        exact stepsI_nil
      intro V W3 hW3 hI
      obtain ⟨cs, kg10, -, -, kz2⟩ := hI.k
      obtain rfl := kz2 rfl
      have q0 := hI.e0 rfl
      have q3 := hI.e3 rfl
      have q4 := hI.e4 rfl
      have q5 := hI.e5 rfl
      have q6 := hI.e6 rfl
      have q7 := hI.e7 rfl
      have q9 := hI.e9 rfl
      have hgr := hI.b
      clear hI
      simp only [putsP, q0, q3, q4, q5, q6, q7, q9]
      go_simp
      clear q0 q3 q4 q5 q6 q7 q9
      have hgW : wr.heap.size ≤ g := by have := e2; have := HWS.out; omega
      have hlt3 : ∀ k, u8.ownBlock = some k → k < wr.heap.size := fun k hk => (HO.out.lt k hk).2
      have ho10 := GrT.owns hgr HO2.out hlt3 hgW
      have hg3 : w3.heap.size ≤ g := Nat.le_trans hbel.size hgW
      have hbel10 := GrT.below hbel2 hgr hg3 hbel2.size
      have hB10 := hB3.trans (hbel10.mono hB3.size)
      have hsz10 := hbel10.size
      by_cases hu2 : u2 = 0
      case neg =>
        have HNO := hid (slack_at HG.out HRR.out HALL.out (e := u2) HSE2.out hu2)
        rw [HBB.out, HEE.out] at HNO
        go_wp2
        go_ret2
        exact ⟨⟨_, by rw [HNO.out.1]; rfl, by rw [HNO.out.2]; exact SlR.nil _ _⟩, hB10⟩
      have hsnoc : frCells ((p.rules.take (i + 1)).map (slkF n d l)) = frCells ((p.rules.take i).map (slkF n d l)) ++ [.int .i64 s2, .int .i64 t2] := by
        obtain ⟨hil, he⟩ := List.getElem?_eq_some_iff.1 HRR.out
        rw [List.take_succ_eq_append_getElem hil, List.map_append, frCells_append, he]
        show _ ++ frCells [slkF n d l r] = _
        rw [HSF.out]
        rfl
      have HSN := hid hsnoc
      have HE0 := hid (show slkE n d l r = 0 by rw [HSE2.out]; exact hu2)
      clear hsnoc HSE2
      subst hu2
      have hlt10 := kg10.lt
      have c0 := kg10.look 0 rfl
      have c1 := kg10.look 1 rfl
      clear hlt3 kg10 hgW hgr hbel2 hbelW hbA HO2 HOW kb2 k12 kb k1W hb2' e3
      go_wp2_with (first
        | (at_builtin; refine wpList_appH rfl (.tmp 48) (.tmp 50) _ rfl w3.heap.size 26 (frV 0 0) 2 16 Try.underlying27 infoFrac rfl (by decide) 26 _ _ _ rfl ho10 [.int .i64 s2, .int .i64 t2] _ (by simp) rfl rfl (by simp [Value.oneCell']) (by unfold maxLen; omega) (by omega) (by omega) ?_; intro g5 gcap w5 ho5 hb5 _ _ _))
      refine ⟨⟨i + 1, by go_num, by omega, take_rule HRR.out HALL.out HE0.out, ?_, hbel10.trans hb5⟩, by simp [intOf]; omega⟩
      rw [HSN.out]
      exact ho5
    · obtain rfl : L = i := by omega
      have hiL2 : ¬ (L : Int) < (L : Int) := by omega
      have htk : p.rules.take L = p.rules := List.take_of_length_le (by rw [HL.out]; exact Nat.le_refl _)
      have hall := HALL.out
      have ho := HO.out
      rw [htk] at hall ho
      have HNO := hid (slack_ok HG.out hall)
      rw [HBB.out, HEE.out] at HNO
      have hlen : (p.rules.map (slkF n d l)).length = L := by rw [List.length_map, HL.out]
      have HLEN := hid hlen
      have hS := SlR.of_owns ho
      obtain ⟨ao3, c3, rfl, -⟩ := id hS
      have HS := hid hS
      have hBW := hB3.trans (hbel.mono hB3.size)
      clear htk hall ho hlen hS HO
      go_wp2_with fail
      go_ret2
      refine ⟨⟨_, by rw [HNO.out.1]; rfl, ?_⟩, hBW⟩
      rw [HNO.out.2]
      show SlR _ _ _ (p.rules.map (slkF n d l)).length _
      rw [HLEN.out]
      exact HS.out.mono hB3.size

end Go.Proofs.Ytmknengmjepdaaa
