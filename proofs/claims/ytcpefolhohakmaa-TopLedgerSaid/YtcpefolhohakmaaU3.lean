/- Walks of the journal: Rewrite. -/
import Derived.Test.YtcpefolhohakmaaU2
namespace Go.Proofs.Ytcpefolhohakmaa
open Go.RowKit
attribute [local irreducible] seqS seqST walkV walkJ

/-- All but a block's first three cells. -/
structure KpR (gl : Nat) (a b : World) : Prop where
  k : Keep (· ≠ gl) a b
  c : ∀ j, 3 ≤ j → b.cell? ⟨gl, j, none⟩ = a.cell? ⟨gl, j, none⟩
theorem kpR_pre (gl : Nat) : Pre (KpR gl) := ⟨fun _ => ⟨Keep.refl _ _, fun _ _ => rfl⟩, fun h k => ⟨h.k.trans k.k, fun j hj => (k.c j hj).trans (h.c j hj)⟩⟩
instance instKpR (gl : Nat) (W : World) : Nonempty (SubT (KpR gl) W) := ⟨⟨W, (kpR_pre gl).refl W⟩⟩
theorem KpR.set (gl : Nat) (a : World) (u0 u1 u2 : Value) : KpR gl a (((a.setCell ⟨gl, 0, none⟩ u0).setCell ⟨gl, 1, none⟩ u1).setCell ⟨gl, 2, none⟩ u2) :=
  ⟨((Keep.set a (p := ⟨gl, 0, none⟩) (fun h => h rfl) u0).trans (Keep.set _ (p := ⟨gl, 1, none⟩) (fun h => h rfl) u1)).trans (Keep.set _ (p := ⟨gl, 2, none⟩) (fun h => h rfl) u2), fun j hj => by
    have ho : ∀ (b : World) (i : Nat) (u : Value), i < 3 → (b.setCell ⟨gl, i, none⟩ u).cell? ⟨gl, j, none⟩ = b.cell? ⟨gl, j, none⟩ := fun b i u hi => World.cell?_setCell_other _ _ _ _ (by intro e; cases e; omega)
    rw [ho _ 2 _ (by decide), ho _ 1 _ (by decide), ho _ 0 _ (by decide)]⟩
def rwF (g : Nat) (s : Bts) : Bts := frms (lay (g + 1) 0 s [])

set_option maxHeartbeats 4000000 in
set_option maxRecDepth 100000 in
theorem Rewrite_any (gl gd m g : Nat) (vs vr : Value) (v : Nat → Value) (d : Dk) (s : Bts) (vp : Value) (w : World) (h : DkR w gd v d) (hL : LgB w gl gd (g : Int) (m : Int) vs vr false) (hm : m < 2) (hg : g ≤ 1000000)
    (hp : BsR w vp s) (hl : s.length ≤ 65536) :
    Calls Try.prog 24 #[.pointer (some ⟨gl, 0, none⟩), vp] w fun r w' => r = .returned (.int .i64 (wrE (1 - m) (rwF g s) d)) ∧ ∃ v', DkR w' gd v' (wrD (1 - m) (rwF g s) d) ∧
      ((wrE (1 - m) (rwF g s) d ≠ 0 ∧ LgB w' gl gd (g : Int) (m : Int) vs vr (wrE (1 - m) (rwF g s) d == 14) ∧ LoG w w' gl gd v v' vr vr ∧ Keep (fun b => ¬ DS gd v b ∧ b ≠ gl) w w') ∨ (wrE (1 - m) (rwF g s) d = 0 ∧ (∃ vs', LgB w' gl gd ((g + 1 : Nat) : Int) ((1 - m : Nat) : Int) vs' (.slice none 0 0) false) ∧ LoG w w' gl gd v v' vr (.slice none 0 0))) := by
  have RE := hid (ready_any gl gd g m vs vr s vp w hL hp hl)
  have HD := hid h
  have HL := hid hL
  have HP := hid hp
  have HNR : Hid (gl < w.heap.size ∧ ¬ DS gd v gl) := hid ⟨Blk.lt hL, h.nDS hL (by decide) (by decide)⟩
  have hDS : Hid (∀ x, DS gd v x → x < w.heap.size) := hid (fun x hx => h.lt hx)
  obtain ⟨F, hF⟩ : ∃ F, rwF g s = F := ⟨_, rfl⟩
  rw [hF]
  obtain ⟨re, hre⟩ : ∃ z, wrE (1 - m) F d = z := ⟨_, rfl⟩
  obtain ⟨rd, hrd⟩ : ∃ z, wrD (1 - m) F d = z := ⟨_, rfl⟩
  have HRE : Hid (re = wrE (1 - m) F d) := hid hre.symm
  have HRD : Hid (rd = wrD (1 - m) F d) := hid hrd.symm
  rw [hre, hrd]
  obtain ⟨ap, cp, rfl, hcp, hmp, -⟩ := id hp
  unfold maxLen at hmp
  obtain ⟨n, hnn⟩ : ∃ n, s.length = n := ⟨_, rfl⟩
  have HN := hid hnn
  obtain ⟨G, hG⟩ : ∃ G, g + 1 = G := ⟨_, rfl⟩
  obtain ⟨M, hM1⟩ : ∃ M, 1 - m = M := ⟨_, rfl⟩
  have hM : M < 2 := by omega
  have hw1 : IntKind.i64.wrap ((g : Int) + 1) = (G : Int) := by
    have := Go.Lib.wrap_i64_small (g + 1) (by omega)
    rw [← hG]
    rwa [show ((g + 1 : Nat) : Int) = (g : Int) + 1 by omega] at this ⊢
  have hw2 : IntKind.i64.wrap (1 - (m : Int)) = (M : Int) := by
    have := Go.Lib.wrap_i64_small (1 - m) (by omega)
    rw [← hM1]
    rwa [show ((1 - m : Nat) : Int) = 1 - (m : Int) by omega] at this ⊢
  have hFF : frms (lay G 0 s []) = F := by rw [← hG]; exact hF
  have HFF := hid hFF
  have HGG := hid hG
  have hFl : Hid ((frms (lay G ([] : List Bts).length s [])).length ≤ 80000000) := hid (by
    rw [List.length_nil, lay_zero, List.length_append, frm_length, frm_length, hdr_length]; omega)
  have hgn : ((g : Int) == 4611686018427387904) = false := by rw [beq_eq_false_iff_ne]; omega
  have xg := HL.out.cG
  rw [hnn] at hl hcp RE HP ⊢
  clear h hL hp hre hrd hnn hF hG hFF
  go_enter Try.func24, Try.ntmps24
  go_wp2_with fail
  refine RE.out.mono ?_
  rintro r w1 ⟨rfl, rfl⟩
  clear RE
  go_wp2_with fail
  clear xg
  have zg := fun y : SubT (Below w.heap.size) w.drew => (HL.out.below ((Below.refl w.heap.size w).drew.trans y.b)).cG
  refine wp_walkV (T := Below (w.heap.size)) (belowV_pre _) (.rd 0 (.rd 1 (.rd 2 (.rd 3 (.rd 4 (.rd 5 (.rd 6 (.two 7 (.rd 8 (.mv 9 (.bt 10 .nil))) 9 (.mv 7 (.rd 8 (.bt 10 .nil))))))))))) (by kernel_rfl) rfl rfl (by kernel_rfl) (by kernel_rfl) ?_
  iterate 7 (refine walkV_rd rfl (fun K hK => ?_); go_simp; refine hK _ ?_; clear hK K)
  clear zg
  have hd0 := (Below.refl w.heap.size w).drew
  have HD1 := hid (HD.out.below hd0)
  have HL1 := hid (HL.out.below hd0)
  have hpr1 : BsR w.drew (.slice ap n cp) s := by have h9 := HP.out; rw [← HN.out] at h9 ⊢; exact h9.below hd0
  have HP1 := hid hpr1
  have HB1 := hid hd0
  have hsz0 : w.heap.size = w.drew.heap.size := rfl
  clear hd0 HD HL HP hpr1
  generalize w.drew = w1 at HD1 HL1 HP1 HB1 hsz0 ⊢
  refine walkV_two rfl rfl (fun K hK => ?_) (fun K hK => ?_)
  · have CL := hid (CloneB_any s _ w1 HP1.out (by rw [HN.out]; omega))
    rw [HN.out] at CL
    go_simp
    refine CL.out.mono ?_
    rintro r w7 ⟨⟨v7, rfl, ho7⟩, hb7⟩
    refine ⟨_, rfl, hK _ _ (by rw [hsz0]; exact hb7) ?_⟩
    clear hK K
    obtain ⟨a7, c7, rfl, -⟩ := SlR.of_owns ho7
    iterate 1 (refine walkV_rd rfl (fun K hK => ?_); go_simp; refine hK _ ?_; clear hK K)
    (refine walkV_mv rfl (fun K hK => ?_); go_simp; refine hK _ _ ((Below.refl _ _).alloc (by rw [hsz0]; exact hb7.size) _) ?_; clear hK K)
    (refine walkV_bt rfl (fun K hK => ?_); go_simp; refine hK _ _ ?_; clear hK K)
    refine walkV_nil ?_
    have kN := Blk.new w7 #[.int .i64 (G : Int), .slice a7 n c7, .slice none 0 0] 113
    have bN := alloc_below w7 (.cells #[.int .i64 (G : Int), .slice a7 n c7, .slice none 0 0] 113)
    have hb8 := hb7.trans (bN.mono hb7.size)
    have HDW := hid (HD1.out.below hb8)
    have HLW := hid (HL1.out.below hb8)
    have HSW := hid (owns_low (owns_below ho7 bN) (show w.heap.size ≤ w1.heap.size from by rw [hsz0]; exact Nat.le_refl _))
    have HGW : Hid (DkG w _ gd v v) := hid (DkG.of_below (HB1.out.trans (hb8.mono (by rw [hsz0]; exact Nat.le_refl _))))
    have KC := hid kN
    have hgC : w.heap.size ≤ w7.heap.size := by rw [hsz0]; exact hb7.size
    clear CL hb7 ho7 kN bN hb8 HD1 HL1 HP1 HB1
    generalize w7.heap.size = gC at KC hgC ⊢
    generalize w7.alloc (.cells #[.int .i64 (G : Int), .slice a7 n c7, .slice none 0 0] 113) = W at HDW HLW HSW HGW KC ⊢
    go_wp2_with fail
    have zc := fun y : SubT (Below W.heap.size) W.drew => (KC.out.below ((Below.refl W.heap.size W).drew.trans y.b)).look 0 rfl
    have zs := fun y : SubT (Below W.heap.size) W.drew => (KC.out.below ((Below.refl W.heap.size W).drew.trans y.b)).look 1 rfl
    have zr := fun y : SubT (Below W.heap.size) W.drew => (KC.out.below ((Below.refl W.heap.size W).drew.trans y.b)).look 2 rfl
    have zd := fun y : SubT (Below W.heap.size) W.drew => (HLW.out.below ((Below.refl W.heap.size W).drew.trans y.b)).cD
    have za := fun y : SubT (Below W.heap.size) W.drew => (HLW.out.below ((Below.refl W.heap.size W).drew.trans y.b)).cA
    refine wp_walkJ (T := Below (W.heap.size)) (belowV_pre _) (.rd 0 (.rd 1 (.rd 2 (.rd 3 (.rd 4 (.rd 5 (.rd 6 (.rd 7 (.rd 8 (.rd 9 (.bt 10 (.rd 11 (.inv []))))))))))))) (by kernel_rfl) rfl (by kernel_rfl) (by kernel_rfl) ?_
    iterate 10 (refine walkJ_rd rfl (fun K hK => ?_); go_simp; refine hK _ ?_; clear hK K)
    clear zc zs zr zd za
    have hd0 := (Below.refl W.heap.size W).drew
    have HD2 := hid (HDW.out.below hd0)
    have HL2 := hid (HLW.out.below hd0)
    have KC2 := hid (KC.out.below hd0)
    have HS2 := hid (owns_below HSW.out hd0)
    have HG2 := hid (HGW.out.trans (DkG.of_below hd0))
    clear hd0 HDW HLW KC HSW HGW
    generalize W.drew = w2 at HD2 HL2 KC2 HS2 HG2 ⊢
    have WR := hid (write_any gd M v d G s [] (.slice a7 n c7) (.slice none 0 0) [] w2 HD2.out hM w.heap.size hDS.out (by have h9 := HS2.out; rw [← HN.out] at h9 ⊢; exact h9) (.inl ⟨rfl, rfl⟩) ⟨rfl, fun i hi => absurd hi (Nat.not_lt_zero _)⟩ hFl.out)
    rw [List.length_nil, HFF.out] at WR
    unfold cntV at WR
    obtain ⟨e3, he3⟩ : ∃ z, wrE M F d = z := ⟨_, rfl⟩
    obtain ⟨d3, hd3'⟩ : ∃ z, wrD M F d = z := ⟨_, rfl⟩
    rw [he3, hd3'] at WR
    rw [hM1, he3] at HRE
    rw [hM1, hd3'] at HRD
    clear he3 hd3'
    (refine walkJ_bt rfl (fun K hK => ?_); go_simp; refine WR.out.mono ?_; rintro r w3 ⟨rfl, v3, hd3, hg3⟩; refine ⟨_, rfl, hK _ _ ?_⟩; clear hK K)
    have HD3 := hid hd3
    have HL3 := hid (HL2.out.keep hg3.keep HNR.out.2)
    have KC3 := hid (hg3.keep.blk KC2.out (fun hb => by have := hDS.out gC hb; omega))
    have HG3 := hid (HG2.out.trans hg3)
    clear WR HD2 HL2 KC2 HS2 HG2 hd3 hg3
    iterate 1 (refine walkJ_rd rfl (fun K hK => ?_); go_simp; refine hK _ ?_; clear hK K)
    refine walkJ_nil ?_
    by_cases h0 : e3 = 0
    case neg =>
      have h1 : (e3 == 0) = false := by rw [beq_eq_false_iff_ne]; exact h0
      have ME := hid (met_any gl gd g m vs vr e3 w3 HL3.out)
      have H0 := hid h0
      clear h0
      go_wp2_with fail
      refine ME.out.mono ?_
      rintro r w4 ⟨rfl, hl4, hk4⟩
      have HL4 := hid hl4
      have HD4 := hid (HD3.out.keep hk4 (fun b hb e => by
        rw [e] at hb
        exact HD3.out.nDS HL3.out (by decide) (by decide) hb))
      have HG4 := hid ((LoG.of_dk (gl := gl) (vr := vr) HG3.out).trans (LoG.of_own hk4))
      have HKK := hid ((HG3.out.keep.mono (S' := fun b => ¬ DS gd v b ∧ b ≠ gl) (fun _ _ hb => hb.1)).trans (hk4.mono (fun _ _ hb => hb.2)))
      clear ME hl4 hk4
      go_wp2
      go_ret
      exact ⟨ret_int HRE.out.symm, v3, by rw [HRD.out]; exact HD4.out, .inl ⟨by rw [HRE.out]; exact H0.out, by rw [HRE.out]; exact HL4.out, HG4.out, HKK.out⟩⟩
    case pos =>
      subst h0
      go_wp2_with fail
      have hgC2 : gC ≠ gl := by have := HNR.out.1; omega
      have zc := fun y : SubT (KpR gl) w3.drew => ((((Keep.drew (· ≠ gl) w3).trans y.b.k).blk KC3.out hgC2)).look 0 rfl
      have zs := fun y : SubT (KpR gl) w3.drew => ((((Keep.drew (· ≠ gl) w3).trans y.b.k).blk KC3.out hgC2)).look 1 rfl
      have zr := fun y : SubT (KpR gl) w3.drew => ((((Keep.drew (· ≠ gl) w3).trans y.b.k).blk KC3.out hgC2)).look 2 rfl
      have za := fun y : SubT (KpR gl) w3.drew => (y.b.c 4 (by decide)).trans (HL3.out.below (Below.refl w3.heap.size w3).drew).cA
      refine wp_walkJ (T := KpR gl) (kpR_pre _) (.rd 0 (.rd 1 (.rd 2 (.rd 3 (.rd 4 (.rd 5 (.rd 6 (.rd 7 (.rd 8 (.rd 9 (.mv 10 (.rd 11 (.rd 12 (.bt 13 (.inv []))))))))))))))) (by kernel_rfl) rfl (by kernel_rfl) (by kernel_rfl) ?_
      iterate 10 (refine walkJ_rd rfl (fun K hK => ?_); go_simp; refine hK _ ?_; clear hK K)
      clear zc zs zr za
      have hd0 := (Below.refl w3.heap.size w3).drew
      have HD5 := hid (HD3.out.below hd0)
      have HL5 := hid (HL3.out.below hd0)
      have HG5 := hid (HG3.out.trans (DkG.of_below hd0))
      clear hd0 HD3 HL3 HG3 KC3
      generalize w3.drew = w5 at HD5 HL5 HG5 ⊢
      have x0 := HL5.out.cG
      have x1 := HL5.out.cS
      have x2 := HL5.out.cR
      have f0 := Blk.frozen HL5.out 0
      have f1 := Blk.frozen HL5.out 1
      have f2 := Blk.frozen HL5.out 2
      have ll := Blk.lt HL5.out
      (refine walkJ_mv rfl (fun K hK => ?_); go_simp; refine hK _ _ (KpR.set gl _ _ _ _) ?_; clear hK K)
      have hk6 := (KpR.set gl w5 (.int .i64 (G : Int)) (.slice a7 n c7) (.slice none 0 0)).k
      have HL6 : Hid (LgB _ gl gd (G : Int) (m : Int) (.slice a7 n c7) (.slice none 0 0) false) := hid (Blk.set (Blk.set (Blk.set HL5.out 0 (.int .i64 (G : Int))) 1 (.slice a7 n c7)) 2 (.slice none 0 0))
      have HK6 := hid hk6
      clear x0 x1 x2 f0 f1 f2 ll hk6
      generalize ((w5.setCell ⟨gl, 0, none⟩ (.int .i64 (G : Int))).setCell ⟨gl, 1, none⟩ (.slice a7 n c7)).setCell ⟨gl, 2, none⟩ (.slice none 0 0) = w6 at HL6 HK6 ⊢
      iterate 2 (refine walkJ_rd rfl (fun K hK => ?_); go_simp; refine hK _ ?_; clear hK K)
      have x4 := HL6.out.cA
      have f4 := Blk.frozen HL6.out 4
      have ll := Blk.lt HL6.out
      (refine walkJ_bt rfl (fun K hK => ?_); go_simp; refine hK _ _ ?_; clear hK K)
      refine walkJ_nil ?_
      clear x4 f4 ll
      have hk7 := HK6.out.trans (Keep.set (S := (· ≠ gl)) w6 (p := ⟨gl, 4, none⟩) (fun h => h rfl) (.int .i64 (M : Int)))
      have HL7 : Hid (LgB (w6.setCell ⟨gl, 4, none⟩ (.int .i64 (M : Int))) gl gd (G : Int) (M : Int) (.slice a7 n c7) (.slice none 0 0) false) := hid (Blk.set HL6.out 4 (.int .i64 (M : Int)))
      have HD7 := hid (HD5.out.keep hk7 (fun b hb e => by
        rw [e] at hb
        exact HD5.out.nDS HL5.out (by decide) (by decide) hb))
      have HG7 : Hid (LoG w _ gl gd v v3 vr (.slice none 0 0)) := hid ((LoG.of_dk (gl := gl) (vr := vr) HG5.out).trans ⟨hk7.mono (fun _ _ hb => hb.2.1), fun _ h => .inl h, .inr (fun b hb => by cases hb)⟩)
      clear hk7 HD5 HL5 HG5 HL6 HK6
      generalize w6.setCell ⟨gl, 4, none⟩ (.int .i64 (M : Int)) = w7 at HL7 HD7 HG7 ⊢
      go_wp2
      go_ret
      exact ⟨ret_int HRE.out.symm, v3, by rw [HRD.out]; exact HD7.out, .inr ⟨HRE.out, ⟨_, by rw [HGG.out, hM1]; exact HL7.out⟩, HG7.out⟩⟩
  · go_simp
    refine hK _ _ ((Below.refl _ _).alloc (by rw [hsz0]; exact Nat.le_refl _) _) ?_
    clear hK K
    have kN := Blk.new w1 #[.int .i64 0, .slice none 0 0, .slice none 0 0] 113
    have bN := alloc_below w1 (.cells #[.int .i64 0, .slice none 0 0, .slice none 0 0] 113)
    have HD2 := hid (HD1.out.below bN)
    have HL2 := hid (HL1.out.below bN)
    have HP2 := hid (HP1.out.below bN)
    have HB2 := hid (HB1.out.trans (bN.mono (by rw [hsz0]; exact Nat.le_refl _)))
    have hgC : w.heap.size ≤ w1.heap.size := by rw [hsz0]; exact Nat.le_refl _
    have hsz2 : w.heap.size ≤ (w1.alloc (.cells #[.int .i64 0, .slice none 0 0, .slice none 0 0] 113)).heap.size := Nat.le_trans hgC bN.size
    have KC2 := hid kN
    clear kN bN HD1 HL1 HP1 HB1
    generalize w1.heap.size = gC at KC2 hgC hsz0 ⊢
    generalize w1.alloc (.cells #[.int .i64 0, .slice none 0 0, .slice none 0 0] 113) = w2 at HD2 HL2 HP2 HB2 KC2 hsz2 ⊢
    have CL := hid (CloneB_any s _ w2 HP2.out (by rw [HN.out]; omega))
    rw [HN.out] at CL
    (refine walkV_mv rfl (fun K hK => ?_); go_simp; refine CL.out.mono ?_; rintro r w7 ⟨⟨v7, rfl, ho7⟩, hb7⟩; refine ⟨_, rfl, hK _ _ (hb7.mono hsz2) ?_⟩; clear hK K)
    obtain ⟨a7, c7, rfl, -⟩ := SlR.of_owns ho7
    iterate 1 (refine walkV_rd rfl (fun K hK => ?_); go_simp; refine hK _ ?_; clear hK K)
    have hd7 := HD2.out.below hb7
    have hl7 := HL2.out.below hb7
    have hs7 := owns_low ho7 hsz2
    have hbe7 := HB2.out.trans (hb7.mono hsz2)
    have kC7 := KC2.out.below hb7
    have x0 := kC7.look 0 rfl
    have x1 := kC7.look 1 rfl
    have x2 := kC7.look 2 rfl
    have f0 := kC7.frozen 0
    have f1 := kC7.frozen 1
    have f2 := kC7.frozen 2
    have ll := kC7.lt
    have hgCS : ¬ DS gd v gC := fun hb => by have := hDS.out gC hb; omega
    have hkc := (KpR.set gC w7 (.int .i64 (G : Int)) (.slice a7 n c7) (.slice none 0 0)).k
    have hgl2 : gl ≠ gC := by have := HNR.out.1; omega
    have HDW := hid (hd7.keep hkc (fun b hb e => by rw [e] at hb; exact hgCS hb))
    have HLW := hid (hl7.keep hkc hgl2)
    have HSW := hid (hkc.owns hs7 (owns_blk_neT hs7 kC7 (by decide)))
    have HGW : Hid (DkG w _ gd v v) := hid (DkG.of_below (((hbe7.setCell (p := ⟨gC, 0, none⟩) hgC (.int .i64 (G : Int))).setCell (p := ⟨gC, 1, none⟩) hgC (.slice a7 n c7)).setCell (p := ⟨gC, 2, none⟩) hgC (.slice none 0 0)))
    have KC := hid (((kC7.set 0 (.int .i64 (G : Int))).set 1 (.slice a7 n c7)).set 2 (.slice none 0 0))
    (refine walkV_bt rfl (fun K hK => ?_); go_simp; refine hK _ _ ?_; clear hK K)
    refine walkV_nil ?_
    clear x0 x1 x2 f0 f1 f2 ll CL hb7 ho7 HD2 HL2 HP2 HB2 KC2 hd7 hl7 hs7 hbe7 kC7 hkc
    generalize ((w7.setCell ⟨gC, 0, none⟩ (.int .i64 (G : Int))).setCell ⟨gC, 1, none⟩ (.slice a7 n c7)).setCell ⟨gC, 2, none⟩ (.slice none 0 0) = W at HDW HLW HSW HGW KC ⊢
    go_wp2_with fail
    have zc := fun y : SubT (Below W.heap.size) W.drew => (KC.out.below ((Below.refl W.heap.size W).drew.trans y.b)).look 0 rfl
    have zs := fun y : SubT (Below W.heap.size) W.drew => (KC.out.below ((Below.refl W.heap.size W).drew.trans y.b)).look 1 rfl
    have zr := fun y : SubT (Below W.heap.size) W.drew => (KC.out.below ((Below.refl W.heap.size W).drew.trans y.b)).look 2 rfl
    have zd := fun y : SubT (Below W.heap.size) W.drew => (HLW.out.below ((Below.refl W.heap.size W).drew.trans y.b)).cD
    have za := fun y : SubT (Below W.heap.size) W.drew => (HLW.out.below ((Below.refl W.heap.size W).drew.trans y.b)).cA
    refine wp_walkJ (T := Below (W.heap.size)) (belowV_pre _) (.rd 0 (.rd 1 (.rd 2 (.rd 3 (.rd 4 (.rd 5 (.rd 6 (.rd 7 (.rd 8 (.rd 9 (.bt 10 (.rd 11 (.inv []))))))))))))) (by kernel_rfl) rfl (by kernel_rfl) (by kernel_rfl) ?_
    iterate 10 (refine walkJ_rd rfl (fun K hK => ?_); go_simp; refine hK _ ?_; clear hK K)
    clear zc zs zr zd za
    have hd0 := (Below.refl W.heap.size W).drew
    have HD2 := hid (HDW.out.below hd0)
    have HL2 := hid (HLW.out.below hd0)
    have KC2 := hid (KC.out.below hd0)
    have HS2 := hid (owns_below HSW.out hd0)
    have HG2 := hid (HGW.out.trans (DkG.of_below hd0))
    clear hd0 HDW HLW KC HSW HGW
    generalize W.drew = w2 at HD2 HL2 KC2 HS2 HG2 ⊢
    have WR := hid (write_any gd M v d G s [] (.slice a7 n c7) (.slice none 0 0) [] w2 HD2.out hM w.heap.size hDS.out (by have h9 := HS2.out; rw [← HN.out] at h9 ⊢; exact h9) (.inl ⟨rfl, rfl⟩) ⟨rfl, fun i hi => absurd hi (Nat.not_lt_zero _)⟩ hFl.out)
    rw [List.length_nil, HFF.out] at WR
    unfold cntV at WR
    obtain ⟨e3, he3⟩ : ∃ z, wrE M F d = z := ⟨_, rfl⟩
    obtain ⟨d3, hd3'⟩ : ∃ z, wrD M F d = z := ⟨_, rfl⟩
    rw [he3, hd3'] at WR
    rw [hM1, he3] at HRE
    rw [hM1, hd3'] at HRD
    clear he3 hd3'
    (refine walkJ_bt rfl (fun K hK => ?_); go_simp; refine WR.out.mono ?_; rintro r w3 ⟨rfl, v3, hd3, hg3⟩; refine ⟨_, rfl, hK _ _ ?_⟩; clear hK K)
    have HD3 := hid hd3
    have HL3 := hid (HL2.out.keep hg3.keep HNR.out.2)
    have KC3 := hid (hg3.keep.blk KC2.out (fun hb => by have := hDS.out gC hb; omega))
    have HG3 := hid (HG2.out.trans hg3)
    clear WR HD2 HL2 KC2 HS2 HG2 hd3 hg3
    iterate 1 (refine walkJ_rd rfl (fun K hK => ?_); go_simp; refine hK _ ?_; clear hK K)
    refine walkJ_nil ?_
    by_cases h0 : e3 = 0
    case neg =>
      have h1 : (e3 == 0) = false := by rw [beq_eq_false_iff_ne]; exact h0
      have ME := hid (met_any gl gd g m vs vr e3 w3 HL3.out)
      have H0 := hid h0
      clear h0
      go_wp2_with fail
      refine ME.out.mono ?_
      rintro r w4 ⟨rfl, hl4, hk4⟩
      have HL4 := hid hl4
      have HD4 := hid (HD3.out.keep hk4 (fun b hb e => by
        rw [e] at hb
        exact HD3.out.nDS HL3.out (by decide) (by decide) hb))
      have HG4 := hid ((LoG.of_dk (gl := gl) (vr := vr) HG3.out).trans (LoG.of_own hk4))
      have HKK := hid ((HG3.out.keep.mono (S' := fun b => ¬ DS gd v b ∧ b ≠ gl) (fun _ _ hb => hb.1)).trans (hk4.mono (fun _ _ hb => hb.2)))
      clear ME hl4 hk4
      go_wp2
      go_ret
      exact ⟨ret_int HRE.out.symm, v3, by rw [HRD.out]; exact HD4.out, .inl ⟨by rw [HRE.out]; exact H0.out, by rw [HRE.out]; exact HL4.out, HG4.out, HKK.out⟩⟩
    case pos =>
      subst h0
      go_wp2_with fail
      have hgC2 : gC ≠ gl := by have := HNR.out.1; omega
      have zc := fun y : SubT (KpR gl) w3.drew => ((((Keep.drew (· ≠ gl) w3).trans y.b.k).blk KC3.out hgC2)).look 0 rfl
      have zs := fun y : SubT (KpR gl) w3.drew => ((((Keep.drew (· ≠ gl) w3).trans y.b.k).blk KC3.out hgC2)).look 1 rfl
      have zr := fun y : SubT (KpR gl) w3.drew => ((((Keep.drew (· ≠ gl) w3).trans y.b.k).blk KC3.out hgC2)).look 2 rfl
      have za := fun y : SubT (KpR gl) w3.drew => (y.b.c 4 (by decide)).trans (HL3.out.below (Below.refl w3.heap.size w3).drew).cA
      refine wp_walkJ (T := KpR gl) (kpR_pre _) (.rd 0 (.rd 1 (.rd 2 (.rd 3 (.rd 4 (.rd 5 (.rd 6 (.rd 7 (.rd 8 (.rd 9 (.mv 10 (.rd 11 (.rd 12 (.bt 13 (.inv []))))))))))))))) (by kernel_rfl) rfl (by kernel_rfl) (by kernel_rfl) ?_
      iterate 10 (refine walkJ_rd rfl (fun K hK => ?_); go_simp; refine hK _ ?_; clear hK K)
      clear zc zs zr za
      have hd0 := (Below.refl w3.heap.size w3).drew
      have HD5 := hid (HD3.out.below hd0)
      have HL5 := hid (HL3.out.below hd0)
      have HG5 := hid (HG3.out.trans (DkG.of_below hd0))
      clear hd0 HD3 HL3 HG3 KC3
      generalize w3.drew = w5 at HD5 HL5 HG5 ⊢
      have x0 := HL5.out.cG
      have x1 := HL5.out.cS
      have x2 := HL5.out.cR
      have f0 := Blk.frozen HL5.out 0
      have f1 := Blk.frozen HL5.out 1
      have f2 := Blk.frozen HL5.out 2
      have ll := Blk.lt HL5.out
      (refine walkJ_mv rfl (fun K hK => ?_); go_simp; refine hK _ _ (KpR.set gl _ _ _ _) ?_; clear hK K)
      have hk6 := (KpR.set gl w5 (.int .i64 (G : Int)) (.slice a7 n c7) (.slice none 0 0)).k
      have HL6 : Hid (LgB _ gl gd (G : Int) (m : Int) (.slice a7 n c7) (.slice none 0 0) false) := hid (Blk.set (Blk.set (Blk.set HL5.out 0 (.int .i64 (G : Int))) 1 (.slice a7 n c7)) 2 (.slice none 0 0))
      have HK6 := hid hk6
      clear x0 x1 x2 f0 f1 f2 ll hk6
      generalize ((w5.setCell ⟨gl, 0, none⟩ (.int .i64 (G : Int))).setCell ⟨gl, 1, none⟩ (.slice a7 n c7)).setCell ⟨gl, 2, none⟩ (.slice none 0 0) = w6 at HL6 HK6 ⊢
      iterate 2 (refine walkJ_rd rfl (fun K hK => ?_); go_simp; refine hK _ ?_; clear hK K)
      have x4 := HL6.out.cA
      have f4 := Blk.frozen HL6.out 4
      have ll := Blk.lt HL6.out
      (refine walkJ_bt rfl (fun K hK => ?_); go_simp; refine hK _ _ ?_; clear hK K)
      refine walkJ_nil ?_
      clear x4 f4 ll
      have hk7 := HK6.out.trans (Keep.set (S := (· ≠ gl)) w6 (p := ⟨gl, 4, none⟩) (fun h => h rfl) (.int .i64 (M : Int)))
      have HL7 : Hid (LgB (w6.setCell ⟨gl, 4, none⟩ (.int .i64 (M : Int))) gl gd (G : Int) (M : Int) (.slice a7 n c7) (.slice none 0 0) false) := hid (Blk.set HL6.out 4 (.int .i64 (M : Int)))
      have HD7 := hid (HD5.out.keep hk7 (fun b hb e => by
        rw [e] at hb
        exact HD5.out.nDS HL5.out (by decide) (by decide) hb))
      have HG7 : Hid (LoG w _ gl gd v v3 vr (.slice none 0 0)) := hid ((LoG.of_dk (gl := gl) (vr := vr) HG5.out).trans ⟨hk7.mono (fun _ _ hb => hb.2.1), fun _ h => .inl h, .inr (fun b hb => by cases hb)⟩)
      clear hk7 HD5 HL5 HG5 HL6 HK6
      generalize w6.setCell ⟨gl, 4, none⟩ (.int .i64 (M : Int)) = w7 at HL7 HD7 HG7 ⊢
      go_wp2
      go_ret
      exact ⟨ret_int HRE.out.symm, v3, by rw [HRD.out]; exact HD7.out, .inr ⟨HRE.out, ⟨_, by rw [HGG.out, hM1]; exact HL7.out⟩, HG7.out⟩⟩

end Go.Proofs.Ytcpefolhohakmaa
