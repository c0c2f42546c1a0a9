/- Walk of mark. -/
import Derived.Test.YtcpefolhohakmaaH8
namespace Go.Proofs.Ytcpefolhohakmaa
open Go.RowKit
attribute [local irreducible] seqS seqST walkV walkJ

instance instKeep (S : Nat → Prop) (W : World) : Nonempty (SubT (Keep S) W) := ⟨⟨W, Keep.refl S W⟩⟩
theorem arr_bool_set (n : Nat) (I : Nat → Bool) (k : Nat) : arr n (fun j => if j = k then Value.bool true else .bool (I j)) = arr n (fun j => .bool (setB I k j)) := arr_congr fun j _ => by
  unfold setB
  by_cases e : j = k
  · rw [if_pos e, if_pos e]
  · rw [if_neg e, if_neg e]
theorem arr_mt_set (n : Nat) (f : Mt) (k : Nat) (o : Option Nat) : arr n (fun j => if j = k then oI o else oI (f j)) = arr n (fun j => oI (upd f k o j)) := arr_congr fun j _ => by
  unfold upd
  by_cases e : j = k
  · rw [if_pos e, if_pos e]
  · rw [if_neg e, if_neg e]
/-- What mark needs to know of the blocks. -/
structure Dst (gs gg gm gf gb ge gi : Nat) : Prop where
  f1 : gf ≠ gs
  f2 : gf ≠ gg
  f3 : gf ≠ gm
  f4 : gf ≠ gb
  f5 : gf ≠ ge
  f6 : gf ≠ gi
  i1 : gi ≠ gs
  i2 : gi ≠ gg
  i3 : gi ≠ gm
  i4 : gi ≠ gb
  i5 : gi ≠ ge
theorem SeR.setI {w : World} {gs gg gm gf gb ge gi : Nat} {gv qv : Value} {n : Nat} {m f : Mt} {bs : Nat → Nat} {ev : Nat → Bool} (h : SeR w gs gg gm gf gb ge gv qv n m f bs ev) (d : Dst gs gg gm gf gb ge gi) (k : Nat) (u : Value) : SeR (w.setCell ⟨gi, k, none⟩ u) gs gg gm gf gb ge gv qv n m f bs ev :=
  h.other d.i1.symm d.i2.symm d.i3.symm d.f6 d.i4.symm d.i5.symm u
theorem SeR.setF {w : World} {gs gg gm gf gb ge gi : Nat} {gv qv : Value} {n : Nat} {m f : Mt} {bs : Nat → Nat} {ev : Nat → Bool} (h : SeR w gs gg gm gf gb ge gv qv n m f bs ev) (d : Dst gs gg gm gf gb ge gi) (k : Nat) (o : Option Nat) : SeR (w.setCell ⟨gf, k, none⟩ (oI o)) gs gg gm gf gb ge gv qv n m (upd f k o) bs ev :=
  ⟨h.s.other d.f1.symm _, h.g.other d.f2.symm _, h.m.other d.f3.symm _, by have := h.f.arr_set k (oI o); rwa [arr_mt_set] at this, h.b.other d.f4.symm _, h.e.other d.f5.symm _⟩

set_option maxHeartbeats 4000000 in
set_option maxRecDepth 100000 in
theorem mark_any {gs gg gm gf gb ge gi : Nat} {gv qv : Value} {n : Nat} {m f : Mt} {bs : Nat → Nat} {ev : Nat → Bool} (hM : ∀ i j, m i = some j → j < n) (hB : ∀ i, i < n → bs i < n)
    {I : Nat → Bool} {b v c : Nat} {Y T : List Nat} (hsg : Seg f m b v (Y ++ T)) (hsim : Sim m (Y ++ T)) (hY : ∀ y ∈ Y, bs y ≠ b ∧ y < n) (hT : ∃ t T', T = t :: T' ∧ bs t = b ∧ t < n) (w : World) (h : SeR w gs gg gm gf gb ge gv qv n m f bs ev) (hI : Blk w gi (arr n fun i => .bool (I i)) 4) (d : Dst gs gg gm gf gb ge gi) :
    Calls Try.prog 98 #[.pointer (some ⟨gs, 0, none⟩), slV gi n, .int .i64 (v : Int), .int .i64 (b : Int), .int .i64 (c : Int)] w fun e w' =>
      e = .returned (.tuple #[]) ∧ SeR w' gs gg gm gf gb ge gv qv n m (markF m f c Y) bs ev ∧ Blk w' gi (arr n fun i => .bool (markI m bs I Y i)) 4 ∧ Keep (fun k => k ≠ gf ∧ k ≠ gi) w w' := by
  have HSG := hid hsg
  have HSIM := hid hsim
  have HY := hid hY
  have HT := hid hT
  have HE := hid h
  have HI := hid hI
  have HD := hid d
  have HM := hid hM
  have HB := hid hB
  obtain ⟨F, hF⟩ : ∃ F, markF m f c Y = F := ⟨_, rfl⟩
  obtain ⟨J, hJ⟩ : ∃ F, markI m bs I Y = F := ⟨_, rfl⟩
  have HF := hid hF
  have HJ := hid hJ
  rw [hF, hJ]
  clear hsg hsim hY hT h hI d hF hJ hM hB
  go_enter Try.func98, Try.ntmps98
  go_wp2_with fail
  go_loopg [2, 4] Y.length (fun k z ch wr => ∃ (v0 c0 : Nat) (Yr : List Nat) (f0 : Mt) (I0 : Nat → Bool), z = .int .i64 (v0 : Int) ∧ ch = .int .i64 (c0 : Int) ∧ Hid (Yr.length = k) ∧ Hid (Seg f m b v0 (Yr ++ T)) ∧ Hid (∀ y ∈ Yr, y ∈ Y) ∧ Hid (∀ o, o ∉ Y → f0 o = f o) ∧ Hid (markF m f0 c0 Yr = F) ∧ Hid (markI m bs I0 Yr = J) ∧ Hid (SeR wr gs gg gm gf gb ge gv qv n m f0 bs ev) ∧ Hid (Blk wr gi (arr n fun i => .bool (I0 i)) 4) ∧ Keep (fun k => k ≠ gf ∧ k ≠ gi) w wr)
  case atStart => exact ⟨v, c, Y, f, I, rfl, rfl, hid rfl, HSG, hid (fun _ h => h), hid (fun _ _ => rfl), HF, HJ, HE, HI, Keep.refl _ _⟩
  case round =>
    obtain ⟨v0, c0, Yr, f0, I0, rfl, rfl, HLN, HS, HIN, HAG, HFR, HJR, HER, HIR, hkp⟩ := hrel
    have hhd : v0 < n ∧ (Yr = [] → bs v0 = b) ∧ (∀ y Yr', Yr = y :: Yr' → y = v0 ∧ bs v0 ≠ b ∧ ∃ o t, m v0 = some o ∧ f o = some t ∧ Seg f m b t (Yr' ++ T)) := by
      obtain ⟨t0, T', hTT, ht1, ht2⟩ := HT.out
      obtain ⟨l', hl'⟩ := HS.out.head
      cases Yr with
      | nil =>
        rw [hTT] at hl'
        have e : t0 = v0 := (List.cons.inj hl').1
        rw [← e]
        exact ⟨ht2, fun _ => ht1, fun y Yr' h => by cases h⟩
      | cons y Yr' =>
        have e : y = v0 := (List.cons.inj hl').1
        have hy := HY.out y (HIN.out y (by simp))
        rw [← e]
        refine ⟨hy.2, fun h => absurd h (by simp), fun y2 Yr2 h2 => ?_⟩
        obtain ⟨rfl, rfl⟩ := List.cons.inj h2
        refine ⟨rfl, hy.1, ?_⟩
        have hs := HS.out
        rw [← e] at hs
        generalize hgl : y :: Yr' ++ T = Lx at hs
        cases hs with
        | one =>
          have := (List.cons.inj hgl).2
          rw [hTT] at this
          simp at this
        | cons _ o t l2 hso hot hl2 =>
          have e2 : Yr' ++ T = l2 := (List.cons.inj hgl).2
          subst e2
          exact ⟨o, t, hso, hot, hl2⟩
    obtain ⟨hv0, hh1, hh2⟩ := hhd
    have H1 := hid hh1
    have H2 := hid hh2
    have hv2 : (v0 : Int) < (n : Int) := by omega
    have a3 := HER.out.s.look 3 rfl
    have ab := HER.out.b.arr_look hv0
    have hbn := HB.out v0 hv0
    clear hh1 hh2
    cases Yr with
    | nil =>
      have hbe : ((bs v0 : Int) != (b : Int)) = false := by simp [H1.out rfl]
      have HF2 : Hid (f0 = F) := HFR
      have HJ2 : Hid (I0 = J) := HJR
      clear H1 H2 HFR HJR
      go_wp2
      go_end0
      have e1 := HF2.out
      have e2 := HJ2.out
      subst e1 e2
      exact ⟨rfl, HER.out, HIR.out, hkp⟩
    | cons y Yr' =>
      obtain ⟨e, hne, o, t, g1, g2, g3⟩ := H2.out y Yr' rfl
      have ho := HM.out v0 o g1
      have hyY := HIN.out y (by simp)
      have hoY : o ∉ Y := fun hm => HSIM.out.no v0 (by rw [← e]; simp [hyY]) o (by simp [hm]) g1
      have hfo : f0 o = some t := by rw [HAG.out o hoY]; exact g2
      have hfm := HFR.out
      have hjm := HJR.out
      unfold markF at hfm
      unfold markI at hjm
      rw [e, g1] at hfm hjm
      have hov : o ≠ v0 := fun h => hoY (by rw [h, ← e]; exact hyY)
      have hvY : v0 ∈ Y := by rw [← e]; exact hyY
      have HG1 := hid g1
      have HFO := hid hfo
      have HFM : Hid (markF m (upd f0 v0 (some c0)) o Yr' = F) := hid hfm
      have HJM : Hid (markI m bs (setB (setB I0 (bs v0)) (bs o)) Yr' = J) := hid hjm
      have HS2 := hid g3
      have HIN2 : Hid (∀ y ∈ Yr', y ∈ Y) := hid fun y hy => HIN.out y (by simp [hy])
      have HAG2 : Hid (∀ o, o ∉ Y → upd f0 v0 (some c0) o = f o) := hid fun x hx => by
        rw [upd_ne _ _ (fun h => hx (by rw [h]; exact hvY))]; exact HAG.out x hx
      have hbo := HB.out o ho
      have HOV := hid hov
      have HLN2 : Hid (Yr'.length < gk) := hid (by rw [← HLN.out]; simp)
      have hbe : ((bs v0 : Int) != (b : Int)) = true := by
        rw [bne_iff_ne]
        intro h
        exact hne (by exact_mod_cast h)
      have ho2 : (o : Int) < (n : Int) := by omega
      obtain ⟨p, hp⟩ : ∃ p, bs v0 = p := ⟨_, rfl⟩
      obtain ⟨q, hq⟩ : ∃ p, bs o = p := ⟨_, rfl⟩
      have HP := hid hp
      have HQ := hid hq
      rw [hp] at ab hbn hbe HJM
      rw [hq] at hbo HJM
      have hp2 : (p : Int) < (n : Int) := by omega
      have hq2 : (q : Int) < (n : Int) := by omega
      clear H1 H2 HFR HJR hfm hjm e hne g1 g2 g3 hyY hoY hfo hov hvY HS HIN HAG HLN hp hq
      go_wp2_with fail
      have HWD := hid (Keep.drew (fun k => k ≠ gi) wr)
      have hER := fun y : SubT (Keep (fun k => k ≠ gi)) wr.drew => (HER.out).keep (HWD.out.trans y.b) HD.out.i1.symm HD.out.i2.symm HD.out.i3.symm HD.out.f6 HD.out.i4.symm HD.out.i5.symm
      have z3 := fun y => (hER y).s.look 3 rfl
      have z1 := fun y => (hER y).s.look 1 rfl
      have zb := fun y => (hER y).b.arr_look hv0
      have zo := fun y => (hER y).b.arr_look ho
      have zm := fun y => (hER y).m.arr_look hv0
      simp only [HP.out, HQ.out, HG1.out] at zb zo zm
      unfold oI oZ at zm
      clear hER a3 ab
      refine wp_walkJ (T := Keep (fun k => k ≠ gi)) (keep_pre _) (.rd 0 (.rd 1 (.rd 2 (.rd 3 (.rd 4 (.rd 5 (.rd 6 (.rd 7 (.rd 8 (.rd 9 (.rd 10 (.rd 11 (.rd 12 (.rd 13 (.rd 14 (.rd 15 (.rd 16 (.rd 17 (.rd 18 (.rd 19 (.rd 20 (.rd 21 (.rd 22 (.mv 23 (.rd 24 (.bt 25 (.inv []))))))))))))))))))))))))))) (by kernel_rfl) rfl (by kernel_rfl) (by kernel_rfl) ?_
      iterate 23 (refine walkJ_rd rfl (fun K hK => ?_); go_simp; refine hK _ ?_; clear hK K)
      clear z3 z1 zb zo zm
      have HER1 := hid (HER.out.keep HWD.out HD.out.i1.symm HD.out.i2.symm HD.out.i3.symm HD.out.f6 HD.out.i4.symm HD.out.i5.symm)
      have HIR1 : Hid (Blk wr.drew gi (arr n fun i => .bool (I0 i)) 4) := hid HIR.out.drew
      have hkp1 := hkp.trans (Keep.drew _ wr)
      clear HER HIR hkp HWD
      generalize wr.drew = W at HER1 HIR1 hkp1 ⊢
      have x0 := HIR1.out.arr_look hbn
      have f0' := HIR1.out.frozen p
      have l0 := HIR1.out.lt
      (refine walkJ_mv rfl (fun K hK => ?_); go_simp; refine hK _ _ (Keep.set W (p := ⟨gi, p, none⟩) (fun h => h rfl) (.bool true)) ?_; clear hK K)
      have HIR2 := hid (HIR1.out.arr_set p (.bool true))
      rw [arr_bool_set] at HIR2
      have HER2 := hid (HER1.out.setI HD.out p (.bool true))
      have hkp2 := hkp1.trans (Keep.set W (p := ⟨gi, p, none⟩) (fun h => h.2 rfl) (.bool true))
      clear HIR1 HER1 hkp1 x0 f0' l0
      generalize W.setCell ⟨gi, p, none⟩ (.bool true) = W2 at HIR2 HER2 hkp2 ⊢
      have x0 := HIR2.out.arr_look hbo
      have f0' := HIR2.out.frozen q
      have l0 := HIR2.out.lt
      iterate 1 (refine walkJ_rd rfl (fun K hK => ?_); go_simp; refine hK _ ?_; clear hK K)
      (refine walkJ_bt rfl (fun K hK => ?_); go_simp; refine hK _ _ ?_; clear hK K)
      refine walkJ_nil ?_
      have HIR3 := hid (HIR2.out.arr_set q (.bool true))
      rw [arr_bool_set] at HIR3
      have HER3 := hid (HER2.out.setI HD.out q (.bool true))
      have hkp3 := hkp2.trans (Keep.set W2 (p := ⟨gi, q, none⟩) (fun h => h.2 rfl) (.bool true))
      clear HIR2 HER2 hkp2 x0 f0' l0
      generalize W2.setCell ⟨gi, q, none⟩ (.bool true) = W3 at HIR3 HER3 hkp3 ⊢
      have a2 := HER3.out.s.look 2 rfl
      have af := HER3.out.f.arr_look hv0
      have ff := HER3.out.f.frozen v0
      have fl := HER3.out.f.lt
      have HER4 := hid (HER3.out.setF HD.out v0 (some c0))
      have HIR4 := hid (HIR3.out.other (p := ⟨gf, v0, none⟩) HD.out.f6.symm (oI (some c0)))
      have hkp4 := hkp3.trans (Keep.set W3 (p := ⟨gf, v0, none⟩) (fun h => h.1 rfl) (oI (some c0)))
      have a1 := HER4.out.s.look 1 rfl
      have am := HER4.out.m.arr_look hv0
      rw [HG1.out] at am
      unfold oI oZ at am a1 HER4 HIR4 hkp4
      clear HIR3 HER3 hkp3
      go_wp2_with fail
      clear a2 af ff fl a1 am hbe
      have HFO2 : Hid (upd f0 v0 (some c0) o = some t) := hid (by rw [upd_ne _ _ HOV.out]; exact HFO.out)
      generalize W3.setCell ⟨gf, v0, none⟩ (.int .i64 (c0 : Int)) = W4 at HER4 HIR4 hkp4 ⊢
      have hER := fun y : SubT (Below W4.heap.size) W4.drew => HER4.out.below ((Below.refl W4.heap.size W4).drew.trans y.b)
      have z2 := fun y => (hER y).s.look 2 rfl
      have z1 := fun y => (hER y).s.look 1 rfl
      have zm := fun y => (hER y).m.arr_look hv0
      have zf := fun y => (hER y).f.arr_look ho
      simp only [HG1.out, HFO2.out] at zm zf
      unfold oI oZ at zm zf
      clear hER
      refine wp_walkJ (T := Below (W4.heap.size)) (belowV_pre _) (.rd 0 (.rd 1 (.rd 2 (.rd 3 (.rd 4 (.rd 5 (.rd 6 (.rd 7 (.rd 8 (.rd 9 (.rd 10 (.rd 11 (.rd 12 (.rd 13 (.inv []))))))))))))))) (by kernel_rfl) rfl (by kernel_rfl) (by kernel_rfl) ?_
      iterate 14 (refine walkJ_rd rfl (fun K hK => ?_); go_simp; refine hK _ ?_; clear hK K)
      refine walkJ_nil ?_
      have hd0 := (Below.refl W4.heap.size W4).drew
      have hkp5 := hkp4.trans (Keep.of_below hd0)
      have HER5 := hid (HER4.out.below hd0)
      have HIR5 := hid (HIR4.out.below hd0)
      clear z1 z2 zm zf hd0 HER4 HIR4 hkp4 HFO HFO2 HOV HG1 HP HQ
      go_wp2
      go_roundg Yr'.length
      case measure => exact HLN2.out
      case rel => exact ⟨t, o, Yr', _, _, rfl, rfl, hid rfl, HS2, HIN2, HAG2, HFM, HJM, HER5, HIR5, hkp5⟩

end Go.Proofs.Ytcpefolhohakmaa
