/- Walk of curve.Work's closure. -/
import Derived.Test.YtfkclcoipadhmaaGreatDoorFp
import Derived.Test.YtfkclcoipadhmaaGreatDoorDz
import Derived.Test.YtfkclcoipadhmaaGreatDoorRc
namespace Go.Proofs.YtfkclcoipadhmaaGreatDoor
open Go.RowKit
attribute [local irreducible] seqS seqST walkV walkJ

theorem strip_cal (ok : Bool) (W : Rat) (p q : Pt) (k1 k2 k3 k4 : Bool) (v1 v2 v3 v4 : Rat) (h1 : k1 = calK ok (fitO (p.2 + q.2))) (e1 : v1 = calV ok (fitO (p.2 + q.2))) (h2 : k2 = calK k1 (fitO (v1 / 2))) (e2 : v2 = calV k1 (fitO (v1 / 2)))
    (h3 : k3 = calK k2 (fitO (q.1 - p.1))) (e3 : v3 = calV k2 (fitO (q.1 - p.1))) (h4 : k4 = calK k3 (fitO (v2 * v3))) (e4 : v4 = calV k3 (fitO (v2 * v3))) :
    calK k4 (fitO (W + v4)) = calK ok (stripO W p q) ∧ calV k4 (fitO (W + v4)) = calV ok (stripO W p q) := by
  have a4 := cal_bind k3 (fitO (v2 * v3)) (fun a => fitO (W + a))
  rw [← h4, ← e4] at a4
  have a3 := cal_bind k2 (fitO (q.1 - p.1)) (fun d => (fitO (v2 * d)).bind fun a => fitO (W + a))
  rw [← h3, ← e3] at a3
  have a2 := cal_bind k1 (fitO (v1 / 2)) (fun m => (fitO (q.1 - p.1)).bind fun d => (fitO (m * d)).bind fun a => fitO (W + a))
  rw [← h2, ← e2] at a2
  have a1 := cal_bind ok (fitO (p.2 + q.2)) (fun h => (fitO (h / 2)).bind fun m => (fitO (q.1 - p.1)).bind fun d => (fitO (m * d)).bind fun a => fitO (W + a))
  rw [← h1, ← e1] at a1
  exact ⟨a4.1.trans (a3.1.trans (a2.1.trans a1.1)), a4.2.trans (a3.2.trans (a2.2.trans a1.2))⟩
theorem stripO_fits {W r : Rat} {p q : Pt} (h : stripO W p q = some r) : fits r := by
  unfold stripO at h
  cases h1 : fitO (p.2 + q.2) with
  | none => rw [h1] at h; cases h
  | some a =>
    rw [h1] at h
    simp only [Option.bind_some] at h
    cases h2 : fitO (a / 2) with
    | none => rw [h2] at h; cases h
    | some m =>
      rw [h2] at h
      simp only [Option.bind_some] at h
      cases h3 : fitO (q.1 - p.1) with
      | none => rw [h3] at h; cases h
      | some d =>
        rw [h3] at h
        simp only [Option.bind_some] at h
        cases h4 : fitO (m * d) with
        | none => rw [h4] at h; cases h
        | some e =>
          rw [h4] at h
          exact (fitO_fits h).1
theorem two_frQ : frQ 2 = .agg #[.int .i64 2, .int .i64 1] := rfl
theorem two_fits : fits 2 := ⟨by decide, by decide⟩
/-- All below B but block g stands. -/
structure BelG (g B : Nat) (a b : World) : Prop where
  os : b.os = a.os
  tape : b.tape = a.tape
  output : b.output = a.output
  size : a.heap.size ≤ b.heap.size
  block : ∀ k, k < B → k ≠ g → b.heap[k]? = a.heap[k]?
theorem belG_pre (g B : Nat) : Pre (BelG g B) := ⟨fun _ => ⟨rfl, rfl, rfl, Nat.le_refl _, fun _ _ _ => rfl⟩, fun h k => ⟨k.os.trans h.os, k.tape.trans h.tape, k.output.trans h.output, Nat.le_trans h.size k.size, fun i hi hne => (k.block i hi hne).trans (h.block i hi hne)⟩⟩
instance instBelG (g B : Nat) (W : World) : Nonempty (SubT (BelG g B) W) := ⟨⟨W, (belG_pre g B).refl W⟩⟩
theorem BelG.of_calT {g B : Nat} {a b : World} (h : CalT g a b) (hB : B ≤ a.heap.size) : BelG g B a b :=
  ⟨World.grownBy.os h, World.grownBy.tape h, World.grownBy.output h, World.grownBy.size h, fun k hk hne => World.grownBy.block h k (by omega) (fun e => hne (Option.some.inj e))⟩
theorem BelG.blk {g B b : Nat} {w w' : World} {cs : Array Value} {t : TypeId} (h : BelG g B w w') (k : Blk w b cs t) (hb : b < B) (hne : b ≠ g) : Blk w' b cs t := (h.block b hb hne).trans k
theorem BelG.z0 {g B : Nat} {w w' : World} {ok : Bool} (h : BelG g B w w') (hz : Z0 w) (hk : CalB w g ok) (hB : 0 < B) : Z0 w' := by
  have hne := calB_ne (off := 0) hk hz.2.2
  exact ⟨Nat.lt_of_lt_of_le hz.1 h.size, (World.cell?_of_block (h.block 0 hB hne)).trans hz.2.1, (World.cell?_of_block (h.block 0 hB hne)).trans hz.2.2⟩
theorem BelG.row {g B b : Nat} {w w' : World} (h : BelG g B w w') (hb : B ≤ b) (cs : Array Value) : BelG g B w (w'.setRow b cs) :=
  ⟨h.os, h.tape, h.output, by rw [row_size]; exact h.size, fun k hk hne => (row_other w' b cs (by omega)).trans (h.block k hk hne)⟩
/-- What holds of what has come up in the region 'mean := k.div(k.add(..), two)'. -/
structure StI (g B : Nat) (w0 : World) (ok k1 k2 : Bool) (v1 v2 : Value) (ft : TypeId) (rc : Array Value) (l : Nat → Bool) (V : Nat → Value) (w : World) : Prop where
  t : BelG g B w0 w
  k : CalB w g (if l 6 then k2 else if l 4 then k1 else ok)
  c4 : l 4 = true → V 4 = v1
  c6 : l 6 = true → V 6 = v2
  a : l 7 = true → VarI B w (V 7) ft 2 (l 8) rc
theorem VarI.calT {B g : Nat} {w w' : World} {v : Value} {t : TypeId} {sz : Nat} {st : Bool} {rc : Array Value} (h : VarI B w v t sz st rc) (hg : g < B) (hb : CalT g w w') : VarI B w' v t sz st rc := by
  obtain ⟨b, cs, h1, h2, h3, h4⟩ := h
  exact ⟨b, cs, h1, h2, CalT.blk hb h3 (by omega), h4⟩

set_option maxHeartbeats 8000000 in
set_option maxRecDepth 100000 in
theorem stripPt_any (p q : Pt) (hp : fits p.1 ∧ fits p.2) (hq : fits q.1 ∧ fits q.2) (W : Rat) (hW : fits W) (g gt gw B : Nat) (ok : Bool) (w : World) (hz : Z0 w) (hk : CalB w g ok) (kt : Blk w gt #[.int .i64 2, .int .i64 1] 31) (kw : Blk w gw #[.int .i64 W.num, .int .i64 (W.den : Int)] 31)
    (hg1 : gt ≠ g) (hg2 : gw ≠ g) (hg3 : gt ≠ gw) (hBg : B ≤ g) (hBw : B ≤ gw) :
    Calls Tryz.prog 65 #[ptQ p, ptQ q, .pointer (some ⟨g, 0, none⟩), .pointer (some ⟨gt, 0, none⟩), .pointer (some ⟨gw, 0, none⟩)] w fun r w' => r = .returned (.tuple #[]) ∧ ∃ V, (calK ok (stripO W p q) = true → stripO W p q = some V) ∧ fits V ∧
      CalB w' g (calK ok (stripO W p q)) ∧ Blk w' gt #[.int .i64 2, .int .i64 1] 31 ∧ Blk w' gw #[.int .i64 V.num, .int .i64 (V.den : Int)] 31 ∧ Below B w w' := by
  have hsc := strip_cal ok W p q
  have S1 := hid (fun w hz hk => calc_add p.2 q.2 hp.2 hq.2 g ok w hz hk)
  rw [(cop_cal ok (p.2 + q.2)).1, (cop_cal ok (p.2 + q.2)).2] at S1
  have F1 := hid (calV_fits (ok := ok) (o := fitO (p.2 + q.2)) (fun r hr => (fitO_fits hr).1))
  obtain ⟨k1, hk1⟩ : ∃ o, calK ok (fitO (p.2 + q.2)) = o := ⟨_, rfl⟩
  obtain ⟨v1, hv1⟩ : ∃ o, calV ok (fitO (p.2 + q.2)) = o := ⟨_, rfl⟩
  rw [hk1, hv1] at S1
  rw [hv1] at F1
  have S2 := hid (fun w hz hk => calc_div v1 2 F1.out two_fits g k1 (fun _ => by decide) w hz hk)
  rw [(cop_cal k1 (v1 / 2)).1, (cop_cal k1 (v1 / 2)).2, two_frQ] at S2
  have F2 := hid (calV_fits (ok := k1) (o := fitO (v1 / 2)) (fun r hr => (fitO_fits hr).1))
  obtain ⟨k2, hk2⟩ : ∃ o, calK k1 (fitO (v1 / 2)) = o := ⟨_, rfl⟩
  obtain ⟨v2, hv2⟩ : ∃ o, calV k1 (fitO (v1 / 2)) = o := ⟨_, rfl⟩
  rw [hk2, hv2] at S2
  rw [hv2] at F2
  have S3 := hid (fun w hz hk => calc_sub q.1 p.1 hq.1 hp.1 g k2 w hz hk)
  rw [(cop_cal k2 (q.1 - p.1)).1, (cop_cal k2 (q.1 - p.1)).2] at S3
  have F3 := hid (calV_fits (ok := k2) (o := fitO (q.1 - p.1)) (fun r hr => (fitO_fits hr).1))
  obtain ⟨k3, hk3⟩ : ∃ o, calK k2 (fitO (q.1 - p.1)) = o := ⟨_, rfl⟩
  obtain ⟨v3, hv3⟩ : ∃ o, calV k2 (fitO (q.1 - p.1)) = o := ⟨_, rfl⟩
  rw [hk3, hv3] at S3
  rw [hv3] at F3
  have S4 := hid (fun w hz hk => calc_mul v2 v3 F2.out F3.out g k3 w hz hk)
  rw [(cop_cal k3 (v2 * v3)).1, (cop_cal k3 (v2 * v3)).2] at S4
  have F4 := hid (calV_fits (ok := k3) (o := fitO (v2 * v3)) (fun r hr => (fitO_fits hr).1))
  obtain ⟨k4, hk4⟩ : ∃ o, calK k3 (fitO (v2 * v3)) = o := ⟨_, rfl⟩
  obtain ⟨v4, hv4⟩ : ∃ o, calV k3 (fitO (v2 * v3)) = o := ⟨_, rfl⟩
  rw [hk4, hv4] at S4
  rw [hv4] at F4
  have S5 := hid (fun w hz hk => calc_add W v4 hW F4.out g k4 w hz hk)
  have hcc := hsc k1 k2 k3 k4 v1 v2 v3 v4 hk1.symm hv1.symm hk2.symm hv2.symm hk3.symm hv3.symm hk4.symm hv4.symm
  rw [(cop_cal k4 (W + v4)).1, (cop_cal k4 (W + v4)).2, hcc.1, hcc.2] at S5
  have F5 := hid (calV_fits (ok := ok) (o := stripO W p q) (fun r hr => stripO_fits hr))
  have HOUT : Hid (calK ok (stripO W p q) = true → stripO W p q = some (calV ok (stripO W p q))) := hid (fun h => by
    obtain ⟨-, r, h1, h2⟩ := calV_of h
    rw [h2]; exact h1)
  generalize calV ok (stripO W p q) = v5 at S5 F5 HOUT
  obtain ⟨O, hO⟩ : ∃ o, stripO W p q = o := ⟨_, rfl⟩
  rw [hO] at HOUT S5 ⊢
  obtain ⟨k5, hk5⟩ : ∃ o, calK ok O = o := ⟨_, rfl⟩
  rw [hk5] at S5 HOUT ⊢
  unfold frQ at S1 S2 S3 S4 S5
  unfold ptQ
  clear hsc hcc hk1 hv1 hk2 hv2 hk3 hv3 hk4 hv4 hO hk5 hp hq hW F1 F2 F3 F4
  obtain ⟨p1, hp1⟩ : ∃ z, p.1.num = z := ⟨_, rfl⟩
  obtain ⟨p2, hp2⟩ : ∃ z, (p.1.den : Int) = z := ⟨_, rfl⟩
  obtain ⟨p3, hp3⟩ : ∃ z, p.2.num = z := ⟨_, rfl⟩
  obtain ⟨p4, hp4⟩ : ∃ z, (p.2.den : Int) = z := ⟨_, rfl⟩
  obtain ⟨q1, hq1⟩ : ∃ z, q.1.num = z := ⟨_, rfl⟩
  obtain ⟨q2, hq2⟩ : ∃ z, (q.1.den : Int) = z := ⟨_, rfl⟩
  obtain ⟨q3, hq3⟩ : ∃ z, q.2.num = z := ⟨_, rfl⟩
  obtain ⟨q4, hq4⟩ : ∃ z, (q.2.den : Int) = z := ⟨_, rfl⟩
  rw [hp1, hp2, hp3, hp4, hq1, hq2, hq3, hq4]
  rw [hp3, hp4, hq3, hq4] at S1
  rw [hp1, hp2, hq1, hq2] at S3
  clear hp1 hp2 hp3 hp4 hq1 hq2 hq3 hq4
  have k0 := (Blk.new w #[.int .i64 p1, .int .i64 p2, .int .i64 p3, .int .i64 p4] 44).alloc (.cells #[.int .i64 q1, .int .i64 q2, .int .i64 q3, .int .i64 q4] 44)
  have k1' := Blk.new (w.alloc (.cells #[.int .i64 p1, .int .i64 p2, .int .i64 p3, .int .i64 p4] 44)) #[.int .i64 q1, .int .i64 q2, .int .i64 q3, .int .i64 q4] 44
  rw [World.size_alloc] at k1'
  have hB := ((Below.refl w.heap.size w).alloc (Nat.le_refl _) (.cells #[.int .i64 p1, .int .i64 p2, .int .i64 p3, .int .i64 p4] 44)).alloc (by simp) (.cells #[.int .i64 q1, .int .i64 q2, .int .i64 q3, .int .i64 q4] 44)
  have hgl := hk.lt
  have htl := kt.lt
  have hwl := kw.lt
  go_enter Tryz.func65, Tryz.ntmps65
  go_wp2_with fail
  obtain ⟨w0, hw0⟩ : ∃ w0, (w.alloc (.cells #[.int .i64 p1, .int .i64 p2, .int .i64 p3, .int .i64 p4] 44)).alloc (.cells #[.int .i64 q1, .int .i64 q2, .int .i64 q3, .int .i64 q4] 44) = w0 := ⟨_, rfl⟩
  rw [hw0] at k0 k1' hB ⊢
  clear hw0
  have hz0 := hz.below hB
  have hk0 := CalB.below hk hB
  have kt0 := kt.below hB
  have kw0 := kw.below hB
  clear hz hk kt kw
  obtain ⟨S, hS⟩ : ∃ S, w0.heap.size = S := ⟨_, rfl⟩
  have hw0S : w.heap.size + 1 < S := by rw [← hS]; exact k1'.lt
  have hdr := (Below.refl w0.heap.size w0).drew
  have k0d := k0.below hdr
  have k1d := k1'.below hdr
  have ktd := kt0.below hdr
  have kwd := kw0.below hdr
  have hkd := CalB.below hk0 hdr
  have hzd := hz0.below hdr
  have hBd := hB.trans (hdr.mono hB.size)
  have z0 := fun x : SubT (BelG g S) w0.drew => (x.b.blk k0d (by omega) (by omega)).look 2 rfl
  have z1 := fun x : SubT (BelG g S) w0.drew => (x.b.blk k0d (by omega) (by omega)).look 3 rfl
  have z2 := fun x : SubT (BelG g S) w0.drew => (x.b.blk k1d (by omega) (by omega)).look 2 rfl
  have z3 := fun x : SubT (BelG g S) w0.drew => (x.b.blk k1d (by omega) (by omega)).look 3 rfl
  have z4 := fun x : SubT (BelG g S) w0.drew => (x.b.blk ktd (by omega) hg1).look 0 rfl
  have z5 := fun x : SubT (BelG g S) w0.drew => (x.b.blk ktd (by omega) hg1).look 1 rfl
  have hsd : w0.drew.heap.size = S := hS
  refine wp_walkJ (T := BelG g S) (belG_pre g S) (.rd 0 (.rd 1 (.rd 2 (.rd 3 (.rd 5 (.inv [4, 6, 7, 8])))))) (by kernel_rfl) rfl (by kernel_rfl) (by kernel_rfl) ?_
  iterate 5 (refine walkJ_rd rfl (fun K hK => ?_); go_simp; refine hK _ ?_; clear hK K)
  clear z0 z1 z2 z3 z4 z5 hz0 hk0 kt0 kw0 k0 k1' hdr
  obtain ⟨Wd, hWd⟩ : ∃ Wd, w0.drew = Wd := ⟨_, rfl⟩
  rw [hWd] at k0d k1d ktd kwd hkd hzd hBd hsd ⊢
  have HSD := hid hsd
  have hS0 : 0 < S := by omega
  clear hWd hsd hS hB w0
  refine walkJ_inv (StI g S Wd ok k1 k2 (.agg #[.int .i64 v1.num, .int .i64 (v1.den : Int)]) (.agg #[.int .i64 v2.num, .int .i64 (v2.den : Int)]) 31 #[.int .i64 v2.num, .int .i64 (v2.den : Int)]) [(4, 12), (6, 14), (7, 7)] (by kernel_rfl) ?_ ?_ ?_
  · exact ⟨(belG_pre g S).refl _, hkd, fun h => (by cases h), fun h => (by cases h), fun h => (by cases h)⟩
  · refine stepsI_cons [] [6, 8] [] rfl (by kernel_rfl) (by kernel_rfl) (by kernel_rfl) (fun K l V x hx hl hds hn hI hK => ?_) ?_
    · go_simp
      have hsx : S ≤ x.heap.size := by rw [← HSD.out]; exact hx.size
      have hk4 := hI.k
      rw [if_neg (by rw [hds.1]; decide), if_neg (by rw [hn]; decide)] at hk4
      refine (S1.out _ (hI.t.z0 hzd hkd hS0) hk4).mono ?_
      rintro e w9 ⟨rfl, hk9, ht9⟩
      refine ⟨_, rfl, hK _ _ (BelG.of_calT ht9 hsx) ?_⟩
      refine ⟨(belG_pre g S).trans hI.t (BelG.of_calT ht9 hsx), ?_, fun _ => rfl, fun h => hI.c6 h, fun h => (hI.a h).calT (by omega) ht9⟩
      rw [if_neg (by show ¬ (updL l 4) 6 = true; exact fun h => by have : l 6 = true := h; rw [hds.1] at this; cases this), if_pos (by rfl)]
      exact hk9
    refine stepsI_cons [4] [8] [(4, 12)] rfl (by kernel_rfl) (by kernel_rfl) (by kernel_rfl) (fun K l V x hx hl hds hn hI hK => ?_) ?_
    · simp only [putsP, hI.c4 hl.1]
      go_simp
      have hsx : S ≤ x.heap.size := by rw [← HSD.out]; exact hx.size
      have hk4 := hI.k
      rw [if_neg (by rw [hn]; decide), if_pos hl.1] at hk4
      refine (S2.out _ (hI.t.z0 hzd hkd hS0) hk4).mono ?_
      rintro e w9 ⟨rfl, hk9, ht9⟩
      refine ⟨_, rfl, hK _ _ (BelG.of_calT ht9 hsx) ?_⟩
      exact ⟨(belG_pre g S).trans hI.t (BelG.of_calT ht9 hsx), hk9, fun h => hI.c4 h, fun _ => rfl, fun h => (hI.a h).calT (by omega) ht9⟩
    refine stepsI_cons [] [8] [] rfl (by kernel_rfl) (by kernel_rfl) (by kernel_rfl) (fun K l V x hx hl hds hn hI hK => ?_) ?_
    · go_simp
      have hsx : S ≤ x.heap.size := by rw [← HSD.out]; exact hx.size
      have ht9 : CalT g x (x.alloc (.cells #[.int .i64 0, .int .i64 0] 31)) := CalT.of_below (alloc_below x _)
      refine hK _ _ (BelG.of_calT ht9 hsx) ?_
      exact ⟨(belG_pre g S).trans hI.t (BelG.of_calT ht9 hsx), CalB.below hI.k (alloc_below x _), fun h => hI.c4 h, fun h => hI.c6 h, fun _ => VarI.new x _ _ hsx rfl hds.1⟩
    refine stepsI_cons [4, 6, 7] [] [(4, 12), (6, 14), (7, 7)] rfl (by kernel_rfl) (by kernel_rfl) (by kernel_rfl) (fun K l V x hx hl hds hn hI hK => ?_) ?_
    · obtain ⟨b, cs, e1, e2, e3, e4, -⟩ := hI.a hl.2.2.1
      have hbg : g ≠ b := by omega
      refine ⟨rfl, gives_store_row 31 (.tmp 7) (.tmp 14) rfl b _ e1 (hI.c6 hl.2.1) 31 cs e3 pinfoFrac e4 (by simp [Value.oneCell']) (hK _ _ (((belG_pre g S).refl x).row e2 _) ?_)⟩
      refine ⟨hI.t.row e2 _, row_blk_other hI.k hbg, fun h => hI.c4 h, fun h => hI.c6 h, fun _ => ?_⟩
      show VarI _ _ (V 7) _ _ _ _
      rw [e1]
      exact VarI.filled e2 e3 rfl
    exact stepsI_nil
  intro V W2 hW2 hI
  obtain ⟨gI, eI1, geI, kI⟩ := (hI.a rfl).out
  have q6 := hI.c6 rfl
  have q4 := hI.c4 rfl
  have tI := hI.t
  have hkI : CalB W2 g k2 := hI.k
  clear hI hW2
  simp only [putsP, q4, q6, eI1]
  go_simp
  clear q4 q6 eI1
  have hzI := tI.z0 hzd hkd hS0
  have k0I := tI.blk k0d (by omega) (by omega)
  have k1I := tI.blk k1d (by omega) (by omega)
  have ktI := tI.blk ktd (by omega) hg1
  have kwI := tI.blk kwd (by omega) hg2
  have hBI : Below B w W2 := ⟨tI.os.trans hBd.os, tI.tape.trans hBd.tape, tI.output.trans hBd.output, Nat.le_trans hBd.size tI.size, fun k hk => (tI.block k (by omega) (by omega)).trans (hBd.block k (by omega))⟩
  have hsI : S ≤ W2.heap.size := by rw [← HSD.out]; exact tI.size
  clear tI hzd hkd k0d k1d ktd kwd hBd HSD S1 S2
  go_wp2_with fail
  have hd : CalT g W2 W2.drew := CalT.of_below (Below.refl W2.heap.size W2).drew
  have tx := fun x : SubT (CalT g) W2.drew => (calT_pre g).trans hd x.b
  have z0 := fun x : SubT (CalT g) W2.drew => (CalT.blk (tx x) k0I (by omega)).look 0 rfl
  have z1 := fun x : SubT (CalT g) W2.drew => (CalT.blk (tx x) k0I (by omega)).look 1 rfl
  have z2 := fun x : SubT (CalT g) W2.drew => (CalT.blk (tx x) k1I (by omega)).look 0 rfl
  have z3 := fun x : SubT (CalT g) W2.drew => (CalT.blk (tx x) k1I (by omega)).look 1 rfl
  have z4 := fun x : SubT (CalT g) W2.drew => (CalT.blk (tx x) kwI hg2).look 0 rfl
  have z5 := fun x : SubT (CalT g) W2.drew => (CalT.blk (tx x) kwI hg2).look 1 rfl
  have z6 := fun x : SubT (CalT g) W2.drew => (CalT.blk (tx x) kI (by omega)).look 0 rfl
  have z7 := fun x : SubT (CalT g) W2.drew => (CalT.blk (tx x) kI (by omega)).look 1 rfl
  clear tx
  refine wp_walkJ (T := CalT g) (calT_pre g) (.rd 0 (.rd 1 (.rd 2 (.rd 3 (.rd 4 (.rd 5 (.mv 6 (.mv 7 (.bt 8 (.bt 9 (.inv []))))))))))) (by kernel_rfl) rfl (by kernel_rfl) (by kernel_rfl) ?_
  iterate 6 (refine walkJ_rd rfl (fun K hK => ?_); go_simp; refine hK _ ?_; clear hK K)
  clear z0 z1 z2 z3 z4 z5 z6 z7
  have hkd2 : CalB W2.drew g k2 := CalB.below hkI (Below.refl W2.heap.size W2).drew
  have hzd2 := hzI.below (Below.refl W2.heap.size W2).drew
  (refine walkJ_mv rfl (fun K hK => ?_); go_simp; refine (S3.out _ hzd2 hkd2).mono ?_; rintro e w5 ⟨rfl, hk5, ht5⟩; refine ⟨_, rfl, hK _ _ ht5 ?_⟩; clear hK K)
  have hz5 := hzd2.calT hkd2 ht5
  (refine walkJ_mv rfl (fun K hK => ?_); go_simp; refine (S4.out _ hz5 hk5).mono ?_; rintro e w6 ⟨rfl, hk6, ht6⟩; refine ⟨_, rfl, hK _ _ ht6 ?_⟩; clear hK K)
  have hz6 := hz5.calT hk5 ht6
  (refine walkJ_bt rfl (fun K hK => ?_); go_simp; refine (S5.out _ hz6 hk6).mono ?_; rintro e w7 ⟨rfl, hk7, ht7⟩; refine ⟨_, rfl, hK _ _ ?_⟩; clear hK K)
  have tw := (calT_pre g).trans ((calT_pre g).trans ((calT_pre g).trans hd ht5) ht6) ht7
  have hB7 := tw.below hBI hBg (by omega)
  have kt7 := CalT.blk tw ktI hg1
  have kw7 := CalT.blk tw kwI hg2
  clear hd hkd2 hzd2 ht5 hz5 hk5 ht6 hz6 hk6 ht7 tw S3 S4 S5 k0I k1I ktI kwI kI hzI hkI hBI
  have q0 := kw7.look 0 rfl
  have q1 := kw7.look 1 rfl
  have f2 := kw7.frozen
  have HW9 := hid ((kw7.set 0 (.int .i64 v5.num)).set 1 (.int .i64 (v5.den : Int)))
  have HK9 := hid (Blk.other (Blk.other hk7 (p := ⟨gw, 0, none⟩) (Ne.symm hg2) (.int .i64 v5.num)) (p := ⟨gw, 1, none⟩) (Ne.symm hg2) (.int .i64 (v5.den : Int)))
  have HT9 := hid (Blk.other (Blk.other kt7 (p := ⟨gw, 0, none⟩) hg3 (.int .i64 v5.num)) (p := ⟨gw, 1, none⟩) hg3 (.int .i64 (v5.den : Int)))
  have HB9 := hid ((hB7.setCell (p := ⟨gw, 0, none⟩) hBw (.int .i64 v5.num)).setCell (p := ⟨gw, 1, none⟩) hBw (.int .i64 (v5.den : Int)))
  clear kw7 hk7 kt7 hB7
  (refine walkJ_bt rfl (fun K hK => ?_); go_simp; refine hK _ _ ?_; clear hK K)
  refine walkJ_nil ?_
  go_wp2
  refine bodyPost_end (results_none rfl _ _ _) rfl ?_
  exact ⟨rfl, v5, HOUT.out, F5.out, HK9.out, HT9.out, HW9.out, HB9.out⟩

end Go.Proofs.YtfkclcoipadhmaaGreatDoor
