/- Walk of the law CurveHulled. -/
import Derived.Test.YtfkclcoipadhmaaDoorDw
import Derived.Test.YtfkclcoipadhmaaDoorVk
import Derived.Test.YtfkclcoipadhmaaDoorGz
import Derived.Test.YtfkclcoipadhmaaDoorGi
import Derived.Test.YtfkclcoipadhmaaDoorEe
namespace Go.Proofs.YtfkclcoipadhmaaDoor
open Go.RowKit
attribute [local irreducible] seqS seqST walkV walkJ

theorem toQ_ofQ4 (C : List Pt) : toQ (ofQ C) = C := by
  unfold toQ ofQ
  rw [List.map_map]
  refine (List.map_congr_left (fun p _ => ?_)).trans (List.map_id C)
  show (vq (p.1.num, (p.1.den : Int)), vq (p.2.num, (p.2.den : Int))) = p
  rw [vq_self, vq_self]
theorem ofQ_toQ {c : List P4} (h : RV c) : ofQ (toQ c) = c := by
  have hall := rv_all h
  unfold ofQ toQ
  rw [List.map_map]
  refine (List.map_congr_left (fun p hp => ?_)).trans (List.map_id c)
  obtain ⟨h1, h2⟩ := hall p hp
  show (((vq p.1).num, ((vq p.1).den : Int)), ((vq p.2).num, ((vq p.2).den : Int))) = p
  unfold vq
  rw [h1.num, h1.den, h2.num, h2.den]
theorem hul_zero {c : List P4} (h : hulE c = 0) : RV c ∧ HulF (toQ c) := by
  unfold hulE at h
  by_cases h1 : RV c
  · rw [if_pos h1] at h
    by_cases h2 : HulF (toQ c)
    · exact ⟨h1, h2⟩
    · rw [if_neg h2] at h; cases h
  · rw [if_neg h1] at h; cases h
/-- All that the law asks of the hull, plainly. -/
structure HulledP (c : List P4) (C D : List Pt) : Prop where
  cv : CV C
  dv : CV D
  last : D.getD (D.length - 1) (0, 0) = C.getD (C.length - 1) (0, 0)
  mem : ∀ k, k < D.length → ((((D.getD k (0, 0)).1.num, ((D.getD k (0, 0)).1.den : Int)), ((D.getD k (0, 0)).2.num, ((D.getD k (0, 0)).2.den : Int))) : P4) ∈ c
  rise : ∀ i, i + 2 < D.length → decide (((D.getD (i + 1) (0, 0)).2 - (D.getD i (0, 0)).2) * ((D.getD (i + 2) (0, 0)).1 - (D.getD i (0, 0)).1) < ((D.getD (i + 2) (0, 0)).2 - (D.getD i (0, 0)).2) * ((D.getD (i + 1) (0, 0)).1 - (D.getD i (0, 0)).1)) = true
  free : ∀ k m, k + 1 < D.length → m < C.length → (D.getD k (0, 0)).1 ≤ (C.getD m (0, 0)).1 → decide (((C.getD m (0, 0)).2 - (D.getD k (0, 0)).2) * ((D.getD (k + 1) (0, 0)).1 - (D.getD k (0, 0)).1) < ((D.getD (k + 1) (0, 0)).2 - (D.getD k (0, 0)).2) * ((C.getD m (0, 0)).1 - (D.getD k (0, 0)).1)) = false
  again : hulE (ofQ D) = 0 ∧ hulR false (ofQ D) = D
  rvd : RV (ofQ D)
theorem hulled_plain {c : List P4} (h : hulE c = 0) : HulledP c (toQ c) (hulR false c) := by
  obtain ⟨hr, hf⟩ := hul_zero h
  have hD : hulR false c = hulL false (toQ c) := if_pos h
  have hc := rv_cv hr
  have hd := hul_cv hc false
  have hrd := rv_ofQ.2 hd
  rw [hD]
  have hE : hulE (ofQ (hulL false (toQ c))) = 0 := by
    unfold hulE
    rw [if_pos hrd, toQ_ofQ4, if_pos (hul_fit hc hf false)]
  refine ⟨hc, hd, hul_last hc false, fun k hk => ?_, fun i hi => decide_eq_true (hul_rise hc hi), fun k m hk hm h1 => decide_eq_false (hul_free hc hk hm h1), ⟨hE, ?_⟩, hrd⟩
  · obtain ⟨j, hj, e⟩ := hul_mem hc false hk
    have h2 : (ofQ (toQ c)).getD j z4 ∈ ofQ (toQ c) := by
      rw [List.getD_eq_getElem?_getD, List.getElem?_eq_getElem (by rw [ofQ_len]; exact hj)]
      exact List.getElem_mem _
    rw [ofQ_get hj, ofQ_toQ hr] at h2
    rw [e]
    exact h2
  · unfold hulR
    rw [if_pos hE, toQ_ofQ4]
    exact hul_idem hc false

set_option maxHeartbeats 8000000 in
set_option maxRecDepth 100000 in
theorem CurveHulled_any (c : List P4) (v : Value) (w : World) (h : P4R 0 w v c) (hz : Z0 w) :
    Calls Tryd.prog 12 #[v] w fun r w' => r = .returned (.bool true) ∧ Below w.heap.size w w' := by
  have S1 := hid (Convex_any c v w h hz)
  have VA := hid (fun w h => r2Valid_any c v w h)
  have HPL := hid (fun h0 => hulled_plain (c := c) h0)
  have HZR := hid (fun h0 => (hul_zero (c := c) h0).1)
  have HTQ := hid (fun (w : World) (h : P4R 0 w v c) (hr : RV c) => P4R.toQ h hr)
  have HLC := hid (toQ_len c)
  generalize hulR false c = D at S1 HPL
  generalize hulE c = E at S1 HPL HZR
  generalize toQ c = C at HPL HTQ HLC
  have HIN := hid h
  obtain ⟨ac, cc, rfl, hcc1, hcc2, -⟩ := h
  unfold maxLen at hcc2
  go_enter Tryd.func12, Tryd.ntmps12
  go_wp2_with fail
  refine S1.out.mono ?_
  rintro r w1 ⟨⟨u1, rfl, q1⟩, hb1⟩
  have h1 := HIN.out.below hb1
  have hz1 := hz.below hb1
  have hs1 := hb1.size
  clear S1 hz
  by_cases h0 : E = 0
  case neg =>
    obtain ⟨af, cf, rfl, -⟩ := q1
    have hE1 : (E == 0) = false := by simpa using h0
    clear HPL HZR HTQ
    go_wp2_with fail
    refine (awake_any _ hz1).mono ?_
    rintro r w9 ⟨rfl, hb9⟩
    replace hb9 := hb1.trans (hb9.mono hb1.size)
    go_wp2
    go_ret
    exact ⟨rfl, hb9⟩
  subst h0
  have hP := HPL.out rfl
  have hrc := HZR.out rfl
  have pc := HTQ.out w1 h1 hrc
  have hdv := hP.dv
  have hlc := HLC.out
  have HP := hid hP
  rw [decide_eq_true hrc] at VA
  obtain ⟨n, hn⟩ : ∃ k, C.length = k := ⟨_, rfl⟩
  obtain ⟨m, hm⟩ : ∃ k, D.length = k := ⟨_, rfl⟩
  have hcl : c.length = n := hlc.symm.trans hn
  have hn2 : 2 ≤ n := by have := hP.cv.two; omega
  have hn48 : n ≤ 48 := by have := hP.cv.most; omega
  have hm2 : 2 ≤ m := by have := hdv.two; omega
  have hm48 : m ≤ 48 := by have := hdv.most; omega
  have HPD := hid (q1.mono (Nat.zero_le _))
  obtain ⟨ad, cd, rfl, hcd1, hcd2, hdc⟩ := q1
  obtain ⟨ac', cc', he', -, -, hcc⟩ := pc
  obtain ⟨rfl, -⟩ : ac' = ac ∧ True := by
    injection he' with g1 g2 g3
    exact ⟨g1.symm, trivial⟩
  unfold maxLen at hcd2
  have HN := hid hn
  have HM := hid hm
  rw [hm] at hcd1 HPD ⊢
  rw [hcl] at hcc1 HIN h1 VA ⊢
  obtain ⟨bc, oc, rfl, hbc, -, -, -, -⟩ := p_cell hcc (show 0 < C.length by omega)
  obtain ⟨bd, od, rfl, hbd, -, -, -, -⟩ := p_cell hdc (show 0 < D.length by omega)
  have hgc : ∀ (k : Nat), k < n → ∀ W, Below w1.heap.size w1 W → W.cell? ⟨bc, oc + k * 4, none⟩ = some (.int .i64 (C.getD k (0, 0)).1.num) ∧ W.cell? ⟨bc, oc + k * 4 + 1, none⟩ = some (.int .i64 ((C.getD k (0, 0)).1.den : Int)) ∧ W.cell? ⟨bc, oc + k * 4 + 2, none⟩ = some (.int .i64 (C.getD k (0, 0)).2.num) ∧ W.cell? ⟨bc, oc + k * 4 + 3, none⟩ = some (.int .i64 ((C.getD k (0, 0)).2.den : Int)) := by
    intro k hk W hW
    obtain ⟨b', off', he, hb', x0, x1, x2, x3⟩ := p_cell hcc (show k < C.length by omega)
    cases he
    exact ⟨(hW.cell (p := ⟨bc, oc + k * 4, none⟩) hb').trans x0, (hW.cell (p := ⟨bc, oc + k * 4 + 1, none⟩) hb').trans x1, (hW.cell (p := ⟨bc, oc + k * 4 + 2, none⟩) hb').trans x2, (hW.cell (p := ⟨bc, oc + k * 4 + 3, none⟩) hb').trans x3⟩
  have hgd : ∀ (k : Nat), k < m → ∀ W, Below w1.heap.size w1 W → W.cell? ⟨bd, od + k * 4, none⟩ = some (.int .i64 (D.getD k (0, 0)).1.num) ∧ W.cell? ⟨bd, od + k * 4 + 1, none⟩ = some (.int .i64 ((D.getD k (0, 0)).1.den : Int)) ∧ W.cell? ⟨bd, od + k * 4 + 2, none⟩ = some (.int .i64 (D.getD k (0, 0)).2.num) ∧ W.cell? ⟨bd, od + k * 4 + 3, none⟩ = some (.int .i64 ((D.getD k (0, 0)).2.den : Int)) := by
    intro k hk W hW
    obtain ⟨b', off', he, hb', x0, x1, x2, x3⟩ := p_cell hdc (show k < D.length by omega)
    cases he
    exact ⟨(hW.cell (p := ⟨bd, od + k * 4, none⟩) hb').trans x0, (hW.cell (p := ⟨bd, od + k * 4 + 1, none⟩) hb').trans x1, (hW.cell (p := ⟨bd, od + k * 4 + 2, none⟩) hb').trans x2, (hW.cell (p := ⟨bd, od + k * 4 + 3, none⟩) hb').trans x3⟩
  have HGC := hid hgc
  have HGD := hid hgd
  have VD := hid (fun w h => r2Valid_any (ofQ D) (.slice (some ⟨bd, od, none⟩) m cd) w h)
  rw [decide_eq_true hP.rvd] at VD
  have h1c := hid h1
  clear hP hrc hdv hlc hn hm hcl he' hcc hdc hgc hgd HPL HZR HTQ HLC h1
  go_wp2_with fail
  refine (VA.out _ h1c.out).mono ?_
  rintro r w2 ⟨rfl, hb2⟩
  have hz2 := hz1.below hb2
  have wL : IntKind.i64.wrap ((m : Int) - 1) = ((m - 1 : Nat) : Int) := by rw [IntWalk.i64_left]; unfold wrap64; omega
  have wN : IntKind.i64.wrap ((n : Int) - 1) = ((n - 1 : Nat) : Int) := by rw [IntWalk.i64_left]; unfold wrap64; omega
  have hm1 : m - 1 < m := by omega
  have hn1 : n - 1 < n := by omega
  clear VA
  go_wp2_with fail
  have hd0 := (Below.refl w2.heap.size w2).drew
  have hbd2 := hb2.trans (hd0.mono hb2.size)
  have hlast := HP.out.last
  rw [HM.out, HN.out] at hlast
  have gC := HGC.out (n - 1) hn1
  have gD := HGD.out (m - 1) hm1
  rw [hlast] at gD
  obtain ⟨P, hPe⟩ : ∃ P, C.getD (n - 1) (0, 0) = P := ⟨_, rfl⟩
  rw [hPe] at gC gD
  clear hlast hPe
  refine wp_walkJ (T := Below (w2.heap.size)) (belowV_pre _) (.rd 0 (.bt 1 (.rd 2 (.rd 3 (.rd 4 (.rd 5 (.rd 6 (.rd 7 (.rd 8 (.rd 9 (.rd 10 (.rd 11 (.rd 12 (.rd 13 (.rd 14 (.rd 15 (.rd 16 (.rd 17 (.inv []))))))))))))))))))) (by kernel_rfl) rfl (by kernel_rfl) (by kernel_rfl) ?_
  iterate 1 (refine walkJ_rd rfl (fun K hK => ?_); go_simp; refine hK _ ?_; clear hK K)
  (refine walkJ_bt rfl (fun K hK => ?_); go_simp; refine (VD.out _ (PsR.ofQ (HPD.out.below hbd2))).mono ?_; rintro e w3 ⟨rfl, hb3⟩; refine ⟨_, rfl, hK _ _ ?_⟩; clear hK K)
  have hb3' := hbd2.trans (hb3.mono hbd2.size)
  have z0 := fun y : SubT (Below w2.heap.size) w3 => (gD y.w (hb3'.trans (y.b.mono hb2.size))).1
  have z1 := fun y : SubT (Below w2.heap.size) w3 => (gD y.w (hb3'.trans (y.b.mono hb2.size))).2.1
  have z2 := fun y : SubT (Below w2.heap.size) w3 => (gD y.w (hb3'.trans (y.b.mono hb2.size))).2.2.1
  have z3 := fun y : SubT (Below w2.heap.size) w3 => (gD y.w (hb3'.trans (y.b.mono hb2.size))).2.2.2
  have z4 := fun y : SubT (Below w2.heap.size) w3 => (gC y.w (hb3'.trans (y.b.mono hb2.size))).1
  have z5 := fun y : SubT (Below w2.heap.size) w3 => (gC y.w (hb3'.trans (y.b.mono hb2.size))).2.1
  have z6 := fun y : SubT (Below w2.heap.size) w3 => (gC y.w (hb3'.trans (y.b.mono hb2.size))).2.2.1
  have z7 := fun y : SubT (Below w2.heap.size) w3 => (gC y.w (hb3'.trans (y.b.mono hb2.size))).2.2.2
  iterate 16 (refine walkJ_rd rfl (fun K hK => ?_); go_simp; refine hK _ ?_; clear hK K)
  clear z0 z1 z2 z3 z4 z5 z6 z7
  refine walkJ_nil ?_
  have hz3 := hz2.below (hd0.trans (hb3.mono hd0.size))
  have HB3 := hid hb3'
  have hs3 := hb3'.size
  clear hb3 hb3' hd0 hbd2 hb2 hz2 gC gD VD wN hn1
  have HB1 := hid hb1
  have HZ3 := hid hz3
  clear hb1 hz1 hz3
  go_wp2_with fail
  go_loopw [50] (fun x wr => ∃ k : Nat, x = .int .i64 k ∧ k ≤ m ∧ Hid (Below w3.heap.size w3 wr)) (fun x _ => m - (intOf x).toNat)
  case atStart => exact ⟨0, rfl, Nat.zero_le _, hid (Below.refl _ _)⟩
  case round =>
    obtain ⟨k, rfl, hk, HBK⟩ := hrel
    have hbw := HB3.out.trans (HBK.out.mono hs3)
    have hsr := hbw.size
    by_cases hkm : k < m
    case pos =>
      have hk2 : (k : Int) < (m : Int) := by omega
      obtain ⟨x0, x1, x2, x3⟩ := HGD.out k hkm wr hbw
      have hmem := HP.out.mem k (by rw [HM.out]; exact hkm)
      obtain ⟨P, hPe⟩ : ∃ P, D.getD k (0, 0) = P := ⟨_, rfl⟩
      rw [hPe] at x0 x1 x2 x3 hmem
      obtain ⟨p1, hp1⟩ : ∃ z, P.1.num = z := ⟨_, rfl⟩
      obtain ⟨p2, hp2⟩ : ∃ z, (P.1.den : Int) = z := ⟨_, rfl⟩
      obtain ⟨p3, hp3⟩ : ∃ z, P.2.num = z := ⟨_, rfl⟩
      obtain ⟨p4, hp4⟩ : ∃ z, (P.2.den : Int) = z := ⟨_, rfl⟩
      rw [hp1] at x0 hmem
      rw [hp2] at x1 hmem
      rw [hp3] at x2 hmem
      rw [hp4] at x3 hmem
      have CN := hid (fun w h => containsPt_any c ((p1, p2), (p3, p4)) (.slice (some ⟨bc, oc, none⟩) n cc) w h hmem)
      unfold p4V at CN
      have kP := Blk.new wr #[.int .i64 p1, .int .i64 p2, .int .i64 p3, .int .i64 p4] 52
      have bP := alloc_below wr (.cells #[.int .i64 p1, .int .i64 p2, .int .i64 p3, .int .i64 p4] 52)
      have y0 := kP.look 0 rfl
      have y1 := kP.look 1 rfl
      have y2 := kP.look 2 rfl
      have y3 := kP.look 3 rfl
      have hbP := hbw.trans (bP.mono hsr)
      have hbQ := HBK.out.trans (bP.mono HBK.out.size)
      clear hPe hp1 hp2 hp3 hp4 hmem HBK hbw
      go_wp2_with fail
      refine (CN.out _ (h1c.out.below hbP)).mono ?_
      rintro r w5 ⟨rfl, hb5⟩
      have HB5 := hid (hbQ.trans (hb5.mono hbQ.size))
      clear CN kP bP hb5 hbP hbQ x0 x1 x2 x3 y0 y1 y2 y3
      go_wp2
      go_roundw
      case rel => exact ⟨k + 1, by go_num, by omega, HB5⟩
      case measure => simp [intOf] <;> omega
    case neg =>
      obtain rfl : m = k := by omega
      have hk2 : ¬ (m : Int) < (m : Int) := by omega
      obtain ⟨w4, rfl⟩ : ∃ W, W = wr := ⟨_, rfl⟩
      clear hbw
      go_wp2_with fail
      go_loopw [7] (fun x wr => ∃ i : Nat, x = .int .i64 ((i : Int) + 2) ∧ i + 2 ≤ m ∧ Hid (Below w3.heap.size w3 wr)) (fun x _ => m - (intOf x).toNat)
      case atStart => exact ⟨0, rfl, by omega, HBK⟩
      case round =>
        clear hsr HBK
        obtain ⟨i, rfl, hi, HBK⟩ := hrel
        have hbw := HB3.out.trans (HBK.out.mono hs3)
        have hsr := hbw.size
        by_cases him : i + 2 < m
        case pos =>
          have hi2 : (i : Int) + 2 < (m : Int) := by omega
          have hi3 : (i : Int) < (m : Int) := by omega
          have hi4 : (i : Int) + 1 < (m : Int) := by omega
          have hi5 : 0 ≤ (i : Int) + 1 := by omega
          have hi6 : 0 ≤ (i : Int) + 2 := by omega
          have hi7 : ((i : Int) + 2).toNat = i + 2 := by omega
          have v0 : IntKind.i64.wrap ((i : Int) + 2 - 2) = (i : Int) := by rw [IntWalk.i64_left]; unfold wrap64; omega
          have v0' : IntKind.i64.wrap (i : Int) = (i : Int) := by rw [IntWalk.i64_left]; unfold wrap64; omega
          have v1 : IntKind.i64.wrap ((i : Int) + 2 - 1) = (i : Int) + 1 := by rw [IntWalk.i64_left]; unfold wrap64; omega
          have v1' : IntKind.i64.wrap ((i : Int) + 1) = (i : Int) + 1 := by rw [IntWalk.i64_left]; unfold wrap64; omega
          have fD := HP.out.dv.fit
          rw [HM.out] at fD
          have hris := HP.out.rise i (by rw [HM.out]; exact him)
          have AB := hid (fun w => above_any (D.getD i (0, 0)) (D.getD (i + 1) (0, 0)) (D.getD (i + 2) (0, 0)) (fD i (by omega)) (fD (i + 1) (by omega)) (fD (i + 2) him) w)
          rw [hris] at AB
          have g0 := HGD.out i (by omega)
          have g1 := HGD.out (i + 1) (by omega)
          have g2 := HGD.out (i + 2) him
          unfold ptQ at AB
          obtain ⟨P0, hP0⟩ : ∃ P, D.getD i (0, 0) = P := ⟨_, rfl⟩
          obtain ⟨P1, hP1⟩ : ∃ P, D.getD (i + 1) (0, 0) = P := ⟨_, rfl⟩
          obtain ⟨P2, hP2⟩ : ∃ P, D.getD (i + 2) (0, 0) = P := ⟨_, rfl⟩
          rw [hP0] at g0 AB
          rw [hP1] at g1 AB
          rw [hP2] at g2 AB
          have G0 := hid g0
          have G1 := hid g1
          have G2 := hid g2
          clear fD hris g0 g1 g2 hP0 hP1 hP2
          go_wp2_with fail
          have hd := (Below.refl wr.heap.size wr).drew
          have bx := fun y : SubT (Below wr.heap.size) wr.drew => hbw.trans ((hd.trans y.b).mono hsr)
          have z0 := fun y : SubT (Below wr.heap.size) wr.drew => (G0.out y.w (bx y)).1
          have z1 := fun y : SubT (Below wr.heap.size) wr.drew => (G0.out y.w (bx y)).2.1
          have z2 := fun y : SubT (Below wr.heap.size) wr.drew => (G0.out y.w (bx y)).2.2.1
          have z3 := fun y : SubT (Below wr.heap.size) wr.drew => (G0.out y.w (bx y)).2.2.2
          have z4 := fun y : SubT (Below wr.heap.size) wr.drew => (G1.out y.w (bx y)).1
          have z5 := fun y : SubT (Below wr.heap.size) wr.drew => (G1.out y.w (bx y)).2.1
          have z6 := fun y : SubT (Below wr.heap.size) wr.drew => (G1.out y.w (bx y)).2.2.1
          have z7 := fun y : SubT (Below wr.heap.size) wr.drew => (G1.out y.w (bx y)).2.2.2
          have z8 := fun y : SubT (Below wr.heap.size) wr.drew => (G2.out y.w (bx y)).1
          have z9 := fun y : SubT (Below wr.heap.size) wr.drew => (G2.out y.w (bx y)).2.1
          have z10 := fun y : SubT (Below wr.heap.size) wr.drew => (G2.out y.w (bx y)).2.2.1
          have z11 := fun y : SubT (Below wr.heap.size) wr.drew => (G2.out y.w (bx y)).2.2.2
          clear bx
          refine wp_walkJ (T := Below (wr.heap.size)) (belowV_pre _) (.rd 0 (.rd 1 (.rd 2 (.rd 3 (.rd 4 (.rd 5 (.rd 6 (.rd 7 (.rd 8 (.rd 9 (.rd 10 (.rd 11 (.rd 12 (.rd 13 (.bt 14 (.rd 15 (.inv []))))))))))))))))) (by kernel_rfl) rfl (by kernel_rfl) (by kernel_rfl) ?_
          iterate 14 (refine walkJ_rd rfl (fun K hK => ?_); go_simp; refine hK _ ?_; clear hK K)
          clear z0 z1 z2 z3 z4 z5 z6 z7 z8 z9 z10 z11
          (refine walkJ_bt rfl (fun K hK => ?_); go_simp; refine (AB.out _).mono ?_; rintro e w5 ⟨rfl, hb5⟩; refine ⟨_, rfl, hK _ _ ?_⟩; clear hK K)
          iterate 1 (refine walkJ_rd rfl (fun K hK => ?_); go_simp; refine hK _ ?_; clear hK K)
          refine walkJ_nil ?_
          have HB5 := hid (HBK.out.trans ((hd.trans (hb5.mono hd.size)).mono HBK.out.size))
          clear AB G0 G1 G2 hd hb5 hbw HBK
          go_wp2
          go_roundw
          case rel => exact ⟨i + 1, by go_num, by omega, HB5⟩
          case measure => simp [intOf] <;> omega
        case neg =>
          have hi2 : ¬ (i : Int) + 2 < (m : Int) := by omega
          obtain ⟨w5, rfl⟩ : ∃ W, W = wr := ⟨_, rfl⟩
          have HLE0 : Hid (0 < n → (D.getD (1 - 1) (0, 0)).1 ≤ (C.getD 0 (0, 0)).1) := hid (fun _ => by
            rw [HP.out.cv.first]
            show (D.getD 0 (0, 0)).1 ≤ _
            rw [HP.out.dv.first]
            exact Rat.le_refl)
          clear hbw
          go_wp2_with fail
          go_loopw [8, 83] (fun y x wr => ∃ t k : Nat, x = .int .i64 t ∧ t ≤ n ∧ y = .int .i64 (k : Int) ∧ 1 ≤ k ∧ k < m ∧ Hid (t < n → (D.getD (k - 1) (0, 0)).1 ≤ (C.getD t (0, 0)).1) ∧ Hid (Below w3.heap.size w3 wr)) (fun _ x _ => n - (intOf x).toNat)
          case atStart => exact ⟨0, 1, rfl, Nat.zero_le _, rfl, Nat.le_refl _, by omega, HLE0, HBK⟩
          case round =>
            clear hsr HBK HLE0
            obtain ⟨t, k, rfl, ht, rfl, hk1, hkm, HLE, HBK⟩ := hrel
            have hbw := HB3.out.trans (HBK.out.mono hs3)
            have hsr := hbw.size
            by_cases htn : t < n
            case pos =>
              have ht2 : (t : Int) < (n : Int) := by omega
              obtain ⟨x0, x1, x2, x3⟩ := HGC.out t htn wr hbw
              have fP := HP.out.cv.fit t (by rw [HN.out]; exact htn)
              have HLEt := hid (HLE.out htn)
              obtain ⟨P, hPe⟩ : ∃ P, C.getD t (0, 0) = P := ⟨_, rfl⟩
              rw [hPe] at x0 x1 x2 x3 fP
              obtain ⟨p1, hp1⟩ : ∃ z, P.1.num = z := ⟨_, rfl⟩
              obtain ⟨p2, hp2⟩ : ∃ z, (P.1.den : Int) = z := ⟨_, rfl⟩
              obtain ⟨p3, hp3⟩ : ∃ z, P.2.num = z := ⟨_, rfl⟩
              obtain ⟨p4, hp4⟩ : ∃ z, (P.2.den : Int) = z := ⟨_, rfl⟩
              have OP := hid (fun w => ofQ_any P.1 fP.1 w)
              have SP := hid (fits_S fP.1)
              unfold frQ at OP
              rw [hp1, hp2] at OP
              rw [hp1] at x0
              rw [hp2] at x1
              rw [hp3] at x2
              rw [hp4] at x3
              have HP1 := hid hp1
              have HP2 := hid hp2
              have HP3 := hid hp3
              have HP4 := hid hp4
              have HPT := hid hPe
              have kP := Blk.new wr #[.int .i64 p1, .int .i64 p2, .int .i64 p3, .int .i64 p4] 52
              have bP := alloc_below wr (.cells #[.int .i64 p1, .int .i64 p2, .int .i64 p3, .int .i64 p4] 52)
              have hbQ := HBK.out.trans (bP.mono HBK.out.size)
              clear hPe hp1 hp2 hp3 hp4 fP HBK hbw HLE
              go_wp2_with fail
              obtain ⟨wP, hwP⟩ : ∃ W, wr.alloc (.cells #[.int .i64 p1, .int .i64 p2, .int .i64 p3, .int .i64 p4] 52) = W := ⟨_, rfl⟩
              obtain ⟨gP, hgP⟩ : ∃ g, wr.heap.size = g := ⟨_, rfl⟩
              rw [hwP] at kP hbQ ⊢
              rw [hgP] at kP ⊢
              have HBQ := hid hbQ
              have HKP := hid kP
              clear hwP hgP bP kP hbQ x0 x1 x2 x3 hsr
              go_loopw [8] (fun y wr => ∃ k : Nat, y = .int .i64 (k : Int) ∧ 1 ≤ k ∧ k < m ∧ Hid ((D.getD (k - 1) (0, 0)).1 ≤ (C.getD t (0, 0)).1) ∧ Hid (Below w3.heap.size w3 wr) ∧ Hid (Blk wr gP #[.int .i64 p1, .int .i64 p2, .int .i64 p3, .int .i64 p4] 52)) (fun y _ => m - (intOf y).toNat)
              case atStart => exact ⟨k, rfl, hk1, hkm, HLEt, HBQ, HKP⟩
              case round =>
                clear hk1 hkm HLEt HBQ HKP
                obtain ⟨k, rfl, hk1, hkm, HLE', HBK, HKP⟩ := hrel
                obtain ⟨k1, hk1e⟩ : ∃ j, k = j + 1 := ⟨k - 1, by omega⟩
                have HK1 : Hid (k1 + 1 = k) := hid hk1e.symm
                have HLE : Hid ((D.getD k1 (0, 0)).1 ≤ (C.getD t (0, 0)).1) := hid (by have := HLE'.out; rw [hk1e, Nat.add_sub_cancel] at this; exact this)
                have wk : IntKind.i64.wrap ((k : Int) - 1) = (k1 : Int) := by rw [IntWalk.i64_left]; unfold wrap64; omega
                clear hk1e HLE'
                have hkm2 : (k : Int) < (m : Int) := by omega
                have hk1m9 : k1 + 1 < m := by have := HK1.out; omega
                by_cases hkl : k < m - 1
                case pos =>
                  have hkl2 : (k : Int) < ((m - 1 : Nat) : Int) := by omega
                  have hbw := HB3.out.trans (HBK.out.mono hs3)
                  have hsr := hbw.size
                  have g2' := HGD.out k hkm
                  have fK := (HP.out.dv.fit k (by rw [HM.out]; exact hkm)).1
                  have hstep : D.getD (k + 1 - 1) (0, 0) = D.getD k (0, 0) := rfl
                  have OK := hid (fun w => ofQ_any (D.getD k (0, 0)).1 fK w)
                  have SK := fits_S fK
                  have OR := hid (fun u v w h1 h2 => Order_any (D.getD k (0, 0)).1 P.1 u v w h1 h2 SK SP.out)
                  obtain ⟨zo, hzo⟩ : ∃ z, sgnQ ((D.getD k (0, 0)).1 - P.1) = z := ⟨_, rfl⟩
                  have hz1 : zo < 0 → (D.getD k (0, 0)).1 ≤ (C.getD t (0, 0)).1 := fun hz => by
                    rw [HPT.out]
                    rw [← hzo] at hz
                    unfold sgnQ at hz
                    by_cases h1 : (D.getD k (0, 0)).1 - P.1 < 0
                    · grind
                    · rw [if_neg h1] at hz
                      split at hz
                      · cases hz
                      · cases hz
                  rw [hzo] at OR
                  have HZ1 := hid hz1
                  unfold frQ at OK
                  obtain ⟨f1, hf1⟩ : ∃ z, (D.getD k (0, 0)).1.num = z := ⟨_, rfl⟩
                  obtain ⟨f2, hf2⟩ : ∃ z, ((D.getD k (0, 0)).1.den : Int) = z := ⟨_, rfl⟩
                  rw [hf1, hf2] at OK g2'
                  have G2 := hid g2'
                  clear hzo hz1 hf1 hf2 g2' fK hstep SK
                  go_wp2_with fail
                  have hd := (Below.refl wr.heap.size wr).drew
                  have bx := fun y : SubT (Below wr.heap.size) wr.drew => hbw.trans ((hd.trans y.b).mono hsr)
                  have z0 := fun y : SubT (Below wr.heap.size) wr.drew => (G2.out y.w (bx y)).1
                  have z1 := fun y : SubT (Below wr.heap.size) wr.drew => (G2.out y.w (bx y)).2.1
                  have z2 := fun y : SubT (Below wr.heap.size) wr.drew => (HKP.out.below (hd.trans y.b)).look 0 rfl
                  have z3 := fun y : SubT (Below wr.heap.size) wr.drew => (HKP.out.below (hd.trans y.b)).look 1 rfl
                  clear bx
                  refine wp_walkJ (T := Below (wr.heap.size)) (belowV_pre _) (.rd 0 (.rd 1 (.rd 2 (.rd 3 (.rd 4 (.rd 5 (.rd 6 (.rd 7 (.rd 8 (.rd 9 (.rd 10 (.rd 12 (.rd 13 (.mv 11 (.bt 14 (.bt 15 (.rd 16 (.rd 17 (.inv []))))))))))))))))))) (by kernel_rfl) rfl (by kernel_rfl) (by kernel_rfl) ?_
                  iterate 13 (refine walkJ_rd rfl (fun K hK => ?_); go_simp; refine hK _ ?_; clear hK K)
                  clear z0 z1 z2 z3
                  (refine walkJ_mv rfl (fun K hK => ?_); go_simp; refine (OK.out _).mono ?_; rintro e w6 ⟨v6, rfl, h6, hb6⟩; refine ⟨_, rfl, hK _ _ hb6 ?_⟩; clear hK K)
                  have d6 := hd.trans hb6
                  (refine walkJ_bt rfl (fun K hK => ?_); go_simp; refine (OP.out _).mono ?_; rintro e w7 ⟨v7, rfl, h7, hb7⟩; refine ⟨_, rfl, hK _ _ ?_⟩; clear hK K)
                  have d7 := d6.trans (hb7.mono d6.size)
                  replace h6 := (h6.below hb7).mono (Nat.zero_le _)
                  (refine walkJ_bt rfl (fun K hK => ?_); go_simp; refine (OR.out _ _ _ h6 (h7.mono (Nat.zero_le _))).mono ?_; rintro e w8 ⟨rfl, hb8⟩; refine ⟨_, rfl, hK _ _ ?_⟩; clear hK K)
                  have d8 := d7.trans (hb8.mono d7.size)
                  have HBK8 := hid (HBK.out.trans (d8.mono HBK.out.size))
                  have HKP8 := hid (HKP.out.below d8)
                  clear h6 h7 hb6 hb7 hb8 d6 d7 d8 hd hbw hsr OK OR G2 HBK HKP
                  by_cases hzo : zo < 0
                  case pos =>
                    have HLE9 : Hid ((D.getD (k + 1 - 1) (0, 0)).1 ≤ (C.getD t (0, 0)).1) := hid (HZ1.out hzo)
                    have hkk : k + 1 < m := by omega
                    clear HZ1
                    iterate 2 (refine walkJ_rd rfl (fun K hK => ?_); go_simp; refine hK _ ?_; clear hK K)
                    refine walkJ_nil ?_
                    go_wp2
                    go_roundw
                    case rel => exact ⟨k + 1, by go_num, by omega, hkk, HLE9, HBK8, HKP8⟩
                    case measure => simp [intOf] <;> omega
                  case neg =>
                    iterate 2 (refine walkJ_rd rfl (fun K hK => ?_); go_simp; refine hK _ ?_; clear hK K)
                    refine walkJ_nil ?_
                    obtain ⟨wr, rfl⟩ : ∃ W, W = w8 := ⟨_, rfl⟩
                    have HBK := HBK8
                    have HKP := HKP8
                    clear HBK8 HKP8 HZ1
                    go_wp2_with fail
                    have hbw := HB3.out.trans (HBK.out.mono hs3)
                    have hsr := hbw.size
                    have g1' := HGD.out k1 (by omega)
                    have g2' := HGD.out k hkm
                    have fD := HP.out.dv.fit
                    have fC := HP.out.cv.fit
                    rw [HM.out] at fD
                    rw [HN.out] at fC
                    have hfr := HP.out.free k1 t (by rw [HM.out]; omega) (by rw [HN.out]; exact htn) HLE.out
                    have AB := hid (fun w => above_any (D.getD k1 (0, 0)) (C.getD t (0, 0)) (D.getD (k1 + 1) (0, 0)) (fD k1 (by omega)) (fC t htn) (fD (k1 + 1) (by omega)) w)
                    rw [hfr, HK1.out] at AB
                    rw [HPT.out] at AB
                    unfold ptQ at AB
                    rw [HP1.out, HP2.out, HP3.out, HP4.out] at AB
                    obtain ⟨Q1, hQ1⟩ : ∃ P, D.getD k1 (0, 0) = P := ⟨_, rfl⟩
                    obtain ⟨Q2, hQ2⟩ : ∃ P, D.getD k (0, 0) = P := ⟨_, rfl⟩
                    rw [hQ1] at g1' AB
                    rw [hQ2] at g2' AB
                    have G1 := hid g1'
                    have G2 := hid g2'
                    clear fD fC hfr g1' g2' hQ1 hQ2
                    have hd := (Below.refl wr.heap.size wr).drew
                    have bx := fun y : SubT (Below wr.heap.size) wr.drew => hbw.trans ((hd.trans y.b).mono hsr)
                    have z0 := fun y : SubT (Below wr.heap.size) wr.drew => (G1.out y.w (bx y)).1
                    have z1 := fun y : SubT (Below wr.heap.size) wr.drew => (G1.out y.w (bx y)).2.1
                    have z2 := fun y : SubT (Below wr.heap.size) wr.drew => (G1.out y.w (bx y)).2.2.1
                    have z3 := fun y : SubT (Below wr.heap.size) wr.drew => (G1.out y.w (bx y)).2.2.2
                    have z4 := fun y : SubT (Below wr.heap.size) wr.drew => (G2.out y.w (bx y)).1
                    have z5 := fun y : SubT (Below wr.heap.size) wr.drew => (G2.out y.w (bx y)).2.1
                    have z6 := fun y : SubT (Below wr.heap.size) wr.drew => (G2.out y.w (bx y)).2.2.1
                    have z7 := fun y : SubT (Below wr.heap.size) wr.drew => (G2.out y.w (bx y)).2.2.2
                    have z8 := fun y : SubT (Below wr.heap.size) wr.drew => (HKP.out.below (hd.trans y.b)).look 0 rfl
                    have z9 := fun y : SubT (Below wr.heap.size) wr.drew => (HKP.out.below (hd.trans y.b)).look 1 rfl
                    have z10 := fun y : SubT (Below wr.heap.size) wr.drew => (HKP.out.below (hd.trans y.b)).look 2 rfl
                    have z11 := fun y : SubT (Below wr.heap.size) wr.drew => (HKP.out.below (hd.trans y.b)).look 3 rfl
                    have hk1m : k1 < m := by omega
                    have hk1m2 : (k1 : Int) < (m : Int) := by omega
                    clear bx
                    refine wp_walkJ (T := Below (wr.heap.size)) (belowV_pre _) (.rd 0 (.rd 1 (.rd 2 (.rd 3 (.rd 4 (.rd 5 (.rd 6 (.rd 7 (.rd 8 (.rd 9 (.bt 10 (.inv [])))))))))))) (by kernel_rfl) rfl (by kernel_rfl) (by kernel_rfl) ?_
                    iterate 10 (refine walkJ_rd rfl (fun K hK => ?_); go_simp; refine hK _ ?_; clear hK K)
                    clear z0 z1 z2 z3 z4 z5 z6 z7 z8 z9 z10 z11
                    (refine walkJ_bt rfl (fun K hK => ?_); go_simp; refine (AB.out _).mono ?_; rintro e w6 ⟨rfl, hb6⟩; refine ⟨_, rfl, hK _ _ ?_⟩; clear hK K)
                    refine walkJ_nil ?_
                    have HB6 := hid (HBK.out.trans ((hd.trans (hb6.mono hd.size)).mono HBK.out.size))
                    have HLE2 : Hid (t + 1 < n → (D.getD (k - 1) (0, 0)).1 ≤ (C.getD (t + 1) (0, 0)).1) := hid (fun h => by
                      have h8 := (HP.out.cv.lt (show t < t + 1 by omega) (by rw [HN.out]; exact h)).1
                      have h9 := HLE.out
                      rw [show k - 1 = k1 by have := HK1.out; omega]
                      grind)
                    clear AB G1 G2 hd hb6 hbw HBK HKP
                    go_wp2
                    go_roundw
                    case rel => exact ⟨t + 1, k, by go_num, by omega, rfl, hk1, hkm, HLE2, HB6⟩
                    case measure => simp [intOf] <;> omega
                case neg =>
                  have hkl2 : ¬ (k : Int) < ((m - 1 : Nat) : Int) := by omega
                  go_wp2_with fail
                  have hd := (Below.refl wr.heap.size wr).drew
                  refine wp_walkJ (T := Below (wr.heap.size)) (belowV_pre _) (.rd 0 (.rd 1 (.rd 2 (.rd 3 (.rd 4 (.rd 5 (.rd 6 (.rd 7 (.rd 8 (.rd 9 (.rd 10 (.rd 12 (.rd 13 (.mv 11 (.bt 14 (.bt 15 (.rd 16 (.rd 17 (.inv []))))))))))))))))))) (by kernel_rfl) rfl (by kernel_rfl) (by kernel_rfl) ?_
                  iterate 13 (refine walkJ_rd rfl (fun K hK => ?_); go_simp; refine hK _ ?_; clear hK K)
                  (refine walkJ_sk rfl (fun K hK => ?_); go_simp; refine hK _ ?_; clear hK K)
                  (refine walkJ_bs rfl (fun K hK => ?_); go_simp; refine hK _ ?_; clear hK K)
                  (refine walkJ_bs rfl (fun K hK => ?_); go_simp; refine hK _ ?_; clear hK K)
                  iterate 2 (refine walkJ_rd rfl (fun K hK => ?_); go_simp; refine hK _ ?_; clear hK K)
                  refine walkJ_nil ?_
                  have HBK8 := hid (HBK.out.trans (hd.mono HBK.out.size))
                  have HKP8 := hid (HKP.out.below hd)
                  clear HBK HKP
                  obtain ⟨w8, hw8⟩ : ∃ W, wr.drew = W := ⟨_, rfl⟩
                  rw [hw8] at HBK8 HKP8 ⊢
                  clear hw8 hd
                  obtain ⟨wr, rfl⟩ : ∃ W, W = w8 := ⟨_, rfl⟩
                  have HBK := HBK8
                  have HKP := HKP8
                  clear HBK8 HKP8
                  go_wp2_with fail
                  have hbw := HB3.out.trans (HBK.out.mono hs3)
                  have hsr := hbw.size
                  have g1' := HGD.out k1 (by omega)
                  have g2' := HGD.out k hkm
                  have fD := HP.out.dv.fit
                  have fC := HP.out.cv.fit
                  rw [HM.out] at fD
                  rw [HN.out] at fC
                  have hfr := HP.out.free k1 t (by rw [HM.out]; omega) (by rw [HN.out]; exact htn) HLE.out
                  have AB := hid (fun w => above_any (D.getD k1 (0, 0)) (C.getD t (0, 0)) (D.getD (k1 + 1) (0, 0)) (fD k1 (by omega)) (fC t htn) (fD (k1 + 1) (by omega)) w)
                  rw [hfr, HK1.out] at AB
                  rw [HPT.out] at AB
                  unfold ptQ at AB
                  rw [HP1.out, HP2.out, HP3.out, HP4.out] at AB
                  obtain ⟨Q1, hQ1⟩ : ∃ P, D.getD k1 (0, 0) = P := ⟨_, rfl⟩
                  obtain ⟨Q2, hQ2⟩ : ∃ P, D.getD k (0, 0) = P := ⟨_, rfl⟩
                  rw [hQ1] at g1' AB
                  rw [hQ2] at g2' AB
                  have G1 := hid g1'
                  have G2 := hid g2'
                  clear fD fC hfr g1' g2' hQ1 hQ2
                  have hd := (Below.refl wr.heap.size wr).drew
                  have bx := fun y : SubT (Below wr.heap.size) wr.drew => hbw.trans ((hd.trans y.b).mono hsr)
                  have z0 := fun y : SubT (Below wr.heap.size) wr.drew => (G1.out y.w (bx y)).1
                  have z1 := fun y : SubT (Below wr.heap.size) wr.drew => (G1.out y.w (bx y)).2.1
                  have z2 := fun y : SubT (Below wr.heap.size) wr.drew => (G1.out y.w (bx y)).2.2.1
                  have z3 := fun y : SubT (Below wr.heap.size) wr.drew => (G1.out y.w (bx y)).2.2.2
                  have z4 := fun y : SubT (Below wr.heap.size) wr.drew => (G2.out y.w (bx y)).1
                  have z5 := fun y : SubT (Below wr.heap.size) wr.drew => (G2.out y.w (bx y)).2.1
                  have z6 := fun y : SubT (Below wr.heap.size) wr.drew => (G2.out y.w (bx y)).2.2.1
                  have z7 := fun y : SubT (Below wr.heap.size) wr.drew => (G2.out y.w (bx y)).2.2.2
                  have z8 := fun y : SubT (Below wr.heap.size) wr.drew => (HKP.out.below (hd.trans y.b)).look 0 rfl
                  have z9 := fun y : SubT (Below wr.heap.size) wr.drew => (HKP.out.below (hd.trans y.b)).look 1 rfl
                  have z10 := fun y : SubT (Below wr.heap.size) wr.drew => (HKP.out.below (hd.trans y.b)).look 2 rfl
                  have z11 := fun y : SubT (Below wr.heap.size) wr.drew => (HKP.out.below (hd.trans y.b)).look 3 rfl
                  have hk1m : k1 < m := by omega
                  have hk1m2 : (k1 : Int) < (m : Int) := by omega
                  clear bx
                  refine wp_walkJ (T := Below (wr.heap.size)) (belowV_pre _) (.rd 0 (.rd 1 (.rd 2 (.rd 3 (.rd 4 (.rd 5 (.rd 6 (.rd 7 (.rd 8 (.rd 9 (.bt 10 (.inv [])))))))))))) (by kernel_rfl) rfl (by kernel_rfl) (by kernel_rfl) ?_
                  iterate 10 (refine walkJ_rd rfl (fun K hK => ?_); go_simp; refine hK _ ?_; clear hK K)
                  clear z0 z1 z2 z3 z4 z5 z6 z7 z8 z9 z10 z11
                  (refine walkJ_bt rfl (fun K hK => ?_); go_simp; refine (AB.out _).mono ?_; rintro e w6 ⟨rfl, hb6⟩; refine ⟨_, rfl, hK _ _ ?_⟩; clear hK K)
                  refine walkJ_nil ?_
                  have HB6 := hid (HBK.out.trans ((hd.trans (hb6.mono hd.size)).mono HBK.out.size))
                  have HLE2 : Hid (t + 1 < n → (D.getD (k - 1) (0, 0)).1 ≤ (C.getD (t + 1) (0, 0)).1) := hid (fun h => by
                    have h8 := (HP.out.cv.lt (show t < t + 1 by omega) (by rw [HN.out]; exact h)).1
                    have h9 := HLE.out
                    rw [show k - 1 = k1 by have := HK1.out; omega]
                    grind)
                  clear AB G1 G2 hd hb6 hbw HBK HKP
                  go_wp2
                  go_roundw
                  case rel => exact ⟨t + 1, k, by go_num, by omega, rfl, hk1, hkm, HLE2, HB6⟩
                  case measure => simp [intOf] <;> omega
            case neg =>
              obtain rfl : n = t := by omega
              have ht2 : ¬ (n : Int) < (n : Int) := by omega
              obtain ⟨hE, hR⟩ := HP.out.again
              have hdr := HPD.out.below hbw
              have hzr := HZ3.out.below HBK.out
              have CV := hid (Convex_any (ofQ D) _ wr hdr.ofQ hzr)
              rw [hE, hR] at CV
              have hl := ofQ_len D
              have HDR := hid hdr
              have EQ := hid (fun u v w h1 h2 => eqP_self D u v w h1 h2)
              have hW := HB1.out.trans (hbw.mono HB1.out.size)
              have HZR := hid hzr
              clear hE hR hdr hzr hl
              go_wp2_with fail
              refine CV.out.mono ?_
              rintro r w6 ⟨⟨v6, rfl, q6⟩, hb6⟩
              have q6' := q6.mono (Nat.zero_le _)
              have hd6 := HDR.out.below hb6
              have hz6 := HZR.out.below hb6
              have hW6 := hW.trans (hb6.mono hW.size)
              clear CV q6 hb6
              go_wp2_with fail
              refine (EQ.out _ _ _ q6' hd6).mono ?_
              rintro r w7 ⟨rfl, hb7⟩
              have hz7 := hz6.below hb7
              have hW7 := hW6.trans (hb7.mono hW6.size)
              clear EQ q6' hd6 hb7 hW6 hz6
              go_wp2_with fail
              refine (awake_any _ hz7).mono ?_
              rintro r w9 ⟨rfl, hb9⟩
              have hW9 := hW7.trans (hb9.mono hW7.size)
              clear hb9 hW7 hz7
              go_wp2
              go_ret
              exact ⟨rfl, hW9⟩

end Go.Proofs.YtfkclcoipadhmaaDoor
