/- Walks of slices.Clone at points, curve.Join. -/
import Derived.Test.YtfkclcoipadhmaaDoorEg
import Derived.Test.YtfkclcoipadhmaaDoorDk
import Derived.Test.YtfkclcoipadhmaaDoorDl
import Derived.Test.YtfkclcoipadhmaaDoorDs
import Derived.Lib.SliceRun
import Derived.Deep.WholeRow
namespace Go.Proofs.YtfkclcoipadhmaaDoor
open Go.RowKit
@[local go_sem] theorem eql_nilP (a : Option Addr) (n c : Nat) (w : World) : (binOp .eql 22 (.slice a n c) (.slice none 0 0)).run Tryd.prog w = .ok (.bool a.isNone) w := Lib.run_eql_slice_nil w 22 52 a n c 0 0 Tryd.underlying22
attribute [local irreducible] seqS seqST walkV walkJ

theorem pt_src {lo : Nat} {w : World} {b off : Nat} {l : List Pt} (h : CellsOf lo w (some ⟨b, off, none⟩) (ptsC l)) : ∀ (j : Nat) (u : Value), (ptsC l)[j]? = some u → w.cell? ((⟨b, off, none⟩ : Addr).add j) = some u := by
  intro j u hu
  have hlt := (List.getElem?_eq_some_iff.1 hu).1
  obtain ⟨b', off', he, _, _, hc⟩ := h (by intro h0; rw [h0] at hlt; cases hlt)
  cases he
  rw [Addr.add_lit, hc _ hlt, List.getD_eq_getElem?_getD, hu]
  rfl
theorem ptsC_one (l : List Pt) : ∀ u ∈ ptsC l, u.oneCell' = true := by
  intro u hu
  obtain ⟨z, rfl⟩ := ptsC_ints l u hu
  rfl

set_option maxHeartbeats 4000000 in
set_option maxRecDepth 100000 in
theorem clonePt_any (l : List Pt) (L : Nat) (v : Value) (w : World) (hl : l.length = L) (h : PsR 0 w v l) (h1 : 1 ≤ L) (h2 : L ≤ 64) :
    Calls Tryd.prog 75 #[v] w fun e w' => (∃ g cap, e = .returned (.slice (some ⟨g, 0, none⟩) L cap) ∧ w'.ownsRow w.heap.size 52 4 (.slice (some ⟨g, 0, none⟩) L cap) L (ptsC l)) ∧ Below w.heap.size w w' := by
  obtain ⟨ao, cap, rfl, hcap, hmax, hc⟩ := h
  unfold maxLen at hmax
  rw [hl] at hcap ⊢
  obtain ⟨b9, off9, rfl, -, hb9, -⟩ := hc (by intro h0; have := ptsC_len l; rw [h0, List.length_nil] at this; omega)
  have HL := hid hl
  have HC := hid hc
  obtain ⟨i, hi0, hz, hsize, hby⟩ := info_parts infoPoint
  have HI := hid (And.intro hi0 (And.intro hz (And.intro hsize hby)))
  clear hl hc hi0 hz hsize hby
  go_enter Tryd.func75, Tryd.ntmps75
  go_wp2_with (at_builtin; refine wpList_append_own _ rfl _ _ 22 rfl w.heap.size 52 i (.agg #[.int .i64 0, .int .i64 0, .int .i64 0, .int .i64 0]) 4 32 Tryd.underlying22 HI.out.1 HI.out.2.1 HI.out.2.2.1 HI.out.2.2.2 rfl (by decide) _ _ _ rfl (World.ownsRow_made w #[] 0 (Nat.le_refl _) (Nat.zero_le _) (by simp)) ⟨b9, off9, none⟩ L cap (ptsC l) rfl ?qc1 ?qc2 ?qc3 ?qc4 ?qc5 ?qc6 ?_)
  case qc1 => rw [ptsC_len, HL.out]
  case qc2 => exact pt_src ((HC.out).below ((Below.refl w.heap.size w).alloc (Nat.le_refl _) (.cells #[] 52)))
  case qc3 => exact ptsC_one l
  case qc4 => unfold maxLen; omega
  case qc5 => omega
  case qc6 => simp
  intro v' w1 hown hgrow hnil
  have hb := ((Below.refl w.heap.size w).alloc (Nat.le_refl _) (.cells #[] 52)).grown hgrow (by simp) (by intro k hk; simp [Value.ownBlock] at hk; omega)
  obtain ⟨m, rfl⟩ : ∃ m, L = m + 1 := ⟨L - 1, by omega⟩
  obtain ⟨g, c, rfl, hg1, hg2⟩ := owns_head hown
  go_wp2
  go_ret
  exact ⟨⟨g, c, rfl, hown⟩, hb⟩

/-- A row of two points and more lies in another block than one point. -/
theorem owns_ne {w : World} {base : Nat} {e t : TypeId} {v : Value} {n : Nat} {xs : List Value} {E0 : Nat} {x y z u : Value} (h : w.ownsRow base e 4 v n xs) (k : Blk w E0 #[x, y, z, u] t) (hn : 2 ≤ n) : v.ownBlock ≠ some E0 := by
  obtain ⟨-, ⟨-, h0⟩ | ⟨g, cap, cur, rfl, -, hh, h1, -, h3, -⟩⟩ := h
  · omega
  · intro he
    obtain rfl : g = E0 := by simpa [Value.ownBlock] using he
    have := hh.symm.trans k
    have h5 : cur = #[x, y, z, u] := by
      injection this with h6
      injection h6 with h7
    rw [h5] at h3
    simp at h3
    omega
theorem getD_drop1 {D : List Pt} {j : Nat} : (D.drop 1).getD j (0, 0) = D.getD (j + 1) (0, 0) := by
  rw [List.getD_eq_getElem?_getD, List.getD_eq_getElem?_getD, List.getElem?_drop, Nat.add_comm]

/-- What Join hands back. -/
def joiF (e p : Pt) : Option Pt := pairO (e.1 + p.1) (e.2 + p.2)
def joiO (C D : List Pt) : Option (List Pt) := rowO (joiF (endQ C)) (D.drop 1) (D.length - 1)
def joiE (c d : List P4) : Int := if RV c ∧ RV d then (if 49 < c.length + d.length then 3 else match joiO (toQ c) (toQ d) with | some _ => 0 | none => 5) else 2
def joiL (c d : List P4) : List Pt := if joiE c d = 0 then toQ c ++ (joiO (toQ c) (toQ d)).getD [] else []

set_option maxHeartbeats 8000000 in
set_option maxRecDepth 100000 in
theorem Join_any (c d : List P4) (vc vd : Value) (w : World) (hc : P4R 0 w vc c) (hd : P4R 0 w vd d) (hz : Z0 w) :
    Calls Tryd.prog 31 #[vc, vd] w fun r w' => (∃ v', r = .returned (.tuple #[v', .int .i64 (joiE c d)]) ∧ PsR w.heap.size w' v' (joiL c d)) ∧ Below w.heap.size w w' := by
  have VC := hid (cValid_any c vc w hc hz)
  have VD := hid (fun w h hz => cValid_any d vd w h hz)
  obtain ⟨ac, cc, rfl, hcc1, hcc2, -⟩ := id hc
  obtain ⟨ad, cd, rfl, hcd1, hcd2, -⟩ := id hd
  unfold maxLen at hcc2 hcd2
  obtain ⟨E, hE⟩ : ∃ E, joiE c d = E := ⟨_, rfl⟩
  obtain ⟨R, hR⟩ : ∃ R, joiL c d = R := ⟨_, rfl⟩
  rw [hE, hR]
  have HE := hid hE
  have HR := hid hR
  have HRZ : Hid (E ≠ 0 → R = []) := hid (fun h => by rw [← hR]; unfold joiL; rw [hE]; exact if_neg h)
  clear hE hR
  obtain ⟨L, hL⟩ : ∃ L, c.length = L := ⟨_, rfl⟩
  obtain ⟨M, hM⟩ : ∃ L, d.length = L := ⟨_, rfl⟩
  rw [hL] at VC hcc1 hc ⊢
  rw [hM] at VD hcd1 hd ⊢
  have HL := hid hL
  have HM := hid hM
  clear hL hM
  go_enter Tryd.func31, Tryd.ntmps31
  go_wp2_with fail
  refine VC.out.mono ?_
  rintro r w1 ⟨rfl, hB⟩
  have hc1 := hc.below hB
  have hd1 := hd.below hB
  have hz1 := hz.below hB
  clear VC hc hd hz
  by_cases hrc : RV c
  case neg =>
    rw [decide_eq_false hrc]
    have HEV : E = 2 := by rw [← HE.out]; exact if_neg (fun h => hrc h.1)
    have e1 := HEV
    have e2 : R = [] := HRZ.out (by omega)
    subst e1 e2
    go_wp2
    go_ret2
    exact ⟨⟨_, rfl, SlR.nil _ _⟩, hB⟩
  rw [decide_eq_true hrc]
  have HRC := hid hrc
  clear hrc
  go_wp2_with fail
  refine (VD.out _ hd1 hz1).mono ?_
  rintro r w2 ⟨rfl, hb2⟩
  replace hB := hB.trans (hb2.mono hB.size)
  have hc2 := hc1.below hb2
  have hd2 := hd1.below hb2
  have hz2 := hz1.below hb2
  clear VD hb2 hc1 hd1 hz1
  by_cases hrd : RV d
  case neg =>
    rw [decide_eq_false hrd]
    have HEV : E = 2 := by rw [← HE.out]; exact if_neg (fun h => hrd h.2)
    have e1 := HEV
    have e2 : R = [] := HRZ.out (by omega)
    subst e1 e2
    go_wp2
    go_ret2
    exact ⟨⟨_, rfl, SlR.nil _ _⟩, hB⟩
  rw [decide_eq_true hrd]
  have HRD := hid hrd
  clear hrd
  have e1 : joiE c d = if 49 < c.length + d.length then 3 else match joiO (toQ c) (toQ d) with | some _ => 0 | none => 5 := if_pos ⟨HRC.out, HRD.out⟩
  rw [HE.out, HL.out, HM.out] at e1
  have hL48 : L ≤ 48 := by rw [← HL.out]; exact HRC.out.2.1
  have hM48 : M ≤ 48 := by rw [← HM.out]; exact HRD.out.2.1
  have hL2 : 2 ≤ L := by rw [← HL.out]; exact HRC.out.1
  have hM2 : 2 ≤ M := by rw [← HM.out]; exact HRD.out.1
  have wLM : IntKind.i64.wrap ((L : Int) + (M : Int)) = (L : Int) + (M : Int) := by rw [IntWalk.i64_left]; unfold wrap64; omega
  by_cases h49 : 49 < L + M
  case pos =>
    have h49i : (49 : Int) < (L : Int) + (M : Int) := by omega
    have HEV : E = 3 := by rw [e1]; exact if_pos h49
    have e1 := HEV
    have e2 : R = [] := HRZ.out (by omega)
    subst e1 e2
    go_wp2
    go_ret2
    exact ⟨⟨_, rfl, SlR.nil _ _⟩, hB⟩
  have h49i : ¬ (49 : Int) < (L : Int) + (M : Int) := by omega
  rw [if_neg h49] at e1
  have pc : PsR 0 w2 (.slice ac L cc) (toQ c) := P4R.toQ (h := (by rw [← HL.out] at hc2; rw [← HL.out]; exact hc2)) HRC.out
  have pd : PsR 0 w2 (.slice ad M cd) (toQ d) := P4R.toQ (h := (by rw [← HM.out] at hd2; rw [← HM.out]; exact hd2)) HRD.out
  have hvc := rv_cv HRC.out
  have hvd := rv_cv HRD.out
  have e2 : E = 0 → R = toQ c ++ (joiO (toQ c) (toQ d)).getD [] := fun h => by rw [← HR.out]; unfold joiL; exact if_pos (HE.out.trans h)
  have lc := toQ_len c
  have ld := toQ_len d
  rw [HL.out] at lc
  rw [HM.out] at ld
  generalize toQ c = C at pc hvc e1 e2 lc
  generalize toQ d = D at pd hvd e1 e2 ld
  have HX : Hid (rowO (joiF (endQ C)) (D.drop 1) (M - 1) = none → E = 5 ∧ R = []) := hid (fun hh => by
    have h5 : E = 5 := by rw [e1]; unfold joiO; rw [ld, hh]
    exact ⟨h5, HRZ.out (by omega)⟩)
  have HY : Hid (∀ o, rowO (joiF (endQ C)) (D.drop 1) (M - 1) = some o → E = 0 ∧ R = C ++ o) := hid (fun o hh => by
    have h5 : E = 0 := by rw [e1]; unfold joiO; rw [ld, hh]
    exact ⟨h5, by rw [e2 h5]; unfold joiO; rw [ld, hh]; rfl⟩)
  have CVD := hid hvd
  have HLC := hid lc
  have HLD := hid ld
  obtain ⟨ad2, cd2, he2, -, -, hdd⟩ := id pd
  obtain ⟨rfl, -⟩ : ad2 = ad ∧ True := by
    injection he2 with g1 g2 g3
    exact ⟨g1.symm, trivial⟩
  obtain ⟨bd, od, rfl, hbd, -, -, -, -⟩ := p_cell hdd (show 0 < D.length by omega)
  have HDD := hid hdd
  obtain ⟨B, hBs⟩ : ∃ B, w2.heap.size = B := ⟨_, rfl⟩
  rw [hBs] at hbd
  have HBS := hid hBs
  have HB := hid hB
  have HZ := hid hz2
  have ba := alloc_below w2 (.cells #[.int .i64 0] 68)
  have kg := Blk.new w2 #[.int .i64 0] 68
  have pcA := pc.below ba
  obtain ⟨w3, hw3⟩ : ∃ w3, w2.alloc (.cells #[.int .i64 0] 68) = w3 := ⟨_, rfl⟩
  rw [hw3, hBs] at kg
  rw [hw3, hBs] at ba
  rw [hw3] at pcA
  have CL := hid (clonePt_any C L _ w3 lc pcA (by omega) (by omega))
  have EN := hid (fun w h => end_any C (.slice ac L cc) w h (by omega) (by omega))
  have hs3 : B + 1 ≤ w3.heap.size := kg.lt
  have HKG : Hid (CalB w3 B true) := hid kg
  have HPC3 := hid pcA
  have HEQ : Hid (endQ C = C.getD (C.length - 1) (0, 0)) := hid rfl
  obtain ⟨P, hP⟩ : ∃ P, C.getD (C.length - 1) (0, 0) = P := ⟨_, rfl⟩
  have hPf : fits P.1 ∧ fits P.2 := by rw [← hP]; exact hvc.fit _ (by omega)
  rw [hP] at EN
  have HEP : Hid (endQ C = P) := hid hP
  unfold ptQ at EN
  have HPF := hid hPf
  have wM : ((M - 1 : Nat) : Int) = (M : Int) - 1 := by omega
  clear HEQ hP hPf e1 e2 hvc hvd pc pd lc ld hc2 hd2 hz2 hdd he2 hB HE HR HRZ kg pcA HRC HRD
  go_wp2_with fail
  refine CL.out.mono ?_
  rintro r w4 ⟨⟨g, cp, rfl, hown⟩, hb4⟩
  have kg4 := CalB.below HKG.out hb4
  have ba4 := ba.trans (hb4.mono (by omega))
  have pc4 := HPC3.out.below hb4
  have hs4 := Nat.le_trans hs3 hb4.size
  have ho4 : w4.ownsRow (B + 1) 52 4 (.slice (some ⟨g, 0, none⟩) L cp) L (ptsC C) := hown.mono hs3
  clear CL hb4 hown HKG HPC3 ba hs3
  go_wp2_with fail
  clear hw3
  refine (EN.out _ pc4).mono ?_
  rintro r w5 ⟨rfl, hb5⟩
  have kg5 := CalB.below kg4 hb5
  have ba5 := ba4.trans (hb5.mono (by omega))
  have hs5 := Nat.le_trans hs4 hb5.size
  have ho5 := owns_below ho4 hb5
  have kE := Blk.new w5 #[.int .i64 P.1.num, .int .i64 (P.1.den : Int), .int .i64 P.2.num, .int .i64 (P.2.den : Int)] 52
  have bE := alloc_below w5 (.cells #[.int .i64 P.1.num, .int .i64 (P.1.den : Int), .int .i64 P.2.num, .int .i64 (P.2.den : Int)] 52)
  have kg6 := CalB.below kg5 bE
  have ba6 := ba5.trans (bE.mono (by omega))
  have hs6 := Nat.le_trans hs5 bE.size
  have ho6 := owns_below ho5 bE
  obtain ⟨w6, hw6⟩ : ∃ w6, w5.alloc (.cells #[.int .i64 P.1.num, .int .i64 (P.1.den : Int), .int .i64 P.2.num, .int .i64 (P.2.den : Int)] 52) = w6 := ⟨_, rfl⟩
  obtain ⟨G, hG⟩ : ∃ G, w5.heap.size = G := ⟨_, rfl⟩
  rw [hw6, hG] at kE
  rw [hw6] at kg6 ba6 hs6 ho6
  have hGB : B + 1 ≤ G := by rw [← hG]; exact hs5
  clear EN kg4 ba4 pc4 hs4 ho4 hb5 kg5 ba5 ho5 bE
  go_wp2_with fail
  clear hw6 hBs
  go_loopw [7, 34] (fun y x wr => ∃ i : Nat, x = .int .i64 i ∧ i ≤ M - 1 ∧ (∃ ok o, ok = (rowO (joiF (endQ C)) (D.drop 1) i).isSome ∧ (ok = true → rowO (joiF (endQ C)) (D.drop 1) i = some o) ∧ o.length = i ∧ Hid (wr.ownsRow (B + 1) 52 4 y (L + i) (ptsC (C ++ o))) ∧ Hid (CalB wr B ok)) ∧ Below B w2 wr ∧ B + 1 ≤ wr.heap.size ∧ Hid (Blk wr G #[.int .i64 P.1.num, .int .i64 (P.1.den : Int), .int .i64 P.2.num, .int .i64 (P.2.den : Int)] 52)) (fun _ x _ => M - 1 - (intOf x).toNat)
  case atStart => exact ⟨0, rfl, Nat.zero_le _, ⟨true, [], rfl, fun _ => rfl, rfl, hid (by simpa using ho6), hid kg6⟩, ba6, hs6, hid kE⟩
  case round =>
    clear kE kg6 ba6 hs6 ho6
    obtain ⟨i, rfl, hi, ⟨ok, o, hok, hoks, hol, HO, HK⟩, hbel, hsr, HE0⟩ := hrel
    have hzr : Z0 wr := HZ.out.below (by rw [HBS.out]; exact hbel)
    by_cases hiL : i < M - 1
    · have hi2 : (i : Int) < ((M - 1 : Nat) : Int) := by omega
      obtain ⟨b', off', he, hb', x0, x1, x2, x3⟩ := p_cell HDD.out (show i + 1 < D.length by rw [HLD.out]; omega)
      cases he
      rw [show od + (i + 1) * 4 = od + 4 + i * 4 by omega] at x0 x1 x2 x3
      replace x0 := (hbel.cell (p := ⟨bd, od + 4 + i * 4, none⟩) hbd).trans x0
      replace x1 := (hbel.cell (p := ⟨bd, od + 4 + i * 4 + 1, none⟩) hbd).trans x1
      replace x2 := (hbel.cell (p := ⟨bd, od + 4 + i * 4 + 2, none⟩) hbd).trans x2
      replace x3 := (hbel.cell (p := ⟨bd, od + 4 + i * 4 + 3, none⟩) hbd).trans x3
      have hQ := CVD.out.fit (i + 1) (by rw [HLD.out]; omega)
      have hst := fun p h2 => rowO_step (p := p) hok hoks h2
      rw [getD_drop1] at hst
      obtain ⟨Q, hQe⟩ : ∃ P, D.getD (i + 1) (0, 0) = P := ⟨_, rfl⟩
      rw [hQe] at x0 x1 x2 x3 hQ hst
      have hpc := pair_cal ok (P.1 + Q.1) (P.2 + Q.2)
      have hjf : joiF (endQ C) Q = pairO (P.1 + Q.1) (P.2 + Q.2) := by unfold joiF; rw [HEP.out]
      rw [← hjf] at hpc
      have hst2 := hst _ hpc.2
      rw [← hpc.1] at hst2
      have MA := hid (fun w hz hk => calc_add P.1 Q.1 HPF.out.1 hQ.1 B ok w hz hk)
      have MB := hid (fun w hz hk => calc_add P.2 Q.2 HPF.out.2 hQ.2 B (copK ok (P.1 + Q.1)) w hz hk)
      obtain ⟨k1', hk1'⟩ : ∃ k, copK ok (P.1 + Q.1) = k := ⟨_, rfl⟩
      rw [hk1'] at MA MB hst2
      obtain ⟨k2', hk2'⟩ : ∃ k, copK k1' (P.2 + Q.2) = k := ⟨_, rfl⟩
      rw [hk2'] at MB hst2
      obtain ⟨v1, hv1⟩ : ∃ k, copV ok (P.1 + Q.1) = k := ⟨_, rfl⟩
      obtain ⟨v2, hv2⟩ : ∃ k, copV k1' (P.2 + Q.2) = k := ⟨_, rfl⟩
      rw [hv1] at MA hst2
      rw [hv2] at MB hst2
      unfold frQ at MA MB
      have HST := hid hst2
      have HOL := hid hol
      obtain ⟨p1, hp1⟩ : ∃ z, v1.num = z := ⟨_, rfl⟩
      obtain ⟨p2, hp2⟩ : ∃ z, (v1.den : Int) = z := ⟨_, rfl⟩
      obtain ⟨p3, hp3⟩ : ∃ z, v2.num = z := ⟨_, rfl⟩
      obtain ⟨p4, hp4⟩ : ∃ z, (v2.den : Int) = z := ⟨_, rfl⟩
      have HPC : Hid (ptsC [(v1, v2)] = [.int .i64 p1, .int .i64 p2, .int .i64 p3, .int .i64 p4]) := hid (by rw [← hp1, ← hp2, ← hp3, ← hp4]; rfl)
      rw [hp1, hp2] at MA
      rw [hp3, hp4] at MB
      clear hst hst2 hpc hjf hQe hk1' hk2' hv1 hv2 hQ hok hoks hol hp1 hp2 hp3 hp4
      go_wp2_with fail
      have bA := alloc_below wr (.cells #[.int .i64 Q.1.num, .int .i64 (Q.1.den : Int), .int .i64 Q.2.num, .int .i64 (Q.2.den : Int)] 52)
      have kp := Blk.new wr #[.int .i64 Q.1.num, .int .i64 (Q.1.den : Int), .int .i64 Q.2.num, .int .i64 (Q.2.den : Int)] 52
      have hbr : B ≤ wr.heap.size := by omega
      have HOA := owns_below HO.out bA
      have HKA := CalB.below HK.out bA
      have kEA := HE0.out.below bA
      have hzA := hzr.below bA
      have hbA := hbel.trans (bA.mono hbr)
      have hsA := Nat.le_trans hsr bA.size
      obtain ⟨W, hW⟩ : ∃ W, wr.alloc (.cells #[.int .i64 Q.1.num, .int .i64 (Q.1.den : Int), .int .i64 Q.2.num, .int .i64 (Q.2.den : Int)] 52) = W := ⟨_, rfl⟩
      obtain ⟨H, hH⟩ : ∃ H, wr.heap.size = H := ⟨_, rfl⟩
      rw [hW] at kp HOA HKA kEA hzA hbA hsA ⊢
      rw [hH] at kp hbr ⊢
      clear hW hH bA x0 x1 x2 x3 hzr hbel hsr HO HK HE0
      have hd : CalT B W W.drew := CalT.of_below (Below.refl W.heap.size W).drew
      have hHB : H ≠ B := fun e => by
        rw [e] at kp
        exact calB_one (off := 0) HKA (kp.look 1 rfl)
      have hGne : G ≠ B := by omega
      have tx := fun x : SubT (CalT B) W.drew => (calT_pre B).trans hd x.b
      have z0 := fun x : SubT (CalT B) W.drew => (CalT.blk (tx x) kp hHB).look 0 rfl
      have z1 := fun x : SubT (CalT B) W.drew => (CalT.blk (tx x) kp hHB).look 1 rfl
      have z2 := fun x : SubT (CalT B) W.drew => (CalT.blk (tx x) kp hHB).look 2 rfl
      have z3 := fun x : SubT (CalT B) W.drew => (CalT.blk (tx x) kp hHB).look 3 rfl
      have z4 := fun x : SubT (CalT B) W.drew => (CalT.blk (tx x) kEA hGne).look 0 rfl
      have z5 := fun x : SubT (CalT B) W.drew => (CalT.blk (tx x) kEA hGne).look 1 rfl
      have z6 := fun x : SubT (CalT B) W.drew => (CalT.blk (tx x) kEA hGne).look 2 rfl
      have z7 := fun x : SubT (CalT B) W.drew => (CalT.blk (tx x) kEA hGne).look 3 rfl
      clear tx
      refine wp_walkJ (T := CalT B) (calT_pre B) (.rd 0 (.rd 1 (.rd 2 (.rd 3 (.rd 4 (.rd 6 (.rd 7 (.rd 8 (.rd 9 (.mv 5 (.mv 10 (.rd 11 (.mv 12 (.bt 13 (.rd 14 (.inv [])))))))))))))))) (by kernel_rfl) rfl (by kernel_rfl) (by kernel_rfl) ?_
      iterate 9 (refine walkJ_rd rfl (fun K hK => ?_); go_simp; refine hK _ ?_; clear hK K)
      clear z0 z1 z2 z3 z4 z5 z6 z7
      have hkd : CalB W.drew B ok := CalB.below HKA (Below.refl W.heap.size W).drew
      have hzd := hzA.below (Below.refl W.heap.size W).drew
      (refine walkJ_mv rfl (fun K hK => ?_); go_simp; refine (MA.out _ hzd hkd).mono ?_; rintro e w7 ⟨rfl, hk7, ht7⟩; refine ⟨_, rfl, hK _ _ ht7 ?_⟩; clear hK K)
      have hz7 := hzd.calT hkd ht7
      (refine walkJ_mv rfl (fun K hK => ?_); go_simp; refine (MB.out _ hz7 hk7).mono ?_; rintro e w8 ⟨rfl, hk8, ht8⟩; refine ⟨_, rfl, hK _ _ ht8 ?_⟩; clear hK K)
      have tw8 := (calT_pre B).trans ((calT_pre B).trans hd ht7) ht8
      have ho8 := owns_calT tw8 HOA (Nat.lt_succ_self B)
      have kE8 := CalT.blk tw8 kEA hGne
      have hb8 := CalT.below hbA tw8 (Nat.le_refl _) (Nat.le_trans (Nat.le_succ B) hsA)
      have hs8 := Nat.le_trans hsA tw8.size
      iterate 1 (refine walkJ_rd rfl (fun K hK => ?_); go_simp; refine hK _ ?_; clear hK K)
      (refine walkJ_mv rfl (fun K hK => ?_); go_simp; refine hK _ _ (CalT.of_below (alloc_below _ _)) ?_; clear hK K)
      have kN := Blk.new w8 [Value.int .i64 p1, Value.int .i64 p2, Value.int .i64 p3, Value.int .i64 p4].toArray 52
      have ba9 := alloc_below w8 (.cells [Value.int .i64 p1, Value.int .i64 p2, Value.int .i64 p3, Value.int .i64 p4].toArray 52)
      have ho9 := owns_below ho8 ba9
      have hk9 := CalB.below hk8 ba9
      have kE9 := kE8.below ba9
      have hb9 := hb8.trans (ba9.mono (by omega))
      have hs9 := Nat.le_trans hs8 ba9.size
      have hne9 := owns_ne ho9 kE9 (by omega)
      refine walkJ_bt rfl (fun K hK => ⟨rfl, gives_app (.tmp 38) (.tmp 50) 22 22 rfl rfl (B + 1) 52 (.agg #[.int .i64 0, .int .i64 0, .int .i64 0, .int .i64 0]) 4 32 Tryd.underlying22 infoPoint rfl (by decide) rfl ho9 [Value.int .i64 p1, Value.int .i64 p2, Value.int .i64 p3, Value.int .i64 p4] w8.heap.size kN rfl rfl (by simp [Value.oneCell']) (by unfold maxLen; omega) (by omega) (by omega) (fun g10 cap10 w10 ho10 hgr10 hbg10 => hK _ _ ?_)⟩)
      clear hK K
      iterate 1 (refine walkJ_rd rfl (fun K hK => ?_); go_simp; refine hK _ ?_; clear hK K)
      refine walkJ_nil ?_
      have hown : ∀ k, u7.ownBlock = some k → B + 1 ≤ k := fun k hk => (ho9.lt k hk).1
      have hk10 : CalB w10 B k2' := (World.grownBy.block hgr10 B hk9.lt (fun e => by have := hown B e.symm; omega)).trans hk9
      have kE10 : Blk w10 G _ _ := (World.grownBy.block hgr10 G kE9.lt (fun e => hne9 e.symm)).trans kE9
      have hb10 : Below B w2 w10 := hb9.grown hgr10 (by omega) (fun j hj => by have := hown j hj; omega)
      have hs10 := Nat.le_trans hs9 hgr10.size
      rw [← HPC.out, ← ptsC_append, List.append_assoc] at ho10
      have HO10 := hid ho10
      have HK10 := hid hk10
      have HE10 := hid kE10
      clear ho10 hk10 kE10 hgr10 ho9 hk9 kE9 hb9 ho8 hb8 hk8 ht8 ht7 tw8 kN ba9 hd hkd hzd hz7 hk7 HOA HKA kEA kE8 hzA hbA kp hne9
      go_wp2
      go_roundw
      case rel => exact ⟨i + 1, by go_num, by omega, ⟨k2', o ++ [(v1, v2)], HST.out.1, HST.out.2, by rw [List.length_append, HOL.out]; rfl, HO10, HK10⟩, hb10, hs10, HE10⟩
      case measure => simp [intOf]; omega
    · obtain rfl : i = M - 1 := by omega
      have hi2 : ¬ ((M - 1 : Nat) : Int) < ((M - 1 : Nat) : Int) := by omega
      obtain ⟨ao3, c3, rfl, -⟩ := id (SlR.of_owns HO.out)
      have hBw : Below w.heap.size w wr := HB.out.trans ((show Below w2.heap.size w2 wr by rw [HBS.out]; exact hbel).mono HB.out.size)
      have hwB : w.heap.size ≤ B := by rw [← HBS.out]; exact HB.out.size
      have hr := SlR.mono (SlR.of_owns HO.out) (show w.heap.size ≤ B + 1 by omega)
      have c0 := HK.out.look 0 rfl
      cases ok with
      | true =>
        obtain ⟨rfl, rfl⟩ := HY.out o (hoks rfl)
        have HRR := hid hr
        have HLL : Hid ((C ++ o).length = L + (M - 1)) := hid (by rw [List.length_append, HLC.out, hol])
        clear hok hoks hr hol HX HY HO HK
        go_wp2
        go_ret2
        refine ⟨⟨_, rfl, ?_⟩, hBw⟩
        unfold PsR
        rw [HLL.out]
        exact HRR.out
      | false =>
        have hs : rowO (joiF (endQ C)) (D.drop 1) (M - 1) = none := by
          cases hs : rowO (joiF (endQ C)) (D.drop 1) (M - 1) with
          | none => rfl
          | some l' => rw [hs] at hok; cases hok
        obtain ⟨rfl, rfl⟩ := HX.out hs
        clear hok hoks hs hr hol HX HY HO
        go_wp2_with fail
        have hd := (Below.refl wr.heap.size wr).drew
        have z0 := fun x : SubT (Below wr.heap.size) wr.drew => (Blk.below HK.out (hd.trans x.b)).look 0 rfl
        refine wp_walkJ (T := Below (wr.heap.size)) (belowV_pre _) (.rd 0 (.rd 1 (.rd 2 (.rd 3 (.inv []))))) (by kernel_rfl) rfl (by kernel_rfl) (by kernel_rfl) ?_
        iterate 4 (refine walkJ_rd rfl (fun K hK => ?_); go_simp; refine hK _ ?_; clear hK K)
        refine walkJ_nil ?_
        go_wp2
        go_ret2
        exact ⟨⟨_, rfl, SlR.nil _ _⟩, hBw.trans (hd.mono hBw.size)⟩

end Go.Proofs.YtfkclcoipadhmaaDoor
