/- Walks of the journal: write. -/
import Derived.Test.YtcpefolhohakmaaT7
namespace Go.Proofs.Ytcpefolhohakmaa
open Go.RowKit
attribute [local irreducible] seqS seqST walkV walkJ

def wrE (n : Nat) (x : Bts) (d : Dk) : Int := if spB d then (if appE n x (clearD n d) = 0 then pwE (spB (appD n x (clearD n d))) else appE n x (clearD n d)) else 14
def wrD (n : Nat) (x : Bts) (d : Dk) : Dk := if spB d then (if appE n x (clearD n d) = 0 then syncD n (appD n x (clearD n d)) else appD n x (clearD n d)) else clearD n d
theorem rc_cell {lo : Nat} {w : World} {ao : Option Addr} {n cap : Nat} {vs : List Value} (h : RcR lo w (.slice ao n cap) vs) {i : Nat} (hi : i < vs.length) : ∃ g off, ao = some ⟨g, off, none⟩ ∧ g < w.heap.size ∧ w.cell? ⟨g, off + i, none⟩ = some (vs.getD i undef) := by
  obtain ⟨ao', cap', e, -, -, hc⟩ := h.sl
  cases e
  obtain ⟨g, off, h1, -, h3, h4⟩ := hc (by intro e; rw [e] at hi; exact absurd hi (Nat.not_lt_zero _))
  exact ⟨g, off, h1, h3, h4 i hi⟩
/-- Bytes that are older than the row that is written. -/
theorem bso_of {w w' : World} {lo B n : Nat} {vb vp : Value} {xs : List Value} {p : Bts} (hp : w.ownsRow lo 5 1 vp p.length (u8V p)) (k : Below w.heap.size w w') (hb : w'.ownsRow B 5 1 vb n xs) (hB : w.heap.size ≤ B) : BsO w' vb vp p := by
  have h1 : BsR w vp p := bs_of_owns hp rfl
  have h2 : SlS (fun g => g < w.heap.size) w vp p.length (u8V p) := SlS.of_sl (h1) (fun b _ hb => hb)
  have h3 := SlS.keep (S' := fun g => g < w.heap.size) h2 ⟨k.os, k.tape, k.output, k.size, fun b hb _ => k.block b hb⟩ (fun _ _ h => h)
  refine SlS.mono h3 (fun b _ hb2 e => ?_)
  have := (hb.lt b e).1
  omega

theorem lay_step (g k : Nat) (s : Bts) (rs : List Bts) (i : Nat) (hi : i < rs.length) : frms (lay g k s (rs.take (i + 1))) = frms (lay g k s (rs.take i)) ++ frm (rs.getD i []) := by
  have h : rs.take (i + 1) = rs.take i ++ [rs.getD i []] := by
    rw [List.take_succ_eq_append_getElem hi, List.getD_eq_getElem?_getD, List.getElem?_eq_getElem hi]; rfl
  rw [h]
  unfold lay
  rw [← frms_snoc]; rfl
theorem lay_le (g k : Nat) (s : Bts) (rs : List Bts) (i : Nat) : (frms (lay g k s (rs.take i))).length ≤ (frms (lay g k s rs)).length := by
  have h : lay g k s rs = lay g k s (rs.take i) ++ rs.drop i := by unfold lay; simp
  rw [h, frms_append, List.length_append]; omega
theorem lay_zero (g k : Nat) (s : Bts) : frms (lay g k s []) = frm (hdr g k) ++ frm s := by unfold lay; rw [frms_cons, frms_cons, frms_nil, List.append_nil]

set_option maxHeartbeats 4000000 in
set_option maxRecDepth 100000 in
theorem write_any (gd n : Nat) (v : Nat → Value) (d : Dk) (g : Nat) (s : Bts) (rs : List Bts) (vs vr : Value) (rvs : List Value) (w : World) (h : DkR w gd v d) (hn : n < 2) (lo : Nat) (hlo : ∀ b, DS gd v b → b < lo)
    (hs : w.ownsRow lo 5 1 vs s.length (u8V s)) (hr : RcR lo w vr rvs) (hp : PaysO lo w rvs rs) (hF : (frms (lay g rs.length s rs)).length ≤ 80000000) :
    Calls Try.prog 59 #[cntV (g : Int) vs vr, .pointer (some ⟨gd, 0, none⟩), .int .i64 (n : Int)] w fun r w' => r = .returned (.int .i64 (wrE n (frms (lay g rs.length s rs)) d)) ∧ (∃ v', DkR w' gd v' (wrD n (frms (lay g rs.length s rs)) d) ∧ DkG w w' gd v v') := by
  have kE := Blk.new w #[.int .i64 (g : Int), vs, vr] 113
  have bE := alloc_below w (.cells #[.int .i64 (g : Int), vs, vr] 113)
  have hsE : (w.alloc (.cells #[.int .i64 (g : Int), vs, vr] 113)).heap.size = w.heap.size + 1 := by simp
  have hd1 := h.below bE
  have hs1 := owns_below hs bE
  have hr1 := hr.below bE
  have hp1 := hp.below bE
  have HG1 := hid (DkG.of_below (gd := gd) (v := v) bE)
  have CL := hid (Clear_any gd n v d _ hd1 hn)
  have hgE : w.heap.size ≠ gd ∧ ¬ DS gd v w.heap.size := by
    have h0 : ¬ DS gd v w.heap.size := fun e => by
      rcases e with e | e | e
      · have := h.blk.lt; omega
      · have := ((h.own 0 (by decide)).lt _ e).2; omega
      · have := ((h.own 1 (by decide)).lt _ e).2; omega
    exact ⟨fun e => h0 (.inl e), h0⟩
  obtain ⟨av, cv, rfl, -⟩ := SlR.of_owns hs1
  have HS1 := hid hs1
  have HR1 := hid hr1
  have HP1 := hid hp1
  have KE := hid kE
  have HD0 := hid h
  have HWE : Hid (wrE n (frms (lay g rs.length s rs)) d = if spB d then (if appE n (frms (lay g rs.length s rs)) (clearD n d) = 0 then pwE (spB (appD n (frms (lay g rs.length s rs)) (clearD n d))) else appE n (frms (lay g rs.length s rs)) (clearD n d)) else 14) := hid rfl
  have HWD : Hid (wrD n (frms (lay g rs.length s rs)) d = if spB d then (if appE n (frms (lay g rs.length s rs)) (clearD n d) = 0 then syncD n (appD n (frms (lay g rs.length s rs)) (clearD n d)) else appD n (frms (lay g rs.length s rs)) (clearD n d)) else clearD n d) := hid rfl
  obtain ⟨re, hre⟩ : ∃ z, wrE n (frms (lay g rs.length s rs)) d = z := ⟨_, rfl⟩
  obtain ⟨rd, hrd⟩ : ∃ z, wrD n (frms (lay g rs.length s rs)) d = z := ⟨_, rfl⟩
  rw [hre] at HWE ⊢
  rw [hrd] at HWD ⊢
  have HHG := hid (⟨hgE.1, hgE.2, hlo⟩ : w.heap.size ≠ gd ∧ ¬ DS gd v w.heap.size ∧ ∀ b, DS gd v b → b < lo)
  obtain ⟨gb, hgb⟩ : ∃ z, w.heap.size = z := ⟨_, rfl⟩
  have HGB := hid hgb
  rw [hgb] at KE HHG
  clear hre hrd kE bE hsE hd1 hs hr hp hs1 hr1 hp1 hgE h hlo hgb
  unfold cntV
  go_enter Try.func59, Try.ntmps59
  go_wp2_with fail
  refine CL.out.mono ?_
  rintro r w1 ⟨rfl, v1, hd1, hg1⟩
  clear CL
  obtain ⟨sb, hsb⟩ : ∃ z, spB d = z := ⟨_, rfl⟩
  rw [hsb] at HWE HWD ⊢
  clear hsb
  cases sb with
  | false =>
    have e1 : Hid (re = 14) := hid (by rw [HWE.out, if_neg (by simp)])
    have e2 : Hid (rd = clearD n d) := hid (by rw [HWD.out, if_neg (by simp)])
    have HDF := hid hd1
    have HGF := hid (HG1.out.trans hg1)
    clear HWE HWD hd1 hg1
    go_wp2
    go_ret
    exact ⟨ret_int e1.out.symm, _, by rw [e2.out]; exact HDF.out, HGF.out⟩
  | true =>
    have e1 : Hid (re = if appE n (frms (lay g rs.length s rs)) (clearD n d) = 0 then pwE (spB (appD n (frms (lay g rs.length s rs)) (clearD n d))) else appE n (frms (lay g rs.length s rs)) (clearD n d)) := hid (by rw [HWE.out, if_pos rfl])
    have e2 : Hid (rd = if appE n (frms (lay g rs.length s rs)) (clearD n d) = 0 then syncD n (appD n (frms (lay g rs.length s rs)) (clearD n d)) else appD n (frms (lay g rs.length s rs)) (clearD n d)) := hid (by rw [HWD.out, if_pos rfl])
    have hlo2 : ∀ b, lo ≤ b → ¬ DS gd v b := fun b hb e => by have := HHG.out.2.2 b e; omega
    have HS2 := hid (hg1.keep.owns HS1.out (fun b hb => hlo2 b (HS1.out.lt b hb).1))
    have HR2 := hid (HR1.out.keep hg1.keep (fun b hb => hlo2 b (by
      rcases HR1.out with ⟨rfl, -⟩ | ⟨g', off, cap, cur, rfl, h2, -⟩
      · cases hb
      · cases hb; exact h2)))
    have HP2 := hid (HP1.out.keep hg1.keep (fun i hi b hb => hlo2 b ((HP1.out.2 i hi).lt b hb).1))
    have KE2 := hid (hg1.keep.blk KE.out HHG.out.2.1)
    have HD2 := hid hd1
    have HG2 := hid (HG1.out.trans hg1)
    clear HWE HWD hd1 hg1 hlo2 HS1 HR1 HP1 KE HG1 HD0
    rw [HGB.out]
    obtain ⟨F, hF2⟩ : ∃ F, frms (lay g rs.length s rs) = F := ⟨_, rfl⟩
    have HFE := hid hF2
    rw [hF2] at e1 e2 hF
    obtain ⟨ar, cr, rfl, hcr, hcrm, -⟩ := id HR2.out.sl
    have HRL := hid HP2.out.1
    obtain ⟨nr, hnr⟩ : ∃ n, rvs.length = n := ⟨_, rfl⟩
    have HNR := hid hnr
    have hrsl : rs.length = nr := by rw [← HRL.out]; exact hnr
    have HRSL := hid hrsl
    rw [hnr] at hcr HR2 KE2
    have hnrl : nr ≤ 80000000 := by
      have h1 := frms_len (lay g rs.length s rs)
      rw [hF2] at h1
      have h2 : (lay g rs.length s rs).length = rs.length + 2 := rfl
      omega
    unfold maxLen at hcrm
    clear hF2 hnr hrsl
    go_wp2_with fail
    have zb0 := fun y : SubT (Below w1.heap.size) w1.drew => (KE2.out.below ((Below.refl w1.heap.size w1).drew.trans y.b)).look 0 rfl
    have zb1 := fun y : SubT (Below w1.heap.size) w1.drew => (KE2.out.below ((Below.refl w1.heap.size w1).drew.trans y.b)).look 1 rfl
    have zb2 := fun y : SubT (Below w1.heap.size) w1.drew => (KE2.out.below ((Below.refl w1.heap.size w1).drew.trans y.b)).look 2 rfl
    refine wp_walkJ (T := Below (w1.heap.size)) (belowV_pre _) (.rd 0 (.rd 1 (.rd 3 (.rd 4 (.rd 5 (.mv 2 (.bt 6 (.bt 7 (.rd 8 (.inv [])))))))))) (by kernel_rfl) rfl (by kernel_rfl) (by kernel_rfl) ?_
    iterate 5 (refine walkJ_rd rfl (fun K hK => ?_); go_simp; refine hK _ ?_; clear hK K)
    clear zb0 zb1 zb2
    have hd := (Below.refl w1.heap.size w1).drew
    have P1 := hid (putNumber_any g 8 (by omega) w1.heap.size 0 [] (.slice none 0 0) w1.drew (by omega) (Nat.le_refl _) (World.ownsRow_nil _ _ _ _))
    (refine walkJ_mv rfl (fun K hK => ?_); go_simp; refine P1.out.mono ?_; rintro r w2 ⟨⟨v2, rfl, ho2, hg2⟩, hb2⟩; refine ⟨_, rfl, hK _ _ hb2 ?_⟩; clear hK K)
    have hb2' := hd.trans hb2
    have hs2 := hb2'.size
    have P2 := hid (putNumber_any nr 4 (by omega) w1.heap.size (0 + 8) _ v2 w2 (by omega) hs2 ho2)
    (refine walkJ_bt rfl (fun K hK => ?_); go_simp; refine P2.out.mono ?_; rintro r w3 ⟨⟨v3, rfl, ho3, hg3⟩, hb3⟩; refine ⟨_, rfl, hK _ _ ?_⟩; clear hK K)
    have hb3' := hb2'.trans hb3
    have hs3 := hb3'.size
    have hho : w3.ownsRow w1.heap.size 5 1 v3 (hdr g nr).length (u8V (hdr g nr)) := by
      rw [hdr_length]
      exact ho3
    have P3 := hid (frame_any (hdr g nr) [] w1.heap.size 0 (.slice none 0 0) v3 w3 (by rw [hdr_length]; omega) hs3 (World.ownsRow_nil _ _ _ _) ((bs_of_owns hho rfl).off rfl))
    (refine walkJ_bt rfl (fun K hK => ?_); go_simp; refine P3.out.mono ?_; rintro r w4 ⟨⟨v4, rfl, ho4, hg4⟩, hb4⟩; refine ⟨_, rfl, hK _ _ ?_⟩; clear hK K)
    have HB4 := hid (hb3'.trans hb4)
    rw [hdr_length, List.nil_append] at ho4
    have HO4 := hid ho4
    clear P1 P2 P3 hb2 ho2 hg2 hb2' hs2 ho3 hg3 hb3 hb3' hs3 hho ho4 hg4 hb4
    iterate 1 (refine walkJ_rd rfl (fun K hK => ?_); go_simp; refine hK _ ?_; clear hK K)
    refine walkJ_nil ?_
    have hs4 := HB4.out.size
    have KE4 := KE2.out.below' HB4.out KE2.out.lt
    have y1 := KE4.look 1 rfl
    have l4 := KE4.lt
    have hl0 := lay_le g nr s rs 0
    rw [List.take_zero, lay_zero] at hl0
    have hfl : (frms (lay g nr s rs)).length = F.length := by rw [← HFE.out, HRSL.out]
    have hs80 : s.length ≤ 80000000 := by
      rw [List.length_append, frm_length s] at hl0
      omega
    have P4 := hid (frame_any s (frm (hdr g nr)) w1.heap.size (0 + 12 + 8) v4 (.slice av s.length cv) w4 (by omega) hs4 HO4.out (bso_of HS2.out HB4.out HO4.out (Nat.le_refl _)))
    have HFL := hid hfl
    clear hl0 hs80 hfl hs4 KE4
    go_wp2_with fail
    refine P4.out.mono ?_
    rintro r w5 ⟨⟨v5, rfl, ho5, hg5⟩, hb5⟩
    have HB5 := hid (HB4.out.trans hb5)
    have HO5 : Hid (w5.ownsRow w1.heap.size 5 1 v5 (frms (lay g nr s (rs.take 0))).length (u8V (frms (lay g nr s (rs.take 0))))) := hid (by
      rw [List.take_zero, lay_zero, List.length_append, frm_length, hdr_length, frm_length]
      have e : 0 + 12 + 8 + s.length + 8 = 12 + 8 + (s.length + 8) := by omega
      rw [← e]
      exact ho5)
    have KE5 := KE2.out.below' HB5.out KE2.out.lt
    clear y1
    have y2 := KE5.look 2 rfl
    have l5 := KE5.lt
    clear P4 ho5 hg5 hb5 HB4 HO4 KE5 l4
    go_wp2_with fail
    clear y2 l5
    go_loopw [8, 10, 33] (fun y _ z wr => ∃ i : Nat, z = .int .i64 (i : Int) ∧ i ≤ nr ∧ Hid (Below w1.heap.size w1 wr) ∧ Hid (wr.ownsRow w1.heap.size 5 1 y (frms (lay g nr s (rs.take i))).length (u8V (frms (lay g nr s (rs.take i)))))) (fun _ _ z _ => nr - (intOf z).toNat)
    case atStart => exact ⟨0, rfl, Nat.zero_le _, HB5, HO5⟩
    case round =>
      obtain ⟨i, rfl, hi, HB, HO⟩ := hrel
      by_cases hin : i < nr
      case pos =>
        have hin2 : (i : Int) < (nr : Int) := by omega
        obtain ⟨gx, ox, rfl, hgx, x0⟩ := rc_cell HR2.out (show i < rvs.length by rw [HNR.out]; exact hin)
        have hpi := HP2.out.2 i (by rw [HRSL.out]; exact hin)
        obtain ⟨ai, ci, hvi, -⟩ := SlR.of_owns hpi
        rw [hvi] at x0 hpi
        have x1 := (HB.out.cell (p := ⟨gx, ox + i, none⟩) hgx).trans x0
        have hle := lay_le g nr s rs (i + 1)
        have hst := lay_step g nr s rs i (by rw [HRSL.out]; exact hin)
        rw [hst, HFL.out, List.length_append, frm_length] at hle
        have FR := hid (frame_any (rs.getD i []) (frms (lay g nr s (rs.take i))) w1.heap.size (frms (lay g nr s (rs.take i))).length u8 (.slice ai (rs.getD i []).length ci) wr (by omega) HB.out.size HO.out (bso_of hpi HB.out HO.out (Nat.le_refl _)))
        have HST := hid hst
        clear hvi hpi x0 hle hst
        go_wp2_with fail
        refine FR.out.mono ?_
        rintro r w6 ⟨⟨v6, rfl, ho6, hg6⟩, hb6⟩
        have HB6 := hid (HB.out.trans hb6)
        have HO6 : Hid (w6.ownsRow w1.heap.size 5 1 v6 (frms (lay g nr s (rs.take (i + 1)))).length (u8V (frms (lay g nr s (rs.take (i + 1)))))) := hid (by
          rw [HST.out, List.length_append, frm_length, ← Nat.add_assoc]
          exact ho6)
        clear FR hb6 ho6 hg6 x1
        go_wp2_with fail
        go_roundw
        case rel => exact ⟨i + 1, by go_num, by omega, HB6, HO6⟩
        case measure => simp [intOf]; omega
      case neg =>
        obtain rfl : i = nr := by omega
        have hin2 : ¬ (i : Int) < (i : Int) := by omega
        have htk : frms (lay g i s (rs.take i)) = F := by rw [List.take_of_length_le (by rw [HRSL.out]; exact Nat.le_refl _), ← HFE.out, HRSL.out]
        rw [htk] at HO
        have HDr := HD2.out.below HB.out
        have HGr := hid (HG2.out.trans (DkG.of_below HB.out))
        have hgdl := HD2.out.blk.lt
        obtain ⟨a8, c8, rfl, -⟩ := SlR.of_owns HO.out
        have AP := hid (Append_any gd n v1 (clearD n d) F (.slice a8 F.length c8) wr HDr hn (SlS.of_sl (SlR.of_owns HO.out) (fun b hb _ e => by omega)))
        clear HDr
        obtain ⟨ae, hae⟩ : ∃ z, appE n F (clearD n d) = z := ⟨_, rfl⟩
        rw [hae] at AP e1 e2
        have HAE := hid hae
        clear hae
        go_wp2_with fail
        refine AP.out.mono ?_
        rintro r w6 ⟨rfl, v6, hd6, hg6⟩
        have HD6 := hid hd6
        have HG6 := hid (HGr.out.trans hg6)
        clear AP hd6 hg6 HGr
        by_cases h0 : ae = 0
        · rw [if_pos h0] at e1 e2
          subst h0
          have SY := hid (Sync_any gd n v6 _ w6 HD6.out hn)
          go_wp2_with fail
          refine SY.out.mono ?_
          rintro r w7 ⟨rfl, hd7, hk7⟩
          have HD7 := hid hd7
          have HG7 := hid (HG6.out.trans (DkG.of_own hk7))
          clear SY hd7 hk7 HD6 HG6
          go_wp2
          go_ret
          exact ⟨ret_int e1.out.symm, _, by rw [e2.out]; exact HD7.out, HG7.out⟩
        · rw [if_neg h0] at e1 e2
          have h1 : (ae == 0) = false := by rw [beq_eq_false_iff_ne]; exact h0
          go_wp2
          go_ret
          exact ⟨ret_int e1.out.symm, _, by rw [e2.out]; exact HD6.out, HG6.out⟩

end Go.Proofs.Ytcpefolhohakmaa
