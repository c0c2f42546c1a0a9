/- Walks of the disk: Read, Fuse, NewDisk, Crash. -/
import Derived.Test.YtcpefolhohakmaaT4
namespace Go.Proofs.Ytcpefolhohakmaa
open Go.RowKit
attribute [local irreducible] seqS seqST walkV walkJ

set_option maxHeartbeats 2000000 in
theorem Read_any (gd n : Nat) (v : Nat → Value) (d : Dk) (w : World) (h : DkR w gd v d) (hn : n < 2) (hoff : d.off = false) :
    Calls Try.prog 70 #[.pointer (some ⟨gd, 0, none⟩), .int .i64 (n : Int)] w fun r w' => (∃ v', r = .returned (.tuple #[v', .int .i64 0]) ∧ w'.ownsRow w.heap.size 5 1 v' (d.b n).length (u8V (d.b n))) ∧ Below w.heap.size w w' := by
  have AT := hid (at_any2 gd n v d w h hn)
  have x0 := h.cOff
  have xv := h.cV n hn
  have CL := hid (CloneB_any (d.b n) (v n) w (h.sl hn).choose_spec.choose_spec.2.2 (by have := h.len n hn; have := h.most; omega))
  rw [hoff] at x0
  clear h hoff
  go_enter Try.func70, Try.ntmps70
  go_wp2_with fail
  refine AT.out.mono ?_
  rintro r w1 ⟨rfl, rfl⟩
  clear AT
  go_wp2_with fail
  refine CL.out.mono ?_
  rintro r w1 ⟨⟨v', rfl, ho⟩, hb⟩
  have HO := hid ho
  have HB := hid hb
  clear CL ho hb
  go_wp2
  go_ret2
  exact ⟨⟨_, rfl, HO.out⟩, HB.out⟩

def fuD (k : Nat) (d : Dk) : Dk := { d with fused := true, left := k }
set_option maxHeartbeats 2000000 in
theorem Fuse_any (gd k : Nat) (v : Nat → Value) (d : Dk) (w : World) (h : DkR w gd v d) (hk : k ≤ 1000) :
    Calls Try.prog 20 #[.pointer (some ⟨gd, 0, none⟩), .int .i64 (k : Int)] w fun r w' => r = .returned (.tuple #[]) ∧ DkR w' gd v (fuD k d) ∧ Keep (· ≠ gd) w w' := by
  have x7 := h.cMost
  have x1 := h.cFus
  have x2 := h.cLeft
  have f1 := h.blk.frozen 1
  have f2 := h.blk.frozen 2
  have l0 := h.blk.lt
  have hm := h.most
  have hm0 : (0 : Int) < (d.most : Int) := by omega
  have hk0 : (0 : Int) ≤ (k : Int) := by omega
  have hkp : Keep (· ≠ gd) w ((w.setCell ⟨gd, 1, none⟩ (.bool true)).setCell ⟨gd, 2, none⟩ (.int .i64 (k : Int))) := (Keep.set w (p := ⟨gd, 1, none⟩) (fun h => h rfl) (.bool true)).trans (Keep.set _ (p := ⟨gd, 2, none⟩) (fun h => h rfl) _)
  have HR := hid (h.power (d' := fuD k d) rfl rfl rfl hk ((h.blk.set 1 (.bool true)).set 2 (.int .i64 (k : Int))) hkp)
  have HK := hid hkp
  clear h hkp
  go_enter Try.func20, Try.ntmps20
  go_wp2
  refine bodyPost_end (results_none rfl _ _ _) rfl ?_
  exact ⟨rfl, HR.out, HK.out⟩

def newD (most : Nat) : Dk := ⟨false, false, 0, most, fun _ => [], fun _ => 0⟩
set_option maxHeartbeats 2000000 in
theorem NewDisk_any (most : Nat) (w : World) (h1 : 64 ≤ most) (h2 : most ≤ 1048576) :
    Calls Try.prog 15 #[.int .i64 (most : Int)] w fun r w' => (∃ gd, r = .returned (.tuple #[.pointer (some ⟨gd, 0, none⟩), .int .i64 0]) ∧ w.heap.size ≤ gd ∧ ∃ v, DkR w' gd v (newD most) ∧ ∀ n, (v n).ownBlock = none) ∧ Below w.heap.size w w' := by
  have hm1 : ¬ (most : Int) < 64 := by omega
  have hm2 : ¬ (1048576 : Int) < (most : Int) := by omega
  have kN := Blk.new w (dkC (fun _ => .slice none 0 0) (newD most)) 89
  have hb := alloc_below w (.cells (dkC (fun _ => .slice none 0 0) (newD most)) 89)
  have HR : Hid (DkR (w.alloc (.cells (dkC (fun _ => .slice none 0 0) (newD most)) 89)) w.heap.size (fun _ => .slice none 0 0) (newD most)) := hid
    ⟨kN, fun _ _ => World.ownsRow_nil _ _ _ _, fun _ h => (by cases h), fun _ _ => Nat.le_refl _, fun _ _ => Nat.zero_le _, ⟨h1, h2⟩, Nat.zero_le _⟩
  have HB := hid hb
  clear kN hb
  unfold dkC newD at HR HB
  go_enter Try.func15, Try.ntmps15
  go_wp2
  go_ret2
  exact ⟨⟨_, rfl, Nat.le_refl _, _, HR.out, fun _ => rfl⟩, HB.out⟩

/-- A crash of one area. -/
def crS (n : Nat) (keep : Int) (d : Dk) : Nat := d.s n + (max 0 (min keep ((d.b n).length - d.s n : Nat))).toNat
def cr1 (n : Nat) (keep : Int) (d : Dk) : Dk := { d with b := updN d.b n ((d.b n).take (crS n keep d)), s := updN d.s n (crS n keep d) }
def crP (d : Dk) : Dk := { d with off := false, fused := false, left := 0 }
def crD (k0 k1 : Int) (d : Dk) : Dk := crP (cr1 1 k1 (cr1 0 k0 d))
theorem owns_cut {w : World} {B n : Nat} {e : TypeId} {xs : List Value} {ao : Option Addr} {cap : Nat} (h : w.ownsRow B e 1 (.slice ao n cap) n xs) {k : Nat} (hk : k ≤ n) : w.ownsRow B e 1 (.slice ao k cap) k (xs.take k) := by
  obtain ⟨hl, ⟨h1, h2⟩ | ⟨g', cap', cur, h1, h2, h3, h4, h5, h6, h7⟩⟩ := h
  · cases h1
    have : k = 0 := by omega
    subst this
    exact World.ownsRow_nil _ _ _ _
  · cases h1
    refine ⟨by rw [List.length_take]; omega, .inr ⟨g', cap, cur, rfl, h2, h3, by omega, h5, h6, ?_⟩⟩
    rw [← h7, List.take_take]
    congr 1
    omega
theorem u8V_take (b : Bts) (k : Nat) : (u8V b).take k = u8V (b.take k) := by unfold u8V; rw [List.map_take]
theorem ix2 (a b : Int) (n : Nat) (hn : n < 2) (w : World) : (Instr.index 122 (.agg #[.int .i64 a, .int .i64 b]) (.int .i64 (n : Int))).run Try.prog w = .ok (.int .i64 (if n = 0 then a else b)) w := by
  obtain rfl | rfl : n = 0 ∨ n = 1 := by omega
  · kernel_rfl
  · kernel_rfl
def crN (k0 k1 : Int) (d : Dk) : Nat → Dk
  | 0 => d
  | n + 1 => cr1 n (if n = 0 then k0 else k1) (crN k0 k1 d n)
theorem crD_N (k0 k1 : Int) (d : Dk) : crD k0 k1 d = crP (crN k0 k1 d 2) := rfl
theorem crS_le {d : Dk} {n : Nat} (keep : Int) (h : d.s n ≤ (d.b n).length) : crS n keep d ≤ (d.b n).length := by unfold crS; omega
/-- What the second half of a crash of an area does. -/
theorem DkR.cut {w : World} {gd : Nat} {v : Nat → Value} {d : Dk} (h : DkR w gd v d) {n : Nat} (hn : n < 2) {x : Value} {S : Nat} (hs : d.s n = S) (hS : S ≤ (d.b n).length)
    (ho : w.ownsRow 0 5 1 x S (u8V ((d.b n).take S))) (hx : x.ownBlock = (v n).ownBlock) : DkR (w.setCell ⟨gd, 3 + n * 2, none⟩ x) gd (updN v n x) { d with b := updN d.b n ((d.b n).take S) } ∧ DkG w (w.setCell ⟨gd, 3 + n * 2, none⟩ x) gd v (updN v n x) := by
  have hne : ∀ j, x.ownBlock = some j → j ≠ gd := owns_blk_neT ho h.blk (by decide)
  have hk2 : Keep (fun b => b ≠ gd ∧ (v n).ownBlock ≠ some b) w (w.setCell ⟨gd, 3 + n * 2, none⟩ x) := Keep.set _ (fun h => h.1 rfl) _
  have hk3 : Keep (· ≠ gd) w (w.setCell ⟨gd, 3 + n * 2, none⟩ x) := Keep.set _ (fun h => h rfl) _
  have hlt : ((d.b n).take S).length = S := by rw [List.length_take]; omega
  refine ⟨?_, ⟨hk3.mono (fun b _ hb e => hb (.inl e)), fun b hb => ?_⟩⟩
  · have := h.setV (n := n) (k := d.s n) (x := x) (b' := (d.b n).take S) hn hk2 (fun c c' _ e => by
        have : ((dkC v d).setIfInBounds (3 + n * 2) x).setIfInBounds (3 + n * 2 + 1) (.int .i64 (d.s n : Int)) = (dkC v d).setIfInBounds (3 + n * 2) x := by
          obtain rfl | rfl : n = 0 ∨ n = 1 := by omega
          · rfl
          · rfl
        rw [this]; exact h.blk.set _ _) (by rw [hlt]; exact hk3.owns ho hne) (fun i hi hin g hg1 hg2 => by
        rw [hx] at hg1
        obtain ⟨rfl, rfl⟩ | ⟨rfl, rfl⟩ : (i = 0 ∧ n = 1) ∨ (i = 1 ∧ n = 0) := by omega
        · exact h.ne g hg2 hg1
        · exact h.ne g hg1 hg2) (by rw [hlt, hs]; exact Nat.le_refl _) (by rw [hlt]; exact Nat.le_trans hS (h.len n hn))
    rw [updN_self] at this
    exact this
  · refine .inl (DS_upd (fun b e => ?_) b hb)
    rw [hx] at e
    obtain rfl | rfl : n = 0 ∨ n = 1 := by omega
    · exact .inr (.inl e)
    · exact .inr (.inr e)

set_option maxHeartbeats 4000000 in
set_option maxRecDepth 100000 in
theorem Crash_any (gd : Nat) (k0 k1 : Int) (v : Nat → Value) (d : Dk) (w : World) (h : DkR w gd v d) :
    Calls Try.prog 25 #[.pointer (some ⟨gd, 0, none⟩), .int .i64 k0, .int .i64 k1] w fun r w' => r = .returned (.tuple #[]) ∧ (∃ v', DkR w' gd v' (crD k0 k1 d) ∧ DkG w w' gd v v') := by
  have HD := hid h
  have x7 := h.cMost
  have hm := h.most
  have hm0 : ((d.most : Int) == 0) = false := by rw [beq_eq_false_iff_ne]; omega
  clear h
  go_enter Try.func25, Try.ntmps25
  go_wp2_with fail
  clear x7 hm0
  go_loopw [6, 7, 8, 21] (fun _ _ _ z wr => ∃ n : Nat, z = .int .i64 (n : Int) ∧ n ≤ 2 ∧ (∃ v', Hid (DkR wr gd v' (crN k0 k1 d n)) ∧ Hid (DkG w wr gd v v'))) (fun _ _ _ z _ => 2 - (intOf z).toNat)
  case atStart => exact ⟨0, rfl, by omega, v, HD, hid (DkG.refl _ _ _)⟩
  case round =>
    obtain ⟨n, rfl, hn2, v', HR, HG⟩ := hrel
    by_cases hn : n < 2
    case neg =>
      obtain rfl : n = 2 := by omega
      have hn1 : ¬ ((2 : Nat) : Int) < 2 := by omega
      have y0 := HR.out.cOff
      have y1 := HR.out.cFus
      have y2 := HR.out.cLeft
      have f0' := HR.out.blk.frozen 0
      have f1' := HR.out.blk.frozen 1
      have f2' := HR.out.blk.frozen 2
      have l0 := HR.out.blk.lt
      have hkp : Keep (· ≠ gd) wr (((wr.setCell ⟨gd, 0, none⟩ (.bool false)).setCell ⟨gd, 1, none⟩ (.bool false)).setCell ⟨gd, 2, none⟩ (.int .i64 0)) := ((Keep.set wr (p := ⟨gd, 0, none⟩) (fun h => h rfl) (.bool false)).trans (Keep.set _ (p := ⟨gd, 1, none⟩) (fun h => h rfl) (.bool false))).trans (Keep.set _ (p := ⟨gd, 2, none⟩) (fun h => h rfl) _)
      have hfin := HR.out.power (d' := crP (crN k0 k1 d 2)) rfl rfl rfl (Nat.zero_le _) (((HR.out.blk.set 0 (.bool false)).set 1 (.bool false)).set 2 (.int .i64 0)) hkp
      have HF := hid hfin
      have HGF := hid (HG.out.trans (DkG.of_own hkp))
      clear hfin hkp HR HG
      go_wp2
      refine bodyPost_end (results_none rfl _ _ _) rfl ?_
      exact ⟨rfl, _, HF.out, HGF.out⟩
    case pos =>
      have hn1 : (n : Int) < 2 := by omega
      have hn0 : ¬ (n : Int) < 0 := by omega
      have hix := ix2 k0 k1 n hn
      have hst : Hid (crN k0 k1 d (n + 1) = cr1 n (if n = 0 then k0 else k1) (crN k0 k1 d n)) := hid rfl
      generalize (if n = 0 then k0 else k1) = K at hix hst
      generalize crN k0 k1 d n = e at HR hst
      go_wp2_with fail
      clear hix
      have hS := HR.out.safe n hn
      have hL := HR.out.len n hn
      have hmo := HR.out.most
      have zs := fun y : SubT (Below wr.heap.size) wr.drew => (HR.out.below ((Below.refl wr.heap.size wr).drew.trans y.b)).cS n hn
      have zv := fun y : SubT (Below wr.heap.size) wr.drew => (HR.out.below ((Below.refl wr.heap.size wr).drew.trans y.b)).cV n hn
      obtain ⟨av, cv, hve, hcv, -⟩ := HR.out.sl hn
      have HVE := hid hve
      rw [hve] at zv
      have hcr : Hid (crS n K e = e.s n + (max 0 (min K ((e.b n).length - e.s n : Nat))).toNat) := hid rfl
      obtain ⟨L, hLe⟩ : ∃ L, (e.b n).length = L := ⟨_, rfl⟩
      obtain ⟨S, hSe⟩ : ∃ L, e.s n = L := ⟨_, rfl⟩
      rw [hLe, hSe] at hS
      rw [hLe] at hL zv hcv
      rw [hSe] at zs
      have HLE := hid hLe
      have HSE := hid hSe
      clear hve hLe hSe
      have hw1 : IntKind.i64.wrap ((L : Int) - (S : Int)) = ((L - S : Nat) : Int) := by
        have := Go.Lib.wrap_i64_small (L - S) (by omega)
        rwa [show ((L - S : Nat) : Int) = (L : Int) - (S : Int) by omega] at this ⊢
      obtain ⟨m, hmi⟩ : ∃ m, (if ((L - S : Nat) : Int) < K then ((L - S : Nat) : Int) else K) = m := ⟨_, rfl⟩
      obtain ⟨M, hma⟩ : ∃ M : Nat, (if 0 < m then m else 0) = (M : Int) := ⟨(if 0 < m then m else 0).toNat, by split <;> omega⟩
      have hML : S + M ≤ L := by
        split at hmi <;> split at hma <;> omega
      have hcr2 : crS n K e = S + M := by
        rw [hcr.out, HLE.out, HSE.out]
        split at hmi <;> split at hma <;> omega
      have hw2 : IntKind.i64.wrap ((S : Int) + (M : Int)) = ((S + M : Nat) : Int) := by
        have := Go.Lib.wrap_i64_small (S + M) (by omega)
        rwa [show ((S + M : Nat) : Int) = (S : Int) + (M : Int) by omega] at this ⊢
      have HCR := hid hcr2
      clear hcr hcr2
      generalize L - S = C at hw1 hmi
      refine wp_walkJ (T := Below (wr.heap.size)) (belowV_pre _) (.rd 0 (.rd 1 (.rd 2 (.rd 3 (.rd 4 (.rd 5 (.rd 6 (.rd 7 (.rd 8 (.rd 9 (.rd 10 (.rd 11 (.rd 12 (.rd 13 (.rd 14 (.rd 15 (.rd 16 (.rd 17 (.rd 18 (.rd 19 (.bt 20 (.inv [])))))))))))))))))))))) (by kernel_rfl) rfl (by kernel_rfl) (by kernel_rfl) ?_
      iterate 20 (refine walkJ_rd rfl (fun K hK => ?_); go_simp; refine hK _ ?_; clear hK K)
      clear zs zv hw1 hw2 hmi hma
      have hd1 := (Below.refl wr.heap.size wr).drew
      have HR1 := hid (HR.out.below hd1)
      have HG1 := hid (HG.out.trans (DkG.of_below hd1))
      clear hd1 HR HG
      generalize wr.drew = W0 at HR1 HG1 ⊢
      have x0 := HR1.out.cS n hn
      have f0' := HR1.out.blk.frozen (3 + n * 2 + 1)
      have l0 := HR1.out.blk.lt
      have hSM : (S : Int) + (M : Int) = ((S + M : Nat) : Int) := by omega
      rw [hSM]
      have hr2 := HR1.out.setS n (S + M) hn (by rw [HLE.out]; exact hML)
      have hg2 := HG1.out.trans (DkG.of_own (v := v') (Keep.set (S := (· ≠ gd)) W0 (p := ⟨gd, 3 + n * 2 + 1, none⟩) (fun h => h rfl) (.int .i64 ((S + M : Nat) : Int))))
      have HR2 := hid hr2
      have HG2 := hid hg2
      clear hr2 hg2 hSM
      generalize S + M = T at HR2 HG2 HCR hML ⊢
      (refine walkJ_bt rfl (fun K hK => ?_); go_simp; refine hK _ _ ?_; clear hK K)
      refine walkJ_nil ?_
      clear x0 f0' l0 HR1 HG1
      generalize W0.setCell ⟨gd, 3 + n * 2 + 1, none⟩ (.int .i64 (T : Int)) = W at HR2 HG2 ⊢
      have hTc : T ≤ cv := by omega
      have hs2 : updN e.s n T n = T := updN_same _ _ _
      have zs := fun y : SubT (Below W.heap.size) W.drew => (HR2.out.below ((Below.refl W.heap.size W).drew.trans y.b)).cS n hn
      have zv := fun y : SubT (Below W.heap.size) W.drew => (HR2.out.below ((Below.refl W.heap.size W).drew.trans y.b)).cV n hn
      simp only [hs2] at zs
      simp only [HVE.out, HLE.out] at zv
      go_wp2_with fail
      refine wp_walkJ (T := Below (W.heap.size)) (belowV_pre _) (.rd 0 (.rd 1 (.rd 2 (.rd 3 (.rd 4 (.rd 5 (.rd 6 (.rd 7 (.rd 8 (.rd 9 (.rd 10 (.rd 11 (.bt 12 (.inv [])))))))))))))) (by kernel_rfl) rfl (by kernel_rfl) (by kernel_rfl) ?_
      iterate 12 (refine walkJ_rd rfl (fun K hK => ?_); go_simp; refine hK _ ?_; clear hK K)
      clear zs zv
      have hd3 := (Below.refl W.heap.size W).drew
      have HR3 := hid (HR2.out.below hd3)
      have HG3 := hid (HG2.out.trans (DkG.of_below hd3))
      clear hd3 HR2 HG2
      generalize W.drew = W3 at HR3 HG3 ⊢
      have ho := HR3.out.own n hn
      rw [HVE.out] at ho
      simp only [HLE.out] at ho
      have hfin := HR3.out.cut hn (x := .slice av T cv) (S := T) hs2 (by show T ≤ (e.b n).length; rw [HLE.out]; exact hML) (by have := owns_cut ho hML; rw [u8V_take] at this; exact this) (by rw [HVE.out]; cases av <;> rfl)
      have HF := hid hfin
      clear ho hfin
      have x0 := HR3.out.cV n hn
      have f0' := HR3.out.blk.frozen (3 + n * 2)
      have l0 := HR3.out.blk.lt
      (refine walkJ_bt rfl (fun K hK => ?_); go_simp; refine hK _ _ ?_; clear hK K)
      refine walkJ_nil ?_
      clear x0 f0' l0
      have hfe : { { e with s := updN e.s n T } with b := updN e.b n ((e.b n).take T) } = crN k0 k1 d (n + 1) := by
        rw [hst.out]
        unfold cr1
        rw [HCR.out]
      have HR4 : Hid (DkR (W3.setCell ⟨gd, 3 + n * 2, none⟩ (.slice av T cv)) gd (updN v' n (.slice av T cv)) (crN k0 k1 d (n + 1))) := hid (by rw [← hfe]; exact HF.out.1)
      have HG4 := hid (HG3.out.trans HF.out.2)
      clear HR3 HG3 HF hfe
      generalize W3.setCell ⟨gd, 3 + n * 2, none⟩ (.slice av T cv) = W4 at HR4 HG4 ⊢
      go_wp2_with fail
      go_roundw
      case rel => exact ⟨n + 1, by go_num, by omega, _, HR4, HG4⟩
      case measure => simp [intOf]; omega

end Go.Proofs.Ytcpefolhohakmaa
