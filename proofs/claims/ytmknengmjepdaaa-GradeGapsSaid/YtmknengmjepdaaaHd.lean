/- Walk of trankref04.Gap. -/
import Derived.Test.YtmknengmjepdaaaHa
import Derived.Test.YtmknengmjepdaaaRt
namespace Go.Proofs.Ytmknengmjepdaaa
open Go.RowKit
attribute [local irreducible] seqS seqST walkT

theorem alloc_swap {B : Nat} {w : World} (h : B ≤ w.heap.size) (c c' : Array Value) (t : TypeId) : Below B (w.alloc (.cells c t)) (w.alloc (.cells c' t)) :=
  ⟨rfl, rfl, rfl, by simp, fun k hk => (Below.heap_alloc w _ k (by omega)).trans (Below.heap_alloc w _ k (by omega)).symm⟩
def gapIn (p : Pat) (a b : Int) : Prop := 0 ≤ a ∧ a < p.n ∧ 0 ≤ b ∧ b < p.n
instance (p : Pat) (a b : Int) : Decidable (gapIn p a b) := inferInstanceAs (Decidable (_ ∧ _))
def gapE (p : Pat) (n d : Int) (a b : Int) : Int := if PValid p ∧ FSize n d ∧ gapIn p a b then (if chBad p n d then 10 else 0) else 2
def gapB (p : Pat) (n d : Int) (a b : Int) : Bool := decide (gapE p n d a b = 0) && decide (chainM p n d a.toNat b.toNat ≠ NONE)
def gapN (p : Pat) (n d : Int) (a b : Int) : Int := if gapB p n d a b then newN (chainM p n d a.toNat b.toNat) d else 0
def gapD (p : Pat) (n d : Int) (a b : Int) : Int := if gapB p n d a b then newD (chainM p n d a.toNat b.toNat) d else 0
def gapV (p : Pat) (n d : Int) (a b : Int) : Value := .tuple #[frV (gapN p n d a b) (gapD p n d a b), .bool (gapB p n d a b), .int .i64 (gapE p n d a b)]
theorem gapV_no {p : Pat} {n d a b : Int} (h : gapB p n d a b = false) : gapV p n d a b = .tuple #[frV 0 0, .bool false, .int .i64 (gapE p n d a b)] := by
  unfold gapV gapN gapD; rw [h]; rfl
theorem gapV_two {p : Pat} {n d a b : Int} (h : ¬ (PValid p ∧ FSize n d ∧ gapIn p a b)) : gapV p n d a b = .tuple #[frV 0 0, .bool false, .int .i64 2] := by
  have e : gapE p n d a b = 2 := by unfold gapE; rw [if_neg h]
  rw [gapV_no (by unfold gapB; rw [e]; rfl), e]
theorem gapV_ten {p : Pat} {n d a b : Int} (h : PValid p ∧ FSize n d ∧ gapIn p a b) (hb : chBad p n d = true) : gapV p n d a b = .tuple #[frV 0 0, .bool false, .int .i64 10] := by
  have e : gapE p n d a b = 10 := by unfold gapE; rw [if_pos h, hb]; rfl
  rw [gapV_no (by unfold gapB; rw [e]; rfl), e]
theorem gapV_none {p : Pat} {n d a b : Int} (h : PValid p ∧ FSize n d ∧ gapIn p a b) (hb : chBad p n d = false) (hm : chainM p n d a.toNat b.toNat = NONE) : gapV p n d a b = .tuple #[frV 0 0, .bool false, .int .i64 0] := by
  have e : gapE p n d a b = 0 := by unfold gapE; rw [if_pos h, hb]; rfl
  rw [gapV_no (by unfold gapB; rw [e]; simp [hm]), e]
theorem gapV_yes {p : Pat} {n d a b : Int} (h : PValid p ∧ FSize n d ∧ gapIn p a b) (hb : chBad p n d = false) (hm : chainM p n d a.toNat b.toNat ≠ NONE) : gapV p n d a b = .tuple #[frV (newN (chainM p n d a.toNat b.toNat) d) (newD (chainM p n d a.toNat b.toNat) d), .bool true, .int .i64 0] := by
  have e : gapE p n d a b = 0 := by unfold gapE; rw [if_pos h, hb]; rfl
  have eb : gapB p n d a b = true := by unfold gapB; rw [e]; simp [hm]
  unfold gapV gapN gapD; rw [eb, e]; rfl
/-- Why there is no gap. -/
theorem gap_cases (p : Pat) (a b : Int) : a < 0 ∨ (0 ≤ a ∧ p.n ≤ a) ∨ (0 ≤ a ∧ a < p.n ∧ b < 0) ∨ (0 ≤ a ∧ a < p.n ∧ 0 ≤ b ∧ p.n ≤ b) ∨ gapIn p a b := by unfold gapIn; omega

set_option maxHeartbeats 8000000 in
set_option maxRecDepth 100000 in
theorem rGap_any (p : Pat) (n d a b : Int) (v : Value) (w : World) (h : PatF 0 w v p) :
    Calls Try.prog 46 #[v, .agg #[.int .i64 n, .int .i64 d], .int .i64 a, .int .i64 b] w fun e w' => e = .returned (gapV p n d a b) ∧ Below w.heap.size w w' := by
  obtain ⟨sv, rfl, hsl⟩ := id h
  go_enter Try.func46, Try.ntmps46
  go_wp2_with fail
  obtain ⟨w0, hw0, k0, k1, k2, hB, hsz⟩ := three_new w #[.int .i64 p.n, sv] #[.int .i64 n, .int .i64 d] #[.int .i64 0, .int .i64 0] 24 26 26
  rw [hw0]
  clear hw0
  have fin : Hid (∀ W, Below w.heap.size w0 W → Below w.heap.size w W) := hid (fun W hb => hB.trans hb)
  have h0 := h.below hB
  obtain ⟨S, hS⟩ : ∃ S, w.heap.size = S := ⟨_, rfl⟩
  rw [hS] at k0 k1 k2 hsz ⊢
  have HS := hid hS
  clear h hsl hB hS
  obtain ⟨gv, hgv⟩ : ∃ g, gapV p n d a b = g := ⟨_, rfl⟩
  have HGV := hid hgv
  clear hgv
  obtain ⟨g1, hg1⟩ : ∃ g, (decide (PValid p) && decide (FSize n d)) = g := ⟨_, rfl⟩
  have HG1 := hid hg1
  clear hg1
  have c0 := k0.look 0 rfl
  have c1 := k0.look 1 rfl
  have c2 := k1.look 0 rfl
  have c3 := k1.look 1 rfl
  go_wp2_with fail
  refine (Good_any p n d _ _ h0).mono ?_
  rintro e w1 ⟨rfl, b1⟩
  rw [HG1.out]
  clear c0 c1 c2 c3
  have bs1 : Below S w0 w1 := b1.mono (by omega)
  have k01 := k0.below b1
  have k11 := k1.below b1
  have k21 := k2.below b1
  have c0 := k01.look 0 rfl
  have r0 := k21.cell 0
  have r1 := k21.cell 1
  have q0 := k21.look 0 rfl
  have q1 := k21.look 1 rfl
  have rf := k21.frozen
  have bz : Hid (∀ x y : Value, Below S w0 ((w1.setCell ⟨S + 1 + 1, 0, none⟩ x).setCell ⟨S + 1 + 1, 1, none⟩ y)) := hid (fun x y => (bs1.setCell (p := ⟨S + 1 + 1, 0, none⟩) (by show S ≤ S + 1 + 1; omega) x).setCell (p := ⟨S + 1 + 1, 1, none⟩) (by show S ≤ S + 1 + 1; omega) y)
  cases g1 with
  | false =>
    have hno : gv = .tuple #[frV 0 0, .bool false, .int .i64 2] := by
      rw [← HGV.out]
      exact gapV_two (fun hh => by
        have := HG1.out
        rw [decide_eq_true hh.1, decide_eq_true hh.2.1] at this
        cases this)
    have HNO := hid hno
    clear hno
    go_wp2
    refine bodyPost_ret (v := .tuple #[frV 0 0, .bool false, .int .i64 2]) ?_ rfl ⟨by rw [HGV.out, HNO.out], by rw [HS.out]; have := fin.out; rw [HS.out] at this; exact this _ (bz.out _ _)⟩
    simp [results, Try.results46, go_sem, r0, r1]
  | true =>
  have hpv : PValid p := by have := HG1.out; simp only [Bool.and_eq_true, decide_eq_true_eq] at this; exact this.1
  have hfs : FSize n d := by have := HG1.out; simp only [Bool.and_eq_true, decide_eq_true_eq] at this; exact this.2
  have HP := hid hpv
  have HF := hid hfs
  clear hpv hfs
  rcases gap_cases p a b with h1 | ⟨h1, h2⟩ | ⟨h1, h2, h3⟩ | ⟨h1, h2, h3, h4⟩ | hin
  · have n1 : a < 0 := h1
    have HNO := hid (gapV_two (n := n) (d := d) (fun hh => by have := hh.2.2; unfold gapIn at this; omega : ¬ (PValid p ∧ FSize n d ∧ gapIn p a b)))
    go_wp2
    refine bodyPost_ret (v := .tuple #[frV 0 0, .bool false, .int .i64 2]) ?_ rfl ⟨by rw [HNO.out], by rw [HS.out]; have := fin.out; rw [HS.out] at this; exact this _ (bz.out _ _)⟩
    simp [results, Try.results46, go_sem, r0, r1]
  · have n1 : ¬ a < 0 := by omega
    have n2 : p.n ≤ a := h2
    have HNO := hid (gapV_two (n := n) (d := d) (fun hh => by have := hh.2.2; unfold gapIn at this; omega : ¬ (PValid p ∧ FSize n d ∧ gapIn p a b)))
    go_wp2
    refine bodyPost_ret (v := .tuple #[frV 0 0, .bool false, .int .i64 2]) ?_ rfl ⟨by rw [HNO.out], by rw [HS.out]; have := fin.out; rw [HS.out] at this; exact this _ (bz.out _ _)⟩
    simp [results, Try.results46, go_sem, r0, r1]
  · have n1 : ¬ a < 0 := by omega
    have n2 : ¬ p.n ≤ a := by omega
    have n3 : b < 0 := h3
    have HNO := hid (gapV_two (n := n) (d := d) (fun hh => by have := hh.2.2; unfold gapIn at this; omega : ¬ (PValid p ∧ FSize n d ∧ gapIn p a b)))
    go_wp2
    refine bodyPost_ret (v := .tuple #[frV 0 0, .bool false, .int .i64 2]) ?_ rfl ⟨by rw [HNO.out], by rw [HS.out]; have := fin.out; rw [HS.out] at this; exact this _ (bz.out _ _)⟩
    simp [results, Try.results46, go_sem, r0, r1]
  · have n1 : ¬ a < 0 := by omega
    have n2 : ¬ p.n ≤ a := by omega
    have n3 : ¬ b < 0 := by omega
    have n4 : p.n ≤ b := h4
    have HNO := hid (gapV_two (n := n) (d := d) (fun hh => by have := hh.2.2; unfold gapIn at this; omega : ¬ (PValid p ∧ FSize n d ∧ gapIn p a b)))
    go_wp2
    refine bodyPost_ret (v := .tuple #[frV 0 0, .bool false, .int .i64 2]) ?_ rfl ⟨by rw [HNO.out], by rw [HS.out]; have := fin.out; rw [HS.out] at this; exact this _ (bz.out _ _)⟩
    simp [results, Try.results46, go_sem, r0, r1]
  · obtain ⟨A, rfl⟩ : ∃ A : Nat, a = A := ⟨a.toNat, by have := hin.1; omega⟩
    obtain ⟨C, rfl⟩ : ∃ C : Nat, b = C := ⟨b.toNat, by have := hin.2.2.1; omega⟩
    obtain ⟨N, hN⟩ : ∃ N : Nat, p.n = N := ⟨p.n.toNat, by have := HP.out.1; omega⟩
    have hAN : A < N := by have := hin.2.1; omega
    have hCN : C < N := by have := hin.2.2.2; omega
    have n1 : ¬ (A : Int) < 0 := by omega
    have n2 : ¬ (N : Int) ≤ A := by omega
    have n3 : ¬ (C : Int) < 0 := by omega
    have n4 : ¬ (N : Int) ≤ C := by omega
    have HIN := hid hin
    have HN := hid hN
    rw [hN] at k01 h0 c0 ⊢
    clear hin hN
    have c1 := k01.look 1 rfl
    have c2 := k11.look 0 rfl
    have c3 := k11.look 1 rfl
    go_wp2_with fail
    refine (chains_any p n d _ _ (h0.below b1) HP.out HF.out).mono ?_
    rintro e w2 ⟨⟨vm, ok, rfl, hcase⟩, hb2⟩
    have hw1 := b1.size
    have k12 := k11.below hb2
    have k22 := k21.below hb2
    have bs2 := bs1.trans (hb2.mono (show S ≤ w1.heap.size by omega))
    clear c0 c1 c2 c3 r0 r1 q0 q1 rf bz k21 k11 n1 n2 n3 n4
    have r0 := k22.cell 0
    have r1 := k22.cell 1
    have q0 := k22.look 0 rfl
    have q1 := k22.look 1 rfl
    have rf := k22.frozen
    have bz : Hid (∀ x y : Value, Below S w0 ((w2.setCell ⟨S + 1 + 1, 0, none⟩ x).setCell ⟨S + 1 + 1, 1, none⟩ y)) := hid (fun x y => (bs2.setCell (p := ⟨S + 1 + 1, 0, none⟩) (by show S ≤ S + 1 + 1; omega) x).setCell (p := ⟨S + 1 + 1, 1, none⟩) (by show S ≤ S + 1 + 1; omega) y)
    rcases hcase with ⟨rfl, rfl, hbad⟩ | ⟨rfl, hgood, hmat⟩
    · have HNO := hid (gapV_ten ⟨HP.out, HF.out, HIN.out⟩ (chBad_true hbad))
      clear hbad
      go_wp2
      refine bodyPost_ret (v := .tuple #[frV 0 0, .bool false, .int .i64 10]) ?_ rfl ⟨by rw [HNO.out], by rw [HS.out]; have := fin.out; rw [HS.out] at this; exact this _ (bz.out _ _)⟩
      simp [results, Try.results46, go_sem, r0, r1]
    · have hbd := chBad_not hgood
      have HBD := hid hbd
      clear hgood hbd
      obtain ⟨o, base, rfl, hlo, hlb, ko, km⟩ := hmat
      rw [HN.out, Int.toNat_natCast] at ko km ⊢
      have kA := km A hAN
      obtain ⟨g, hg⟩ : ∃ g : Nat → Int, chainM p n d A = g := ⟨_, rfl⟩
      rw [hg] at kA
      obtain ⟨m, hm⟩ : ∃ m, g C = m := ⟨_, rfl⟩
      have hcm : chainM p n d (A : Int).toNat (C : Int).toNat = m := by rw [Int.toNat_natCast, Int.toNat_natCast, hg, hm]
      have hI : I64 m := by rw [← hm, ← hg]; exact chainM_I64 HP.out HF.out A C
      have HCM := hid hcm
      have m0 := ko.look A (outArr_get hAN hAN)
      have m1 := (kA.look C (rowArr_get hCN)).trans (congrArg (fun y => some (Value.int .i64 y)) hm)
      have n2 : (A : Int) < (N : Int) := by omega
      have n4 : (C : Int) < (N : Int) := by omega
      clear hg hcm
      by_cases hmn : m = NONE
      · have HNO := hid (gapV_none ⟨HP.out, HF.out, HIN.out⟩ HBD.out (by rw [HCM.out]; exact hmn))
        have hmn' : m = -1152921504606846976 := hmn
        rw [hmn'] at m1
        clear hmn hmn' HCM hI hm
        go_wp2
        refine bodyPost_ret (v := .tuple #[frV 0 0, .bool false, .int .i64 0]) ?_ rfl ⟨by rw [HNO.out], by rw [HS.out]; have := fin.out; rw [HS.out] at this; exact this _ (bz.out _ _)⟩
        simp [results, Try.results46, go_sem, r0, r1]
      · have HNO := hid (gapV_yes ⟨HP.out, HF.out, HIN.out⟩ HBD.out (by rw [HCM.out]; exact hmn))
        have hmn' : m ≠ -1152921504606846976 := hmn
        have hyes : gv = .tuple #[frV (newN m d) (newD m d), .bool true, .int .i64 0] := by rw [← HGV.out, HNO.out, HCM.out]
        have HYES := hid hyes
        have NEW : Hid (∀ w, Calls Try.prog 73 #[.int .i64 m, .int .i64 d] w fun e w' => e = .returned (.tuple #[frV (newN m d) (newD m d), .int .i64 (newE m d)]) ∧ Below w.heap.size w w') := hid (fun w => New_any m d w hI.1 hI.2 (by have := HF.out.1.1; omega) (by have := HF.out.1.2.1; omega))
        obtain ⟨xn, hxn⟩ : ∃ z, newN m d = z := ⟨_, rfl⟩
        obtain ⟨xd, hxd⟩ : ∃ z, newD m d = z := ⟨_, rfl⟩
        obtain ⟨xe, hxe⟩ : ∃ z, newE m d = z := ⟨_, rfl⟩
        rw [hxn, hxd] at HYES
        rw [hxn, hxd, hxe] at NEW
        clear hmn hyes hxn hxd hxe HNO HCM hI
        go_wp2_with fail
        clear m0 m1 r0 r1 q0 q1 rf bz
        have hSB : S ≤ w2.heap.size := by have := bs2.size; omega
        have hdw : Below w2.heap.size w2 w2.drew := (Below.refl _ _).drew
        have z0 := fun x : SubT (Below w2.heap.size) w2.drew => (ko.below (hdw.trans x.b)).look A (outArr_get hAN hAN)
        have z1 := fun x : SubT (Below w2.heap.size) w2.drew => ((kA.below (hdw.trans x.b)).look C (rowArr_get hCN)).trans (congrArg (fun y => some (Value.int .i64 y)) hm)
        have z2 := fun x : SubT (Below w2.heap.size) w2.drew => (k12.below (hdw.trans x.b)).look 1 rfl
        refine wp_walk (T := Below (w2.heap.size)) (below_pre _) (.rd 0 (.rd 1 (.rd 2 (.rd 3 (.rd 4 (.rd 5 (.rd 6 (.rd 7 (.rd 8 (.two 9 (.rd 10 (.rd 11 (.rd 12 (.mv 13 (.mv 14 (.rd 15 .nil)))))) 13 (.mv 9 (.rd 10 (.rd 11 (.rd 12 (.mv 14 (.rd 15 .nil)))))))))))))))) (by kernel_rfl) rfl rfl (by kernel_rfl) (by kernel_rfl) ?_
        iterate 9 (refine walkT_rd rfl (fun K hK => ?_); go_simp; refine hK _ ?_; clear hK K)
        clear z0 z1 z2
        obtain ⟨wd, hwd⟩ : ∃ wd, w2.drew = wd := ⟨_, rfl⟩
        have hsd : w2.heap.size = wd.heap.size := by rw [← hwd]; rfl
        rw [hwd] at hdw ⊢
        clear hwd
        refine walkT_two rfl rfl (fun K hK => ?_) (fun K hK => ?_)
        · go_simp
          refine (NEW.out _).mono ?_
          rintro e w5 ⟨rfl, hb5⟩
          have b5 : Below w2.heap.size wd w5 := hb5.mono (by omega)
          have hs5 := hb5.size
          refine ⟨_, rfl, hK _ _ b5 ?_⟩
          clear hK K
          iterate 3 (refine walkT_rd rfl (fun K hK => ?_); go_simp; refine hK _ ?_; clear hK K)
          (refine walkT_mv rfl (fun K hK => ?_); go_simp; refine hK _ _ ((Below.refl _ _).alloc (by omega) _) ?_; clear hK K)
          have kv := Blk.new w5 #[.int .i64 0, .int .i64 0] 26
          have v0 := kv.look 0 rfl
          have v1 := kv.look 1 rfl
          have vf := kv.frozen
          have kv5 := Blk.new w5 #[.int .i64 xn, .int .i64 xd] 26
          have bf0 : Below w2.heap.size (w5.alloc (.cells #[.int .i64 0, .int .i64 0] 26)) (w5.alloc (.cells #[.int .i64 xn, .int .i64 xd] 26)) := alloc_swap (by omega) _ _ _
          have bf := (hdw.trans (b5.alloc (by omega) (.cells #[.int .i64 0, .int .i64 0] 26))).trans bf0
          (refine walkT_mv rfl (fun K hK => ?_); go_simp; refine hK _ _ bf0 ?_; clear hK K)
          clear v0 v1 vf kv
          iterate 1 (refine walkT_rd rfl (fun K hK => ?_); go_simp; refine hK _ ?_; clear hK K)
          refine walkT_nil ?_
          clear hb5
          have k2f := k22.below bf
          have c0 := kv5.look 0 rfl
          have c1 := kv5.look 1 rfl
          have r0 := k2f.cell 0
          have r1 := k2f.cell 1
          have q0 := k2f.look 0 rfl
          have q1 := k2f.look 1 rfl
          have rf := k2f.frozen
          have bsf := bs2.trans (bf.mono hSB)
          generalize (w5.alloc (.cells #[.int .i64 xn, .int .i64 xd] 26)) = wf at kv5 k2f bsf c0 c1 r0 r1 q0 q1 rf ⊢
          have bz : Below S w0 ((wf.setCell ⟨S + 1 + 1, 0, none⟩ (.int .i64 xn)).setCell ⟨S + 1 + 1, 1, none⟩ (.int .i64 xd)) := (bsf.setCell (p := ⟨S + 1 + 1, 0, none⟩) (by show S ≤ S + 1 + 1; omega) _).setCell (p := ⟨S + 1 + 1, 1, none⟩) (by show S ≤ S + 1 + 1; omega) _
          go_wp2
          refine bodyPost_ret (v := .tuple #[frV xn xd, .bool true, .int .i64 0]) ?_ rfl ⟨by rw [HGV.out, HYES.out], by rw [HS.out]; have := fin.out; rw [HS.out] at this; exact this _ bz⟩
          simp [results, Try.results46, go_sem, r0, r1]
        · go_simp
          have ba : Below w2.heap.size wd (wd.alloc (.cells #[.int .i64 0, .int .i64 0] 26)) := (Below.refl _ _).alloc (by omega) _
          have kv0 := Blk.new wd #[.int .i64 0, .int .i64 0] 26
          obtain ⟨wn, hwn⟩ : ∃ wn, wd.alloc (.cells #[.int .i64 0, .int .i64 0] 26) = wn := ⟨_, rfl⟩
          rw [hwn] at ba kv0 ⊢
          refine hK _ _ ba ?_
          clear hK K hwn
          have hsn' : w2.heap.size ≤ wn.heap.size := by have := ba.size; omega
          (refine walkT_mv rfl (fun K hK => ?_); go_simp; refine (NEW.out _).mono ?_; rintro e w5 ⟨rfl, hb5⟩; refine ⟨_, rfl, hK _ _ (hb5.mono hsn') ?_⟩; clear hK K)
          iterate 3 (refine walkT_rd rfl (fun K hK => ?_); go_simp; refine hK _ ?_; clear hK K)
          have kv := kv0.below hb5
          have v0 := kv.look 0 rfl
          have v1 := kv.look 1 rfl
          have vf := kv.frozen
          have kv5 := (kv.set 0 (.int .i64 xn)).set 1 (.int .i64 xd)
          have bf0 : Below w2.heap.size w5 ((w5.setCell ⟨wd.heap.size, 0, none⟩ (.int .i64 xn)).setCell ⟨wd.heap.size, 1, none⟩ (.int .i64 xd)) := ((Below.refl _ _).setCell (p := ⟨wd.heap.size, 0, none⟩) (by show w2.heap.size ≤ wd.heap.size; omega) _).setCell (p := ⟨wd.heap.size, 1, none⟩) (by show w2.heap.size ≤ wd.heap.size; omega) _
          have bf := (hdw.trans (ba.trans (hb5.mono hsn'))).trans bf0
          (refine walkT_mv rfl (fun K hK => ?_); go_simp; refine hK _ _ bf0 ?_; clear hK K)
          clear v0 v1 vf kv
          iterate 1 (refine walkT_rd rfl (fun K hK => ?_); go_simp; refine hK _ ?_; clear hK K)
          refine walkT_nil ?_
          clear hb5
          have k2f := k22.below bf
          have c0 := kv5.look 0 rfl
          have c1 := kv5.look 1 rfl
          have r0 := k2f.cell 0
          have r1 := k2f.cell 1
          have q0 := k2f.look 0 rfl
          have q1 := k2f.look 1 rfl
          have rf := k2f.frozen
          have bsf := bs2.trans (bf.mono hSB)
          generalize ((w5.setCell ⟨wd.heap.size, 0, none⟩ (.int .i64 xn)).setCell ⟨wd.heap.size, 1, none⟩ (.int .i64 xd)) = wf at kv5 k2f bsf c0 c1 r0 r1 q0 q1 rf ⊢
          have bz : Below S w0 ((wf.setCell ⟨S + 1 + 1, 0, none⟩ (.int .i64 xn)).setCell ⟨S + 1 + 1, 1, none⟩ (.int .i64 xd)) := (bsf.setCell (p := ⟨S + 1 + 1, 0, none⟩) (by show S ≤ S + 1 + 1; omega) _).setCell (p := ⟨S + 1 + 1, 1, none⟩) (by show S ≤ S + 1 + 1; omega) _
          go_wp2
          refine bodyPost_ret (v := .tuple #[frV xn xd, .bool true, .int .i64 0]) ?_ rfl ⟨by rw [HGV.out, HYES.out], by rw [HS.out]; have := fin.out; rw [HS.out] at this; exact this _ bz⟩
          simp [results, Try.results46, go_sem, r0, r1]

end Go.Proofs.Ytmknengmjepdaaa
