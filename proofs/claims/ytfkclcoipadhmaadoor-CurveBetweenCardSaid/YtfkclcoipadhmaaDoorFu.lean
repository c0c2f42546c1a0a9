/- Walk of curve.Work. -/
import Derived.Test.YtfkclcoipadhmaaDoorFk
import Derived.Test.YtfkclcoipadhmaaDoorFt
namespace Go.Proofs.YtfkclcoipadhmaaDoor
open Go.RowKit
attribute [local irreducible] seqS seqST walkV walkJ

/-- What Work hands back. -/
def wrkV (c : List P4) (n d : Int) : Option Rat := if RV c ∧ FV n d ∧ InDom (toQ c) (vq (n, d)) then workO (toQ c) (vq (n, d)) ((toQ c).length - 1) else none
def wrkE (c : List P4) (n d : Int) : Int := if RV c ∧ FV n d then oE (wrkV c n d) else 2
theorem frQ_eq3 {x : Rat} {n d : Int} (h : frQ x = .agg #[.int .i64 n, .int .i64 d]) : x.num = n ∧ (x.den : Int) = d := by
  unfold frQ at h
  injection h with h2
  have h3 := congrArg Array.toList h2
  simp at h3
  exact h3
theorem bind_cal {ok : Bool} {o : Option Rat} {W : Rat} (f : Rat → Option Rat) (h1 : ok = o.isSome) (h2 : ok = true → o = some W) : calK ok (f W) = (o.bind f).isSome ∧ (calK ok (f W) = true → o.bind f = f W) := by
  unfold calK
  cases o with
  | none =>
    have : ok = false := h1
    rw [this]
    exact ⟨rfl, fun h => by cases h⟩
  | some v =>
    have : ok = true := h1
    have h3 := Option.some.inj (h2 this)
    rw [this, h3]
    exact ⟨rfl, fun _ => rfl⟩
theorem at_bind {ok k1 : Bool} {o : Option Rat} {V1 : Rat} (f : Rat → Option Rat) (hk : k1 = calK ok o) (h : k1 = true → o = some V1) : calK ok (o.bind f) = calK k1 (f V1) ∧ (calK k1 (f V1) = true → o.bind f = f V1) := by
  subst hk
  unfold calK at *
  cases ok with
  | false => exact ⟨rfl, fun h => by cases h⟩
  | true =>
    cases o with
    | none => exact ⟨rfl, fun h => by cases h⟩
    | some v =>
      have h3 := Option.some.inj (h rfl)
      subst h3
      exact ⟨rfl, fun _ => rfl⟩

set_option maxHeartbeats 8000000 in
set_option maxRecDepth 100000 in
theorem Work_any (c : List P4) (n d : Int) (v : Value) (w : World) (h : P4R 0 w v c) (hz : Z0 w) :
    Calls Tryd.prog 57 #[v, .agg #[.int .i64 n, .int .i64 d]] w fun r w' => r = .returned (.tuple #[.agg #[.int .i64 (oN (wrkV c n d)), .int .i64 (oD (wrkV c n d))], .int .i64 (wrkE c n d)]) ∧ Below w.heap.size w w' := by
  have VA := hid (fun w h hz => cValid_any c v w h hz)
  obtain ⟨E, hE⟩ : ∃ E, wrkE c n d = E := ⟨_, rfl⟩
  obtain ⟨N, hN⟩ : ∃ N, oN (wrkV c n d) = N := ⟨_, rfl⟩
  obtain ⟨D, hD⟩ : ∃ D, oD (wrkV c n d) = D := ⟨_, rfl⟩
  rw [hE, hN, hD]
  have HE := hid hE
  have HN := hid hN
  have HD := hid hD
  obtain ⟨ao, cap, rfl, -⟩ := id h
  have k0 := (Blk.new w #[.int .i64 n, .int .i64 d] 32).alloc (.cells #[.int .i64 0, .int .i64 0] 32)
  have k1 := Blk.new (w.alloc (.cells #[.int .i64 n, .int .i64 d] 32)) #[.int .i64 0, .int .i64 0] 32
  have b0 := ((Below.refl w.heap.size w).alloc (Nat.le_refl _) (.cells #[.int .i64 n, .int .i64 d] 32)).alloc (by simp) (.cells #[.int .i64 0, .int .i64 0] 32)
  rw [World.size_alloc] at k1
  clear hE hN hD
  go_enter Tryd.func57, Tryd.ntmps57
  go_wp2_with fail
  obtain ⟨w0, hw0⟩ : ∃ w0, (w.alloc (.cells #[.int .i64 n, .int .i64 d] 32)).alloc (.cells #[.int .i64 0, .int .i64 0] 32) = w0 := ⟨_, rfl⟩
  rw [hw0] at k0 k1 b0 ⊢
  clear hw0
  have h0 := h.below b0
  have hz0 := hz.below b0
  refine (VA.out _ h0 hz0).mono ?_
  rintro r w1 ⟨rfl, hb1⟩
  have hB := b0.trans (hb1.mono b0.size)
  have k01 := k0.below hb1
  have k11 := k1.below hb1
  have h1 := h0.below hb1
  have hz1 := hz0.below hb1
  clear VA h0 hz0 h hz k0 k1 b0 hb1
  have c0 := k01.look 0 rfl
  have c1 := k01.look 1 rfl
  have c2 := k11.look 0 rfl
  have c3 := k11.look 1 rfl
  by_cases hrv : RV c
  case neg =>
    rw [decide_eq_false hrv]
    have hno : ¬ (RV c ∧ FV n d) := fun h => hrv h.1
    have kR := k11
    clear c0 c1 c2 c3 k11
    obtain rfl : 2 = E := by rw [← HE.out]; exact (if_neg hno).symm
    obtain rfl : 0 = N := by rw [← HN.out]; unfold wrkV; rw [if_neg (fun h => hno ⟨h.1, h.2.1⟩)]; rfl
    obtain rfl : 0 = D := by rw [← HD.out]; unfold wrkV; rw [if_neg (fun h => hno ⟨h.1, h.2.1⟩)]; rfl
    clear hno HE HN HD
    have hBz := hB
    clear hB
    have f2 := kR.frozen
    have q0 := kR.look 0 rfl
    have q1 := kR.look 1 rfl
    have ks := (kR.set 0 (.int .i64 0)).set 1 (.int .i64 0)
    have r0 : _ = some (Value.int .i64 0) := ks.look 0 rfl
    have r1 : _ = some (Value.int .i64 0) := ks.look 1 rfl
    have R0 := hid r0
    have R1 := hid r1
    have HBF := hid ((hBz.setCell (p := ⟨w.heap.size + 1, 0, none⟩) (by show w.heap.size ≤ w.heap.size + 1; omega) (.int .i64 0)).setCell (p := ⟨w.heap.size + 1, 1, none⟩) (by show w.heap.size ≤ w.heap.size + 1; omega) (.int .i64 0))
    clear kR ks r0 r1 hBz
    go_wp2
    refine bodyPost_ret (v := .tuple #[.agg #[.int .i64 0, .int .i64 0], .int .i64 2]) ?_ rfl ⟨rfl, HBF.out⟩
    have r0 := R0.out
    have r1 := R1.out
    simp [results, Tryd.results57, go_sem, r0, r1]
  rw [decide_eq_true hrv]
  have HRV := hid hrv
  clear hrv
  go_wp2_with fail
  refine (fValid_any n d _).mono ?_
  rintro r w2 ⟨rfl, hb2⟩
  replace hB := hB.trans (hb2.mono hB.size)
  have k02 := k01.below hb2
  have k12 := k11.below hb2
  have h2 := h1.below hb2
  have hz2 := hz1.below hb2
  clear k01 k11 h1 hz1 hb2 c0 c1 c2 c3
  by_cases hf1 : FV n d
  case neg =>
    rw [decide_eq_false hf1]
    have hno : ¬ (RV c ∧ FV n d) := fun h => hf1 h.2
    have kR := k12
    clear k12
    obtain rfl : 2 = E := by rw [← HE.out]; exact (if_neg hno).symm
    obtain rfl : 0 = N := by rw [← HN.out]; unfold wrkV; rw [if_neg (fun h => hno ⟨h.1, h.2.1⟩)]; rfl
    obtain rfl : 0 = D := by rw [← HD.out]; unfold wrkV; rw [if_neg (fun h => hno ⟨h.1, h.2.1⟩)]; rfl
    clear hno HE HN HD
    have hBz := hB
    clear hB
    have f2 := kR.frozen
    have q0 := kR.look 0 rfl
    have q1 := kR.look 1 rfl
    have ks := (kR.set 0 (.int .i64 0)).set 1 (.int .i64 0)
    have r0 : _ = some (Value.int .i64 0) := ks.look 0 rfl
    have r1 : _ = some (Value.int .i64 0) := ks.look 1 rfl
    have R0 := hid r0
    have R1 := hid r1
    have HBF := hid ((hBz.setCell (p := ⟨w.heap.size + 1, 0, none⟩) (by show w.heap.size ≤ w.heap.size + 1; omega) (.int .i64 0)).setCell (p := ⟨w.heap.size + 1, 1, none⟩) (by show w.heap.size ≤ w.heap.size + 1; omega) (.int .i64 0))
    clear kR ks r0 r1 hBz
    go_wp2
    refine bodyPost_ret (v := .tuple #[.agg #[.int .i64 0, .int .i64 0], .int .i64 2]) ?_ rfl ⟨rfl, HBF.out⟩
    have r0 := R0.out
    have r1 := R1.out
    simp [results, Tryd.results57, go_sem, r0, r1]
  rw [decide_eq_true hf1]
  have HF1 := hid hf1
  have hcv := rv_cv HRV.out
  have hq := P4R.toQ h2 HRV.out
  have WI := hid (fun w h => within_any (toQ c) (vq (n, d)) (.slice ao c.length cap) w hcv (vq_fits hf1) h)
  have AT := hid (fun hd g ok w h hz hk => at_any (toQ c) (vq (n, d)) (.slice ao c.length cap) hcv hd (vq_fits hf1) g ok w h hz hk)
  rw [frQ_vq hf1] at WI AT
  clear hf1
  have c0 := k02.look 0 rfl
  have c1 := k02.look 1 rfl
  go_wp2_with fail
  refine (WI.out _ hq).mono ?_
  rintro r w3 ⟨rfl, hb3⟩
  replace hB := hB.trans (hb3.mono hB.size)
  have k03 := k02.below hb3
  have k13 := k12.below hb3
  have hz3 := hz2.below hb3
  have q3 := hq.below hb3
  clear WI hq h2 hz2 k02 k12 c0 c1 hb3
  have c0 := k03.look 0 rfl
  have c1 := k03.look 1 rfl
  have c2 := k13.look 0 rfl
  have c3 := k13.look 1 rfl
  by_cases hdm : InDom (toQ c) (vq (n, d))
  case neg =>
    rw [decide_eq_false hdm]
    have e0 : wrkV c n d = none := if_neg (fun h => hdm h.2.2)
    obtain rfl : 5 = E := by rw [← HE.out]; unfold wrkE; rw [if_pos ⟨HRV.out, HF1.out⟩, e0]; rfl
    obtain rfl : 0 = N := by rw [← HN.out, e0]; rfl
    obtain rfl : 0 = D := by rw [← HD.out, e0]; rfl
    clear e0 HE HN HD c0 c1 c2 c3
    have kR := k13
    have hBz := hB
    clear hB k13
    have f2 := kR.frozen
    have q0 := kR.look 0 rfl
    have q1 := kR.look 1 rfl
    have ks := (kR.set 0 (.int .i64 0)).set 1 (.int .i64 0)
    have r0 : _ = some (Value.int .i64 0) := ks.look 0 rfl
    have r1 : _ = some (Value.int .i64 0) := ks.look 1 rfl
    have R0 := hid r0
    have R1 := hid r1
    have HBF := hid ((hBz.setCell (p := ⟨w.heap.size + 1, 0, none⟩) (by show w.heap.size ≤ w.heap.size + 1; omega) (.int .i64 0)).setCell (p := ⟨w.heap.size + 1, 1, none⟩) (by show w.heap.size ≤ w.heap.size + 1; omega) (.int .i64 0))
    clear kR ks r0 r1 hBz
    go_wp2
    refine bodyPost_ret (v := .tuple #[.agg #[.int .i64 0, .int .i64 0], .int .i64 5]) ?_ rfl ⟨rfl, HBF.out⟩
    have r0 := R0.out
    have r1 := R1.out
    simp [results, Tryd.results57, go_sem, r0, r1]
  rw [decide_eq_true hdm]
  have e0 : wrkV c n d = workO (toQ c) (vq (n, d)) ((toQ c).length - 1) := if_pos ⟨HRV.out, HF1.out, hdm⟩
  have AT2 := hid (AT.out hdm)
  have HDM := hid hdm
  have E0 := hid e0
  have ORD := hid (fun (p : Rat) (hp : fits p) w => order_any p (vq (n, d)) hp (vq_fits HF1.out) w)
  rw [frQ_vq HF1.out] at ORD
  have hxf := vq_fits HF1.out
  have hxe := frQ_vq HF1.out
  have HX : Hid (workO (toQ c) (vq (n, d)) ((toQ c).length - 1) = none → E = 5 ∧ N = 0 ∧ D = 0) := hid (fun hh => by
    refine ⟨?_, ?_, ?_⟩
    · rw [← HE.out]; unfold wrkE; rw [if_pos ⟨HRV.out, HF1.out⟩, e0, hh]; rfl
    · rw [← HN.out, e0, hh]; rfl
    · rw [← HD.out, e0, hh]; rfl)
  have HY : Hid (∀ y, workO (toQ c) (vq (n, d)) ((toQ c).length - 1) = some y → E = 0 ∧ N = y.num ∧ D = (y.den : Int)) := hid (fun y hh => by
    refine ⟨?_, ?_, ?_⟩
    · rw [← HE.out]; unfold wrkE; rw [if_pos ⟨HRV.out, HF1.out⟩, e0, hh]; rfl
    · rw [← HN.out, e0, hh]; rfl
    · rw [← HD.out, e0, hh]; rfl)
  have hlen := toQ_len c
  have CVC := hid hcv
  clear AT hdm e0 E0 HDM HE HN HD HRV HF1
  generalize vq (n, d) = x at AT2 ORD HX HY hxf hxe
  generalize toQ c = C at q3 hcv AT2 HX HY hlen CVC
  obtain ⟨L, hL⟩ : ∃ L, c.length = L := ⟨_, rfl⟩
  rw [hL] at q3 AT2 hlen ⊢
  have hL2 : 2 ≤ L := by have := hcv.two; omega
  have hL48 : L ≤ 48 := by have := hcv.most; omega
  rw [hlen] at HX HY
  have HCL := hid hlen
  obtain ⟨M, hM⟩ : ∃ M, L = M + 1 := ⟨L - 1, by omega⟩
  subst hM
  rw [Nat.add_sub_cancel] at HX HY
  obtain ⟨ao2, cap2, he2, hcap2, hmax2, hcc⟩ := id q3
  obtain ⟨rfl, rfl⟩ : ao2 = ao ∧ cap2 = cap := by
    injection he2 with g1 g2 g3
    exact ⟨g1.symm, g3.symm⟩
  obtain ⟨b, off, rfl, hb, -, -, -, -⟩ := p_cell hcc (show 0 < C.length by rw [HCL.out]; omega)
  rw [HCL.out] at hcap2
  unfold maxLen at hmax2
  obtain ⟨B, hBs⟩ : ∃ B, w3.heap.size = B := ⟨_, rfl⟩
  have kc := ((Blk.new w3 #[.int .i64 0] 68).alloc (.cells #[.int .i64 0, .int .i64 1] 32)).alloc (.cells #[.int .i64 2, .int .i64 1] 32)
  have kw := (Blk.new (w3.alloc (.cells #[.int .i64 0] 68)) #[.int .i64 0, .int .i64 1] 32).alloc (.cells #[.int .i64 2, .int .i64 1] 32)
  have kt := Blk.new ((w3.alloc (.cells #[.int .i64 0] 68)).alloc (.cells #[.int .i64 0, .int .i64 1] 32)) #[.int .i64 2, .int .i64 1] 32
  have ba := (((Below.refl w3.heap.size w3).alloc (Nat.le_refl _) (.cells #[.int .i64 0] 68)).alloc (by simp) (.cells #[.int .i64 0, .int .i64 1] 32)).alloc (by simp; omega) (.cells #[.int .i64 2, .int .i64 1] 32)
  rw [World.size_alloc] at kw
  rw [World.size_alloc, World.size_alloc] at kt
  have zz0 := (hz3.below (alloc_below w3 (.cells #[.int .i64 0] 68))).2.1
  have zz1 := (hz3.below (alloc_below w3 (.cells #[.int .i64 0] 68))).2.2
  have HCC := hid hcc
  have wM : IntKind.i64.wrap ((M : Int) + 1 - 1) = (M : Int) := by rw [IntWalk.i64_left]; unfold wrap64; omega
  clear he2 hcc c2 c3 c0 c1
  go_wp2_with fail
  have HZ := hid hz3
  have HQ := hid q3
  have HB := hid hB
  have HBS := hid hBs
  obtain ⟨w4, hw4⟩ : ∃ w4, ((w3.alloc (.cells #[.int .i64 0] 68)).alloc (.cells #[.int .i64 0, .int .i64 1] 32)).alloc (.cells #[.int .i64 2, .int .i64 1] 32) = w4 := ⟨_, rfl⟩
  rw [hw4] at kc kw kt ba
  rw [hw4]
  rw [hBs] at kc kw kt ba hb
  have hs4 : B + 3 ≤ w4.heap.size := by have := kt.lt; omega
  have K0 := hid k03
  have K1 := hid k13
  have hlt0 : w.heap.size < B := by rw [← hBs]; exact k03.lt
  have hlt1 : w.heap.size + 1 < B := by rw [← hBs]; exact k13.lt
  have HKG : Hid (CalB w4 B true) := hid kc
  have HKT := hid kt
  have HKW := hid kw
  have hget : ∀ (i : Nat) (W : World), i < M + 1 → Below B w3 W → W.cell? ⟨b, off + i * 4, none⟩ = some (.int .i64 (C.getD i (0, 0)).1.num) ∧ W.cell? ⟨b, off + i * 4 + 1, none⟩ = some (.int .i64 ((C.getD i (0, 0)).1.den : Int)) ∧ W.cell? ⟨b, off + i * 4 + 2, none⟩ = some (.int .i64 (C.getD i (0, 0)).2.num) ∧ W.cell? ⟨b, off + i * 4 + 3, none⟩ = some (.int .i64 ((C.getD i (0, 0)).2.den : Int)) := by
    intro i W hi hbW
    obtain ⟨b', off', he, hb', x0, x1, x2, x3⟩ := p_cell HCC.out (show i < C.length by rw [HCL.out]; exact hi)
    cases he
    rw [HBS.out] at hb'
    exact ⟨(hbW.cell (p := ⟨b, off + i * 4, none⟩) hb').trans x0, (hbW.cell (p := ⟨b, off + i * 4 + 1, none⟩) hb').trans x1, (hbW.cell (p := ⟨b, off + i * 4 + 2, none⟩) hb').trans x2, (hbW.cell (p := ⟨b, off + i * 4 + 3, none⟩) hb').trans x3⟩
  have HGET := hid hget
  have h00 : fits (0 : Rat) := fits_nought
  have HF0 := hid h00
  clear hw4 hBs kc kw kt hget h00 zz0 zz1 hz3 q3 hB k03 k13 HCC wM hcv hlen hb
  go_loopw [38] (fun z wr => ∃ i : Nat, z = .int .i64 i ∧ i ≤ M ∧ (∃ ok W, ok = (workO C x i).isSome ∧ (ok = true → workO C x i = some W) ∧ Hid (fits W) ∧ Hid (CalB wr B ok) ∧ Hid (Blk wr (B + 1 + 1) #[.int .i64 2, .int .i64 1] 32) ∧ Hid (Blk wr (B + 1) #[.int .i64 W.num, .int .i64 (W.den : Int)] 32)) ∧ Below B w3 wr ∧ B + 3 ≤ wr.heap.size) (fun z _ => M - (intOf z).toNat)
  case atStart => exact ⟨0, rfl, Nat.zero_le _, ⟨true, 0, rfl, fun _ => rfl, HF0, HKG, HKT, HKW⟩, ba, hs4⟩
  case round =>
    obtain ⟨i, rfl, hi, ⟨ok, W, hok, hokv, HFW, HK, HT, HW⟩, hbel, hsr⟩ := hrel
    have hzr : Z0 wr := HZ.out.below (by rw [HBS.out]; exact hbel)
    have kxr : Blk wr w.heap.size #[.int .i64 n, .int .i64 d] 32 := K0.out.below' hbel hlt0
    by_cases hiL : i < M
    case pos =>
      have hi2 : (i : Int) < (M : Int) := by omega
      have hi1p : 0 ≤ (i : Int) + 1 := by omega
      have hi1L2 : (i : Int) + 1 < (M : Int) + 1 := by omega
      have wI : IntKind.i64.wrap ((i : Int) + 1) = ((i + 1 : Nat) : Int) := by rw [IntWalk.i64_left]; unfold wrap64; omega
      have hP := CVC.out.fit i (by rw [HCL.out]; omega)
      have hQ := CVC.out.fit (i + 1) (by rw [HCL.out]; omega)
      have gP := fun W hb => HGET.out i W (by omega) hb
      have gQ := fun W hb => HGET.out (i + 1) W (by omega) hb
      have hst := work_step C x i
      obtain ⟨P, hPe⟩ : ∃ P, C.getD i (0, 0) = P := ⟨_, rfl⟩
      obtain ⟨Q, hQe⟩ : ∃ P, C.getD (i + 1) (0, 0) = P := ⟨_, rfl⟩
      rw [hPe] at hst hP gP
      rw [hQe] at hst hQ gQ
      have HST := hid hst
      have O1 := hid (fun w => ORD.out Q.1 hQ.1 w)
      have O2 := hid (fun w => ORD.out P.1 hP.1 w)
      have hc1 := cmp_cases Q.1 x
      have hc2 := cmp_cases P.1 x
      obtain ⟨z1, hz1e⟩ : ∃ z, cmpQ Q.1 x = z := ⟨_, rfl⟩
      obtain ⟨z2, hz2e⟩ : ∃ z, cmpQ P.1 x = z := ⟨_, rfl⟩
      rw [hz1e] at O1 hc1
      rw [hz2e] at O2 hc2
      have hle1 : Q.1 ≤ x ↔ z1 ≤ 0 := by
        rcases hc1 with ⟨hl, rfl, -⟩ | ⟨hl, rfl, -⟩ | ⟨hl, rfl, -⟩
        · exact ⟨fun _ => by omega, fun _ => Rat.le_of_lt hl⟩
        · exact ⟨fun h => absurd h (Rat.not_le.2 hl), fun h => by omega⟩
        · exact ⟨fun _ => by omega, fun _ => by rw [hl]; exact Rat.le_refl⟩
      have hlt2 : P.1 < x ↔ z2 < 0 := by
        rcases hc2 with ⟨hl, rfl, -⟩ | ⟨hl, rfl, -⟩ | ⟨hl, rfl, -⟩
        · exact ⟨fun _ => by omega, fun _ => hl⟩
        · exact ⟨fun h => absurd h (Rat.not_lt.2 (Rat.le_of_lt hl)), fun h => by omega⟩
        · exact ⟨fun h => by rw [hl] at h; exact absurd h Rat.lt_irrefl, fun h => by omega⟩
      have HL1 := hid hle1
      have HL2 := hid hlt2
      obtain ⟨p1, hp1⟩ : ∃ z, P.1.num = z := ⟨_, rfl⟩
      obtain ⟨p2, hp2⟩ : ∃ z, (P.1.den : Int) = z := ⟨_, rfl⟩
      obtain ⟨p3, hp3⟩ : ∃ z, P.2.num = z := ⟨_, rfl⟩
      obtain ⟨p4, hp4⟩ : ∃ z, (P.2.den : Int) = z := ⟨_, rfl⟩
      obtain ⟨q1, hq1⟩ : ∃ z, Q.1.num = z := ⟨_, rfl⟩
      obtain ⟨q2, hq2⟩ : ∃ z, (Q.1.den : Int) = z := ⟨_, rfl⟩
      obtain ⟨q3, hq3⟩ : ∃ z, Q.2.num = z := ⟨_, rfl⟩
      obtain ⟨q4, hq4⟩ : ∃ z, (Q.2.den : Int) = z := ⟨_, rfl⟩
      have HPP : Hid (ptQ P = .agg #[.int .i64 p1, .int .i64 p2, .int .i64 p3, .int .i64 p4]) := hid (by rw [← hp1, ← hp2, ← hp3, ← hp4]; rfl)
      have HQQ : Hid (ptQ Q = .agg #[.int .i64 q1, .int .i64 q2, .int .i64 q3, .int .i64 q4]) := hid (by rw [← hq1, ← hq2, ← hq3, ← hq4]; rfl)
      rw [hp1, hp2, hp3, hp4] at gP
      rw [hq1, hq2, hq3, hq4] at gQ
      unfold frQ at O1 O2
      rw [hq1, hq2] at O1
      rw [hp1, hp2] at O2
      have HFP := hid hP
      have HFQ := hid hQ
      clear hst hPe hQe hc1 hc2 hz1e hz2e hle1 hlt2 hp1 hp2 hp3 hp4 hq1 hq2 hq3 hq4 hP hQ
      obtain ⟨x0, x1, x2, x3⟩ := gP wr hbel
      have bA := alloc_below wr (.cells #[.int .i64 p1, .int .i64 p2, .int .i64 p3, .int .i64 p4] 52)
      have hbelA := hbel.trans (bA.mono (show B ≤ wr.heap.size by omega))
      obtain ⟨y0, y1, y2, y3⟩ := gQ _ hbelA
      have kpA := Blk.new wr #[.int .i64 p1, .int .i64 p2, .int .i64 p3, .int .i64 p4] 52
      have bB := alloc_below (wr.alloc (.cells #[.int .i64 p1, .int .i64 p2, .int .i64 p3, .int .i64 p4] 52)) (.cells #[.int .i64 q1, .int .i64 q2, .int .i64 q3, .int .i64 q4] 52)
      have kqB := Blk.new (wr.alloc (.cells #[.int .i64 p1, .int .i64 p2, .int .i64 p3, .int .i64 p4] 52)) #[.int .i64 q1, .int .i64 q2, .int .i64 q3, .int .i64 q4] 52
      rw [World.size_alloc] at kqB
      have bAB := bA.trans (bB.mono (by simp))
      have kpB := kpA.below bB
      have kxB := kxr.below bAB
      have hkB := CalB.below HK.out bAB
      have ktB := HT.out.below bAB
      have kwB := HW.out.below bAB
      have hzB := hzr.below bAB
      have hbB := hbel.trans (bAB.mono (show B ≤ wr.heap.size by omega))
      have hsB := Nat.le_trans hsr bAB.size
      have c0 := kxB.look 0 rfl
      have c1 := kxB.look 1 rfl
      clear gP gQ bA hbelA kpA bB bAB kxr HK HT HW hzr
      go_wp2_with fail
      refine (O1.out _).mono ?_
      rintro r w5 ⟨rfl, hb5⟩
      have kp5 := kpB.below hb5
      have kq5 := kqB.below hb5
      have kx5 := kxB.below hb5
      have hk5 := CalB.below hkB hb5
      have kt5 := ktB.below hb5
      have kw5 := kwB.below hb5
      have hz5 := hzB.below hb5
      have hbel5 := hbB.trans (hb5.mono (show B ≤ _ from Nat.le_trans (by omega) hsB))
      have hs5 := Nat.le_trans hsB hb5.size
      obtain ⟨H, hH⟩ : ∃ H, wr.heap.size = H := ⟨_, rfl⟩
      rw [hH] at kp5 kq5 hsr ⊢
      clear hH kpB kqB kxB hkB ktB kwB hzB hbB hsB hb5 c0 c1 x0 x1 x2 x3 y0 y1 y2 y3 O1 hbel
      by_cases hz1 : z1 ≤ 0
      case pos =>
        have hst := HST.out
        simp only [if_pos (HL1.out.2 hz1)] at hst
        have hbc := bind_cal (fun w => stripO w P Q) hok hokv
        rw [← hst] at hbc
        have HBC := hid hbc
        have ST := hid (fun w hz hk kt kw => stripPt_any P Q HFP.out HFQ.out W HFW.out B (B + 1 + 1) (B + 1) B ok w hz hk kt kw (by omega) (by omega) (by omega) (Nat.le_refl B) (by omega))
        rw [HPP.out, HQQ.out] at ST
        have y0 := kp5.look 0 rfl
        have y1 := kp5.look 1 rfl
        have y2 := kp5.look 2 rfl
        have y3 := kp5.look 3 rfl
        have v0 := kq5.look 0 rfl
        have v1 := kq5.look 1 rfl
        have v2 := kq5.look 2 rfl
        have v3 := kq5.look 3 rfl
        clear hst hbc hok hokv O2 kx5
        go_wp2_with fail
        refine (ST.out _ hz5 hk5 kt5 kw5).mono ?_
        rintro r w6 ⟨rfl, V, hV, hfV, hk6, kt6, kw6, hb6⟩
        have HK6 := hid hk6
        have HT6 := hid kt6
        have HW6 := hid kw6
        have HF6 := hid hfV
        have HV6 := hid hV
        have hbel6 := hbel5.trans hb6
        have hs6 := Nat.le_trans hs5 hb6.size
        clear hk6 kt6 kw6 hfV hV hb6 y0 y1 y2 y3 v0 v1 v2 v3 kp5 kq5 hk5 kt5 kw5 hz5 hbel5 hs5 ST
        go_wp2
        go_roundw
        case rel => exact ⟨i + 1, by go_num, by omega, ⟨_, V, HBC.out.1, fun h => (HBC.out.2 h).trans (HV6.out h), HF6, HK6, HT6, HW6⟩, hbel6, hs6⟩
        case measure => simp [intOf]; omega
      case neg =>
        have c0 := kx5.look 0 rfl
        have c1 := kx5.look 1 rfl
        have y0 := kp5.look 0 rfl
        have y1 := kp5.look 1 rfl
        go_wp2_with fail
        refine (O2.out _).mono ?_
        rintro r w6 ⟨rfl, hb6⟩
        have kp6 := kp5.below hb6
        have kx6 := kx5.below hb6
        have hk6 := CalB.below hk5 hb6
        have kt6 := kt5.below hb6
        have kw6 := kw5.below hb6
        have hz6 := hz5.below hb6
        have hbel6 := hbel5.trans (hb6.mono (show B ≤ w5.heap.size by omega))
        have hs6 := Nat.le_trans hs5 hb6.size
        clear c0 c1 y0 y1 kp5 kq5 kx5 hk5 kt5 kw5 hz5 hbel5 hs5 hb6 O2
        by_cases hz2 : z2 < 0
        case pos =>
          have hst := HST.out
          simp only [if_neg (fun h => (by have := HL1.out.1 h; omega)), if_pos (HL2.out.2 hz2)] at hst
          have hbc := bind_cal (fun w => (atO C x).bind fun y => stripO w P (x, y)) hok hokv
          rw [← hst] at hbc
          have HBC := hid hbc
          clear hst hbc hok hokv
          go_wp2_with fail
          have hd : CalT B w6 w6.drew := CalT.of_below (Below.refl w6.heap.size w6).drew
          have tx := fun x : SubT (CalT B) w6.drew => (calT_pre B).trans hd x.b
          have z0 := fun x : SubT (CalT B) w6.drew => (CalT.blk (tx x) kp6 (by omega)).look 0 rfl
          have z1 := fun x : SubT (CalT B) w6.drew => (CalT.blk (tx x) kp6 (by omega)).look 1 rfl
          have z2 := fun x : SubT (CalT B) w6.drew => (CalT.blk (tx x) kp6 (by omega)).look 2 rfl
          have z3 := fun x : SubT (CalT B) w6.drew => (CalT.blk (tx x) kp6 (by omega)).look 3 rfl
          have z4 := fun x : SubT (CalT B) w6.drew => (CalT.blk (tx x) kx6 (by omega)).look 0 rfl
          have z5 := fun x : SubT (CalT B) w6.drew => (CalT.blk (tx x) kx6 (by omega)).look 1 rfl
          clear tx
          refine wp_walkJ (T := CalT B) (calT_pre B) (.rd 0 (.rd 1 (.rd 2 (.rd 3 (.rd 4 (.mv 5 (.rd 6 (.bt 7 (.inv []))))))))) (by kernel_rfl) rfl (by kernel_rfl) (by kernel_rfl) ?_
          iterate 5 (refine walkJ_rd rfl (fun K hK => ?_); go_simp; refine hK _ ?_; clear hK K)
          clear z0 z1 z2 z3 z4 z5
          have hkd : CalB w6.drew B ok := CalB.below hk6 (Below.refl w6.heap.size w6).drew
          have hzd := hz6.below (Below.refl w6.heap.size w6).drew
          have hbd := hbel6.trans ((Below.refl w6.heap.size w6).drew.mono (show B ≤ w6.heap.size by omega))
          have hqd := PsR.below HQ.out (show Below w3.heap.size w3 w6.drew by rw [HBS.out]; exact hbd)
          (refine walkJ_mv rfl (fun K hK => ?_); go_simp; refine (AT2.out B ok _ hqd hzd hkd).mono ?_; rintro e w7 ⟨⟨V1, rfl, hf1, hv1⟩, hk7, ht7⟩; refine ⟨_, rfl, hK _ _ ht7 ?_⟩; clear hK K)
          have t67 := (calT_pre B).trans hd ht7
          have kt7 := CalT.blk t67 kt6 (by omega)
          have kw7 := CalT.blk t67 kw6 (by omega)
          have hz7 := hzd.calT hkd ht7
          have hbel7 := t67.below hbel6 (Nat.le_refl B) (show B ≤ w6.heap.size by omega)
          have hs7 := Nat.le_trans hs6 t67.size
          have hab := at_bind (fun y => stripO W P (x, y)) rfl hv1
          have HAB := hid hab
          have ST := hid (fun w hz hk kt kw => stripPt_any P (x, V1) HFP.out ⟨hxf, hf1⟩ W HFW.out B (B + 1 + 1) (B + 1) B (calK ok (atO C x)) w hz hk kt kw (by omega) (by omega) (by omega) (Nat.le_refl B) (by omega))
          rw [HPP.out, show ptQ (x, V1) = .agg #[.int .i64 n, .int .i64 d, .int .i64 V1.num, .int .i64 (V1.den : Int)] by rw [← (frQ_eq3 hxe).1, ← (frQ_eq3 hxe).2]; rfl] at ST
          unfold frQ
          obtain ⟨m1, hm1⟩ : ∃ z, V1.num = z := ⟨_, rfl⟩
          obtain ⟨m2, hm2⟩ : ∃ z, (V1.den : Int) = z := ⟨_, rfl⟩
          rw [hm1, hm2] at ST ⊢
          clear hd hkd hzd hbd hqd hab hm1 hm2 kp6 kx6 hk6 kt6 kw6 hz6 hbel6 hs6 ht7 t67 hv1 hf1
          iterate 1 (refine walkJ_rd rfl (fun K hK => ?_); go_simp; refine hK _ ?_; clear hK K)
          (refine walkJ_bt rfl (fun K hK => ?_); go_simp; refine (ST.out _ hz7 hk7 kt7 kw7).mono ?_; rintro e w8 ⟨rfl, V, hV, hfV, hk8, kt8, kw8, hb8⟩; refine ⟨_, rfl, hK _ _ ?_⟩; clear hK K)
          have HK6 := hid hk8
          have HT6 := hid kt8
          have HW6 := hid kw8
          have HF6 := hid hfV
          have HV6 := hid hV
          have hbel8 := hbel7.trans hb8
          have hs8 := Nat.le_trans hs7 hb8.size
          clear hk8 kt8 kw8 hfV hV hb8 hk7 kt7 kw7 hz7 hbel7 hs7 ST
          refine walkJ_nil ?_
          go_wp2
          go_roundw
          case rel => exact ⟨i + 1, by go_num, by omega, ⟨_, V, by rw [← HAB.out.1]; exact HBC.out.1, fun h => (HBC.out.2 (by rw [HAB.out.1]; exact h)).trans ((HAB.out.2 h).trans (HV6.out h)), HF6, HK6, HT6, HW6⟩, hbel8, hs8⟩
          case measure => simp [intOf]; omega
        case neg =>
          have hst := HST.out
          simp only [if_neg (fun h => (by have := HL1.out.1 h; omega)), if_neg (fun h => (by have := HL2.out.1 h; omega))] at hst
          have hst2 : workO C x (i + 1) = workO C x i := by rw [hst]; cases workO C x i <;> rfl
          rw [← hst2] at hok hokv
          have HOK := hid hok
          have HOV := hid hokv
          have HK6 := hid hk6
          have HT6 := hid kt6
          have HW6 := hid kw6
          clear hst hst2 hok hokv hk6 kt6 kw6 kp6 kx6 hz6
          go_wp2
          go_roundw
          case rel => exact ⟨i + 1, by go_num, by omega, ⟨ok, W, HOK.out, HOV.out, HFW, HK6, HT6, HW6⟩, hbel6, hs6⟩
          case measure => simp [intOf]; omega
    case neg =>
      obtain rfl : M = i := by omega
      have hi2 : ¬ (M : Int) < (M : Int) := by omega
      have hBr : Below w.heap.size w wr := HB.out.trans ((show Below w3.heap.size w3 wr by rw [HBS.out]; exact hbel).mono HB.out.size)
      have kRr : Blk wr (w.heap.size + 1) #[.int .i64 0, .int .i64 0] 32 := K1.out.below' hbel hlt1
      have c0 := HK.out.look 0 rfl
      have c1 := HW.out.look 0 rfl
      have c2 := HW.out.look 1 rfl
      clear kxr hzr
      cases ok with
      | true =>
        obtain ⟨rfl, rfl, rfl⟩ := HY.out W (hokv rfl)
        have f2 := kRr.frozen
        have q0 := kRr.look 0 rfl
        have q1 := kRr.look 1 rfl
        have ks := (kRr.set 0 (.int .i64 W.num)).set 1 (.int .i64 (W.den : Int))
        have r0 : _ = some (Value.int .i64 W.num) := ks.look 0 rfl
        have r1 : _ = some (Value.int .i64 (W.den : Int)) := ks.look 1 rfl
        have R0 := hid r0
        have R1 := hid r1
        have HBF := hid ((hBr.setCell (p := ⟨w.heap.size + 1, 0, none⟩) (by show w.heap.size ≤ w.heap.size + 1; omega) (.int .i64 W.num)).setCell (p := ⟨w.heap.size + 1, 1, none⟩) (by show w.heap.size ≤ w.heap.size + 1; omega) (.int .i64 (W.den : Int)))
        replace c0 : wr.cell? ⟨B, 0, none⟩ = some (.int .i64 0) := c0
        clear ks r0 r1 hBr hok hokv HX HY
        go_wp2
        refine bodyPost_ret (v := .tuple #[.agg #[.int .i64 W.num, .int .i64 (W.den : Int)], .int .i64 0]) ?_ rfl ⟨rfl, HBF.out⟩
        have r0 := R0.out
        have r1 := R1.out
        simp [results, Tryd.results57, go_sem, r0, r1]
      | false =>
        have hs : workO C x M = none := by
          cases hs : workO C x M with
          | none => rfl
          | some l' => rw [hs] at hok; cases hok
        obtain ⟨rfl, rfl, rfl⟩ := HX.out hs
        replace c0 : wr.cell? ⟨B, 0, none⟩ = some (.int .i64 5) := c0
        have hk7 : Blk wr B #[.int .i64 5] 68 := HK.out
        clear hok hokv HX HY hs c1 c2
        go_wp2_with fail
        have hd0 : CalT (w.heap.size + 1) wr wr.drew := CalT.of_below (Below.refl wr.heap.size wr).drew
        have z0 := fun x : SubT (CalT (w.heap.size + 1)) wr.drew => (((calT_pre _).trans hd0 x.b).blk hk7 (show B ≠ w.heap.size + 1 by omega)).look 0 rfl
        refine wp_walkJ (T := CalT (w.heap.size + 1)) (calT_pre _) (.rd 0 (.rd 1 (.rd 2 (.mv 3 (.rd 4 (.inv [])))))) (by kernel_rfl) rfl (by kernel_rfl) (by kernel_rfl) ?_
        iterate 3 (refine walkJ_rd rfl (fun K hK => ?_); go_simp; refine hK _ ?_; clear hK K)
        clear z0 hd0
        have hdb : Below wr.heap.size wr wr.drew := (Below.refl wr.heap.size wr).drew
        have kd := kRr.below hdb
        have f2 := kRr.frozen
        have q0 := kRr.look 0 rfl
        have q1 := kRr.look 1 rfl
        have HBF := hid (((hBr.trans (hdb.mono hBr.size)).setCell (p := ⟨w.heap.size + 1, 0, none⟩) (by show w.heap.size ≤ w.heap.size + 1; omega) (.int .i64 0)).setCell (p := ⟨w.heap.size + 1, 1, none⟩) (by show w.heap.size ≤ w.heap.size + 1; omega) (.int .i64 0))
        have ks2 := (kRr.set 0 (.int .i64 0)).set 1 (.int .i64 0)
        have s0 : _ = some (Value.int .i64 0) := ks2.look 0 rfl
        have s1 : _ = some (Value.int .i64 0) := ks2.look 1 rfl
        have S0 := hid s0
        have S1 := hid s1
        clear ks2 s0 s1 kd hBr hk7 hdb c0
        (refine walkJ_mv rfl (fun K hK => ?_); go_simp; refine hK _ _ ((calT_pre _).trans (CalT.set _ _ ⟨w.heap.size + 1, 0, none⟩ rfl (.int .i64 0)) (CalT.set _ _ ⟨w.heap.size + 1, 1, none⟩ rfl (.int .i64 0))) ?_; clear hK K)
        (refine walkJ_rd rfl (fun K hK => ?_); go_simp; refine hK _ ?_; clear hK K)
        refine walkJ_nil ?_
        go_wp2
        refine bodyPost_ret (v := .tuple #[.agg #[.int .i64 0, .int .i64 0], .int .i64 5]) ?_ rfl ⟨rfl, HBF.out⟩
        have r0 := S0.out
        have r1 := S1.out
        simp [results, Tryd.results57, go_sem, r0, r1]

end Go.Proofs.YtfkclcoipadhmaaDoor
