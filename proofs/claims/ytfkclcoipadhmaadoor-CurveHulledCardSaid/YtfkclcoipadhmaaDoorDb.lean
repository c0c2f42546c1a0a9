/- Walks of curve.calc: call, add, sub, mul, div. -/
import Derived.Test.YtfkclcoipadhmaaDoorDa
namespace Go.Proofs.YtfkclcoipadhmaaDoor
open Go.RowKit
attribute [local irreducible] seqS seqST walkV walkJ

theorem CalT.setOwn {g : Nat} {w W : World} (h : CalT g w W) {p : Addr} (hp : w.heap.size ≤ p.block) (v : Value) : CalT g w (W.setCell p v) :=
  ⟨(show W.os = w.os from World.grownBy.os h), (show W.tape = w.tape from World.grownBy.tape h), (show W.output = w.output from World.grownBy.output h), by simpa [World.setCell] using World.grownBy.size h, fun k hk hne => (Below.heap_setCell W p v k (by omega)).trans (World.grownBy.block h k hk hne)⟩
theorem CalT.alloc {g : Nat} {w W : World} (h : CalT g w W) (o : Obj) : CalT g w (W.alloc o) := (calT_pre g).trans h (CalT.of_below (alloc_below W o))
/-- The world behind a call: the errno laid, the result laid. -/
theorem cal_end {w w3 : World} {g c : Nat} {ok ok' : Bool} (hB3 : Below w.heap.size w w3) (hk3 : CalB w3 g ok) (hg : g < w.heap.size) (hc : w.heap.size ≤ c) {p q : Value} {t : TypeId} (k2 : Blk w3 c #[p, q] t) {e : Value} (he : e = .int .i64 (if ok' then 0 else 5)) (x y : Value) (A : Obj) :
    CalB ((((w3.setCell ⟨g, 0, none⟩ e).setCell ⟨c, 0, none⟩ x).setCell ⟨c, 1, none⟩ y).alloc A) g ok' ∧ CalT g w ((((w3.setCell ⟨g, 0, none⟩ e).setCell ⟨c, 0, none⟩ x).setCell ⟨c, 1, none⟩ y).alloc A) ∧
    ((((w3.setCell ⟨g, 0, none⟩ e).setCell ⟨c, 0, none⟩ x).setCell ⟨c, 1, none⟩ y).alloc A).cell? ⟨c, 0, none⟩ = some x ∧ ((((w3.setCell ⟨g, 0, none⟩ e).setCell ⟨c, 0, none⟩ x).setCell ⟨c, 1, none⟩ y).alloc A).cell? ⟨c, 1, none⟩ = some y := by
  subst he
  have hgc : g ≠ c := by omega
  have k1 : CalB (w3.setCell ⟨g, 0, none⟩ (.int .i64 (if ok' then 0 else 5))) g ok' := Blk.set hk3 0 _
  have k3 := (Blk.other k2 (p := ⟨g, 0, none⟩) (Ne.symm hgc) (.int .i64 (if ok' then 0 else 5)))
  have k4 := (k3.set 0 x).set 1 y
  refine ⟨Blk.alloc (Blk.other (Blk.other k1 (p := ⟨c, 0, none⟩) hgc _) (p := ⟨c, 1, none⟩) hgc _) A, ?_, (k4.alloc A).look 0 rfl, (k4.alloc A).look 1 rfl⟩
  have t1 := (calT_pre g).trans (CalT.of_below hB3) (CalT.set g w3 ⟨g, 0, none⟩ rfl (.int .i64 (if ok' then 0 else 5)))
  exact ((t1.setOwn (p := ⟨c, 0, none⟩) hc x).setOwn (p := ⟨c, 1, none⟩) hc y).alloc A
/-- The world of a call's own three variables. -/
theorem calc_new (w : World) (x y z : Array Value) (t : TypeId) : ∃ w0, ((w.alloc (.cells x t)).alloc (.cells y t)).alloc (.cells z t) = w0 ∧ Blk w0 w.heap.size x t ∧ Blk w0 (w.heap.size + 1) y t ∧ Blk w0 (w.heap.size + 1 + 1) z t ∧ Below w.heap.size w w0 ∧ w0.heap.size = w.heap.size + 1 + 1 + 1 := by
  obtain ⟨w0, h0, h1, h2, h3, h4, h5⟩ := three_new w x y z t t t
  exact ⟨w0, h0, h1, h2, h3, h4, h5⟩
/-- Still without an error behind an operation; and what it hands back. -/
def copK (ok : Bool) (q : Rat) : Bool := ok && decide (fits q)
def copV (ok : Bool) (q : Rat) : Rat := if copK ok q then q else 0
theorem frQ_zero : frQ 0 = .agg #[.int .i64 0, .int .i64 1] := rfl
theorem fits_nought : fits 0 := ⟨by decide, by decide⟩
theorem copV_fits (ok : Bool) (q : Rat) : fits (copV ok q) := by
  unfold copV copK
  cases ok with
  | false => exact fits_nought
  | true =>
    by_cases h : fits q
    · rw [decide_eq_true h]; exact h
    · rw [decide_eq_false h]; exact fits_nought
theorem cop_no (q : Rat) : copK false q = false ∧ copV false q = 0 := ⟨rfl, rfl⟩
theorem cop_yes {q : Rat} (h : fits q) : copK true q = true ∧ copV true q = q := by
  unfold copV copK
  rw [decide_eq_true h]
  exact ⟨rfl, rfl⟩
theorem cop_over {q : Rat} (h : ¬ fits q) : copK true q = false ∧ copV true q = 0 := by
  unfold copV copK
  rw [decide_eq_false h]
  exact ⟨rfl, rfl⟩
theorem cal_set {w w' : World} {S g : Nat} {ok : Bool} (hB : Below S w w') (hS : w.heap.size = S) (hk : CalB w' g ok) {c : Nat} (hc : S ≤ c) (hgc : g ≠ c) (x y : Value) :
    CalT g w ((w'.setCell ⟨c, 0, none⟩ x).setCell ⟨c, 1, none⟩ y) ∧ CalB ((w'.setCell ⟨c, 0, none⟩ x).setCell ⟨c, 1, none⟩ y) g ok := by
  have h1 := (hB.setCell (p := ⟨c, 0, none⟩) hc x).setCell (p := ⟨c, 1, none⟩) hc y
  rw [← hS] at h1
  exact ⟨CalT.of_below h1, Blk.other (Blk.other hk (p := ⟨c, 0, none⟩) hgc _) (p := ⟨c, 1, none⟩) hgc _⟩

set_option maxHeartbeats 2000000 in
set_option maxRecDepth 100000 in
theorem call_add (a b : Rat) (ha : fits a) (hb : fits b) (g : Nat) (ok : Bool)  (w : World) (hz : Z0 w) (hk : CalB w g ok) :
    Calls Tryd.prog 114 #[.pointer (some ⟨g, 0, none⟩), .func (.func 58) #[] #[], frQ a, frQ b] w fun e w' => e = .returned (frQ (copV ok (a + b))) ∧ CalB w' g (copK ok (a + b)) ∧ CalT g w w' := by
  cases ok with
  | false =>
    obtain ⟨q, hq⟩ : ∃ q, (a + b) = q := ⟨_, rfl⟩
    rw [hq]
    unfold frQ
    clear hq
    obtain ⟨w0, hw0, k0, k1, k2, hB, hsz⟩ := calc_new w #[.int .i64 a.num, .int .i64 (a.den : Int)] #[.int .i64 b.num, .int .i64 (b.den : Int)] #[.int .i64 0, .int .i64 0] 32
    have hg := hk.lt
    have hkk := CalB.below hk hB
    have hz0 := hz.below hB
    go_enter Tryd.func114, Tryd.ntmps114
    rw [(cop_no q).1, (cop_no q).2]
    have c0 := hkk.look 0 rfl
    have zz0 := hz0.2.1
    have zz1 := hz0.2.2
    have f2 := k2.frozen
    have q0 := k2.look 0 rfl
    have q1 := k2.look 1 rfl
    obtain ⟨w9, hw9, -, -, -, hB9, -⟩ := calc_new w #[.int .i64 a.num, .int .i64 (a.den : Int)] #[.int .i64 b.num, .int .i64 (b.den : Int)] #[.int .i64 0, .int .i64 1] 32
    have F1 : Hid (CalT g w w9) := hid (CalT.of_below hB9)
    have F2 : Hid (CalB w9 g false) := hid (CalB.below hk hB9)
    subst hw9
    subst hw0
    clear hkk hz0 k0 k1 k2 hB hB9 hz hk hsz
    go_wp2
    refine bodyPost_ret (v := .agg #[.int .i64 0, .int .i64 1]) ?_ rfl ⟨rfl, F2.out, F1.out⟩
    simp [results, Tryd.results114, go_sem]
  | true =>
    have OP := hid (fun w => addQ_any a b ha hb w)
    obtain ⟨q, hq⟩ : ∃ q, (a + b) = q := ⟨_, rfl⟩
    rw [hq] at OP ⊢
    unfold frQ at OP ⊢
    clear hq
    obtain ⟨w0, hw0, k0, k1, k2, hB, hsz⟩ := calc_new w #[.int .i64 a.num, .int .i64 (a.den : Int)] #[.int .i64 b.num, .int .i64 (b.den : Int)] #[.int .i64 0, .int .i64 0] 32
    have hg := hk.lt
    have hkk := CalB.below hk hB
    have hz0 := hz.below hB
    go_enter Tryd.func114, Tryd.ntmps114
    have c0 := hkk.look 0 rfl
    have d0 := k0.look 0 rfl
    have d1 := k0.look 1 rfl
    have d2 := k1.look 0 rfl
    have d3 := k1.look 1 rfl
    have HB := hid hB
    have HZ := hid hz0
    have HK := hid hkk
    have K2 := hid k2
    have hgs : g < w.heap.size := hg
    have HW := hid hw0
    rw [← hw0] at c0 d0 d1 d2 d3
    clear hB hz0 hkk k0 k1 k2 hsz hz hk hw0
    go_wp2_with fail
    rw [HW.out]
    clear HW c0 d0 d1 d2 d3
    refine (OP.out _).mono ?_
    rintro r w3 ⟨rfl, hb3⟩
    have hB3 := HB.out.trans (hb3.mono HB.out.size)
    have hk3 := CalB.below HK.out hb3
    have hz3 := HZ.out.below hb3
    have k23 := K2.out.below hb3
    clear HB HK HZ K2 hb3
    have hz30 := hz3.1
    have zz0 := hz3.2.1
    have zz1 := hz3.2.2
    have hg0 : (0 : Nat) ≠ g := calB_ne (off := 0) hk3 hz3.2.2
    have hg0' : g ≠ 0 := Ne.symm hg0
    have hlt3 := k23.lt
    have hg3 : g < w3.heap.size := hk3.lt
    have q0 := k23.look 0 rfl
    have q1 := k23.look 1 rfl
    have f2 := k23.frozen
    have fg := hk3.frozen
    have c0 := hk3.look 0 rfl
    have hne : w.heap.size + 1 + 1 ≠ g := by omega
    have hne' : g ≠ w.heap.size + 1 + 1 := by omega
    have HB3 := hid hB3
    have HK3 := hid hk3
    have K23 := hid k23
    clear hB3 hk3 k23 hz3
    by_cases hf : fits q
    · rw [frV_fit hf, fitE_fit hf]
      have HC := hid (cop_yes hf)
      unfold frQ
      obtain ⟨n, hn⟩ : ∃ n, q.num = n := ⟨_, rfl⟩
      obtain ⟨d, hd⟩ : ∃ n, (q.den : Int) = n := ⟨_, rfl⟩
      rw [hn, hd]
      have HN := hid hn
      have HD := hid hd
      clear hn hd hf
      have HE := hid (cal_end (ok' := true) (e := .int .i64 0) HB3.out HK3.out hgs (c := w.heap.size + 1 + 1) (by omega) K23.out rfl (.int .i64 n) (.int .i64 d) (.cells #[.int .i64 n, .int .i64 d] 32))
      go_wp2
      refine bodyPost_ret (v := .agg #[.int .i64 n, .int .i64 d]) ?_ rfl ⟨by rw [HC.out.2, HN.out, HD.out], by rw [HC.out.1]; exact HE.out.1, HE.out.2.1⟩
      have r0 := HE.out.2.2.1
      have r1 := HE.out.2.2.2
      simp [results, Tryd.results114, go_sem, r0, r1]
    · rw [fitE_not hf, show fitN q = 0 from if_neg hf, show fitD q = 0 from if_neg hf]
      unfold frV
      have HC := hid (cop_over hf)
      clear hf
      have HE := hid (cal_end (ok' := false) (e := .int .i64 5) HB3.out HK3.out hgs (c := w.heap.size + 1 + 1) (by omega) K23.out rfl (.int .i64 0) (.int .i64 1) (.cells #[.int .i64 0, .int .i64 0] 32))
      go_wp2
      refine bodyPost_ret (v := .agg #[.int .i64 0, .int .i64 1]) ?_ rfl ⟨by rw [HC.out.2]; rfl, by rw [HC.out.1]; exact HE.out.1, HE.out.2.1⟩
      have r0 : _ = some (Value.int .i64 0) := HE.out.2.2.1
      have r1 : _ = some (Value.int .i64 1) := HE.out.2.2.2
      simp [results, Tryd.results114, go_sem, r0, r1]

set_option maxHeartbeats 2000000 in
set_option maxRecDepth 100000 in
theorem calc_add (a b : Rat) (ha : fits a) (hb : fits b) (g : Nat) (ok : Bool)  (w : World) (hz : Z0 w) (hk : CalB w g ok) :
    Calls Tryd.prog 74 #[.pointer (some ⟨g, 0, none⟩), frQ a, frQ b] w fun e w' => e = .returned (frQ (copV ok (a + b))) ∧ CalB w' g (copK ok (a + b)) ∧ CalT g w w' := by
  have OP := hid (fun w hz hk => call_add a b ha hb g ok w hz hk)
  obtain ⟨V, hV⟩ : ∃ q, copV ok (a + b) = q := ⟨_, rfl⟩
  obtain ⟨K, hK⟩ : ∃ q, copK ok (a + b) = q := ⟨_, rfl⟩
  rw [hV, hK] at OP ⊢
  unfold frQ at OP ⊢
  clear hV hK
  obtain ⟨w0, hw0, k0, k1, k2, hB, hsz⟩ := calc_new w #[.int .i64 a.num, .int .i64 (a.den : Int)] #[.int .i64 b.num, .int .i64 (b.den : Int)] #[.int .i64 0, .int .i64 0] 32
  have hg : g < w.heap.size := hk.lt
  have hkk := CalB.below hk hB
  have hz0 := hz.below hB
  have d0 := k0.look 0 rfl
  have d1 := k0.look 1 rfl
  have d2 := k1.look 0 rfl
  have d3 := k1.look 1 rfl
  have HW := hid hw0
  rw [← hw0] at d0 d1 d2 d3
  have HZ := hid hz0
  have HK := hid hkk
  have K2 := hid k2
  have HB := hid hB
  clear hB hz0 hkk k0 k1 k2 hsz hz hk hw0
  go_enter Tryd.func74, Tryd.ntmps74
  go_wp2_with fail
  rw [HW.out]
  clear HW d0 d1 d2 d3
  refine (OP.out _ HZ.out HK.out).mono ?_
  rintro r w3 ⟨rfl, hk3, ht3⟩
  have hne : w.heap.size + 1 + 1 ≠ g := by omega
  have k23 := CalT.blk ht3 K2.out hne
  have q0 := k23.look 0 rfl
  have q1 := k23.look 1 rfl
  have f2 := k23.frozen
  obtain ⟨n, hn⟩ : ∃ n, V.num = n := ⟨_, rfl⟩
  obtain ⟨d, hd⟩ : ∃ n, (V.den : Int) = n := ⟨_, rfl⟩
  rw [hn, hd]
  have HN := hid hn
  have HD := hid hd
  have k24 := (k23.set 0 (.int .i64 n)).set 1 (.int .i64 d)
  have F1 := hid (Blk.other (Blk.other hk3 (p := ⟨w.heap.size + 1 + 1, 0, none⟩) (Ne.symm hne) (.int .i64 n)) (p := ⟨w.heap.size + 1 + 1, 1, none⟩) (Ne.symm hne) (.int .i64 d))
  have F2 := hid ((((calT_pre g).trans (CalT.of_below HB.out) ht3).setOwn (p := ⟨w.heap.size + 1 + 1, 0, none⟩) (by show w.heap.size ≤ w.heap.size + 1 + 1; omega) (.int .i64 n)).setOwn (p := ⟨w.heap.size + 1 + 1, 1, none⟩) (by show w.heap.size ≤ w.heap.size + 1 + 1; omega) (.int .i64 d))
  have r0 : _ = some (Value.int .i64 n) := k24.look 0 rfl
  have r1 : _ = some (Value.int .i64 d) := k24.look 1 rfl
  have R0 := hid r0
  have R1 := hid r1
  clear hn hd HB HZ HK K2 hk3 ht3 k23 k24 r0 r1
  go_wp2
  refine bodyPost_ret (v := .agg #[.int .i64 n, .int .i64 d]) ?_ rfl ⟨by rw [HN.out, HD.out], F1.out, F2.out⟩
  have r0 := R0.out
  have r1 := R1.out
  simp [results, Tryd.results74, go_sem, r0, r1]

set_option maxHeartbeats 2000000 in
set_option maxRecDepth 100000 in
theorem call_sub (a b : Rat) (ha : fits a) (hb : fits b) (g : Nat) (ok : Bool)  (w : World) (hz : Z0 w) (hk : CalB w g ok) :
    Calls Tryd.prog 114 #[.pointer (some ⟨g, 0, none⟩), .func (.func 135) #[] #[], frQ a, frQ b] w fun e w' => e = .returned (frQ (copV ok (a - b))) ∧ CalB w' g (copK ok (a - b)) ∧ CalT g w w' := by
  cases ok with
  | false =>
    obtain ⟨q, hq⟩ : ∃ q, (a - b) = q := ⟨_, rfl⟩
    rw [hq]
    unfold frQ
    clear hq
    obtain ⟨w0, hw0, k0, k1, k2, hB, hsz⟩ := calc_new w #[.int .i64 a.num, .int .i64 (a.den : Int)] #[.int .i64 b.num, .int .i64 (b.den : Int)] #[.int .i64 0, .int .i64 0] 32
    have hg := hk.lt
    have hkk := CalB.below hk hB
    have hz0 := hz.below hB
    go_enter Tryd.func114, Tryd.ntmps114
    rw [(cop_no q).1, (cop_no q).2]
    have c0 := hkk.look 0 rfl
    have zz0 := hz0.2.1
    have zz1 := hz0.2.2
    have f2 := k2.frozen
    have q0 := k2.look 0 rfl
    have q1 := k2.look 1 rfl
    obtain ⟨w9, hw9, -, -, -, hB9, -⟩ := calc_new w #[.int .i64 a.num, .int .i64 (a.den : Int)] #[.int .i64 b.num, .int .i64 (b.den : Int)] #[.int .i64 0, .int .i64 1] 32
    have F1 : Hid (CalT g w w9) := hid (CalT.of_below hB9)
    have F2 : Hid (CalB w9 g false) := hid (CalB.below hk hB9)
    subst hw9
    subst hw0
    clear hkk hz0 k0 k1 k2 hB hB9 hz hk hsz
    go_wp2
    refine bodyPost_ret (v := .agg #[.int .i64 0, .int .i64 1]) ?_ rfl ⟨rfl, F2.out, F1.out⟩
    simp [results, Tryd.results114, go_sem]
  | true =>
    have OP := hid (fun w => subQ_any a b ha hb w)
    obtain ⟨q, hq⟩ : ∃ q, (a - b) = q := ⟨_, rfl⟩
    rw [hq] at OP ⊢
    unfold frQ at OP ⊢
    clear hq
    obtain ⟨w0, hw0, k0, k1, k2, hB, hsz⟩ := calc_new w #[.int .i64 a.num, .int .i64 (a.den : Int)] #[.int .i64 b.num, .int .i64 (b.den : Int)] #[.int .i64 0, .int .i64 0] 32
    have hg := hk.lt
    have hkk := CalB.below hk hB
    have hz0 := hz.below hB
    go_enter Tryd.func114, Tryd.ntmps114
    have c0 := hkk.look 0 rfl
    have d0 := k0.look 0 rfl
    have d1 := k0.look 1 rfl
    have d2 := k1.look 0 rfl
    have d3 := k1.look 1 rfl
    have HB := hid hB
    have HZ := hid hz0
    have HK := hid hkk
    have K2 := hid k2
    have hgs : g < w.heap.size := hg
    have HW := hid hw0
    rw [← hw0] at c0 d0 d1 d2 d3
    clear hB hz0 hkk k0 k1 k2 hsz hz hk hw0
    go_wp2_with fail
    rw [HW.out]
    clear HW c0 d0 d1 d2 d3
    refine (OP.out _).mono ?_
    rintro r w3 ⟨rfl, hb3⟩
    have hB3 := HB.out.trans (hb3.mono HB.out.size)
    have hk3 := CalB.below HK.out hb3
    have hz3 := HZ.out.below hb3
    have k23 := K2.out.below hb3
    clear HB HK HZ K2 hb3
    have hz30 := hz3.1
    have zz0 := hz3.2.1
    have zz1 := hz3.2.2
    have hg0 : (0 : Nat) ≠ g := calB_ne (off := 0) hk3 hz3.2.2
    have hg0' : g ≠ 0 := Ne.symm hg0
    have hlt3 := k23.lt
    have hg3 : g < w3.heap.size := hk3.lt
    have q0 := k23.look 0 rfl
    have q1 := k23.look 1 rfl
    have f2 := k23.frozen
    have fg := hk3.frozen
    have c0 := hk3.look 0 rfl
    have hne : w.heap.size + 1 + 1 ≠ g := by omega
    have hne' : g ≠ w.heap.size + 1 + 1 := by omega
    have HB3 := hid hB3
    have HK3 := hid hk3
    have K23 := hid k23
    clear hB3 hk3 k23 hz3
    by_cases hf : fits q
    · rw [frV_fit hf, fitE_fit hf]
      have HC := hid (cop_yes hf)
      unfold frQ
      obtain ⟨n, hn⟩ : ∃ n, q.num = n := ⟨_, rfl⟩
      obtain ⟨d, hd⟩ : ∃ n, (q.den : Int) = n := ⟨_, rfl⟩
      rw [hn, hd]
      have HN := hid hn
      have HD := hid hd
      clear hn hd hf
      have HE := hid (cal_end (ok' := true) (e := .int .i64 0) HB3.out HK3.out hgs (c := w.heap.size + 1 + 1) (by omega) K23.out rfl (.int .i64 n) (.int .i64 d) (.cells #[.int .i64 n, .int .i64 d] 32))
      go_wp2
      refine bodyPost_ret (v := .agg #[.int .i64 n, .int .i64 d]) ?_ rfl ⟨by rw [HC.out.2, HN.out, HD.out], by rw [HC.out.1]; exact HE.out.1, HE.out.2.1⟩
      have r0 := HE.out.2.2.1
      have r1 := HE.out.2.2.2
      simp [results, Tryd.results114, go_sem, r0, r1]
    · rw [fitE_not hf, show fitN q = 0 from if_neg hf, show fitD q = 0 from if_neg hf]
      unfold frV
      have HC := hid (cop_over hf)
      clear hf
      have HE := hid (cal_end (ok' := false) (e := .int .i64 5) HB3.out HK3.out hgs (c := w.heap.size + 1 + 1) (by omega) K23.out rfl (.int .i64 0) (.int .i64 1) (.cells #[.int .i64 0, .int .i64 0] 32))
      go_wp2
      refine bodyPost_ret (v := .agg #[.int .i64 0, .int .i64 1]) ?_ rfl ⟨by rw [HC.out.2]; rfl, by rw [HC.out.1]; exact HE.out.1, HE.out.2.1⟩
      have r0 : _ = some (Value.int .i64 0) := HE.out.2.2.1
      have r1 : _ = some (Value.int .i64 1) := HE.out.2.2.2
      simp [results, Tryd.results114, go_sem, r0, r1]

set_option maxHeartbeats 2000000 in
set_option maxRecDepth 100000 in
theorem calc_sub (a b : Rat) (ha : fits a) (hb : fits b) (g : Nat) (ok : Bool)  (w : World) (hz : Z0 w) (hk : CalB w g ok) :
    Calls Tryd.prog 108 #[.pointer (some ⟨g, 0, none⟩), frQ a, frQ b] w fun e w' => e = .returned (frQ (copV ok (a - b))) ∧ CalB w' g (copK ok (a - b)) ∧ CalT g w w' := by
  have OP := hid (fun w hz hk => call_sub a b ha hb g ok w hz hk)
  obtain ⟨V, hV⟩ : ∃ q, copV ok (a - b) = q := ⟨_, rfl⟩
  obtain ⟨K, hK⟩ : ∃ q, copK ok (a - b) = q := ⟨_, rfl⟩
  rw [hV, hK] at OP ⊢
  unfold frQ at OP ⊢
  clear hV hK
  obtain ⟨w0, hw0, k0, k1, k2, hB, hsz⟩ := calc_new w #[.int .i64 a.num, .int .i64 (a.den : Int)] #[.int .i64 b.num, .int .i64 (b.den : Int)] #[.int .i64 0, .int .i64 0] 32
  have hg : g < w.heap.size := hk.lt
  have hkk := CalB.below hk hB
  have hz0 := hz.below hB
  have d0 := k0.look 0 rfl
  have d1 := k0.look 1 rfl
  have d2 := k1.look 0 rfl
  have d3 := k1.look 1 rfl
  have HW := hid hw0
  rw [← hw0] at d0 d1 d2 d3
  have HZ := hid hz0
  have HK := hid hkk
  have K2 := hid k2
  have HB := hid hB
  clear hB hz0 hkk k0 k1 k2 hsz hz hk hw0
  go_enter Tryd.func108, Tryd.ntmps108
  go_wp2_with fail
  rw [HW.out]
  clear HW d0 d1 d2 d3
  refine (OP.out _ HZ.out HK.out).mono ?_
  rintro r w3 ⟨rfl, hk3, ht3⟩
  have hne : w.heap.size + 1 + 1 ≠ g := by omega
  have k23 := CalT.blk ht3 K2.out hne
  have q0 := k23.look 0 rfl
  have q1 := k23.look 1 rfl
  have f2 := k23.frozen
  obtain ⟨n, hn⟩ : ∃ n, V.num = n := ⟨_, rfl⟩
  obtain ⟨d, hd⟩ : ∃ n, (V.den : Int) = n := ⟨_, rfl⟩
  rw [hn, hd]
  have HN := hid hn
  have HD := hid hd
  have k24 := (k23.set 0 (.int .i64 n)).set 1 (.int .i64 d)
  have F1 := hid (Blk.other (Blk.other hk3 (p := ⟨w.heap.size + 1 + 1, 0, none⟩) (Ne.symm hne) (.int .i64 n)) (p := ⟨w.heap.size + 1 + 1, 1, none⟩) (Ne.symm hne) (.int .i64 d))
  have F2 := hid ((((calT_pre g).trans (CalT.of_below HB.out) ht3).setOwn (p := ⟨w.heap.size + 1 + 1, 0, none⟩) (by show w.heap.size ≤ w.heap.size + 1 + 1; omega) (.int .i64 n)).setOwn (p := ⟨w.heap.size + 1 + 1, 1, none⟩) (by show w.heap.size ≤ w.heap.size + 1 + 1; omega) (.int .i64 d))
  have r0 : _ = some (Value.int .i64 n) := k24.look 0 rfl
  have r1 : _ = some (Value.int .i64 d) := k24.look 1 rfl
  have R0 := hid r0
  have R1 := hid r1
  clear hn hd HB HZ HK K2 hk3 ht3 k23 k24 r0 r1
  go_wp2
  refine bodyPost_ret (v := .agg #[.int .i64 n, .int .i64 d]) ?_ rfl ⟨by rw [HN.out, HD.out], F1.out, F2.out⟩
  have r0 := R0.out
  have r1 := R1.out
  simp [results, Tryd.results108, go_sem, r0, r1]

set_option maxHeartbeats 2000000 in
set_option maxRecDepth 100000 in
theorem call_mul (a b : Rat) (ha : fits a) (hb : fits b) (g : Nat) (ok : Bool)  (w : World) (hz : Z0 w) (hk : CalB w g ok) :
    Calls Tryd.prog 114 #[.pointer (some ⟨g, 0, none⟩), .func (.func 115) #[] #[], frQ a, frQ b] w fun e w' => e = .returned (frQ (copV ok (a * b))) ∧ CalB w' g (copK ok (a * b)) ∧ CalT g w w' := by
  cases ok with
  | false =>
    obtain ⟨q, hq⟩ : ∃ q, (a * b) = q := ⟨_, rfl⟩
    rw [hq]
    unfold frQ
    clear hq
    obtain ⟨w0, hw0, k0, k1, k2, hB, hsz⟩ := calc_new w #[.int .i64 a.num, .int .i64 (a.den : Int)] #[.int .i64 b.num, .int .i64 (b.den : Int)] #[.int .i64 0, .int .i64 0] 32
    have hg := hk.lt
    have hkk := CalB.below hk hB
    have hz0 := hz.below hB
    go_enter Tryd.func114, Tryd.ntmps114
    rw [(cop_no q).1, (cop_no q).2]
    have c0 := hkk.look 0 rfl
    have zz0 := hz0.2.1
    have zz1 := hz0.2.2
    have f2 := k2.frozen
    have q0 := k2.look 0 rfl
    have q1 := k2.look 1 rfl
    obtain ⟨w9, hw9, -, -, -, hB9, -⟩ := calc_new w #[.int .i64 a.num, .int .i64 (a.den : Int)] #[.int .i64 b.num, .int .i64 (b.den : Int)] #[.int .i64 0, .int .i64 1] 32
    have F1 : Hid (CalT g w w9) := hid (CalT.of_below hB9)
    have F2 : Hid (CalB w9 g false) := hid (CalB.below hk hB9)
    subst hw9
    subst hw0
    clear hkk hz0 k0 k1 k2 hB hB9 hz hk hsz
    go_wp2
    refine bodyPost_ret (v := .agg #[.int .i64 0, .int .i64 1]) ?_ rfl ⟨rfl, F2.out, F1.out⟩
    simp [results, Tryd.results114, go_sem]
  | true =>
    have OP := hid (fun w => mulQ_any a b ha hb w)
    obtain ⟨q, hq⟩ : ∃ q, (a * b) = q := ⟨_, rfl⟩
    rw [hq] at OP ⊢
    unfold frQ at OP ⊢
    clear hq
    obtain ⟨w0, hw0, k0, k1, k2, hB, hsz⟩ := calc_new w #[.int .i64 a.num, .int .i64 (a.den : Int)] #[.int .i64 b.num, .int .i64 (b.den : Int)] #[.int .i64 0, .int .i64 0] 32
    have hg := hk.lt
    have hkk := CalB.below hk hB
    have hz0 := hz.below hB
    go_enter Tryd.func114, Tryd.ntmps114
    have c0 := hkk.look 0 rfl
    have d0 := k0.look 0 rfl
    have d1 := k0.look 1 rfl
    have d2 := k1.look 0 rfl
    have d3 := k1.look 1 rfl
    have HB := hid hB
    have HZ := hid hz0
    have HK := hid hkk
    have K2 := hid k2
    have hgs : g < w.heap.size := hg
    have HW := hid hw0
    rw [← hw0] at c0 d0 d1 d2 d3
    clear hB hz0 hkk k0 k1 k2 hsz hz hk hw0
    go_wp2_with fail
    rw [HW.out]
    clear HW c0 d0 d1 d2 d3
    refine (OP.out _).mono ?_
    rintro r w3 ⟨rfl, hb3⟩
    have hB3 := HB.out.trans (hb3.mono HB.out.size)
    have hk3 := CalB.below HK.out hb3
    have hz3 := HZ.out.below hb3
    have k23 := K2.out.below hb3
    clear HB HK HZ K2 hb3
    have hz30 := hz3.1
    have zz0 := hz3.2.1
    have zz1 := hz3.2.2
    have hg0 : (0 : Nat) ≠ g := calB_ne (off := 0) hk3 hz3.2.2
    have hg0' : g ≠ 0 := Ne.symm hg0
    have hlt3 := k23.lt
    have hg3 : g < w3.heap.size := hk3.lt
    have q0 := k23.look 0 rfl
    have q1 := k23.look 1 rfl
    have f2 := k23.frozen
    have fg := hk3.frozen
    have c0 := hk3.look 0 rfl
    have hne : w.heap.size + 1 + 1 ≠ g := by omega
    have hne' : g ≠ w.heap.size + 1 + 1 := by omega
    have HB3 := hid hB3
    have HK3 := hid hk3
    have K23 := hid k23
    clear hB3 hk3 k23 hz3
    by_cases hf : fits q
    · rw [frV_fit hf, fitE_fit hf]
      have HC := hid (cop_yes hf)
      unfold frQ
      obtain ⟨n, hn⟩ : ∃ n, q.num = n := ⟨_, rfl⟩
      obtain ⟨d, hd⟩ : ∃ n, (q.den : Int) = n := ⟨_, rfl⟩
      rw [hn, hd]
      have HN := hid hn
      have HD := hid hd
      clear hn hd hf
      have HE := hid (cal_end (ok' := true) (e := .int .i64 0) HB3.out HK3.out hgs (c := w.heap.size + 1 + 1) (by omega) K23.out rfl (.int .i64 n) (.int .i64 d) (.cells #[.int .i64 n, .int .i64 d] 32))
      go_wp2
      refine bodyPost_ret (v := .agg #[.int .i64 n, .int .i64 d]) ?_ rfl ⟨by rw [HC.out.2, HN.out, HD.out], by rw [HC.out.1]; exact HE.out.1, HE.out.2.1⟩
      have r0 := HE.out.2.2.1
      have r1 := HE.out.2.2.2
      simp [results, Tryd.results114, go_sem, r0, r1]
    · rw [fitE_not hf, show fitN q = 0 from if_neg hf, show fitD q = 0 from if_neg hf]
      unfold frV
      have HC := hid (cop_over hf)
      clear hf
      have HE := hid (cal_end (ok' := false) (e := .int .i64 5) HB3.out HK3.out hgs (c := w.heap.size + 1 + 1) (by omega) K23.out rfl (.int .i64 0) (.int .i64 1) (.cells #[.int .i64 0, .int .i64 0] 32))
      go_wp2
      refine bodyPost_ret (v := .agg #[.int .i64 0, .int .i64 1]) ?_ rfl ⟨by rw [HC.out.2]; rfl, by rw [HC.out.1]; exact HE.out.1, HE.out.2.1⟩
      have r0 : _ = some (Value.int .i64 0) := HE.out.2.2.1
      have r1 : _ = some (Value.int .i64 1) := HE.out.2.2.2
      simp [results, Tryd.results114, go_sem, r0, r1]

set_option maxHeartbeats 2000000 in
set_option maxRecDepth 100000 in
theorem calc_mul (a b : Rat) (ha : fits a) (hb : fits b) (g : Nat) (ok : Bool)  (w : World) (hz : Z0 w) (hk : CalB w g ok) :
    Calls Tryd.prog 68 #[.pointer (some ⟨g, 0, none⟩), frQ a, frQ b] w fun e w' => e = .returned (frQ (copV ok (a * b))) ∧ CalB w' g (copK ok (a * b)) ∧ CalT g w w' := by
  have OP := hid (fun w hz hk => call_mul a b ha hb g ok w hz hk)
  obtain ⟨V, hV⟩ : ∃ q, copV ok (a * b) = q := ⟨_, rfl⟩
  obtain ⟨K, hK⟩ : ∃ q, copK ok (a * b) = q := ⟨_, rfl⟩
  rw [hV, hK] at OP ⊢
  unfold frQ at OP ⊢
  clear hV hK
  obtain ⟨w0, hw0, k0, k1, k2, hB, hsz⟩ := calc_new w #[.int .i64 a.num, .int .i64 (a.den : Int)] #[.int .i64 b.num, .int .i64 (b.den : Int)] #[.int .i64 0, .int .i64 0] 32
  have hg : g < w.heap.size := hk.lt
  have hkk := CalB.below hk hB
  have hz0 := hz.below hB
  have d0 := k0.look 0 rfl
  have d1 := k0.look 1 rfl
  have d2 := k1.look 0 rfl
  have d3 := k1.look 1 rfl
  have HW := hid hw0
  rw [← hw0] at d0 d1 d2 d3
  have HZ := hid hz0
  have HK := hid hkk
  have K2 := hid k2
  have HB := hid hB
  clear hB hz0 hkk k0 k1 k2 hsz hz hk hw0
  go_enter Tryd.func68, Tryd.ntmps68
  go_wp2_with fail
  rw [HW.out]
  clear HW d0 d1 d2 d3
  refine (OP.out _ HZ.out HK.out).mono ?_
  rintro r w3 ⟨rfl, hk3, ht3⟩
  have hne : w.heap.size + 1 + 1 ≠ g := by omega
  have k23 := CalT.blk ht3 K2.out hne
  have q0 := k23.look 0 rfl
  have q1 := k23.look 1 rfl
  have f2 := k23.frozen
  obtain ⟨n, hn⟩ : ∃ n, V.num = n := ⟨_, rfl⟩
  obtain ⟨d, hd⟩ : ∃ n, (V.den : Int) = n := ⟨_, rfl⟩
  rw [hn, hd]
  have HN := hid hn
  have HD := hid hd
  have k24 := (k23.set 0 (.int .i64 n)).set 1 (.int .i64 d)
  have F1 := hid (Blk.other (Blk.other hk3 (p := ⟨w.heap.size + 1 + 1, 0, none⟩) (Ne.symm hne) (.int .i64 n)) (p := ⟨w.heap.size + 1 + 1, 1, none⟩) (Ne.symm hne) (.int .i64 d))
  have F2 := hid ((((calT_pre g).trans (CalT.of_below HB.out) ht3).setOwn (p := ⟨w.heap.size + 1 + 1, 0, none⟩) (by show w.heap.size ≤ w.heap.size + 1 + 1; omega) (.int .i64 n)).setOwn (p := ⟨w.heap.size + 1 + 1, 1, none⟩) (by show w.heap.size ≤ w.heap.size + 1 + 1; omega) (.int .i64 d))
  have r0 : _ = some (Value.int .i64 n) := k24.look 0 rfl
  have r1 : _ = some (Value.int .i64 d) := k24.look 1 rfl
  have R0 := hid r0
  have R1 := hid r1
  clear hn hd HB HZ HK K2 hk3 ht3 k23 k24 r0 r1
  go_wp2
  refine bodyPost_ret (v := .agg #[.int .i64 n, .int .i64 d]) ?_ rfl ⟨by rw [HN.out, HD.out], F1.out, F2.out⟩
  have r0 := R0.out
  have r1 := R1.out
  simp [results, Tryd.results68, go_sem, r0, r1]

set_option maxHeartbeats 2000000 in
set_option maxRecDepth 100000 in
theorem call_div (a b : Rat) (ha : fits a) (hb : fits b) (g : Nat) (ok : Bool) (h0 : ok = true → b ≠ 0)  (w : World) (hz : Z0 w) (hk : CalB w g ok) :
    Calls Tryd.prog 114 #[.pointer (some ⟨g, 0, none⟩), .func (.func 134) #[] #[], frQ a, frQ b] w fun e w' => e = .returned (frQ (copV ok (a / b))) ∧ CalB w' g (copK ok (a / b)) ∧ CalT g w w' := by
  cases ok with
  | false =>
    obtain ⟨q, hq⟩ : ∃ q, (a / b) = q := ⟨_, rfl⟩
    rw [hq]
    unfold frQ
    clear hq
    obtain ⟨w0, hw0, k0, k1, k2, hB, hsz⟩ := calc_new w #[.int .i64 a.num, .int .i64 (a.den : Int)] #[.int .i64 b.num, .int .i64 (b.den : Int)] #[.int .i64 0, .int .i64 0] 32
    have hg := hk.lt
    have hkk := CalB.below hk hB
    have hz0 := hz.below hB
    go_enter Tryd.func114, Tryd.ntmps114
    rw [(cop_no q).1, (cop_no q).2]
    have c0 := hkk.look 0 rfl
    have zz0 := hz0.2.1
    have zz1 := hz0.2.2
    have f2 := k2.frozen
    have q0 := k2.look 0 rfl
    have q1 := k2.look 1 rfl
    obtain ⟨w9, hw9, -, -, -, hB9, -⟩ := calc_new w #[.int .i64 a.num, .int .i64 (a.den : Int)] #[.int .i64 b.num, .int .i64 (b.den : Int)] #[.int .i64 0, .int .i64 1] 32
    have F1 : Hid (CalT g w w9) := hid (CalT.of_below hB9)
    have F2 : Hid (CalB w9 g false) := hid (CalB.below hk hB9)
    subst hw9
    subst hw0
    clear hkk hz0 k0 k1 k2 hB hB9 hz hk hsz
    go_wp2
    refine bodyPost_ret (v := .agg #[.int .i64 0, .int .i64 1]) ?_ rfl ⟨rfl, F2.out, F1.out⟩
    simp [results, Tryd.results114, go_sem]
  | true =>
    have OP := hid (fun w => divQ_any a b ha hb (h0 rfl) w)
    obtain ⟨q, hq⟩ : ∃ q, (a / b) = q := ⟨_, rfl⟩
    rw [hq] at OP ⊢
    unfold frQ at OP ⊢
    clear hq
    obtain ⟨w0, hw0, k0, k1, k2, hB, hsz⟩ := calc_new w #[.int .i64 a.num, .int .i64 (a.den : Int)] #[.int .i64 b.num, .int .i64 (b.den : Int)] #[.int .i64 0, .int .i64 0] 32
    have hg := hk.lt
    have hkk := CalB.below hk hB
    have hz0 := hz.below hB
    go_enter Tryd.func114, Tryd.ntmps114
    have c0 := hkk.look 0 rfl
    have d0 := k0.look 0 rfl
    have d1 := k0.look 1 rfl
    have d2 := k1.look 0 rfl
    have d3 := k1.look 1 rfl
    have HB := hid hB
    have HZ := hid hz0
    have HK := hid hkk
    have K2 := hid k2
    have hgs : g < w.heap.size := hg
    have HW := hid hw0
    rw [← hw0] at c0 d0 d1 d2 d3
    clear hB hz0 hkk k0 k1 k2 hsz hz hk hw0
    go_wp2_with fail
    rw [HW.out]
    clear HW c0 d0 d1 d2 d3
    refine (OP.out _).mono ?_
    rintro r w3 ⟨rfl, hb3⟩
    have hB3 := HB.out.trans (hb3.mono HB.out.size)
    have hk3 := CalB.below HK.out hb3
    have hz3 := HZ.out.below hb3
    have k23 := K2.out.below hb3
    clear HB HK HZ K2 hb3
    have hz30 := hz3.1
    have zz0 := hz3.2.1
    have zz1 := hz3.2.2
    have hg0 : (0 : Nat) ≠ g := calB_ne (off := 0) hk3 hz3.2.2
    have hg0' : g ≠ 0 := Ne.symm hg0
    have hlt3 := k23.lt
    have hg3 : g < w3.heap.size := hk3.lt
    have q0 := k23.look 0 rfl
    have q1 := k23.look 1 rfl
    have f2 := k23.frozen
    have fg := hk3.frozen
    have c0 := hk3.look 0 rfl
    have hne : w.heap.size + 1 + 1 ≠ g := by omega
    have hne' : g ≠ w.heap.size + 1 + 1 := by omega
    have HB3 := hid hB3
    have HK3 := hid hk3
    have K23 := hid k23
    clear hB3 hk3 k23 hz3
    by_cases hf : fits q
    · rw [frV_fit hf, fitE_fit hf]
      have HC := hid (cop_yes hf)
      unfold frQ
      obtain ⟨n, hn⟩ : ∃ n, q.num = n := ⟨_, rfl⟩
      obtain ⟨d, hd⟩ : ∃ n, (q.den : Int) = n := ⟨_, rfl⟩
      rw [hn, hd]
      have HN := hid hn
      have HD := hid hd
      clear hn hd hf
      have HE := hid (cal_end (ok' := true) (e := .int .i64 0) HB3.out HK3.out hgs (c := w.heap.size + 1 + 1) (by omega) K23.out rfl (.int .i64 n) (.int .i64 d) (.cells #[.int .i64 n, .int .i64 d] 32))
      go_wp2
      refine bodyPost_ret (v := .agg #[.int .i64 n, .int .i64 d]) ?_ rfl ⟨by rw [HC.out.2, HN.out, HD.out], by rw [HC.out.1]; exact HE.out.1, HE.out.2.1⟩
      have r0 := HE.out.2.2.1
      have r1 := HE.out.2.2.2
      simp [results, Tryd.results114, go_sem, r0, r1]
    · rw [fitE_not hf, show fitN q = 0 from if_neg hf, show fitD q = 0 from if_neg hf]
      unfold frV
      have HC := hid (cop_over hf)
      clear hf
      have HE := hid (cal_end (ok' := false) (e := .int .i64 5) HB3.out HK3.out hgs (c := w.heap.size + 1 + 1) (by omega) K23.out rfl (.int .i64 0) (.int .i64 1) (.cells #[.int .i64 0, .int .i64 0] 32))
      go_wp2
      refine bodyPost_ret (v := .agg #[.int .i64 0, .int .i64 1]) ?_ rfl ⟨by rw [HC.out.2]; rfl, by rw [HC.out.1]; exact HE.out.1, HE.out.2.1⟩
      have r0 : _ = some (Value.int .i64 0) := HE.out.2.2.1
      have r1 : _ = some (Value.int .i64 1) := HE.out.2.2.2
      simp [results, Tryd.results114, go_sem, r0, r1]

set_option maxHeartbeats 2000000 in
set_option maxRecDepth 100000 in
theorem calc_div (a b : Rat) (ha : fits a) (hb : fits b) (g : Nat) (ok : Bool) (h0 : ok = true → b ≠ 0)  (w : World) (hz : Z0 w) (hk : CalB w g ok) :
    Calls Tryd.prog 107 #[.pointer (some ⟨g, 0, none⟩), frQ a, frQ b] w fun e w' => e = .returned (frQ (copV ok (a / b))) ∧ CalB w' g (copK ok (a / b)) ∧ CalT g w w' := by
  have OP := hid (fun w hz hk => call_div a b ha hb g ok h0 w hz hk)
  obtain ⟨V, hV⟩ : ∃ q, copV ok (a / b) = q := ⟨_, rfl⟩
  obtain ⟨K, hK⟩ : ∃ q, copK ok (a / b) = q := ⟨_, rfl⟩
  rw [hV, hK] at OP ⊢
  unfold frQ at OP ⊢
  clear hV hK
  obtain ⟨w0, hw0, k0, k1, k2, hB, hsz⟩ := calc_new w #[.int .i64 a.num, .int .i64 (a.den : Int)] #[.int .i64 b.num, .int .i64 (b.den : Int)] #[.int .i64 0, .int .i64 0] 32
  have hg : g < w.heap.size := hk.lt
  have hkk := CalB.below hk hB
  have hz0 := hz.below hB
  have d0 := k0.look 0 rfl
  have d1 := k0.look 1 rfl
  have d2 := k1.look 0 rfl
  have d3 := k1.look 1 rfl
  have HW := hid hw0
  rw [← hw0] at d0 d1 d2 d3
  have HZ := hid hz0
  have HK := hid hkk
  have K2 := hid k2
  have HB := hid hB
  clear hB hz0 hkk k0 k1 k2 hsz hz hk hw0
  go_enter Tryd.func107, Tryd.ntmps107
  go_wp2_with fail
  rw [HW.out]
  clear HW d0 d1 d2 d3
  refine (OP.out _ HZ.out HK.out).mono ?_
  rintro r w3 ⟨rfl, hk3, ht3⟩
  have hne : w.heap.size + 1 + 1 ≠ g := by omega
  have k23 := CalT.blk ht3 K2.out hne
  have q0 := k23.look 0 rfl
  have q1 := k23.look 1 rfl
  have f2 := k23.frozen
  obtain ⟨n, hn⟩ : ∃ n, V.num = n := ⟨_, rfl⟩
  obtain ⟨d, hd⟩ : ∃ n, (V.den : Int) = n := ⟨_, rfl⟩
  rw [hn, hd]
  have HN := hid hn
  have HD := hid hd
  have k24 := (k23.set 0 (.int .i64 n)).set 1 (.int .i64 d)
  have F1 := hid (Blk.other (Blk.other hk3 (p := ⟨w.heap.size + 1 + 1, 0, none⟩) (Ne.symm hne) (.int .i64 n)) (p := ⟨w.heap.size + 1 + 1, 1, none⟩) (Ne.symm hne) (.int .i64 d))
  have F2 := hid ((((calT_pre g).trans (CalT.of_below HB.out) ht3).setOwn (p := ⟨w.heap.size + 1 + 1, 0, none⟩) (by show w.heap.size ≤ w.heap.size + 1 + 1; omega) (.int .i64 n)).setOwn (p := ⟨w.heap.size + 1 + 1, 1, none⟩) (by show w.heap.size ≤ w.heap.size + 1 + 1; omega) (.int .i64 d))
  have r0 : _ = some (Value.int .i64 n) := k24.look 0 rfl
  have r1 : _ = some (Value.int .i64 d) := k24.look 1 rfl
  have R0 := hid r0
  have R1 := hid r1
  clear hn hd HB HZ HK K2 hk3 ht3 k23 k24 r0 r1
  go_wp2
  refine bodyPost_ret (v := .agg #[.int .i64 n, .int .i64 d]) ?_ rfl ⟨by rw [HN.out, HD.out], F1.out, F2.out⟩
  have r0 := R0.out
  have r1 := R1.out
  simp [results, Tryd.results107, go_sem, r0, r1]

end Go.Proofs.YtfkclcoipadhmaaDoor
