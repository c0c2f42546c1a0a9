/- Several of my texts in one: Da, Db, Dc. -/
import Derived.Test.YtfkclcoipadhmaaGreatDoorCx
import Derived.Test.YtfkclcoipadhmaaGreatDoorFh
import Derived.Test.YtfkclcoipadhmaaGreatDoorRy
import Derived.Sort.Grow
/- Curves: fractions as values, the package's variable zero, worlds in which all but one block stands. -/
namespace Go.Proofs.YtfkclcoipadhmaaGreatDoor
open Go.RowKit
attribute [local irreducible] seqS seqST walkV walkJ

/-- A fraction, a point as a value. -/
def frQ (q : Rat) : Value := .agg #[.int .i64 q.num, .int .i64 (q.den : Int)]
def ptQ (p : Pt) : Value := .agg #[.int .i64 p.1.num, .int .i64 (p.1.den : Int), .int .i64 p.2.num, .int .i64 (p.2.den : Int)]
theorem q_parts (q : Rat) : (q.num : Rat) / ((q.den : Int) : Rat) = q := (rat_parts q).symm
theorem fits_FV {q : Rat} (h : fits q) : FV q.num (q.den : Int) := by
  have hd := q.den_pos
  obtain ⟨f1, f2⟩ := h
  refine ⟨by omega, by omega, by omega, by omega, ?_⟩
  have := q.reduced
  rw [Int.natAbs_natCast]
  exact this
theorem FV_fits {n d : Int} (h : FV n d) : fits ((n : Rat) / (d : Rat)) := fits_of h.1 h.2.1 h.2.2.1 h.2.2.2.1
theorem frV_fit {q : Rat} (h : fits q) : frV (fitN q) (fitD q) = frQ q := by
  unfold fitN fitD frQ frV
  rw [if_pos h, if_pos h]
theorem fitE_fit {q : Rat} (h : fits q) : fitE q = 0 := if_pos h
theorem fitE_not {q : Rat} (h : ¬ fits q) : fitE q = 5 := if_neg h

/-- The operations of frac, at fractions within the limits. -/
theorem addQ_any (a b : Rat) (ha : fits a) (hb : fits b) (w : World) : Calls Tryz.prog 82 #[frQ a, frQ b] w fun r w' => r = .returned (.tuple #[frV (fitN (a + b)) (fitD (a + b)), .int .i64 (fitE (a + b))]) ∧ Below w.heap.size w w' := by
  have h := fAdd_any a.num a.den b.num b.den w
  have hv : FV a.num a.den ∧ FV b.num b.den := ⟨fits_FV ha, fits_FV hb⟩
  unfold addN addD addE at h
  rw [if_pos hv, if_pos hv, if_pos hv, q_parts, q_parts] at h
  exact h
theorem subQ_any (a b : Rat) (ha : fits a) (hb : fits b) (w : World) : Calls Tryz.prog 103 #[frQ a, frQ b] w fun r w' => r = .returned (.tuple #[frV (fitN (a - b)) (fitD (a - b)), .int .i64 (fitE (a - b))]) ∧ Below w.heap.size w w' := by
  have h := fSub_any a.num a.den b.num b.den w
  have hv : FV a.num a.den ∧ FV b.num b.den := ⟨fits_FV ha, fits_FV hb⟩
  unfold subN subD subE at h
  rw [if_pos hv, if_pos hv, if_pos hv, q_parts, q_parts] at h
  exact h
theorem mulQ_any (a b : Rat) (ha : fits a) (hb : fits b) (w : World) : Calls Tryz.prog 102 #[frQ a, frQ b] w fun r w' => r = .returned (.tuple #[frV (fitN (a * b)) (fitD (a * b)), .int .i64 (fitE (a * b))]) ∧ Below w.heap.size w w' := by
  have h := fMul_any a.num a.den b.num b.den w
  have hv : FV a.num a.den ∧ FV b.num b.den := ⟨fits_FV ha, fits_FV hb⟩
  unfold mulN mulD mulE at h
  rw [if_pos hv, if_pos hv, if_pos hv, q_parts, q_parts] at h
  exact h
theorem divQ_any (a b : Rat) (ha : fits a) (hb : fits b) (h0 : b ≠ 0) (w : World) : Calls Tryz.prog 101 #[frQ a, frQ b] w fun r w' => r = .returned (.tuple #[frV (fitN (a / b)) (fitD (a / b)), .int .i64 (fitE (a / b))]) ∧ Below w.heap.size w w' := by
  have h := fDiv_any a.num a.den b.num b.den w
  have hv : FV a.num a.den ∧ FV b.num b.den := ⟨fits_FV ha, fits_FV hb⟩
  have hc : b.num ≠ 0 := fun e => h0 (Rat.num_eq_zero.1 e)
  unfold divN divD divE at h
  rw [if_pos hv, if_pos hv, if_pos hv, if_neg hc, if_neg hc, if_neg hc, q_parts, q_parts] at h
  exact h

/-- All but block g stands. -/
def CalT (g : Nat) : World → World → Prop := fun a b => a.grownBy b (some g)
theorem calT_pre (g : Nat) : Pre (CalT g) := ⟨fun _ => ⟨rfl, rfl, rfl, Nat.le_refl _, fun _ _ _ => rfl⟩, fun h k => World.grownBy.trans h k⟩
instance instCalT (g : Nat) (W : World) : Nonempty (SubT (CalT g) W) := ⟨⟨W, (calT_pre g).refl W⟩⟩
theorem CalT.of_below {g : Nat} {W W' : World} (hb : Below W.heap.size W W') : CalT g W W' := ⟨hb.os, hb.tape, hb.output, hb.size, fun k hk _ => hb.block k hk⟩
theorem CalT.blk {g b : Nat} {W W' : World} {cs : Array Value} {t : TypeId} (h : CalT g W W') (k : Blk W b cs t) (hne : b ≠ g) : Blk W' b cs t := (World.grownBy.block h b k.lt (fun e => hne (Option.some.inj e))).trans k
theorem CalT.size {g : Nat} {W W' : World} (h : CalT g W W') : W.heap.size ≤ W'.heap.size := World.grownBy.size h
theorem CalT.set (g : Nat) (W : World) (p : Addr) (hp : p.block = g) (v : Value) : CalT g W (W.setCell p v) :=
  ⟨rfl, rfl, rfl, by simp [World.setCell], fun k _ hne => Below.heap_setCell W p v k (fun e => hne (by rw [e, hp]))⟩
theorem CalT.below {g B : Nat} {W0 W W' : World} (h : Below B W0 W) (k : CalT g W W') (hg : B ≤ g) (hs : B ≤ W.heap.size) : Below B W0 W' := h.grown k hs (fun j hj => by cases hj; exact hg)
/-- calc's variable: so far without an error, or not. -/
def CalB (W : World) (g : Nat) (ok : Bool) : Prop := Blk W g #[.int .i64 (if ok then 0 else 5)] 59
theorem CalB.below {g : Nat} {ok : Bool} {W W' : World} (h : CalB W g ok) (hb : Below W.heap.size W W') : CalB W' g ok := Blk.below h hb
/-- The package's variable zero. -/
def Z0 (W : World) : Prop := 0 < W.heap.size ∧ W.cell? ⟨0, 0, none⟩ = some (.int .i64 0) ∧ W.cell? ⟨0, 1, none⟩ = some (.int .i64 1)
theorem Z0.below {W W' : World} (h : Z0 W) (hb : Below W.heap.size W W') : Z0 W' :=
  ⟨Nat.lt_of_lt_of_le h.1 hb.size, (hb.cell (p := ⟨0, 0, none⟩) h.1).trans h.2.1, (hb.cell (p := ⟨0, 1, none⟩) h.1).trans h.2.2⟩
theorem calB_one {W : World} {g off : Nat} {ok : Bool} {v : Value} (h : CalB W g ok) (hc : W.cell? ⟨g, off + 1, none⟩ = some v) : False := by
  have := Blk.cell h (off + 1)
  rw [hc] at this
  simp at this
theorem calB_ne {W : World} {g b off : Nat} {ok : Bool} {v : Value} (h : CalB W g ok) (hc : W.cell? ⟨b, off + 1, none⟩ = some v) : b ≠ g := by
  rintro rfl
  exact calB_one h hc
theorem CalT.cell {g : Nat} {W W' : World} (h : CalT g W W') {p : Addr} (hp : p.block < W.heap.size) (hne : p.block ≠ g) : W'.cell? p = W.cell? p :=
  World.cell?_of_block (World.grownBy.block h p.block hp (fun e => hne (Option.some.inj e)))
theorem Z0.calT {W W' : World} {g : Nat} {ok : Bool} (h : Z0 W) (k : CalB W g ok) (t : CalT g W W') : Z0 W' := by
  have hne := calB_ne (off := 0) k h.2.2
  exact ⟨Nat.lt_of_lt_of_le h.1 t.size, (t.cell (p := ⟨0, 0, none⟩) h.1 hne).trans h.2.1, (t.cell (p := ⟨0, 1, none⟩) h.1 hne).trans h.2.2⟩
theorem CellsOf.calT {lo : Nat} {W W' : World} {ao : Option Addr} {xs : List Value} {g : Nat} {ok : Bool} (h : CellsOf lo W ao xs) (hu : ∀ x ∈ xs, ∃ z : Int, x = .int .i64 z) (hx : xs.length ≠ 1) (k : CalB W g ok) (t : CalT g W W') : CellsOf lo W' ao xs := by
  intro hne
  obtain ⟨b, off, e, hlo, hb, hc⟩ := h hne
  have h2 : 1 < xs.length := by
    have := List.length_pos_iff.2 hne
    omega
  have hne : b ≠ g := by
    have h1 := hc 1 h2
    obtain ⟨z, hz⟩ := hu (xs.getD 1 undef) (by rw [List.getD_eq_getElem?_getD, List.getElem?_eq_getElem h2]; exact List.getElem_mem _)
    exact calB_ne (off := off) k (v := .int .i64 z) (by rw [h1, hz])
  refine ⟨b, off, e, hlo, Nat.lt_of_lt_of_le hb t.size, fun j hj => ?_⟩
  exact (t.cell (p := ⟨b, off + j, none⟩) hb hne).trans (hc j hj)
theorem frsC_ints (l : List Rat) : ∀ x ∈ frsC l, ∃ z : Int, x = .int .i64 z := by
  intro x hx
  obtain ⟨q, _, h⟩ := List.mem_flatMap.1 hx
  unfold frC at h
  simp at h
  rcases h with h | h
  · exact ⟨_, h⟩
  · exact ⟨_, h⟩
theorem ptsC_ints (l : List Pt) : ∀ x ∈ ptsC l, ∃ z : Int, x = .int .i64 z := by
  intro x hx
  obtain ⟨q, _, h⟩ := List.mem_flatMap.1 hx
  unfold ptC at h
  simp at h
  rcases h with h | h | h | h
  · exact ⟨_, h⟩
  · exact ⟨_, h⟩
  · exact ⟨_, h⟩
  · exact ⟨_, h⟩
theorem QsR.calT {lo : Nat} {W W' : World} {v : Value} {l : List Rat} {g : Nat} {ok : Bool} (h : QsR lo W v l) (k : CalB W g ok) (t : CalT g W W') : QsR lo W' v l := by
  obtain ⟨ao, cap, e, h1, h2, h3⟩ := h
  exact ⟨ao, cap, e, h1, h2, h3.calT (frsC_ints l) (by rw [frsC_len]; omega) k t⟩
theorem PsR.calT {lo : Nat} {W W' : World} {v : Value} {l : List Pt} {g : Nat} {ok : Bool} (h : PsR lo W v l) (k : CalB W g ok) (t : CalT g W W') : PsR lo W' v l := by
  obtain ⟨ao, cap, e, h1, h2, h3⟩ := h
  exact ⟨ao, cap, e, h1, h2, h3.calT (ptsC_ints l) (by rw [ptsC_len]; omega) k t⟩

end Go.Proofs.YtfkclcoipadhmaaGreatDoor

/- Walks of curve.calc: call, add, sub, mul, div. -/
namespace Go.Proofs.YtfkclcoipadhmaaGreatDoor
open Go.RowKit
attribute [local irreducible] seqS seqST walkV walkJ

theorem CalT.setOwn {g : Nat} {w W : World} (h : CalT g w W) {p : Addr} (hp : w.heap.size ≤ p.block) (v : Value) : CalT g w (W.setCell p v) :=
  ⟨(show W.os = w.os from World.grownBy.os h), (show W.tape = w.tape from World.grownBy.tape h), (show W.output = w.output from World.grownBy.output h), by simpa [World.setCell] using World.grownBy.size h, fun k hk hne => (Below.heap_setCell W p v k (by omega)).trans (World.grownBy.block h k hk hne)⟩
theorem CalT.alloc {g : Nat} {w W : World} (h : CalT g w W) (o : Obj) : CalT g w (W.alloc o) := (calT_pre g).trans h (CalT.of_below (alloc_below W o))
/-- The world behind a call: the errno laid, the result laid. -/
theorem cal_end {w w3 : World} {g c : Nat} {ok ok' : Bool} (hB3 : Below w.heap.size w w3) (hk3 : CalB w3 g ok) (hg : g < w.heap.size) (hc : w.heap.size ≤ c) {p q : Value} {t : TypeId} (k2 : Blk w3 c #[p, q] t) {e : Value} (he : e = .int .i64 (if ok' then 0 else 5)) (x y : Value) (A : Obj) :
    CalB ((((w3.setCell ⟨g, 0, none⟩ e).setCell ⟨c, 0, none⟩ x).setCell ⟨c, 1, none⟩ y).alloc A) g ok' ∧ CalT g w ((((w3.setCell ⟨g, 0, none⟩ e).setCell ⟨c, 0, none⟩ x).setCell ⟨c, 1, none⟩ y).alloc A) ∧
    ((((w3.setCell ⟨g, 0, none⟩ e).setCell ⟨c, 0, none⟩ x).setCell ⟨c, 1, none⟩ y).alloc A).cell? ⟨c, 0, none⟩ = some x ∧ ((((w3.setCell ⟨g, 0, none⟩ e).setCell ⟨c, 0, none⟩ x).setCell ⟨c, 1, none⟩ y).alloc A).cell? ⟨c, 1, none⟩ = some y := by
  subst he
  have hgc : g ≠ c := by omega
  have k1 : CalB (w3.setCell ⟨g, 0, none⟩ (.int .i64 (if ok' then 0 else 5))) g ok' := Blk.set hk3 0 _
  have k3 := (Blk.other k2 (p := ⟨g, 0, none⟩) (Ne.symm hgc) (.int .i64 (if ok' then 0 else 5)))
  have k4 := (k3.set 0 x).set 1 y
  refine ⟨Blk.alloc (Blk.other (Blk.other k1 (p := ⟨c, 0, none⟩) hgc _) (p := ⟨c, 1, none⟩) hgc _) A, ?_, (k4.alloc A).look 0 rfl, (k4.alloc A).look 1 rfl⟩
  have t1 := (calT_pre g).trans (CalT.of_below hB3) (CalT.set g w3 ⟨g, 0, none⟩ rfl (.int .i64 (if ok' then 0 else 5)))
  exact ((t1.setOwn (p := ⟨c, 0, none⟩) hc x).setOwn (p := ⟨c, 1, none⟩) hc y).alloc A
/-- The world of a call's own three variables. -/
theorem calc_new (w : World) (x y z : Array Value) (t : TypeId) : ∃ w0, ((w.alloc (.cells x t)).alloc (.cells y t)).alloc (.cells z t) = w0 ∧ Blk w0 w.heap.size x t ∧ Blk w0 (w.heap.size + 1) y t ∧ Blk w0 (w.heap.size + 1 + 1) z t ∧ Below w.heap.size w w0 ∧ w0.heap.size = w.heap.size + 1 + 1 + 1 := by
  obtain ⟨w0, h0, h1, h2, h3, h4, h5⟩ := three_new w x y z t t t
  exact ⟨w0, h0, h1, h2, h3, h4, h5⟩
/-- Still without an error behind an operation; and what it hands back. -/
def copK (ok : Bool) (q : Rat) : Bool := ok && decide (fits q)
def copV (ok : Bool) (q : Rat) : Rat := if copK ok q then q else 0
theorem frQ_zero : frQ 0 = .agg #[.int .i64 0, .int .i64 1] := rfl
theorem fits_nought : fits 0 := ⟨by decide, by decide⟩
theorem copV_fits (ok : Bool) (q : Rat) : fits (copV ok q) := by
  unfold copV copK
  cases ok with
  | false => exact fits_nought
  | true =>
    by_cases h : fits q
    · rw [decide_eq_true h]; exact h
    · rw [decide_eq_false h]; exact fits_nought
theorem cop_no (q : Rat) : copK false q = false ∧ copV false q = 0 := ⟨rfl, rfl⟩
theorem cop_yes {q : Rat} (h : fits q) : copK true q = true ∧ copV true q = q := by
  unfold copV copK
  rw [decide_eq_true h]
  exact ⟨rfl, rfl⟩
theorem cop_over {q : Rat} (h : ¬ fits q) : copK true q = false ∧ copV true q = 0 := by
  unfold copV copK
  rw [decide_eq_false h]
  exact ⟨rfl, rfl⟩
theorem cal_set {w w' : World} {S g : Nat} {ok : Bool} (hB : Below S w w') (hS : w.heap.size = S) (hk : CalB w' g ok) {c : Nat} (hc : S ≤ c) (hgc : g ≠ c) (x y : Value) :
    CalT g w ((w'.setCell ⟨c, 0, none⟩ x).setCell ⟨c, 1, none⟩ y) ∧ CalB ((w'.setCell ⟨c, 0, none⟩ x).setCell ⟨c, 1, none⟩ y) g ok := by
  have h1 := (hB.setCell (p := ⟨c, 0, none⟩) hc x).setCell (p := ⟨c, 1, none⟩) hc y
  rw [← hS] at h1
  exact ⟨CalT.of_below h1, Blk.other (Blk.other hk (p := ⟨c, 0, none⟩) hgc _) (p := ⟨c, 1, none⟩) hgc _⟩

set_option maxHeartbeats 2000000 in
set_option maxRecDepth 100000 in
theorem call_add (a b : Rat) (ha : fits a) (hb : fits b) (g : Nat) (ok : Bool)  (w : World) (hz : Z0 w) (hk : CalB w g ok) :
    Calls Tryz.prog 81 #[.pointer (some ⟨g, 0, none⟩), .func (.func 82) #[] #[], frQ a, frQ b] w fun e w' => e = .returned (frQ (copV ok (a + b))) ∧ CalB w' g (copK ok (a + b)) ∧ CalT g w w' := by
  cases ok with
  | false =>
    obtain ⟨q, hq⟩ : ∃ q, (a + b) = q := ⟨_, rfl⟩
    rw [hq]
    unfold frQ
    clear hq
    obtain ⟨w0, hw0, k0, k1, k2, hB, hsz⟩ := calc_new w #[.int .i64 a.num, .int .i64 (a.den : Int)] #[.int .i64 b.num, .int .i64 (b.den : Int)] #[.int .i64 0, .int .i64 0] 31
    have hg := hk.lt
    have hkk := CalB.below hk hB
    have hz0 := hz.below hB
    go_enter Tryz.func81, Tryz.ntmps81
    rw [(cop_no q).1, (cop_no q).2]
    have c0 := hkk.look 0 rfl
    have zz0 := hz0.2.1
    have zz1 := hz0.2.2
    have f2 := k2.frozen
    have q0 := k2.look 0 rfl
    have q1 := k2.look 1 rfl
    obtain ⟨w9, hw9, -, -, -, hB9, -⟩ := calc_new w #[.int .i64 a.num, .int .i64 (a.den : Int)] #[.int .i64 b.num, .int .i64 (b.den : Int)] #[.int .i64 0, .int .i64 1] 31
    have F1 : Hid (CalT g w w9) := hid (CalT.of_below hB9)
    have F2 : Hid (CalB w9 g false) := hid (CalB.below hk hB9)
    subst hw9
    subst hw0
    clear hkk hz0 k0 k1 k2 hB hB9 hz hk hsz
    go_wp2
    refine bodyPost_ret (v := .agg #[.int .i64 0, .int .i64 1]) ?_ rfl ⟨rfl, F2.out, F1.out⟩
    simp [results, Tryz.results81, go_sem]
  | true =>
    have OP := hid (fun w => addQ_any a b ha hb w)
    obtain ⟨q, hq⟩ : ∃ q, (a + b) = q := ⟨_, rfl⟩
    rw [hq] at OP ⊢
    unfold frQ at OP ⊢
    clear hq
    obtain ⟨w0, hw0, k0, k1, k2, hB, hsz⟩ := calc_new w #[.int .i64 a.num, .int .i64 (a.den : Int)] #[.int .i64 b.num, .int .i64 (b.den : Int)] #[.int .i64 0, .int .i64 0] 31
    have hg := hk.lt
    have hkk := CalB.below hk hB
    have hz0 := hz.below hB
    go_enter Tryz.func81, Tryz.ntmps81
    have c0 := hkk.look 0 rfl
    have d0 := k0.look 0 rfl
    have d1 := k0.look 1 rfl
    have d2 := k1.look 0 rfl
    have d3 := k1.look 1 rfl
    have HB := hid hB
    have HZ := hid hz0
    have HK := hid hkk
    have K2 := hid k2
    have hgs : g < w.heap.size := hg
    have HW := hid hw0
    rw [← hw0] at c0 d0 d1 d2 d3
    clear hB hz0 hkk k0 k1 k2 hsz hz hk hw0
    go_wp2_with fail
    rw [HW.out]
    clear HW c0 d0 d1 d2 d3
    refine (OP.out _).mono ?_
    rintro r w3 ⟨rfl, hb3⟩
    have hB3 := HB.out.trans (hb3.mono HB.out.size)
    have hk3 := CalB.below HK.out hb3
    have hz3 := HZ.out.below hb3
    have k23 := K2.out.below hb3
    clear HB HK HZ K2 hb3
    have hz30 := hz3.1
    have zz0 := hz3.2.1
    have zz1 := hz3.2.2
    have hg0 : (0 : Nat) ≠ g := calB_ne (off := 0) hk3 hz3.2.2
    have hg0' : g ≠ 0 := Ne.symm hg0
    have hlt3 := k23.lt
    have hg3 : g < w3.heap.size := hk3.lt
    have q0 := k23.look 0 rfl
    have q1 := k23.look 1 rfl
    have f2 := k23.frozen
    have fg := hk3.frozen
    have c0 := hk3.look 0 rfl
    have hne : w.heap.size + 1 + 1 ≠ g := by omega
    have hne' : g ≠ w.heap.size + 1 + 1 := by omega
    have HB3 := hid hB3
    have HK3 := hid hk3
    have K23 := hid k23
    clear hB3 hk3 k23 hz3
    by_cases hf : fits q
    · rw [frV_fit hf, fitE_fit hf]
      have HC := hid (cop_yes hf)
      unfold frQ
      obtain ⟨n, hn⟩ : ∃ n, q.num = n := ⟨_, rfl⟩
      obtain ⟨d, hd⟩ : ∃ n, (q.den : Int) = n := ⟨_, rfl⟩
      rw [hn, hd]
      have HN := hid hn
      have HD := hid hd
      clear hn hd hf
      have HE := hid (cal_end (ok' := true) (e := .int .i64 0) HB3.out HK3.out hgs (c := w.heap.size + 1 + 1) (by omega) K23.out rfl (.int .i64 n) (.int .i64 d) (.cells #[.int .i64 n, .int .i64 d] 31))
      go_wp2
      refine bodyPost_ret (v := .agg #[.int .i64 n, .int .i64 d]) ?_ rfl ⟨by rw [HC.out.2, HN.out, HD.out], by rw [HC.out.1]; exact HE.out.1, HE.out.2.1⟩
      have r0 := HE.out.2.2.1
      have r1 := HE.out.2.2.2
      simp [results, Tryz.results81, go_sem, r0, r1]
    · rw [fitE_not hf, show fitN q = 0 from if_neg hf, show fitD q = 0 from if_neg hf]
      unfold frV
      have HC := hid (cop_over hf)
      clear hf
      have HE := hid (cal_end (ok' := false) (e := .int .i64 5) HB3.out HK3.out hgs (c := w.heap.size + 1 + 1) (by omega) K23.out rfl (.int .i64 0) (.int .i64 1) (.cells #[.int .i64 0, .int .i64 0] 31))
      go_wp2
      refine bodyPost_ret (v := .agg #[.int .i64 0, .int .i64 1]) ?_ rfl ⟨by rw [HC.out.2]; rfl, by rw [HC.out.1]; exact HE.out.1, HE.out.2.1⟩
      have r0 : _ = some (Value.int .i64 0) := HE.out.2.2.1
      have r1 : _ = some (Value.int .i64 1) := HE.out.2.2.2
      simp [results, Tryz.results81, go_sem, r0, r1]

set_option maxHeartbeats 2000000 in
set_option maxRecDepth 100000 in
theorem calc_add (a b : Rat) (ha : fits a) (hb : fits b) (g : Nat) (ok : Bool)  (w : World) (hz : Z0 w) (hk : CalB w g ok) :
    Calls Tryz.prog 40 #[.pointer (some ⟨g, 0, none⟩), frQ a, frQ b] w fun e w' => e = .returned (frQ (copV ok (a + b))) ∧ CalB w' g (copK ok (a + b)) ∧ CalT g w w' := by
  have OP := hid (fun w hz hk => call_add a b ha hb g ok w hz hk)
  obtain ⟨V, hV⟩ : ∃ q, copV ok (a + b) = q := ⟨_, rfl⟩
  obtain ⟨K, hK⟩ : ∃ q, copK ok (a + b) = q := ⟨_, rfl⟩
  rw [hV, hK] at OP ⊢
  unfold frQ at OP ⊢
  clear hV hK
  obtain ⟨w0, hw0, k0, k1, k2, hB, hsz⟩ := calc_new w #[.int .i64 a.num, .int .i64 (a.den : Int)] #[.int .i64 b.num, .int .i64 (b.den : Int)] #[.int .i64 0, .int .i64 0] 31
  have hg : g < w.heap.size := hk.lt
  have hkk := CalB.below hk hB
  have hz0 := hz.below hB
  have d0 := k0.look 0 rfl
  have d1 := k0.look 1 rfl
  have d2 := k1.look 0 rfl
  have d3 := k1.look 1 rfl
  have HW := hid hw0
  rw [← hw0] at d0 d1 d2 d3
  have HZ := hid hz0
  have HK := hid hkk
  have K2 := hid k2
  have HB := hid hB
  clear hB hz0 hkk k0 k1 k2 hsz hz hk hw0
  go_enter Tryz.func40, Tryz.ntmps40
  go_wp2_with fail
  rw [HW.out]
  clear HW d0 d1 d2 d3
  refine (OP.out _ HZ.out HK.out).mono ?_
  rintro r w3 ⟨rfl, hk3, ht3⟩
  have hne : w.heap.size + 1 + 1 ≠ g := by omega
  have k23 := CalT.blk ht3 K2.out hne
  have q0 := k23.look 0 rfl
  have q1 := k23.look 1 rfl
  have f2 := k23.frozen
  obtain ⟨n, hn⟩ : ∃ n, V.num = n := ⟨_, rfl⟩
  obtain ⟨d, hd⟩ : ∃ n, (V.den : Int) = n := ⟨_, rfl⟩
  rw [hn, hd]
  have HN := hid hn
  have HD := hid hd
  have k24 := (k23.set 0 (.int .i64 n)).set 1 (.int .i64 d)
  have F1 := hid (Blk.other (Blk.other hk3 (p := ⟨w.heap.size + 1 + 1, 0, none⟩) (Ne.symm hne) (.int .i64 n)) (p := ⟨w.heap.size + 1 + 1, 1, none⟩) (Ne.symm hne) (.int .i64 d))
  have F2 := hid ((((calT_pre g).trans (CalT.of_below HB.out) ht3).setOwn (p := ⟨w.heap.size + 1 + 1, 0, none⟩) (by show w.heap.size ≤ w.heap.size + 1 + 1; omega) (.int .i64 n)).setOwn (p := ⟨w.heap.size + 1 + 1, 1, none⟩) (by show w.heap.size ≤ w.heap.size + 1 + 1; omega) (.int .i64 d))
  have r0 : _ = some (Value.int .i64 n) := k24.look 0 rfl
  have r1 : _ = some (Value.int .i64 d) := k24.look 1 rfl
  have R0 := hid r0
  have R1 := hid r1
  clear hn hd HB HZ HK K2 hk3 ht3 k23 k24 r0 r1
  go_wp2
  refine bodyPost_ret (v := .agg #[.int .i64 n, .int .i64 d]) ?_ rfl ⟨by rw [HN.out, HD.out], F1.out, F2.out⟩
  have r0 := R0.out
  have r1 := R1.out
  simp [results, Tryz.results40, go_sem, r0, r1]

set_option maxHeartbeats 2000000 in
set_option maxRecDepth 100000 in
theorem call_sub (a b : Rat) (ha : fits a) (hb : fits b) (g : Nat) (ok : Bool)  (w : World) (hz : Z0 w) (hk : CalB w g ok) :
    Calls Tryz.prog 81 #[.pointer (some ⟨g, 0, none⟩), .func (.func 103) #[] #[], frQ a, frQ b] w fun e w' => e = .returned (frQ (copV ok (a - b))) ∧ CalB w' g (copK ok (a - b)) ∧ CalT g w w' := by
  cases ok with
  | false =>
    obtain ⟨q, hq⟩ : ∃ q, (a - b) = q := ⟨_, rfl⟩
    rw [hq]
    unfold frQ
    clear hq
    obtain ⟨w0, hw0, k0, k1, k2, hB, hsz⟩ := calc_new w #[.int .i64 a.num, .int .i64 (a.den : Int)] #[.int .i64 b.num, .int .i64 (b.den : Int)] #[.int .i64 0, .int .i64 0] 31
    have hg := hk.lt
    have hkk := CalB.below hk hB
    have hz0 := hz.below hB
    go_enter Tryz.func81, Tryz.ntmps81
    rw [(cop_no q).1, (cop_no q).2]
    have c0 := hkk.look 0 rfl
    have zz0 := hz0.2.1
    have zz1 := hz0.2.2
    have f2 := k2.frozen
    have q0 := k2.look 0 rfl
    have q1 := k2.look 1 rfl
    obtain ⟨w9, hw9, -, -, -, hB9, -⟩ := calc_new w #[.int .i64 a.num, .int .i64 (a.den : Int)] #[.int .i64 b.num, .int .i64 (b.den : Int)] #[.int .i64 0, .int .i64 1] 31
    have F1 : Hid (CalT g w w9) := hid (CalT.of_below hB9)
    have F2 : Hid (CalB w9 g false) := hid (CalB.below hk hB9)
    subst hw9
    subst hw0
    clear hkk hz0 k0 k1 k2 hB hB9 hz hk hsz
    go_wp2
    refine bodyPost_ret (v := .agg #[.int .i64 0, .int .i64 1]) ?_ rfl ⟨rfl, F2.out, F1.out⟩
    simp [results, Tryz.results81, go_sem]
  | true =>
    have OP := hid (fun w => subQ_any a b ha hb w)
    obtain ⟨q, hq⟩ : ∃ q, (a - b) = q := ⟨_, rfl⟩
    rw [hq] at OP ⊢
    unfold frQ at OP ⊢
    clear hq
    obtain ⟨w0, hw0, k0, k1, k2, hB, hsz⟩ := calc_new w #[.int .i64 a.num, .int .i64 (a.den : Int)] #[.int .i64 b.num, .int .i64 (b.den : Int)] #[.int .i64 0, .int .i64 0] 31
    have hg := hk.lt
    have hkk := CalB.below hk hB
    have hz0 := hz.below hB
    go_enter Tryz.func81, Tryz.ntmps81
    have c0 := hkk.look 0 rfl
    have d0 := k0.look 0 rfl
    have d1 := k0.look 1 rfl
    have d2 := k1.look 0 rfl
    have d3 := k1.look 1 rfl
    have HB := hid hB
    have HZ := hid hz0
    have HK := hid hkk
    have K2 := hid k2
    have hgs : g < w.heap.size := hg
    have HW := hid hw0
    rw [← hw0] at c0 d0 d1 d2 d3
    clear hB hz0 hkk k0 k1 k2 hsz hz hk hw0
    go_wp2_with fail
    rw [HW.out]
    clear HW c0 d0 d1 d2 d3
    refine (OP.out _).mono ?_
    rintro r w3 ⟨rfl, hb3⟩
    have hB3 := HB.out.trans (hb3.mono HB.out.size)
    have hk3 := CalB.below HK.out hb3
    have hz3 := HZ.out.below hb3
    have k23 := K2.out.below hb3
    clear HB HK HZ K2 hb3
    have hz30 := hz3.1
    have zz0 := hz3.2.1
    have zz1 := hz3.2.2
    have hg0 : (0 : Nat) ≠ g := calB_ne (off := 0) hk3 hz3.2.2
    have hg0' : g ≠ 0 := Ne.symm hg0
    have hlt3 := k23.lt
    have hg3 : g < w3.heap.size := hk3.lt
    have q0 := k23.look 0 rfl
    have q1 := k23.look 1 rfl
    have f2 := k23.frozen
    have fg := hk3.frozen
    have c0 := hk3.look 0 rfl
    have hne : w.heap.size + 1 + 1 ≠ g := by omega
    have hne' : g ≠ w.heap.size + 1 + 1 := by omega
    have HB3 := hid hB3
    have HK3 := hid hk3
    have K23 := hid k23
    clear hB3 hk3 k23 hz3
    by_cases hf : fits q
    · rw [frV_fit hf, fitE_fit hf]
      have HC := hid (cop_yes hf)
      unfold frQ
      obtain ⟨n, hn⟩ : ∃ n, q.num = n := ⟨_, rfl⟩
      obtain ⟨d, hd⟩ : ∃ n, (q.den : Int) = n := ⟨_, rfl⟩
      rw [hn, hd]
      have HN := hid hn
      have HD := hid hd
      clear hn hd hf
      have HE := hid (cal_end (ok' := true) (e := .int .i64 0) HB3.out HK3.out hgs (c := w.heap.size + 1 + 1) (by omega) K23.out rfl (.int .i64 n) (.int .i64 d) (.cells #[.int .i64 n, .int .i64 d] 31))
      go_wp2
      refine bodyPost_ret (v := .agg #[.int .i64 n, .int .i64 d]) ?_ rfl ⟨by rw [HC.out.2, HN.out, HD.out], by rw [HC.out.1]; exact HE.out.1, HE.out.2.1⟩
      have r0 := HE.out.2.2.1
      have r1 := HE.out.2.2.2
      simp [results, Tryz.results81, go_sem, r0, r1]
    · rw [fitE_not hf, show fitN q = 0 from if_neg hf, show fitD q = 0 from if_neg hf]
      unfold frV
      have HC := hid (cop_over hf)
      clear hf
      have HE := hid (cal_end (ok' := false) (e := .int .i64 5) HB3.out HK3.out hgs (c := w.heap.size + 1 + 1) (by omega) K23.out rfl (.int .i64 0) (.int .i64 1) (.cells #[.int .i64 0, .int .i64 0] 31))
      go_wp2
      refine bodyPost_ret (v := .agg #[.int .i64 0, .int .i64 1]) ?_ rfl ⟨by rw [HC.out.2]; rfl, by rw [HC.out.1]; exact HE.out.1, HE.out.2.1⟩
      have r0 : _ = some (Value.int .i64 0) := HE.out.2.2.1
      have r1 : _ = some (Value.int .i64 1) := HE.out.2.2.2
      simp [results, Tryz.results81, go_sem, r0, r1]

set_option maxHeartbeats 2000000 in
set_option maxRecDepth 100000 in
theorem calc_sub (a b : Rat) (ha : fits a) (hb : fits b) (g : Nat) (ok : Bool)  (w : World) (hz : Z0 w) (hk : CalB w g ok) :
    Calls Tryz.prog 68 #[.pointer (some ⟨g, 0, none⟩), frQ a, frQ b] w fun e w' => e = .returned (frQ (copV ok (a - b))) ∧ CalB w' g (copK ok (a - b)) ∧ CalT g w w' := by
  have OP := hid (fun w hz hk => call_sub a b ha hb g ok w hz hk)
  obtain ⟨V, hV⟩ : ∃ q, copV ok (a - b) = q := ⟨_, rfl⟩
  obtain ⟨K, hK⟩ : ∃ q, copK ok (a - b) = q := ⟨_, rfl⟩
  rw [hV, hK] at OP ⊢
  unfold frQ at OP ⊢
  clear hV hK
  obtain ⟨w0, hw0, k0, k1, k2, hB, hsz⟩ := calc_new w #[.int .i64 a.num, .int .i64 (a.den : Int)] #[.int .i64 b.num, .int .i64 (b.den : Int)] #[.int .i64 0, .int .i64 0] 31
  have hg : g < w.heap.size := hk.lt
  have hkk := CalB.below hk hB
  have hz0 := hz.below hB
  have d0 := k0.look 0 rfl
  have d1 := k0.look 1 rfl
  have d2 := k1.look 0 rfl
  have d3 := k1.look 1 rfl
  have HW := hid hw0
  rw [← hw0] at d0 d1 d2 d3
  have HZ := hid hz0
  have HK := hid hkk
  have K2 := hid k2
  have HB := hid hB
  clear hB hz0 hkk k0 k1 k2 hsz hz hk hw0
  go_enter Tryz.func68, Tryz.ntmps68
  go_wp2_with fail
  rw [HW.out]
  clear HW d0 d1 d2 d3
  refine (OP.out _ HZ.out HK.out).mono ?_
  rintro r w3 ⟨rfl, hk3, ht3⟩
  have hne : w.heap.size + 1 + 1 ≠ g := by omega
  have k23 := CalT.blk ht3 K2.out hne
  have q0 := k23.look 0 rfl
  have q1 := k23.look 1 rfl
  have f2 := k23.frozen
  obtain ⟨n, hn⟩ : ∃ n, V.num = n := ⟨_, rfl⟩
  obtain ⟨d, hd⟩ : ∃ n, (V.den : Int) = n := ⟨_, rfl⟩
  rw [hn, hd]
  have HN := hid hn
  have HD := hid hd
  have k24 := (k23.set 0 (.int .i64 n)).set 1 (.int .i64 d)
  have F1 := hid (Blk.other (Blk.other hk3 (p := ⟨w.heap.size + 1 + 1, 0, none⟩) (Ne.symm hne) (.int .i64 n)) (p := ⟨w.heap.size + 1 + 1, 1, none⟩) (Ne.symm hne) (.int .i64 d))
  have F2 := hid ((((calT_pre g).trans (CalT.of_below HB.out) ht3).setOwn (p := ⟨w.heap.size + 1 + 1, 0, none⟩) (by show w.heap.size ≤ w.heap.size + 1 + 1; omega) (.int .i64 n)).setOwn (p := ⟨w.heap.size + 1 + 1, 1, none⟩) (by show w.heap.size ≤ w.heap.size + 1 + 1; omega) (.int .i64 d))
  have r0 : _ = some (Value.int .i64 n) := k24.look 0 rfl
  have r1 : _ = some (Value.int .i64 d) := k24.look 1 rfl
  have R0 := hid r0
  have R1 := hid r1
  clear hn hd HB HZ HK K2 hk3 ht3 k23 k24 r0 r1
  go_wp2
  refine bodyPost_ret (v := .agg #[.int .i64 n, .int .i64 d]) ?_ rfl ⟨by rw [HN.out, HD.out], F1.out, F2.out⟩
  have r0 := R0.out
  have r1 := R1.out
  simp [results, Tryz.results68, go_sem, r0, r1]

set_option maxHeartbeats 2000000 in
set_option maxRecDepth 100000 in
theorem call_mul (a b : Rat) (ha : fits a) (hb : fits b) (g : Nat) (ok : Bool)  (w : World) (hz : Z0 w) (hk : CalB w g ok) :
    Calls Tryz.prog 81 #[.pointer (some ⟨g, 0, none⟩), .func (.func 102) #[] #[], frQ a, frQ b] w fun e w' => e = .returned (frQ (copV ok (a * b))) ∧ CalB w' g (copK ok (a * b)) ∧ CalT g w w' := by
  cases ok with
  | false =>
    obtain ⟨q, hq⟩ : ∃ q, (a * b) = q := ⟨_, rfl⟩
    rw [hq]
    unfold frQ
    clear hq
    obtain ⟨w0, hw0, k0, k1, k2, hB, hsz⟩ := calc_new w #[.int .i64 a.num, .int .i64 (a.den : Int)] #[.int .i64 b.num, .int .i64 (b.den : Int)] #[.int .i64 0, .int .i64 0] 31
    have hg := hk.lt
    have hkk := CalB.below hk hB
    have hz0 := hz.below hB
    go_enter Tryz.func81, Tryz.ntmps81
    rw [(cop_no q).1, (cop_no q).2]
    have c0 := hkk.look 0 rfl
    have zz0 := hz0.2.1
    have zz1 := hz0.2.2
    have f2 := k2.frozen
    have q0 := k2.look 0 rfl
    have q1 := k2.look 1 rfl
    obtain ⟨w9, hw9, -, -, -, hB9, -⟩ := calc_new w #[.int .i64 a.num, .int .i64 (a.den : Int)] #[.int .i64 b.num, .int .i64 (b.den : Int)] #[.int .i64 0, .int .i64 1] 31
    have F1 : Hid (CalT g w w9) := hid (CalT.of_below hB9)
    have F2 : Hid (CalB w9 g false) := hid (CalB.below hk hB9)
    subst hw9
    subst hw0
    clear hkk hz0 k0 k1 k2 hB hB9 hz hk hsz
    go_wp2
    refine bodyPost_ret (v := .agg #[.int .i64 0, .int .i64 1]) ?_ rfl ⟨rfl, F2.out, F1.out⟩
    simp [results, Tryz.results81, go_sem]
  | true =>
    have OP := hid (fun w => mulQ_any a b ha hb w)
    obtain ⟨q, hq⟩ : ∃ q, (a * b) = q := ⟨_, rfl⟩
    rw [hq] at OP ⊢
    unfold frQ at OP ⊢
    clear hq
    obtain ⟨w0, hw0, k0, k1, k2, hB, hsz⟩ := calc_new w #[.int .i64 a.num, .int .i64 (a.den : Int)] #[.int .i64 b.num, .int .i64 (b.den : Int)] #[.int .i64 0, .int .i64 0] 31
    have hg := hk.lt
    have hkk := CalB.below hk hB
    have hz0 := hz.below hB
    go_enter Tryz.func81, Tryz.ntmps81
    have c0 := hkk.look 0 rfl
    have d0 := k0.look 0 rfl
    have d1 := k0.look 1 rfl
    have d2 := k1.look 0 rfl
    have d3 := k1.look 1 rfl
    have HB := hid hB
    have HZ := hid hz0
    have HK := hid hkk
    have K2 := hid k2
    have hgs : g < w.heap.size := hg
    have HW := hid hw0
    rw [← hw0] at c0 d0 d1 d2 d3
    clear hB hz0 hkk k0 k1 k2 hsz hz hk hw0
    go_wp2_with fail
    rw [HW.out]
    clear HW c0 d0 d1 d2 d3
    refine (OP.out _).mono ?_
    rintro r w3 ⟨rfl, hb3⟩
    have hB3 := HB.out.trans (hb3.mono HB.out.size)
    have hk3 := CalB.below HK.out hb3
    have hz3 := HZ.out.below hb3
    have k23 := K2.out.below hb3
    clear HB HK HZ K2 hb3
    have hz30 := hz3.1
    have zz0 := hz3.2.1
    have zz1 := hz3.2.2
    have hg0 : (0 : Nat) ≠ g := calB_ne (off := 0) hk3 hz3.2.2
    have hg0' : g ≠ 0 := Ne.symm hg0
    have hlt3 := k23.lt
    have hg3 : g < w3.heap.size := hk3.lt
    have q0 := k23.look 0 rfl
    have q1 := k23.look 1 rfl
    have f2 := k23.frozen
    have fg := hk3.frozen
    have c0 := hk3.look 0 rfl
    have hne : w.heap.size + 1 + 1 ≠ g := by omega
    have hne' : g ≠ w.heap.size + 1 + 1 := by omega
    have HB3 := hid hB3
    have HK3 := hid hk3
    have K23 := hid k23
    clear hB3 hk3 k23 hz3
    by_cases hf : fits q
    · rw [frV_fit hf, fitE_fit hf]
      have HC := hid (cop_yes hf)
      unfold frQ
      obtain ⟨n, hn⟩ : ∃ n, q.num = n := ⟨_, rfl⟩
      obtain ⟨d, hd⟩ : ∃ n, (q.den : Int) = n := ⟨_, rfl⟩
      rw [hn, hd]
      have HN := hid hn
      have HD := hid hd
      clear hn hd hf
      have HE := hid (cal_end (ok' := true) (e := .int .i64 0) HB3.out HK3.out hgs (c := w.heap.size + 1 + 1) (by omega) K23.out rfl (.int .i64 n) (.int .i64 d) (.cells #[.int .i64 n, .int .i64 d] 31))
      go_wp2
      refine bodyPost_ret (v := .agg #[.int .i64 n, .int .i64 d]) ?_ rfl ⟨by rw [HC.out.2, HN.out, HD.out], by rw [HC.out.1]; exact HE.out.1, HE.out.2.1⟩
      have r0 := HE.out.2.2.1
      have r1 := HE.out.2.2.2
      simp [results, Tryz.results81, go_sem, r0, r1]
    · rw [fitE_not hf, show fitN q = 0 from if_neg hf, show fitD q = 0 from if_neg hf]
      unfold frV
      have HC := hid (cop_over hf)
      clear hf
      have HE := hid (cal_end (ok' := false) (e := .int .i64 5) HB3.out HK3.out hgs (c := w.heap.size + 1 + 1) (by omega) K23.out rfl (.int .i64 0) (.int .i64 1) (.cells #[.int .i64 0, .int .i64 0] 31))
      go_wp2
      refine bodyPost_ret (v := .agg #[.int .i64 0, .int .i64 1]) ?_ rfl ⟨by rw [HC.out.2]; rfl, by rw [HC.out.1]; exact HE.out.1, HE.out.2.1⟩
      have r0 : _ = some (Value.int .i64 0) := HE.out.2.2.1
      have r1 : _ = some (Value.int .i64 1) := HE.out.2.2.2
      simp [results, Tryz.results81, go_sem, r0, r1]

set_option maxHeartbeats 2000000 in
set_option maxRecDepth 100000 in
theorem calc_mul (a b : Rat) (ha : fits a) (hb : fits b) (g : Nat) (ok : Bool)  (w : World) (hz : Z0 w) (hk : CalB w g ok) :
    Calls Tryz.prog 67 #[.pointer (some ⟨g, 0, none⟩), frQ a, frQ b] w fun e w' => e = .returned (frQ (copV ok (a * b))) ∧ CalB w' g (copK ok (a * b)) ∧ CalT g w w' := by
  have OP := hid (fun w hz hk => call_mul a b ha hb g ok w hz hk)
  obtain ⟨V, hV⟩ : ∃ q, copV ok (a * b) = q := ⟨_, rfl⟩
  obtain ⟨K, hK⟩ : ∃ q, copK ok (a * b) = q := ⟨_, rfl⟩
  rw [hV, hK] at OP ⊢
  unfold frQ at OP ⊢
  clear hV hK
  obtain ⟨w0, hw0, k0, k1, k2, hB, hsz⟩ := calc_new w #[.int .i64 a.num, .int .i64 (a.den : Int)] #[.int .i64 b.num, .int .i64 (b.den : Int)] #[.int .i64 0, .int .i64 0] 31
  have hg : g < w.heap.size := hk.lt
  have hkk := CalB.below hk hB
  have hz0 := hz.below hB
  have d0 := k0.look 0 rfl
  have d1 := k0.look 1 rfl
  have d2 := k1.look 0 rfl
  have d3 := k1.look 1 rfl
  have HW := hid hw0
  rw [← hw0] at d0 d1 d2 d3
  have HZ := hid hz0
  have HK := hid hkk
  have K2 := hid k2
  have HB := hid hB
  clear hB hz0 hkk k0 k1 k2 hsz hz hk hw0
  go_enter Tryz.func67, Tryz.ntmps67
  go_wp2_with fail
  rw [HW.out]
  clear HW d0 d1 d2 d3
  refine (OP.out _ HZ.out HK.out).mono ?_
  rintro r w3 ⟨rfl, hk3, ht3⟩
  have hne : w.heap.size + 1 + 1 ≠ g := by omega
  have k23 := CalT.blk ht3 K2.out hne
  have q0 := k23.look 0 rfl
  have q1 := k23.look 1 rfl
  have f2 := k23.frozen
  obtain ⟨n, hn⟩ : ∃ n, V.num = n := ⟨_, rfl⟩
  obtain ⟨d, hd⟩ : ∃ n, (V.den : Int) = n := ⟨_, rfl⟩
  rw [hn, hd]
  have HN := hid hn
  have HD := hid hd
  have k24 := (k23.set 0 (.int .i64 n)).set 1 (.int .i64 d)
  have F1 := hid (Blk.other (Blk.other hk3 (p := ⟨w.heap.size + 1 + 1, 0, none⟩) (Ne.symm hne) (.int .i64 n)) (p := ⟨w.heap.size + 1 + 1, 1, none⟩) (Ne.symm hne) (.int .i64 d))
  have F2 := hid ((((calT_pre g).trans (CalT.of_below HB.out) ht3).setOwn (p := ⟨w.heap.size + 1 + 1, 0, none⟩) (by show w.heap.size ≤ w.heap.size + 1 + 1; omega) (.int .i64 n)).setOwn (p := ⟨w.heap.size + 1 + 1, 1, none⟩) (by show w.heap.size ≤ w.heap.size + 1 + 1; omega) (.int .i64 d))
  have r0 : _ = some (Value.int .i64 n) := k24.look 0 rfl
  have r1 : _ = some (Value.int .i64 d) := k24.look 1 rfl
  have R0 := hid r0
  have R1 := hid r1
  clear hn hd HB HZ HK K2 hk3 ht3 k23 k24 r0 r1
  go_wp2
  refine bodyPost_ret (v := .agg #[.int .i64 n, .int .i64 d]) ?_ rfl ⟨by rw [HN.out, HD.out], F1.out, F2.out⟩
  have r0 := R0.out
  have r1 := R1.out
  simp [results, Tryz.results67, go_sem, r0, r1]

set_option maxHeartbeats 2000000 in
set_option maxRecDepth 100000 in
theorem call_div (a b : Rat) (ha : fits a) (hb : fits b) (g : Nat) (ok : Bool) (h0 : ok = true → b ≠ 0)  (w : World) (hz : Z0 w) (hk : CalB w g ok) :
    Calls Tryz.prog 81 #[.pointer (some ⟨g, 0, none⟩), .func (.func 101) #[] #[], frQ a, frQ b] w fun e w' => e = .returned (frQ (copV ok (a / b))) ∧ CalB w' g (copK ok (a / b)) ∧ CalT g w w' := by
  cases ok with
  | false =>
    obtain ⟨q, hq⟩ : ∃ q, (a / b) = q := ⟨_, rfl⟩
    rw [hq]
    unfold frQ
    clear hq
    obtain ⟨w0, hw0, k0, k1, k2, hB, hsz⟩ := calc_new w #[.int .i64 a.num, .int .i64 (a.den : Int)] #[.int .i64 b.num, .int .i64 (b.den : Int)] #[.int .i64 0, .int .i64 0] 31
    have hg := hk.lt
    have hkk := CalB.below hk hB
    have hz0 := hz.below hB
    go_enter Tryz.func81, Tryz.ntmps81
    rw [(cop_no q).1, (cop_no q).2]
    have c0 := hkk.look 0 rfl
    have zz0 := hz0.2.1
    have zz1 := hz0.2.2
    have f2 := k2.frozen
    have q0 := k2.look 0 rfl
    have q1 := k2.look 1 rfl
    obtain ⟨w9, hw9, -, -, -, hB9, -⟩ := calc_new w #[.int .i64 a.num, .int .i64 (a.den : Int)] #[.int .i64 b.num, .int .i64 (b.den : Int)] #[.int .i64 0, .int .i64 1] 31
    have F1 : Hid (CalT g w w9) := hid (CalT.of_below hB9)
    have F2 : Hid (CalB w9 g false) := hid (CalB.below hk hB9)
    subst hw9
    subst hw0
    clear hkk hz0 k0 k1 k2 hB hB9 hz hk hsz
    go_wp2
    refine bodyPost_ret (v := .agg #[.int .i64 0, .int .i64 1]) ?_ rfl ⟨rfl, F2.out, F1.out⟩
    simp [results, Tryz.results81, go_sem]
  | true =>
    have OP := hid (fun w => divQ_any a b ha hb (h0 rfl) w)
    obtain ⟨q, hq⟩ : ∃ q, (a / b) = q := ⟨_, rfl⟩
    rw [hq] at OP ⊢
    unfold frQ at OP ⊢
    clear hq
    obtain ⟨w0, hw0, k0, k1, k2, hB, hsz⟩ := calc_new w #[.int .i64 a.num, .int .i64 (a.den : Int)] #[.int .i64 b.num, .int .i64 (b.den : Int)] #[.int .i64 0, .int .i64 0] 31
    have hg := hk.lt
    have hkk := CalB.below hk hB
    have hz0 := hz.below hB
    go_enter Tryz.func81, Tryz.ntmps81
    have c0 := hkk.look 0 rfl
    have d0 := k0.look 0 rfl
    have d1 := k0.look 1 rfl
    have d2 := k1.look 0 rfl
    have d3 := k1.look 1 rfl
    have HB := hid hB
    have HZ := hid hz0
    have HK := hid hkk
    have K2 := hid k2
    have hgs : g < w.heap.size := hg
    have HW := hid hw0
    rw [← hw0] at c0 d0 d1 d2 d3
    clear hB hz0 hkk k0 k1 k2 hsz hz hk hw0
    go_wp2_with fail
    rw [HW.out]
    clear HW c0 d0 d1 d2 d3
    refine (OP.out _).mono ?_
    rintro r w3 ⟨rfl, hb3⟩
    have hB3 := HB.out.trans (hb3.mono HB.out.size)
    have hk3 := CalB.below HK.out hb3
    have hz3 := HZ.out.below hb3
    have k23 := K2.out.below hb3
    clear HB HK HZ K2 hb3
    have hz30 := hz3.1
    have zz0 := hz3.2.1
    have zz1 := hz3.2.2
    have hg0 : (0 : Nat) ≠ g := calB_ne (off := 0) hk3 hz3.2.2
    have hg0' : g ≠ 0 := Ne.symm hg0
    have hlt3 := k23.lt
    have hg3 : g < w3.heap.size := hk3.lt
    have q0 := k23.look 0 rfl
    have q1 := k23.look 1 rfl
    have f2 := k23.frozen
    have fg := hk3.frozen
    have c0 := hk3.look 0 rfl
    have hne : w.heap.size + 1 + 1 ≠ g := by omega
    have hne' : g ≠ w.heap.size + 1 + 1 := by omega
    have HB3 := hid hB3
    have HK3 := hid hk3
    have K23 := hid k23
    clear hB3 hk3 k23 hz3
    by_cases hf : fits q
    · rw [frV_fit hf, fitE_fit hf]
      have HC := hid (cop_yes hf)
      unfold frQ
      obtain ⟨n, hn⟩ : ∃ n, q.num = n := ⟨_, rfl⟩
      obtain ⟨d, hd⟩ : ∃ n, (q.den : Int) = n := ⟨_, rfl⟩
      rw [hn, hd]
      have HN := hid hn
      have HD := hid hd
      clear hn hd hf
      have HE := hid (cal_end (ok' := true) (e := .int .i64 0) HB3.out HK3.out hgs (c := w.heap.size + 1 + 1) (by omega) K23.out rfl (.int .i64 n) (.int .i64 d) (.cells #[.int .i64 n, .int .i64 d] 31))
      go_wp2
      refine bodyPost_ret (v := .agg #[.int .i64 n, .int .i64 d]) ?_ rfl ⟨by rw [HC.out.2, HN.out, HD.out], by rw [HC.out.1]; exact HE.out.1, HE.out.2.1⟩
      have r0 := HE.out.2.2.1
      have r1 := HE.out.2.2.2
      simp [results, Tryz.results81, go_sem, r0, r1]
    · rw [fitE_not hf, show fitN q = 0 from if_neg hf, show fitD q = 0 from if_neg hf]
      unfold frV
      have HC := hid (cop_over hf)
      clear hf
      have HE := hid (cal_end (ok' := false) (e := .int .i64 5) HB3.out HK3.out hgs (c := w.heap.size + 1 + 1) (by omega) K23.out rfl (.int .i64 0) (.int .i64 1) (.cells #[.int .i64 0, .int .i64 0] 31))
      go_wp2
      refine bodyPost_ret (v := .agg #[.int .i64 0, .int .i64 1]) ?_ rfl ⟨by rw [HC.out.2]; rfl, by rw [HC.out.1]; exact HE.out.1, HE.out.2.1⟩
      have r0 : _ = some (Value.int .i64 0) := HE.out.2.2.1
      have r1 : _ = some (Value.int .i64 1) := HE.out.2.2.2
      simp [results, Tryz.results81, go_sem, r0, r1]

set_option maxHeartbeats 2000000 in
set_option maxRecDepth 100000 in
theorem calc_div (a b : Rat) (ha : fits a) (hb : fits b) (g : Nat) (ok : Bool) (h0 : ok = true → b ≠ 0)  (w : World) (hz : Z0 w) (hk : CalB w g ok) :
    Calls Tryz.prog 66 #[.pointer (some ⟨g, 0, none⟩), frQ a, frQ b] w fun e w' => e = .returned (frQ (copV ok (a / b))) ∧ CalB w' g (copK ok (a / b)) ∧ CalT g w w' := by
  have OP := hid (fun w hz hk => call_div a b ha hb g ok h0 w hz hk)
  obtain ⟨V, hV⟩ : ∃ q, copV ok (a / b) = q := ⟨_, rfl⟩
  obtain ⟨K, hK⟩ : ∃ q, copK ok (a / b) = q := ⟨_, rfl⟩
  rw [hV, hK] at OP ⊢
  unfold frQ at OP ⊢
  clear hV hK
  obtain ⟨w0, hw0, k0, k1, k2, hB, hsz⟩ := calc_new w #[.int .i64 a.num, .int .i64 (a.den : Int)] #[.int .i64 b.num, .int .i64 (b.den : Int)] #[.int .i64 0, .int .i64 0] 31
  have hg : g < w.heap.size := hk.lt
  have hkk := CalB.below hk hB
  have hz0 := hz.below hB
  have d0 := k0.look 0 rfl
  have d1 := k0.look 1 rfl
  have d2 := k1.look 0 rfl
  have d3 := k1.look 1 rfl
  have HW := hid hw0
  rw [← hw0] at d0 d1 d2 d3
  have HZ := hid hz0
  have HK := hid hkk
  have K2 := hid k2
  have HB := hid hB
  clear hB hz0 hkk k0 k1 k2 hsz hz hk hw0
  go_enter Tryz.func66, Tryz.ntmps66
  go_wp2_with fail
  rw [HW.out]
  clear HW d0 d1 d2 d3
  refine (OP.out _ HZ.out HK.out).mono ?_
  rintro r w3 ⟨rfl, hk3, ht3⟩
  have hne : w.heap.size + 1 + 1 ≠ g := by omega
  have k23 := CalT.blk ht3 K2.out hne
  have q0 := k23.look 0 rfl
  have q1 := k23.look 1 rfl
  have f2 := k23.frozen
  obtain ⟨n, hn⟩ : ∃ n, V.num = n := ⟨_, rfl⟩
  obtain ⟨d, hd⟩ : ∃ n, (V.den : Int) = n := ⟨_, rfl⟩
  rw [hn, hd]
  have HN := hid hn
  have HD := hid hd
  have k24 := (k23.set 0 (.int .i64 n)).set 1 (.int .i64 d)
  have F1 := hid (Blk.other (Blk.other hk3 (p := ⟨w.heap.size + 1 + 1, 0, none⟩) (Ne.symm hne) (.int .i64 n)) (p := ⟨w.heap.size + 1 + 1, 1, none⟩) (Ne.symm hne) (.int .i64 d))
  have F2 := hid ((((calT_pre g).trans (CalT.of_below HB.out) ht3).setOwn (p := ⟨w.heap.size + 1 + 1, 0, none⟩) (by show w.heap.size ≤ w.heap.size + 1 + 1; omega) (.int .i64 n)).setOwn (p := ⟨w.heap.size + 1 + 1, 1, none⟩) (by show w.heap.size ≤ w.heap.size + 1 + 1; omega) (.int .i64 d))
  have r0 : _ = some (Value.int .i64 n) := k24.look 0 rfl
  have r1 : _ = some (Value.int .i64 d) := k24.look 1 rfl
  have R0 := hid r0
  have R1 := hid r1
  clear hn hd HB HZ HK K2 hk3 ht3 k23 k24 r0 r1
  go_wp2
  refine bodyPost_ret (v := .agg #[.int .i64 n, .int .i64 d]) ?_ rfl ⟨by rw [HN.out, HD.out], F1.out, F2.out⟩
  have r0 := R0.out
  have r1 := R1.out
  simp [results, Tryz.results66, go_sem, r0, r1]

end Go.Proofs.YtfkclcoipadhmaaGreatDoor

/- Walks of frac.Valid, valid, Cmp, curve.order: the world grows, no more. -/
namespace Go.Proofs.YtfkclcoipadhmaaGreatDoor
open Go.RowKit Go.Sort
attribute [local irreducible] seqS seqST walkV walkJ

/-- The world has grown: draws, new blocks. -/
def Grow (w w' : World) : Prop := ∃ q os, w' = grow (w.drewN q) os
theorem Grow.refl (w : World) : Grow w w := ⟨0, #[], by simp [grow, World.drewN]⟩
theorem Grow.trans {a b c : World} (h : Grow a b) (k : Grow b c) : Grow a c := by
  obtain ⟨q, os, rfl⟩ := h
  obtain ⟨q', os', rfl⟩ := k
  refine ⟨q + q', os ++ os', ?_⟩
  show grow (grow ((a.drewN q).drewN q') os) os' = _
  rw [grow_grow, World.drewN_drewN]
theorem Grow.alloc (w : World) (o : Obj) : Grow w (w.alloc o) := ⟨0, #[o], by rw [alloc_eq_grow]; rfl⟩
theorem Grow.drewN {w w' : World} (h : Grow w w') (n : Nat) : Grow w (w'.drewN n) := h.trans ⟨n, #[], by simp⟩
theorem Grow.drew (w : World) : Grow w w.drew := ⟨1, #[], by simp; rfl⟩
theorem Grow.below {w w' : World} (h : Grow w w') : Below w.heap.size w w' := by
  obtain ⟨q, os, rfl⟩ := h
  exact ⟨rfl, rfl, rfl, by show _ ≤ (w.heap ++ os).size; simp, fun k hk => by show (w.heap ++ os)[k]? = _; rw [Array.getElem?_append_left hk]⟩
theorem grow_pre : Pre Grow := ⟨Grow.refl, Grow.trans⟩
instance instGrow (W : World) : Nonempty (SubT Grow W) := ⟨⟨W, Grow.refl W⟩⟩

set_option maxHeartbeats 1000000 in
theorem fValid_g (n d : Int) (w : World) :
    Calls Tryz.prog 61 #[.agg #[.int .i64 n, .int .i64 d]] w fun e w' => e = .returned (.bool (decide (FV n d))) ∧ Grow w w' := by
  have hB : ∀ o (k : Nat), Grow w ((w.alloc o).drewN k) := fun o k => (Grow.alloc w o).drewN k
  have HB := hid hB
  clear hB
  by_cases hb : 1 ≤ d ∧ d ≤ 1000000000 ∧ -1000000000 ≤ n ∧ n ≤ 1000000000
  · obtain ⟨h1, h2, h3, h4⟩ := hb
    have hdec : decide (FV n d) = (((Nat.gcd n.natAbs d.natAbs : Nat) : Int) == 1) := by
      by_cases hg : Nat.gcd n.natAbs d.natAbs = 1
      · have hFV : FV n d := ⟨h1, h2, h3, h4, hg⟩
        rw [decide_eq_true hFV, hg]; rfl
      · rw [decide_eq_false (fun h : FV n d => hg h.2.2.2.2)]; symm; rw [beq_eq_false_iff_ne]; omega
    rw [hdec]
    have hd : d = ((d.natAbs : Nat) : Int) := by omega
    have HG : Hid (∀ w, Calls Tryz.prog 98 #[.int .u64 ((n.natAbs : Nat) : Int), .int .u64 d] w fun e w' => e = .returned (.int .u64 (Nat.gcd n.natAbs d.natAbs)) ∧ ∃ n, w' = w.drewN n) := by
      intro w; have := gcd_any n.natAbs d.natAbs w (by omega) (by omega); rw [← hd] at this; exact this
    clear hdec hd
    go_enter Tryz.func61, Tryz.ntmps61
    go_wp2
    go_quiet (first | (go_at_call 99; exact Calls.quiet_of_same ((size_any _ _ (by omega) (by omega)).mono fun e w' h => ⟨h.1, h.2.symm⟩)) | (go_at_call 98; exact Calls.quiet_of (HG.out _)))
    go_wp2
    go_ret
    exact ⟨rfl, HB.out _ _⟩
  · have hdec : decide (FV n d) = false := decide_eq_false (fun h => hb ⟨h.1, h.2.1, h.2.2.1, h.2.2.2.1⟩)
    rw [hdec]
    clear hdec
    have hc : d < 1 ∨ (1 ≤ d ∧ 1000000000 < d) ∨ (1 ≤ d ∧ d ≤ 1000000000 ∧ n < -1000000000) ∨ (1 ≤ d ∧ d ≤ 1000000000 ∧ -1000000000 ≤ n ∧ 1000000000 < n) := by omega
    clear hb
    rcases hc with h1 | ⟨h1, h2⟩ | ⟨h1, h2, h3⟩ | ⟨h1, h2, h3, h4⟩
    · have e1 : decide (1 ≤ d) = false := decide_eq_false (by omega)
      go_enter Tryz.func61, Tryz.ntmps61
      go_wp2
      go_quiet (fail)
      go_wp2
      go_ret
      exact ⟨rfl, HB.out _ _⟩
    · have e1 : decide (d ≤ 1000000000) = false := decide_eq_false (by omega)
      go_enter Tryz.func61, Tryz.ntmps61
      go_wp2
      go_quiet (fail)
      go_wp2
      go_ret
      exact ⟨rfl, HB.out _ _⟩
    · have e1 : decide (-1000000000 ≤ n) = false := decide_eq_false (by omega)
      go_enter Tryz.func61, Tryz.ntmps61
      go_wp2
      go_quiet (fail)
      go_wp2
      go_ret
      exact ⟨rfl, HB.out _ _⟩
    · have e1 : decide (n ≤ 1000000000) = false := decide_eq_false (by omega)
      go_enter Tryz.func61, Tryz.ntmps61
      go_wp2
      go_quiet (fail)
      go_wp2
      go_ret
      exact ⟨rfl, HB.out _ _⟩

set_option maxHeartbeats 1000000 in
theorem fvalid_g (l : List (Int × Int)) (v : Value) (w : World) (h : FrsR 0 w v l) :
    Calls Tryz.prog 110 #[v] w fun e w' => e = .returned (.bool (decide (∀ f ∈ l, FV f.1 f.2))) ∧ Grow w w' := by
  obtain ⟨ao, cap, rfl, hcap, hmax, hc⟩ := h
  unfold maxLen at hmax
  obtain ⟨res, hres⟩ : ∃ b, decide (∀ f ∈ l, FV f.1 f.2) = b := ⟨_, rfl⟩
  rw [hres]
  have HR := hid hres
  clear hres
  go_enter Tryz.func110, Tryz.ntmps110
  go_wp2
  go_loopw [7] (fun x wr => ∃ i : Nat, x = .int .i64 i ∧ i ≤ l.length ∧ (∀ f ∈ l.take i, FV f.1 f.2) ∧ Grow w wr) (fun x _ => l.length - (intOf x).toNat)
  case atStart => exact ⟨0, rfl, Nat.zero_le _, by simp, Grow.refl _⟩
  case round =>
    obtain ⟨i, rfl, hi, hall, hbel⟩ := hrel
    have HA := hid hall
    clear hall
    by_cases h1 : i < l.length
    · obtain ⟨b, off, rfl, hb, c0, c1⟩ := fr_cell hc h1
      have d0 := (hbel.below.cell (p := ⟨b, off + i * 2, none⟩) hb).trans c0
      have d1 := (hbel.below.cell (p := ⟨b, off + i * 2 + 1, none⟩) hb).trans c1
      obtain ⟨n, hn⟩ : ∃ n, (l.getD i (0, 0)).1 = n := ⟨_, rfl⟩
      obtain ⟨d, hd⟩ : ∃ n, (l.getD i (0, 0)).2 = n := ⟨_, rfl⟩
      rw [hn] at d0
      rw [hd] at d1
      have HN := hid hn
      have HD := hid hd
      clear hn hd c0 c1
      go_wp2_with fail
      refine (fValid_g n d _).mono ?_
      rintro e w1 ⟨rfl, hb1⟩
      by_cases hv : FV n d
      · rw [decide_eq_true hv]
        have HV := hid hv
        clear hv
        go_wp2
        refine ⟨⟨i + 1, by go_num, by omega, all_take h1 HA.out (by rw [HN.out, HD.out]; exact HV.out), (hbel.trans (Grow.alloc _ _)).trans hb1⟩, by simp [intOf]; omega⟩
      · rw [decide_eq_false hv]
        have HV := hid hv
        clear hv
        go_wp2
        go_ret
        refine ⟨ret_bool ?_, (hbel.trans (Grow.alloc _ _)).trans hb1⟩
        rw [← HR.out]; symm
        rw [decide_eq_false_iff_not]
        intro hh
        have := hh _ (getD_mem' h1)
        rw [HN.out, HD.out] at this
        exact HV.out this
    · obtain rfl : i = l.length := by omega
      go_wp2
      go_ret
      refine ⟨ret_bool ?_, hbel⟩
      rw [← HR.out]; symm
      rw [decide_eq_true_eq]
      have := HA.out
      rwa [List.take_length] at this

theorem cross_lt (a b : Rat) : a < b ↔ a.num * (b.den : Int) < b.num * (a.den : Int) := Rat.lt_iff a b
/-- What a comparison hands back. -/
def cmpQ (a b : Rat) : Int := if a < b then -1 else if b < a then 1 else 0
theorem cmp_cases (a b : Rat) : (a < b ∧ cmpQ a b = -1 ∧ a.num * (b.den : Int) < b.num * (a.den : Int)) ∨ (b < a ∧ cmpQ a b = 1 ∧ b.num * (a.den : Int) < a.num * (b.den : Int)) ∨ (a = b ∧ cmpQ a b = 0 ∧ a.num * (b.den : Int) = b.num * (a.den : Int)) := by
  by_cases h1 : a < b
  · exact .inl ⟨h1, if_pos h1, (cross_lt a b).1 h1⟩
  · by_cases h2 : b < a
    · exact .inr (.inl ⟨h2, by unfold cmpQ; rw [if_neg h1, if_pos h2], (cross_lt b a).1 h2⟩)
    · have he : a = b := Rat.le_antisymm (Rat.not_lt.1 h2) (Rat.not_lt.1 h1)
      exact .inr (.inr ⟨he, by unfold cmpQ; rw [if_neg h1, if_neg h2], by rw [he]⟩)

set_option maxHeartbeats 2000000 in
set_option maxRecDepth 100000 in
theorem Cmp_g (p q : Rat) (hp : fits p) (hq : fits q) (w : World) :
    Calls Tryz.prog 95 #[frQ p, frQ q] w fun r w' => r = .returned (.tuple #[.int .i64 (cmpQ p q), .int .i64 0]) ∧ Grow w w' := by
  have hfv : FV p.num (p.den : Int) ∧ FV q.num (q.den : Int) := ⟨fits_FV hp, fits_FV hq⟩
  have hcc := cmp_cases p q
  unfold frQ
  obtain ⟨cz, hcz⟩ : ∃ z, cmpQ p q = z := ⟨_, rfl⟩
  rw [hcz] at hcc ⊢
  obtain ⟨a, ha⟩ : ∃ z, p.num = z := ⟨_, rfl⟩
  obtain ⟨b, hb⟩ : ∃ z, (p.den : Int) = z := ⟨_, rfl⟩
  obtain ⟨c, hc⟩ : ∃ z, q.num = z := ⟨_, rfl⟩
  obtain ⟨e, he⟩ : ∃ z, (q.den : Int) = z := ⟨_, rfl⟩
  rw [ha, hb, hc, he] at hfv hcc
  rw [ha, hb, hc, he]
  clear ha hb hc he hcz hp hq
  have HCC := hid hcc
  clear hcc
  go_enter Tryz.func95, Tryz.ntmps95
  go_wp2_with fail
  have k0 := (Blk.new w #[.int .i64 a, .int .i64 b] 31).alloc (.cells #[.int .i64 c, .int .i64 e] 31)
  have k1 := (Blk.new (w.alloc (.cells #[.int .i64 a, .int .i64 b] 31)) #[.int .i64 c, .int .i64 e] 31)
  have b0 := (Grow.alloc w (.cells #[.int .i64 a, .int .i64 b] 31)).trans (Grow.alloc _ (.cells #[.int .i64 c, .int .i64 e] 31))
  simp only [World.size_alloc] at k1
  have k0' := k0.alloc (.cells #[.int .i64 a, .int .i64 b, .int .i64 c, .int .i64 e] 31)
  have k1' := k1.alloc (.cells #[.int .i64 a, .int .i64 b, .int .i64 c, .int .i64 e] 31)
  have b0' := b0.trans (Grow.alloc _ (.cells #[.int .i64 a, .int .i64 b, .int .i64 c, .int .i64 e] 31))
  have k3 := Blk.new ((w.alloc (.cells #[.int .i64 a, .int .i64 b] 31)).alloc (.cells #[.int .i64 c, .int .i64 e] 31)) #[.int .i64 a, .int .i64 b, .int .i64 c, .int .i64 e] 31
  simp only [World.size_alloc] at k3
  clear k0 k1 b0
  obtain ⟨w0, hw0⟩ : ∃ w0, ((w.alloc (.cells #[.int .i64 a, .int .i64 b] 31)).alloc (.cells #[.int .i64 c, .int .i64 e] 31)).alloc (.cells #[.int .i64 a, .int .i64 b, .int .i64 c, .int .i64 e] 31) = w0 := ⟨_, rfl⟩
  rw [hw0] at k0' k1' k3 b0' ⊢
  clear hw0
  refine (fvalid_g _ _ _ (two_frs k3)).mono ?_
  rintro r w1 ⟨rfl, hb1⟩
  have hdec : decide (∀ f ∈ [(a, b), (c, e)], FV f.1 f.2) = true := by
    rw [decide_eq_true_eq]
    intro f hf
    simp at hf
    rcases hf with rfl | rfl
    · exact hfv.1
    · exact hfv.2
  rw [hdec]
  have b1 := b0'.trans hb1
  have k0 := k0'.below hb1.below
  have k1 := k1'.below hb1.below
  clear k0' k1' k3 b0' hb1 hdec
  have p1 := fv_prod hfv.1 hfv.2
  have p2 := fv_prod hfv.2 hfv.1
  have P1 : IntKind.i64.wrap (a * e) = a * e := by rw [IntWalk.i64_left]; unfold wrap64; omega
  have P2 : IntKind.i64.wrap (c * b) = c * b := by rw [IntWalk.i64_left]; unfold wrap64; omega
  clear hfv p1 p2
  go_wp2_with fail
  have hd := Grow.drew w1
  have z0 := fun x : SubT Grow w1.drew => (k0.below (hd.trans x.b).below).look 0 rfl
  have z1 := fun x : SubT Grow w1.drew => (k0.below (hd.trans x.b).below).look 1 rfl
  have z2 := fun x : SubT Grow w1.drew => (k1.below (hd.trans x.b).below).look 0 rfl
  have z3 := fun x : SubT Grow w1.drew => (k1.below (hd.trans x.b).below).look 1 rfl
  refine wp_walkJ (T := Grow) (grow_pre) (.rd 0 (.rd 1 (.rd 2 (.rd 3 (.rd 4 (.rd 5 (.rd 6 (.rd 7 (.rd 8 (.rd 9 (.rd 10 (.rd 11 (.inv []))))))))))))) (by kernel_rfl) rfl (by kernel_rfl) (by kernel_rfl) ?_
  iterate 12 (refine walkJ_rd rfl (fun K hK => ?_); go_simp; refine hK _ ?_; clear hK K)
  refine walkJ_nil ?_
  have b2 : Grow w w1.drew := b1.trans hd
  clear z0 z1 z2 z3
  rcases HCC.out with ⟨-, rfl, h1⟩ | ⟨-, rfl, h1⟩ | ⟨-, rfl, h1⟩
  · have h2 : ¬ c * b < a * e := by omega
    go_wp2
    go_ret2
    exact ⟨rfl, b2⟩
  · have h2 : ¬ a * e < c * b := by omega
    go_wp2
    go_ret2
    exact ⟨rfl, b2⟩
  · have h2 : ¬ c * b < a * e := by omega
    have h3 : ¬ a * e < c * b := by omega
    go_wp2
    go_ret2
    exact ⟨rfl, b2⟩

set_option maxHeartbeats 1000000 in
theorem order_g (p q : Rat) (hp : fits p) (hq : fits q) (w : World) :
    Calls Tryz.prog 57 #[frQ p, frQ q] w fun r w' => r = .returned (.int .i64 (cmpQ p q)) ∧ Grow w w' := by
  have CM := hid (fun w => Cmp_g p q hp hq w)
  obtain ⟨cz, hcz⟩ : ∃ z, cmpQ p q = z := ⟨_, rfl⟩
  rw [hcz] at CM ⊢
  unfold frQ at CM ⊢
  clear hcz
  go_enter Tryz.func57, Tryz.ntmps57
  have b0 := (Grow.alloc w (.cells #[.int .i64 p.num, .int .i64 (p.den : Int)] 31)).trans (Grow.alloc _ (.cells #[.int .i64 q.num, .int .i64 (q.den : Int)] 31))
  go_wp2_with fail
  refine (CM.out _).mono ?_
  rintro r w1 ⟨rfl, hb1⟩
  go_wp2
  go_ret
  exact ⟨rfl, b0.trans hb1⟩
theorem order_any (p q : Rat) (hp : fits p) (hq : fits q) (w : World) :
    Calls Tryz.prog 57 #[frQ p, frQ q] w fun r w' => r = .returned (.int .i64 (cmpQ p q)) ∧ Below w.heap.size w w' :=
  (order_g p q hp hq w).mono fun _ _ h => ⟨h.1, h.2.below⟩

end Go.Proofs.YtfkclcoipadhmaaGreatDoor
