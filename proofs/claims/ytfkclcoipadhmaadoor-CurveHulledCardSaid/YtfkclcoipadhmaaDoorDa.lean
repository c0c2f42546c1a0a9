/- Curves: fractions as values, the package's variable zero, worlds in which all but one block stands. -/
import Derived.Test.YtfkclcoipadhmaaDoorCb
import Derived.Test.YtfkclcoipadhmaaDoorFh
import Derived.Test.YtfkclcoipadhmaaDoorRy
namespace Go.Proofs.YtfkclcoipadhmaaDoor
open Go.RowKit
attribute [local irreducible] seqS seqST walkV walkJ

/-- A fraction, a point as a value. -/
def frQ (q : Rat) : Value := .agg #[.int .i64 q.num, .int .i64 (q.den : Int)]
def ptQ (p : Pt) : Value := .agg #[.int .i64 p.1.num, .int .i64 (p.1.den : Int), .int .i64 p.2.num, .int .i64 (p.2.den : Int)]
theorem q_parts (q : Rat) : (q.num : Rat) / ((q.den : Int) : Rat) = q := (rat_parts q).symm
theorem fits_FV {q : Rat} (h : fits q) : FV q.num (q.den : Int) := by
  have hd := q.den_pos
  obtain ⟨f1, f2⟩ := h
  refine ⟨by omega, by omega, by omega, by omega, ?_⟩
  have := q.reduced
  rw [Int.natAbs_natCast]
  exact this
theorem FV_fits {n d : Int} (h : FV n d) : fits ((n : Rat) / (d : Rat)) := fits_of h.1 h.2.1 h.2.2.1 h.2.2.2.1
theorem frV_fit {q : Rat} (h : fits q) : frV (fitN q) (fitD q) = frQ q := by
  unfold fitN fitD frQ frV
  rw [if_pos h, if_pos h]
theorem fitE_fit {q : Rat} (h : fits q) : fitE q = 0 := if_pos h
theorem fitE_not {q : Rat} (h : ¬ fits q) : fitE q = 5 := if_neg h

/-- The operations of frac, at fractions within the limits. -/
theorem addQ_any (a b : Rat) (ha : fits a) (hb : fits b) (w : World) : Calls Tryd.prog 58 #[frQ a, frQ b] w fun r w' => r = .returned (.tuple #[frV (fitN (a + b)) (fitD (a + b)), .int .i64 (fitE (a + b))]) ∧ Below w.heap.size w w' := by
  have h := fAdd_any a.num a.den b.num b.den w
  have hv : FV a.num a.den ∧ FV b.num b.den := ⟨fits_FV ha, fits_FV hb⟩
  unfold addN addD addE at h
  rw [if_pos hv, if_pos hv, if_pos hv, q_parts, q_parts] at h
  exact h
theorem subQ_any (a b : Rat) (ha : fits a) (hb : fits b) (w : World) : Calls Tryd.prog 135 #[frQ a, frQ b] w fun r w' => r = .returned (.tuple #[frV (fitN (a - b)) (fitD (a - b)), .int .i64 (fitE (a - b))]) ∧ Below w.heap.size w w' := by
  have h := fSub_any a.num a.den b.num b.den w
  have hv : FV a.num a.den ∧ FV b.num b.den := ⟨fits_FV ha, fits_FV hb⟩
  unfold subN subD subE at h
  rw [if_pos hv, if_pos hv, if_pos hv, q_parts, q_parts] at h
  exact h
theorem mulQ_any (a b : Rat) (ha : fits a) (hb : fits b) (w : World) : Calls Tryd.prog 115 #[frQ a, frQ b] w fun r w' => r = .returned (.tuple #[frV (fitN (a * b)) (fitD (a * b)), .int .i64 (fitE (a * b))]) ∧ Below w.heap.size w w' := by
  have h := fMul_any a.num a.den b.num b.den w
  have hv : FV a.num a.den ∧ FV b.num b.den := ⟨fits_FV ha, fits_FV hb⟩
  unfold mulN mulD mulE at h
  rw [if_pos hv, if_pos hv, if_pos hv, q_parts, q_parts] at h
  exact h
theorem divQ_any (a b : Rat) (ha : fits a) (hb : fits b) (h0 : b ≠ 0) (w : World) : Calls Tryd.prog 134 #[frQ a, frQ b] w fun r w' => r = .returned (.tuple #[frV (fitN (a / b)) (fitD (a / b)), .int .i64 (fitE (a / b))]) ∧ Below w.heap.size w w' := by
  have h := fDiv_any a.num a.den b.num b.den w
  have hv : FV a.num a.den ∧ FV b.num b.den := ⟨fits_FV ha, fits_FV hb⟩
  have hc : b.num ≠ 0 := fun e => h0 (Rat.num_eq_zero.1 e)
  unfold divN divD divE at h
  rw [if_pos hv, if_pos hv, if_pos hv, if_neg hc, if_neg hc, if_neg hc, q_parts, q_parts] at h
  exact h

/-- All but block g stands. -/
def CalT (g : Nat) : World → World → Prop := fun a b => a.grownBy b (some g)
theorem calT_pre (g : Nat) : Pre (CalT g) := ⟨fun _ => ⟨rfl, rfl, rfl, Nat.le_refl _, fun _ _ _ => rfl⟩, fun h k => World.grownBy.trans h k⟩
instance instCalT (g : Nat) (W : World) : Nonempty (SubT (CalT g) W) := ⟨⟨W, (calT_pre g).refl W⟩⟩
theorem CalT.of_below {g : Nat} {W W' : World} (hb : Below W.heap.size W W') : CalT g W W' := ⟨hb.os, hb.tape, hb.output, hb.size, fun k hk _ => hb.block k hk⟩
theorem CalT.blk {g b : Nat} {W W' : World} {cs : Array Value} {t : TypeId} (h : CalT g W W') (k : Blk W b cs t) (hne : b ≠ g) : Blk W' b cs t := (World.grownBy.block h b k.lt (fun e => hne (Option.some.inj e))).trans k
theorem CalT.size {g : Nat} {W W' : World} (h : CalT g W W') : W.heap.size ≤ W'.heap.size := World.grownBy.size h
theorem CalT.set (g : Nat) (W : World) (p : Addr) (hp : p.block = g) (v : Value) : CalT g W (W.setCell p v) :=
  ⟨rfl, rfl, rfl, by simp [World.setCell], fun k _ hne => Below.heap_setCell W p v k (fun e => hne (by rw [e, hp]))⟩
theorem CalT.below {g B : Nat} {W0 W W' : World} (h : Below B W0 W) (k : CalT g W W') (hg : B ≤ g) (hs : B ≤ W.heap.size) : Below B W0 W' := h.grown k hs (fun j hj => by cases hj; exact hg)
/-- calc's variable: so far without an error, or not. -/
def CalB (W : World) (g : Nat) (ok : Bool) : Prop := Blk W g #[.int .i64 (if ok then 0 else 5)] 68
theorem CalB.below {g : Nat} {ok : Bool} {W W' : World} (h : CalB W g ok) (hb : Below W.heap.size W W') : CalB W' g ok := Blk.below h hb
/-- The package's variable zero. -/
def Z0 (W : World) : Prop := 0 < W.heap.size ∧ W.cell? ⟨0, 0, none⟩ = some (.int .i64 0) ∧ W.cell? ⟨0, 1, none⟩ = some (.int .i64 1)
theorem Z0.below {W W' : World} (h : Z0 W) (hb : Below W.heap.size W W') : Z0 W' :=
  ⟨Nat.lt_of_lt_of_le h.1 hb.size, (hb.cell (p := ⟨0, 0, none⟩) h.1).trans h.2.1, (hb.cell (p := ⟨0, 1, none⟩) h.1).trans h.2.2⟩
theorem calB_one {W : World} {g off : Nat} {ok : Bool} {v : Value} (h : CalB W g ok) (hc : W.cell? ⟨g, off + 1, none⟩ = some v) : False := by
  have := Blk.cell h (off + 1)
  rw [hc] at this
  simp at this
theorem calB_ne {W : World} {g b off : Nat} {ok : Bool} {v : Value} (h : CalB W g ok) (hc : W.cell? ⟨b, off + 1, none⟩ = some v) : b ≠ g := by
  rintro rfl
  exact calB_one h hc
theorem CalT.cell {g : Nat} {W W' : World} (h : CalT g W W') {p : Addr} (hp : p.block < W.heap.size) (hne : p.block ≠ g) : W'.cell? p = W.cell? p :=
  World.cell?_of_block (World.grownBy.block h p.block hp (fun e => hne (Option.some.inj e)))
theorem Z0.calT {W W' : World} {g : Nat} {ok : Bool} (h : Z0 W) (k : CalB W g ok) (t : CalT g W W') : Z0 W' := by
  have hne := calB_ne (off := 0) k h.2.2
  exact ⟨Nat.lt_of_lt_of_le h.1 t.size, (t.cell (p := ⟨0, 0, none⟩) h.1 hne).trans h.2.1, (t.cell (p := ⟨0, 1, none⟩) h.1 hne).trans h.2.2⟩
theorem CellsOf.calT {lo : Nat} {W W' : World} {ao : Option Addr} {xs : List Value} {g : Nat} {ok : Bool} (h : CellsOf lo W ao xs) (hu : ∀ x ∈ xs, ∃ z : Int, x = .int .i64 z) (hx : xs.length ≠ 1) (k : CalB W g ok) (t : CalT g W W') : CellsOf lo W' ao xs := by
  intro hne
  obtain ⟨b, off, e, hlo, hb, hc⟩ := h hne
  have h2 : 1 < xs.length := by
    have := List.length_pos_iff.2 hne
    omega
  have hne : b ≠ g := by
    have h1 := hc 1 h2
    obtain ⟨z, hz⟩ := hu (xs.getD 1 undef) (by rw [List.getD_eq_getElem?_getD, List.getElem?_eq_getElem h2]; exact List.getElem_mem _)
    exact calB_ne (off := off) k (v := .int .i64 z) (by rw [h1, hz])
  refine ⟨b, off, e, hlo, Nat.lt_of_lt_of_le hb t.size, fun j hj => ?_⟩
  exact (t.cell (p := ⟨b, off + j, none⟩) hb hne).trans (hc j hj)
theorem frsC_ints (l : List Rat) : ∀ x ∈ frsC l, ∃ z : Int, x = .int .i64 z := by
  intro x hx
  obtain ⟨q, _, h⟩ := List.mem_flatMap.1 hx
  unfold frC at h
  simp at h
  rcases h with h | h
  · exact ⟨_, h⟩
  · exact ⟨_, h⟩
theorem ptsC_ints (l : List Pt) : ∀ x ∈ ptsC l, ∃ z : Int, x = .int .i64 z := by
  intro x hx
  obtain ⟨q, _, h⟩ := List.mem_flatMap.1 hx
  unfold ptC at h
  simp at h
  rcases h with h | h | h | h
  · exact ⟨_, h⟩
  · exact ⟨_, h⟩
  · exact ⟨_, h⟩
  · exact ⟨_, h⟩
theorem QsR.calT {lo : Nat} {W W' : World} {v : Value} {l : List Rat} {g : Nat} {ok : Bool} (h : QsR lo W v l) (k : CalB W g ok) (t : CalT g W W') : QsR lo W' v l := by
  obtain ⟨ao, cap, e, h1, h2, h3⟩ := h
  exact ⟨ao, cap, e, h1, h2, h3.calT (frsC_ints l) (by rw [frsC_len]; omega) k t⟩
theorem PsR.calT {lo : Nat} {W W' : World} {v : Value} {l : List Pt} {g : Nat} {ok : Bool} (h : PsR lo W v l) (k : CalB W g ok) (t : CalT g W W') : PsR lo W' v l := by
  obtain ⟨ao, cap, e, h1, h2, h3⟩ := h
  exact ⟨ao, cap, e, h1, h2, h3.calT (ptsC_ints l) (by rw [ptsC_len]; omega) k t⟩

end Go.Proofs.YtfkclcoipadhmaaDoor
