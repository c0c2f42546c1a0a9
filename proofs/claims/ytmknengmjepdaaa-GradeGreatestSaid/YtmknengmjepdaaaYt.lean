/- The greatest solution, by rationals. -/
import Derived.Test.YtmknengmjepdaaaYu
import Derived.Test.YtmknengmjepdaaaYe
import Derived.Test.YtmknengmjepdaaaQj
namespace Go.Proofs.Ytmknengmjepdaaa
open Go.RowKit

section
variable {p : Pat} {n d mn md : Int}
def grQ (p : Pat) (n d mn md : Int) (i k : Nat) : Rat := (grZ p n d mn md i k : Rat) / ((d * md : Int) : Rat)
theorem rat_pos {d : Int} (h : 1 ≤ d) : (d : Rat) ≠ 0 := by have : (0 : Rat) < (d : Rat) := Rat.intCast_pos.2 (by omega); grind
theorem grQ_zero (i : Nat) (h1 : 1 ≤ d) (h2 : 1 ≤ md) : grQ p n d mn md i 0 = (mn : Rat) / (md : Rat) := by
  have a1 := rat_pos h1
  have a2 := rat_pos h2
  unfold grQ grZ
  push_cast
  grind
theorem grC_rat {i j : Nat} (h1 : 1 ≤ d) (h2 : 1 ≤ md) : (if j = 0 then 0 else (mn : Rat) / (md : Rat)) - (chainM p n d j i : Rat) / (d : Rat) = (grC p n d mn md i j : Rat) / ((d * md : Int) : Rat) := by
  have a1 := rat_pos h1
  have a2 := rat_pos h2
  unfold grC
  by_cases h : j = 0
  · rw [if_pos h, if_pos h]
    push_cast
    grind
  · rw [if_neg h, if_neg h]
    push_cast
    grind
theorem ord_lt {a b c e : Int} (hb : 1 ≤ b) (he : 1 ≤ e) : sgnQ ((a : Rat) / (b : Rat) - (c : Rat) / (e : Rat)) < 0 ↔ a * e < c * b := by
  have k := fit_sgn (na := a) (da := b) (nb := c) (db := e) (y := 0) (d := 1) hb he (by decide)
  have z : ((0 : Int) : Rat) / ((1 : Int) : Rat) = 0 := by rw [Rat.div_def, show ((0 : Int) : Rat) = 0 from rfl, Rat.zero_mul]
  have s : (a : Rat) / (b : Rat) - (c : Rat) / (e : Rat) - ((0 : Int) : Rat) / ((1 : Int) : Rat) = (a : Rat) / (b : Rat) - (c : Rat) / (e : Rat) := by rw [z]; grind
  rw [s] at k
  rw [k, Int.zero_mul, Int.mul_one]
  omega
theorem grQ_step {i k : Nat} (h : 1 ≤ d * md) (hc : chainM p n d k i ≠ NONE) :
    (sgnQ ((grC p n d mn md i k : Rat) / ((d * md : Int) : Rat) - grQ p n d mn md i k) < 0 → grQ p n d mn md i (k + 1) = (grC p n d mn md i k : Rat) / ((d * md : Int) : Rat)) ∧
    (¬ sgnQ ((grC p n d mn md i k : Rat) / ((d * md : Int) : Rat) - grQ p n d mn md i k) < 0 → grQ p n d mn md i (k + 1) = grQ p n d mn md i k) := by
  unfold grQ
  rw [ord_lt h h, grZ_some hc]
  constructor
  · intro hl
    have := Int.lt_of_mul_lt_mul_right hl (by omega)
    rw [Int.min_eq_right (by omega)]
  · intro hl
    have : ¬ grC p n d mn md i k < grZ p n d mn md i k := fun h2 => hl (Int.mul_lt_mul_of_pos_right h2 (by omega))
    rw [Int.min_eq_left (by omega)]
theorem grQ_none {i k : Nat} (h : chainM p n d k i = NONE) : grQ p n d mn md i (k + 1) = grQ p n d mn md i k := by
  unfold grQ
  rw [grZ_none h]
theorem grF_fit {i : Nat} (h : 1 ≤ d * md) : grF p n d mn md i = (fitN (grQ p n d mn md i p.n.toNat), fitD (grQ p n d mn md i p.n.toNat)) := by
  unfold grF newN newD grQ
  rw [if_neg (by omega), if_neg (by omega)]
theorem grE_fit {i : Nat} (h : 1 ≤ d * md) : newE (grZ p n d mn md i p.n.toNat) (d * md) = if fits (grQ p n d mn md i p.n.toNat) then 0 else 5 := by
  unfold newE grQ fitE
  rw [if_neg (by omega)]
theorem fits_zero : fits 0 := by
  have := fits_of (n := 0) (d := 1) (by decide) (by decide) (by decide) (by decide)
  rwa [show ((0 : Int) : Rat) / ((1 : Int) : Rat) = 0 by rw [Rat.div_def, show ((0 : Int) : Rat) = 0 from rfl, Rat.zero_mul]] at this
theorem grF_zero (hp : PValid p) (hs : FSize n d) (hm : FMost mn md) (hb : chBad p n d = false) (hsh : grShort p n d mn md = false) : grF p n d mn md 0 = (0, 1) ∧ newE (grZ p n d mn md 0 p.n.toNat) (d * md) = 0 := by
  have h1 := (most_bd hs hm).2.2.1
  have hq : grQ p n d mn md 0 p.n.toNat = 0 := by
    unfold grQ
    rw [gr_zero hp hs hm hb hsh, Rat.div_def, show ((0 : Int) : Rat) = 0 from rfl, Rat.zero_mul]
  rw [grF_fit h1, grE_fit h1, hq, if_pos fits_zero]
  unfold fitN fitD
  rw [if_pos fits_zero, if_pos fits_zero]
  exact ⟨rfl, rfl⟩
theorem gr_qs {x : Int} (h : -401000000000000 ≤ x ∧ x ≤ 401000000000000) (h1 : 1 ≤ d * md ∧ d * md ≤ 1000000) : QS 4 ((x : Rat) / ((d * md : Int) : Rat)) :=
  QS_of (by omega) (by omega) (by omega) (by omega) (by omega)
/-- The limit is too low for one element. -/
theorem short_iff {v : Nat} (hp : PValid p) (hs : FSize n d) (hb : chBad p n d = false) (hm : FMost mn md) (hv : v < p.n.toNat) : (leastF p n d v).1 * md ≤ mn * (leastF p n d v).2 ↔ ¬ mn * d < chainM p n d v 0 * md := by
  obtain ⟨c1, c2⟩ := least_cross hp hs hb hv
  have h1 := c1
  have h2 := hs.1.1
  have h3 := hm.1.1
  have e1 : (leastF p n d v).1 * md * d = chainM p n d v 0 * md * (leastF p n d v).2 := by
    rw [Int.mul_right_comm, c2, Int.mul_right_comm]
  have e2 : mn * (leastF p n d v).2 * d = mn * d * (leastF p n d v).2 := Int.mul_right_comm ..
  constructor
  · intro h hn
    have a := Int.mul_le_mul_of_nonneg_right h (show 0 ≤ d by omega)
    have b := Int.mul_lt_mul_of_pos_right hn (show 0 < (leastF p n d v).2 by omega)
    omega
  · intro h
    have a := Int.mul_le_mul_of_nonneg_right (Int.not_lt.1 h) (show 0 ≤ (leastF p n d v).2 by omega)
    apply Int.le_of_mul_le_mul_right (a := d) _ (by omega)
    omega
end

theorem nat_row {lo : Nat} {W : World} {v : Value} {n bA : Nat} {b0 : Bool} {a1 a2 : Option Addr} {n1 c1 n2 c2 : Nat} {t : TypeId} (h : NatF lo W v n) (k : Blk W bA #[.bool b0, .slice a1 n1 c1, .slice a2 n2 c2] t) (cs : Array Value) : NatF lo (W.setRow bA cs) v n := by
  obtain ⟨ao, cap, rfl, h1, h2, hc⟩ := h
  refine ⟨ao, cap, rfl, h1, h2, fun hx => ?_⟩
  obtain ⟨b, off, rfl, hlo, hlt, hcell⟩ := hc hx
  have hne : b ≠ bA := by
    rintro rfl
    have hpos : 0 < (u32s (digs n)).length := List.length_pos_iff.2 hx
    have h3 := hcell 0 hpos
    rw [k.cell] at h3
    have h4 : (u32s (digs n)).getD 0 undef = .int .u32 (((digs n).getD 0 0 : Nat) : Int) := by
      have := u32s_getD (o := digs n) (j := 0) (by rwa [u32s_length] at hpos)
      rw [List.getD_eq_getElem?_getD, this]
      rfl
    rw [h4] at h3
    have h5 : off + 0 < 3 := by
      have := (Array.getElem?_eq_some_iff.1 h3).1
      simpa using this
    match off, h5 with
    | 0, _ => simp at h3
    | 1, _ => simp at h3
    | 2, _ => simp at h3
  refine ⟨b, off, rfl, hlo, by rw [row_size]; exact hlt, fun i hi => ?_⟩
  rw [World.cell?_of_block (row_other W bA cs hne)]
  exact hcell i hi
theorem q_row {lo : Nat} {W : World} {v : Value} {q : Rat} {bA : Nat} {b0 : Bool} {a1 a2 : Option Addr} {n1 c1 n2 c2 : Nat} {t : TypeId} (h : QF lo W v q) (k : Blk W bA #[.bool b0, .slice a1 n1 c1, .slice a2 n2 c2] t) (cs : Array Value) : QF lo (W.setRow bA cs) v q := by
  obtain ⟨n, d, rfl, h1, h2⟩ := h
  exact ⟨n, d, rfl, nat_row h1 k cs, nat_row h2 k cs⟩
theorem owns_one2 {w : World} {g base : Nat} {e : TypeId} {x y : Value} (h : Blk w g #[x, y] e) (hb : base ≤ g) : w.ownsRow base e 2 (.slice (some ⟨g, 0, none⟩) 1 1) 1 [x, y] :=
  ⟨by simp, .inr ⟨g, 1, #[x, y], rfl, hb, h, Nat.le_refl _, by unfold maxLen; omega, by simp, by simp⟩⟩

/-- A rational in a box. -/
structure RBox (W : World) (B : Nat) (q : Rat) (b : Bool) (x1 : Option Addr) (m1 d1 : Nat) (x2 : Option Addr) (m2 d2 : Nat) : Prop where
  k : Blk W B #[.bool b, .slice x1 m1 d1, .slice x2 m2 d2] 43
  qf : QF 0 W (.agg #[.bool b, .slice x1 m1 d1, .slice x2 m2 d2]) q
section
variable {W W' : World} {B C : Nat} {q r : Rat} {b b' : Bool} {x1 x2 y1 y2 : Option Addr} {m1 d1 m2 d2 n1 e1 n2 e2 : Nat}
theorem RBox.below (h : RBox W B q b x1 m1 d1 x2 m2 d2) (hb : Below W.heap.size W W') : RBox W' B q b x1 m1 d1 x2 m2 d2 := ⟨h.k.below hb, h.qf.below hb⟩
theorem RBox.put (h : RBox W B q b x1 m1 d1 x2 m2 d2) (hq : QF 0 W (.agg #[.bool b', .slice y1 n1 e1, .slice y2 n2 e2]) r) :
    RBox (((W.setCell ⟨B, 0, none⟩ (.bool b')).setCell ⟨B, 1, none⟩ (.slice y1 n1 e1)).setCell ⟨B, 2, none⟩ (.slice y2 n2 e2)) B r b' y1 n1 e1 y2 n2 e2 :=
  ⟨(q_box hq h.k).2, (q_box hq h.k).1⟩
theorem RBox.keep (h : RBox W B q b x1 m1 d1 x2 m2 d2) {t : TypeId} {b0 : Bool} {a1 a2 : Option Addr} {f1 g1 f2 g2 : Nat} (k : Blk W C #[.bool b0, .slice a1 f1 g1, .slice a2 f2 g2] t) (hne : B ≠ C) :
    RBox (((W.setCell ⟨C, 0, none⟩ (.bool b')).setCell ⟨C, 1, none⟩ (.slice y1 n1 e1)).setCell ⟨C, 2, none⟩ (.slice y2 n2 e2)) B q b x1 m1 d1 x2 m2 d2 := by
  obtain ⟨hk, ⟨n, d, hv, h1, h2⟩⟩ := h
  have k1 := k.set 0 (.bool b')
  have k2 := k1.set 1 (.slice y1 n1 e1)
  exact ⟨((hk.other (p := ⟨C, 0, none⟩) hne _).other (p := ⟨C, 1, none⟩) hne _).other (p := ⟨C, 2, none⟩) hne _, ⟨n, d, hv, nat_box (nat_box (nat_box h1 k 0 _) k1 1 _) k2 2 _, nat_box (nat_box (nat_box h2 k 0 _) k1 1 _) k2 2 _⟩⟩
/-- A rational stored into a fresh box. -/
theorem RBox.fresh {w W : World} (hq : QF 0 w (.agg #[.bool b, .slice x1 m1 d1, .slice x2 m2 d2]) q) (hB : w.heap.size = B) (hW : w.alloc (.cells #[.bool b, .slice x1 m1 d1, .slice x2 m2 d2] 43) = W) : RBox W B q b x1 m1 d1 x2 m2 d2 := by
  subst hB
  subst hW
  exact ⟨Blk.new w _ _, hq.below (alloc_below w _)⟩
end
theorem pinfoQ : (Try.prog.info? 43).map (·.size) = some 3 := by kernel_rfl

/-- What holds of what has come up in region 25 of Greatest. -/
structure GrI (B : Nat) (w0 : World) (m d : Int) (y : Rat) (l : Nat → Bool) (V : Nat → Value) (w : World) : Prop where
  b : Below B w0 w
  i8 : l 8 = true → QF 0 w (V 8) (m : Rat)
  i11 : l 11 = true → QF 0 w (V 11) (d : Rat)
  i12 : l 12 = true → QF 0 w (V 12) ((m : Rat) / (d : Rat))
  i13 : l 13 = true → QF 0 w (V 13) y
  i14 : l 14 = true → ∃ g b a1 n1 c1 a2 n2 c2, V 14 = .pointer (some ⟨g, 0, none⟩) ∧ B ≤ g ∧ Blk w g #[.bool b, .slice a1 n1 c1, .slice a2 n2 c2] 43 ∧ (l 15 = true → QF 0 w (.agg #[.bool b, .slice a1 n1 c1, .slice a2 n2 c2]) y)
theorem GrI.below {B : Nat} {w0 : World} {m d : Int} {y : Rat} {l : Nat → Bool} {V : Nat → Value} {w w' : World} (h : GrI B w0 m d y l V w) (hb : Below w.heap.size w w') (hB : B ≤ w.heap.size) : GrI B w0 m d y l V w' :=
  ⟨h.b.trans (hb.mono hB), fun x => (h.i8 x).below hb, fun x => (h.i11 x).below hb, fun x => (h.i12 x).below hb, fun x => (h.i13 x).below hb, fun x => by
    obtain ⟨g, b, a1, n1, c1, a2, n2, c2, e1, e2, e3, e4⟩ := h.i14 x
    exact ⟨g, b, a1, n1, c1, a2, n2, c2, e1, e2, e3.below hb, fun y => (e4 y).below hb⟩⟩

end Go.Proofs.Ytmknengmjepdaaa
