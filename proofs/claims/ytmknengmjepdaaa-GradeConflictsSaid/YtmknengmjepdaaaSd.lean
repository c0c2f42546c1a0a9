/- Walk of grade.Pattern.sizes. -/
import Derived.Test.YtmknengmjepdaaaVg
import Derived.Test.YtmknengmjepdaaaSc
import Derived.Test.YtmknengmjepdaaaUa
namespace Go.Proofs.Ytmknengmjepdaaa
open Go.RowKit
attribute [local irreducible] seqS seqST

@[local go_sem] theorem eql_nil2 (a : Option Addr) (n c : Nat) (w : World) : (binOp .eql 49 (.slice a n c) (.slice none 0 0)).run Try.prog w = .ok (.bool a.isNone) w := Lib.run_eql_slice_nil w 49 3 a n c 0 0 Try.underlying49
@[local go_sem] theorem neq_nil2 (a : Option Addr) (n c : Nat) (w : World) : (binOp .neq 49 (.slice a n c) (.slice none 0 0)).run Try.prog w = .ok (.bool a.isSome) w := by
  simp only [binOp]
  simp [Op.equal, Op.maxDepth, Lib.run_equalIn_slice_nil w 9999 49 3 a n c 0 0 Try.underlying49]

/-- A loop of p, in memory. -/
structure LoopIn (p : Pat) (lo : Nat) (W : World) (v : Value) (es : List (Int × Rul)) : Prop where
  ok : ∃ a, OkChain p es a a
  pos : 1 ≤ es.length
  le : es.length ≤ 16
  rd : IntsR lo W v (es.map (·.1))
theorem LoopIn.below {p : Pat} {lo : Nat} {W W' : World} {v : Value} {es : List (Int × Rul)} (h : LoopIn p lo W v es) (hb : Below W.heap.size W W') : LoopIn p lo W' v es := ⟨h.ok, h.pos, h.le, SlR.below h.rd hb⟩
theorem LoopIn.set {p : Pat} {lo : Nat} {W : World} {v : Value} {es : List (Int × Rul)} (h : LoopIn p lo W v es) {q : Addr} (hq : q.block < lo) (u : Value) : LoopIn p lo (W.setCell q u) v es := ⟨h.ok, h.pos, h.le, SlR.setCell h.rd hq u⟩
theorem LoopIn.mono {p : Pat} {lo lo' : Nat} {W : World} {v : Value} {es : List (Int × Rul)} (h : LoopIn p lo W v es) (hl : lo' ≤ lo) : LoopIn p lo' W v es := ⟨h.ok, h.pos, h.le, SlR.mono h.rd hl⟩
theorem LoopIn.shape {p : Pat} {lo : Nat} {W : World} {v : Value} {es : List (Int × Rul)} (h : LoopIn p lo W v es) : ∃ b off cap, v = .slice (some ⟨b, off, none⟩) es.length cap := by
  obtain ⟨ao, cap, rfl, _, _, hc⟩ := h.rd
  obtain ⟨b, off, rfl, -⟩ := hc (by
    intro h9
    have h1 := congrArg List.length h9
    rw [intCells_len, List.length_map, List.length_nil] at h1
    have := h.pos
    omega)
  exact ⟨b, off, cap, by rw [List.length_map]⟩
/-- The lower end, and what proves it. -/
def LowOk (p : Pat) (lo : Nat) (W : World) (v : Value) (ln ld : Int) : Prop :=
  FSize ln ld ∧ ld ≤ 1600 ∧ LoF p ((ln : Rat) / (ld : Rat)) ∧ ((v = .slice none 0 0 ∧ ln = 0 ∧ ld = 1) ∨ (0 < ln ∧ ∃ es, LoopIn p lo W v es ∧ sumD es < 0 ∧ sumC es * ld + sumD es * ln = 0))
def HighOk (p : Pat) (lo : Nat) (W : World) (v : Value) (hn hd : Int) : Prop :=
  FSize hn hd ∧ hd ≤ 1600 ∧ HiF p ((hn : Rat) / (hd : Rat)) ∧ ((v = .slice none 0 0 ∧ hn = 40 ∧ hd = 1) ∨ (hn < 40 * hd ∧ ∃ es, LoopIn p lo W v es ∧ 0 < sumD es ∧ sumC es * hd + sumD es * hn = 0))
theorem LowOk.of {p : Pat} {lo : Nat} {W W' : World} {v : Value} {ln ld : Int} (h : LowOk p lo W v ln ld) (hk : ∀ es, LoopIn p lo W v es → LoopIn p lo W' v es) : LowOk p lo W' v ln ld := by
  obtain ⟨h1, h2, h3, h4⟩ := h
  refine ⟨h1, h2, h3, h4.imp id ?_⟩
  rintro ⟨a, es, b, c⟩
  exact ⟨a, es, hk es b, c⟩
theorem HighOk.of {p : Pat} {lo : Nat} {W W' : World} {v : Value} {ln ld : Int} (h : HighOk p lo W v ln ld) (hk : ∀ es, LoopIn p lo W v es → LoopIn p lo W' v es) : HighOk p lo W' v ln ld := by
  obtain ⟨h1, h2, h3, h4⟩ := h
  refine ⟨h1, h2, h3, h4.imp id ?_⟩
  rintro ⟨a, es, b, c⟩
  exact ⟨a, es, hk es b, c⟩
theorem LowOk.shape {p : Pat} {lo : Nat} {W : World} {v : Value} {ln ld : Int} (h : LowOk p lo W v ln ld) : ∃ ao n c, v = .slice ao n c := by
  rcases h.2.2.2 with ⟨h1, -⟩ | ⟨_, es, h1, -⟩
  · exact ⟨_, _, _, h1⟩
  · obtain ⟨b, o, c, h2⟩ := h1.shape
    exact ⟨_, _, _, h2⟩
theorem HighOk.shape {p : Pat} {lo : Nat} {W : World} {v : Value} {ln ld : Int} (h : HighOk p lo W v ln ld) : ∃ ao n c, v = .slice ao n c := by
  rcases h.2.2.2 with ⟨h1, -⟩ | ⟨_, es, h1, -⟩
  · exact ⟨_, _, _, h1⟩
  · obtain ⟨b, o, c, h2⟩ := h1.shape
    exact ⟨_, _, _, h2⟩
/-- The loops that prove that there is no size. -/
def ConfOk (p : Pat) (lo : Nat) (W : World) (v : Value) : Prop :=
  (∃ g v1 es, v = .slice (some ⟨g, 0, none⟩) 1 1 ∧ lo ≤ g ∧ Blk W g #[v1] 49 ∧ LoopIn p lo W v1 es ∧ ((0 ≤ sumD es ∧ 0 < sumC es) ∨ (sumD es < 0 ∧ -40 * sumD es < sumC es))) ∨
  (∃ g v1 v2 es1 es2, v = .slice (some ⟨g, 0, none⟩) 2 2 ∧ lo ≤ g ∧ Blk W g #[v1, v2] 49 ∧ LoopIn p lo W v1 es1 ∧ LoopIn p lo W v2 es2 ∧ sumD es1 < 0 ∧ 0 ≤ sumD es2 ∧ 0 < sumC es2 * -sumD es1 + sumD es2 * sumC es1)
theorem ConfOk.set {p : Pat} {lo : Nat} {W : World} {v : Value} (h : ConfOk p lo W v) {q : Addr} (hq : q.block < lo) (u : Value) : ConfOk p lo (W.setCell q u) v := by
  rcases h with ⟨g, v1, es, h1, h2, h3, h4, h5⟩ | ⟨g, v1, v2, es1, es2, h1, h2, h3, h4, h5, h6⟩
  · exact .inl ⟨g, v1, es, h1, h2, h3.other (by omega) u, h4.set hq u, h5⟩
  · exact .inr ⟨g, v1, v2, es1, es2, h1, h2, h3.other (by omega) u, h4.set hq u, h5.set hq u, h6⟩
theorem ConfOk.mono {p : Pat} {lo lo' : Nat} {W : World} {v : Value} (h : ConfOk p lo W v) (hl : lo' ≤ lo) : ConfOk p lo' W v := by
  rcases h with ⟨g, v1, es, h1, h2, h3, h4, h5⟩ | ⟨g, v1, v2, es1, es2, h1, h2, h3, h4, h5, h6⟩
  · exact .inl ⟨g, v1, es, h1, by omega, h3, h4.mono hl, h5⟩
  · exact .inr ⟨g, v1, v2, es1, es2, h1, by omega, h3, h4.mono hl, h5.mono hl, h6⟩
theorem LowOk.mono {p : Pat} {lo lo' : Nat} {W : World} {v : Value} {ln ld : Int} (h : LowOk p lo W v ln ld) (hl : lo' ≤ lo) : LowOk p lo' W v ln ld := by
  obtain ⟨h1, h2, h3, h4⟩ := h
  refine ⟨h1, h2, h3, h4.imp id ?_⟩
  rintro ⟨a, es, b, c⟩
  exact ⟨a, es, b.mono hl, c⟩
theorem HighOk.mono {p : Pat} {lo lo' : Nat} {W : World} {v : Value} {ln ld : Int} (h : HighOk p lo W v ln ld) (hl : lo' ≤ lo) : HighOk p lo' W v ln ld := by
  obtain ⟨h1, h2, h3, h4⟩ := h
  refine ⟨h1, h2, h3, h4.imp id ?_⟩
  rintro ⟨a, es, b, c⟩
  exact ⟨a, es, b.mono hl, c⟩
/-- What is handed back. -/
def SzRet (p : Pat) (lo : Nat) (W : World) (ln ld hn hd : Int) (low high conf : Value) : Prop :=
  (SzNo p ∧ ConfOk p lo W conf) ∨ (conf = .slice none 0 0 ∧ SzOk p ln ld hn hd ∧ LowOk p lo W low ln ld ∧ HighOk p lo W high hn hd)
theorem SzRet.set {p : Pat} {lo : Nat} {W : World} {ln ld hn hd : Int} {low high conf : Value} (h : SzRet p lo W ln ld hn hd low high conf) {q : Addr} (hq : q.block < lo) (u : Value) : SzRet p lo (W.setCell q u) ln ld hn hd low high conf := by
  rcases h with ⟨h1, h2⟩ | ⟨h1, h2, h3, h4⟩
  · exact .inl ⟨h1, h2.set hq u⟩
  · exact .inr ⟨h1, h2, h3.of fun es he => he.set hq u, h4.of fun es he => he.set hq u⟩
theorem SzRet.mono {p : Pat} {lo lo' : Nat} {W : World} {ln ld hn hd : Int} {low high conf : Value} (h : SzRet p lo W ln ld hn hd low high conf) (hl : lo' ≤ lo) : SzRet p lo' W ln ld hn hd low high conf := by
  rcases h with ⟨h1, h2⟩ | ⟨h1, h2, h3, h4⟩
  · exact .inl ⟨h1, h2.mono hl⟩
  · exact .inr ⟨h1, h2, h3.mono hl, h4.mono hl⟩
theorem SzRet.seven {p : Pat} {S : Nat} {W : World} {ln ld hn hd : Int} {low high conf : Value} (h : SzRet p (S + 3) W ln ld hn hd low high conf) (u0 u1 u2 u3 u4 u5 u6 : Value) :
    SzRet p S (((((((W.setCell ⟨S + 1, 0, none⟩ u0).setCell ⟨S + 1, 1, none⟩ u1).setCell ⟨S + 1, 2, none⟩ u2).setCell ⟨S + 1, 3, none⟩ u3).setCell ⟨S + 1, 4, none⟩ u4).setCell ⟨S + 1, 5, none⟩ u5).setCell ⟨S + 1, 6, none⟩ u6) ln ld hn hd low high conf :=
  (((((((h.set (q := ⟨S + 1, 0, none⟩) (by show S + 1 < S + 3; omega) u0).set (q := ⟨S + 1, 1, none⟩) (by show S + 1 < S + 3; omega) u1).set (q := ⟨S + 1, 2, none⟩) (by show S + 1 < S + 3; omega) u2).set (q := ⟨S + 1, 3, none⟩) (by show S + 1 < S + 3; omega) u3).set (q := ⟨S + 1, 4, none⟩) (by show S + 1 < S + 3; omega) u4).set (q := ⟨S + 1, 5, none⟩) (by show S + 1 < S + 3; omega) u5).set (q := ⟨S + 1, 6, none⟩) (by show S + 1 < S + 3; omega) u6).mono (by omega)
theorem below_seven {S : Nat} {w W : World} (h : Below S w W) (u0 u1 u2 u3 u4 u5 u6 : Value) :
    Below S w (((((((W.setCell ⟨S + 1, 0, none⟩ u0).setCell ⟨S + 1, 1, none⟩ u1).setCell ⟨S + 1, 2, none⟩ u2).setCell ⟨S + 1, 3, none⟩ u3).setCell ⟨S + 1, 4, none⟩ u4).setCell ⟨S + 1, 5, none⟩ u5).setCell ⟨S + 1, 6, none⟩ u6) :=
  ((((((h.setCell (p := ⟨S + 1, 0, none⟩) (by show S ≤ S + 1; omega) u0).setCell (p := ⟨S + 1, 1, none⟩) (by show S ≤ S + 1; omega) u1).setCell (p := ⟨S + 1, 2, none⟩) (by show S ≤ S + 1; omega) u2).setCell (p := ⟨S + 1, 3, none⟩) (by show S ≤ S + 1; omega) u3).setCell (p := ⟨S + 1, 4, none⟩) (by show S ≤ S + 1; omega) u4).setCell (p := ⟨S + 1, 5, none⟩) (by show S ≤ S + 1; omega) u5).setCell (p := ⟨S + 1, 6, none⟩) (by show S ≤ S + 1; omega) u6
/-- What sizes hands back. -/
def SizesR (p : Pat) (lo : Nat) (e : Ending) (W : World) : Prop :=
  ∃ ln ld hn hd low high conf, e = .returned (.agg #[.int .i64 ln, .int .i64 ld, .int .i64 hn, .int .i64 hd, low, high, conf]) ∧
    (∃ a n c, low = .slice a n c) ∧ (∃ a n c, high = .slice a n c) ∧ SzRet p lo W ln ld hn hd low high conf
/-- How far a size in memory has come. -/
def muAt (W : World) (b j : Nat) : Int := match W.cell? ⟨b, j, none⟩, W.cell? ⟨b, j + 1, none⟩ with
  | some v, some u => muS (intOf v) (intOf u)
  | _, _ => 0
theorem muAt_of {W : World} {b j : Nat} {n d : Int} (h1 : W.cell? ⟨b, j, none⟩ = some (.int .i64 n)) (h2 : W.cell? ⟨b, j + 1, none⟩ = some (.int .i64 d)) : muAt W b j = muS n d := by
  unfold muAt
  rw [h1, h2]
  rfl

/-- The next lower end. -/
theorem low_next {p : Pat} {sC sD ln ld : Int} (hp : PValid p) (hbad : BadAt p ((ln : Rat) / (ld : Rat)) sC sD) (hs : FSize ln ld) (hld : ld ≤ 1600) (hD : sD < 0) (hc : sC ≤ -40 * sD) :
    FSize (newN sC (-sD)) (newD sC (-sD)) ∧ newD sC (-sD) ≤ 1600 ∧ LoF p (((newN sC (-sD) : Int) : Rat) / ((newD sC (-sD) : Int) : Rat)) ∧ 0 < newN sC (-sD) ∧ sC * newD sC (-sD) + sD * newN sC (-sD) = 0 ∧ muS ln ld < muS (newN sC (-sD)) (newD sC (-sD)) := by
  have hbd := hbad.bd hp
  obtain ⟨h1, h2, h3⟩ := bad_next hbad hD (size_bd hs).1
  obtain ⟨g1, g2, g3, -⟩ := new_sz (c := sC) (e := -sD) (by omega) (by omega) h3 (by omega)
  have hx := (div_eq_div g1.1.1 (show 1 ≤ -sD by omega)).1 g3
  have hpos : 0 < newN sC (-sD) := by
    have h4 : ((0 : Int) : Rat) / ((1 : Int) : Rat) < ((newN sC (-sD) : Int) : Rat) / ((newD sC (-sD) : Int) : Rat) := by
      rw [g3]
      have e1 : ((0 : Int) : Rat) / ((1 : Int) : Rat) = 0 := by grind
      rw [e1]
      exact Std.lt_of_le_of_lt (size_bd hs).1 h1
    have := (div_lt_div (by decide) g1.1.1).1 h4
    omega
  refine ⟨g1, g2, by rw [g3]; exact h2, hpos, ?_, muS_lt hs.1.1 hld g1.1.1 g2 (by rw [g3]; exact h1)⟩
  rw [Int.mul_neg] at hx
  rw [Int.mul_comm sD]
  omega
/-- The next upper end. -/
theorem high_next {p : Pat} {sC sD hn hd : Int} {lo : Rat} (hp : PValid p) (hbad : BadAt p ((hn : Rat) / (hd : Rat)) sC sD) (hs : FSize hn hd) (hhd : hd ≤ 1600) (hf : Feas p lo) (hle : lo ≤ (hn : Rat) / (hd : Rat)) (h0 : 0 ≤ lo) :
    0 < sD ∧ FSize (newN (-sC) sD) (newD (-sC) sD) ∧ newD (-sC) sD ≤ 1600 ∧ HiF p (((newN (-sC) sD : Int) : Rat) / ((newD (-sC) sD : Int) : Rat)) ∧ newN (-sC) sD < 40 * newD (-sC) sD ∧ sC * newD (-sC) sD + sD * newN (-sC) sD = 0 ∧
      lo ≤ ((newN (-sC) sD : Int) : Rat) / ((newD (-sC) sD : Int) : Rat) ∧ muS (newN (-sC) sD) (newD (-sC) sD) < muS hn hd := by
  have hbd := hbad.bd hp
  obtain ⟨h1, h2, h3, h4, h5, h6⟩ := bad_hi hbad hf hle h0 (size_bd hs).2
  obtain ⟨g1, g2, g3, -⟩ := new_sz (c := -sC) (e := sD) (by omega) (by omega) (by omega) h3
  have hx := (div_eq_div g1.1.1 (show 1 ≤ sD by omega)).1 g3
  have hlt : newN (-sC) sD < 40 * newD (-sC) sD := by
    have h7 : ((newN (-sC) sD : Int) : Rat) / ((newD (-sC) sD : Int) : Rat) < ((40 : Int) : Rat) / ((1 : Int) : Rat) := by
      rw [g3]
      have e1 : ((40 : Int) : Rat) / ((1 : Int) : Rat) = 40 := by grind
      rw [e1]
      exact Std.lt_of_lt_of_le h5 (size_bd hs).2
    have := (div_lt_div g1.1.1 (by decide)).1 h7
    omega
  refine ⟨h1, g1, g2, by rw [g3]; exact h6, hlt, ?_, by rw [g3]; exact h4, muS_lt g1.1.1 g2 hs.1.1 hhd (by rw [g3]; exact h5)⟩
  rw [Int.neg_mul] at hx
  rw [Int.mul_comm sD]
  omega
theorem le_forty {n d : Int} (h : FSize n d) : (n : Rat) / (d : Rat) ≤ ((40 : Int) : Rat) / ((1 : Int) : Rat) := by
  have e1 : ((40 : Int) : Rat) / ((1 : Int) : Rat) = 40 := by grind
  rw [e1]
  exact (size_bd h).2
theorem low_start (p : Pat) (lo : Nat) (W : World) : LowOk p lo W (.slice none 0 0) 0 1 := by
  refine ⟨by decide, by decide, fun t h0 ht => ?_, .inl ⟨rfl, rfl, rfl⟩⟩
  have e1 : ((0 : Int) : Rat) / ((1 : Int) : Rat) = 0 := by grind
  rw [e1] at ht
  exact absurd h0 (Rat.not_le.2 ht)
theorem high_start (p : Pat) (lo : Nat) (W : World) : HighOk p lo W (.slice none 0 0) 40 1 := by
  refine ⟨by decide, by decide, fun t h0 ht => ?_, .inl ⟨rfl, rfl, rfl⟩⟩
  have e1 : ((40 : Int) : Rat) / ((1 : Int) : Rat) = 40 := by grind
  rw [e1] at ht
  exact absurd h0 (Rat.not_le.2 ht)

set_option maxHeartbeats 8000000 in
set_option maxRecDepth 100000 in
theorem sizes_any (p : Pat) (v : Value) (w : World) (h : PatF 0 w v p) (hp : PValid p) :
    Calls Try.prog 91 #[v] w fun e w' => SizesR p w.heap.size e w' ∧ Below w.heap.size w w' := by
  obtain ⟨sv, rfl, -⟩ := id h
  have HP := hid hp
  clear hp
  go_enter Try.func91, Try.ntmps91
  go_wp2_with fail
  have k0 := ((Blk.new w #[.int .i64 p.n, sv] 33).alloc (.cells #[.int .i64 0, .int .i64 0, .int .i64 0, .int .i64 0, .slice none 0 0, .slice none 0 0, .slice none 0 0] 126)).alloc (.cells #[.int .i64 0, .int .i64 1, .int .i64 40, .int .i64 1, .slice none 0 0, .slice none 0 0, .slice none 0 0] 126)
  have k1 := (Blk.new (w.alloc (.cells #[.int .i64 p.n, sv] 33)) #[.int .i64 0, .int .i64 0, .int .i64 0, .int .i64 0, .slice none 0 0, .slice none 0 0, .slice none 0 0] 126).alloc (.cells #[.int .i64 0, .int .i64 1, .int .i64 40, .int .i64 1, .slice none 0 0, .slice none 0 0, .slice none 0 0] 126)
  have k2 := Blk.new ((w.alloc (.cells #[.int .i64 p.n, sv] 33)).alloc (.cells #[.int .i64 0, .int .i64 0, .int .i64 0, .int .i64 0, .slice none 0 0, .slice none 0 0, .slice none 0 0] 126)) #[.int .i64 0, .int .i64 1, .int .i64 40, .int .i64 1, .slice none 0 0, .slice none 0 0, .slice none 0 0] 126
  have b0 := (((Below.refl w.heap.size w).alloc (Nat.le_refl _) (.cells #[.int .i64 p.n, sv] 33)).alloc (by simp) (.cells #[.int .i64 0, .int .i64 0, .int .i64 0, .int .i64 0, .slice none 0 0, .slice none 0 0, .slice none 0 0] 126)).alloc (by simp <;> omega) (.cells #[.int .i64 0, .int .i64 1, .int .i64 40, .int .i64 1, .slice none 0 0, .slice none 0 0, .slice none 0 0] 126)
  simp only [World.size_alloc] at k1 k2
  obtain ⟨w0, hw0⟩ : ∃ w0, ((w.alloc (.cells #[.int .i64 p.n, sv] 33)).alloc (.cells #[.int .i64 0, .int .i64 0, .int .i64 0, .int .i64 0, .slice none 0 0, .slice none 0 0, .slice none 0 0] 126)).alloc (.cells #[.int .i64 0, .int .i64 1, .int .i64 40, .int .i64 1, .slice none 0 0, .slice none 0 0, .slice none 0 0] 126) = w0 := ⟨_, rfl⟩
  rw [hw0] at k0 k1 k2 b0 ⊢
  clear hw0
  obtain ⟨S, hS⟩ : ∃ S, w.heap.size = S := ⟨_, rfl⟩
  have HS := hid hS
  rw [hS] at k0 k1 k2 b0 ⊢
  clear hS
  have H := hid h
  clear h
  go_loopw [5] (fun _ wr => ∃ (ln ld : Int) (low : Value), Blk wr S #[.int .i64 p.n, sv] 33 ∧ Blk wr (S + 1) #[.int .i64 0, .int .i64 0, .int .i64 0, .int .i64 0, .slice none 0 0, .slice none 0 0, .slice none 0 0] 126 ∧ Blk wr (S + 1 + 1) #[.int .i64 ln, .int .i64 ld, .int .i64 40, .int .i64 1, low, .slice none 0 0, .slice none 0 0] 126 ∧ LowOk p (S + 3) wr low ln ld ∧ Below S w wr) (fun _ wr => (102400001 - muAt wr (S + 1 + 1) 0).toNat)
  case atStart => exact ⟨0, 1, .slice none 0 0, k0, k1, k2, low_start p _ _, b0⟩
  case round =>
    obtain ⟨ln, ld, low, k01, k11, k21, hlow, b1⟩ := hrel
    clear k0 k1 k2 b0
    have c0 := k01.look 0 rfl
    have c1 := k01.look 1 rfl
    have d0 := k21.look 0 rfl
    have d1 := k21.look 1 rfl
    have hmu := muAt_of d0 d1
    have HMU := hid hmu
    clear hmu
    go_wp2_with fail
    refine (solve_any p ln ld _ _ (H.out.below (by rw [HS.out]; exact b1)) HP.out hlow.1).mono ?_
    rintro e w1 ⟨⟨vx, vl, rfl, hr⟩, hb1⟩
    have hlt1 := k21.lt
    have b2 := b1.trans (hb1.mono (by omega))
    have k02 := k01.below hb1
    have k12 := k11.below hb1
    have k22 := k21.below hb1
    have hlow2 := hlow.of fun es he => he.below hb1
    have hszl := hb1.size
    clear c0 c1 d0 d1 k01 k11 k21 b1 hlow
    rcases hr with ⟨k, hk, hl, rfl, -⟩ | ⟨h0, rfl, u, q, hcy, hx⟩
    · have hfeas : Feas p ((ln : Rat) / (ld : Rat)) := (feas_iff hlow2.1.1.1).1 ((chBad_iff HP.out hlow2.1).1 (solve_good HP.out hlow2.1 hk hl).1)
      have HF := hid hfeas
      clear hfeas hk hl hb1 hszl
      go_wp2_with fail
      go_loopw [9] (fun _ wr => ∃ (hn hd : Int) (high : Value), Blk wr S #[.int .i64 p.n, sv] 33 ∧ Blk wr (S + 1) #[.int .i64 0, .int .i64 0, .int .i64 0, .int .i64 0, .slice none 0 0, .slice none 0 0, .slice none 0 0] 126 ∧ Blk wr (S + 1 + 1) #[.int .i64 ln, .int .i64 ld, .int .i64 hn, .int .i64 hd, low, high, .slice none 0 0] 126 ∧ LowOk p (S + 3) wr low ln ld ∧ HighOk p (S + 3) wr high hn hd ∧ (ln : Rat) / (ld : Rat) ≤ (hn : Rat) / (hd : Rat) ∧ Below S w wr) (fun _ wr => (muAt wr (S + 1 + 1) 2).toNat)
      case atStart => exact ⟨40, 1, .slice none 0 0, k02, k12, k22, hlow2, high_start p _ _, le_forty hlow2.1, b2⟩
      case round =>
        obtain ⟨hn, hd, high, k03, k13, k23, hlow3, hhigh3, hle3, b3⟩ := hrel
        clear k02 k12 k22 hlow2 b2 hlt1
        have c0 := k03.look 0 rfl
        have c1 := k03.look 1 rfl
        have d0 := k23.look 2 rfl
        have d1 := k23.look 3 rfl
        have HMU2 := hid (muAt_of d0 d1)
        have HLE := hid hle3
        go_wp2_with fail
        refine (solve_any p hn hd _ _ (H.out.below (by rw [HS.out]; exact b3)) HP.out hhigh3.1).mono ?_
        rintro e w2 ⟨⟨vx2, vl2, rfl, hr⟩, hb2⟩
        have hlt3 := k23.lt
        have b4 := b3.trans (hb2.mono (by omega))
        have k04 := k03.below hb2
        have k14 := k13.below hb2
        have k24 := k23.below hb2
        have hlow4 := hlow3.of fun es he => he.below hb2
        have hhigh4 := hhigh3.of fun es he => he.below hb2
        have hszl := hb2.size
        clear c0 c1 d0 d1 k03 k13 k23 b3 hlow3 hhigh3 hle3
        rcases hr with ⟨k, hk, hl, rfl, -⟩ | ⟨h0, rfl, u, q, hcy, hx⟩
        · have hfeas2 : Feas p ((hn : Rat) / (hd : Rat)) := (feas_iff hhigh4.1.1.1).1 ((chBad_iff HP.out hhigh4.1).1 (solve_good HP.out hhigh4.1 hk hl).1)
          have hret : SzRet p (S + 3) w2 ln ld hn hd low high (.slice none 0 0) := .inr ⟨rfl, ⟨hlow4.1, hhigh4.1, hlow4.2.1, hhigh4.2.1, HF.out, hfeas2, hlow4.2.2.1, hhigh4.2.2.1⟩, hlow4, hhigh4⟩
          obtain ⟨xa, xn, xc, rfl⟩ := hlow4.shape
          obtain ⟨ya, yn, yc, rfl⟩ := hhigh4.shape
          have e0 := k24.look 0 rfl
          have e1 := k24.look 1 rfl
          have e2 := k24.look 2 rfl
          have e3 := k24.look 3 rfl
          have e4 := k24.look 4 rfl
          have e5 := k24.look 5 rfl
          have e6 := k24.look 6 rfl
          have r0 := k14.cell 0
          have r1 := k14.cell 1
          have r2 := k14.cell 2
          have r3 := k14.cell 3
          have r4 := k14.cell 4
          have r5 := k14.cell 5
          have r6 := k14.cell 6
          have q0 := k14.look 0 rfl
          have q1 := k14.look 1 rfl
          have q2 := k14.look 2 rfl
          have q3 := k14.look 3 rfl
          have q4 := k14.look 4 rfl
          have q5 := k14.look 5 rfl
          have q6 := k14.look 6 rfl
          have fz := k14.frozen
          clear hlow4 hhigh4 hfeas2 hk hl hb2 hszl k04 k14 k24
          go_wp2
          refine bodyPost_ret (v := .agg #[.int .i64 ln, .int .i64 ld, .int .i64 hn, .int .i64 hd, .slice xa xn xc, .slice ya yn yc, .slice none 0 0]) ?_ rfl ?_
          · simp [results, Try.results91, go_sem, r0, r1, r2, r3, r4, r5, r6]
          · exact ⟨⟨_, _, _, _, _, _, _, rfl, ⟨_, _, _, rfl⟩, ⟨_, _, _, rfl⟩, by rw [HS.out]; exact hret.seven _ _ _ _ _ _ _⟩, by rw [HS.out]; exact below_seven b4 _ _ _ _ _ _ _⟩
        · have hli : LoopIn p (S + 3) w2 vl2 (cycE p (bf p hn hd (p.n.toNat + 1)) u q) := by
            refine ⟨⟨u, cyc_ok hcy⟩, by rw [cycE_len]; exact hcy.pos, by rw [cycE_len]; have := hcy.le; have := HP.out.2.1; omega, ?_⟩
            rw [cycE_nums]
            exact SlR.mono hx (by omega)
          have hwt := cyc_wt hcy
          generalize cycE p (bf p hn hd (p.n.toNat + 1)) u q = es at hli hwt
          obtain ⟨a, hok⟩ := hli.ok
          have hbad := chain_bad hok hli.le hhigh4.1.1.1 hwt
          have hbd := hbad.bd HP.out
          obtain ⟨sC, hsC⟩ : ∃ z, sumC es = z := ⟨_, rfl⟩
          obtain ⟨sD, hsD⟩ : ∃ z, sumD es = z := ⟨_, rfl⟩
          have WG : Hid (Calls Try.prog 118 #[.agg #[.int .i64 p.n, sv], vl2] w2 fun e w' => e = .returned (.tuple #[.int .i64 sC, .int .i64 sD]) ∧ Below w2.heap.size w2 w') := hid (by
            have := weigh_any p es _ vl2 w2 (H.out.below (by rw [HS.out]; exact b4)) (SlR.mono hli.rd (Nat.zero_le _)) HP.out hok.mem hli.le
            rw [hsC, hsD] at this
            exact this)
          rw [hsC, hsD] at hbad hbd
          have hhn := high_next HP.out hbad hhigh4.1 hhigh4.2.1 HF.out HLE.out (size_bd hlow4.1).1
          obtain ⟨bv, ov, cv, hvl⟩ := hli.shape
          have c0 := k04.look 0 rfl
          have c1 := k04.look 1 rfl
          have HSC := hid hsC
          have HSD := hid hsD
          have HLI := hid hli
          have HMB := hid (muS_bd hhigh4.1)
          subst hvl
          clear hx hcy h0 hok hb2 hsC hsD hbad hli hszl hwt hhigh4
          go_wp2_with fail
          refine WG.out.mono ?_
          rintro e w3 ⟨rfl, hb3⟩
          have hli2 := hid (HLI.out.below hb3)
          have hlt4 := k24.lt
          have b5 := b4.trans (hb3.mono (by omega))
          have k05 := k04.below hb3
          have k15 := k14.below hb3
          have k25 := k24.below hb3
          have hlow5 := hlow4.of fun es he => he.below hb3
          clear c0 c1 k04 k14 k24 b4 hlow4 WG HLI hb3 hlt3
          have f0 := k25.frozen
          have g5 := k25.look 5 rfl
          have k26 := k25.set 5 (Value.slice (some ⟨bv, ov, none⟩) es.length cv)
          have k16 := k15.other (p := ⟨S + 1 + 1, 5, none⟩) (by show S + 1 ≠ S + 1 + 1; omega) (Value.slice (some ⟨bv, ov, none⟩) es.length cv)
          have k06 := k05.other (p := ⟨S + 1 + 1, 5, none⟩) (by show S ≠ S + 1 + 1; omega) (Value.slice (some ⟨bv, ov, none⟩) es.length cv)
          have b6 := b5.setCell (p := ⟨S + 1 + 1, 5, none⟩) (by show S ≤ S + 1 + 1; omega) (Value.slice (some ⟨bv, ov, none⟩) es.length cv)
          have hli3 := hid (hli2.out.set (q := ⟨S + 1 + 1, 5, none⟩) (by show S + 1 + 1 < S + 3; omega) (Value.slice (some ⟨bv, ov, none⟩) es.length cv))
          have hlow6 := hlow5.of fun zs he => he.set (q := ⟨S + 1 + 1, 5, none⟩) (by show S + 1 + 1 < S + 3; omega) (Value.slice (some ⟨bv, ov, none⟩) es.length cv)
          have hlt5 := k25.lt
          clear hlow5
          go_wp2_with fail
          obtain ⟨w4, hw4⟩ : ∃ w4, w3.setCell ⟨S + 1 + 1, 5, none⟩ (Value.slice (some ⟨bv, ov, none⟩) es.length cv) = w4 := ⟨_, rfl⟩
          rw [hw4] at k26 k16 k06 b6 hli3 hlow6 ⊢
          have hlt6 := k26.lt
          clear hw4 k25 k15 k05 b5 hli2 f0 g5
          refine (fNew_any (-sC) sD _ (by omega) (by omega) (by omega) (by omega)).mono ?_
          rintro e w5 ⟨rfl, hb5⟩
          have hli4 := hid (hli3.out.below hb5)
          have b7 := b6.trans (hb5.mono (by omega))
          have k27 := k26.below hb5
          have k17 := k16.below hb5
          have k07 := k06.below hb5
          have hlow7 := hlow6.of fun es he => he.below hb5
          have hlt7 := k27.lt
          clear k26 k16 k06 b6 hli3 hb5 hlt5 hlt6 hlow6
          obtain ⟨N1, hN1⟩ : ∃ z, newN (-sC) sD = z := ⟨_, rfl⟩
          obtain ⟨D1, hD1⟩ : ∃ z, newD (-sC) sD = z := ⟨_, rfl⟩
          obtain ⟨E1, hE1⟩ : ∃ z, newE (-sC) sD = z := ⟨_, rfl⟩
          rw [hN1, hD1] at hhn
          rw [hN1, hD1, hE1]
          obtain ⟨l0, l1, l2, l3, l4, l5, l6, l7⟩ := hhn
          have hmb1 := muS_bd l1
          have HM := hid (And.intro l7 hmb1)
          have f1 := k27.frozen
          have g2 := k27.look 2 rfl
          have g3 := k27.look 3 rfl
          have kA := (k27.set 2 (.int .i64 N1)).set 3 (.int .i64 D1)
          have kB := (k17.other (p := ⟨S + 1 + 1, 2, none⟩) (by show S + 1 ≠ S + 1 + 1; omega) (.int .i64 N1)).other (p := ⟨S + 1 + 1, 3, none⟩) (by show S + 1 ≠ S + 1 + 1; omega) (.int .i64 D1)
          have kC := (k07.other (p := ⟨S + 1 + 1, 2, none⟩) (by show S ≠ S + 1 + 1; omega) (.int .i64 N1)).other (p := ⟨S + 1 + 1, 3, none⟩) (by show S ≠ S + 1 + 1; omega) (.int .i64 D1)
          have bA := (b7.setCell (p := ⟨S + 1 + 1, 2, none⟩) (by show S ≤ S + 1 + 1; omega) (.int .i64 N1)).setCell (p := ⟨S + 1 + 1, 3, none⟩) (by show S ≤ S + 1 + 1; omega) (.int .i64 D1)
          have HLO := hid (hlow7.of fun zs he => (he.set (q := ⟨S + 1 + 1, 2, none⟩) (by show S + 1 + 1 < S + 3; omega) (.int .i64 N1)).set (q := ⟨S + 1 + 1, 3, none⟩) (by show S + 1 + 1 < S + 3; omega) (.int .i64 D1))
          have hhA : HighOk p (S + 3) ((w5.setCell ⟨S + 1 + 1, 2, none⟩ (.int .i64 N1)).setCell ⟨S + 1 + 1, 3, none⟩ (.int .i64 D1)) (Value.slice (some ⟨bv, ov, none⟩) es.length cv) N1 D1 :=
            ⟨l1, l2, l3, .inr ⟨l4, es, (hli4.out.set (q := ⟨S + 1 + 1, 2, none⟩) (by show S + 1 + 1 < S + 3; omega) _).set (q := ⟨S + 1 + 1, 3, none⟩) (by show S + 1 + 1 < S + 3; omega) _, by rw [HSD.out]; exact l0, by rw [HSC.out, HSD.out]; exact l5⟩⟩
          have HHA := hid hhA
          have HL6 := hid l6
          have hmuA := hid (muAt_of (kA.look 2 rfl) (kA.look 3 rfl))
          clear l0 l1 l2 l3 l4 l5 l6 l7 hmb1 hN1 hD1 hE1 hhA hli4 hlow7
          go_wp2_with fail
          refine ⟨⟨N1, D1, _, kC, kB, kA, HLO.out, HHA.out, HL6.out, bA⟩, ?_⟩
          rw [hmuA.out, HMU2.out]
          have := HM.out
          have := HMB.out
          omega
    · have hli : LoopIn p (S + 3) w1 vl (cycE p (bf p ln ld (p.n.toNat + 1)) u q) := by
        refine ⟨⟨u, cyc_ok hcy⟩, by rw [cycE_len]; exact hcy.pos, by rw [cycE_len]; have := hcy.le; have := HP.out.2.1; omega, ?_⟩
        rw [cycE_nums]
        exact SlR.mono hx (by omega)
      have hwt := cyc_wt hcy
      generalize cycE p (bf p ln ld (p.n.toNat + 1)) u q = es at hli hwt
      obtain ⟨a, hok⟩ := hli.ok
      have hbad := chain_bad hok hli.le hlow2.1.1.1 hwt
      have hbd := hbad.bd HP.out
      have hpos := hbad.pos
      obtain ⟨sC, hsC⟩ : ∃ z, sumC es = z := ⟨_, rfl⟩
      obtain ⟨sD, hsD⟩ : ∃ z, sumD es = z := ⟨_, rfl⟩
      have WG : Hid (Calls Try.prog 118 #[.agg #[.int .i64 p.n, sv], vl] w1 fun e w' => e = .returned (.tuple #[.int .i64 sC, .int .i64 sD]) ∧ Below w1.heap.size w1 w') := hid (by
        have := weigh_any p es _ vl w1 (H.out.below (by rw [HS.out]; exact b2)) (SlR.mono hli.rd (Nat.zero_le _)) HP.out hok.mem hli.le
        rw [hsC, hsD] at this
        exact this)
      rw [hsC, hsD] at hbad hbd hpos hwt
      obtain ⟨bv, ov, cv, hvl⟩ := hli.shape
      have c0 := k02.look 0 rfl
      have c1 := k02.look 1 rfl
      have HSC := hid hsC
      have HSD := hid hsD
      have HVL := hid hvl
      have HBAD := hid hbad
      have HLI := hid hli
      subst hvl
      clear hx hcy h0 hok hb1 hsC hsD hbad hli hszl
      go_wp2_with fail
      refine WG.out.mono ?_
      rintro e w2 ⟨rfl, hb2⟩
      have hli2 := hid (HLI.out.below hb2)
      have hlt2 := k22.lt
      have b3 := b2.trans (hb2.mono (by omega))
      have k03 := k02.below hb2
      have k13 := k12.below hb2
      have k23 := k22.below hb2
      have hlow3 := hlow2.of fun es he => he.below hb2
      clear c0 c1 k02 k12 k22 b2 hlow2 WG HLI hb2 hlt1
      have hlt3 := k23.lt
      clear HVL
      by_cases hD : 0 ≤ sD
      · have hno := hid (bad_ge HBAD.out hD hlow3.2.2.1)
        rcases hlow3.2.2.2 with ⟨rfl, rfl, rfl⟩ | ⟨hln, es1, hli1, hd1, hz1⟩
        · have hC : 0 < sC := by omega
          have kG : Blk ((w2.setCell ⟨S + 1 + 1, 6, none⟩ (.slice (some ⟨w2.heap.size, 0, none⟩) 1 1)).alloc (.cells #[Value.slice (some ⟨bv, ov, none⟩) es.length cv] 49)) w2.heap.size #[Value.slice (some ⟨bv, ov, none⟩) es.length cv] 49 := by
            have h1 := Blk.new (w2.setCell ⟨S + 1 + 1, 6, none⟩ (.slice (some ⟨w2.heap.size, 0, none⟩) 1 1)) #[Value.slice (some ⟨bv, ov, none⟩) es.length cv] 49
            rw [show (w2.setCell ⟨S + 1 + 1, 6, none⟩ (.slice (some ⟨w2.heap.size, 0, none⟩) 1 1)).heap.size = w2.heap.size by simp [World.setCell]] at h1
            exact h1
          have k24 := (k23.set 6 (.slice (some ⟨w2.heap.size, 0, none⟩) 1 1)).alloc (.cells #[Value.slice (some ⟨bv, ov, none⟩) es.length cv] 49)
          have k14 := (k13.other (p := ⟨S + 1 + 1, 6, none⟩) (by show S + 1 ≠ S + 1 + 1; omega) (.slice (some ⟨w2.heap.size, 0, none⟩) 1 1)).alloc (.cells #[Value.slice (some ⟨bv, ov, none⟩) es.length cv] 49)
          have b4 := (b3.setCell (p := ⟨S + 1 + 1, 6, none⟩) (by show S ≤ S + 1 + 1; omega) (.slice (some ⟨w2.heap.size, 0, none⟩) 1 1)).alloc (by simp [World.setCell]; omega) (.cells #[Value.slice (some ⟨bv, ov, none⟩) es.length cv] 49)
          have hret : SzRet p (S + 3) ((w2.setCell ⟨S + 1 + 1, 6, none⟩ (.slice (some ⟨w2.heap.size, 0, none⟩) 1 1)).alloc (.cells #[Value.slice (some ⟨bv, ov, none⟩) es.length cv] 49)) 0 1 40 1 (.slice none 0 0) (.slice none 0 0) (.slice (some ⟨w2.heap.size, 0, none⟩) 1 1) :=
            .inl ⟨hno.out, .inl ⟨w2.heap.size, _, es, rfl, by omega, kG, (hli2.out.set (q := ⟨S + 1 + 1, 6, none⟩) (by show S + 1 + 1 < S + 3; omega) _).below ((Below.refl _ _).alloc (Nat.le_refl _) _), .inl ⟨by rw [HSD.out]; exact hD, by rw [HSC.out]; exact hC⟩⟩⟩
          have f0 := k23.frozen
          have g6 := k23.look 6 rfl
          have e0 := k24.look 0 rfl
          have e1 := k24.look 1 rfl
          have e2 := k24.look 2 rfl
          have e3 := k24.look 3 rfl
          have e4 := k24.look 4 rfl
          have e5 := k24.look 5 rfl
          have e6 := k24.look 6 rfl
          have r0 := k14.cell 0
          have r1 := k14.cell 1
          have r2 := k14.cell 2
          have r3 := k14.cell 3
          have r4 := k14.cell 4
          have r5 := k14.cell 5
          have r6 := k14.cell 6
          have q0 := k14.look 0 rfl
          have q1 := k14.look 1 rfl
          have q2 := k14.look 2 rfl
          have q3 := k14.look 3 rfl
          have q4 := k14.look 4 rfl
          have q5 := k14.look 5 rfl
          have q6 := k14.look 6 rfl
          have fz := k14.frozen
          clear k23 k13 k14 k24 kG hlow3 hli2
          go_wp2
          refine bodyPost_ret (v := .agg #[.int .i64 0, .int .i64 1, .int .i64 40, .int .i64 1, .slice none 0 0, .slice none 0 0, .slice (some ⟨w2.heap.size, 0, none⟩) 1 1]) ?_ rfl ?_
          · simp [results, Try.results91, go_sem, r0, r1, r2, r3, r4, r5, r6]
          · exact ⟨⟨_, _, _, _, _, _, _, rfl, ⟨_, _, _, rfl⟩, ⟨_, _, _, rfl⟩, by rw [HS.out]; exact hret.seven _ _ _ _ _ _ _⟩, by rw [HS.out]; exact below_seven b4 _ _ _ _ _ _ _⟩
        · obtain ⟨bl, ol, cl, hlv⟩ := hli1.shape
          have HLV := hid hlv
          subst hlv
          have hz2 : 0 < sC * -sumD es1 + sD * sumC es1 := by
            have hld : 1 ≤ ld := hlow3.1.1.1
            have e1 : (sC * -sumD es1 + sD * sumC es1) * ld = -sumD es1 * (sC * ld + sD * ln) := by
              have e2 : sumC es1 * ld = -(sumD es1 * ln) := by omega
              have e3 : (sC * -sumD es1 + sD * sumC es1) * ld = sC * -sumD es1 * ld + sD * (sumC es1 * ld) := by grind
              rw [e3, e2]
              grind
            have e4 : 0 < -sumD es1 * (sC * ld + sD * ln) := Int.mul_pos (by omega) hwt
            rw [← e1] at e4
            exact Int.pos_of_mul_pos_left e4 (by omega)
          have hld1 := hid (And.intro hd1 hz2)
          have hsz0 : ((w2.setCell ⟨S + 1 + 1, 6, none⟩ (.slice (some ⟨w2.heap.size, 0, none⟩) 1 1)).alloc (.cells #[Value.slice (some ⟨bv, ov, none⟩) es.length cv] 49)).heap.size = w2.heap.size + 1 := by simp [World.setCell]
          have kG : Blk ((((w2.setCell ⟨S + 1 + 1, 6, none⟩ (.slice (some ⟨w2.heap.size, 0, none⟩) 1 1)).alloc (.cells #[Value.slice (some ⟨bv, ov, none⟩) es.length cv] 49)).alloc (.cells #[Value.slice (some ⟨bl, ol, none⟩) es1.length cl, Value.slice (some ⟨bv, ov, none⟩) es.length cv] 49)).setCell ⟨S + 1 + 1, 6, none⟩ (.slice (some ⟨w2.heap.size + 1, 0, none⟩) 2 2)) (w2.heap.size + 1) #[Value.slice (some ⟨bl, ol, none⟩) es1.length cl, Value.slice (some ⟨bv, ov, none⟩) es.length cv] 49 := by
            have h1 := Blk.new ((w2.setCell ⟨S + 1 + 1, 6, none⟩ (.slice (some ⟨w2.heap.size, 0, none⟩) 1 1)).alloc (.cells #[Value.slice (some ⟨bv, ov, none⟩) es.length cv] 49)) #[Value.slice (some ⟨bl, ol, none⟩) es1.length cl, Value.slice (some ⟨bv, ov, none⟩) es.length cv] 49
            rw [hsz0] at h1
            exact h1.other (by show w2.heap.size + 1 ≠ S + 1 + 1; omega) _
          have HSZ0 := hid hsz0
          clear hsz0
          have k24 := (((k23.set 6 (.slice (some ⟨w2.heap.size, 0, none⟩) 1 1)).alloc (.cells #[Value.slice (some ⟨bv, ov, none⟩) es.length cv] 49)).alloc (.cells #[Value.slice (some ⟨bl, ol, none⟩) es1.length cl, Value.slice (some ⟨bv, ov, none⟩) es.length cv] 49)).set 6 (.slice (some ⟨w2.heap.size + 1, 0, none⟩) 2 2)
          have k14 := (((k13.other (p := ⟨S + 1 + 1, 6, none⟩) (by show S + 1 ≠ S + 1 + 1; omega) (.slice (some ⟨w2.heap.size, 0, none⟩) 1 1)).alloc (.cells #[Value.slice (some ⟨bv, ov, none⟩) es.length cv] 49)).alloc (.cells #[Value.slice (some ⟨bl, ol, none⟩) es1.length cl, Value.slice (some ⟨bv, ov, none⟩) es.length cv] 49)).other (p := ⟨S + 1 + 1, 6, none⟩) (by show S + 1 ≠ S + 1 + 1; omega) (.slice (some ⟨w2.heap.size + 1, 0, none⟩) 2 2)
          have b4 := (((b3.setCell (p := ⟨S + 1 + 1, 6, none⟩) (by show S ≤ S + 1 + 1; omega) (.slice (some ⟨w2.heap.size, 0, none⟩) 1 1)).alloc (by simp [World.setCell]; omega) (.cells #[Value.slice (some ⟨bv, ov, none⟩) es.length cv] 49)).alloc (by have := HSZ0.out; omega) (.cells #[Value.slice (some ⟨bl, ol, none⟩) es1.length cl, Value.slice (some ⟨bv, ov, none⟩) es.length cv] 49)).setCell (p := ⟨S + 1 + 1, 6, none⟩) (by show S ≤ S + 1 + 1; omega) (.slice (some ⟨w2.heap.size + 1, 0, none⟩) 2 2)
          have tr : ∀ {z zs}, LoopIn p (S + 3) w2 z zs → LoopIn p (S + 3) ((((w2.setCell ⟨S + 1 + 1, 6, none⟩ (.slice (some ⟨w2.heap.size, 0, none⟩) 1 1)).alloc (.cells #[Value.slice (some ⟨bv, ov, none⟩) es.length cv] 49)).alloc (.cells #[Value.slice (some ⟨bl, ol, none⟩) es1.length cl, Value.slice (some ⟨bv, ov, none⟩) es.length cv] 49)).setCell ⟨S + 1 + 1, 6, none⟩ (.slice (some ⟨w2.heap.size + 1, 0, none⟩) 2 2)) z zs := fun h => (((h.set (q := ⟨S + 1 + 1, 6, none⟩) (by show S + 1 + 1 < S + 3; omega) _).below ((Below.refl _ _).alloc (Nat.le_refl _) _)).below ((Below.refl _ _).alloc (Nat.le_refl _) _)).set (q := ⟨S + 1 + 1, 6, none⟩) (by show S + 1 + 1 < S + 3; omega) _
          have hret : SzRet p (S + 3) ((((w2.setCell ⟨S + 1 + 1, 6, none⟩ (.slice (some ⟨w2.heap.size, 0, none⟩) 1 1)).alloc (.cells #[Value.slice (some ⟨bv, ov, none⟩) es.length cv] 49)).alloc (.cells #[Value.slice (some ⟨bl, ol, none⟩) es1.length cl, Value.slice (some ⟨bv, ov, none⟩) es.length cv] 49)).setCell ⟨S + 1 + 1, 6, none⟩ (.slice (some ⟨w2.heap.size + 1, 0, none⟩) 2 2)) ln ld 40 1 (Value.slice (some ⟨bl, ol, none⟩) es1.length cl) (.slice none 0 0) (.slice (some ⟨w2.heap.size + 1, 0, none⟩) 2 2) :=
            .inl ⟨hno.out, .inr ⟨w2.heap.size + 1, _, _, es1, es, rfl, by omega, kG, tr hli1, tr hli2.out, hld1.out.1, by rw [HSD.out]; exact hD, by rw [HSC.out, HSD.out]; exact hld1.out.2⟩⟩
          have f0 := k23.frozen
          have g6 := k23.look 6 rfl
          have g4 := ((k23.set 6 (.slice (some ⟨w2.heap.size, 0, none⟩) 1 1)).alloc (.cells #[Value.slice (some ⟨bv, ov, none⟩) es.length cv] 49)).look 4 rfl
          have f1 := (((k23.set 6 (.slice (some ⟨w2.heap.size, 0, none⟩) 1 1)).alloc (.cells #[Value.slice (some ⟨bv, ov, none⟩) es.length cv] 49)).alloc (.cells #[Value.slice (some ⟨bl, ol, none⟩) es1.length cl, Value.slice (some ⟨bv, ov, none⟩) es.length cv] 49)).frozen
          have g61 := (((k23.set 6 (.slice (some ⟨w2.heap.size, 0, none⟩) 1 1)).alloc (.cells #[Value.slice (some ⟨bv, ov, none⟩) es.length cv] 49)).alloc (.cells #[Value.slice (some ⟨bl, ol, none⟩) es1.length cl, Value.slice (some ⟨bv, ov, none⟩) es.length cv] 49)).look 6 rfl
          have e0 := k24.look 0 rfl
          have e1 := k24.look 1 rfl
          have e2 := k24.look 2 rfl
          have e3 := k24.look 3 rfl
          have e4 := k24.look 4 rfl
          have e5 := k24.look 5 rfl
          have e6 := k24.look 6 rfl
          have r0 := k14.cell 0
          have r1 := k14.cell 1
          have r2 := k14.cell 2
          have r3 := k14.cell 3
          have r4 := k14.cell 4
          have r5 := k14.cell 5
          have r6 := k14.cell 6
          have q0 := k14.look 0 rfl
          have q1 := k14.look 1 rfl
          have q2 := k14.look 2 rfl
          have q3 := k14.look 3 rfl
          have q4 := k14.look 4 rfl
          have q5 := k14.look 5 rfl
          have q6 := k14.look 6 rfl
          have fz := k14.frozen
          clear k13 k14 k24 kG hlow3 hli2 hld1 hz1 hz2 hwt hpos hli1 k23 HSZ0 tr
          go_wp2
          refine bodyPost_ret (v := .agg #[.int .i64 ln, .int .i64 ld, .int .i64 40, .int .i64 1, Value.slice (some ⟨bl, ol, none⟩) es1.length cl, .slice none 0 0, .slice (some ⟨w2.heap.size + 1, 0, none⟩) 2 2]) ?_ rfl ?_
          · simp [results, Try.results91, go_sem, r0, r1, r2, r3, r4, r5, r6]
          · exact ⟨⟨_, _, _, _, _, _, _, rfl, ⟨_, _, _, rfl⟩, ⟨_, _, _, rfl⟩, by rw [HS.out]; exact hret.seven _ _ _ _ _ _ _⟩, by rw [HS.out]; exact below_seven b4 _ _ _ _ _ _ _⟩
      · have hD' : sD < 0 := by omega
        have f0 := k23.frozen
        have g4 := k23.look 4 rfl
        have k24 := k23.set 4 (Value.slice (some ⟨bv, ov, none⟩) es.length cv)
        have k14 := k13.other (p := ⟨S + 1 + 1, 4, none⟩) (by show S + 1 ≠ S + 1 + 1; omega) (Value.slice (some ⟨bv, ov, none⟩) es.length cv)
        have k04 := k03.other (p := ⟨S + 1 + 1, 4, none⟩) (by show S ≠ S + 1 + 1; omega) (Value.slice (some ⟨bv, ov, none⟩) es.length cv)
        have b4 := b3.setCell (p := ⟨S + 1 + 1, 4, none⟩) (by show S ≤ S + 1 + 1; omega) (Value.slice (some ⟨bv, ov, none⟩) es.length cv)
        have hli3 := hid (hli2.out.set (q := ⟨S + 1 + 1, 4, none⟩) (by show S + 1 + 1 < S + 3; omega) (Value.slice (some ⟨bv, ov, none⟩) es.length cv))
        clear hwt hpos
        go_wp2_with fail
        obtain ⟨w3, hw3⟩ : ∃ w3, w2.setCell ⟨S + 1 + 1, 4, none⟩ (Value.slice (some ⟨bv, ov, none⟩) es.length cv) = w3 := ⟨_, rfl⟩
        rw [hw3] at k24 k14 k04 b4 hli3 ⊢
        have hlt4 := k24.lt
        clear hw3 k23 k13 k03 b3 hli2 f0 g4
        refine (fNew_any sC (-sD) _ (by omega) (by omega) (by omega) (by omega)).mono ?_
        rintro e w4 ⟨rfl, hb4⟩
        have hli4 := hid (hli3.out.below hb4)
        have b5 := b4.trans (hb4.mono (by omega))
        have k25 := k24.below hb4
        have k15 := k14.below hb4
        have k05 := k04.below hb4
        have hlt5 := k25.lt
        clear k24 k14 k04 b4 hli3 hb4 hlt3 hlt4
        obtain ⟨N1, hN1⟩ : ∃ z, newN sC (-sD) = z := ⟨_, rfl⟩
        obtain ⟨D1, hD1⟩ : ∃ z, newD sC (-sD) = z := ⟨_, rfl⟩
        obtain ⟨E1, hE1⟩ : ∃ z, newE sC (-sD) = z := ⟨_, rfl⟩
        rw [hN1, hD1, hE1]
        have f1 := k25.frozen
        have g0 := k25.look 0 rfl
        have g1 := k25.look 1 rfl
        have hw40 : IntKind.i64.wrap (-40 * sD) = -40 * sD := by rw [IntWalk.i64_left]; unfold wrap64; omega
        by_cases hpast : -40 * sD < sC
        · have hno := hid (bad_past HBAD.out hD' hpast)
          have kA := (k25.set 0 (.int .i64 N1)).set 1 (.int .i64 D1)
          have hszA : ((w4.setCell ⟨S + 1 + 1, 0, none⟩ (.int .i64 N1)).setCell ⟨S + 1 + 1, 1, none⟩ (.int .i64 D1)).heap.size = w4.heap.size := by simp [World.setCell]
          have kG : Blk ((((w4.setCell ⟨S + 1 + 1, 0, none⟩ (.int .i64 N1)).setCell ⟨S + 1 + 1, 1, none⟩ (.int .i64 D1)).setCell ⟨S + 1 + 1, 6, none⟩ (.slice (some ⟨w4.heap.size, 0, none⟩) 1 1)).alloc (.cells #[Value.slice (some ⟨bv, ov, none⟩) es.length cv] 49)) w4.heap.size #[Value.slice (some ⟨bv, ov, none⟩) es.length cv] 49 := by
            have h1 := Blk.new (((w4.setCell ⟨S + 1 + 1, 0, none⟩ (.int .i64 N1)).setCell ⟨S + 1 + 1, 1, none⟩ (.int .i64 D1)).setCell ⟨S + 1 + 1, 6, none⟩ (.slice (some ⟨w4.heap.size, 0, none⟩) 1 1)) #[Value.slice (some ⟨bv, ov, none⟩) es.length cv] 49
            rw [show (((w4.setCell ⟨S + 1 + 1, 0, none⟩ (.int .i64 N1)).setCell ⟨S + 1 + 1, 1, none⟩ (.int .i64 D1)).setCell ⟨S + 1 + 1, 6, none⟩ (.slice (some ⟨w4.heap.size, 0, none⟩) 1 1)).heap.size = w4.heap.size by simp [World.setCell]] at h1
            exact h1
          have k24 := (kA.set 6 (.slice (some ⟨w4.heap.size, 0, none⟩) 1 1)).alloc (.cells #[Value.slice (some ⟨bv, ov, none⟩) es.length cv] 49)
          have k14 := (((k15.other (p := ⟨S + 1 + 1, 0, none⟩) (by show S + 1 ≠ S + 1 + 1; omega) (.int .i64 N1)).other (p := ⟨S + 1 + 1, 1, none⟩) (by show S + 1 ≠ S + 1 + 1; omega) (.int .i64 D1)).other (p := ⟨S + 1 + 1, 6, none⟩) (by show S + 1 ≠ S + 1 + 1; omega) (.slice (some ⟨w4.heap.size, 0, none⟩) 1 1)).alloc (.cells #[Value.slice (some ⟨bv, ov, none⟩) es.length cv] 49)
          have b4 := (((b5.setCell (p := ⟨S + 1 + 1, 0, none⟩) (by show S ≤ S + 1 + 1; omega) (.int .i64 N1)).setCell (p := ⟨S + 1 + 1, 1, none⟩) (by show S ≤ S + 1 + 1; omega) (.int .i64 D1)).setCell (p := ⟨S + 1 + 1, 6, none⟩) (by show S ≤ S + 1 + 1; omega) (.slice (some ⟨w4.heap.size, 0, none⟩) 1 1)).alloc (by simp [World.setCell]; omega) (.cells #[Value.slice (some ⟨bv, ov, none⟩) es.length cv] 49)
          have hret : SzRet p (S + 3) ((((w4.setCell ⟨S + 1 + 1, 0, none⟩ (.int .i64 N1)).setCell ⟨S + 1 + 1, 1, none⟩ (.int .i64 D1)).setCell ⟨S + 1 + 1, 6, none⟩ (.slice (some ⟨w4.heap.size, 0, none⟩) 1 1)).alloc (.cells #[Value.slice (some ⟨bv, ov, none⟩) es.length cv] 49)) N1 D1 40 1 (Value.slice (some ⟨bv, ov, none⟩) es.length cv) (.slice none 0 0) (.slice (some ⟨w4.heap.size, 0, none⟩) 1 1) :=
            .inl ⟨hno.out, .inl ⟨w4.heap.size, _, es, rfl, by omega, kG, (((hli4.out.set (q := ⟨S + 1 + 1, 0, none⟩) (by show S + 1 + 1 < S + 3; omega) _).set (q := ⟨S + 1 + 1, 1, none⟩) (by show S + 1 + 1 < S + 3; omega) _).set (q := ⟨S + 1 + 1, 6, none⟩) (by show S + 1 + 1 < S + 3; omega) _).below ((Below.refl _ _).alloc (Nat.le_refl _) _), .inr ⟨by rw [HSD.out]; exact hD', by rw [HSC.out, HSD.out]; exact hpast⟩⟩⟩
          have fA := kA.frozen
          have gA := kA.look 6 rfl
          clear hszA
          have e0 := k24.look 0 rfl
          have e1 := k24.look 1 rfl
          have e2 := k24.look 2 rfl
          have e3 := k24.look 3 rfl
          have e4 := k24.look 4 rfl
          have e5 := k24.look 5 rfl
          have e6 := k24.look 6 rfl
          have r0 := k14.cell 0
          have r1 := k14.cell 1
          have r2 := k14.cell 2
          have r3 := k14.cell 3
          have r4 := k14.cell 4
          have r5 := k14.cell 5
          have r6 := k14.cell 6
          have q0 := k14.look 0 rfl
          have q1 := k14.look 1 rfl
          have q2 := k14.look 2 rfl
          have q3 := k14.look 3 rfl
          have q4 := k14.look 4 rfl
          have q5 := k14.look 5 rfl
          have q6 := k14.look 6 rfl
          have fz := k14.frozen
          clear k25 k15 k05 k14 k24 kG hlow3 hli4 kA hN1 hD1 hE1
          go_wp2
          refine bodyPost_ret (v := .agg #[.int .i64 N1, .int .i64 D1, .int .i64 40, .int .i64 1, Value.slice (some ⟨bv, ov, none⟩) es.length cv, .slice none 0 0, .slice (some ⟨w4.heap.size, 0, none⟩) 1 1]) ?_ rfl ?_
          · simp [results, Try.results91, go_sem, r0, r1, r2, r3, r4, r5, r6]
          · exact ⟨⟨_, _, _, _, _, _, _, rfl, ⟨_, _, _, rfl⟩, ⟨_, _, _, rfl⟩, by rw [HS.out]; exact hret.seven _ _ _ _ _ _ _⟩, by rw [HS.out]; exact below_seven b4 _ _ _ _ _ _ _⟩
        · have hln := low_next HP.out HBAD.out hlow3.1 hlow3.2.1 hD' (by omega)
          rw [hN1, hD1] at hln
          obtain ⟨l1, l2, l3, l4, l5, l6⟩ := hln
          have hmb1 := muS_bd hlow3.1
          have hmb2 := muS_bd l1
          have HM := hid (And.intro l6 (And.intro hmb1 hmb2))
          have kA := (k25.set 0 (.int .i64 N1)).set 1 (.int .i64 D1)
          have kB := (k15.other (p := ⟨S + 1 + 1, 0, none⟩) (by show S + 1 ≠ S + 1 + 1; omega) (.int .i64 N1)).other (p := ⟨S + 1 + 1, 1, none⟩) (by show S + 1 ≠ S + 1 + 1; omega) (.int .i64 D1)
          have kC := (k05.other (p := ⟨S + 1 + 1, 0, none⟩) (by show S ≠ S + 1 + 1; omega) (.int .i64 N1)).other (p := ⟨S + 1 + 1, 1, none⟩) (by show S ≠ S + 1 + 1; omega) (.int .i64 D1)
          have bA := (b5.setCell (p := ⟨S + 1 + 1, 0, none⟩) (by show S ≤ S + 1 + 1; omega) (.int .i64 N1)).setCell (p := ⟨S + 1 + 1, 1, none⟩) (by show S ≤ S + 1 + 1; omega) (.int .i64 D1)
          have hlA : LowOk p (S + 3) ((w4.setCell ⟨S + 1 + 1, 0, none⟩ (.int .i64 N1)).setCell ⟨S + 1 + 1, 1, none⟩ (.int .i64 D1)) (Value.slice (some ⟨bv, ov, none⟩) es.length cv) N1 D1 :=
            ⟨l1, l2, l3, .inr ⟨l4, es, (hli4.out.set (q := ⟨S + 1 + 1, 0, none⟩) (by show S + 1 + 1 < S + 3; omega) _).set (q := ⟨S + 1 + 1, 1, none⟩) (by show S + 1 + 1 < S + 3; omega) _, by rw [HSD.out]; exact hD', by rw [HSC.out, HSD.out]; exact l5⟩⟩
          have hmuA := hid (muAt_of (kA.look 0 rfl) (kA.look 1 rfl))
          have HLA := hid hlA
          clear l1 l2 l3 l4 l5 l6 hmb1 hmb2 hlow3 hN1 hD1 hE1 hlA hli4
          go_wp2_with fail
          refine ⟨⟨N1, D1, _, kC, kB, kA, HLA.out, bA⟩, ?_⟩
          rw [hmuA.out, HMU.out]
          have := HM.out
          omega

end Go.Proofs.Ytmknengmjepdaaa
