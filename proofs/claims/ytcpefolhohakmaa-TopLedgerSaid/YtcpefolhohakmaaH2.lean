/- Walk of cost. -/
import Derived.Test.YtcpefolhohakmaaH1
namespace Go.Proofs.Ytcpefolhohakmaa
open Go.RowKit
attribute [local irreducible] seqS seqST walkV walkJ

theorem VarI.other {B g : Nat} {w : World} {v : Value} {t : TypeId} {sz : Nat} {st : Bool} {rc : Array Value} (h : VarI B w v t sz st rc) (hne : v ≠ .pointer (some ⟨g, 0, none⟩)) (cs : Array Value) : VarI B (w.setRow g cs) v t sz st rc := by
  obtain ⟨g', c, h1, h2, h3, h4⟩ := h
  refine ⟨g', c, h1, h2, row_blk_other h3 (fun e => hne (by rw [h1, e])), h4⟩
theorem VarI.fresh {B : Nat} {w : World} {v : Value} {t : TypeId} {sz : Nat} {st : Bool} {rc : Array Value} (h : VarI B w v t sz st rc) : v ≠ .pointer (some ⟨w.heap.size, 0, none⟩) := by
  obtain ⟨g', c, h1, h2, h3, h4⟩ := h
  rw [h1]
  intro e
  injection e with e1
  injection e1 with e2
  injection e2 with e3
  have := h3.lt
  omega
theorem pinfo4 : (Try.prog.info? 135).map (·.size) = some 4 := by kernel_rfl

/-- Two variables that are filled with what two calls hand back: c1, c2 the calls, p, q the variables, s, t the stores. -/
structure TwoC (k1 k2 ip iq js jt : Nat) (B : Nat) (w0 : World) (ty : TypeId) (rc1 rc2 : Array Value) (l : Nat → Bool) (V : Nat → Value) (w : World) : Prop where
  b : Below B w0 w
  c1 : l k1 = true → V k1 = .agg rc1
  c2 : l k2 = true → V k2 = .agg rc2
  p : l ip = true → VarI B w (V ip) ty 4 (l js) rc1
  q : l iq = true → VarI B w (V iq) ty 4 (l jt) rc2
  ne : l ip = true → l iq = true → V ip ≠ V iq

/-- How far two numbers lie apart. -/
def dN (x y : Int) : Int := max (x - y) (y - x)
def g4 (g : Gv) : List Int := [g.a, g.b, g.c, g.d]
def costT (X Y W : List Int) : Nat → Int
  | 0 => 0
  | k + 1 => costT X Y W k + dN (X.getD k 0) (Y.getD k 0) * W.getD k 0
def AlwT (X Y L : List Int) (k : Nat) : Prop := ∀ i, i < k → dN (X.getD i 0) (Y.getD i 0) ≤ L.getD i 0
instance (X Y L : List Int) (k : Nat) : Decidable (AlwT X Y L k) := by unfold AlwT; exact inferInstance
/-- Two gloves are allowed as a pair. -/
def Alw (u : Ru) (a b : Gv) : Prop := AlwT (g4 a) (g4 b) (g4 u.lim) 4
instance (u : Ru) (a b : Gv) : Decidable (Alw u a b) := by unfold Alw; exact inferInstance
def costV (u : Ru) (a b : Gv) : Int := if Alw u a b then costT (g4 a) (g4 b) (g4 u.wt) 4 else -1
theorem dN_comm (x y : Int) : dN x y = dN y x := by unfold dN; omega
theorem Alw.symm {u : Ru} {a b : Gv} (h : Alw u a b) : Alw u b a := fun i hi => by rw [dN_comm]; exact h i hi
def In1000 (l : List Int) : Prop := ∀ i, 0 ≤ l.getD i 0 ∧ l.getD i 0 ≤ 1000
theorem g4_in {g : Gv} (h : GOk g) : In1000 (g4 g) := by
  obtain ⟨h0, h1, h2, h3⟩ := h
  intro i
  rcases i with _ | _ | _ | _ | i
  · exact h0
  · exact h1
  · exact h2
  · exact h3
  · simp [g4]
theorem dN_bd {x y : Int} (hx : 0 ≤ x ∧ x ≤ 1000) (hy : 0 ≤ y ∧ y ≤ 1000) : 0 ≤ dN x y ∧ dN x y ≤ 1000 := by unfold dN; omega
theorem costT_bd {X Y W : List Int} (hX : In1000 X) (hY : In1000 Y) (hW : In1000 W) (k : Nat) : 0 ≤ costT X Y W k ∧ costT X Y W k ≤ 1000000 * k := by
  induction k with
  | zero => exact ⟨Int.le_refl _, Int.le_refl _⟩
  | succ k ih =>
    have hd := dN_bd (hX k) (hY k)
    have hw := hW k
    have h1 := Int.mul_nonneg hd.1 hw.1
    have h2 : dN (X.getD k 0) (Y.getD k 0) * W.getD k 0 ≤ 1000 * 1000 := Int.mul_le_mul hd.2 hw.2 hw.1 (by decide)
    show 0 ≤ costT X Y W k + _ ∧ costT X Y W k + _ ≤ _
    omega
theorem costV_nonneg {u : Ru} {a b : Gv} (ha : GOk a) (hb : GOk b) (hu : RuOk u) : 0 ≤ costV u a b ↔ Alw u a b := by
  unfold costV
  split
  · exact ⟨fun _ => ‹_›, fun _ => (costT_bd (g4_in ha) (g4_in hb) (g4_in hu.1) 4).1⟩
  · exact ⟨fun h => absurd h (by decide), fun h => absurd h ‹_›⟩
theorem g4_get (g : Gv) {i : Nat} (hi : i < 4) : (#[Value.int .i64 g.a, .int .i64 g.b, .int .i64 g.c, .int .i64 g.d] : Array Value)[i]? = some (.int .i64 ((g4 g).getD i 0)) := by
  rcases i with _ | _ | _ | _ | i
  · rfl
  · rfl
  · rfl
  · rfl
  · omega

theorem run_max (ats : Array TypeId) (ty : TypeId) {x y z : Int} (h : max x y = z) : Builtin.max_ ats ty #[.int .i64 x, .int .i64 y] = pure (.int .i64 z) := by
  show (pure (Value.int .i64 (if y > x then y else x)) : Sem Value) = _
  have : (if y > x then y else x) = z := by rw [← h]; split <;> omega
  rw [this]

set_option maxHeartbeats 4000000 in
theorem cost_any (u : Ru) (a b : Gv) (w : World) (hu : RuOk u) (ha : GOk a) (hb : GOk b) :
    Calls Try.prog 63 #[ruV u, gV a, gV b] w fun r w' => r = .returned (.int .i64 (costV u a b)) ∧ Below w.heap.size w w' := by
  have M1 := hid (fun w => measures_any a w)
  have M2 := hid (fun w => measures_any b w)
  have M3 := hid (fun w => measures_any u.wt w)
  have M4 := hid (fun w => measures_any u.lim w)
  have HXi := hid (g4_in ha)
  have HYi := hid (g4_in hb)
  have HWi := hid (g4_in hu.1)
  have HLi := hid (g4_in hu.2)
  have HGa := hid (fun i (hi : i < 4) => g4_get a hi)
  have HGb := hid (fun i (hi : i < 4) => g4_get b hi)
  have HGw := hid (fun i (hi : i < 4) => g4_get u.wt hi)
  have HGl := hid (fun i (hi : i < 4) => g4_get u.lim hi)
  obtain ⟨C, hC⟩ : ∃ C, costV u a b = C := ⟨_, rfl⟩
  have HC : Hid (C = if AlwT (g4 a) (g4 b) (g4 u.lim) 4 then costT (g4 a) (g4 b) (g4 u.wt) 4 else -1) := hid (by rw [← hC]; rfl)
  rw [hC]
  clear hC hu ha hb
  obtain ⟨X, hX⟩ : ∃ X, g4 a = X := ⟨_, rfl⟩
  obtain ⟨Y, hY⟩ : ∃ X, g4 b = X := ⟨_, rfl⟩
  obtain ⟨Wt, hW⟩ : ∃ X, g4 u.wt = X := ⟨_, rfl⟩
  obtain ⟨Li, hL⟩ : ∃ X, g4 u.lim = X := ⟨_, rfl⟩
  rw [hX] at HXi HGa
  rw [hY] at HYi HGb
  rw [hW] at HWi HGw
  rw [hL] at HLi HGl
  rw [hX, hY, hW, hL] at HC
  clear hX hY hW hL
  obtain ⟨⟨wa, wb, wc, wd⟩, ⟨la, lb, lc, ld⟩⟩ := u
  obtain ⟨a1, a2, a3, a4⟩ := a
  obtain ⟨b1, b2, b3, b4⟩ := b
  go_enter Try.func63, Try.ntmps63
  go_wp2_with fail
  have kU := ((Blk.new w #[.int .i64 wa, .int .i64 wb, .int .i64 wc, .int .i64 wd, .int .i64 la, .int .i64 lb, .int .i64 lc, .int .i64 ld] 35).alloc (.cells #[.int .i64 a1, .int .i64 a2, .int .i64 a3, .int .i64 a4] 33)).alloc (.cells #[.int .i64 b1, .int .i64 b2, .int .i64 b3, .int .i64 b4] 33)
  have kA := (Blk.new (w.alloc (.cells #[.int .i64 wa, .int .i64 wb, .int .i64 wc, .int .i64 wd, .int .i64 la, .int .i64 lb, .int .i64 lc, .int .i64 ld] 35)) #[.int .i64 a1, .int .i64 a2, .int .i64 a3, .int .i64 a4] 33).alloc (.cells #[.int .i64 b1, .int .i64 b2, .int .i64 b3, .int .i64 b4] 33)
  have kB := Blk.new ((w.alloc (.cells #[.int .i64 wa, .int .i64 wb, .int .i64 wc, .int .i64 wd, .int .i64 la, .int .i64 lb, .int .i64 lc, .int .i64 ld] 35)).alloc (.cells #[.int .i64 a1, .int .i64 a2, .int .i64 a3, .int .i64 a4] 33)) #[.int .i64 b1, .int .i64 b2, .int .i64 b3, .int .i64 b4] 33
  have hbw : Below w.heap.size w (((w.alloc (.cells #[.int .i64 wa, .int .i64 wb, .int .i64 wc, .int .i64 wd, .int .i64 la, .int .i64 lb, .int .i64 lc, .int .i64 ld] 35)).alloc (.cells #[.int .i64 a1, .int .i64 a2, .int .i64 a3, .int .i64 a4] 33)).alloc (.cells #[.int .i64 b1, .int .i64 b2, .int .i64 b3, .int .i64 b4] 33)) := by (repeat' (first | exact Below.refl _ _ | assumption | (refine Below.setCell ?_ ?_ _) | (refine Below.alloc ?_ ?_ _) | (refine below_drewN0 ?_ _) | (refine Below.drew ?_))) <;> (first | exact Nat.le_refl _ | (simp; done) | (simp; omega) | omega)
  have eA : (w.alloc (.cells #[.int .i64 wa, .int .i64 wb, .int .i64 wc, .int .i64 wd, .int .i64 la, .int .i64 lb, .int .i64 lc, .int .i64 ld] 35)).heap.size = w.heap.size + 1 := by simp
  have eB : ((w.alloc (.cells #[.int .i64 wa, .int .i64 wb, .int .i64 wc, .int .i64 wd, .int .i64 la, .int .i64 lb, .int .i64 lc, .int .i64 ld] 35)).alloc (.cells #[.int .i64 a1, .int .i64 a2, .int .i64 a3, .int .i64 a4] 33)).heap.size = w.heap.size + 2 := by simp
  rw [eA] at kA
  rw [eB] at kB
  clear eA eB
  generalize ((w.alloc (.cells #[.int .i64 wa, .int .i64 wb, .int .i64 wc, .int .i64 wd, .int .i64 la, .int .i64 lb, .int .i64 lc, .int .i64 ld] 35)).alloc (.cells #[.int .i64 a1, .int .i64 a2, .int .i64 a3, .int .i64 a4] 33)).alloc (.cells #[.int .i64 b1, .int .i64 b2, .int .i64 b3, .int .i64 b4] 33) = W1 at kU kA kB hbw ⊢
  have z0kA := fun y : SubT (Below W1.heap.size) W1.drew => (kA.drew.below' y.b kA.lt).look 0 rfl
  have z1kA := fun y : SubT (Below W1.heap.size) W1.drew => (kA.drew.below' y.b kA.lt).look 1 rfl
  have z2kA := fun y : SubT (Below W1.heap.size) W1.drew => (kA.drew.below' y.b kA.lt).look 2 rfl
  have z3kA := fun y : SubT (Below W1.heap.size) W1.drew => (kA.drew.below' y.b kA.lt).look 3 rfl
  have z0kB := fun y : SubT (Below W1.heap.size) W1.drew => (kB.drew.below' y.b kB.lt).look 0 rfl
  have z1kB := fun y : SubT (Below W1.heap.size) W1.drew => (kB.drew.below' y.b kB.lt).look 1 rfl
  have z2kB := fun y : SubT (Below W1.heap.size) W1.drew => (kB.drew.below' y.b kB.lt).look 2 rfl
  have z3kB := fun y : SubT (Below W1.heap.size) W1.drew => (kB.drew.below' y.b kB.lt).look 3 rfl
  have hd0 := (Below.refl W1.heap.size W1).drew
  refine wp_walkJ (T := Below (W1.heap.size)) (belowV_pre _) (.rd 0 (.rd 2 (.inv [1, 3, 4, 5, 6, 7]))) (by kernel_rfl) rfl (by kernel_rfl) (by kernel_rfl) ?_
  iterate 2 (refine walkJ_rd rfl (fun K hK => ?_); go_simp; refine hK _ ?_; clear hK K)
  clear z0kA z1kA z2kA z3kA z0kB z1kB z2kB z3kB
  obtain ⟨Wd, hWd⟩ : ∃ Wd, W1.drew = Wd := ⟨_, rfl⟩
  have hs9 : W1.heap.size = Wd.heap.size := by rw [← hWd]; rfl
  rw [hWd] at hd0 ⊢
  have HS9 := hid hs9
  clear hs9 hWd
  refine walkJ_inv (TwoC 1 3 4 5 6 7 W1.heap.size Wd 135 #[.int .i64 a1, .int .i64 a2, .int .i64 a3, .int .i64 a4] #[.int .i64 b1, .int .i64 b2, .int .i64 b3, .int .i64 b4]) [(1, 15), (3, 17), (4, 7), (5, 8)] (by kernel_rfl) ?_ ?_ ?_
  · exact ⟨Below.refl _ _, fun h => (by cases h), fun h => (by cases h), fun h => (by cases h), fun h => (by cases h), fun h => (by cases h)⟩
  · refine stepsI_cons [] [3, 6, 7] [] rfl (by kernel_rfl) (by kernel_rfl) (by kernel_rfl) (fun K l V x hx hl hds hn hI hK => ?_) ?_
    · go_simp
      have hsx : W1.heap.size ≤ x.heap.size := by rw [HS9.out]; exact hx.size
      refine (M1.out _).mono ?_
      rintro r w9 ⟨rfl, hb9⟩
      refine ⟨_, rfl, hK _ _ (hb9.mono hsx) ?_⟩
      exact ⟨hI.b.trans (hb9.mono hsx), fun _ => rfl, fun h => hI.c2 h, fun h => (hI.p h).below hb9, fun h => (hI.q h).below hb9, hI.ne⟩
    refine stepsI_cons [1] [6, 7] [(1, 15)] rfl (by kernel_rfl) (by kernel_rfl) (by kernel_rfl) (fun K l V x hx hl hds hn hI hK => ?_) ?_
    · go_simp
      have hsx : W1.heap.size ≤ x.heap.size := by rw [HS9.out]; exact hx.size
      refine (M2.out _).mono ?_
      rintro r w9 ⟨rfl, hb9⟩
      refine ⟨_, rfl, hK _ _ (hb9.mono hsx) ?_⟩
      exact ⟨hI.b.trans (hb9.mono hsx), fun h => hI.c1 h, fun _ => rfl, fun h => (hI.p h).below hb9, fun h => (hI.q h).below hb9, hI.ne⟩
    refine stepsI_cons [] [6, 7] [] rfl (by kernel_rfl) (by kernel_rfl) (by kernel_rfl) (fun K l V x hx hl hds hn hI hK => ?_) ?_
    · go_simp
      have hsx : W1.heap.size ≤ x.heap.size := by rw [HS9.out]; exact hx.size
      have hb9 := alloc_below x (.cells #[.int .i64 0, .int .i64 0, .int .i64 0, .int .i64 0] 135)
      refine hK _ _ (hb9.mono hsx) ?_
      exact ⟨hI.b.trans (hb9.mono hsx), fun h => hI.c1 h, fun h => hI.c2 h, fun _ => VarI.new x _ _ hsx rfl hds.1, fun h => (hI.q h).below hb9, fun _ h => fun e => (hI.q h).fresh e.symm⟩
    refine stepsI_cons [] [6, 7] [] rfl (by kernel_rfl) (by kernel_rfl) (by kernel_rfl) (fun K l V x hx hl hds hn hI hK => ?_) ?_
    · go_simp
      have hsx : W1.heap.size ≤ x.heap.size := by rw [HS9.out]; exact hx.size
      have hb9 := alloc_below x (.cells #[.int .i64 0, .int .i64 0, .int .i64 0, .int .i64 0] 135)
      refine hK _ _ (hb9.mono hsx) ?_
      exact ⟨hI.b.trans (hb9.mono hsx), fun h => hI.c1 h, fun h => hI.c2 h, fun h => (hI.p h).below hb9, fun _ => VarI.new x _ _ hsx rfl hds.2.1, fun h _ => fun e => (hI.p h).fresh e⟩
    refine stepsI_cons [1, 3, 4, 5] [7] [(1, 15), (3, 17), (4, 7), (5, 8)] rfl (by kernel_rfl) (by kernel_rfl) (by kernel_rfl) (fun K l V x hx hl hds hn hI hK => ?_) ?_
    · obtain ⟨g, cs, e1, e2, e3, e4, -⟩ := hI.p hl.2.2.1
      have hb9 := row_below (Below.refl W1.heap.size x) e2 #[.int .i64 a1, .int .i64 a2, .int .i64 a3, .int .i64 a4]
      refine ⟨rfl, gives_store_row 135 (.tmp 7) (.tmp 15) rfl g _ e1 (hI.c1 hl.1) 135 cs e3 pinfo4 e4 (by simp [Value.oneCell']) (hK _ _ hb9 ?_)⟩
      refine ⟨hI.b.trans hb9, fun h => hI.c1 h, fun h => hI.c2 h, fun _ => ?_, fun h => (hI.q h).other (fun e => hI.ne hl.2.2.1 hl.2.2.2.1 (e1.trans e.symm)) _, hI.ne⟩
      show VarI _ _ (V 4) _ _ _ _
      rw [e1]
      exact VarI.filled e2 e3 rfl
    refine stepsI_cons [1, 3, 4, 5, 6] [] [(1, 15), (3, 17), (4, 7), (5, 8)] rfl (by kernel_rfl) (by kernel_rfl) (by kernel_rfl) (fun K l V x hx hl hds hn hI hK => ?_) ?_
    · obtain ⟨g, cs, e1, e2, e3, e4, -⟩ := hI.q hl.2.2.2.1
      have hb9 := row_below (Below.refl W1.heap.size x) e2 #[.int .i64 b1, .int .i64 b2, .int .i64 b3, .int .i64 b4]
      refine ⟨rfl, gives_store_row 135 (.tmp 8) (.tmp 17) rfl g _ e1 (hI.c2 hl.2.1) 135 cs e3 pinfo4 e4 (by simp [Value.oneCell']) (hK _ _ hb9 ?_)⟩
      refine ⟨hI.b.trans hb9, fun h => hI.c1 h, fun h => hI.c2 h, fun h => (hI.p h).other (fun e => hI.ne hl.2.2.1 hl.2.2.2.1 (e.trans e1.symm)) _, fun _ => ?_, hI.ne⟩
      show VarI _ _ (V 5) _ _ _ _
      rw [e1]
      exact VarI.filled e2 e3 rfl
    exact stepsI_nil
  intro V W2 hW2 hI
  obtain ⟨gx, ep, hgp, kx⟩ := (hI.p rfl).out
  obtain ⟨gy, eq, hgq, ky⟩ := (hI.q rfl).out
  have qc1 := hI.c1 rfl
  have qc2 := hI.c2 rfl
  have hbI := hd0.trans hI.b
  replace hbw := hbw.trans (hbI.mono hbw.size)
  have kU2 := kU.below hbI
  clear hI hW2 HS9 hd0 kA kB
  simp only [putsP, ep, eq, qc1, qc2]
  go_simp
  clear ep eq qc1 qc2 kU M1 M2
  go_wp2_with fail
  obtain ⟨W3, hW3⟩ : ∃ W3, W2 = W3 := ⟨_, rfl⟩
  rw [hW3] at kx ky kU2 hbw hbI ⊢
  clear hW3 W2 Wd V
  have z0kU2 := fun y : SubT (Below W3.heap.size) W3.drew => (kU2.drew.below' y.b kU2.lt).look 0 rfl
  have z1kU2 := fun y : SubT (Below W3.heap.size) W3.drew => (kU2.drew.below' y.b kU2.lt).look 1 rfl
  have z2kU2 := fun y : SubT (Below W3.heap.size) W3.drew => (kU2.drew.below' y.b kU2.lt).look 2 rfl
  have z3kU2 := fun y : SubT (Below W3.heap.size) W3.drew => (kU2.drew.below' y.b kU2.lt).look 3 rfl
  have z4kU2 := fun y : SubT (Below W3.heap.size) W3.drew => (kU2.drew.below' y.b kU2.lt).look 4 rfl
  have z5kU2 := fun y : SubT (Below W3.heap.size) W3.drew => (kU2.drew.below' y.b kU2.lt).look 5 rfl
  have z6kU2 := fun y : SubT (Below W3.heap.size) W3.drew => (kU2.drew.below' y.b kU2.lt).look 6 rfl
  have z7kU2 := fun y : SubT (Below W3.heap.size) W3.drew => (kU2.drew.below' y.b kU2.lt).look 7 rfl
  have hd0 := (Below.refl W3.heap.size W3).drew
  refine wp_walkJ (T := Below (W3.heap.size)) (belowV_pre _) (.rd 0 (.rd 1 (.rd 3 (.rd 4 (.inv [2, 5, 6, 7, 8, 9]))))) (by kernel_rfl) rfl (by kernel_rfl) (by kernel_rfl) ?_
  iterate 4 (refine walkJ_rd rfl (fun K hK => ?_); go_simp; refine hK _ ?_; clear hK K)
  clear z0kU2 z1kU2 z2kU2 z3kU2 z4kU2 z5kU2 z6kU2 z7kU2
  obtain ⟨Wd, hWd⟩ : ∃ Wd, W3.drew = Wd := ⟨_, rfl⟩
  have hs9 : W3.heap.size = Wd.heap.size := by rw [← hWd]; rfl
  rw [hWd] at hd0 ⊢
  have HS9 := hid hs9
  clear hs9 hWd
  refine walkJ_inv (TwoC 2 5 6 7 8 9 W3.heap.size Wd 135 #[.int .i64 wa, .int .i64 wb, .int .i64 wc, .int .i64 wd] #[.int .i64 la, .int .i64 lb, .int .i64 lc, .int .i64 ld]) [(2, 20), (5, 23), (6, 9), (7, 10)] (by kernel_rfl) ?_ ?_ ?_
  · exact ⟨Below.refl _ _, fun h => (by cases h), fun h => (by cases h), fun h => (by cases h), fun h => (by cases h), fun h => (by cases h)⟩
  · refine stepsI_cons [] [5, 8, 9] [] rfl (by kernel_rfl) (by kernel_rfl) (by kernel_rfl) (fun K l V x hx hl hds hn hI hK => ?_) ?_
    · go_simp
      have hsx : W3.heap.size ≤ x.heap.size := by rw [HS9.out]; exact hx.size
      refine (M3.out _).mono ?_
      rintro r w9 ⟨rfl, hb9⟩
      refine ⟨_, rfl, hK _ _ (hb9.mono hsx) ?_⟩
      exact ⟨hI.b.trans (hb9.mono hsx), fun _ => rfl, fun h => hI.c2 h, fun h => (hI.p h).below hb9, fun h => (hI.q h).below hb9, hI.ne⟩
    refine stepsI_cons [2] [8, 9] [(2, 20)] rfl (by kernel_rfl) (by kernel_rfl) (by kernel_rfl) (fun K l V x hx hl hds hn hI hK => ?_) ?_
    · go_simp
      have hsx : W3.heap.size ≤ x.heap.size := by rw [HS9.out]; exact hx.size
      refine (M4.out _).mono ?_
      rintro r w9 ⟨rfl, hb9⟩
      refine ⟨_, rfl, hK _ _ (hb9.mono hsx) ?_⟩
      exact ⟨hI.b.trans (hb9.mono hsx), fun h => hI.c1 h, fun _ => rfl, fun h => (hI.p h).below hb9, fun h => (hI.q h).below hb9, hI.ne⟩
    refine stepsI_cons [] [8, 9] [] rfl (by kernel_rfl) (by kernel_rfl) (by kernel_rfl) (fun K l V x hx hl hds hn hI hK => ?_) ?_
    · go_simp
      have hsx : W3.heap.size ≤ x.heap.size := by rw [HS9.out]; exact hx.size
      have hb9 := alloc_below x (.cells #[.int .i64 0, .int .i64 0, .int .i64 0, .int .i64 0] 135)
      refine hK _ _ (hb9.mono hsx) ?_
      exact ⟨hI.b.trans (hb9.mono hsx), fun h => hI.c1 h, fun h => hI.c2 h, fun _ => VarI.new x _ _ hsx rfl hds.1, fun h => (hI.q h).below hb9, fun _ h => fun e => (hI.q h).fresh e.symm⟩
    refine stepsI_cons [] [8, 9] [] rfl (by kernel_rfl) (by kernel_rfl) (by kernel_rfl) (fun K l V x hx hl hds hn hI hK => ?_) ?_
    · go_simp
      have hsx : W3.heap.size ≤ x.heap.size := by rw [HS9.out]; exact hx.size
      have hb9 := alloc_below x (.cells #[.int .i64 0, .int .i64 0, .int .i64 0, .int .i64 0] 135)
      refine hK _ _ (hb9.mono hsx) ?_
      exact ⟨hI.b.trans (hb9.mono hsx), fun h => hI.c1 h, fun h => hI.c2 h, fun h => (hI.p h).below hb9, fun _ => VarI.new x _ _ hsx rfl hds.2.1, fun h _ => fun e => (hI.p h).fresh e⟩
    refine stepsI_cons [2, 5, 6, 7] [9] [(2, 20), (5, 23), (6, 9), (7, 10)] rfl (by kernel_rfl) (by kernel_rfl) (by kernel_rfl) (fun K l V x hx hl hds hn hI hK => ?_) ?_
    · obtain ⟨g, cs, e1, e2, e3, e4, -⟩ := hI.p hl.2.2.1
      have hb9 := row_below (Below.refl W3.heap.size x) e2 #[.int .i64 wa, .int .i64 wb, .int .i64 wc, .int .i64 wd]
      refine ⟨rfl, gives_store_row 135 (.tmp 9) (.tmp 20) rfl g _ e1 (hI.c1 hl.1) 135 cs e3 pinfo4 e4 (by simp [Value.oneCell']) (hK _ _ hb9 ?_)⟩
      refine ⟨hI.b.trans hb9, fun h => hI.c1 h, fun h => hI.c2 h, fun _ => ?_, fun h => (hI.q h).other (fun e => hI.ne hl.2.2.1 hl.2.2.2.1 (e1.trans e.symm)) _, hI.ne⟩
      show VarI _ _ (V 6) _ _ _ _
      rw [e1]
      exact VarI.filled e2 e3 rfl
    refine stepsI_cons [2, 5, 6, 7, 8] [] [(2, 20), (5, 23), (6, 9), (7, 10)] rfl (by kernel_rfl) (by kernel_rfl) (by kernel_rfl) (fun K l V x hx hl hds hn hI hK => ?_) ?_
    · obtain ⟨g, cs, e1, e2, e3, e4, -⟩ := hI.q hl.2.2.2.1
      have hb9 := row_below (Below.refl W3.heap.size x) e2 #[.int .i64 la, .int .i64 lb, .int .i64 lc, .int .i64 ld]
      refine ⟨rfl, gives_store_row 135 (.tmp 10) (.tmp 23) rfl g _ e1 (hI.c2 hl.2.1) 135 cs e3 pinfo4 e4 (by simp [Value.oneCell']) (hK _ _ hb9 ?_)⟩
      refine ⟨hI.b.trans hb9, fun h => hI.c1 h, fun h => hI.c2 h, fun h => (hI.p h).other (fun e => hI.ne hl.2.2.1 hl.2.2.2.1 (e.trans e1.symm)) _, fun _ => ?_, hI.ne⟩
      show VarI _ _ (V 7) _ _ _ _
      rw [e1]
      exact VarI.filled e2 e3 rfl
    exact stepsI_nil
  intro V W2 hW2 hI
  obtain ⟨gw, ep, hgw, kw⟩ := (hI.p rfl).out
  obtain ⟨gl, eq, hgl, kl⟩ := (hI.q rfl).out
  have qc1 := hI.c1 rfl
  have qc2 := hI.c2 rfl
  have hbJ := hd0.trans hI.b
  replace hbw := hbw.trans (hbJ.mono hbw.size)
  replace kx := kx.below hbJ
  replace ky := ky.below hbJ
  clear hI hW2 HS9 hd0 kU2
  simp only [putsP, ep, eq, qc1, qc2]
  go_simp
  clear ep eq qc1 qc2 M3 M4 hbI hbJ hgp hgq hgw hgl
  go_wp2_with fail
  clear V
  go_loopw [11, 24] (fun y z wr => ∃ k : Nat, z = .int .i64 k ∧ k ≤ 4 ∧ y = .int .i64 (costT X Y Wt k) ∧ AlwT X Y Li k ∧ Below W2.heap.size W2 wr) (fun _ z _ => 4 - (intOf z).toNat)
  case atStart => exact ⟨0, rfl, by omega, rfl, fun i hi => by omega, Below.refl _ _⟩
  case round =>
    obtain ⟨k, rfl, hk, rfl, hal, hbel⟩ := hrel
    by_cases hk4 : k < 4
    case pos =>
      have hk2 : (k : Int) < 4 := by omega
      have gx0 := HGa.out k hk4
      have gy0 := HGb.out k hk4
      have gw0 := HGw.out k hk4
      have gl0 := HGl.out k hk4
      have bX := HXi.out k
      have bY := HYi.out k
      have bW := HWi.out k
      have bC := costT_bd HXi.out HYi.out HWi.out k
      have bD := dN_bd bX bY
      have HS : Hid (costT X Y Wt (k + 1) = costT X Y Wt k + dN (X.getD k 0) (Y.getD k 0) * Wt.getD k 0) := hid rfl
      have HA : Hid (dN (X.getD k 0) (Y.getD k 0) ≤ Li.getD k 0 → AlwT X Y Li (k + 1)) := hid (fun h i hi => by
        by_cases e : i = k
        · subst e; exact h
        · exact hal i (by omega))
      have HN : Hid (¬ dN (X.getD k 0) (Y.getD k 0) ≤ Li.getD k 0 → ¬ AlwT X Y Li 4) := hid (fun h g => h (g k hk4))
      have hm := fun ats ty => run_max ats ty (x := X.getD k 0 - Y.getD k 0) (y := Y.getD k 0 - X.getD k 0) (z := dN (X.getD k 0) (Y.getD k 0)) rfl
      obtain ⟨x, hx⟩ : ∃ z, X.getD k 0 = z := ⟨_, rfl⟩
      obtain ⟨y, hy⟩ : ∃ z, Y.getD k 0 = z := ⟨_, rfl⟩
      obtain ⟨q, hq⟩ : ∃ z, Wt.getD k 0 = z := ⟨_, rfl⟩
      obtain ⟨li, hli⟩ : ∃ z, Li.getD k 0 = z := ⟨_, rfl⟩
      rw [hx] at gx0 bX bD HS HA HN hm
      rw [hy] at gy0 bY bD HS HA HN hm
      rw [hq] at gw0 bW HS
      rw [hli] at gl0 HA HN
      obtain ⟨d, hd⟩ : ∃ z, dN x y = z := ⟨_, rfl⟩
      rw [hd] at bD HS HA HN hm
      have bP := Int.mul_nonneg bD.1 bW.1
      have bQ : d * q ≤ 1000 * 1000 := Int.mul_le_mul bD.2 bW.2 bW.1 (by decide)
      obtain ⟨c, hc⟩ : ∃ z, costT X Y Wt k = z := ⟨_, rfl⟩
      rw [hc] at bC HS ⊢
      clear hx hy hq hli hd hc hal
      have kxr := kx.below hbel
      have kyr := ky.below hbel
      have kwr := kw.below hbel
      have klr := kl.below hbel
      have w1 : IntKind.i64.wrap (x - y) = x - y := by rw [IntWalk.i64_left]; unfold wrap64; omega
      have w2 : IntKind.i64.wrap (y - x) = y - x := by rw [IntWalk.i64_left]; unfold wrap64; omega
      go_wp2_with fail
      have z0 := fun y : SubT (Below wr.heap.size) wr.drew => (kxr.drew.below' y.b kxr.lt).look k gx0
      have z1 := fun y : SubT (Below wr.heap.size) wr.drew => (kyr.drew.below' y.b kyr.lt).look k gy0
      have hd0 := (Below.refl wr.heap.size wr).drew
      refine wp_walkJ (T := Below (wr.heap.size)) (belowV_pre _) (.rd 0 (.rd 1 (.rd 2 (.rd 3 (.rd 4 (.rd 5 (.rd 6 (.rd 7 (.rd 8 (.rd 9 (.rd 10 (.rd 11 (.rd 12 (.rd 13 (.rd 14 (.rd 15 (.inv []))))))))))))))))) (by kernel_rfl) rfl (by kernel_rfl) (by kernel_rfl) ?_
      iterate 16 (refine walkJ_rd rfl (fun K hK => ?_); go_simp; refine hK _ ?_; clear hK K)
      refine walkJ_nil ?_
      clear z0 z1 hm w1 w2
      have hbel2 := hbel.trans (hd0.mono hbel.size)
      have z2 := kwr.drew.look k gw0
      have z3 := klr.drew.look k gl0
      clear kxr kyr kwr klr hd0 hbel
      by_cases hle : d ≤ li
      case pos =>
        have hA := HA.out hle
        have hgt : ¬ li < d := by omega
        clear HA HN
        go_wp2
        go_roundw
        case rel => exact ⟨k + 1, by go_num, by omega, by rw [HS.out], hA, hbel2⟩
        case measure => simp [intOf]; omega
      case neg =>
        have hN := HN.out (by omega)
        have hgt : li < d := by omega
        have hfin : Hid (C = -1) := hid (by rw [HC.out, if_neg hN])
        clear HA HN hN HC
        go_wp2
        go_ret
        exact ⟨ret_int (by rw [hfin.out]), hbw.trans (hbel2.mono hbw.size)⟩
    case neg =>
      obtain rfl : 4 = k := by omega
      have hfin : Hid (C = costT X Y Wt 4) := hid (by rw [HC.out, if_pos hal])
      clear HC hal
      go_wp2
      go_ret
      exact ⟨ret_int (by rw [hfin.out]), hbw.trans (hbel.mono hbw.size)⟩

end Go.Proofs.Ytcpefolhohakmaa
