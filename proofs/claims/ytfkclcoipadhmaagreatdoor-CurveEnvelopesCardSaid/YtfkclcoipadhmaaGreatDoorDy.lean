/- Several of my texts in one: Dd, De, Df, Dg. -/
import Derived.Test.YtfkclcoipadhmaaGreatDoorDx
/- Walk of curve.Valid, at any points. -/
namespace Go.Proofs.YtfkclcoipadhmaaGreatDoor
open Go.RowKit
attribute [local irreducible] seqS seqST walkV walkJ

theorem walkJ_bs {T : World → World → Prop} {P : Program} {lst : List Oper} {Q : Act → World → Prop} {k : Nat} {r : PlJ} {o : Oper} {a : Act} {w : World} (ho : opAt lst k = some o)
    (h : ∀ K : Act → Prop, (∀ a', walkJ T P lst Q r a' w → K a') → Region.wanted o (yielded lst.toArray a.tmps) = false ∧ K (a.put o.dst undef)) : walkJ T P lst Q (.bt k r) a w := by
  have h1 := h (fun a' => walkJ T P lst Q r a' w) (fun _ h => h)
  unfold walkJ
  exact ⟨o, ho, .inr h1⟩
/-- A point of whole numbers, as it may come in. -/
abbrev P4 := (Int × Int) × (Int × Int)
def p4C (p : P4) : List Value := [.int .i64 p.1.1, .int .i64 p.1.2, .int .i64 p.2.1, .int .i64 p.2.2]
def p4sC (l : List P4) : List Value := l.flatMap p4C
def P4R (lo : Nat) (w : World) (v : Value) (l : List P4) : Prop := SlR lo w v l.length (p4sC l)
theorem P4R.below {lo : Nat} {w w' : World} {v : Value} {l : List P4} (h : P4R lo w v l) (hb : Below w.heap.size w w') : P4R lo w' v l := SlR.below h hb
abbrev z4 : P4 := ((0, 0), (0, 0))
theorem p4sC_len (l : List P4) : (p4sC l).length = l.length * 4 := by
  induction l with
  | nil => rfl
  | cons a l ih => show ([_, _, _, _] ++ p4sC l).length = _; rw [List.length_append, ih]; simp; omega
theorem p4sC_get : ∀ (l : List P4) (i : Nat), i < l.length → (p4sC l).getD (i * 4) undef = .int .i64 (l.getD i z4).1.1 ∧ (p4sC l).getD (i * 4 + 1) undef = .int .i64 (l.getD i z4).1.2 ∧
    (p4sC l).getD (i * 4 + 2) undef = .int .i64 (l.getD i z4).2.1 ∧ (p4sC l).getD (i * 4 + 3) undef = .int .i64 (l.getD i z4).2.2
  | [], i, h => by cases h
  | a :: l, 0, _ => ⟨rfl, rfl, rfl, rfl⟩
  | a :: l, i + 1, h => by
    have := p4sC_get l i (by simpa using h)
    have e1 : (i + 1) * 4 = i * 4 + 1 + 1 + 1 + 1 := by omega
    have e2 : (i + 1) * 4 + 1 = i * 4 + 1 + 1 + 1 + 1 + 1 := by omega
    have e3 : (i + 1) * 4 + 2 = i * 4 + 2 + 1 + 1 + 1 + 1 := by omega
    have e4 : (i + 1) * 4 + 3 = i * 4 + 3 + 1 + 1 + 1 + 1 := by omega
    rw [e2, e3, e4, e1]
    exact this
theorem p4_cell {lo : Nat} {w : World} {ao : Option Addr} {l : List P4} (h : CellsOf lo w ao (p4sC l)) {i : Nat} (hi : i < l.length) :
    ∃ b off, ao = some ⟨b, off, none⟩ ∧ b < w.heap.size ∧ w.cell? ⟨b, off + i * 4, none⟩ = some (.int .i64 (l.getD i z4).1.1) ∧ w.cell? ⟨b, off + i * 4 + 1, none⟩ = some (.int .i64 (l.getD i z4).1.2) ∧
      w.cell? ⟨b, off + i * 4 + 2, none⟩ = some (.int .i64 (l.getD i z4).2.1) ∧ w.cell? ⟨b, off + i * 4 + 3, none⟩ = some (.int .i64 (l.getD i z4).2.2) := by
  have hne : p4sC l ≠ [] := by
    intro he
    have := p4sC_len l
    rw [he] at this
    simp at this
    omega
  obtain ⟨b, off, hao, -, hb, hx⟩ := h hne
  have hl := p4sC_len l
  have h0 := hx (i * 4) (by omega)
  have h1 := hx (i * 4 + 1) (by omega)
  have h2 := hx (i * 4 + 2) (by omega)
  have h3 := hx (i * 4 + 3) (by omega)
  have g := p4sC_get l i hi
  rw [g.1] at h0
  rw [g.2.1] at h1
  rw [g.2.2.1] at h2
  rw [g.2.2.2] at h3
  exact ⟨b, off, hao, hb, h0, h1, h2, h3⟩
/-- The value of a fraction of whole numbers. -/
def vq (f : Int × Int) : Rat := (f.1 : Rat) / (f.2 : Rat)
theorem frQ_vq {n d : Int} (h : FV n d) : frQ (vq (n, d)) = .agg #[.int .i64 n, .int .i64 d] := by
  unfold frQ vq
  rw [h.num, h.den]
theorem vq_fits {n d : Int} (h : FV n d) : fits (vq (n, d)) := FV_fits h
theorem order_raw {a b c e : Int} (h : FV a b) (k : FV c e) (w : World) :
    Calls Tryz.prog 57 #[.agg #[.int .i64 a, .int .i64 b], .agg #[.int .i64 c, .int .i64 e]] w fun r w' => r = .returned (.int .i64 (cmpQ (vq (a, b)) (vq (c, e)))) ∧ Below w.heap.size w w' := by
  have := order_any (vq (a, b)) (vq (c, e)) (vq_fits h) (vq_fits k) w
  rw [frQ_vq h, frQ_vq k] at this
  exact this
/-- Point i of a curve is right. -/
def OKp (c : List P4) (i : Nat) : Prop := FV (c.getD i z4).1.1 (c.getD i z4).1.2 ∧ FV (c.getD i z4).2.1 (c.getD i z4).2.2 ∧ (0 < i → vq (c.getD (i - 1) z4).1 < vq (c.getD i z4).1 ∧ vq (c.getD (i - 1) z4).2 < vq (c.getD i z4).2)
instance (c : List P4) (i : Nat) : Decidable (OKp c i) := inferInstanceAs (Decidable (_ ∧ _))
/-- A right curve. -/
def RV (c : List P4) : Prop := 2 ≤ c.length ∧ c.length ≤ 48 ∧ c.getD 0 z4 = ((0, 1), (0, 1)) ∧ ∀ i, i < c.length → OKp c i
instance (c : List P4) : Decidable (RV c) := inferInstanceAs (Decidable (_ ∧ _))

set_option maxHeartbeats 8000000 in
set_option maxRecDepth 100000 in
theorem cValid_any (c : List P4) (v : Value) (w : World) (h : P4R 0 w v c) (hz : Z0 w) :
    Calls Tryz.prog 46 #[v] w fun r w' => r = .returned (.bool (decide (RV c))) ∧ Below w.heap.size w w' := by
  obtain ⟨ao, cap, rfl, hcap, hmax, hc⟩ := h
  unfold maxLen at hmax
  obtain ⟨res, hres⟩ : ∃ b, decide (RV c) = b := ⟨_, rfl⟩
  rw [hres]
  have HR := hid hres
  obtain ⟨L, hL⟩ : ∃ L, c.length = L := ⟨_, rfl⟩
  have HL := hid hL
  rw [hL] at hcap ⊢
  clear hres hL
  go_enter Tryz.func46, Tryz.ntmps46
  go_wp2_with fail
  have hd := (Below.refl w.heap.size w).drew
  have hB4 := hd
  by_cases h2 : L < 2
  · have h48 : ¬ (48 : Int) < (L : Int) := by omega
    have h2i : (L : Int) < 2 := by omega
    refine wp_walkJ (T := Below (w.heap.size)) (belowV_pre _) (.rd 0 (.rd 1 (.rd 2 (.rd 3 (.rd 4 (.rd 5 (.rd 6 (.rd 7 (.rd 8 (.rd 9 (.rd 10 (.rd 11 (.rd 12 (.rd 13 (.rd 14 (.rd 15 (.rd 16 (.inv [])))))))))))))))))) (by kernel_rfl) rfl (by kernel_rfl) (by kernel_rfl) ?_
    iterate 17 (refine walkJ_rd rfl (fun K hK => ?_); go_simp; refine hK _ ?_; clear hK K)
    refine walkJ_nil ?_
    go_wp2
    go_ret
    refine ⟨ret_bool ?_, by first | assumption | exact hB4⟩
    rw [← HR.out]; symm
    rw [decide_eq_false_iff_not]
    intro hh
    have := hh.1
    have := HL.out
    omega
  have h2i : ¬ (L : Int) < 2 := by omega
  by_cases h48 : 48 < L
  · have h48i : (48 : Int) < (L : Int) := by omega
    refine wp_walkJ (T := Below (w.heap.size)) (belowV_pre _) (.rd 0 (.rd 1 (.rd 2 (.rd 3 (.rd 4 (.rd 5 (.rd 6 (.rd 7 (.rd 8 (.rd 9 (.rd 10 (.rd 11 (.rd 12 (.rd 13 (.rd 14 (.rd 15 (.rd 16 (.inv [])))))))))))))))))) (by kernel_rfl) rfl (by kernel_rfl) (by kernel_rfl) ?_
    iterate 17 (refine walkJ_rd rfl (fun K hK => ?_); go_simp; refine hK _ ?_; clear hK K)
    refine walkJ_nil ?_
    go_wp2
    go_ret
    refine ⟨ret_bool ?_, by first | assumption | exact hB4⟩
    rw [← HR.out]; symm
    rw [decide_eq_false_iff_not]
    intro hh
    have := hh.2.1
    have := HL.out
    omega
  have h48i : ¬ (48 : Int) < (L : Int) := by omega
  obtain ⟨⟨⟨pa, pb⟩, ⟨pc, pd⟩⟩, hp0⟩ : ∃ p : P4, c.getD 0 z4 = p := ⟨_, rfl⟩
  have HP0 := hid hp0
  obtain ⟨b, off, rfl, hb, e0, e1, e2, e3⟩ := p4_cell hc (show 0 < c.length by rw [HL.out]; omega)
  rw [hp0] at e0 e1 e2 e3
  simp only [Nat.zero_mul, Nat.add_zero] at e0 e1 e2 e3
  clear hp0
  have hL0 : 0 < L := by omega
  have x0 := fun x : SubT (Below w.heap.size) w.drew => ((hd.trans x.b).cell (p := ⟨b, off, none⟩) hb).trans e0
  have x1 := fun x : SubT (Below w.heap.size) w.drew => ((hd.trans x.b).cell (p := ⟨b, off + 1, none⟩) hb).trans e1
  have x2 := fun x : SubT (Below w.heap.size) w.drew => ((hd.trans x.b).cell (p := ⟨b, off + 2, none⟩) hb).trans e2
  have x3 := fun x : SubT (Below w.heap.size) w.drew => ((hd.trans x.b).cell (p := ⟨b, off + 3, none⟩) hb).trans e3
  have z0 := fun x : SubT (Below w.heap.size) w.drew => (hz.below (hd.trans x.b)).2.1
  have z1 := fun x : SubT (Below w.heap.size) w.drew => (hz.below (hd.trans x.b)).2.2
  clear e0 e1 e2 e3
  by_cases ha : pa = 0
  case neg =>
    have ha' : ¬ 0 = pa := fun h => ha h.symm
    refine wp_walkJ (T := Below (w.heap.size)) (belowV_pre _) (.rd 0 (.rd 1 (.rd 2 (.rd 3 (.rd 4 (.rd 5 (.rd 6 (.rd 7 (.rd 8 (.rd 9 (.rd 10 (.rd 11 (.rd 12 (.rd 13 (.rd 14 (.rd 15 (.rd 16 (.inv [])))))))))))))))))) (by kernel_rfl) rfl (by kernel_rfl) (by kernel_rfl) ?_
    iterate 17 (refine walkJ_rd rfl (fun K hK => ?_); go_simp; refine hK _ ?_; clear hK K)
    refine walkJ_nil ?_
    clear x0 x1 x2 x3 z0 z1
    go_wp2
    go_ret
    refine ⟨ret_bool ?_, by first | assumption | exact hB4⟩
    rw [← HR.out]; symm
    rw [decide_eq_false_iff_not]
    intro hh
    have h3 := hh.2.2.1
    rw [HP0.out] at h3
    simp only [Prod.mk.injEq] at h3
    omega
  by_cases hb1 : pb = 1
  case neg =>
    have ha' : ¬ 1 = pb := fun h => hb1 h.symm
    refine wp_walkJ (T := Below (w.heap.size)) (belowV_pre _) (.rd 0 (.rd 1 (.rd 2 (.rd 3 (.rd 4 (.rd 5 (.rd 6 (.rd 7 (.rd 8 (.rd 9 (.rd 10 (.rd 11 (.rd 12 (.rd 13 (.rd 14 (.rd 15 (.rd 16 (.inv [])))))))))))))))))) (by kernel_rfl) rfl (by kernel_rfl) (by kernel_rfl) ?_
    iterate 17 (refine walkJ_rd rfl (fun K hK => ?_); go_simp; refine hK _ ?_; clear hK K)
    refine walkJ_nil ?_
    clear x0 x1 x2 x3 z0 z1
    go_wp2
    go_ret
    refine ⟨ret_bool ?_, by first | assumption | exact hB4⟩
    rw [← HR.out]; symm
    rw [decide_eq_false_iff_not]
    intro hh
    have h3 := hh.2.2.1
    rw [HP0.out] at h3
    simp only [Prod.mk.injEq] at h3
    omega
  by_cases hc1 : pc = 0
  case neg =>
    have ha' : ¬ 0 = pc := fun h => hc1 h.symm
    refine wp_walkJ (T := Below (w.heap.size)) (belowV_pre _) (.rd 0 (.rd 1 (.rd 2 (.rd 3 (.rd 4 (.rd 5 (.rd 6 (.rd 7 (.rd 8 (.rd 9 (.rd 10 (.rd 11 (.rd 12 (.rd 13 (.rd 14 (.rd 15 (.rd 16 (.inv [])))))))))))))))))) (by kernel_rfl) rfl (by kernel_rfl) (by kernel_rfl) ?_
    iterate 17 (refine walkJ_rd rfl (fun K hK => ?_); go_simp; refine hK _ ?_; clear hK K)
    refine walkJ_nil ?_
    clear x0 x1 x2 x3 z0 z1
    go_wp2
    go_ret
    refine ⟨ret_bool ?_, by first | assumption | exact hB4⟩
    rw [← HR.out]; symm
    rw [decide_eq_false_iff_not]
    intro hh
    have h3 := hh.2.2.1
    rw [HP0.out] at h3
    simp only [Prod.mk.injEq] at h3
    omega
  by_cases hd1 : pd = 1
  case neg =>
    have ha' : ¬ 1 = pd := fun h => hd1 h.symm
    refine wp_walkJ (T := Below (w.heap.size)) (belowV_pre _) (.rd 0 (.rd 1 (.rd 2 (.rd 3 (.rd 4 (.rd 5 (.rd 6 (.rd 7 (.rd 8 (.rd 9 (.rd 10 (.rd 11 (.rd 12 (.rd 13 (.rd 14 (.rd 15 (.rd 16 (.inv [])))))))))))))))))) (by kernel_rfl) rfl (by kernel_rfl) (by kernel_rfl) ?_
    iterate 17 (refine walkJ_rd rfl (fun K hK => ?_); go_simp; refine hK _ ?_; clear hK K)
    refine walkJ_nil ?_
    clear x0 x1 x2 x3 z0 z1
    go_wp2
    go_ret
    refine ⟨ret_bool ?_, by first | assumption | exact hB4⟩
    rw [← HR.out]; symm
    rw [decide_eq_false_iff_not]
    intro hh
    have h3 := hh.2.2.1
    rw [HP0.out] at h3
    simp only [Prod.mk.injEq] at h3
    omega
  subst ha hb1 hc1 hd1
  refine wp_walkJ (T := Below (w.heap.size)) (belowV_pre _) (.rd 0 (.rd 1 (.rd 2 (.rd 3 (.rd 4 (.rd 5 (.rd 6 (.rd 7 (.rd 8 (.rd 9 (.rd 10 (.rd 11 (.rd 12 (.rd 13 (.rd 14 (.rd 15 (.rd 16 (.inv [])))))))))))))))))) (by kernel_rfl) rfl (by kernel_rfl) (by kernel_rfl) ?_
  iterate 17 (refine walkJ_rd rfl (fun K hK => ?_); go_simp; refine hK _ ?_; clear hK K)
  refine walkJ_nil ?_
  clear x0 x1 x2 x3 z0 z1 hB4
  have hwd : Below w.heap.size w w.drew := hd
  clear hd
  go_wp2_with fail
  go_loopw [24] (fun x wr => ∃ i : Nat, x = .int .i64 i ∧ i ≤ L ∧ (∀ j, j < i → OKp c j) ∧ Below w.heap.size w wr) (fun x _ => L - (intOf x).toNat)
  case atStart => exact ⟨0, rfl, Nat.zero_le _, fun j hj => by omega, hwd⟩
  case round =>
    obtain ⟨i, rfl, hi, hall, hbel⟩ := hrel
    have HALL := hid hall
    clear hall
    by_cases hiL : i < L
    · have hiL2 : (i : Int) < (L : Int) := by omega
      obtain ⟨⟨⟨xn, xd⟩, ⟨yn, yd⟩⟩, hpi⟩ : ∃ p : P4, c.getD i z4 = p := ⟨_, rfl⟩
      have HPI := hid hpi
      obtain ⟨b', off', he', hb', e0, e1, e2, e3⟩ := p4_cell hc (show i < c.length by rw [HL.out]; exact hiL)
      obtain ⟨rfl, rfl⟩ : b = b' ∧ off = off' := by simpa using he'
      rw [hpi] at e0 e1 e2 e3
      have x0 := (hbel.cell (p := ⟨b, off + i * 4, none⟩) hb).trans e0
      have x1 := (hbel.cell (p := ⟨b, off + i * 4 + 1, none⟩) hb).trans e1
      have x2 := (hbel.cell (p := ⟨b, off + i * 4 + 2, none⟩) hb).trans e2
      have x3 := (hbel.cell (p := ⟨b, off + i * 4 + 3, none⟩) hb).trans e3
      clear e0 e1 e2 e3 he' hpi
      go_wp2_with fail
      have kb := Blk.new wr #[.int .i64 xn, .int .i64 xd, .int .i64 yn, .int .i64 yd] 44
      have hbA := alloc_below wr (.cells #[.int .i64 xn, .int .i64 xd, .int .i64 yn, .int .i64 yd] 44)
      obtain ⟨W, hW⟩ : ∃ W, wr.alloc (.cells #[.int .i64 xn, .int .i64 xd, .int .i64 yn, .int .i64 yd] 44) = W := ⟨_, rfl⟩
      obtain ⟨H, hH⟩ : ∃ B, wr.heap.size = B := ⟨_, rfl⟩
      have hbelW := hbel.trans (hbA.mono hbel.size)
      rw [hW] at kb hbelW ⊢
      rw [hH] at kb ⊢
      clear hW hH hbA x0 x1 x2 x3 hbel
      refine (fValid_any xn xd _).mono ?_
      rintro r w1 ⟨rfl, hb1⟩
      have hB1 := hbelW.trans (hb1.mono hbelW.size)
      have kb1 := kb.below hb1
      clear hb1 kb hbelW
      by_cases hfx : FV xn xd
      case neg =>
        rw [decide_eq_false hfx]
        go_wp2
        go_ret
        refine ⟨ret_bool ?_, by first | assumption | exact hB4⟩
        rw [← HR.out]; symm
        rw [decide_eq_false_iff_not]
        intro hh
        have h3 := hh.2.2.2 i (by rw [HL.out]; exact hiL)
        unfold OKp at h3
        rw [HPI.out] at h3
        exact hfx h3.1
      rw [decide_eq_true hfx]
      have HFX := hid hfx
      have d0 := kb1.look 2 rfl
      have d1 := kb1.look 3 rfl
      clear hfx
      go_wp2_with fail
      refine (fValid_any yn yd _).mono ?_
      rintro r w2 ⟨rfl, hb2⟩
      have hB2 := hB1.trans (hb2.mono hB1.size)
      have kb2 := kb1.below hb2
      clear hb2 kb1 hB1 d0 d1
      by_cases hfy : FV yn yd
      case neg =>
        rw [decide_eq_false hfy]
        go_wp2
        go_ret
        refine ⟨ret_bool ?_, by first | assumption | exact hB4⟩
        rw [← HR.out]; symm
        rw [decide_eq_false_iff_not]
        intro hh
        have h3 := hh.2.2.2 i (by rw [HL.out]; exact hiL)
        unfold OKp at h3
        rw [HPI.out] at h3
        exact hfy h3.2.1
      rw [decide_eq_true hfy]
      have HFY := hid hfy
      clear hfy
      go_wp2_with fail
      have hd := (Below.refl w2.heap.size w2).drew
      by_cases hi0 : i = 0
      · have hi02 : ¬ (0 : Int) < (i : Int) := by omega
        have hi03 : ¬ 0 < i := by omega
        have HI0 := hid hi0
        clear hi0
        refine wp_walkJ (T := Below (w2.heap.size)) (belowV_pre _) (.rd 0 (.rd 1 (.rd 2 (.rd 3 (.rd 4 (.rd 5 (.rd 6 (.rd 7 (.rd 8 (.rd 9 (.rd 10 (.bt 11 (.rd 12 (.rd 13 (.rd 14 (.rd 15 (.rd 16 (.rd 17 (.rd 18 (.rd 19 (.rd 20 (.rd 21 (.bt 22 (.rd 23 (.rd 24 (.rd 25 (.inv []))))))))))))))))))))))))))) (by kernel_rfl) rfl (by kernel_rfl) (by kernel_rfl) ?_
        iterate 11 (refine walkJ_rd rfl (fun K hK => ?_); go_simp; refine hK _ ?_; clear hK K)
        (refine walkJ_bs rfl (fun K hK => ?_); go_simp; refine hK _ ?_; clear hK K)
        iterate 10 (refine walkJ_rd rfl (fun K hK => ?_); go_simp; refine hK _ ?_; clear hK K)
        (refine walkJ_bs rfl (fun K hK => ?_); go_simp; refine ⟨(by intro h; cases h), hK _ ?_⟩; clear hK K)
        iterate 3 (refine walkJ_rd rfl (fun K hK => ?_); go_simp; refine hK _ ?_; clear hK K)
        refine walkJ_nil ?_
        have hB3 := hB2.trans (hd.mono hB2.size)
        go_wp2
        go_roundw
        case rel =>
          refine ⟨i + 1, by go_num, by omega, fun j hj => ?_, hB3⟩
          obtain rfl : j = i := by have := HI0.out; omega
          unfold OKp
          rw [HPI.out]
          exact ⟨HFX.out, HFY.out, fun h => by have := HI0.out; omega⟩
        case measure => simp [intOf]; omega
      · have hi02 : (0 : Int) < (i : Int) := by omega
        have hi03 : 0 < i := by omega
        have hj1 := HALL.out (i - 1) (by omega)
        obtain ⟨⟨⟨un, ud⟩, ⟨vn, vd⟩⟩, hpu⟩ : ∃ p : P4, c.getD (i - 1) z4 = p := ⟨_, rfl⟩
        have HPU := hid hpu
        obtain ⟨b', off', he', hb', e0, e1, e2, e3⟩ := p4_cell hc (show i - 1 < c.length by rw [HL.out]; omega)
        obtain ⟨rfl, rfl⟩ : b = b' ∧ off = off' := by simpa using he'
        rw [hpu] at e0 e1 e2 e3
        unfold OKp at hj1
        rw [hpu] at hj1
        have HJ1 := hid hj1
        obtain ⟨I, hI⟩ : ∃ I : Nat, i = I + 1 := ⟨i - 1, by omega⟩
        have eI : i - 1 = I := by omega
        rw [eI] at e0 e1 e2 e3
        have hIL : I < L := by omega
        have wI : IntKind.i64.wrap ((i : Int) - 1) = (I : Int) := by rw [IntWalk.i64_left]; unfold wrap64; omega
        have x0 := fun x : SubT (Below w2.heap.size) w2.drew => ((hB2.trans ((hd.trans x.b).mono hB2.size)).cell (p := ⟨b, off + I * 4, none⟩) hb).trans e0
        have x1 := fun x : SubT (Below w2.heap.size) w2.drew => ((hB2.trans ((hd.trans x.b).mono hB2.size)).cell (p := ⟨b, off + I * 4 + 1, none⟩) hb).trans e1
        have E2 := hid e2
        have E3 := hid e3
        have y0 := fun x : SubT (Below w2.heap.size) w2.drew => (kb2.below (hd.trans x.b)).look 0 rfl
        have y1 := fun x : SubT (Below w2.heap.size) w2.drew => (kb2.below (hd.trans x.b)).look 1 rfl
        clear e0 e1 e2 e3 he' hpu hj1 hI eI
        refine wp_walkJ (T := Below (w2.heap.size)) (belowV_pre _) (.rd 0 (.rd 1 (.rd 2 (.rd 3 (.rd 4 (.rd 5 (.rd 6 (.rd 7 (.rd 8 (.rd 9 (.rd 10 (.bt 11 (.rd 12 (.rd 13 (.rd 14 (.rd 15 (.rd 16 (.rd 17 (.rd 18 (.rd 19 (.rd 20 (.rd 21 (.bt 22 (.rd 23 (.rd 24 (.rd 25 (.inv []))))))))))))))))))))))))))) (by kernel_rfl) rfl (by kernel_rfl) (by kernel_rfl) ?_
        iterate 11 (refine walkJ_rd rfl (fun K hK => ?_); go_simp; refine hK _ ?_; clear hK K)
        clear x0 x1 y0 y1
        (refine walkJ_bt rfl (fun K hK => ?_); go_simp; refine (order_raw HJ1.out.1 HFX.out _).mono ?_; rintro r w3 ⟨rfl, hb3⟩; refine ⟨_, rfl, hK _ _ ?_⟩; clear hK K)
        have hd3 : Below w2.heap.size w2 w3 := hd.trans hb3
        clear hb3 hd
        rcases cmp_cases (vq (un, ud)) (vq (xn, xd)) with ⟨hl, hv, -⟩ | ⟨hl, hv, -⟩ | ⟨hl, hv, -⟩
        rotate_left
        · rw [hv]
          clear hv
          have HLX := hid hl
          clear hl
          iterate 10 (refine walkJ_rd rfl (fun K hK => ?_); go_simp; refine hK _ ?_; clear hK K)
          (refine walkJ_bs rfl (fun K hK => ?_); go_simp; refine hK _ ?_; clear hK K)
          iterate 3 (refine walkJ_rd rfl (fun K hK => ?_); go_simp; refine hK _ ?_; clear hK K)
          refine walkJ_nil ?_
          have hB3 := hB2.trans (hd3.mono hB2.size)
          go_wp2
          go_ret
          refine ⟨ret_bool ?_, by first | assumption | exact hB4⟩
          rw [← HR.out]; symm
          rw [decide_eq_false_iff_not]
          intro hh
          have h3 := hh.2.2.2 i (by rw [HL.out]; exact hiL)
          unfold OKp at h3
          rw [HPI.out] at h3
          have h4 := (h3.2.2 (by omega)).1
          rw [HPU.out] at h4
          have h5 := HLX.out
          grind
        · rw [hv]
          clear hv
          have HLX := hid hl
          clear hl
          iterate 10 (refine walkJ_rd rfl (fun K hK => ?_); go_simp; refine hK _ ?_; clear hK K)
          (refine walkJ_bs rfl (fun K hK => ?_); go_simp; refine hK _ ?_; clear hK K)
          iterate 3 (refine walkJ_rd rfl (fun K hK => ?_); go_simp; refine hK _ ?_; clear hK K)
          refine walkJ_nil ?_
          have hB3 := hB2.trans (hd3.mono hB2.size)
          go_wp2
          go_ret
          refine ⟨ret_bool ?_, by first | assumption | exact hB4⟩
          rw [← HR.out]; symm
          rw [decide_eq_false_iff_not]
          intro hh
          have h3 := hh.2.2.2 i (by rw [HL.out]; exact hiL)
          unfold OKp at h3
          rw [HPI.out] at h3
          have h4 := (h3.2.2 (by omega)).1
          rw [HPU.out] at h4
          have h5 := HLX.out
          grind
        · rw [hv]
          clear hv
          have HLX := hid hl
          clear hl
          have x2 := fun x : SubT (Below w2.heap.size) w3 => ((hB2.trans ((hd3.trans x.b).mono hB2.size)).cell (p := ⟨b, off + I * 4 + 2, none⟩) hb).trans E2.out
          have x3 := fun x : SubT (Below w2.heap.size) w3 => ((hB2.trans ((hd3.trans x.b).mono hB2.size)).cell (p := ⟨b, off + I * 4 + 3, none⟩) hb).trans E3.out
          have y2 := fun x : SubT (Below w2.heap.size) w3 => (kb2.below (hd3.trans x.b)).look 2 rfl
          have y3 := fun x : SubT (Below w2.heap.size) w3 => (kb2.below (hd3.trans x.b)).look 3 rfl
          iterate 10 (refine walkJ_rd rfl (fun K hK => ?_); go_simp; refine hK _ ?_; clear hK K)
          clear x2 x3 y2 y3
          (refine walkJ_bt rfl (fun K hK => ?_); go_simp; refine (order_raw HJ1.out.2.1 HFY.out _).mono ?_; rintro r w4 ⟨rfl, hb4⟩; refine ⟨_, rfl, hK _ _ ?_⟩; clear hK K)
          have hd4 : Below w2.heap.size w2 w4 := hd3.trans (hb4.mono hd3.size)
          have hB3 := hB2.trans (hd4.mono hB2.size)
          clear hb4 hd3 hd4
          rcases cmp_cases (vq (vn, vd)) (vq (yn, yd)) with ⟨hl, hv, -⟩ | ⟨hl, hv, -⟩ | ⟨hl, hv, -⟩
          · rw [hv]
            have HLY := hid hl
            clear hv hl
            iterate 3 (refine walkJ_rd rfl (fun K hK => ?_); go_simp; refine hK _ ?_; clear hK K)
            refine walkJ_nil ?_
            go_wp2
            go_roundw
            case rel =>
              refine ⟨i + 1, by go_num, by omega, fun j hj => ?_, hB3⟩
              by_cases hji : j = i
              · subst hji
                unfold OKp
                rw [HPI.out, HPU.out]
                exact ⟨HFX.out, HFY.out, fun _ => ⟨HLX.out, HLY.out⟩⟩
              · exact HALL.out j (by omega)
            case measure => simp [intOf]; omega
          · rw [hv]
            have HLY := hid hl
            clear hv hl
            iterate 3 (refine walkJ_rd rfl (fun K hK => ?_); go_simp; refine hK _ ?_; clear hK K)
            refine walkJ_nil ?_
            go_wp2
            go_ret
            refine ⟨ret_bool ?_, by first | assumption | exact hB4⟩
            rw [← HR.out]; symm
            rw [decide_eq_false_iff_not]
            intro hh
            have h3 := hh.2.2.2 i (by rw [HL.out]; exact hiL)
            unfold OKp at h3
            rw [HPI.out] at h3
            have h4 := (h3.2.2 (by omega)).2
            rw [HPU.out] at h4
            have h5 := HLY.out
            grind
          · rw [hv]
            have HLY := hid hl
            clear hv hl
            iterate 3 (refine walkJ_rd rfl (fun K hK => ?_); go_simp; refine hK _ ?_; clear hK K)
            refine walkJ_nil ?_
            go_wp2
            go_ret
            refine ⟨ret_bool ?_, by first | assumption | exact hB4⟩
            rw [← HR.out]; symm
            rw [decide_eq_false_iff_not]
            intro hh
            have h3 := hh.2.2.2 i (by rw [HL.out]; exact hiL)
            unfold OKp at h3
            rw [HPI.out] at h3
            have h4 := (h3.2.2 (by omega)).2
            rw [HPU.out] at h4
            have h5 := HLY.out
            grind
    · obtain rfl : L = i := by omega
      have hiL2 : ¬ (L : Int) < (L : Int) := by omega
      go_wp2
      go_ret
      refine ⟨ret_bool ?_, hbel⟩
      rw [← HR.out]; symm
      rw [decide_eq_true_eq]
      exact ⟨by rw [HL.out]; omega, by rw [HL.out]; omega, HP0.out, fun j hj => HALL.out j (by rw [← HL.out]; exact hj)⟩

end Go.Proofs.YtfkclcoipadhmaaGreatDoor

/- Curves: chains of calc's operations; right curves as points of rationals; walk of calc.slope. -/
namespace Go.Proofs.YtfkclcoipadhmaaGreatDoor
open Go.RowKit
attribute [local irreducible] seqS seqST walkV walkJ

/-- calc's state and answer behind a step that gives o. -/
def calK (ok : Bool) (o : Option Rat) : Bool := ok && o.isSome
def calV (ok : Bool) (o : Option Rat) : Rat := if ok then o.getD 0 else 0
theorem cop_cal (ok : Bool) (q : Rat) : copK ok q = calK ok (fitO q) ∧ copV ok q = calV ok (fitO q) := by
  unfold copV copK calK calV fitO
  cases ok with
  | false => exact ⟨rfl, rfl⟩
  | true =>
    by_cases h : fits q
    · rw [if_pos h, decide_eq_true h]; exact ⟨rfl, rfl⟩
    · rw [if_neg h, decide_eq_false h]; exact ⟨rfl, rfl⟩
theorem cal_bind (ok : Bool) (o : Option Rat) (f : Rat → Option Rat) : calK (calK ok o) (f (calV ok o)) = calK ok (o.bind f) ∧ calV (calK ok o) (f (calV ok o)) = calV ok (o.bind f) := by
  cases ok with
  | false => exact ⟨rfl, rfl⟩
  | true =>
    cases o with
    | none => exact ⟨rfl, rfl⟩
    | some q => exact ⟨rfl, rfl⟩
theorem calV_of {ok : Bool} {o : Option Rat} (h : calK ok o = true) : ok = true ∧ ∃ q, o = some q ∧ calV ok o = q := by
  cases ok with
  | false => cases h
  | true =>
    cases o with
    | none => cases h
    | some q => exact ⟨rfl, q, rfl, rfl⟩
theorem calV_fits {ok : Bool} {o : Option Rat} (h : ∀ q, o = some q → fits q) : fits (calV ok o) := by
  cases ok with
  | false => exact fits_nought
  | true =>
    cases o with
    | none => exact fits_nought
    | some q => exact h q rfl
theorem fitO_fits {q r : Rat} (h : fitO q = some r) : fits r ∧ r = q := by
  unfold fitO at h
  by_cases hf : fits q
  · rw [if_pos hf] at h; cases h; exact ⟨hf, rfl⟩
  · rw [if_neg hf] at h; cases h
theorem slO_fits {p q : Pt} {s : Rat} (h : slO p q = some s) : fits s := by
  unfold slO at h
  cases h1 : fitO (q.2 - p.2) with
  | none => rw [h1] at h; cases h
  | some a =>
    cases h2 : fitO (q.1 - p.1) with
    | none => rw [h1, h2] at h; cases h
    | some b =>
      rw [h1, h2] at h
      exact (fitO_fits h).1

/-- A right curve of whole numbers, as points of rationals; and back. -/
def toQ (c : List P4) : List Pt := c.map fun p => (vq p.1, vq p.2)
def ofQ (c : List Pt) : List P4 := c.map fun p => ((p.1.num, (p.1.den : Int)), (p.2.num, (p.2.den : Int)))
theorem toQ_len (c : List P4) : (toQ c).length = c.length := by unfold toQ; rw [List.length_map]
theorem ofQ_len (c : List Pt) : (ofQ c).length = c.length := by unfold ofQ; rw [List.length_map]
theorem toQ_get {c : List P4} {i : Nat} (hi : i < c.length) : (toQ c).getD i (0, 0) = (vq (c.getD i z4).1, vq (c.getD i z4).2) := by
  unfold toQ
  rw [List.getD_eq_getElem?_getD, List.getD_eq_getElem?_getD, List.getElem?_map, List.getElem?_eq_getElem hi]
  rfl
theorem ofQ_get {c : List Pt} {i : Nat} (hi : i < c.length) : (ofQ c).getD i z4 = (((c.getD i (0, 0)).1.num, ((c.getD i (0, 0)).1.den : Int)), ((c.getD i (0, 0)).2.num, ((c.getD i (0, 0)).2.den : Int))) := by
  unfold ofQ
  rw [List.getD_eq_getElem?_getD, List.getD_eq_getElem?_getD, List.getElem?_map, List.getElem?_eq_getElem hi]
  rfl
theorem ofQ_cells (c : List Pt) : p4sC (ofQ c) = ptsC c := by
  unfold p4sC ofQ ptsC
  rw [List.flatMap_map]
  rfl
theorem toQ_cells : ∀ {c : List P4}, (∀ p ∈ c, FV p.1.1 p.1.2 ∧ FV p.2.1 p.2.2) → ptsC (toQ c) = p4sC c
  | [], _ => rfl
  | p :: c, h => by
    have hp := h p (List.mem_cons_self ..)
    have ih := toQ_cells (c := c) (fun q hq => h q (List.mem_cons_of_mem _ hq))
    show ptC (vq p.1, vq p.2) ++ ptsC (toQ c) = p4C p ++ p4sC c
    rw [ih]
    congr 1
    unfold ptC p4C vq
    rw [hp.1.num, hp.1.den, hp.2.num, hp.2.den]
theorem rv_all {c : List P4} (h : RV c) : ∀ p ∈ c, FV p.1.1 p.1.2 ∧ FV p.2.1 p.2.2 := by
  intro p hp
  obtain ⟨i, hi, he⟩ := List.mem_iff_getElem.1 hp
  have := h.2.2.2 i hi
  unfold OKp at this
  rw [List.getD_eq_getElem?_getD, List.getElem?_eq_getElem hi] at this
  rw [← he]
  exact ⟨this.1, this.2.1⟩
theorem rv_cv {c : List P4} (h : RV c) : CV (toQ c) where
  two := by rw [toQ_len]; exact h.1
  most := by rw [toQ_len]; exact h.2.1
  first := by
    rw [toQ_get (by have := h.1; omega), h.2.2.1]
    decide +kernel
  fit := by
    intro i hi
    rw [toQ_len] at hi
    rw [toQ_get hi]
    have := h.2.2.2 i hi
    exact ⟨vq_fits this.1, vq_fits this.2.1⟩
  rise := by
    intro i hi
    rw [toQ_len] at hi
    rw [toQ_get hi, toQ_get (show i < c.length by omega)]
    exact (h.2.2.2 (i + 1) hi).2.2 (by omega)
theorem vq_self (q : Rat) : vq (q.num, (q.den : Int)) = q := q_parts q
theorem rv_ofQ {c : List Pt} : RV (ofQ c) ↔ CV c := by
  have back : toQ (ofQ c) = c := by
    unfold toQ ofQ
    rw [List.map_map]
    have : ∀ p ∈ c, ((fun p : P4 => (vq p.1, vq p.2)) ∘ fun p : Pt => ((p.1.num, (p.1.den : Int)), (p.2.num, (p.2.den : Int)))) p = p := fun p _ => by
      show (vq (p.1.num, (p.1.den : Int)), vq (p.2.num, (p.2.den : Int))) = p
      rw [vq_self, vq_self]
    rw [List.map_congr_left this, List.map_id']
  constructor
  · intro h
    have := rv_cv h
    rwa [back] at this
  · intro h
    have h0 := h.first
    refine ⟨by rw [ofQ_len]; exact h.two, by rw [ofQ_len]; exact h.most, ?_, fun i hi => ?_⟩
    · rw [ofQ_get (by have := h.two; omega), h0]; rfl
    · rw [ofQ_len] at hi
      have hf := h.fit i hi
      unfold OKp
      rw [ofQ_get hi]
      refine ⟨fits_FV hf.1, fits_FV hf.2, fun h1 => ?_⟩
      rw [ofQ_get (show i - 1 < c.length by omega)]
      have := h.rise (i - 1) (by omega)
      rw [show i - 1 + 1 = i by omega] at this
      show vq (_, _) < vq (_, _) ∧ vq (_, _) < vq (_, _)
      rw [vq_self, vq_self, vq_self, vq_self]
      exact this
noncomputable instance (c : List Pt) : Decidable (CV c) := decidable_of_iff _ rv_ofQ
theorem P4R.toQ {lo : Nat} {w : World} {v : Value} {c : List P4} (h : P4R lo w v c) (hr : RV c) : PsR lo w v (toQ c) := by
  unfold PsR
  rw [toQ_len, toQ_cells (rv_all hr)]
  exact h
theorem PsR.ofQ {lo : Nat} {w : World} {v : Value} {c : List Pt} (h : PsR lo w v c) : P4R lo w v (ofQ c) := by
  unfold P4R
  rw [ofQ_len, ofQ_cells]
  exact h
theorem cValid_q (c : List Pt) (v : Value) (w : World) (h : PsR 0 w v c) (hz : Z0 w) :
    Calls Tryz.prog 46 #[v] w fun r w' => r = .returned (.bool (decide (CV c))) ∧ Below w.heap.size w w' := by
  have := cValid_any (ofQ c) v w h.ofQ hz
  rw [decide_eq_decide.2 rv_ofQ] at this
  exact this

end Go.Proofs.YtfkclcoipadhmaaGreatDoor

/- Walk of calc.slope. -/
namespace Go.Proofs.YtfkclcoipadhmaaGreatDoor
open Go.RowKit
attribute [local irreducible] seqS seqST walkV walkJ

theorem slO_cal (ok : Bool) (p q : Pt) :
    calK (calK (calK ok (fitO (q.2 - p.2))) (fitO (q.1 - p.1))) (fitO (calV ok (fitO (q.2 - p.2)) / calV (calK ok (fitO (q.2 - p.2))) (fitO (q.1 - p.1)))) = calK ok (slO p q) ∧
    calV (calK (calK ok (fitO (q.2 - p.2))) (fitO (q.1 - p.1))) (fitO (calV ok (fitO (q.2 - p.2)) / calV (calK ok (fitO (q.2 - p.2))) (fitO (q.1 - p.1)))) = calV ok (slO p q) := by
  have h1 := cal_bind (calK ok (fitO (q.2 - p.2))) (fitO (q.1 - p.1)) (fun x => fitO (calV ok (fitO (q.2 - p.2)) / x))
  rw [h1.1, h1.2]
  exact cal_bind ok (fitO (q.2 - p.2)) (fun y => (fitO (q.1 - p.1)).bind fun x => fitO (y / x))

set_option maxHeartbeats 4000000 in
set_option maxRecDepth 100000 in
theorem slope_any (p q : Pt) (hp : fits p.1 ∧ fits p.2) (hq : fits q.1 ∧ fits q.2) (hne : p.1 ≠ q.1) (g : Nat) (ok : Bool) (w : World) (hz : Z0 w) (hk : CalB w g ok) :
    Calls Tryz.prog 80 #[.pointer (some ⟨g, 0, none⟩), ptQ p, ptQ q] w fun e w' => e = .returned (frQ (calV ok (slO p q))) ∧ CalB w' g (calK ok (slO p q)) ∧ CalT g w w' := by
  have hsl := slO_cal ok p q
  have S1 := hid (fun w hz hk => calc_sub q.2 p.2 hq.2 hp.2 g ok w hz hk)
  rw [(cop_cal ok (q.2 - p.2)).1, (cop_cal ok (q.2 - p.2)).2] at S1
  obtain ⟨o1, ho1⟩ : ∃ o, fitO (q.2 - p.2) = o := ⟨_, rfl⟩
  rw [ho1] at S1 hsl
  have F1 := hid (calV_fits (ok := ok) (o := o1) (fun r hr => (fitO_fits (ho1.trans hr)).1))
  obtain ⟨k1, hk1⟩ : ∃ o, calK ok o1 = o := ⟨_, rfl⟩
  obtain ⟨v1, hv1⟩ : ∃ o, calV ok o1 = o := ⟨_, rfl⟩
  rw [hk1, hv1] at S1
  rw [hk1, hv1] at hsl
  rw [hv1] at F1
  have S2 := hid (fun w hz hk => calc_sub q.1 p.1 hq.1 hp.1 g k1 w hz hk)
  rw [(cop_cal k1 (q.1 - p.1)).1, (cop_cal k1 (q.1 - p.1)).2] at S2
  have hz2 : calK k1 (fitO (q.1 - p.1)) = true → calV k1 (fitO (q.1 - p.1)) ≠ 0 := by
    intro h
    obtain ⟨-, r, h1, h2⟩ := calV_of h
    rw [h2, (fitO_fits h1).2]
    intro h3
    exact hne (by grind)
  have F2 := hid (calV_fits (ok := k1) (o := fitO (q.1 - p.1)) (fun r hr => (fitO_fits hr).1))
  obtain ⟨k2, hk2⟩ : ∃ o, calK k1 (fitO (q.1 - p.1)) = o := ⟨_, rfl⟩
  obtain ⟨v2, hv2⟩ : ∃ o, calV k1 (fitO (q.1 - p.1)) = o := ⟨_, rfl⟩
  rw [hk2, hv2] at S2 hsl hz2
  rw [hv2] at F2
  have S3 := hid (fun w hz hk => calc_div v1 v2 F1.out F2.out g k2 hz2 w hz hk)
  rw [(cop_cal k2 (v1 / v2)).1, (cop_cal k2 (v1 / v2)).2, hsl.1, hsl.2] at S3
  obtain ⟨k3, hk3⟩ : ∃ o, calK ok (slO p q) = o := ⟨_, rfl⟩
  obtain ⟨v3, hv3⟩ : ∃ o, calV ok (slO p q) = o := ⟨_, rfl⟩
  rw [hk3, hv3] at S3 ⊢
  unfold frQ ptQ at *
  clear hsl ho1 hk1 hv1 hk2 hv2 hk3 hv3 hz2 F1 F2 hp hq hne
  obtain ⟨p1, hp1⟩ : ∃ z, p.1.num = z := ⟨_, rfl⟩
  obtain ⟨p2, hp2⟩ : ∃ z, (p.1.den : Int) = z := ⟨_, rfl⟩
  obtain ⟨p3, hp3⟩ : ∃ z, p.2.num = z := ⟨_, rfl⟩
  obtain ⟨p4, hp4⟩ : ∃ z, (p.2.den : Int) = z := ⟨_, rfl⟩
  obtain ⟨q1, hq1⟩ : ∃ z, q.1.num = z := ⟨_, rfl⟩
  obtain ⟨q2, hq2⟩ : ∃ z, (q.1.den : Int) = z := ⟨_, rfl⟩
  obtain ⟨q3, hq3⟩ : ∃ z, q.2.num = z := ⟨_, rfl⟩
  obtain ⟨q4, hq4⟩ : ∃ z, (q.2.den : Int) = z := ⟨_, rfl⟩
  rw [hp1, hp2, hp3, hp4, hq1, hq2, hq3, hq4]
  rw [hp1, hp2, hq1, hq2] at S2
  rw [hp3, hp4, hq3, hq4] at S1
  clear hp1 hp2 hp3 hp4 hq1 hq2 hq3 hq4
  obtain ⟨w0, hw0, k0, k1', k2', hB, hsz⟩ := three_new w #[.int .i64 p1, .int .i64 p2, .int .i64 p3, .int .i64 p4] #[.int .i64 q1, .int .i64 q2, .int .i64 q3, .int .i64 q4] #[.int .i64 0, .int .i64 0] 44 44 31
  have hg : g < w.heap.size := hk.lt
  have HZ := hid (hz.below hB)
  have HK := hid (CalB.below hk hB)
  have d0 := k0.look 2 rfl
  have d1 := k0.look 3 rfl
  have d2 := k1'.look 2 rfl
  have d3 := k1'.look 3 rfl
  have HW := hid hw0
  rw [← hw0] at d0 d1 d2 d3
  have HB := hid hB
  have KP := hid k0
  have KQ := hid k1'
  have KR := hid k2'
  clear hB hz hk k0 k1' k2' hsz hw0
  go_enter Tryz.func80, Tryz.ntmps80
  go_wp2_with fail
  rw [HW.out]
  clear HW d0 d1 d2 d3
  refine (S1.out _ HZ.out HK.out).mono ?_
  rintro r w1 ⟨rfl, hk1, ht1⟩
  obtain ⟨vn, hvn⟩ : ∃ n, v1.num = n := ⟨_, rfl⟩
  obtain ⟨vd, hvd⟩ : ∃ n, (v1.den : Int) = n := ⟨_, rfl⟩
  rw [hvn, hvd] at S3 ⊢
  clear hvn hvd
  have t01 := (calT_pre g).trans (CalT.of_below HB.out) ht1
  have kp1 := CalT.blk ht1 KP.out (by omega)
  have kq1 := CalT.blk ht1 KQ.out (by omega)
  have kr1 := CalT.blk ht1 KR.out (by omega)
  have hz1 := HZ.out.calT HK.out ht1
  clear KP KQ KR HK HZ HB ht1
  go_wp2_with fail
  have kV := Blk.new w1 #[.int .i64 vn, .int .i64 vd] 31
  have ba := alloc_below w1 (.cells #[.int .i64 vn, .int .i64 vd] 31)
  have tA := CalT.alloc t01 (.cells #[.int .i64 vn, .int .i64 vd] 31)
  have kpA := kp1.below ba
  have kqA := kq1.below ba
  have krA := kr1.below ba
  have hkA := CalB.below hk1 ba
  have hzA := hz1.below ba
  have hg1 : g < w1.heap.size := hk1.lt
  obtain ⟨W, hW⟩ : ∃ W, w1.alloc (.cells #[.int .i64 vn, .int .i64 vd] 31) = W := ⟨_, rfl⟩
  obtain ⟨C, hC⟩ : ∃ C, w1.heap.size = C := ⟨_, rfl⟩
  rw [hW] at kV tA kpA kqA krA hkA hzA ⊢
  rw [hC] at kV hg1 ⊢
  clear hW hC ba t01 kp1 kq1 kr1 hk1 hz1
  have hd : CalT g W W.drew := CalT.of_below (Below.refl W.heap.size W).drew
  have z0 := fun x : SubT (CalT g) W.drew => (CalT.blk ((calT_pre g).trans hd x.b) kV (by omega)).look 0 rfl
  have z1 := fun x : SubT (CalT g) W.drew => (CalT.blk ((calT_pre g).trans hd x.b) kV (by omega)).look 1 rfl
  have z2 := fun x : SubT (CalT g) W.drew => (CalT.blk ((calT_pre g).trans hd x.b) kqA (by omega)).look 0 rfl
  have z3 := fun x : SubT (CalT g) W.drew => (CalT.blk ((calT_pre g).trans hd x.b) kqA (by omega)).look 1 rfl
  have z4 := fun x : SubT (CalT g) W.drew => (CalT.blk ((calT_pre g).trans hd x.b) kpA (by omega)).look 0 rfl
  have z5 := fun x : SubT (CalT g) W.drew => (CalT.blk ((calT_pre g).trans hd x.b) kpA (by omega)).look 1 rfl
  refine wp_walkJ (T := CalT g) (calT_pre g) (.rd 0 (.rd 1 (.rd 2 (.rd 3 (.rd 4 (.rd 5 (.rd 6 (.mv 7 (.bt 8 (.bt 9 (.inv []))))))))))) (by kernel_rfl) rfl (by kernel_rfl) (by kernel_rfl) ?_
  iterate 7 (refine walkJ_rd rfl (fun K hK => ?_); go_simp; refine hK _ ?_; clear hK K)
  clear z0 z1 z2 z3 z4 z5
  have hkd : CalB W.drew g k1 := CalB.below hkA (Below.refl W.heap.size W).drew
  have hzd := hzA.below (Below.refl W.heap.size W).drew
  (refine walkJ_mv rfl (fun K hK => ?_); go_simp; refine (S2.out _ hzd hkd).mono ?_; rintro e w2 ⟨rfl, hk2, ht2⟩; refine ⟨_, rfl, hK _ _ ht2 ?_⟩; clear hK K)
  have hz2 := hzd.calT hkd ht2
  (refine walkJ_bt rfl (fun K hK => ?_); go_simp; refine (S3.out _ hz2 hk2).mono ?_; rintro e w3 ⟨rfl, hk3, ht3⟩; refine ⟨_, rfl, hK _ _ ?_⟩; clear hK K)
  have hne : w.heap.size + 1 + 1 ≠ g := by omega
  have t3 := (calT_pre g).trans hd ((calT_pre g).trans ht2 ht3)
  have kr3 := CalT.blk t3 krA hne
  have hw3 := (calT_pre g).trans tA t3
  clear hd t3 krA tA kpA kqA kV hkA hzA hkd hzd ht2 ht3 hz2 hk2
  obtain ⟨n, hn⟩ : ∃ n, v3.num = n := ⟨_, rfl⟩
  obtain ⟨d, hd⟩ : ∃ n, (v3.den : Int) = n := ⟨_, rfl⟩
  rw [hn, hd]
  have HN := hid hn
  have HD := hid hd
  have q0 := kr3.look 0 rfl
  have q1 := kr3.look 1 rfl
  have f2 := kr3.frozen
  have k24 := (kr3.set 0 (.int .i64 n)).set 1 (.int .i64 d)
  have F1 := hid (Blk.other (Blk.other hk3 (p := ⟨w.heap.size + 1 + 1, 0, none⟩) (Ne.symm hne) (.int .i64 n)) (p := ⟨w.heap.size + 1 + 1, 1, none⟩) (Ne.symm hne) (.int .i64 d))
  have F2 := hid ((hw3.setOwn (p := ⟨w.heap.size + 1 + 1, 0, none⟩) (by show w.heap.size ≤ w.heap.size + 1 + 1; omega) (.int .i64 n)).setOwn (p := ⟨w.heap.size + 1 + 1, 1, none⟩) (by show w.heap.size ≤ w.heap.size + 1 + 1; omega) (.int .i64 d))
  have r0 : _ = some (Value.int .i64 n) := k24.look 0 rfl
  have r1 : _ = some (Value.int .i64 d) := k24.look 1 rfl
  have R0 := hid r0
  have R1 := hid r1
  clear hn hd hk3 kr3 k24 r0 r1 hw3
  (refine walkJ_bt rfl (fun K hK => ?_); go_simp; refine hK _ _ ?_; clear hK K)
  refine walkJ_nil ?_
  go_wp2
  refine bodyPost_ret (v := .agg #[.int .i64 n, .int .i64 d]) ?_ rfl ⟨by rw [HN.out, HD.out], F1.out, F2.out⟩
  have r0 := R0.out
  have r1 := R1.out
  simp [results, Tryz.results80, go_sem, r0, r1]

end Go.Proofs.YtfkclcoipadhmaaGreatDoor

/- append within a region that draws its order; walk of curve.Slopes. -/
namespace Go.Proofs.YtfkclcoipadhmaaGreatDoor
open Go.RowKit
attribute [local irreducible] seqS seqST walkV walkJ

theorem infoFrac : (Tryz.prog.info? 31).map (fun i => (i.zero, i.size, i.bytes)) = some (some (frV 0 0), 2, 16) := by kernel_rfl
theorem cells_news {w : World} {H : Nat} {news : List Value} {te : TypeId} (h : Blk w H news.toArray te) : ∀ j u, news[j]? = some u → w.cell? ((⟨H, 0, none⟩ : Addr).add j) = some u := by
  intro j u hj
  have := h.cell j
  rw [List.getElem?_toArray, hj] at this
  by_cases h0 : j = 0
  · subst h0
    simpa [Addr.add] using this
  · simpa [Addr.add, h0] using this
/-- append of one element that lies in a row of its own. -/
theorem gives_app {P : Program} {o : Oper} {a : Act} {w : World} {K : Value → World → Prop} (s x : Operand) (t ty : TypeId) (ho : o.op = .call { callee := .builtin .append, args := #[s, x], argTypes := #[t, t] }) (hty : o.type = ty)
    (base : Nat) (e : TypeId) (z : Value) (size bytes : Nat) (ht : P.underlying t = some (.slice e)) (hi : (P.info? e).map (fun i => (i.zero, i.size, i.bytes)) = some (some z, size, bytes))
    (hzs : z.cells.size = size) (hsz : 0 < size) {v : Value} {n : Nat} {xs : List Value} (hs : a.eval s = v) (hown : w.ownsRow base e size v n xs)
    (news : List Value) (H : Nat) {te : TypeId} (hk : Blk w H news.toArray te) (hx : a.eval x = .slice (some ⟨H, 0, none⟩) 1 1) (hl : news.length = size) (h1 : ∀ u ∈ news, u.oneCell' = true)
    (h63 : n + 1 ≤ maxLen) (hbytes : (n + 1) * bytes ≤ 140737488355328) (hbase : base ≤ w.heap.size)
    (h : ∀ g cap w', w'.ownsRow base e size (.slice (some ⟨g, 0, none⟩) (n + 1) cap) (n + 1) (xs ++ news) → w.grownBy w' v.ownBlock → base ≤ g → K (.slice (some ⟨g, 0, none⟩) (n + 1) cap) w') : gives P o a w K := by
  obtain ⟨i, hi0, hz, hsize, hby⟩ := info_parts hi
  obtain ⟨v', w', hr, h2, h3, h4, h5⟩ := run_append_own_at (P := P) w base t ty e i z size bytes ht hi0 hz hsize hby hzs hsz v n xs hown ⟨H, 0, none⟩ 1 1 news (by omega) (cells_news hk) h1 h63 hbytes hbase
  have h0 := h2
  obtain ⟨hl', ⟨rfl, hn⟩ | ⟨g', cap', cur, rfl, hg, hh, _⟩⟩ := h2
  · omega
  · exact gives_append2 s x t ho hty hs hx hr (h g' cap' w' h0 h3 hg)

theorem owns_calT {g : Nat} {W W' : World} {B0 : Nat} {e : TypeId} {size : Nat} {v : Value} {n : Nat} {xs : List Value} (k : CalT g W W') (h : W.ownsRow B0 e size v n xs) (hg : g < B0) : W'.ownsRow B0 e size v n xs := by
  refine h.kept (row := some g) k ?_
  cases hv : v.ownBlock with
  | none => exact .inl rfl
  | some k =>
    right
    intro e
    have h2 := (h.lt k hv).1
    have := Option.some.inj e
    omega
/-- What Slopes hands back. -/
def slpE (c : List P4) : Int := if RV c then (match slsO (toQ c) (c.length - 1) with | some _ => 0 | none => 5) else 2
def slpL (c : List P4) : List Rat := if RV c then (slsO (toQ c) (c.length - 1)).getD [] else []
theorem slsO_len {c : List Pt} : ∀ {k : Nat} {l : List Rat}, slsO c k = some l → l.length = k
  | 0, l, h => by cases h; rfl
  | k + 1, l, h => by
    unfold slsO at h
    cases h1 : slsO c k with
    | none => rw [h1] at h; cases h
    | some l' =>
      rw [h1] at h
      cases h2 : slO (c.getD k (0, 0)) (c.getD (k + 1) (0, 0)) with
      | none => rw [h2] at h; cases h
      | some s => rw [h2] at h; cases h; rw [List.length_append, slsO_len h1]; rfl
theorem slsO_step {c : List Pt} {k : Nat} {ok : Bool} {l : List Rat} (h : ok = (slsO c k).isSome) (h1 : ok = true → slsO c k = some l) :
    calK ok (slO (c.getD k (0, 0)) (c.getD (k + 1) (0, 0))) = (slsO c (k + 1)).isSome ∧ (calK ok (slO (c.getD k (0, 0)) (c.getD (k + 1) (0, 0))) = true → slsO c (k + 1) = some (l ++ [calV ok (slO (c.getD k (0, 0)) (c.getD (k + 1) (0, 0)))])) := by
  have e : slsO c (k + 1) = (slsO c k).bind fun l => (slO (c.getD k (0, 0)) (c.getD (k + 1) (0, 0))).map fun s => l ++ [s] := rfl
  rw [e]
  cases ok with
  | false =>
    have : slsO c k = none := by
      cases hs : slsO c k with
      | none => rfl
      | some l => rw [hs] at h; cases h
    rw [this]
    exact ⟨rfl, fun h => by cases h⟩
  | true =>
    rw [h1 rfl]
    cases slO (c.getD k (0, 0)) (c.getD (k + 1) (0, 0)) with
    | none => exact ⟨rfl, fun h => by cases h⟩
    | some s => exact ⟨rfl, fun _ => rfl⟩

set_option maxHeartbeats 8000000 in
set_option maxRecDepth 100000 in
theorem Slopes_any (c : List P4) (v : Value) (w : World) (h : P4R 0 w v c) (hz : Z0 w) :
    Calls Tryz.prog 97 #[v] w fun r w' => (∃ vl, r = .returned (.tuple #[vl, .int .i64 (slpE c)]) ∧ QsR w.heap.size w' vl (slpL c)) ∧ Below w.heap.size w w' := by
  obtain ⟨ao, cap, rfl, hcap, hmax, hc⟩ := id h
  unfold maxLen at hmax
  have VA := hid (cValid_any c (.slice ao c.length cap) w h hz)
  obtain ⟨E, hE⟩ : ∃ E, slpE c = E := ⟨_, rfl⟩
  obtain ⟨R, hR⟩ : ∃ R, slpL c = R := ⟨_, rfl⟩
  rw [hE, hR]
  have HE := hid hE
  have HR := hid hR
  clear hE hR hc
  obtain ⟨L, hL⟩ : ∃ L, c.length = L := ⟨_, rfl⟩
  rw [hL] at VA hcap h ⊢
  have HL := hid hL
  clear hL
  go_enter Tryz.func97, Tryz.ntmps97
  go_wp2_with fail
  refine VA.out.mono ?_
  rintro r w1 ⟨rfl, hb1⟩
  by_cases hrv : RV c
  case neg =>
    rw [decide_eq_false hrv]
    have e1 : E = 2 := by rw [← HE.out]; exact if_neg hrv
    have e2 : R = [] := by rw [← HR.out]; exact if_neg hrv
    subst e1 e2
    go_wp2
    go_ret2
    exact ⟨⟨_, rfl, SlR.nil _ _⟩, hb1⟩
  rw [decide_eq_true hrv]
  have hq := (P4R.toQ (h : P4R 0 w (.slice ao L cap) c) hrv).below hb1
  have hz1 := hz.below hb1
  have e1 : slpE c = match slsO (toQ c) (c.length - 1) with | some _ => 0 | none => 5 := if_pos hrv
  have e2 : slpL c = (slsO (toQ c) (c.length - 1)).getD [] := if_pos hrv
  have hcv := rv_cv hrv
  have hlen := toQ_len c
  rw [HL.out] at hlen e1 e2
  generalize toQ c = C at hq e1 e2 hcv hlen
  have CVC := hid hcv
  have HCL := hid hlen
  have HE2 := hid (HE.out.symm.trans e1)
  have HR2 := hid (HR.out.symm.trans e2)
  have hL2 : 2 ≤ L := by have := hcv.two; omega
  have hL48 : L ≤ 48 := by have := hcv.most; omega
  obtain ⟨ao2, cap2, he2, -, -, hcc⟩ := hq
  obtain ⟨rfl, -⟩ : ao2 = ao ∧ True := by
    injection he2 with g1 g2 g3
    exact ⟨g1.symm, trivial⟩
  obtain ⟨b, off, rfl, hb, -, -, -, -⟩ := p_cell hcc (show 0 < C.length by omega)
  have HCC := hid hcc
  have hget : ∀ (i : Nat) (W : World), i < L → Below w1.heap.size w1 W → W.cell? ⟨b, off + i * 4, none⟩ = some (.int .i64 (C.getD i (0, 0)).1.num) ∧ W.cell? ⟨b, off + i * 4 + 1, none⟩ = some (.int .i64 ((C.getD i (0, 0)).1.den : Int)) ∧ W.cell? ⟨b, off + i * 4 + 2, none⟩ = some (.int .i64 (C.getD i (0, 0)).2.num) ∧ W.cell? ⟨b, off + i * 4 + 3, none⟩ = some (.int .i64 ((C.getD i (0, 0)).2.den : Int)) := by
    intro i W hi hbW
    obtain ⟨b', off', he, hb', x0, x1, x2, x3⟩ := p_cell HCC.out (show i < C.length by rw [HCL.out]; exact hi)
    cases he
    exact ⟨(hbW.cell (p := ⟨b, off + i * 4, none⟩) hb').trans x0, (hbW.cell (p := ⟨b, off + i * 4 + 1, none⟩) hb').trans x1, (hbW.cell (p := ⟨b, off + i * 4 + 2, none⟩) hb').trans x2, (hbW.cell (p := ⟨b, off + i * 4 + 3, none⟩) hb').trans x3⟩
  have HGET := hid hget
  have wL : IntKind.i64.wrap ((L : Int) - 1) = ((L - 1 : Nat) : Int) := by rw [IntWalk.i64_left]; unfold wrap64; omega
  clear e1 e2 hcv hlen he2 hcc hget hrv VA HE HR
  go_wp2_with fail
  have k4 := Blk.new w1 #[.int .i64 0] 59
  have ba := alloc_below w1 (.cells #[.int .i64 0] 59)
  have hz2 := hz1.below ba
  obtain ⟨w2, hw2⟩ : ∃ w2, w1.alloc (.cells #[.int .i64 0] 59) = w2 := ⟨_, rfl⟩
  obtain ⟨g, hg⟩ : ∃ g, w1.heap.size = g := ⟨_, rfl⟩
  have HB1 := hid hb1
  rw [hw2] at k4 ba hz2 ⊢
  rw [hg] at k4 ba hb ⊢
  have hs2 : g + 1 ≤ w2.heap.size := k4.lt
  have HG := hid hg
  have HZ1 := hid hz1
  have HGT : Hid (∀ (i : Nat) (W : World), i < L → Below g w1 W → W.cell? ⟨b, off + i * 4, none⟩ = some (.int .i64 (C.getD i (0, 0)).1.num) ∧ W.cell? ⟨b, off + i * 4 + 1, none⟩ = some (.int .i64 ((C.getD i (0, 0)).1.den : Int)) ∧ W.cell? ⟨b, off + i * 4 + 2, none⟩ = some (.int .i64 (C.getD i (0, 0)).2.num) ∧ W.cell? ⟨b, off + i * 4 + 3, none⟩ = some (.int .i64 ((C.getD i (0, 0)).2.den : Int))) := by
    have := HGET.out
    rw [hg] at this
    exact hid this
  clear hw2 hg hz1 hb1 HGET HCC
  go_loopw [5, 13] (fun y x wr => ∃ i : Nat, x = .int .i64 i ∧ i ≤ L - 1 ∧ (∃ ok l, ok = (slsO C i).isSome ∧ (ok = true → slsO C i = some l) ∧ l.length = i ∧ Hid (wr.ownsRow (g + 1) 31 2 y i (frsC l)) ∧ Hid (CalB wr g ok)) ∧ Below g w1 wr ∧ w2.heap.size ≤ wr.heap.size) (fun _ x _ => L - 1 - (intOf x).toNat)
  case atStart => exact ⟨0, rfl, Nat.zero_le _, ⟨true, [], rfl, fun _ => rfl, rfl, hid (World.ownsRow_nil _ _ _ _), hid k4⟩, ba, Nat.le_refl _⟩
  case round =>
    obtain ⟨i, rfl, hi, ⟨ok, l, hok, hokl, hll, HO, HK⟩, hbel, hsz⟩ := hrel
    have hzr : Z0 wr := HZ1.out.below (by rw [HG.out]; exact hbel)
    by_cases hiL : i < L - 1
    · have hi2 : (i : Int) < ((L - 1 : Nat) : Int) := by omega
      have hiL2 : (i : Int) < (L : Int) := by omega
      have hiL3 : i < L := by omega
      have hi1L : i + 1 < L := by omega
      have hi1L2 : (i : Int) + 1 < (L : Int) := by omega
      have hi1p : 0 ≤ (i : Int) + 1 := by omega
      have wI : IntKind.i64.wrap ((i : Int) + 1) = ((i + 1 : Nat) : Int) := by rw [IntWalk.i64_left]; unfold wrap64; omega
      have hst := slsO_step hok hokl
      have hP := CVC.out.fit i (by rw [HCL.out]; exact hiL3)
      have hQ := CVC.out.fit (i + 1) (by rw [HCL.out]; exact hi1L)
      have hri := CVC.out.rise i (by rw [HCL.out]; exact hi1L)
      have gP := fun W hb => HGT.out i W hiL3 hb
      have gQ := fun W hb => HGT.out (i + 1) W hi1L hb
      obtain ⟨P, hPe⟩ : ∃ P, C.getD i (0, 0) = P := ⟨_, rfl⟩
      obtain ⟨Q, hQe⟩ : ∃ P, C.getD (i + 1) (0, 0) = P := ⟨_, rfl⟩
      rw [hPe, hQe] at hst hri
      rw [hPe] at hP gP
      rw [hQe] at hQ gQ
      have SL := hid (fun w hz hk => slope_any P Q hP hQ (fun e => by rw [e] at hri; exact absurd hri.1 Rat.lt_irrefl) g ok w hz hk)
      obtain ⟨k3, hk3⟩ : ∃ o, calK ok (slO P Q) = o := ⟨_, rfl⟩
      obtain ⟨v3, hv3⟩ : ∃ o, calV ok (slO P Q) = o := ⟨_, rfl⟩
      rw [hk3, hv3] at SL hst
      unfold frQ ptQ at SL
      have HST := hid hst
      have HGP := hid gP
      have HGQ := hid gQ
      have HLL := hid hll
      clear hst hP hQ hri hPe hQe hk3 hv3 gP gQ hok hokl hll
      go_wp2_with fail
      have hd : CalT g wr wr.drew := CalT.of_below (Below.refl wr.heap.size wr).drew
      have hgr : g ≤ wr.heap.size := Nat.le_trans (by omega) hsz
      have bx := fun x : SubT (CalT g) wr.drew => CalT.below hbel ((calT_pre g).trans hd x.b) (Nat.le_refl _) hgr
      have z0 := fun x : SubT (CalT g) wr.drew => (HGP.out x.w (bx x)).1
      have z1 := fun x : SubT (CalT g) wr.drew => (HGP.out x.w (bx x)).2.1
      have z2 := fun x : SubT (CalT g) wr.drew => (HGP.out x.w (bx x)).2.2.1
      have z3 := fun x : SubT (CalT g) wr.drew => (HGP.out x.w (bx x)).2.2.2
      have z4 := fun x : SubT (CalT g) wr.drew => (HGQ.out x.w (bx x)).1
      have z5 := fun x : SubT (CalT g) wr.drew => (HGQ.out x.w (bx x)).2.1
      have z6 := fun x : SubT (CalT g) wr.drew => (HGQ.out x.w (bx x)).2.2.1
      have z7 := fun x : SubT (CalT g) wr.drew => (HGQ.out x.w (bx x)).2.2.2
      clear bx
      refine wp_walkJ (T := CalT g) (calT_pre g) (.rd 0 (.rd 1 (.rd 2 (.rd 3 (.rd 4 (.rd 5 (.rd 6 (.rd 7 (.rd 8 (.rd 9 (.mv 10 (.mv 11 (.bt 12 (.rd 13 (.inv []))))))))))))))) (by kernel_rfl) rfl (by kernel_rfl) (by kernel_rfl) ?_
      iterate 10 (refine walkJ_rd rfl (fun K hK => ?_); go_simp; refine hK _ ?_; clear hK K)
      clear z0 z1 z2 z3 z4 z5 z6 z7
      have hkd : CalB wr.drew g ok := CalB.below HK.out (Below.refl wr.heap.size wr).drew
      have hzd := hzr.below (Below.refl wr.heap.size wr).drew
      (refine walkJ_mv rfl (fun K hK => ?_); go_simp; refine (SL.out _ hzd hkd).mono ?_; rintro e w3 ⟨rfl, hk3, ht3⟩; refine ⟨_, rfl, hK _ _ ht3 ?_⟩; clear hK K)
      have tw3 := (calT_pre g).trans hd ht3
      have ho3 := owns_calT tw3 HO.out (Nat.lt_succ_self g)
      have hb3 := CalT.below hbel tw3 (Nat.le_refl _) hgr
      have hs3 := Nat.le_trans hsz tw3.size
      (refine walkJ_mv rfl (fun K hK => ?_); go_simp; refine hK _ _ (CalT.of_below (alloc_below _ _)) ?_; clear hK K)
      have kN := Blk.new w3 [Value.int .i64 v3.num, Value.int .i64 (v3.den : Int)].toArray 31
      have ba3 := alloc_below w3 (.cells [Value.int .i64 v3.num, Value.int .i64 (v3.den : Int)].toArray 31)
      have ho4 := owns_below ho3 ba3
      have hk4 := CalB.below hk3 ba3
      have hb4 := hb3.trans (ba3.mono (by omega))
      have hs4 := Nat.le_trans hs3 ba3.size
      refine walkJ_bt rfl (fun K hK => ⟨rfl, gives_app (.tmp 16) (.tmp 27) 37 37 rfl rfl (g + 1) 31 (frV 0 0) 2 16 Tryz.underlying37 infoFrac rfl (by decide) rfl ho4 [Value.int .i64 v3.num, Value.int .i64 (v3.den : Int)] w3.heap.size kN rfl rfl (by simp [Value.oneCell']) (by unfold maxLen; omega) (by omega) (by omega) (fun g5 cap5 w5 ho5 hgr5 hbg5 => hK _ _ ?_)⟩)
      clear hK K
      iterate 1 (refine walkJ_rd rfl (fun K hK => ?_); go_simp; refine hK _ ?_; clear hK K)
      refine walkJ_nil ?_
      have hown : ∀ k, u5.ownBlock = some k → g + 1 ≤ k := fun k hk => (ho4.lt k hk).1
      have hk5 : CalB w5 g k3 := (World.grownBy.block hgr5 g hk4.lt (fun e => by have := hown g e.symm; omega)).trans hk4
      have hb5 : Below g w1 w5 := hb4.grown hgr5 (by omega) (fun j hj => by have := hown j hj; omega)
      have hs5 := Nat.le_trans hs4 hgr5.size
      rw [← show frsC (l ++ [v3]) = frsC l ++ [Value.int .i64 v3.num, Value.int .i64 (v3.den : Int)] from frsC_append l [v3]] at ho5
      have HO5 := hid ho5
      have HK5 := hid hk5
      clear ho5 hk5 hgr5 ho4 hk4 hb4 ho3 hb3 hk3 ht3 tw3 kN ba3 hd hkd hzd
      go_wp2
      go_roundw
      case rel => exact ⟨i + 1, by go_num, by omega, ⟨k3, l ++ [v3], HST.out.1, HST.out.2, by rw [List.length_append, HLL.out]; rfl, HO5, HK5⟩, hb5, hs5⟩
      case measure => simp [intOf]; omega
    · obtain rfl : i = L - 1 := by omega
      have hi2 : ¬ ((L - 1 : Nat) : Int) < ((L - 1 : Nat) : Int) := by omega
      obtain ⟨ao3, c3, rfl, -⟩ := id (SlR.of_owns HO.out)
      have hBw : Below w.heap.size w wr := HB1.out.trans ((show Below w1.heap.size w1 wr by rw [HG.out]; exact hbel).mono HB1.out.size)
      have hwg : w.heap.size ≤ g := by rw [← HG.out]; exact HB1.out.size
      have hr := SlR.mono (SlR.of_owns HO.out) (show w.heap.size ≤ g + 1 by omega)
      have c0 := HK.out.look 0 rfl
      cases ok with
      | true =>
        have hs := hokl rfl
        have e1 : E = 0 := by rw [HE2.out, hs]
        have e2 : R = l := by rw [HR2.out, hs]; rfl
        subst e1 e2
        have HRR := hid hr
        have HLL := hid hll
        clear hok hokl hs hr hll HE2 HR2
        go_wp2
        go_ret2
        refine ⟨⟨_, rfl, ?_⟩, hBw⟩
        unfold QsR
        rw [HLL.out]
        exact HRR.out
      | false =>
        have hs : slsO C (L - 1) = none := by
          cases hs : slsO C (L - 1) with
          | none => rfl
          | some l' => rw [hs] at hok; cases hok
        have e1 : E = 5 := by rw [HE2.out, hs]
        have e2 : R = [] := by rw [HR2.out, hs]; rfl
        subst e1 e2
        clear hok hokl hs hr hll HE2 HR2
        go_wp2_with fail
        have hd := (Below.refl wr.heap.size wr).drew
        have z0 := fun x : SubT (Below wr.heap.size) wr.drew => (Blk.below HK.out (hd.trans x.b)).look 0 rfl
        refine wp_walkJ (T := Below (wr.heap.size)) (belowV_pre _) (.rd 0 (.rd 1 (.rd 2 (.rd 3 (.inv []))))) (by kernel_rfl) rfl (by kernel_rfl) (by kernel_rfl) ?_
        iterate 4 (refine walkJ_rd rfl (fun K hK => ?_); go_simp; refine hK _ ?_; clear hK K)
        refine walkJ_nil ?_
        go_wp2
        go_ret2
        exact ⟨⟨_, rfl, SlR.nil _ _⟩, hBw.trans (hd.mono hBw.size)⟩

end Go.Proofs.YtfkclcoipadhmaaGreatDoor
