/- Rows of fractions that are written; walk of slices.DeleteFunc with merged's closure. -/
import Derived.Test.YtfkclcoipadhmaaDoorDl
import Derived.Lib.SliceRun
import Derived.Deep.WholeRow
namespace Go.Proofs.YtfkclcoipadhmaaDoor
open Go.RowKit
attribute [local irreducible] seqS seqST walkV walkJ

/-- A row of cells in a block, none of them frozen. -/
def RowF (w : World) (g o : Nat) (cs : List Value) : Prop := ∀ j u, cs[j]? = some u → w.cell? ⟨g, o + j, none⟩ = some u ∧ w.frozen? ⟨g, o + j, none⟩ = false
theorem RowF.of_owns {w : World} {base : Nat} {e : TypeId} {size g n cap : Nat} {xs : List Value} (h : w.ownsRow base e size (.slice (some ⟨g, 0, none⟩) n cap) n xs) : RowF w g 0 xs := by
  intro j u hj
  refine ⟨by have := h.cells (g := g) rfl j u hj; rwa [Addr.add_lit] at this, ?_⟩
  obtain ⟨cur, hh, -, -⟩ := owns_block h
  unfold World.frozen?
  rw [show w.heap[(⟨g, 0 + j, none⟩ : Addr).block]? = _ from hh]
  simp
theorem setCells_below {B g : Nat} (hg : B ≤ g) : ∀ (vs : List Value) (o : Nat) {a w : World}, Below B a w → Below B a (w.setCells g o vs)
  | [], _, _, _, h => h
  | v :: vs, o, _, _, h => setCells_below hg vs (o + 1) (h.setCell (p := ⟨g, o, none⟩) hg v)
theorem setCells_size (g : Nat) : ∀ (vs : List Value) (o : Nat) (w : World), (w.setCells g o vs).heap.size = w.heap.size
  | [], _, _ => rfl
  | v :: vs, o, w => (setCells_size g vs (o + 1) _).trans (by simp [World.setCell])
/-- A row, some of it laid over. -/
theorem RowF.over {w : World} {g o : Nat} {a b c vs : List Value} (h : RowF w g o (a ++ b ++ c)) (hl : vs.length = b.length) : RowF (w.setCells g (o + a.length) vs) g o (a ++ vs ++ c) := by
  intro j u hj
  have hlt : j < (a ++ b ++ c).length := by
    have := (List.getElem?_eq_some_iff.1 hj).1
    simp only [List.length_append] at this ⊢
    omega
  obtain ⟨u0, hu0⟩ : ∃ u0, (a ++ b ++ c)[j]? = some u0 := ⟨_, List.getElem?_eq_getElem hlt⟩
  have h0 := h j u0 hu0
  refine ⟨?_, by rw [World.frozen?_setCells]; exact h0.2⟩
  by_cases h1 : j < a.length
  · rw [World.cell?_setCells_out g vs _ w _ (fun _ _ => .inl (by show o + j < o + a.length; omega)), h0.1, ← hu0, ← hj]
    rw [List.append_assoc, List.append_assoc, List.getElem?_append_left h1, List.getElem?_append_left h1]
  · by_cases h2 : j < a.length + vs.length
    · have hc := World.cell?_setCells_in g vs (o + a.length) w (fun k hk => ?_) (j - a.length) (by omega)
      · rw [show o + a.length + (j - a.length) = o + j by omega] at hc
        rw [hc, ← hj, List.append_assoc, List.getElem?_append_right (by omega), List.getElem?_append_left (by omega), List.getElem?_eq_getElem (by omega)]
      · obtain ⟨u1, hu1⟩ : ∃ u1, (a ++ b ++ c)[a.length + k]? = some u1 := ⟨_, List.getElem?_eq_getElem (by simp only [List.length_append]; omega)⟩
        rw [Nat.add_assoc, (h _ u1 hu1).1]
        rfl
    · rw [World.cell?_setCells_out g vs _ w _ (fun _ _ => .inr (by show o + a.length + vs.length ≤ o + j; omega)), h0.1, ← hu0, ← hj]
      rw [List.getElem?_append_right (by simp only [List.length_append]; omega), List.getElem?_append_right (by simp only [List.length_append]; omega), List.length_append, List.length_append, hl]
/-- A row of fractions in a block. -/
def QRow (w : World) (g : Nat) (R : List Rat) : Prop := RowF w g 0 (frsC R)
theorem RowF.below {w w' : World} {g o : Nat} {cs : List Value} (h : RowF w g o cs) (hg : g < w.heap.size) (hb : Below w.heap.size w w') : RowF w' g o cs := by
  intro j u hj
  obtain ⟨h1, h2⟩ := h j u hj
  refine ⟨(hb.cell (p := ⟨g, o + j, none⟩) hg).trans h1, ?_⟩
  unfold World.frozen? at h2 ⊢
  rw [show w'.heap[(⟨g, o + j, none⟩ : Addr).block]? = w.heap[(⟨g, o + j, none⟩ : Addr).block]? from hb.block g hg]
  exact h2
theorem QRow.get {w : World} {g : Nat} {R : List Rat} (h : QRow w g R) {i : Nat} (hi : i < R.length) :
    w.cell? ⟨g, i * 2, none⟩ = some (.int .i64 (R.getD i 0).num) ∧ w.cell? ⟨g, i * 2 + 1, none⟩ = some (.int .i64 ((R.getD i 0).den : Int)) ∧ w.frozen? ⟨g, i * 2, none⟩ = false ∧ w.frozen? ⟨g, i * 2 + 1, none⟩ = false := by
  have hl := frsC_len R
  have g2 := frsC_get R i hi
  have h0 := h (i * 2) ((frsC R).getD (i * 2) undef) (by rw [List.getD_eq_getElem?_getD, List.getElem?_eq_getElem (by omega)]; rfl)
  have h1 := h (i * 2 + 1) ((frsC R).getD (i * 2 + 1) undef) (by rw [List.getD_eq_getElem?_getD, List.getElem?_eq_getElem (by omega)]; rfl)
  rw [g2.1, Nat.zero_add] at h0
  rw [g2.2, Nat.zero_add] at h1
  exact ⟨h0.1, h1.1, h0.2, h1.2⟩
theorem QRow.set {w : World} {g : Nat} {R : List Rat} (h : QRow w g R) {i : Nat} (hi : i < R.length) (q : Rat) :
    QRow ((w.setCell ⟨g, i * 2, none⟩ (.int .i64 q.num)).setCell ⟨g, i * 2 + 1, none⟩ (.int .i64 (q.den : Int))) g (R.set i q) := by
  have hsp : R = R.take i ++ [R.getD i 0] ++ R.drop (i + 1) := by
    rw [List.append_assoc, List.getD_eq_getElem?_getD, List.getElem?_eq_getElem hi]
    show R = R.take i ++ (R[i] :: R.drop (i + 1))
    rw [← List.drop_eq_getElem_cons hi, List.take_append_drop]
  have hset : R.set i q = R.take i ++ [q] ++ R.drop (i + 1) := by
    rw [List.set_eq_take_append_cons_drop, if_pos hi, List.append_assoc]
    rfl
  have h0 : RowF w g 0 (frsC (R.take i) ++ frsC [R.getD i 0] ++ frsC (R.drop (i + 1))) := by
    rw [← frsC_append, ← frsC_append, ← hsp]
    exact h
  have h1 := RowF.over (vs := frsC [q]) h0 (by rw [frsC_len, frsC_len]; rfl)
  have hlen : (frsC (R.take i)).length = i * 2 := by rw [frsC_len, List.length_take, Nat.min_eq_left (by omega)]
  rw [hlen, Nat.zero_add] at h1
  unfold QRow
  rw [hset, frsC_append, frsC_append]
  exact h1

/-- The cells that clear lays. -/
def zerosQ (k : Nat) : List Value := (Builtin.zeroCells #[.int .i64 0, .int .i64 0] k).toList
theorem zerosQ_len (k : Nat) : (zerosQ k).length = k * 2 := by
  unfold zerosQ Builtin.zeroCells
  simp
theorem zerosQ_one (k : Nat) : ∀ v ∈ zerosQ k, v.oneCell' = true := by
  intro v hv
  unfold zerosQ Builtin.zeroCells at hv
  simp at hv
  obtain ⟨j, hj, rfl⟩ := hv
  have : j % 2 = 0 ∨ j % 2 = 1 := by omega
  rcases this with h | h <;> rw [h] <;> rfl
theorem run_clear_q (w : World) (g i k c : Nat) (ty : TypeId) (xs : List Value) (hk : 1 ≤ k) (hx : xs.length = k * 2) (h : RowF w g (i * 2) xs) :
    (Builtin.clear_ #[23] ty #[.slice (some ⟨g, i * 2, none⟩) k c]).run Tryd.prog w = .ok (.tuple #[]) (w.setCells g (i * 2) (zerosQ k)) := by
  have hz := (zero_of_info (P := Tryd.prog) (t := 32) (v := frV 0 0) (n := 2) (by kernel_rfl)).1
  unfold frV at hz
  have hget : ∀ j, j < (zerosQ k).length → ∃ u, xs[j]? = some u := fun j hj => ⟨_, List.getElem?_eq_getElem (by rw [zerosQ_len] at hj; omega)⟩
  have hst := run_storeCells_cells (P := Tryd.prog) g (i * 2) (zerosQ k) 0 w
    (fun j hj => by obtain ⟨u, hu⟩ := hget j hj; have := (h j u hu).1; simp [this])
    (fun j hj => by obtain ⟨u, hu⟩ := hget j hj; simpa using (h j u hu).2) (zerosQ_one k)
  simp only [Nat.add_zero] at hst
  unfold zerosQ at hst ⊢
  obtain ⟨k', rfl⟩ : ∃ k', k = k' + 1 := ⟨k - 1, by omega⟩
  simp [Builtin.clear_, run_underlying Tryd.underlying23, hz, Value.cells, hst]
theorem filter_step {l : List Rat} {m : Rat} {j : Nat} (hj : j < l.length) : (l.take (j + 1)).filter (fun q => decide (q ≤ m)) = (l.take j).filter (fun q => decide (q ≤ m)) ++ (if l.getD j 0 ≤ m then [l.getD j 0] else []) := by
  rw [List.take_succ_eq_append_getElem hj, List.filter_append]
  have e : l[j] = l.getD j 0 := by rw [List.getD_eq_getElem?_getD, List.getElem?_eq_getElem hj]; rfl
  rw [e]
  by_cases h : l.getD j 0 ≤ m
  · rw [if_pos h, List.filter_cons_of_pos (by simpa using h), List.filter_nil]
  · rw [if_neg h, List.filter_cons_of_neg (by simpa using h), List.filter_nil]
theorem filterQ_all {l : List Rat} {m : Rat} {i : Nat} (h : ∀ k, k < i → l.getD k 0 ≤ m) (hi : i ≤ l.length) : (l.take i).filter (fun q => decide (q ≤ m)) = l.take i := by
  rw [List.filter_eq_self]
  intro q hq
  obtain ⟨k, hk, he⟩ := List.mem_iff_getElem.1 hq
  rw [List.length_take] at hk
  have h2 := h k (by omega)
  rw [List.getD_eq_getElem?_getD, List.getElem?_eq_getElem (show k < l.length by omega)] at h2
  rw [List.getElem_take] at he
  rw [← he]
  simpa using h2
/-- The row, as DeleteFunc goes. -/
structure DelI (l : List Rat) (m : Rat) (i j : Nat) (R : List Rat) : Prop where
  lt : i < j
  le : j ≤ l.length
  len : R.length = l.length
  done : R.take i = (l.take j).filter (fun q => decide (q ≤ m))
  left : ∀ k, j ≤ k → R.getD k 0 = l.getD k 0
theorem DelI.keep {l : List Rat} {m : Rat} {i j : Nat} {R : List Rat} (h : DelI l m i j R) (hj : j < l.length) (hq : l.getD j 0 ≤ m) : DelI l m (i + 1) (j + 1) (R.set i (l.getD j 0)) where
  lt := by have := h.lt; omega
  le := by omega
  len := by rw [List.length_set, h.len]
  done := by
    have hi : i < R.length := by have := h.lt; have := h.len; omega
    have hA : (R.take i).length = i := by rw [List.length_take]; omega
    rw [filter_step hj, if_pos hq, ← h.done, List.set_eq_take_append_cons_drop, if_pos hi, List.take_append, hA, List.take_of_length_le (by omega), show i + 1 - i = 1 by omega]
    rfl
  left := by
    intro k hk
    have := h.lt
    rw [List.getD_eq_getElem?_getD, List.getElem?_set_ne (by omega), ← List.getD_eq_getElem?_getD]
    exact h.left k (by omega)
theorem DelI.drop {l : List Rat} {m : Rat} {i j : Nat} {R : List Rat} (h : DelI l m i j R) (hj : j < l.length) (hq : ¬ l.getD j 0 ≤ m) : DelI l m i (j + 1) R where
  lt := by have := h.lt; omega
  le := by omega
  len := h.len
  done := by rw [filter_step hj, if_neg hq, List.append_nil, h.done]
  left := fun k hk => h.left k (by omega)

structure DelR (l : List Rat) (m : Rat) (g cap : Nat) (r : Ending) (w' : World) : Prop where
  out : ∃ F, F = l.filter (fun q => decide (q ≤ m)) ∧ r = .returned (.slice (some ⟨g, 0, none⟩) F.length cap) ∧ QRow w' g F

set_option maxHeartbeats 8000000 in
set_option maxRecDepth 100000 in
theorem deleteOver_any (l : List Rat) (m : Rat) (gm B g n cap : Nat) (w : World) (hn : l.length = n) (hn1 : 1 ≤ n) (hn2 : n ≤ 1000) (hown : w.ownsRow B 32 2 (.slice (some ⟨g, 0, none⟩) n cap) n (frsC l)) (hf : ∀ i, i < l.length → fits (l.getD i 0)) (hm : fits m) (hgm : gm < B)
    (hk : Blk w gm #[.int .i64 m.num, .int .i64 (m.den : Int)] 32) :
    Calls Tryd.prog 124 #[.slice (some ⟨g, 0, none⟩) n cap, .func (.func 125) #[] #[.pointer (some ⟨gm, 0, none⟩)]] w fun r w' =>
      DelR l m g cap r w' ∧ Below B w w' := by
  have hR := RowF.of_owns hown
  obtain ⟨cur, hh, hgB, hgs⟩ := owns_block hown
  have hcap : n ≤ cap ∧ cap ≤ maxLen := by
    obtain ⟨a1, ⟨h, -⟩ | ⟨g', cap', cur', hv, -, -, b1, b2, -, -⟩⟩ := hown
    · cases h
    · cases hv; exact ⟨b1, b2⟩
  unfold maxLen at hcap
  have hQ : QsR 0 w (.slice (some ⟨g, 0, none⟩) n cap) l := by
    unfold QsR
    rw [hn]
    exact (SlR.of_owns hown).mono (Nat.zero_le _)
  have IX := hid (indexOver_any l m (.slice (some ⟨g, 0, none⟩) n cap) gm w hQ hf hm (by omega) hk)
  have CM := hid (fun (i : Nat) (hi : i < n) w h => over_any m (l.getD i 0) hm (hf i (by omega)) gm w h)
  have HN := hid hn
  have HR : Hid (QRow w g l) := hid hR
  have HF := hid hf
  clear hn hown hR hQ hf hh
  unfold frQ at CM
  go_enter Tryd.func124, Tryd.ntmps124
  go_wp2_with fail
  refine IX.out.mono ?_
  rintro r w1 ⟨⟨z, rfl, hz⟩, hb1⟩
  have hBw : B ≤ w.heap.size := by omega
  have hB1 : Below B w w1 := hb1.mono hBw
  have hs1 := hb1.size
  have HR1 : Hid (QRow w1 g l) := hid (RowF.below HR.out hgs hb1)
  have hk1 := hk.below hb1
  clear hb1 HR hk IX
  rcases hz.is with ⟨rfl, hall⟩ | ⟨i0, rfl, hi0, hov, hlo⟩
  · have hfl : l.filter (fun q => decide (q ≤ m)) = l := by
      have := filterQ_all hall (Nat.le_refl _)
      rwa [List.take_length] at this
    have HFL := hid hfl
    clear hall hfl hz
    go_wp2
    go_ret
    exact ⟨⟨l, HFL.out.symm, by rw [HN.out]; rfl, HR1.out⟩, hB1⟩
  · have hz1 : ¬ (i0 : Int) = -1 := by omega
    rw [HN.out] at hi0
    have hD : DelI l m i0 (i0 + 1) l := by
      refine ⟨Nat.lt_succ_self _, by rw [HN.out]; exact hi0, rfl, ?_, fun k _ => rfl⟩
      rw [filter_step (by rw [HN.out]; exact hi0), if_neg (Rat.not_le.2 hov), List.append_nil, filterQ_all hlo (by rw [HN.out]; omega)]
    have HD := hid hD
    clear hD hz hov hlo
    go_wp2_with fail
    rw [show ((i0 : Int) == -1) = false from beq_eq_false_iff_ne.2 hz1]
    go_loopw [5, 6] (fun x' y' wr => ∃ (i j : Nat) (R : List Rat), x' = .int .i64 i ∧ y' = .int .i64 j ∧ j ≤ n ∧ Hid (DelI l m i j R) ∧ Hid (QRow wr g R) ∧ Below B w wr ∧ w1.heap.size ≤ wr.heap.size) (fun _ y' _ => n - (intOf y').toNat)
    case atStart => exact ⟨i0, i0 + 1, l, rfl, by go_num, hi0, HD, HR1, hB1, Nat.le_refl _⟩
    case round =>
      obtain ⟨i, j, R, rfl, rfl, hj, HI, HQ, hbel, hsz⟩ := hrel
      have hij := HI.out.lt
      have hRl : R.length = n := by rw [HI.out.len]; exact HN.out
      have hkr : Blk wr gm #[.int .i64 m.num, .int .i64 (m.den : Int)] 32 := (hbel.block gm hgm).trans ((hB1.block gm hgm).symm.trans hk1)
      by_cases hjn : j < n
      · have hjn2 : (j : Int) < (n : Int) := by omega
        have hin : i < n := by omega
        have hin2 : (i : Int) < (n : Int) := by omega
        obtain ⟨x0, x1, f0, f1⟩ := HQ.out.get (i := j) (by rw [hRl]; exact hjn)
        rw [HI.out.left j (Nat.le_refl _)] at x0 x1
        have CMM := hid (CM.out j hjn)
        obtain ⟨q, hq⟩ : ∃ q, l.getD j 0 = q := ⟨_, rfl⟩
        rw [hq] at x0 x1 CMM
        have HQE := hid hq
        clear hq
        go_wp2_with fail
        have hgr : g < wr.heap.size := by omega
        have hBr : B ≤ wr.heap.size := by omega
        have kb := Blk.new wr #[.int .i64 q.num, .int .i64 (q.den : Int)] 32
        have hbA := alloc_below wr (.cells #[.int .i64 q.num, .int .i64 (q.den : Int)] 32)
        have hkW := hkr.below hbA
        refine (CMM.out _ hkW).mono ?_
        rintro r w3 ⟨rfl, hb3⟩
        have hbr3 := hbA.trans (hb3.mono hbA.size)
        have HQ3 : Hid (QRow w3 g R) := hid (RowF.below HQ.out hgr hbr3)
        have hbel3 := hbel.trans (hbr3.mono hBr)
        have hs3 := Nat.le_trans hsz hbr3.size
        have kb3 := kb.below hb3
        clear kb hbA hkW hb3 hbr3 x0 x1 f0 f1 hkr
        by_cases hmq : m < q
        · rw [decide_eq_true hmq]
          have HD2 := hid (HI.out.drop (by rw [HN.out]; exact hjn) (by rw [HQE.out]; exact Rat.not_le.2 hmq))
          clear hmq
          go_wp2
          go_roundw
          case rel => exact ⟨i, j + 1, R, rfl, by go_num, by omega, HD2, HQ3, hbel3, hs3⟩
          case measure => simp [intOf]; omega
        · rw [decide_eq_false hmq]
          have HD2 := hid (HI.out.keep (by rw [HN.out]; exact hjn) (by rw [HQE.out]; exact Rat.not_lt.1 hmq))
          rw [HQE.out] at HD2
          obtain ⟨y0, y1, f0, f1⟩ := HQ3.out.get (i := i) (by rw [hRl]; exact hin)
          have HQ4 := hid (HQ3.out.set (i := i) (by rw [hRl]; exact hin) q)
          have hbel4 := (hbel3.setCell (p := ⟨g, i * 2, none⟩) hgB (.int .i64 q.num)).setCell (p := ⟨g, i * 2 + 1, none⟩) hgB (.int .i64 (q.den : Int))
          have c0 := kb3.look 0 rfl
          have c1 := kb3.look 1 rfl
          have hs4 : w1.heap.size ≤ ((w3.setCell ⟨g, i * 2, none⟩ (.int .i64 q.num)).setCell ⟨g, i * 2 + 1, none⟩ (.int .i64 (q.den : Int))).heap.size := by simpa [World.setCell] using hs3
          have HS4 := hid hs4
          clear hmq kb3 hbel3 hs3 hs4
          go_wp2
          go_roundw
          case rel => exact ⟨i + 1, j + 1, R.set i q, by go_num, by go_num, by omega, HD2, HQ4, hbel4, HS4.out⟩
          case measure => simp [intOf]; omega
      · obtain rfl : n = j := by omega
        have hjn2 : ¬ (n : Int) < (n : Int) := by omega
        have hdone := HI.out.done
        rw [← HN.out, List.take_length] at hdone
        have HDN := hid hdone
        have htl : (R.take i).length = i := by rw [List.length_take]; omega
        have HTL := hid htl
        have hsp : frsC R = frsC (R.take i) ++ frsC (R.drop i) := by rw [← frsC_append, List.take_append_drop]
        have hQ := HQ.out
        unfold QRow at hQ
        rw [hsp] at hQ
        have hov := RowF.over (vs := zerosQ (n - i)) (c := []) (by rw [List.append_nil]; exact hQ) (by rw [zerosQ_len, frsC_len, List.length_drop, hRl])
        rw [frsC_len, htl, Nat.zero_add, List.append_nil] at hov
        have hRd : RowF wr g (i * 2) (frsC (R.drop i)) := by
          intro j u hj
          have h0 := hQ (i * 2 + j) u (by rw [List.getElem?_append_right (by rw [frsC_len, htl]; omega), frsC_len, htl, show i * 2 + j - i * 2 = j by omega]; exact hj)
          rw [Nat.zero_add] at h0
          exact h0
        have hcl : ∀ (ty : TypeId) (c' : Nat), (Builtin.clear_ #[23] ty #[.slice (some ⟨g, i * 2, none⟩) (n - i) c']).run Tryd.prog wr = .ok (.tuple #[]) (wr.setCells g (i * 2) (zerosQ (n - i))) := fun ty c' =>
          run_clear_q wr g i (n - i) c' ty _ (by omega) (by rw [frsC_len, List.length_drop, hRl]) hRd
        have HFB := hid (setCells_below hgB (zerosQ (n - i)) (i * 2) hbel)
        have HFQ : Hid (QRow (wr.setCells g (i * 2) (zerosQ (n - i))) g (R.take i)) := hid (by
          intro j u hj
          exact hov j u (by rw [List.getElem?_append_left (List.getElem?_eq_some_iff.1 hj).1]; exact hj))
        have hin2 : (i : Int) ≤ (n : Int) := by omega
        have hin3 : (i : Int) ≤ (cap : Int) := by omega
        have hnc : (n : Int) ≤ (cap : Int) := by omega
        clear hov hRd hQ hsp htl hdone hkr hbel
        go_wp2
        go_ret
        exact ⟨⟨R.take i, HDN.out, by rw [HTL.out]; rfl, HFQ.out⟩, HFB.out⟩

end Go.Proofs.YtfkclcoipadhmaaDoor
