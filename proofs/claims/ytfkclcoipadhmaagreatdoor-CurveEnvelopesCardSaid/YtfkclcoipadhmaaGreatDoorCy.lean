/- Several of my texts in one: Dm, Dn, Do, Dp. -/
import Derived.Test.YtfkclcoipadhmaaGreatDoorDz
import Derived.Lib.SliceRun
import Derived.Deep.WholeRow
/- Rows of fractions that are written; walk of slices.DeleteFunc with merged's closure. -/
namespace Go.Proofs.YtfkclcoipadhmaaGreatDoor
open Go.RowKit
attribute [local irreducible] seqS seqST walkV walkJ

/-- A row of cells in a block, none of them frozen. -/
def RowF (w : World) (g o : Nat) (cs : List Value) : Prop := ∀ j u, cs[j]? = some u → w.cell? ⟨g, o + j, none⟩ = some u ∧ w.frozen? ⟨g, o + j, none⟩ = false
theorem RowF.of_owns {w : World} {base : Nat} {e : TypeId} {size g n cap : Nat} {xs : List Value} (h : w.ownsRow base e size (.slice (some ⟨g, 0, none⟩) n cap) n xs) : RowF w g 0 xs := by
  intro j u hj
  refine ⟨by have := h.cells (g := g) rfl j u hj; rwa [Addr.add_lit] at this, ?_⟩
  obtain ⟨cur, hh, -, -⟩ := owns_block h
  unfold World.frozen?
  rw [show w.heap[(⟨g, 0 + j, none⟩ : Addr).block]? = _ from hh]
  simp
theorem setCells_below {B g : Nat} (hg : B ≤ g) : ∀ (vs : List Value) (o : Nat) {a w : World}, Below B a w → Below B a (w.setCells g o vs)
  | [], _, _, _, h => h
  | v :: vs, o, _, _, h => setCells_below hg vs (o + 1) (h.setCell (p := ⟨g, o, none⟩) hg v)
theorem setCells_size (g : Nat) : ∀ (vs : List Value) (o : Nat) (w : World), (w.setCells g o vs).heap.size = w.heap.size
  | [], _, _ => rfl
  | v :: vs, o, w => (setCells_size g vs (o + 1) _).trans (by simp [World.setCell])
/-- A row, some of it laid over. -/
theorem RowF.over {w : World} {g o : Nat} {a b c vs : List Value} (h : RowF w g o (a ++ b ++ c)) (hl : vs.length = b.length) : RowF (w.setCells g (o + a.length) vs) g o (a ++ vs ++ c) := by
  intro j u hj
  have hlt : j < (a ++ b ++ c).length := by
    have := (List.getElem?_eq_some_iff.1 hj).1
    simp only [List.length_append] at this ⊢
    omega
  obtain ⟨u0, hu0⟩ : ∃ u0, (a ++ b ++ c)[j]? = some u0 := ⟨_, List.getElem?_eq_getElem hlt⟩
  have h0 := h j u0 hu0
  refine ⟨?_, by rw [World.frozen?_setCells]; exact h0.2⟩
  by_cases h1 : j < a.length
  · rw [World.cell?_setCells_out g vs _ w _ (fun _ _ => .inl (by show o + j < o + a.length; omega)), h0.1, ← hu0, ← hj]
    rw [List.append_assoc, List.append_assoc, List.getElem?_append_left h1, List.getElem?_append_left h1]
  · by_cases h2 : j < a.length + vs.length
    · have hc := World.cell?_setCells_in g vs (o + a.length) w (fun k hk => ?_) (j - a.length) (by omega)
      · rw [show o + a.length + (j - a.length) = o + j by omega] at hc
        rw [hc, ← hj, List.append_assoc, List.getElem?_append_right (by omega), List.getElem?_append_left (by omega), List.getElem?_eq_getElem (by omega)]
      · obtain ⟨u1, hu1⟩ : ∃ u1, (a ++ b ++ c)[a.length + k]? = some u1 := ⟨_, List.getElem?_eq_getElem (by simp only [List.length_append]; omega)⟩
        rw [Nat.add_assoc, (h _ u1 hu1).1]
        rfl
    · rw [World.cell?_setCells_out g vs _ w _ (fun _ _ => .inr (by show o + a.length + vs.length ≤ o + j; omega)), h0.1, ← hu0, ← hj]
      rw [List.getElem?_append_right (by simp only [List.length_append]; omega), List.getElem?_append_right (by simp only [List.length_append]; omega), List.length_append, List.length_append, hl]
/-- A row of fractions in a block. -/
def QRow (w : World) (g : Nat) (R : List Rat) : Prop := RowF w g 0 (frsC R)
theorem RowF.below {w w' : World} {g o : Nat} {cs : List Value} (h : RowF w g o cs) (hg : g < w.heap.size) (hb : Below w.heap.size w w') : RowF w' g o cs := by
  intro j u hj
  obtain ⟨h1, h2⟩ := h j u hj
  refine ⟨(hb.cell (p := ⟨g, o + j, none⟩) hg).trans h1, ?_⟩
  unfold World.frozen? at h2 ⊢
  rw [show w'.heap[(⟨g, o + j, none⟩ : Addr).block]? = w.heap[(⟨g, o + j, none⟩ : Addr).block]? from hb.block g hg]
  exact h2
theorem QRow.get {w : World} {g : Nat} {R : List Rat} (h : QRow w g R) {i : Nat} (hi : i < R.length) :
    w.cell? ⟨g, i * 2, none⟩ = some (.int .i64 (R.getD i 0).num) ∧ w.cell? ⟨g, i * 2 + 1, none⟩ = some (.int .i64 ((R.getD i 0).den : Int)) ∧ w.frozen? ⟨g, i * 2, none⟩ = false ∧ w.frozen? ⟨g, i * 2 + 1, none⟩ = false := by
  have hl := frsC_len R
  have g2 := frsC_get R i hi
  have h0 := h (i * 2) ((frsC R).getD (i * 2) undef) (by rw [List.getD_eq_getElem?_getD, List.getElem?_eq_getElem (by omega)]; rfl)
  have h1 := h (i * 2 + 1) ((frsC R).getD (i * 2 + 1) undef) (by rw [List.getD_eq_getElem?_getD, List.getElem?_eq_getElem (by omega)]; rfl)
  rw [g2.1, Nat.zero_add] at h0
  rw [g2.2, Nat.zero_add] at h1
  exact ⟨h0.1, h1.1, h0.2, h1.2⟩
theorem QRow.set {w : World} {g : Nat} {R : List Rat} (h : QRow w g R) {i : Nat} (hi : i < R.length) (q : Rat) :
    QRow ((w.setCell ⟨g, i * 2, none⟩ (.int .i64 q.num)).setCell ⟨g, i * 2 + 1, none⟩ (.int .i64 (q.den : Int))) g (R.set i q) := by
  have hsp : R = R.take i ++ [R.getD i 0] ++ R.drop (i + 1) := by
    rw [List.append_assoc, List.getD_eq_getElem?_getD, List.getElem?_eq_getElem hi]
    show R = R.take i ++ (R[i] :: R.drop (i + 1))
    rw [← List.drop_eq_getElem_cons hi, List.take_append_drop]
  have hset : R.set i q = R.take i ++ [q] ++ R.drop (i + 1) := by
    rw [List.set_eq_take_append_cons_drop, if_pos hi, List.append_assoc]
    rfl
  have h0 : RowF w g 0 (frsC (R.take i) ++ frsC [R.getD i 0] ++ frsC (R.drop (i + 1))) := by
    rw [← frsC_append, ← frsC_append, ← hsp]
    exact h
  have h1 := RowF.over (vs := frsC [q]) h0 (by rw [frsC_len, frsC_len]; rfl)
  have hlen : (frsC (R.take i)).length = i * 2 := by rw [frsC_len, List.length_take, Nat.min_eq_left (by omega)]
  rw [hlen, Nat.zero_add] at h1
  unfold QRow
  rw [hset, frsC_append, frsC_append]
  exact h1

/-- The cells that clear lays. -/
def zerosQ (k : Nat) : List Value := (Builtin.zeroCells #[.int .i64 0, .int .i64 0] k).toList
theorem zerosQ_len (k : Nat) : (zerosQ k).length = k * 2 := by
  unfold zerosQ Builtin.zeroCells
  simp
theorem zerosQ_one (k : Nat) : ∀ v ∈ zerosQ k, v.oneCell' = true := by
  intro v hv
  unfold zerosQ Builtin.zeroCells at hv
  simp at hv
  obtain ⟨j, hj, rfl⟩ := hv
  have : j % 2 = 0 ∨ j % 2 = 1 := by omega
  rcases this with h | h <;> rw [h] <;> rfl
theorem run_clear_q (w : World) (g i k c : Nat) (ty : TypeId) (xs : List Value) (hk : 1 ≤ k) (hx : xs.length = k * 2) (h : RowF w g (i * 2) xs) :
    (Builtin.clear_ #[37] ty #[.slice (some ⟨g, i * 2, none⟩) k c]).run Tryz.prog w = .ok (.tuple #[]) (w.setCells g (i * 2) (zerosQ k)) := by
  have hz := (zero_of_info (P := Tryz.prog) (t := 31) (v := frV 0 0) (n := 2) (by kernel_rfl)).1
  unfold frV at hz
  have hget : ∀ j, j < (zerosQ k).length → ∃ u, xs[j]? = some u := fun j hj => ⟨_, List.getElem?_eq_getElem (by rw [zerosQ_len] at hj; omega)⟩
  have hst := run_storeCells_cells (P := Tryz.prog) g (i * 2) (zerosQ k) 0 w
    (fun j hj => by obtain ⟨u, hu⟩ := hget j hj; have := (h j u hu).1; simp [this])
    (fun j hj => by obtain ⟨u, hu⟩ := hget j hj; simpa using (h j u hu).2) (zerosQ_one k)
  simp only [Nat.add_zero] at hst
  unfold zerosQ at hst ⊢
  obtain ⟨k', rfl⟩ : ∃ k', k = k' + 1 := ⟨k - 1, by omega⟩
  simp [Builtin.clear_, run_underlying Tryz.underlying37, hz, Value.cells, hst]
theorem filter_step {l : List Rat} {m : Rat} {j : Nat} (hj : j < l.length) : (l.take (j + 1)).filter (fun q => decide (q ≤ m)) = (l.take j).filter (fun q => decide (q ≤ m)) ++ (if l.getD j 0 ≤ m then [l.getD j 0] else []) := by
  rw [List.take_succ_eq_append_getElem hj, List.filter_append]
  have e : l[j] = l.getD j 0 := by rw [List.getD_eq_getElem?_getD, List.getElem?_eq_getElem hj]; rfl
  rw [e]
  by_cases h : l.getD j 0 ≤ m
  · rw [if_pos h, List.filter_cons_of_pos (by simpa using h), List.filter_nil]
  · rw [if_neg h, List.filter_cons_of_neg (by simpa using h), List.filter_nil]
theorem filterQ_all {l : List Rat} {m : Rat} {i : Nat} (h : ∀ k, k < i → l.getD k 0 ≤ m) (hi : i ≤ l.length) : (l.take i).filter (fun q => decide (q ≤ m)) = l.take i := by
  rw [List.filter_eq_self]
  intro q hq
  obtain ⟨k, hk, he⟩ := List.mem_iff_getElem.1 hq
  rw [List.length_take] at hk
  have h2 := h k (by omega)
  rw [List.getD_eq_getElem?_getD, List.getElem?_eq_getElem (show k < l.length by omega)] at h2
  rw [List.getElem_take] at he
  rw [← he]
  simpa using h2
/-- The row, as DeleteFunc goes. -/
structure DelI (l : List Rat) (m : Rat) (i j : Nat) (R : List Rat) : Prop where
  lt : i < j
  le : j ≤ l.length
  len : R.length = l.length
  done : R.take i = (l.take j).filter (fun q => decide (q ≤ m))
  left : ∀ k, j ≤ k → R.getD k 0 = l.getD k 0
theorem DelI.keep {l : List Rat} {m : Rat} {i j : Nat} {R : List Rat} (h : DelI l m i j R) (hj : j < l.length) (hq : l.getD j 0 ≤ m) : DelI l m (i + 1) (j + 1) (R.set i (l.getD j 0)) where
  lt := by have := h.lt; omega
  le := by omega
  len := by rw [List.length_set, h.len]
  done := by
    have hi : i < R.length := by have := h.lt; have := h.len; omega
    have hA : (R.take i).length = i := by rw [List.length_take]; omega
    rw [filter_step hj, if_pos hq, ← h.done, List.set_eq_take_append_cons_drop, if_pos hi, List.take_append, hA, List.take_of_length_le (by omega), show i + 1 - i = 1 by omega]
    rfl
  left := by
    intro k hk
    have := h.lt
    rw [List.getD_eq_getElem?_getD, List.getElem?_set_ne (by omega), ← List.getD_eq_getElem?_getD]
    exact h.left k (by omega)
theorem DelI.drop {l : List Rat} {m : Rat} {i j : Nat} {R : List Rat} (h : DelI l m i j R) (hj : j < l.length) (hq : ¬ l.getD j 0 ≤ m) : DelI l m i (j + 1) R where
  lt := by have := h.lt; omega
  le := by omega
  len := h.len
  done := by rw [filter_step hj, if_neg hq, List.append_nil, h.done]
  left := fun k hk => h.left k (by omega)

structure DelR (l : List Rat) (m : Rat) (g cap : Nat) (r : Ending) (w' : World) : Prop where
  out : ∃ F, F = l.filter (fun q => decide (q ≤ m)) ∧ r = .returned (.slice (some ⟨g, 0, none⟩) F.length cap) ∧ QRow w' g F

set_option maxHeartbeats 8000000 in
set_option maxRecDepth 100000 in
theorem deleteOver_any (l : List Rat) (m : Rat) (gm B g n cap : Nat) (w : World) (hn : l.length = n) (hn1 : 1 ≤ n) (hn2 : n ≤ 1000) (hown : w.ownsRow B 31 2 (.slice (some ⟨g, 0, none⟩) n cap) n (frsC l)) (hf : ∀ i, i < l.length → fits (l.getD i 0)) (hm : fits m) (hgm : gm < B)
    (hk : Blk w gm #[.int .i64 m.num, .int .i64 (m.den : Int)] 31) :
    Calls Tryz.prog 92 #[.slice (some ⟨g, 0, none⟩) n cap, .func (.func 93) #[] #[.pointer (some ⟨gm, 0, none⟩)]] w fun r w' =>
      DelR l m g cap r w' ∧ Below B w w' := by
  have hR := RowF.of_owns hown
  obtain ⟨cur, hh, hgB, hgs⟩ := owns_block hown
  have hcap : n ≤ cap ∧ cap ≤ maxLen := by
    obtain ⟨a1, ⟨h, -⟩ | ⟨g', cap', cur', hv, -, -, b1, b2, -, -⟩⟩ := hown
    · cases h
    · cases hv; exact ⟨b1, b2⟩
  unfold maxLen at hcap
  have hQ : QsR 0 w (.slice (some ⟨g, 0, none⟩) n cap) l := by
    unfold QsR
    rw [hn]
    exact (SlR.of_owns hown).mono (Nat.zero_le _)
  have IX := hid (indexOver_any l m (.slice (some ⟨g, 0, none⟩) n cap) gm w hQ hf hm (by omega) hk)
  have CM := hid (fun (i : Nat) (hi : i < n) w h => over_any m (l.getD i 0) hm (hf i (by omega)) gm w h)
  have HN := hid hn
  have HR : Hid (QRow w g l) := hid hR
  have HF := hid hf
  clear hn hown hR hQ hf hh
  unfold frQ at CM
  go_enter Tryz.func92, Tryz.ntmps92
  go_wp2_with fail
  refine IX.out.mono ?_
  rintro r w1 ⟨⟨z, rfl, hz⟩, hb1⟩
  have hBw : B ≤ w.heap.size := by omega
  have hB1 : Below B w w1 := hb1.mono hBw
  have hs1 := hb1.size
  have HR1 : Hid (QRow w1 g l) := hid (RowF.below HR.out hgs hb1)
  have hk1 := hk.below hb1
  clear hb1 HR hk IX
  rcases hz.is with ⟨rfl, hall⟩ | ⟨i0, rfl, hi0, hov, hlo⟩
  · have hfl : l.filter (fun q => decide (q ≤ m)) = l := by
      have := filterQ_all hall (Nat.le_refl _)
      rwa [List.take_length] at this
    have HFL := hid hfl
    clear hall hfl hz
    go_wp2
    go_ret
    exact ⟨⟨l, HFL.out.symm, by rw [HN.out]; rfl, HR1.out⟩, hB1⟩
  · have hz1 : ¬ (i0 : Int) = -1 := by omega
    rw [HN.out] at hi0
    have hD : DelI l m i0 (i0 + 1) l := by
      refine ⟨Nat.lt_succ_self _, by rw [HN.out]; exact hi0, rfl, ?_, fun k _ => rfl⟩
      rw [filter_step (by rw [HN.out]; exact hi0), if_neg (Rat.not_le.2 hov), List.append_nil, filterQ_all hlo (by rw [HN.out]; omega)]
    have HD := hid hD
    clear hD hz hov hlo
    go_wp2_with fail
    rw [show ((i0 : Int) == -1) = false from beq_eq_false_iff_ne.2 hz1]
    go_loopw [5, 6] (fun x' y' wr => ∃ (i j : Nat) (R : List Rat), x' = .int .i64 i ∧ y' = .int .i64 j ∧ j ≤ n ∧ Hid (DelI l m i j R) ∧ Hid (QRow wr g R) ∧ Below B w wr ∧ w1.heap.size ≤ wr.heap.size) (fun _ y' _ => n - (intOf y').toNat)
    case atStart => exact ⟨i0, i0 + 1, l, rfl, by go_num, hi0, HD, HR1, hB1, Nat.le_refl _⟩
    case round =>
      obtain ⟨i, j, R, rfl, rfl, hj, HI, HQ, hbel, hsz⟩ := hrel
      have hij := HI.out.lt
      have hRl : R.length = n := by rw [HI.out.len]; exact HN.out
      have hkr : Blk wr gm #[.int .i64 m.num, .int .i64 (m.den : Int)] 31 := (hbel.block gm hgm).trans ((hB1.block gm hgm).symm.trans hk1)
      by_cases hjn : j < n
      · have hjn2 : (j : Int) < (n : Int) := by omega
        have hin : i < n := by omega
        have hin2 : (i : Int) < (n : Int) := by omega
        obtain ⟨x0, x1, f0, f1⟩ := HQ.out.get (i := j) (by rw [hRl]; exact hjn)
        rw [HI.out.left j (Nat.le_refl _)] at x0 x1
        have CMM := hid (CM.out j hjn)
        obtain ⟨q, hq⟩ : ∃ q, l.getD j 0 = q := ⟨_, rfl⟩
        rw [hq] at x0 x1 CMM
        have HQE := hid hq
        clear hq
        go_wp2_with fail
        have hgr : g < wr.heap.size := by omega
        have hBr : B ≤ wr.heap.size := by omega
        have kb := Blk.new wr #[.int .i64 q.num, .int .i64 (q.den : Int)] 31
        have hbA := alloc_below wr (.cells #[.int .i64 q.num, .int .i64 (q.den : Int)] 31)
        have hkW := hkr.below hbA
        refine (CMM.out _ hkW).mono ?_
        rintro r w3 ⟨rfl, hb3⟩
        have hbr3 := hbA.trans (hb3.mono hbA.size)
        have HQ3 : Hid (QRow w3 g R) := hid (RowF.below HQ.out hgr hbr3)
        have hbel3 := hbel.trans (hbr3.mono hBr)
        have hs3 := Nat.le_trans hsz hbr3.size
        have kb3 := kb.below hb3
        clear kb hbA hkW hb3 hbr3 x0 x1 f0 f1 hkr
        by_cases hmq : m < q
        · rw [decide_eq_true hmq]
          have HD2 := hid (HI.out.drop (by rw [HN.out]; exact hjn) (by rw [HQE.out]; exact Rat.not_le.2 hmq))
          clear hmq
          go_wp2
          go_roundw
          case rel => exact ⟨i, j + 1, R, rfl, by go_num, by omega, HD2, HQ3, hbel3, hs3⟩
          case measure => simp [intOf]; omega
        · rw [decide_eq_false hmq]
          have HD2 := hid (HI.out.keep (by rw [HN.out]; exact hjn) (by rw [HQE.out]; exact Rat.not_lt.1 hmq))
          rw [HQE.out] at HD2
          obtain ⟨y0, y1, f0, f1⟩ := HQ3.out.get (i := i) (by rw [hRl]; exact hin)
          have HQ4 := hid (HQ3.out.set (i := i) (by rw [hRl]; exact hin) q)
          have hbel4 := (hbel3.setCell (p := ⟨g, i * 2, none⟩) hgB (.int .i64 q.num)).setCell (p := ⟨g, i * 2 + 1, none⟩) hgB (.int .i64 (q.den : Int))
          have c0 := kb3.look 0 rfl
          have c1 := kb3.look 1 rfl
          have hs4 : w1.heap.size ≤ ((w3.setCell ⟨g, i * 2, none⟩ (.int .i64 q.num)).setCell ⟨g, i * 2 + 1, none⟩ (.int .i64 (q.den : Int))).heap.size := by simpa [World.setCell] using hs3
          have HS4 := hid hs4
          clear hmq kb3 hbel3 hs3 hs4
          go_wp2
          go_roundw
          case rel => exact ⟨i + 1, j + 1, R.set i q, by go_num, by go_num, by omega, HD2, HQ4, hbel4, HS4.out⟩
          case measure => simp [intOf]; omega
      · obtain rfl : n = j := by omega
        have hjn2 : ¬ (n : Int) < (n : Int) := by omega
        have hdone := HI.out.done
        rw [← HN.out, List.take_length] at hdone
        have HDN := hid hdone
        have htl : (R.take i).length = i := by rw [List.length_take]; omega
        have HTL := hid htl
        have hsp : frsC R = frsC (R.take i) ++ frsC (R.drop i) := by rw [← frsC_append, List.take_append_drop]
        have hQ := HQ.out
        unfold QRow at hQ
        rw [hsp] at hQ
        have hov := RowF.over (vs := zerosQ (n - i)) (c := []) (by rw [List.append_nil]; exact hQ) (by rw [zerosQ_len, frsC_len, List.length_drop, hRl])
        rw [frsC_len, htl, Nat.zero_add, List.append_nil] at hov
        have hRd : RowF wr g (i * 2) (frsC (R.drop i)) := by
          intro j u hj
          have h0 := hQ (i * 2 + j) u (by rw [List.getElem?_append_right (by rw [frsC_len, htl]; omega), frsC_len, htl, show i * 2 + j - i * 2 = j by omega]; exact hj)
          rw [Nat.zero_add] at h0
          exact h0
        have hcl : ∀ (ty : TypeId) (c' : Nat), (Builtin.clear_ #[37] ty #[.slice (some ⟨g, i * 2, none⟩) (n - i) c']).run Tryz.prog wr = .ok (.tuple #[]) (wr.setCells g (i * 2) (zerosQ (n - i))) := fun ty c' =>
          run_clear_q wr g i (n - i) c' ty _ (by omega) (by rw [frsC_len, List.length_drop, hRl]) hRd
        have HFB := hid (setCells_below hgB (zerosQ (n - i)) (i * 2) hbel)
        have HFQ : Hid (QRow (wr.setCells g (i * 2) (zerosQ (n - i))) g (R.take i)) := hid (by
          intro j u hj
          exact hov j u (by rw [List.getElem?_append_left (List.getElem?_eq_some_iff.1 hj).1]; exact hj))
        have hin2 : (i : Int) ≤ (n : Int) := by omega
        have hin3 : (i : Int) ≤ (cap : Int) := by omega
        have hnc : (n : Int) ≤ (cap : Int) := by omega
        clear hov hRd hQ hsp htl hdone hkr hbel
        go_wp2
        go_ret
        exact ⟨⟨R.take i, HDN.out, by rw [HTL.out]; rfl, HFQ.out⟩, HFB.out⟩

end Go.Proofs.YtfkclcoipadhmaaGreatDoor

/- Walk of slices.Compact at fractions. -/
namespace Go.Proofs.YtfkclcoipadhmaaGreatDoor
open Go.RowKit
attribute [local irreducible] seqS seqST walkV walkJ

theorem rat_eq_iff' (p q : Rat) : p = q ↔ p.num = q.num ∧ (p.den : Int) = (q.den : Int) := by
  constructor
  · rintro rfl; exact ⟨rfl, rfl⟩
  · rintro ⟨h1, h2⟩
    exact Rat.ext h1 (by omega)
/-- Number t is kept when neighbours that are alike are made one. -/
def newB (l : List Rat) (t : Nat) : Bool := decide (t = 0) || decide (l.getD (t - 1) 0 ≠ l.getD t 0)
def ddTo (l : List Rat) (j : Nat) : List Rat := ((List.range j).filter (newB l)).map fun t => l.getD t 0
theorem ddTo_yes {l : List Rat} {j : Nat} (h : newB l j = true) : ddTo l (j + 1) = ddTo l j ++ [l.getD j 0] := by
  unfold ddTo; rw [List.range_succ, List.filter_append, List.map_append]; simp [h]
theorem ddTo_no {l : List Rat} {j : Nat} (h : newB l j = false) : ddTo l (j + 1) = ddTo l j := by
  unfold ddTo; rw [List.range_succ, List.filter_append, List.map_append]; simp [h]
theorem ddTo_all {l : List Rat} : ∀ {j : Nat}, j ≤ l.length → (∀ t, 1 ≤ t → t < j → l.getD (t - 1) 0 ≠ l.getD t 0) → ddTo l j = l.take j
  | 0, _, _ => rfl
  | j + 1, hj, h => by
    have hn : newB l j = true := by
      unfold newB
      by_cases h0 : j = 0
      · rw [decide_eq_true h0]; rfl
      · rw [show decide (l.getD (j - 1) 0 ≠ l.getD j 0) = true from decide_eq_true (h j (by omega) (by omega)), Bool.or_true]
    rw [ddTo_yes hn, ddTo_all (by omega) (fun t h1 h2 => h t h1 (by omega)), List.take_succ_eq_append_getElem (by omega), List.getD_eq_getElem?_getD, List.getElem?_eq_getElem (by omega)]
    rfl
/-- The row, as Compact goes. -/
structure DupI (l : List Rat) (i j : Nat) (R : List Rat) : Prop where
  lt : i < j
  le : j ≤ l.length
  len : R.length = l.length
  done : R.take i = ddTo l j
  left : ∀ k, j ≤ k + 1 → R.getD k 0 = l.getD k 0
theorem DupI.keep {l : List Rat} {i j : Nat} {R : List Rat} (h : DupI l i j R) (hj : j < l.length) (hq : l.getD (j - 1) 0 ≠ l.getD j 0) : DupI l (i + 1) (j + 1) (R.set i (l.getD j 0)) where
  lt := by have := h.lt; omega
  le := by omega
  len := by rw [List.length_set, h.len]
  done := by
    have hi : i < R.length := by have := h.lt; have := h.len; omega
    have hA : (R.take i).length = i := by rw [List.length_take]; omega
    have hn : newB l j = true := by unfold newB; rw [show decide (l.getD (j - 1) 0 ≠ l.getD j 0) = true from decide_eq_true hq, Bool.or_true]
    rw [ddTo_yes hn, ← h.done, List.set_eq_take_append_cons_drop, if_pos hi, List.take_append, hA, List.take_of_length_le (by omega), show i + 1 - i = 1 by omega]
    rfl
  left := by
    intro k hk
    have := h.lt
    rw [List.getD_eq_getElem?_getD, List.getElem?_set_ne (by omega), ← List.getD_eq_getElem?_getD]
    exact h.left k (by omega)
theorem DupI.drop {l : List Rat} {i j : Nat} {R : List Rat} (h : DupI l i j R) (hj : j < l.length) (hq : l.getD (j - 1) 0 = l.getD j 0) : DupI l i (j + 1) R where
  lt := by have := h.lt; omega
  le := by omega
  len := h.len
  done := by
    have := h.lt
    have hn : newB l j = false := by unfold newB; rw [decide_eq_false (show ¬ j = 0 by omega)]; simp only [Bool.false_or]; exact decide_eq_false (fun h => h hq)
    rw [ddTo_no hn, h.done]
  left := fun k hk => h.left k (by omega)
structure CompR (l : List Rat) (g cap : Nat) (r : Ending) (w' : World) : Prop where
  out : ∃ F, F = ddTo l l.length ∧ r = .returned (.slice (some ⟨g, 0, none⟩) F.length cap) ∧ QRow w' g F

set_option maxHeartbeats 8000000 in
set_option maxRecDepth 100000 in
theorem Compact_any (l : List Rat) (B g n cap : Nat) (w : World) (hn : l.length = n) (hn2 : n ≤ 1000) (hcap : n ≤ cap) (hmax : cap ≤ maxLen) (hgB : B ≤ g) (hgs : g < w.heap.size) (hR : QRow w g l) :
    Calls Tryz.prog 94 #[.slice (some ⟨g, 0, none⟩) n cap] w fun r w' => CompR l g cap r w' ∧ Below B w w' := by
  unfold maxLen at hmax
  have HR := hid hR
  have HN := hid hn
  clear hR hn
  have hBw : B ≤ w.heap.size := by omega
  go_enter Tryz.func94, Tryz.ntmps94
  by_cases hn1 : n < 2
  · have hn1i : (n : Int) < 2 := by omega
    have hd : ddTo l l.length = l := by
      rw [ddTo_all (Nat.le_refl _) (fun t h1 h2 => by rw [HN.out] at h2; omega), List.take_length]
    have HD := hid hd
    clear hd
    go_wp2
    go_ret
    exact ⟨⟨l, HD.out.symm, by rw [HN.out]; rfl, HR.out⟩, Below.refl _ _⟩
  have hn1i : ¬ (n : Int) < 2 := by omega
  go_wp2_with fail
  go_loopw [3] (fun x' wr => ∃ i : Nat, x' = .int .i64 i ∧ 1 ≤ i ∧ i ≤ n ∧ Hid (∀ t, 1 ≤ t → t < i → l.getD (t - 1) 0 ≠ l.getD t 0) ∧ Below w.heap.size w wr) (fun x' _ => n - (intOf x').toNat)
  case atStart => exact ⟨1, rfl, Nat.le_refl _, by omega, hid (fun t h1 h2 => by omega), Below.refl _ _⟩
  case round =>
    obtain ⟨i, rfl, hi1, hi, HNO, hbel⟩ := hrel
    have HQ : Hid (QRow wr g l) := hid (RowF.below HR.out hgs hbel)
    have hBb : Below B w wr := hbel.mono hBw
    by_cases hin : i < n
    · have hin2 : (i : Int) < (n : Int) := by omega
      have hI1 : i - 1 < n := by omega
      have wI : IntKind.i64.wrap ((i : Int) - 1) = ((i - 1 : Nat) : Int) := by rw [IntWalk.i64_left]; unfold wrap64; omega
      go_wp2_with fail
      have hgr : g < wr.heap.size := by have := hbel.size; omega
      have hd := (Below.refl wr.heap.size wr).drew
      have hq := fun x : SubT (Below wr.heap.size) wr.drew => QRow.get (show QRow x.w g l from RowF.below HQ.out hgr (hd.trans x.b)) (i := i) (by rw [HN.out]; exact hin)
      have hq' := fun x : SubT (Below wr.heap.size) wr.drew => QRow.get (show QRow x.w g l from RowF.below HQ.out hgr (hd.trans x.b)) (i := i - 1) (by rw [HN.out]; exact hI1)
      obtain ⟨S, hS⟩ : ∃ S, l.getD i 0 = S := ⟨_, rfl⟩
      obtain ⟨U, hU⟩ : ∃ S, l.getD (i - 1) 0 = S := ⟨_, rfl⟩
      rw [hS] at hq
      rw [hU] at hq'
      have s0 := fun x : SubT (Below wr.heap.size) wr.drew => (hq x).1
      have s1 := fun x : SubT (Below wr.heap.size) wr.drew => (hq x).2.1
      have s2 := fun x : SubT (Below wr.heap.size) wr.drew => (hq' x).1
      have s3 := fun x : SubT (Below wr.heap.size) wr.drew => (hq' x).2.1
      have HS := hid hS
      have HU := hid hU
      clear hq hq' hS hU
      have hre := rat_eq_iff' S U
      obtain ⟨n1, hn1⟩ : ∃ z, S.num = z := ⟨_, rfl⟩
      obtain ⟨d1, hd1⟩ : ∃ z, (S.den : Int) = z := ⟨_, rfl⟩
      obtain ⟨n2, hn2⟩ : ∃ z, U.num = z := ⟨_, rfl⟩
      obtain ⟨d2, hd2⟩ : ∃ z, (U.den : Int) = z := ⟨_, rfl⟩
      rw [hn1, hd1, hn2, hd2] at hre
      rw [hn1] at s0
      rw [hd1] at s1
      rw [hn2] at s2
      rw [hd2] at s3
      have HRE := hid hre
      clear hre
      clear hn1 hd1 hn2 hd2
      have go_on : S ≠ U → ∀ t, 1 ≤ t → t < i + 1 → l.getD (t - 1) 0 ≠ l.getD t 0 := by
        intro hne t h1 h2
        by_cases hti : t = i
        · rw [hti, HS.out, HU.out]
          exact fun e => hne e.symm
        · exact HNO.out t h1 (by omega)
      have HGO := hid go_on
      clear go_on
      have hbd := hbel.trans (hd.mono hbel.size)
      by_cases hnn : n1 = n2
      · by_cases hdd : d1 = d2
        · have hSU := hid (HRE.out.2 ⟨hnn, hdd⟩)
          subst hnn hdd
          refine wp_walkJ (T := Below (wr.heap.size)) (belowV_pre _) (.rd 0 (.rd 1 (.rd 2 (.rd 3 (.rd 4 (.rd 5 (.rd 6 (.rd 7 (.rd 8 (.rd 9 (.inv []))))))))))) (by kernel_rfl) rfl (by kernel_rfl) (by kernel_rfl) ?_
          iterate 10 (refine walkJ_rd rfl (fun K hK => ?_); go_simp; refine hK _ ?_; clear hK K)
          refine walkJ_nil ?_
          clear s0 s1 s2 s3
          have HQd : Hid (QRow wr.drew g l) := hid (RowF.below HR.out hgs hbd)
          have hBd : Below B w wr.drew := hbd.mono hBw
          have hD : DupI l i (i + 1) l := by
            refine ⟨Nat.lt_succ_self _, by rw [HN.out]; exact hin, rfl, ?_, fun k _ => rfl⟩
            have hnb : newB l i = false := by
              unfold newB
              rw [decide_eq_false (show ¬ i = 0 by omega), Bool.false_or]
              exact decide_eq_false (fun h => h (by rw [HS.out, HU.out]; exact hSU.out.symm))
            rw [ddTo_no hnb, ddTo_all (by rw [HN.out]; omega) HNO.out]
          have HD := hid hD
          clear hD hd hbel HQ hBb HNO HGO HRE HS HU hbd
          obtain ⟨w2, hw2⟩ : ∃ w2, wr.drew = w2 := ⟨_, rfl⟩
          have hg2 : g < w2.heap.size := by rw [← hw2]; exact hgr
          rw [hw2] at HQd hBd ⊢
          clear hw2
          have hi3 : (i : Int) ≤ (n : Int) := by omega
          have hi4 : (i : Int) ≤ (cap : Int) := by omega
          have hnc : (n : Int) ≤ (cap : Int) := by omega
          go_wp2_with fail
          go_loopw [3, 5] (fun x' y' wr => ∃ (c k : Nat) (R : List Rat), x' = .int .i64 c ∧ y' = .int .i64 k ∧ 1 ≤ k ∧ i + k ≤ n ∧ i ≤ c ∧ Hid (DupI l c (i + k) R) ∧ Hid (QRow wr g R) ∧ Below B w wr ∧ w2.heap.size ≤ wr.heap.size) (fun _ y' _ => n - (intOf y').toNat)
          case atStart => exact ⟨i, 1, l, rfl, rfl, Nat.le_refl _, by omega, Nat.le_refl _, HD, HQd, hBd, Nat.le_refl _⟩
          case round =>
            obtain ⟨c, k, R, rfl, rfl, hk1, hk, hic, HI, HQ, hbel, hsz⟩ := hrel
            have hck := HI.out.lt
            have hRl : R.length = n := by rw [HI.out.len]; exact HN.out
            have hgr : g < wr.heap.size := by omega
            by_cases hkn : i + k < n
            · have hkn2 : (k : Int) < ((n - i : Nat) : Int) := by omega
              have hkn3 : k < n - i := by omega
              have hkn4 : k - 1 < n - i := by omega
              have hcn : c < n := by omega
              have hcn2 : (c : Int) < (n : Int) := by omega
              have wK : IntKind.i64.wrap ((k : Int) - 1) = ((k - 1 : Nat) : Int) := by rw [IntWalk.i64_left]; unfold wrap64; omega
              go_wp2_with fail
              have hd := (Below.refl wr.heap.size wr).drew
              have hq := fun x : SubT (Below wr.heap.size) wr.drew => QRow.get (show QRow x.w g R from RowF.below HQ.out hgr (hd.trans x.b)) (i := i + k) (by rw [hRl]; exact hkn)
              have hq' := fun x : SubT (Below wr.heap.size) wr.drew => QRow.get (show QRow x.w g R from RowF.below HQ.out hgr (hd.trans x.b)) (i := i + k - 1) (by rw [hRl]; omega)
              rw [HI.out.left (i + k) (by omega), show (i + k) * 2 = i * 2 + k * 2 by omega] at hq
              rw [HI.out.left (i + k - 1) (by omega), show (i + k - 1) * 2 = i * 2 + (k - 1) * 2 by omega] at hq'
              obtain ⟨S, hS⟩ : ∃ S, l.getD (i + k) 0 = S := ⟨_, rfl⟩
              obtain ⟨U, hU⟩ : ∃ S, l.getD (i + k - 1) 0 = S := ⟨_, rfl⟩
              rw [hS] at hq
              rw [hU] at hq'
              have s0 := fun x : SubT (Below wr.heap.size) wr.drew => (hq x).1
              have s1 := fun x : SubT (Below wr.heap.size) wr.drew => (hq x).2.1
              have s2 := fun x : SubT (Below wr.heap.size) wr.drew => (hq' x).1
              have s3 := fun x : SubT (Below wr.heap.size) wr.drew => (hq' x).2.1
              have HS := hid hS
              have HU := hid hU
              clear hq hq' hS hU
              have hre := rat_eq_iff' S U
              have HRE := hid hre
              clear hre
              by_cases hnn : S.num = U.num
              · by_cases hdd : (S.den : Int) = (U.den : Int)
                · have hSU := HRE.out.2 ⟨hnn, hdd⟩
                  subst hSU
                  clear hnn hdd
                  refine wp_walkJ (T := Below (wr.heap.size)) (belowV_pre _) (.rd 0 (.rd 1 (.rd 2 (.rd 3 (.rd 4 (.rd 5 (.rd 6 (.rd 7 (.rd 8 (.rd 9 (.inv []))))))))))) (by kernel_rfl) rfl (by kernel_rfl) (by kernel_rfl) ?_
                  iterate 10 (refine walkJ_rd rfl (fun K hK => ?_); go_simp; refine hK _ ?_; clear hK K)
                  refine walkJ_nil ?_
                  clear s0 s1 s2 s3
                  have HD2 := hid (HI.out.drop (by rw [HN.out]; exact hkn) (by rw [HU.out, HS.out]))
                  have HQd : Hid (QRow wr.drew g R) := hid (RowF.below HQ.out hgr hd)
                  have hbd : Below B w wr.drew := hbel.trans (hd.mono (by omega))
                  clear hd
                  go_wp2
                  go_roundw
                  case rel => exact ⟨c, k + 1, R, rfl, by go_num, by omega, by omega, hic, HD2, HQd, hbd, hsz⟩
                  case measure => simp [intOf]; omega
                · have hSU : S ≠ U := fun e => hdd (HRE.out.1 e).2
                  refine wp_walkJ (T := Below (wr.heap.size)) (belowV_pre _) (.rd 0 (.rd 1 (.rd 2 (.rd 3 (.rd 4 (.rd 5 (.rd 6 (.rd 7 (.rd 8 (.rd 9 (.inv []))))))))))) (by kernel_rfl) rfl (by kernel_rfl) (by kernel_rfl) ?_
                  iterate 10 (refine walkJ_rd rfl (fun K hK => ?_); go_simp; refine hK _ ?_; clear hK K)
                  refine walkJ_nil ?_
                  clear s0 s1 s2 s3
                  try clear hdd
                  try clear hnn
                  have HD2 := hid (HI.out.keep (by rw [HN.out]; exact hkn) (by rw [HU.out, HS.out]; exact fun e => hSU e.symm))
                  rw [HS.out] at HD2
                  have HQd : Hid (QRow wr.drew g R) := hid (RowF.below HQ.out hgr hd)
                  obtain ⟨w3, hw3⟩ : ∃ w3, wr.drew = w3 := ⟨_, rfl⟩
                  have hbd : Below B w wr.drew := hbel.trans (hd.mono (by omega))
                  have hsd : w2.heap.size ≤ wr.drew.heap.size := hsz
                  rw [hw3] at HQd hbd hsd ⊢
                  clear hw3 hSU
                  obtain ⟨y0, y1, f0, f1⟩ := HQd.out.get (i := c) (by rw [hRl]; omega)
                  obtain ⟨u0, u1, -, -⟩ := HQd.out.get (i := i + k) (by rw [hRl]; omega)
                  rw [HI.out.left (i + k) (by omega), HS.out, show (i + k) * 2 = i * 2 + k * 2 by omega] at u0 u1
                  have HQ4 := hid (HQd.out.set (i := c) (by rw [hRl]; omega) S)
                  have hbel4 := (hbd.setCell (p := ⟨g, c * 2, none⟩) hgB (.int .i64 S.num)).setCell (p := ⟨g, c * 2 + 1, none⟩) hgB (.int .i64 (S.den : Int))
                  have hs4 : w2.heap.size ≤ ((w3.setCell ⟨g, c * 2, none⟩ (.int .i64 S.num)).setCell ⟨g, c * 2 + 1, none⟩ (.int .i64 (S.den : Int))).heap.size := by simpa [World.setCell] using hsd
                  have HS4 := hid hs4
                  clear hs4 hsd hbd hd
                  go_wp2
                  go_roundw
                  case rel => exact ⟨c + 1, k + 1, R.set c S, by go_num, by go_num, by omega, by omega, by omega, HD2, HQ4, hbel4, HS4.out⟩
                  case measure => simp [intOf]; omega
              · have hSU : S ≠ U := fun e => hnn (HRE.out.1 e).1
                refine wp_walkJ (T := Below (wr.heap.size)) (belowV_pre _) (.rd 0 (.rd 1 (.rd 2 (.rd 3 (.rd 4 (.rd 5 (.rd 6 (.rd 7 (.rd 8 (.rd 9 (.inv []))))))))))) (by kernel_rfl) rfl (by kernel_rfl) (by kernel_rfl) ?_
                iterate 10 (refine walkJ_rd rfl (fun K hK => ?_); go_simp; refine hK _ ?_; clear hK K)
                refine walkJ_nil ?_
                clear s0 s1 s2 s3
                try clear hdd
                try clear hnn
                have HD2 := hid (HI.out.keep (by rw [HN.out]; exact hkn) (by rw [HU.out, HS.out]; exact fun e => hSU e.symm))
                rw [HS.out] at HD2
                have HQd : Hid (QRow wr.drew g R) := hid (RowF.below HQ.out hgr hd)
                obtain ⟨w3, hw3⟩ : ∃ w3, wr.drew = w3 := ⟨_, rfl⟩
                have hbd : Below B w wr.drew := hbel.trans (hd.mono (by omega))
                have hsd : w2.heap.size ≤ wr.drew.heap.size := hsz
                rw [hw3] at HQd hbd hsd ⊢
                clear hw3 hSU
                obtain ⟨y0, y1, f0, f1⟩ := HQd.out.get (i := c) (by rw [hRl]; omega)
                obtain ⟨u0, u1, -, -⟩ := HQd.out.get (i := i + k) (by rw [hRl]; omega)
                rw [HI.out.left (i + k) (by omega), HS.out, show (i + k) * 2 = i * 2 + k * 2 by omega] at u0 u1
                have HQ4 := hid (HQd.out.set (i := c) (by rw [hRl]; omega) S)
                have hbel4 := (hbd.setCell (p := ⟨g, c * 2, none⟩) hgB (.int .i64 S.num)).setCell (p := ⟨g, c * 2 + 1, none⟩) hgB (.int .i64 (S.den : Int))
                have hs4 : w2.heap.size ≤ ((w3.setCell ⟨g, c * 2, none⟩ (.int .i64 S.num)).setCell ⟨g, c * 2 + 1, none⟩ (.int .i64 (S.den : Int))).heap.size := by simpa [World.setCell] using hsd
                have HS4 := hid hs4
                clear hs4 hsd hbd hd
                go_wp2
                go_roundw
                case rel => exact ⟨c + 1, k + 1, R.set c S, by go_num, by go_num, by omega, by omega, by omega, HD2, HQ4, hbel4, HS4.out⟩
                case measure => simp [intOf]; omega
            · obtain ⟨K, hK⟩ : ∃ K, n - i = K := ⟨_, rfl⟩
              obtain rfl : k = K := by omega
              have hkn2 : ¬ (k : Int) < ((n - i : Nat) : Int) := by omega
              have hkn3 : n - i ≤ k := by omega
              have hnik : i + k = n := by omega
              have hdone := HI.out.done
              rw [hnik, ← HN.out] at hdone
              have HDN := hid hdone
              have hcn : c < n := by omega
              have htl : (R.take c).length = c := by rw [List.length_take]; omega
              have HTL := hid htl
              have hsp : frsC R = frsC (R.take c) ++ frsC (R.drop c) := by rw [← frsC_append, List.take_append_drop]
              have hQ := HQ.out
              unfold QRow at hQ
              rw [hsp] at hQ
              have hov := RowF.over (vs := zerosQ (n - c)) (c := []) (by rw [List.append_nil]; exact hQ) (by rw [zerosQ_len, frsC_len, List.length_drop, hRl])
              rw [frsC_len, htl, Nat.zero_add, List.append_nil] at hov
              have hRd : RowF wr g (c * 2) (frsC (R.drop c)) := by
                intro j u hj
                have h0 := hQ (c * 2 + j) u (by rw [List.getElem?_append_right (by rw [frsC_len, htl]; omega), frsC_len, htl, show c * 2 + j - c * 2 = j by omega]; exact hj)
                rw [Nat.zero_add] at h0
                exact h0
              have hcl : ∀ (ty : TypeId) (c' : Nat), (Builtin.clear_ #[37] ty #[.slice (some ⟨g, c * 2, none⟩) (n - c) c']).run Tryz.prog wr = .ok (.tuple #[]) (wr.setCells g (c * 2) (zerosQ (n - c))) := fun ty c' =>
                run_clear_q wr g c (n - c) c' ty _ (by omega) (by rw [frsC_len, List.length_drop, hRl]) hRd
              have HFB := hid (setCells_below hgB (zerosQ (n - c)) (c * 2) hbel)
              have HFQ : Hid (QRow (wr.setCells g (c * 2) (zerosQ (n - c))) g (R.take c)) := hid (by
                intro j u hj
                exact hov j u (by rw [List.getElem?_append_left (List.getElem?_eq_some_iff.1 hj).1]; exact hj))
              have hcn2 : (c : Int) ≤ (n : Int) := by omega
              have hcn3 : (c : Int) ≤ (cap : Int) := by omega
              clear hov hRd hQ hsp htl hdone hbel hK
              go_wp2
              go_ret
              exact ⟨⟨R.take c, HDN.out, by rw [HTL.out]; rfl, HFQ.out⟩, HFB.out⟩
        · refine wp_walkJ (T := Below (wr.heap.size)) (belowV_pre _) (.rd 0 (.rd 1 (.rd 2 (.rd 3 (.rd 4 (.rd 5 (.rd 6 (.rd 7 (.rd 8 (.rd 9 (.inv []))))))))))) (by kernel_rfl) rfl (by kernel_rfl) (by kernel_rfl) ?_
          iterate 10 (refine walkJ_rd rfl (fun K hK => ?_); go_simp; refine hK _ ?_; clear hK K)
          refine walkJ_nil ?_
          clear s0 s1 s2 s3
          have HNO2 := hid (HGO.out (fun e => hdd (HRE.out.1 e).2))
          clear hdd
          go_wp2
          go_roundw
          case rel => exact ⟨i + 1, by go_num, by omega, by omega, HNO2, hbd⟩
          case measure => simp [intOf]; omega
      · refine wp_walkJ (T := Below (wr.heap.size)) (belowV_pre _) (.rd 0 (.rd 1 (.rd 2 (.rd 3 (.rd 4 (.rd 5 (.rd 6 (.rd 7 (.rd 8 (.rd 9 (.inv []))))))))))) (by kernel_rfl) rfl (by kernel_rfl) (by kernel_rfl) ?_
        iterate 10 (refine walkJ_rd rfl (fun K hK => ?_); go_simp; refine hK _ ?_; clear hK K)
        refine walkJ_nil ?_
        clear s0 s1 s2 s3
        have HNO2 := hid (HGO.out (fun e => hnn (HRE.out.1 e).1))
        clear hnn
        go_wp2
        go_roundw
        case rel => exact ⟨i + 1, by go_num, by omega, by omega, HNO2, hbd⟩
        case measure => simp [intOf]; omega
    · obtain rfl : n = i := by omega
      have hin2 : ¬ (n : Int) < (n : Int) := by omega
      have hd : ddTo l l.length = l := by
        rw [ddTo_all (Nat.le_refl _) (fun t h1 h2 => HNO.out t h1 (by rw [← HN.out]; exact h2)), List.take_length]
      have HD := hid hd
      clear hd
      go_wp2
      go_ret
      exact ⟨⟨l, HD.out.symm, by rw [HN.out]; rfl, HQ.out⟩, hBb⟩

end Go.Proofs.YtfkclcoipadhmaaGreatDoor

/- Plainly: a sorted row without neighbours that are alike is the grid of its members. -/
namespace Go.Proofs.YtfkclcoipadhmaaGreatDoor
open Go.RowKit

theorem take_mem {l : List Rat} {j : Nat} {x : Rat} : x ∈ l.take j ↔ ∃ k, k < j ∧ k < l.length ∧ l.getD k 0 = x := by
  constructor
  · intro h
    obtain ⟨k, hk, he⟩ := List.mem_iff_getElem.1 h
    rw [List.length_take] at hk
    refine ⟨k, by omega, by omega, ?_⟩
    rw [List.getElem_take] at he
    rw [List.getD_eq_getElem?_getD, List.getElem?_eq_getElem (by omega)]
    exact he
  · rintro ⟨k, h1, h2, he⟩
    refine List.mem_iff_getElem.2 ⟨k, by rw [List.length_take]; omega, ?_⟩
    rw [List.getElem_take]
    rw [List.getD_eq_getElem?_getD, List.getElem?_eq_getElem h2] at he
    exact he
theorem dd_grid {l : List Rat} (hs : ∀ i j, i ≤ j → j < l.length → l.getD i 0 ≤ l.getD j 0) : ∀ j, j ≤ l.length → Rising (ddTo l j) ∧ ∀ x, x ∈ ddTo l j ↔ x ∈ l.take j
  | 0, _ => ⟨List.Pairwise.nil, fun x => by simp [ddTo]⟩
  | j + 1, hj => by
    obtain ⟨h1, h2⟩ := dd_grid hs j (by omega)
    cases hn : newB l j with
    | true =>
      rw [ddTo_yes hn]
      refine ⟨?_, fun x => ?_⟩
      · refine List.pairwise_append.2 ⟨h1, List.pairwise_singleton _ _, fun a ha b hb => ?_⟩
        rw [List.mem_singleton] at hb
        subst hb
        obtain ⟨k, hk1, hk2, rfl⟩ := take_mem.1 ((h2 a).1 ha)
        have hlt : l.getD (j - 1) 0 < l.getD j 0 := by
          have h3 : l.getD (j - 1) 0 ≠ l.getD j 0 := by
            unfold newB at hn
            rw [decide_eq_false (show ¬ j = 0 by omega), Bool.false_or] at hn
            exact of_decide_eq_true hn
          have h4 := hs (j - 1) j (by omega) (by omega)
          grind
        have h5 := hs k (j - 1) (by omega) (by omega)
        grind
      · rw [List.mem_append, List.mem_singleton, h2, take_mem, take_mem]
        constructor
        · rintro (⟨k, a, b, c⟩ | rfl)
          · exact ⟨k, by omega, b, c⟩
          · exact ⟨j, by omega, by omega, rfl⟩
        · rintro ⟨k, a, b, c⟩
          by_cases hkj : k = j
          · right; rw [← c, hkj]
          · exact .inl ⟨k, by omega, b, c⟩
    | false =>
      rw [ddTo_no hn]
      refine ⟨h1, fun x => ?_⟩
      rw [h2, take_mem, take_mem]
      have hj0 : j ≠ 0 := by
        rintro rfl
        unfold newB at hn
        rw [decide_eq_true rfl] at hn
        cases hn
      have he : l.getD (j - 1) 0 = l.getD j 0 := by
        unfold newB at hn
        rw [decide_eq_false hj0, Bool.false_or] at hn
        have := of_decide_eq_false hn
        exact Decidable.of_not_not this
      constructor
      · rintro ⟨k, a, b, c⟩
        exact ⟨k, by omega, b, c⟩
      · rintro ⟨k, a, b, c⟩
        by_cases hkj : k = j
        · exact ⟨j - 1, by omega, by omega, by rw [he, ← hkj]; exact c⟩
        · exact ⟨k, by omega, b, c⟩

end Go.Proofs.YtfkclcoipadhmaaGreatDoor

/- Walk of curve.Sum's closure. -/
namespace Go.Proofs.YtfkclcoipadhmaaGreatDoor
open Go.RowKit
attribute [local irreducible] seqS seqST walkV walkJ

/-- The sum's point at x. -/
def sumO (A C : List Pt) (x : Rat) : Option Pt := (atO A x).bind fun y => (atO C x).bind fun z => (fitO (y + z)).map fun s => (x, s)
/-- What a point's function hands back: the point counts only where calc stays without an error. -/
structure PtR (o : Option Pt) (g : Nat) (ok : Bool) (w : World) (r : Ending) (w' : World) : Prop where
  out : ∃ p : Pt, r = .returned (ptQ p) ∧ ((ok && o.isSome) = true → o = some p)
  cal : CalB w' g (ok && o.isSome)
  tr : CalT g w w'
theorem sum_cal (A C : List Pt) (x : Rat) (ok : Bool) (V1 V2 : Rat) (h1 : calK ok (atO A x) = true → atO A x = some V1) (h2 : calK (calK ok (atO A x)) (atO C x) = true → atO C x = some V2) :
    calK (calK (calK ok (atO A x)) (atO C x)) (fitO (V1 + V2)) = (ok && (sumO A C x).isSome) ∧ ((ok && (sumO A C x).isSome) = true → sumO A C x = some (x, calV (calK (calK ok (atO A x)) (atO C x)) (fitO (V1 + V2)))) := by
  unfold sumO
  cases ok with
  | false => exact ⟨rfl, fun h => by cases h⟩
  | true =>
    cases ha : atO A x with
    | none => exact ⟨rfl, fun h => by cases h⟩
    | some y =>
      rw [ha] at h1 h2
      have e1 : y = V1 := Option.some.inj (h1 rfl)
      cases hc : atO C x with
      | none => exact ⟨rfl, fun h => by cases h⟩
      | some z =>
        rw [hc] at h2
        have e2 : z = V2 := Option.some.inj (h2 rfl)
        subst e1 e2
        show calK true (fitO (y + z)) = (true && ((fitO (y + z)).map fun s => (x, s)).isSome) ∧ _
        cases hf : fitO (y + z) with
        | none => exact ⟨rfl, fun h => by
            simp only [Option.bind_some] at h
            rw [hf] at h
            cases h⟩
        | some s => exact ⟨rfl, fun _ => by
            simp only [Option.bind_some]
            rw [hf]
            rfl⟩

set_option maxHeartbeats 4000000 in
set_option maxRecDepth 100000 in
theorem sumPt_any (A C : List Pt) (x : Rat) (va vc : Value) (hA : CV A) (hC : CV C) (hdA : InDom A x) (hdC : InDom C x) (hx : fits x) (g ga gc : Nat) (ok : Bool) (w : World) (hpa : PsR 0 w va A) (hpc : PsR 0 w vc C)
    (kga : Blk w ga #[va] 22) (kgc : Blk w gc #[vc] 22) (_hga : ga ≠ g) (hgc : gc ≠ g) (hz : Z0 w) (hk : CalB w g ok) :
    Calls Tryz.prog 38 #[.pointer (some ⟨g, 0, none⟩), frQ x, .pointer (some ⟨ga, 0, none⟩), .pointer (some ⟨gc, 0, none⟩)] w fun r w' => PtR (sumO A C x) g ok w r w' := by
  have AT1 := hid (fun w h hz hk => at_any A x va hA hdA hx g ok w h hz hk)
  have AT2 := hid (fun k1 w h hz hk => at_any C x vc hC hdC hx g k1 w h hz hk)
  have HSC := hid (fun V1 V2 h1 h2 => sum_cal A C x ok V1 V2 h1 h2)
  obtain ⟨aa, ca, rfl, -⟩ := id hpa
  obtain ⟨ac, cc, rfl, -⟩ := id hpc
  unfold frQ at AT1 AT2 ⊢
  have k0 := (Blk.new w #[.int .i64 x.num, .int .i64 (x.den : Int)] 31).alloc (.cells #[.int .i64 0, .int .i64 0, .int .i64 0, .int .i64 0] 44)
  have k1 := Blk.new (w.alloc (.cells #[.int .i64 x.num, .int .i64 (x.den : Int)] 31)) #[.int .i64 0, .int .i64 0, .int .i64 0, .int .i64 0] 44
  have b0 := ((Below.refl w.heap.size w).alloc (Nat.le_refl _) (.cells #[.int .i64 x.num, .int .i64 (x.den : Int)] 31)).alloc (by simp) (.cells #[.int .i64 0, .int .i64 0, .int .i64 0, .int .i64 0] 44)
  rw [World.size_alloc] at k1
  have c0 := k0.look 0 rfl
  have c1 := k0.look 1 rfl
  have c2 := (kga.below b0).look 0 rfl
  go_enter Tryz.func38, Tryz.ntmps38
  go_wp2_with fail
  obtain ⟨w0, hw0⟩ : ∃ w0, (w.alloc (.cells #[.int .i64 x.num, .int .i64 (x.den : Int)] 31)).alloc (.cells #[.int .i64 0, .int .i64 0, .int .i64 0, .int .i64 0] 44) = w0 := ⟨_, rfl⟩
  rw [hw0] at k0 k1 b0 ⊢
  clear hw0 c0 c1 c2
  have hg : g < w.heap.size := hk.lt
  refine (AT1.out _ (PsR.below hpa b0) (hz.below b0) (CalB.below hk b0)).mono ?_
  rintro r w1 ⟨⟨V1, rfl, hf1, hv1⟩, hk1, ht1⟩
  have hsc := fun V2 h2 => HSC.out V1 V2 hv1 h2
  obtain ⟨K1, hK1⟩ : ∃ k, calK ok (atO A x) = k := ⟨_, rfl⟩
  rw [hK1] at hk1 hsc
  have AT3 := hid (AT2.out K1)
  have HSC2 := hid hsc
  clear AT1 AT2 HSC hv1 hsc hK1
  have t01 := (calT_pre g).trans (CalT.of_below b0) ht1
  have kx1 := CalT.blk ht1 k0 (by omega)
  have kr1 := CalT.blk ht1 k1 (by omega)
  have kc1 := CalT.blk ht1 (kgc.below b0) hgc
  have hz1 := (hz.below b0).calT (CalB.below hk b0) ht1
  have ps1 := (PsR.below hpc b0).calT (CalB.below hk b0) ht1
  clear k0 k1 kga kgc hz hk hpa hpc b0 ht1
  unfold frQ
  have kV := Blk.new w1 #[.int .i64 V1.num, .int .i64 (V1.den : Int)] 31
  have ba := alloc_below w1 (.cells #[.int .i64 V1.num, .int .i64 (V1.den : Int)] 31)
  have tA := CalT.alloc t01 (.cells #[.int .i64 V1.num, .int .i64 (V1.den : Int)] 31)
  have kxA := kx1.below ba
  have krA := kr1.below ba
  have kcA := kc1.below ba
  have hkA := CalB.below hk1 ba
  have hzA := hz1.below ba
  have psA := PsR.below ps1 ba
  have hg1 : g < w1.heap.size := hk1.lt
  clear kx1 kr1 kc1 hk1 hz1 ps1 t01 ba
  go_wp2_with fail
  obtain ⟨W, hW⟩ : ∃ W, w1.alloc (.cells #[.int .i64 V1.num, .int .i64 (V1.den : Int)] 31) = W := ⟨_, rfl⟩
  rw [hW] at kV kxA krA kcA hkA hzA psA tA ⊢
  clear hW
  have hd : CalT g W W.drew := CalT.of_below (Below.refl W.heap.size W).drew
  have tx := fun y : SubT (CalT g) W.drew => (calT_pre g).trans hd y.b
  have z0 := fun y : SubT (CalT g) W.drew => (CalT.blk (tx y) kxA (by omega)).look 0 rfl
  have z1 := fun y : SubT (CalT g) W.drew => (CalT.blk (tx y) kxA (by omega)).look 1 rfl
  have z2 := fun y : SubT (CalT g) W.drew => (CalT.blk (tx y) kV (by omega)).look 0 rfl
  have z3 := fun y : SubT (CalT g) W.drew => (CalT.blk (tx y) kV (by omega)).look 1 rfl
  have z4 := fun y : SubT (CalT g) W.drew => (CalT.blk (tx y) kcA hgc).look 0 rfl
  clear tx
  refine wp_walkJ (T := CalT g) (calT_pre g) (.rd 0 (.rd 1 (.rd 2 (.rd 3 (.rd 4 (.rd 5 (.mv 6 (.mv 7 (.rd 8 (.bt 9 (.inv []))))))))))) (by kernel_rfl) rfl (by kernel_rfl) (by kernel_rfl) ?_
  iterate 6 (refine walkJ_rd rfl (fun K hK => ?_); go_simp; refine hK _ ?_; clear hK K)
  clear z0 z1 z2 z3 z4
  have hbd := (Below.refl W.heap.size W).drew
  have hkd : CalB W.drew g K1 := CalB.below hkA hbd
  have hzd := hzA.below hbd
  have psd := PsR.below psA hbd
  (refine walkJ_mv rfl (fun K hK => ?_); go_simp; refine (AT3.out _ psd hzd hkd).mono ?_; rintro e w3 ⟨⟨V2, rfl, hf2, hv2⟩, hk3, ht3⟩; refine ⟨_, rfl, hK _ _ ht3 ?_⟩; clear hK K)
  have hz3 := hzd.calT hkd ht3
  have hsc := HSC2.out V2 hv2
  obtain ⟨K2, hK2⟩ : ∃ k, calK K1 (atO C x) = k := ⟨_, rfl⟩
  rw [hK2] at hk3 hsc
  have AD := hid (calc_add V1 V2 hf1 hf2 g K2 w3 hz3 hk3)
  rw [(cop_cal K2 (V1 + V2)).1, (cop_cal K2 (V1 + V2)).2, hsc.1] at AD
  have hout := hsc.2
  obtain ⟨K3, hK3⟩ : ∃ k, (ok && (sumO A C x).isSome) = k := ⟨_, rfl⟩
  obtain ⟨V3, hV3⟩ : ∃ k, calV K2 (fitO (V1 + V2)) = k := ⟨_, rfl⟩
  rw [hK3] at AD hout
  rw [hV3] at AD hout
  have HOUT := hid hout
  have HK3 := hid hK3
  unfold frQ at AD ⊢
  clear hsc hout hK2 hK3 hV3 hv2 hf1 hf2 HSC2
  (refine walkJ_mv rfl (fun K hK => ?_); go_simp; refine AD.out.mono ?_; rintro e w4 ⟨rfl, hk4, ht4⟩; refine ⟨_, rfl, hK _ _ ht4 ?_⟩; clear hK K)
  have hne : w.heap.size + 1 ≠ g := by omega
  have t4 := (calT_pre g).trans hd ((calT_pre g).trans ht3 ht4)
  have kr4 := CalT.blk t4 krA hne
  have hw4 := (calT_pre g).trans tA t4
  clear hd t4 krA kxA kcA tA hkA hzA psA hkd hzd psd ht3 ht4 hz3 hk3 kV AD
  obtain ⟨n1, hn1⟩ : ∃ n, x.num = n := ⟨_, rfl⟩
  obtain ⟨d1, hd1⟩ : ∃ n, (x.den : Int) = n := ⟨_, rfl⟩
  obtain ⟨n, hn⟩ : ∃ n, V3.num = n := ⟨_, rfl⟩
  obtain ⟨d, hd⟩ : ∃ n, (V3.den : Int) = n := ⟨_, rfl⟩
  rw [hn1, hd1, hn, hd]
  have HPV : Hid (ptQ (x, V3) = .agg #[.int .i64 n1, .int .i64 d1, .int .i64 n, .int .i64 d]) := hid (by unfold ptQ; rw [← hn1, ← hd1, ← hn, ← hd])
  iterate 1 (refine walkJ_rd rfl (fun K hK => ?_); go_simp; refine hK _ ?_; clear hK K)
  have q0 := kr4.look 0 rfl
  have q1 := kr4.look 1 rfl
  have q2 := kr4.look 2 rfl
  have q3 := kr4.look 3 rfl
  have f2 := kr4.frozen
  have k24 := (((kr4.set 0 (.int .i64 n1)).set 1 (.int .i64 d1)).set 2 (.int .i64 n)).set 3 (.int .i64 d)
  have F1 := hid (Blk.other (Blk.other (Blk.other (Blk.other hk4 (p := ⟨w.heap.size + 1, 0, none⟩) (Ne.symm hne) (.int .i64 n1)) (p := ⟨w.heap.size + 1, 1, none⟩) (Ne.symm hne) (.int .i64 d1)) (p := ⟨w.heap.size + 1, 2, none⟩) (Ne.symm hne) (.int .i64 n)) (p := ⟨w.heap.size + 1, 3, none⟩) (Ne.symm hne) (.int .i64 d))
  have hS1 : w.heap.size ≤ w.heap.size + 1 := by omega
  have F2 := hid ((((hw4.setOwn (p := ⟨w.heap.size + 1, 0, none⟩) hS1 (.int .i64 n1)).setOwn (p := ⟨w.heap.size + 1, 1, none⟩) hS1 (.int .i64 d1)).setOwn (p := ⟨w.heap.size + 1, 2, none⟩) hS1 (.int .i64 n)).setOwn (p := ⟨w.heap.size + 1, 3, none⟩) hS1 (.int .i64 d))
  have r0 : _ = some (Value.int .i64 n1) := k24.look 0 rfl
  have r1 : _ = some (Value.int .i64 d1) := k24.look 1 rfl
  have r2 : _ = some (Value.int .i64 n) := k24.look 2 rfl
  have r3 : _ = some (Value.int .i64 d) := k24.look 3 rfl
  have R0 := hid r0
  have R1 := hid r1
  have R2 := hid r2
  have R3 := hid r3
  clear hn1 hd1 hn hd hk4 kr4 k24 r0 r1 r2 r3 hw4
  (refine walkJ_bt rfl (fun K hK => ?_); go_simp; refine hK _ _ ?_; clear hK K)
  refine walkJ_nil ?_
  go_wp2
  refine bodyPost_ret (v := .agg #[.int .i64 n1, .int .i64 d1, .int .i64 n, .int .i64 d]) ?_ rfl ⟨⟨(x, V3), by rw [HPV.out], fun hh => HOUT.out (by rw [← HK3.out]; exact hh)⟩, by rw [HK3.out]; exact F1.out, F2.out⟩
  have r0 := R0.out
  have r1 := R1.out
  have r2 := R2.out
  have r3 := R3.out
  simp [results, Tryz.results38, go_sem, r0, r1, r2, r3]

end Go.Proofs.YtfkclcoipadhmaaGreatDoor
