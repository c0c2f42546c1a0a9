/- Rows of points that are written; walks of curve.inverse, Inverse, trankref02.turned, Inverse. -/
import Derived.Test.YtfkclcoipadhmaaGreatDoorEb
import Derived.Test.YtfkclcoipadhmaaGreatDoorDz
import Derived.Test.YtfkclcoipadhmaaGreatDoorCy
namespace Go.Proofs.YtfkclcoipadhmaaGreatDoor
open Go.RowKit
attribute [local irreducible] seqS seqST walkV walkJ

/-- make of elements of any size, the world given. -/
theorem wpList_mks {P : Program} {w : World} {ops : Array Oper} {rest : List Oper} {o : Oper} {a : Act} {Q : Exit → Act → World → Prop} (hgd : o.guard = none) (l c : Operand) (t : TypeId) (ho : o.op = Op.makeSlice t l c)
    (e : TypeId) (z : Value) (size bytes : Nat) (ht : P.underlying t = some (.slice e)) (hi : (P.info? e).map (fun i => (i.zero, i.size, i.bytes)) = some (some z, size, bytes))
    (kl kc : IntKind) (n : Nat) (hl : a.eval l = .int kl (n : Int)) (hc : a.eval c = .int kc (n : Int)) (b2 : bytes * n ≤ 281474976710656) (b3 : n ≤ 9223372036854775807)
    (hK : wpList P ops Q rest (a.put o.dst (.slice (some ⟨w.heap.size, 0, none⟩) n n)) (w.alloc (.cells (madeCells z.cells (n * size)) e))) : wpList P ops Q (o :: rest) a w := by
  obtain ⟨i, hi0, hz0, hsize, hby⟩ := info_parts hi
  refine wpList_plain hgd fun K hK' => ?_
  have hb' : (i.bytes : Int) * (n : Int) ≤ 281474976710656 := by
    have h : ((i.bytes * n : Nat) : Int) ≤ 281474976710656 := by rw [hby]; omega
    rwa [Int.natCast_mul] at h
  have hr := run_make (P := P) w t e i z ht hi0 hz0 kl kc n n (by omega) (Int.le_refl _) hb' (by omega)
  simp only [Int.toNat_natCast, hsize] at hr
  unfold Oper.wp
  simp [execOp, ho, hl, hc, hr, Result.andThen]
  exact hK' _ _ hK

/-- A row of points in a block, none of its cells frozen. -/
def PRow (w : World) (g : Nat) (R : List P4) : Prop := RowF w g 0 (p4sC R)
theorem p4sC_append (a b : List P4) : p4sC (a ++ b) = p4sC a ++ p4sC b := by unfold p4sC; exact List.flatMap_append
theorem PRow.get {w : World} {g : Nat} {R : List P4} (h : PRow w g R) {i : Nat} (hi : i < R.length) :
    (w.cell? ⟨g, i * 4, none⟩ = some (.int .i64 (R.getD i z4).1.1) ∧ w.cell? ⟨g, i * 4 + 1, none⟩ = some (.int .i64 (R.getD i z4).1.2) ∧ w.cell? ⟨g, i * 4 + 2, none⟩ = some (.int .i64 (R.getD i z4).2.1) ∧ w.cell? ⟨g, i * 4 + 3, none⟩ = some (.int .i64 (R.getD i z4).2.2)) ∧
    w.frozen? ⟨g, i * 4, none⟩ = false ∧ w.frozen? ⟨g, i * 4 + 1, none⟩ = false ∧ w.frozen? ⟨g, i * 4 + 2, none⟩ = false ∧ w.frozen? ⟨g, i * 4 + 3, none⟩ = false := by
  have hl := p4sC_len R
  have g2 := p4sC_get R i hi
  have one : ∀ k, k < 4 → w.cell? ⟨g, i * 4 + k, none⟩ = some ((p4sC R).getD (i * 4 + k) undef) ∧ w.frozen? ⟨g, i * 4 + k, none⟩ = false := by
    intro k hk
    have h0 := h (i * 4 + k) ((p4sC R).getD (i * 4 + k) undef) (by rw [List.getD_eq_getElem?_getD, List.getElem?_eq_getElem (by omega)]; rfl)
    rw [Nat.zero_add] at h0
    exact h0
  have h0 := one 0 (by omega)
  have h1 := one 1 (by omega)
  have h2 := one 2 (by omega)
  have h3 := one 3 (by omega)
  rw [Nat.add_zero, g2.1] at h0
  rw [g2.2.1] at h1
  rw [g2.2.2.1] at h2
  rw [g2.2.2.2] at h3
  exact ⟨⟨h0.1, h1.1, h2.1, h3.1⟩, h0.2, h1.2, h2.2, h3.2⟩
theorem PRow.set {w : World} {g : Nat} {R : List P4} (h : PRow w g R) {i : Nat} (hi : i < R.length) (p : P4) :
    PRow ((((w.setCell ⟨g, i * 4, none⟩ (.int .i64 p.1.1)).setCell ⟨g, i * 4 + 1, none⟩ (.int .i64 p.1.2)).setCell ⟨g, i * 4 + 2, none⟩ (.int .i64 p.2.1)).setCell ⟨g, i * 4 + 3, none⟩ (.int .i64 p.2.2)) g (R.set i p) := by
  have hsp : R = R.take i ++ [R.getD i z4] ++ R.drop (i + 1) := by
    rw [List.append_assoc, List.getD_eq_getElem?_getD, List.getElem?_eq_getElem hi]
    show R = R.take i ++ (R[i] :: R.drop (i + 1))
    rw [← List.drop_eq_getElem_cons hi, List.take_append_drop]
  have hset : R.set i p = R.take i ++ [p] ++ R.drop (i + 1) := by
    rw [List.set_eq_take_append_cons_drop, if_pos hi, List.append_assoc]
    rfl
  have h0 : RowF w g 0 (p4sC (R.take i) ++ p4sC [R.getD i z4] ++ p4sC (R.drop (i + 1))) := by
    rw [← p4sC_append, ← p4sC_append, ← hsp]
    exact h
  have h1 := RowF.over (vs := p4sC [p]) h0 (by rw [p4sC_len, p4sC_len]; rfl)
  have hlen : (p4sC (R.take i)).length = i * 4 := by rw [p4sC_len, List.length_take, Nat.min_eq_left (by omega)]
  rw [hlen, Nat.zero_add] at h1
  unfold PRow
  rw [hset, p4sC_append, p4sC_append]
  exact h1
theorem PRow.sl {lo : Nat} {w : World} {g n cap : Nat} {l : List P4} (h : PRow w g l) (hn : l.length = n) (hlo : lo ≤ g) (hg : g < w.heap.size) (hc : n ≤ cap) (hm : cap ≤ maxLen) : P4R lo w (.slice (some ⟨g, 0, none⟩) n cap) l := by
  unfold P4R
  refine ⟨_, cap, by rw [hn], by omega, hm, fun _ => ⟨g, 0, rfl, hlo, hg, fun j hj => ?_⟩⟩
  exact (h j _ (getD_some hj)).1
theorem made_pts (w : World) (n : Nat) : PRow (w.alloc (.cells (madeCells (.agg #[.int .i64 0, .int .i64 0, .int .i64 0, .int .i64 0] : Value).cells (n * 4)) 44)) w.heap.size (List.replicate n z4) := by
  have kb := Blk.new w (madeCells (.agg #[.int .i64 0, .int .i64 0, .int .i64 0, .int .i64 0] : Value).cells (n * 4)) 44
  intro j u hj
  have hlt := (List.getElem?_eq_some_iff.1 hj).1
  rw [p4sC_len, List.length_replicate] at hlt
  have hu : u = .int .i64 0 := by
    have := List.mem_of_getElem? hj
    unfold p4sC at this
    obtain ⟨p, hp, hu⟩ := List.mem_flatMap.1 this
    rw [List.eq_of_mem_replicate hp] at hu
    unfold p4C at hu
    simpa using hu
  rw [Nat.zero_add, hu]
  refine ⟨?_, kb.frozen j⟩
  rw [kb.cell]
  have hm : j % 4 = 0 ∨ j % 4 = 1 ∨ j % 4 = 2 ∨ j % 4 = 3 := by omega
  show (madeCells #[Value.int .i64 0, Value.int .i64 0, Value.int .i64 0, Value.int .i64 0] (n * 4))[j]? = _
  rw [Array.getElem?_eq_getElem (by simpa [size_madeCells] using hlt)]
  rcases hm with h5 | h5 | h5 | h5 <;> simp [madeCells, h5]

/-- X and Y exchanged. -/
def invP (p : P4) : P4 := (p.2, p.1)
theorem inv_step {c : List P4} {i : Nat} (hi : i < c.length) : ((c.take i).map invP ++ List.replicate (c.length - i) z4).set i (invP (c.getD i z4)) = (c.take (i + 1)).map invP ++ List.replicate (c.length - (i + 1)) z4 := by
  have hlen : ((c.take i).map invP).length = i := by rw [List.length_map, List.length_take]; omega
  rw [List.set_append_right _ _ (by omega), hlen, Nat.sub_self, show c.length - i = (c.length - (i + 1)) + 1 by omega, List.replicate_succ, List.set_cons_zero, List.take_succ_eq_append_getElem hi, List.map_append, List.append_assoc, List.getD_eq_getElem?_getD, List.getElem?_eq_getElem hi]
  rfl

set_option maxHeartbeats 8000000 in
set_option maxRecDepth 100000 in
theorem inverse_any (c : List P4) (v : Value) (w : World) (h : P4R 0 w v c) (hb : c.length ≤ 8796093022208) :
    Calls Tryz.prog 47 #[v] w fun r w' => (∃ v', r = .returned v' ∧ P4R w.heap.size w' v' (c.map invP)) ∧ Below w.heap.size w w' := by
  obtain ⟨ao, cap, rfl, hcap, hmax, hc⟩ := h
  unfold maxLen at hmax
  have HC := hid hc
  have HST := hid (fun i hi => inv_step (c := c) (i := i) hi)
  obtain ⟨L, hL⟩ : ∃ L, c.length = L := ⟨_, rfl⟩
  rw [hL] at hcap hb HST ⊢
  have HL := hid hL
  have kg := made_pts w L
  have ba := alloc_below w (.cells (madeCells (.agg #[.int .i64 0, .int .i64 0, .int .i64 0, .int .i64 0] : Value).cells (L * 4)) 44)
  have hgs : w.heap.size < (w.alloc (.cells (madeCells (.agg #[.int .i64 0, .int .i64 0, .int .i64 0, .int .i64 0] : Value).cells (L * 4)) 44)).heap.size := by simp
  obtain ⟨w0, hw0⟩ : ∃ w0, w.alloc (.cells (madeCells (.agg #[.int .i64 0, .int .i64 0, .int .i64 0, .int .i64 0] : Value).cells (L * 4)) 44) = w0 := ⟨_, rfl⟩
  obtain ⟨g, hg⟩ : ∃ g, w.heap.size = g := ⟨_, rfl⟩
  rw [hw0, hg] at kg ba hgs
  have HW := hid hw0
  have HG := hid hg
  have KG := hid kg
  clear hL hc kg hw0 hg
  go_enter Tryz.func47, Tryz.ntmps47
  go_wp2_with (at_make; refine wpList_mks rfl (.tmp 7) (.tmp 7) 22 rfl 44 (.agg #[.int .i64 0, .int .i64 0, .int .i64 0, .int .i64 0]) 4 32 Tryz.underlying22 infoPoint _ _ L rfl rfl (by omega) (by omega) ?_; rw [HW.out, HG.out])
  go_loopw [11] (fun x wr => ∃ i : Nat, x = .int .i64 i ∧ i ≤ L ∧ Hid (PRow wr g ((c.take i).map invP ++ List.replicate (L - i) z4)) ∧ Below g w wr ∧ g < wr.heap.size) (fun x _ => L - (intOf x).toNat)
  case atStart => exact ⟨0, rfl, Nat.zero_le _, hid (by simpa using KG.out), ba, hgs⟩
  case round =>
    obtain ⟨i, rfl, hi, HR, hbel, hgr⟩ := hrel
    by_cases hiL : i < L
    · have hi2 : (i : Int) < (L : Int) := by omega
      obtain ⟨b, off, rfl, hb', x0, x1, x2, x3⟩ := p4_cell HC.out (show i < c.length by rw [HL.out]; exact hiL)
      rw [HG.out] at hb'
      replace x0 := (hbel.cell (p := ⟨b, off + i * 4, none⟩) hb').trans x0
      replace x1 := (hbel.cell (p := ⟨b, off + i * 4 + 1, none⟩) hb').trans x1
      replace x2 := (hbel.cell (p := ⟨b, off + i * 4 + 2, none⟩) hb').trans x2
      replace x3 := (hbel.cell (p := ⟨b, off + i * 4 + 3, none⟩) hb').trans x3
      have hst := HST.out i hiL
      obtain ⟨⟨⟨p1, p2⟩, ⟨p3, p4⟩⟩, hp⟩ : ∃ p : P4, c.getD i z4 = p := ⟨_, rfl⟩
      rw [hp] at x0 x1 x2 x3 hst
      obtain ⟨R, hR⟩ : ∃ R, (c.take i).map invP ++ List.replicate (L - i) z4 = R := ⟨_, rfl⟩
      rw [hR] at HR hst
      have hRl : R.length = L := by
        rw [← hR, List.length_append, List.length_map, List.length_take, List.length_replicate, HL.out]
        omega
      have HS2 := hid hst
      clear hst hp hR
      obtain ⟨⟨y0, y1, y2, y3⟩, f0, f1, f2, f3⟩ := HR.out.get (i := i) (by rw [hRl]; exact hiL)
      have HR1 := HR.out.set (i := i) (by rw [hRl]; exact hiL) ((p3, p4), (p1, p2))
      have hbel1 := (((hbel.setCell (p := ⟨g, i * 4, none⟩) (Nat.le_refl g) (.int .i64 p3)).setCell (p := ⟨g, i * 4 + 1, none⟩) (Nat.le_refl g) (.int .i64 p4)).setCell (p := ⟨g, i * 4 + 2, none⟩) (Nat.le_refl g) (.int .i64 p1)).setCell (p := ⟨g, i * 4 + 3, none⟩) (Nat.le_refl g) (.int .i64 p2)
      have hgr2 : g < ((((wr.setCell ⟨g, i * 4, none⟩ (.int .i64 p3)).setCell ⟨g, i * 4 + 1, none⟩ (.int .i64 p4)).setCell ⟨g, i * 4 + 2, none⟩ (.int .i64 p1)).setCell ⟨g, i * 4 + 3, none⟩ (.int .i64 p2)).heap.size := by simpa [World.setCell] using hgr
      have bA := alloc_below ((((wr.setCell ⟨g, i * 4, none⟩ (.int .i64 p3)).setCell ⟨g, i * 4 + 1, none⟩ (.int .i64 p4)).setCell ⟨g, i * 4 + 2, none⟩ (.int .i64 p1)).setCell ⟨g, i * 4 + 3, none⟩ (.int .i64 p2)) (.cells #[.int .i64 p1, .int .i64 p2, .int .i64 p3, .int .i64 p4] 44)
      have HR2 := hid (RowF.below HR1 hgr2 bA)
      have HB2 := hid (hbel1.trans (bA.mono (Nat.le_of_lt hgr2)))
      have HGR := hid (Nat.lt_of_lt_of_le hgr2 bA.size)
      clear bA hgr2 hbel1 HR1 hRl HR
      go_wp2
      go_roundw
      case rel =>
        refine ⟨i + 1, by go_num, by omega, ?_, HB2.out, HGR.out⟩
        rw [← HS2.out]
        exact HR2
      case measure => simp [intOf]; omega
    · obtain rfl : L = i := by omega
      have hi2 : ¬ (L : Int) < (L : Int) := by omega
      have hr := HR.out
      rw [Nat.sub_self, List.replicate_zero, List.append_nil, List.take_of_length_le (by rw [HL.out]; exact Nat.le_refl _)] at hr
      have HF := hid (hr.sl (lo := w.heap.size) (n := L) (cap := L) (by rw [List.length_map, HL.out]) (by rw [HG.out]; exact Nat.le_refl _) hgr (Nat.le_refl _) (by unfold maxLen; omega))
      have HB : Hid (Below w.heap.size w wr) := hid (by rw [HG.out]; exact hbel)
      clear hr HR hbel hgr
      go_wp2
      go_ret
      exact ⟨⟨_, rfl, HF.out⟩, HB.out⟩

theorem map_stepP {c : List P4} {i : Nat} (hi : i < c.length) : (c.take (i + 1)).map invP = (c.take i).map invP ++ [invP (c.getD i z4)] := by
  rw [List.take_succ_eq_append_getElem hi, List.map_append, List.getD_eq_getElem?_getD, List.getElem?_eq_getElem hi]
  rfl

set_option maxHeartbeats 8000000 in
set_option maxRecDepth 100000 in
theorem turned_any (c : List P4) (v : Value) (w : World) (h : P4R 0 w v c) (h48 : c.length ≤ 48) :
    Calls Tryz.prog 48 #[v] w fun r w' => (∃ v', r = .returned v' ∧ P4R w.heap.size w' v' (c.map invP)) ∧ Below w.heap.size w w' := by
  obtain ⟨ao, cap, rfl, hcap, hmax, hc⟩ := h
  unfold maxLen at hmax
  have HC := hid hc
  have HST := hid (fun i hi => map_stepP (c := c) (i := i) hi)
  obtain ⟨L, hL⟩ : ∃ L, c.length = L := ⟨_, rfl⟩
  rw [hL] at hcap h48 HST ⊢
  have HL := hid hL
  clear hL hc
  go_enter Tryz.func48, Tryz.ntmps48
  go_wp2_with fail
  go_loopw [3, 8] (fun y x wr => ∃ i : Nat, x = .int .i64 i ∧ i ≤ L ∧ Hid (wr.ownsRow w.heap.size 44 4 y i (p4sC ((c.take i).map invP))) ∧ Below w.heap.size w wr) (fun _ x _ => L - (intOf x).toNat)
  case atStart => exact ⟨0, rfl, Nat.zero_le _, hid (World.ownsRow_nil _ _ _ _), Below.refl _ _⟩
  case round =>
    obtain ⟨i, rfl, hi, HO, hbel⟩ := hrel
    have hsr := hbel.size
    by_cases hiL : i < L
    · have hi2 : (i : Int) < (L : Int) := by omega
      obtain ⟨b, off, rfl, hb', x0, x1, x2, x3⟩ := p4_cell HC.out (show i < c.length by rw [HL.out]; exact hiL)
      replace x0 := (hbel.cell (p := ⟨b, off + i * 4, none⟩) hb').trans x0
      replace x1 := (hbel.cell (p := ⟨b, off + i * 4 + 1, none⟩) hb').trans x1
      replace x2 := (hbel.cell (p := ⟨b, off + i * 4 + 2, none⟩) hb').trans x2
      replace x3 := (hbel.cell (p := ⟨b, off + i * 4 + 3, none⟩) hb').trans x3
      have hst := HST.out i hiL
      obtain ⟨⟨⟨p1, p2⟩, ⟨p3, p4⟩⟩, hp⟩ : ∃ p : P4, c.getD i z4 = p := ⟨_, rfl⟩
      rw [hp] at x0 x1 x2 x3 hst
      have HS2 := hid hst
      clear hst hp
      have bA := alloc_below wr (.cells #[.int .i64 p1, .int .i64 p2, .int .i64 p3, .int .i64 p4] 44)
      have HO1 := hid (owns_below HO.out bA)
      have hbel1 := hbel.trans (bA.mono hsr)
      have hsA := Nat.le_trans hsr bA.size
      clear bA
      go_wp2_with (first
        | (at_builtin; refine wpList_appH rfl (.tmp 12) (.tmp 18) _ rfl w.heap.size 44 (.agg #[.int .i64 0, .int .i64 0, .int .i64 0, .int .i64 0]) 4 32 Tryz.underlying22 infoPoint rfl (by decide) 44 _ _ _ rfl HO1.out [.int .i64 p3, .int .i64 p4, .int .i64 p1, .int .i64 p2] _ (by first | rfl | simp) rfl rfl (by simp [Value.oneCell']) (by unfold maxLen; omega) (by omega) (by omega) ?_; intro g5 gcap w5 ho5 hb5 _ _ _))
      go_roundw
      case rel =>
        refine ⟨i + 1, by go_num, by omega, ?_, hbel1.trans hb5⟩
        rw [HS2.out, p4sC_append]
        exact hid ho5
      case measure => simp [intOf]; omega
    · obtain rfl : L = i := by omega
      have hi2 : ¬ (L : Int) < (L : Int) := by omega
      have hr := SlR.of_owns HO.out
      rw [List.take_of_length_le (by rw [HL.out]; exact Nat.le_refl _)] at hr
      obtain ⟨ao3, c3, rfl, -⟩ := id hr
      have HF : Hid (P4R w.heap.size wr (.slice ao3 L c3) (c.map invP)) := hid (by unfold P4R; rw [List.length_map, HL.out]; exact hr)
      clear hr HO
      go_wp2
      go_ret
      exact ⟨⟨_, rfl, HF.out⟩, hbel⟩

/-- What Inverse hands back. -/
def invE (c : List P4) : Int := if RV c then 0 else 2
def invL (c : List P4) : List P4 := if RV c then c.map invP else []

end Go.Proofs.YtfkclcoipadhmaaGreatDoor
