/- Walk of heaped: the graph of a heap. -/
import Derived.Test.YtcpefolhohakmaaH4
namespace Go.Proofs.Ytcpefolhohakmaa
open Go.RowKit
attribute [local irreducible] seqS seqST walkV walkJ

theorem infoInt : (Try.prog.info? 3).map (fun i => (i.zero, i.size, i.bytes)) = some (some (.int .i64 0), 1, 8) := by kernel_rfl
theorem infoInts : (Try.prog.info? 37).map (fun i => (i.zero, i.size, i.bytes)) = some (some (.slice none 0 0), 1, 24) := by kernel_rfl

def g0 : Gv := ⟨0, 0, 0, 0⟩
/-- The pairs that are allowed. -/
def adjB (l : List Gv) (u : Ru) (i j : Nat) : Bool := decide (i < l.length ∧ j < l.length ∧ i ≠ j ∧ Alw u (l.getD i g0) (l.getD j g0))
/-- The neighbours below q. -/
def nbT (ad : Nat → Nat → Bool) (i : Nat) : Nat → List Nat
  | 0 => []
  | q + 1 => if ad i q then nbT ad i q ++ [q] else nbT ad i q
theorem nbT_mem (ad : Nat → Nat → Bool) (i q x : Nat) : x ∈ nbT ad i q ↔ x < q ∧ ad i x = true := by
  induction q with
  | zero => simp [nbT]
  | succ q ih =>
    unfold nbT
    split
    · rw [List.mem_append, ih, List.mem_singleton]
      constructor
      · rintro (⟨h1, h2⟩ | rfl)
        · exact ⟨by omega, h2⟩
        · exact ⟨by omega, ‹_›⟩
      · rintro ⟨h1, h2⟩
        by_cases e : x = q
        · exact .inr e
        · exact .inl ⟨by omega, h2⟩
    · rw [ih]
      constructor
      · rintro ⟨h1, h2⟩; exact ⟨by omega, h2⟩
      · rintro ⟨h1, h2⟩
        refine ⟨?_, h2⟩
        by_cases e : x = q
        · subst e; exact absurd h2 ‹_›
        · omega
theorem nbT_len (ad : Nat → Nat → Bool) (i q : Nat) : (nbT ad i q).length ≤ q := by
  induction q with
  | zero => exact Nat.le_refl _
  | succ q ih => unfold nbT; split
                 · simp; omega
                 · omega
def natI (l : List Nat) : List Value := l.map fun (j : Nat) => .int .i64 (j : Int)
theorem natI_len (l : List Nat) : (natI l).length = l.length := List.length_map _
theorem natI_append (a b : List Nat) : natI (a ++ b) = natI a ++ natI b := by unfold natI; exact List.map_append
/-- A slice of indices, in a block of S. -/
def NatS (S : Nat → Prop) (w : World) (v : Value) (l : List Nat) : Prop := SlS S w v l.length (natI l)
/-- A graph: n and its rows, in blocks of S. -/
def GrR (S : Nat → Prop) (w : World) (p : Value) (n : Nat) (nb : Nat → List Nat) : Prop :=
  ∃ gg gw vs, p = .pointer (some ⟨gg, 0, none⟩) ∧ S gg ∧ S gw ∧ Blk w gg #[.int .i64 (n : Int), .slice (some ⟨gw, 0, none⟩) n n] 78 ∧ Blk w gw (arr n vs) 37 ∧ ∀ i, i < n → NatS S w (vs i) (nb i)
theorem GrR.keep {S S' : Nat → Prop} {w w' : World} {p : Value} {n : Nat} {nb : Nat → List Nat} (h : GrR S w p n nb) (k : Keep S' w w') (hs : ∀ b, b < w.heap.size → S b → S' b) : GrR S w' p n nb := by
  obtain ⟨gg, gw, vs, h1, h2, h3, h4, h5, h6⟩ := h
  exact ⟨gg, gw, vs, h1, h2, h3, k.blk h4 (hs _ h4.lt h2), k.blk h5 (hs _ h5.lt h3), fun i hi => SlS.keep (h6 i hi) k hs⟩
theorem GrR.mono {S S' : Nat → Prop} {w : World} {p : Value} {n : Nat} {nb : Nat → List Nat} (h : GrR S w p n nb) (hs : ∀ b, b < w.heap.size → S b → S' b) : GrR S' w p n nb := by
  obtain ⟨gg, gw, vs, h1, h2, h3, h4, h5, h6⟩ := h
  exact ⟨gg, gw, vs, h1, hs _ h4.lt h2, hs _ h5.lt h3, h4, h5, fun i hi => SlS.mono (h6 i hi) hs⟩

/-- What the loops of heaped keep: rows below k are whole. -/
structure HpI (gw n : Nat) (nb : Nat → List Nat) (k : Nat) (vs : Nat → Value) (wr : World) : Prop where
  kw : Blk wr gw (arr n vs) 37
  rows : ∀ j, j < k → j < n → NatS (gw < ·) wr (vs j) (nb j)
  nil : ∀ j, k < j → j < n → vs j = .slice none 0 0

/-- What heaped hands back: a graph in blocks from B on, or nil. -/
def HpdP (l : List Gv) (u : Ru) (B : Nat) (r : Ending) (w' : World) : Prop :=
  (SideOk l ∧ RuOk u → ∃ p, r = .returned p ∧ GrR (B ≤ ·) w' p l.length (fun i => nbT (adjB l u) i l.length)) ∧ (¬ (SideOk l ∧ RuOk u) → r = .returned (.pointer none))
theorem sideB_true {l : List Gv} (h : SideOk l) : sideB l = true := decide_eq_true h
theorem sideB_false {l : List Gv} (h : ¬ SideOk l) : sideB l = false := decide_eq_false h
theorem rokB_true {u : Ru} (h : RuOk u) : rokB u = true := (rokB_iff u).2 h
theorem rokB_false {u : Ru} (h : ¬ RuOk u) : rokB u = false := by
  cases e : rokB u with
  | false => rfl
  | true => exact absurd ((rokB_iff u).1 e) h
theorem SideOk.get {l : List Gv} (h : SideOk l) {i : Nat} (hi : i < l.length) : GOk (l.getD i g0) := h.2 i hi
theorem hpd_no {l : List Gv} {u : Ru} {B : Nat} {r : Ending} {w' : World} (h : ¬ (SideOk l ∧ RuOk u)) (hr : r = .returned (.pointer none)) : HpdP l u B r w' := ⟨fun k => absurd k h, fun _ => hr⟩

set_option maxHeartbeats 4000000 in
set_option maxRecDepth 100000 in
theorem heaped_no (l : List Gv) (u : Ru) (v : Value) (w : World) (h : GsR 0 w v l) (hno : ¬ (SideOk l ∧ RuOk u)) :
    Calls Try.prog 31 #[v, ruV u] w fun r w' => r = .returned (.pointer none) ∧ Below w.heap.size w w' := by
  by_cases hS : SideOk l
  case neg =>
    have SD := hid (fun w h => side_any l v w h)
    have RR := hid (fun w => rright_any u w)
    obtain ⟨ao, cap, rfl, hcap, hmax, hc⟩ := id h
    have HL := hid h
    unfold maxLen at hmax
    have HC := hid hc
    obtain ⟨U, hU⟩ : ∃ U, u = U := ⟨_, rfl⟩
    have HU := hid hU.symm
    clear hc h hU
    obtain ⟨⟨wa, wb, wc, wd⟩, ⟨la, lb, lc, ld⟩⟩ := u
    have kU := Blk.new w #[.int .i64 wa, .int .i64 wb, .int .i64 wc, .int .i64 wd, .int .i64 la, .int .i64 lb, .int .i64 lc, .int .i64 ld] 35
    have bU := alloc_below w (.cells #[.int .i64 wa, .int .i64 wb, .int .i64 wc, .int .i64 wd, .int .i64 la, .int .i64 lb, .int .i64 lc, .int .i64 ld] 35)
    have hLU := hid (HL.out.below bU)
    go_enter Try.func31, Try.ntmps31
    go_wp2_with fail
    refine (SD.out _ hLU.out).mono ?_
    rintro r w1 ⟨rfl, hb1⟩
    have k1 := kU.below hb1
    have bb1 := bU.trans (hb1.mono bU.size)
    clear SD hLU kU bU
    rw [sideB_false hS]
    go_wp2
    go_ret
    exact ⟨rfl, bb1⟩
  case pos =>
    have hR : rokB u = false := rokB_false fun h => hno ⟨hS, h⟩
    clear hno
    have SD := hid (fun w h => side_any l v w h)
    have RR := hid (fun w => rright_any u w)
    obtain ⟨ao, cap, rfl, hcap, hmax, hc⟩ := id h
    have HL := hid h
    unfold maxLen at hmax
    have HC := hid hc
    obtain ⟨U, hU⟩ : ∃ U, u = U := ⟨_, rfl⟩
    have HU := hid hU.symm
    clear hc h hU
    obtain ⟨⟨wa, wb, wc, wd⟩, ⟨la, lb, lc, ld⟩⟩ := u
    have kU := Blk.new w #[.int .i64 wa, .int .i64 wb, .int .i64 wc, .int .i64 wd, .int .i64 la, .int .i64 lb, .int .i64 lc, .int .i64 ld] 35
    have bU := alloc_below w (.cells #[.int .i64 wa, .int .i64 wb, .int .i64 wc, .int .i64 wd, .int .i64 la, .int .i64 lb, .int .i64 lc, .int .i64 ld] 35)
    have hLU := hid (HL.out.below bU)
    go_enter Try.func31, Try.ntmps31
    go_wp2_with fail
    refine (SD.out _ hLU.out).mono ?_
    rintro r w1 ⟨rfl, hb1⟩
    have k1 := kU.below hb1
    have bb1 := bU.trans (hb1.mono bU.size)
    clear SD hLU kU bU
    rw [sideB_true hS]
    rw [hR] at RR
    have x0 := k1.look 0 rfl
    have x1 := k1.look 1 rfl
    have x2 := k1.look 2 rfl
    have x3 := k1.look 3 rfl
    have x4 := k1.look 4 rfl
    have x5 := k1.look 5 rfl
    have x6 := k1.look 6 rfl
    have x7 := k1.look 7 rfl
    clear hR hS
    go_wp2_with fail
    refine (RR.out _).mono ?_
    rintro r w2 ⟨rfl, hb2⟩
    have bb2 := bb1.trans (hb2.mono bb1.size)
    clear RR k1 x0 x1 x2 x3 x4 x5 x6 x7 hb1 hb2 bb1
    go_wp2
    go_ret
    exact ⟨rfl, bb2⟩

set_option maxHeartbeats 8000000 in
set_option maxRecDepth 100000 in
theorem heaped_yes (l : List Gv) (u : Ru) (v : Value) (w : World) (h : GsR 0 w v l) (hS : SideOk l) (hR : RuOk u) :
    Calls Try.prog 31 #[v, ruV u] w fun r w' => (∃ p, r = .returned p ∧ GrR (w.heap.size ≤ ·) w' p l.length (fun i => nbT (adjB l u) i l.length)) ∧ Below w.heap.size w w' := by
  have h32 := hS.1
  have HS := hid hS
  have HR := hid hR
  have hR1 := rokB_true hR
  obtain ⟨ad, had⟩ : ∃ ad, adjB l u = ad := ⟨_, rfl⟩
  rw [had]
  have HAD := hid had
  obtain ⟨n, hn⟩ : ∃ n, l.length = n := ⟨_, rfl⟩
  have HN := hid hn
  rw [hn]
  clear hR had hn
  have SD := hid (fun w h => side_any l v w h)
  have RR := hid (fun w => rright_any u w)
  obtain ⟨ao, cap, rfl, hcap, hmax, hc⟩ := id h
  have HL := hid h
  unfold maxLen at hmax
  have HC := hid hc
  obtain ⟨U, hU⟩ : ∃ U, u = U := ⟨_, rfl⟩
  have HU := hid hU.symm
  clear hc h hU
  obtain ⟨⟨wa, wb, wc, wd⟩, ⟨la, lb, lc, ld⟩⟩ := u
  have kU := Blk.new w #[.int .i64 wa, .int .i64 wb, .int .i64 wc, .int .i64 wd, .int .i64 la, .int .i64 lb, .int .i64 lc, .int .i64 ld] 35
  have bU := alloc_below w (.cells #[.int .i64 wa, .int .i64 wb, .int .i64 wc, .int .i64 wd, .int .i64 la, .int .i64 lb, .int .i64 lc, .int .i64 ld] 35)
  have hLU := hid (HL.out.below bU)
  go_enter Try.func31, Try.ntmps31
  go_wp2_with fail
  refine (SD.out _ hLU.out).mono ?_
  rintro r w1 ⟨rfl, hb1⟩
  have k1 := kU.below hb1
  have bb1 := bU.trans (hb1.mono bU.size)
  clear SD hLU kU bU
  rw [sideB_true hS]
  rw [hR1] at RR
  have x0 := k1.look 0 rfl
  have x1 := k1.look 1 rfl
  have x2 := k1.look 2 rfl
  have x3 := k1.look 3 rfl
  have x4 := k1.look 4 rfl
  have x5 := k1.look 5 rfl
  have x6 := k1.look 6 rfl
  have x7 := k1.look 7 rfl
  clear hS hR1
  go_wp2_with fail
  refine (RR.out _).mono ?_
  rintro r w2 ⟨rfl, hb2⟩
  have k2 := k1.below hb2
  have bb2 := bb1.trans (hb2.mono bb1.size)
  clear RR k1 x0 x1 x2 x3 x4 x5 x6 x7 hb1 hb2 bb1
  rw [HN.out] at h32 hcap ⊢
  go_wp2_with (at_make; refine wpList_mka rfl (.tmp 21) (.tmp 21) 76 rfl 37 (.slice none 0 0) 24 Try.underlying76 infoInts rfl _ _ n rfl rfl (by omega) (by omega) ?_; intro w3 kw3 hb3 hz3; clear hz3)
  have kG := Blk.new w3 #[.int .i64 (n : Int), .slice (some ⟨w2.heap.size, 0, none⟩) n n] 78
  have b4 := alloc_below w3 (.cells #[.int .i64 (n : Int), .slice (some ⟨w2.heap.size, 0, none⟩) n n] 78)
  have kW := kw3.below b4
  have kR := (k2.below hb3).below b4
  have bb4 := bb2.trans ((hb3.trans (b4.mono hb3.size)).mono bb2.size)
  have hug : w.heap.size < w2.heap.size := k2.lt
  have hgg : w2.heap.size < w3.heap.size := kw3.lt
  have hs4 : w3.heap.size < (w3.alloc (.cells #[.int .i64 (n : Int), .slice (some ⟨w2.heap.size, 0, none⟩) n n] 78)).heap.size := kG.lt
  clear b4 kw3 k2 hb3 bb2
  generalize w3.alloc (.cells #[.int .i64 (n : Int), .slice (some ⟨w2.heap.size, 0, none⟩) n n] 78) = w4 at kG kW kR bb4 hs4 ⊢
  generalize w3.heap.size = gg at kG hgg hs4 ⊢
  generalize w2.heap.size = gw at kG kW hug hgg ⊢
  clear w3 w2
  go_loopw [27] (fun z wr => ∃ (k : Nat) (vs : Nat → Value), z = .int .i64 k ∧ k ≤ n ∧ Hid (Blk wr gw (arr n vs) 37) ∧ Hid (∀ j, j < k → NatS (gw < ·) wr (vs j) (nbT ad j n)) ∧ Hid (∀ j, k ≤ j → vs j = .slice none 0 0) ∧ Keep (· ≠ gw) w4 wr) (fun z _ => n - (intOf z).toNat)
  case atStart => exact ⟨0, fun _ => .slice none 0 0, rfl, Nat.zero_le _, hid kW, hid fun j hj => absurd hj (Nat.not_lt_zero _), hid fun _ _ => rfl, Keep.refl _ _⟩
  case round =>
    obtain ⟨k, vs, rfl, hk, HW, HRO, HNI, hkp⟩ := hrel
    by_cases hkn : k < n
    case neg =>
      obtain rfl : n = k := by omega
      have hk2 : ¬ (n : Int) < (n : Int) := by omega
      have kG2 := hid (hkp.blk kG (by show gg ≠ gw; omega))
      have hbf := bb4.trans (hkp.below bb4.size (fun b hb => by show b ≠ gw; omega))
      clear hkp kG kW kR bb4
      go_wp2
      go_ret
      refine ⟨⟨_, rfl, gg, gw, vs, rfl, by show w.heap.size ≤ gg; omega, by show w.heap.size ≤ gw; omega, kG2.out, HW.out, fun i hi => SlS.mono (HRO.out i hi) (fun b _ hb => by have h9 : gw < b := hb; show w.heap.size ≤ b; omega)⟩, hbf⟩
    case pos =>
    have hk2 : (k : Int) < (n : Int) := by omega
    obtain ⟨b, off, rfl, hb, x0, x1, x2, x3⟩ := g_cell HC.out (show k < l.length by rw [HN.out]; exact hkn)
    have hbw : b < w4.heap.size := Nat.lt_of_lt_of_le hb bb4.size
    have hgok : GOk (l.getD k g0) := HS.out.get (by rw [HN.out]; exact hkn)
    have hgk : l.getD k ⟨0, 0, 0, 0⟩ = l.getD k g0 := rfl
    rw [hgk] at x0 x1 x2 x3
    obtain ⟨ga, hga⟩ : ∃ g, l.getD k g0 = g := ⟨_, rfl⟩
    rw [hga] at x0 x1 x2 x3 hgok
    have HGA := hid hga
    have HGAO := hid hgok
    clear hga hgok hgk
    have hbne : b ≠ gw := by omega
    replace x0 := ((hkp.cell (p := ⟨b, off + k * 4, none⟩) hbw hbne).trans (bb4.cell (p := ⟨b, off + k * 4, none⟩) hb)).trans x0
    replace x1 := ((hkp.cell (p := ⟨b, off + k * 4 + 1, none⟩) hbw hbne).trans (bb4.cell (p := ⟨b, off + k * 4 + 1, none⟩) hb)).trans x1
    replace x2 := ((hkp.cell (p := ⟨b, off + k * 4 + 2, none⟩) hbw hbne).trans (bb4.cell (p := ⟨b, off + k * 4 + 2, none⟩) hb)).trans x2
    replace x3 := ((hkp.cell (p := ⟨b, off + k * 4 + 3, none⟩) hbw hbne).trans (bb4.cell (p := ⟨b, off + k * 4 + 3, none⟩) hb)).trans x3
    obtain ⟨wo, rfl⟩ : ∃ wo : World, wo = wr := ⟨_, rfl⟩
    go_wp2_with fail
    clear x0 x1 x2 x3
    have kA := Blk.new wo #[.int .i64 ga.a, .int .i64 ga.b, .int .i64 ga.c, .int .i64 ga.d] 33
    have bA := alloc_below wo (.cells #[.int .i64 ga.a, .int .i64 ga.b, .int .i64 ga.c, .int .i64 ga.d] 33)
    have kW1 := HW.out.below bA
    have hkp1 := hkp.trans (Keep.of_below bA)
    have HRO1 := hid fun j (hj : j < k) => SlS.keep (HRO.out j hj) (Keep.of_below (S := fun _ => True) bA) (fun _ _ _ => trivial)
    have hgA : w4.heap.size ≤ wo.heap.size := hkp.size
    have hFA : wo.heap.size < (wo.alloc (.cells #[.int .i64 ga.a, .int .i64 ga.b, .int .i64 ga.c, .int .i64 ga.d] 33)).heap.size := kA.lt
    clear bA HW HRO hkp
    generalize wo.alloc (.cells #[.int .i64 ga.a, .int .i64 ga.b, .int .i64 ga.c, .int .i64 ga.d] 33) = wk at kA kW1 hkp1 HRO1 hFA ⊢
    generalize wo.heap.size = gA at kA hgA hFA ⊢
    clear wo
    obtain ⟨F, hF⟩ : ∃ F, wk.heap.size = F := ⟨_, rfl⟩
    rw [hF] at hFA
    have HF := hid hF
    clear hF
    go_loopw [34] (fun z wr => ∃ (q : Nat) (vs' : Nat → Value), z = .int .i64 q ∧ q ≤ n ∧ Hid (Blk wr gw (arr n vs') 37) ∧ Hid (∀ j, j ≠ k → vs' j = vs j) ∧ Hid (wr.ownsRow F 3 1 (vs' k) (nbT ad k q).length (natI (nbT ad k q))) ∧ Keep (· ≠ gw) wk wr) (fun z _ => n - (intOf z).toNat)
    case atStart => exact ⟨0, vs, rfl, Nat.zero_le _, hid kW1, hid fun _ _ => rfl, hid (by rw [HNI.out k (Nat.le_refl _)]; exact World.ownsRow_nil _ _ _ _), Keep.refl _ _⟩
    case round =>
      obtain ⟨q, vs', rfl, hq, HW, HV, HO, hkq⟩ := hrel
      by_cases hqn : q < n
      case neg =>
        obtain rfl : n = q := by omega
        have hq2 : ¬ (n : Int) < (n : Int) := by omega
        have HW2 := hid (HW.out)
        have HRO2 : Hid (∀ j, j < k + 1 → NatS (gw < ·) wr (vs' j) (nbT ad j n)) := hid fun j hj => by
          by_cases e : j = k
          · subst e
            exact SlS.of_sl (SlR.of_owns HO.out) (fun b hb _ => by show gw < b; omega)
          · rw [HV.out j e]
            exact SlS.keep (HRO1.out j (by omega)) hkq (fun b _ hb => by have h9 : gw < b := hb; show b ≠ gw; omega)
        have HNI2 : Hid (∀ j, k + 1 ≤ j → vs' j = .slice none 0 0) := hid fun j hj => by rw [HV.out j (by omega)]; exact HNI.out j (by omega)
        have hkp2 := hkp1.trans (hkq)
        clear HW HV HO HRO1 HNI kA kW1 hkp1 hkq kG kR bb4
        go_wp2
        go_roundw
        case rel => exact ⟨k + 1, vs', by go_num, by omega, HW2, HRO2, HNI2, hkp2⟩
        case measure => simp [intOf]; omega
      case pos =>
      have hq2 : (q : Int) < (n : Int) := by omega
      have hcellq := g_cell HC.out (show q < l.length by rw [HN.out]; exact hqn)
      obtain ⟨b', off', e', hb', x0, x1, x2, x3⟩ := hcellq
      cases e'
      have hgok : GOk (l.getD q g0) := HS.out.get (by rw [HN.out]; exact hqn)
      have hgk : l.getD q ⟨0, 0, 0, 0⟩ = l.getD q g0 := rfl
      rw [hgk] at x0 x1 x2 x3
      have hstep : nbT ad k (q + 1) = if ad k q then nbT ad k q ++ [q] else nbT ad k q := rfl
      have hadk : ad k q = decide (k < l.length ∧ q < l.length ∧ k ≠ q ∧ Alw U (l.getD k g0) (l.getD q g0)) := by rw [← HAD.out, HU.out]; rfl
      rw [HGA.out, HN.out] at hadk
      obtain ⟨gb, hgb⟩ : ∃ g, l.getD q g0 = g := ⟨_, rfl⟩
      rw [hgb] at x0 x1 x2 x3 hgok hadk
      have CO := hid (fun w => cost_any U ga gb w (by rw [HU.out]; exact HR.out) HGAO.out hgok)
      have hcn := costV_nonneg (u := U) HGAO.out hgok (by rw [HU.out]; exact HR.out)
      obtain ⟨cv, hcv⟩ : ∃ c, costV U ga gb = c := ⟨_, rfl⟩
      rw [hcv] at CO hcn
      rw [HU.out] at CO
      have hadq : ad k q = true ↔ k ≠ q ∧ 0 ≤ cv := by
        rw [hadk, hcn]
        exact (Iff.of_eq decide_eq_true_eq).trans ⟨fun h => h.2.2, fun h => ⟨hkn, hqn, h⟩⟩
      have HSTEP := hid hstep
      have HADQ := hid hadq
      clear hgb hgok hgk hstep hadk hcv hcn hadq
      have hk0 : Below w.heap.size w wr := bb4.trans ((hkp1.trans hkq).below bb4.size (fun b hb => by show b ≠ gw; omega))
      replace x0 := (hk0.cell (p := ⟨b, off + q * 4, none⟩) hb).trans x0
      replace x1 := (hk0.cell (p := ⟨b, off + q * 4 + 1, none⟩) hb).trans x1
      replace x2 := (hk0.cell (p := ⟨b, off + q * 4 + 2, none⟩) hb).trans x2
      replace x3 := (hk0.cell (p := ⟨b, off + q * 4 + 3, none⟩) hb).trans x3
      have kRr := (hkp1.trans hkq).blk kR (by show w.heap.size ≠ gw; omega)
      have kGr := (hkp1.trans hkq).blk kG (by show gg ≠ gw; omega)
      have kAr := hkq.blk kA (by show gA ≠ gw; omega)
      have hsF : F ≤ wr.heap.size := by rw [← HF.out]; exact hkq.size
      have bB := alloc_below wr (.cells #[.int .i64 gb.a, .int .i64 gb.b, .int .i64 gb.c, .int .i64 gb.d] 33)
      have kB := Blk.new wr #[.int .i64 gb.a, .int .i64 gb.b, .int .i64 gb.c, .int .i64 gb.d] 33
      have kR5 := kRr.below bB
      have kA5 := kAr.below bB
      have kG5 := kGr.below bB
      have kW5 := HW.out.below bB
      have ho5 := owns_below HO.out bB
      have hk5 := hkq.trans (Keep.of_below bB)
      have hs5 := Nat.le_trans hsF bB.size
      have r0 := kR5.look 0 rfl
      have r1 := kR5.look 1 rfl
      have r2 := kR5.look 2 rfl
      have r3 := kR5.look 3 rfl
      have r4 := kR5.look 4 rfl
      have r5 := kR5.look 5 rfl
      have r6 := kR5.look 6 rfl
      have r7 := kR5.look 7 rfl
      have a0 := kA5.look 0 rfl
      have a1 := kA5.look 1 rfl
      have a2 := kA5.look 2 rfl
      have a3 := kA5.look 3 rfl
      have HK := hid kB
      clear bB kRr kGr kAr hk0 HW HO hkq kB
      by_cases hkq0 : k = q
      case pos =>
        have hne : ¬ (k : Int) ≠ (q : Int) := fun h => h (by rw [hkq0])
        have hnb : nbT ad k (q + 1) = nbT ad k q := by
          rw [HSTEP.out, if_neg (fun h => (HADQ.out.1 h).1 hkq0)]
        have HN2 := hid hnb
        have HKQ := hid hkq0
        have hbe : ((k : Int) != (q : Int)) = false := by simp [hkq0]
        clear hnb hkq0 CO HSTEP HADQ hne
        go_wp2
        go_roundw
        case rel => exact ⟨q + 1, vs', by go_num, by omega, hid kW5, HV, hid (by rw [HN2.out]; exact ho5), hk5⟩
        case measure => simp [intOf]; omega
      case neg =>
        have hbe : ((k : Int) != (q : Int)) = true := by
          rw [bne_iff_ne]; omega
        go_wp2_with fail
        refine (CO.out _).mono ?_
        rintro r w6 ⟨rfl, hb6⟩
        have hk6 := hk5.trans (Keep.of_below hb6)
        have kW6 := kW5.below hb6
        have kG6 := kG5.below hb6
        have ho6 := owns_below ho5 hb6
        have hs6 := Nat.le_trans hs5 hb6.size
        clear r0 r1 r2 r3 r4 r5 r6 r7 a0 a1 a2 a3 HK kA5 kR5 kG5 kW5 ho5 hk5 hs5 hb6 CO
        by_cases hc0 : 0 ≤ cv
        case neg =>
          have hnb : nbT ad k (q + 1) = nbT ad k q := by
            rw [HSTEP.out, if_neg (fun h => hc0 (HADQ.out.1 h).2)]
          have HN2 := hid hnb
          clear hnb HSTEP HADQ
          go_wp2
          go_roundw
          case rel => exact ⟨q + 1, vs', by go_num, by omega, hid kW6, HV, hid (by rw [HN2.out]; exact ho6), hk6⟩
          case measure => simp [intOf]; omega
        case pos =>
          have hnb : nbT ad k (q + 1) = nbT ad k q ++ [q] := by
            rw [HSTEP.out, if_pos (HADQ.out.2 ⟨hkq0, hc0⟩)]
          have HN2 := hid hnb
          clear hnb HSTEP HADQ
          obtain ⟨au, cu, hue, -⟩ := id (SlR.of_owns ho6)
          have hlen := nbT_len ad k q
          obtain ⟨m, hm⟩ : ∃ m, (nbT ad k q).length = m := ⟨_, rfl⟩
          have zW := fun y : SubT (Below F) w6.drew => (kW6.drew.below' y.b (show gw < F by omega)).arr_look hkn
          have zG := fun y : SubT (Below F) w6.drew => (kG6.drew.below' y.b (show gg < F by omega)).look 1 rfl
          rw [hue] at ho6 zW
          rw [hm] at ho6 zW hlen
          have HM := hid hm
          clear hm hue
          go_wp2_with fail
          refine wp_walkJ (T := Below (F)) (belowV_pre _) (.rd 0 (.rd 1 (.rd 2 (.rd 3 (.rd 4 (.rd 5 (.rd 6 (.rd 7 (.rd 8 (.rd 9 (.rd 10 (.rd 11 (.rd 12 (.mv 13 (.mv 14 (.rd 15 (.bt 16 (.inv [])))))))))))))))))) (by kernel_rfl) rfl (by kernel_rfl) (by kernel_rfl) ?_
          iterate 13 (refine walkJ_rd rfl (fun K hK => ?_); go_simp; refine hK _ ?_; clear hK K)
          clear zW zG
          have hd6 : Below w6.heap.size w6 w6.drew := (Below.refl _ _).drew
          have ho7 := owns_below ho6 hd6
          have kW7 := kW6.drew
          have hk7 := hk6.trans (Keep.drew _ w6)
          have hs7 : F ≤ w6.drew.heap.size := hs6
          clear ho6 kW6 hk6 hs6 hd6 kG6
          generalize w6.drew = w7 at ho7 kW7 hk7 hs7 ⊢
          (refine walkJ_mv rfl (fun K hK => ?_); go_simp; refine hK _ _ ((Below.refl _ _).alloc hs7 _) ?_; clear hK K)
          have kN := Blk.new w7 [Value.int .i64 (q : Int)].toArray 3
          have bN := alloc_below w7 (.cells [Value.int .i64 (q : Int)].toArray 3)
          have ho8 := owns_below ho7 bN
          have kW8 := kW7.below bN
          have hk8 := hk7.trans (Keep.of_below bN)
          have hs8 := Nat.le_trans hs7 bN.size
          clear ho7 kW7 hk7 bN
          refine walkJ_mv rfl (fun K hK => ⟨rfl, gives_appO (.tmp 60) (.tmp 62) 37 37 rfl rfl F 3 (.int .i64 0) 1 8 Try.underlying37 infoInt rfl (by decide) rfl ho8 [Value.int .i64 (q : Int)] w7.heap.size kN rfl rfl (by simp [Value.oneCell']) (by unfold maxLen; omega) (by omega) hs8 (fun g9 c9 w9 ho9 hg9 hb9 hl9 _ => hK _ _ ((Below.refl F _).grown hg9 hs8 (fun k hk => (ho8.lt k hk).1)) ?_)⟩)
          clear hK K
          have hgr : (w7.alloc (.cells #[Value.int .i64 (q : Int)] 3)).grownBy w9 (Value.slice au m cu).ownBlock := hg9
          have hown : ∀ j, (Value.slice au m cu).ownBlock = some j → F ≤ j := fun j hj => (ho8.lt j hj).1
          have kW9 : Blk w9 gw (arr n vs') 37 := (hgr.block gw kW8.lt (fun e => by have := hown gw e.symm; omega)).trans kW8
          have hk9 : Keep (fun b => b < F ∧ b ≠ gw) wk w9 := (hk8.mono (fun b _ hb => hb.2)).trans (Keep.grown hgr (fun j hj h => by have := hown j hj; omega))
          have hs9 := Nat.le_trans hs8 hgr.size
          have x9 := kW9.arr_look hkn
          have f9 := kW9.frozen k
          have hlt9 := kW9.lt
          clear hg9 hgr hown hk8 kW8 ho8 hs8 kN
          iterate 1 (refine walkJ_rd rfl (fun K hK => ?_); go_simp; refine hK _ ?_; clear hK K)
          (refine walkJ_bt rfl (fun K hK => ?_); go_simp; refine hK _ _ ?_; clear hK K)
          refine walkJ_nil ?_
          have kWa := hid (kW9.arr_set k (.slice (some ⟨g9, 0, none⟩) (m + 1) c9))
          have hoa := hid (ownsRow_setCell_below ho9 (a := ⟨gw, k, none⟩) (show gw < F by omega) (.slice (some ⟨g9, 0, none⟩) (m + 1) c9))
          have hka := hid ((hk9.trans (Keep.set w9 (p := ⟨gw, k, none⟩) (fun h => h.2 rfl) (.slice (some ⟨g9, 0, none⟩) (m + 1) c9))).mono (S' := (· ≠ gw)) (fun b hb hbn => ⟨by rw [HF.out] at hb; exact hb, hbn⟩))
          clear kW9 ho9 hk9 x9 f9 hlt9
          go_wp2
          go_roundw
          case rel => exact ⟨q + 1, fun j => if j = k then .slice (some ⟨g9, 0, none⟩) (m + 1) c9 else vs' j, by go_num, by omega, kWa, hid (fun j hj => by show (if j = k then _ else _) = _; rw [if_neg hj]; exact HV.out j hj), hid (by
            rw [HN2.out, List.length_append, HM.out, natI_append]
            show World.ownsRow _ _ _ _ (if k = k then _ else _) _ _
            rw [if_pos rfl]
            exact hoa.out), hka.out⟩
          case measure => simp [intOf]; omega

end Go.Proofs.Ytcpefolhohakmaa
