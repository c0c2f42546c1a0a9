/- Walks of trankref04.All: the rules of a pattern and its ground rules, with their numbers. -/
import Derived.Test.YtmknengmjepdaaaPd
namespace Go.Proofs.Ytmknengmjepdaaa
open Go.RowKit

/-- The cells of whole numbers. -/
def intCells (l : List Int) : List Value := l.map fun z => .int .i64 z
def IntsR (lo : Nat) (w : World) (v : Value) (l : List Int) : Prop := SlR lo w v l.length (intCells l)
def RusR (lo : Nat) (w : World) (v : Value) (l : List Rul) : Prop := SlR lo w v l.length (ruCells l)
theorem intCells_len (l : List Int) : (intCells l).length = l.length := by unfold intCells; exact List.length_map _
theorem intCells_append (a b : List Int) : intCells (a ++ b) = intCells a ++ intCells b := by unfold intCells; exact List.map_append
theorem int_cell {lo : Nat} {w : World} {ao : Option Addr} {l : List Int} (h : CellsOf lo w ao (intCells l)) {i : Nat} {z : Int} (hi : l[i]? = some z) :
    ∃ b off, ao = some ⟨b, off, none⟩ ∧ b < w.heap.size ∧ w.cell? ⟨b, off + i, none⟩ = some (.int .i64 z) := by
  have hil := (List.getElem?_eq_some_iff.1 hi).1
  obtain ⟨b, off, h1, _, h2, h3⟩ := h (by intro h0; have := congrArg List.length h0; rw [intCells_len, List.length_nil] at this; omega)
  refine ⟨b, off, h1, h2, ?_⟩
  rw [h3 i (by rw [intCells_len]; exact hil)]
  simp [intCells, List.getD_eq_getElem?_getD, List.getElem?_map, hi]

/-- The ground rule of i. -/
def ground (i : Nat) : Rul := ⟨i, 0, 0, 0⟩
/-- All rules of a pattern. -/
def ext (p : Pat) : List Rul := p.rules ++ (List.range (p.n.toNat - 1)).map fun i => ground (i + 1)
/-- Their numbers. -/
def nums (p : Pat) : List Int := (List.range p.rules.length).map (fun (k : Nat) => (k : Int)) ++ (List.range (p.n.toNat - 1)).map fun i => -((i + 1 : Nat) : Int)

theorem own_ne {w : World} {b1 b2 : Nat} {e1 e2 : TypeId} {s1 s2 : Nat} {v1 v2 : Value} {n1 n2 : Nat} {x1 x2 : List Value} (h1 : w.ownsRow b1 e1 s1 v1 n1 x1) (h2 : w.ownsRow b2 e2 s2 v2 n2 x2) (he : e1 ≠ e2) : v1.ownBlock = none ∨ v1.ownBlock ≠ v2.ownBlock := by
  obtain ⟨_, ⟨rfl, _⟩ | ⟨g, cap, cur, rfl, _, hh, _⟩⟩ := h1
  · exact .inl rfl
  · right
    obtain ⟨_, ⟨rfl, _⟩ | ⟨g', cap', cur', rfl, _, hh', _⟩⟩ := h2
    · intro h; cases h
    · intro h
      simp only [Value.ownBlock, Option.some.injEq] at h
      subst h
      rw [hh] at hh'
      simp at hh'
      exact he hh'.2
theorem infoRRule : (Try.prog.info? 46).map (fun i => (i.zero, i.size, i.bytes)) = some (some (.agg #[.int .i64 0, .int .i64 0, .int .i64 0, .int .i64 0]), 4, 32) := by kernel_rfl
theorem infoInt : (Try.prog.info? 3).map (fun i => (i.zero, i.size, i.bytes)) = some (some (.int .i64 0), 1, 8) := by kernel_rfl
theorem range_snoc {α : Type} (f : Nat → α) (i : Nat) : (List.range (i + 1)).map f = (List.range i).map f ++ [f i] := by rw [List.range_succ, List.map_append]; rfl

set_option maxHeartbeats 2000000 in
theorem All4_any (p : Pat) (v : Value) (w : World) (h : PatF 0 w v p) (hp1 : 1 ≤ p.n) (hp2 : p.n ≤ 16) (hp3 : p.rules.length ≤ 64) :
    Calls Try.prog 79 #[v] w fun e w' => ∃ v1 v2, e = .returned (.tuple #[v1, v2]) ∧ RusR w.heap.size w' v1 (ext p) ∧ IntsR w.heap.size w' v2 (nums p) ∧ Below w.heap.size w w' := by
  obtain ⟨ao, cap, rfl, hcap, hmax, hc⟩ := h.shape
  unfold maxLen at hmax
  clear h
  obtain ⟨N, hN⟩ : ∃ N : Nat, p.n = N := ⟨p.n.toNat, by omega⟩
  obtain ⟨L, hL⟩ : ∃ L, p.rules.length = L := ⟨_, rfl⟩
  have HL := hid hL
  have HN := hid hN
  rw [hL] at hcap hp3 ⊢
  rw [hN] at hp1 hp2 ⊢
  clear hL hN
  go_enter Try.func79, Try.ntmps79
  go_wp2
  have k0 := Blk.new w #[.int .i64 (N : Int), .slice ao L cap] 24
  have hB : Below w.heap.size w (w.alloc (.cells #[.int .i64 (N : Int), .slice ao L cap] 24)) := (Below.refl _ _).alloc (Nat.le_refl _) _
  obtain ⟨w0, hw0⟩ : ∃ w0, w.alloc (.cells #[.int .i64 (N : Int), .slice ao L cap] 24) = w0 := ⟨_, rfl⟩
  rw [hw0] at k0 hB ⊢
  clear hw0
  go_loopw [4, 5, 12] (fun x y z wr => ∃ i : Nat, z = .int .i64 i ∧ i ≤ L ∧ wr.ownsRow (w.heap.size + 1) 46 4 x i (ruCells (p.rules.take i)) ∧ wr.ownsRow (w.heap.size + 1) 3 1 y i (intCells ((List.range i).map fun (k : Nat) => (k : Int))) ∧
    Blk wr w.heap.size #[.int .i64 (N : Int), .slice ao L cap] 24 ∧ Below w.heap.size w wr) (fun _ _ z _ => L - (intOf z).toNat)
  case atStart => exact ⟨0, rfl, Nat.zero_le _, World.ownsRow_nil _ _ _ _, World.ownsRow_nil _ _ _ _, k0, hB⟩
  case round =>
    obtain ⟨i, rfl, hi, ho1, ho2, kp, hbel⟩ := hrel
    have c0 := kp.look 0 rfl
    have hlt := kp.lt
    by_cases hil : i < L
    · obtain ⟨r, hr⟩ := ex_rule (l := p.rules) (i := i) (by rw [HL.out]; exact hil)
      obtain ⟨b, off, rfl, hb, d0, d1, d2, d3⟩ := ru_cell hc hr
      have HRR := hid hr
      clear hr
      have e0 := (hbel.cell (p := ⟨b, off + i * 4, none⟩) hb).trans d0
      have e1 := (hbel.cell (p := ⟨b, off + i * 4 + 1, none⟩) hb).trans d1
      have e2 := (hbel.cell (p := ⟨b, off + i * 4 + 2, none⟩) hb).trans d2
      have e3 := (hbel.cell (p := ⟨b, off + i * 4 + 3, none⟩) hb).trans d3
      clear d0 d1 d2 d3
      obtain ⟨ra, rb, rc, rd⟩ := r
      dsimp only at e0 e1 e2 e3
      go_wp2_with (first
        | (at_builtin; refine wpList_appH rfl (.tmp 17) (.tmp 19) _ rfl (w.heap.size + 1) 46 (.agg #[.int .i64 0, .int .i64 0, .int .i64 0, .int .i64 0]) 4 32 Try.underlying22 infoRRule rfl (by decide) 46 _ _ _ rfl (ho1.alloc _) [.int .i64 ra, .int .i64 rb, .int .i64 rc, .int .i64 rd] (wr.heap.size + 1) (World.size_alloc _ _) rfl rfl (by simp [Value.oneCell']) (by unfold maxLen; omega) (by omega) (by simp; omega) ?_; intro g gcap w2 ho1' hb2 hgr _ _; have ho2' := (ho2.alloc (.cells #[.int .i64 ra, .int .i64 rb, .int .i64 rc, .int .i64 rd] 46)).kept hgr (own_ne ho2 ho1 (by decide)); have hb2' : Below (w.heap.size + 1) wr w2 := ((Below.refl (w.heap.size + 1) wr).alloc hlt _).trans hb2; have hs2 := hb2'.size)
        | (at_builtin; refine wpList_app rfl (.tmp 21) (.tmp 23) _ rfl (w.heap.size + 1) 3 (.int .i64 0) 1 8 Try.underlying49 infoInt rfl (by decide) 3 _ _ _ rfl ho2' [.int .i64 (i : Int)] rfl rfl (by simp [Value.oneCell']) (by unfold maxLen; omega) (by omega) (by omega) ?_; intro g3 g3cap w3 ho2'' hb3 hgr3 _ _; have ho1'' := ho1'.kept hgr3 (own_ne ho1' ho2' (by decide)); have hb3' := hb2'.trans hb3))
      go_roundw
      case rel => exact ⟨i + 1, by go_num, by omega, by rw [ru_snoc HRR.out]; exact ho1'', by rw [range_snoc, intCells_append]; exact ho2'', kp.below' hb3' (Nat.lt_succ_self _), hbel.trans (hb3'.mono (Nat.le_succ _))⟩
      case measure => simp [intOf]; omega
    · obtain rfl : i = L := by omega
      obtain ⟨wq, rfl⟩ : ∃ wq : World, wq = wr := ⟨_, rfl⟩
      have hrt : p.rules.take i = p.rules := by rw [← HL.out, List.take_length]
      rw [hrt] at ho1
      clear hrt
      go_wp2
      go_loopw [4, 5, 8] (fun x y z wr => ∃ j : Nat, z = .int .i64 ((j : Int) + 1) ∧ j + 1 ≤ N ∧ wr.ownsRow (w.heap.size + 1) 46 4 x (i + j) (ruCells (p.rules ++ (List.range j).map fun (i : Nat) => ground (i + 1))) ∧
        wr.ownsRow (w.heap.size + 1) 3 1 y (i + j) (intCells ((List.range i).map (fun (k : Nat) => (k : Int)) ++ (List.range j).map fun (i : Nat) => -((i + 1 : Nat) : Int))) ∧
        Blk wr w.heap.size #[.int .i64 (N : Int), .slice ao i cap] 24 ∧ Below w.heap.size w wr) (fun _ _ z _ => N - (intOf z).toNat)
      case atStart => exact ⟨0, rfl, by omega, by simpa using ho1, by simpa using ho2, kp, hbel⟩
      case round =>
        obtain ⟨j, rfl, hj, hp1', hp2', kp', hbel'⟩ := hrel
        have c0' := kp'.look 0 rfl
        have hlt' := kp'.lt
        by_cases hjl : j + 1 < N
        · go_wp2_with (first
            | (at_builtin; refine wpList_app rfl (.tmp 32) (.tmp 35) _ rfl (w.heap.size + 1) 46 (.agg #[.int .i64 0, .int .i64 0, .int .i64 0, .int .i64 0]) 4 32 Try.underlying22 infoRRule rfl (by decide) 46 _ _ _ rfl hp1' [.int .i64 ((j : Int) + 1), .int .i64 0, .int .i64 0, .int .i64 0] rfl rfl (by simp [Value.oneCell']) (by unfold maxLen; omega) (by omega) (by omega) ?_; intro g gcap w2 ho1' hb2 hgr _ _; have ho2' := hp2'.kept hgr (own_ne hp2' hp1' (by decide)); have hs2 := hb2.size)
            | (at_builtin; refine wpList_app rfl (.tmp 37) (.tmp 40) _ rfl (w.heap.size + 1) 3 (.int .i64 0) 1 8 Try.underlying49 infoInt rfl (by decide) 3 _ _ _ rfl ho2' [.int .i64 (-((j : Int) + 1))] rfl rfl (by simp [Value.oneCell']) (by unfold maxLen; omega) (by omega) (by omega) ?_; intro g3 g3cap w3 ho2'' hb3 hgr3 _ _; have ho1'' := ho1'.kept hgr3 (own_ne ho1' ho2' (by decide)); have hb3' := hb2.trans hb3))
          go_roundw
          case rel =>
            refine ⟨j + 1, by go_num, by omega, ?_, ?_, kp'.below' hb3' (Nat.lt_succ_self _), hbel'.trans (hb3'.mono (Nat.le_succ _))⟩
            · rw [range_snoc, ← List.append_assoc, ruCells_append]; exact ho1''
            · rw [range_snoc, ← List.append_assoc, intCells_append]; exact ho2''
          case measure => simp [intOf]; omega
        · obtain rfl : N = j + 1 := by omega
          have e1 : ext p = p.rules ++ (List.range j).map fun (i : Nat) => ground (i + 1) := by
            unfold ext; rw [HN.out]; rfl
          have e2 : nums p = (List.range i).map (fun (k : Nat) => (k : Int)) ++ (List.range j).map fun (i : Nat) => -((i + 1 : Nat) : Int) := by
            unfold nums; rw [HN.out, HL.out]; rfl
          have E1 := hid e1
          have E2 := hid e2
          clear e1 e2
          go_wp2
          go_ret2
          refine ⟨_, _, rfl, ?_, ?_, hbel'⟩
          · unfold RusR
            rw [E1.out, List.length_append, List.length_map, List.length_range, HL.out]
            exact (SlR.of_owns hp1').mono (Nat.le_succ _)
          · unfold IntsR
            rw [E2.out, List.length_append, List.length_map, List.length_range, List.length_map, List.length_range]
            exact (SlR.of_owns hp2').mono (Nat.le_succ _)

end Go.Proofs.Ytmknengmjepdaaa
