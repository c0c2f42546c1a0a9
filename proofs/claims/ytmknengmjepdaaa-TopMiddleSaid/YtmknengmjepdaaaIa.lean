/- The iterator of grade.Pattern.all: its contract, for every loop body that keeps the pattern. -/
import Derived.RangeFuncNested
import Derived.RangeFuncBound
import Derived.RangeFuncCalls
import Derived.RangeFuncLeaves
import Derived.Shelf.Abstract
import Derived.Shelf.RegionOpen
import Derived.WalkKit
import Derived.OwnWalkIn
import Derived.TacticsInMore
import Derived.LoopNIn
import Derived.LoopIn
import Derived.Test.YtmknengmjepdaaaPx
namespace Go.Proofs.Ytmknengmjepdaaa
open Go.RowKit Go.Shelf
attribute [local go_sem] Oper.semAt_some

abbrev ruV (r : Rul) : Value := .agg #[.int .i64 r.a, .int .i64 r.b, .int .i64 r.c, .int .i64 r.d]
/-- All rules with their numbers, in the iterator's order. -/
def allL (p : Pat) : List (Int × Rul) := (nums p).zip (ext p)
theorem nums_len (p : Pat) : (nums p).length = p.rules.length + (p.n.toNat - 1) := by unfold nums; simp
theorem ext_len (p : Pat) : (ext p).length = p.rules.length + (p.n.toNat - 1) := by unfold ext; simp
theorem allL_len (p : Pat) : (allL p).length = p.rules.length + (p.n.toNat - 1) := by unfold allL; rw [List.length_zip, nums_len, ext_len]; omega
theorem allL_left {p : Pat} {k : Nat} {r : Rul} (h : p.rules[k]? = some r) : (allL p)[k]? = some ((k : Int), r) := by
  have hk := (List.getElem?_eq_some_iff.1 h).1
  unfold allL nums ext
  rw [List.getElem?_zip_eq_some]
  constructor
  · rw [List.getElem?_append_left (by simpa using hk), List.getElem?_map, List.getElem?_range hk]; rfl
  · rw [List.getElem?_append_left hk]; exact h
theorem allL_right {p : Pat} {i : Nat} (h : i < p.n.toNat - 1) : (allL p)[p.rules.length + i]? = some (-((i + 1 : Nat) : Int), ground (i + 1)) := by
  unfold allL nums ext
  rw [List.getElem?_zip_eq_some]
  constructor
  · rw [List.getElem?_append_right (by simp), List.length_map, List.length_range, Nat.add_sub_cancel_left, List.getElem?_map, List.getElem?_range h]; rfl
  · rw [List.getElem?_append_right (by simp), Nat.add_sub_cancel_left, List.getElem?_map, List.getElem?_range h]; rfl
/-- One of the rules with its number. -/
abbrev Ent (p : Pat) := { x : Int × Rul // x ∈ allL p }

/-- What a round keeps: what lies below n, and block B. -/
def KpB (n B : Nat) (W W' : World) : Prop := Below n W W' ∧ W'.heap[B]? = W.heap[B]?
theorem KpB.refl (n B : Nat) (W : World) : KpB n B W W := ⟨Below.refl _ _, rfl⟩
theorem KpB.trans {n B : Nat} {X Y Z : World} (h : KpB n B X Y) (k : KpB n B Y Z) : KpB n B X Z := ⟨h.1.trans k.1, k.2.trans h.2⟩
theorem KpB.put {n B : Nat} {W : World} {l : Nat} (h1 : n ≤ l) (h2 : B < l) (o : Obj) : KpB n B W (W.putObj l o) :=
  ⟨⟨rfl, rfl, rfl, by simp, fun k hk => World.putObj_heap_other (by omega)⟩, World.putObj_heap_other (by omega)⟩
theorem KpB.alloc {n B : Nat} {W W' : World} (h : KpB n B W W') (hn : n ≤ W'.heap.size) (hB : B < W'.heap.size) (o : Obj) : KpB n B W (W'.alloc o) := ⟨h.1.alloc hn o, (Below.heap_alloc W' o B hB).trans h.2⟩
theorem KpB.blk {n B : Nat} {W W' : World} {cs : Array Value} {t : TypeId} (h : KpB n B W W') (k : Blk W B cs t) : Blk W' B cs t := h.2.trans k
theorem blk_lt {W W' : World} {B : Nat} {cs : Array Value} {t : TypeId} {n : Nat} (k : Blk W B cs t) (h : KpB n B W W') : B < W'.heap.size := (h.blk k).lt

theorem pre_len {p : Pat} {pre : List (Ent p)} {k : Nat} (hk : k ≤ (allL p).length) (h : pre.map (·.1) = (allL p).take k) : pre.length = k := by
  have := congrArg List.length h
  rw [List.length_map, List.length_take] at this
  omega
theorem pre_snoc {p : Pat} {pre : List (Ent p)} {k : Nat} {x : Ent p} (h : pre.map (·.1) = (allL p).take k) (hx : (allL p)[k]? = some x.1) : (pre ++ [x]).map (·.1) = (allL p).take (k + 1) := by
  obtain ⟨hk, he⟩ := List.getElem?_eq_some_iff.1 hx
  rw [List.map_append, h, List.take_succ_eq_append_getElem hk, he]; rfl

set_option maxRecDepth 100000 in
set_option maxHeartbeats 4000000 in
theorem all1_in (F : Fence) (n : Nat) (hf : F.fn 114) (hro : F.round = none) (hn : 1 ≤ n) (l B n₀ : Nat) (p : Pat) (N : Nat) (hN : p.n = N) (hN1 : 1 ≤ N) (hN16 : N ≤ 16) (hL64 : p.rules.length ≤ 64) (ao : Option Addr) (cap : Nat) (hcap : p.rules.length ≤ cap) (W : World)
    (J Jx : List (Ent p) → World → Prop) (hJ : AbidesFrom W.heap.size J)
    (hY : ∀ pre (x : Ent p) W1, J pre W1 → pre.length < (allL p).length → YieldAt F (n - 1) Try.prog l #[.int .i64 x.1.1, ruV x.1.2] W1 fun e W' =>
      (e = .returned (.bool true) ∧ J (pre ++ [x]) W' ∧ KpB n₀ B W1 W') ∨ (e = .returned (.bool false) ∧ Jx (pre ++ [x]) W'))
    (hn0 : n₀ ≤ W.heap.size) (kB : Blk W B #[.int .i64 (N : Int), .slice ao p.rules.length cap] 33) (hc : ∀ W', Below n₀ W W' → CellsOf 0 W' ao (ruCells p.rules)) (h0 : J [] W) :
    CallsIn F n Try.prog 114 #[.func (.yield l) #[] #[], .pointer (some ⟨B, 0, none⟩)] W fun e W' => (∃ v, e = .returned v) ∧
      ((∃ xs : List (Ent p), xs.map (·.1) = allL p ∧ J xs W') ∨ (∃ pre : List (Ent p), pre.map (·.1) <+: allL p ∧ Jx pre W')) := by

  obtain ⟨L, hL⟩ : ∃ L, p.rules.length = L := ⟨_, rfl⟩
  have HL := hid hL
  have HN := hid hN
  have HLN : Hid ((allL p).length = L + (N - 1)) := hid (by rw [allL_len, hL, hN]; rfl)
  rw [hL] at kB hcap hL64
  clear hN hL
  refine callsIn_of_wp Try.func114 rfl hf ?_ hro
  simp only [Try.ntmps114, List.size_toArray, List.length_cons, List.length_nil, Nat.reduceAdd, Nat.reduceSub, Array.replicate_succ, Array.replicate_zero, List.push_toArray, List.append_toArray, List.nil_append, List.cons_append]
  have c1 := kB.look 1 rfl
  gi_wp2
  clear c1
  gi_loopw [9] (fun i wr => ∃ (k : Nat) (pre : List (Ent p)), i = .int .i64 k ∧ k ≤ L ∧ pre.map (·.1) = (allL p).take k ∧ J pre wr ∧ KpB n₀ B W wr ∧ W.heap.size ≤ wr.heap.size)
    (fun i _ => L - (intOf i).toNat)
  case atStart => exact ⟨0, [], rfl, Nat.zero_le _, by simp, h0, KpB.refl _ _ _, Nat.le_refl _⟩
  case round =>
    obtain ⟨k, pre, rfl, hk, hpre, hJs, hkp, hsz⟩ := hrel
    by_cases hkL : k < L
    · obtain ⟨r, hr⟩ := ex_rule (l := p.rules) (i := k) (by rw [HL.out]; exact hkL)
      obtain ⟨b, off, rfl, hb, d0, d1, d2, d3⟩ := ru_cell (hc wr hkp.1) hr
      have hx : (allL p)[k]? = some (((k : Int), r) : Int × Rul) := allL_left hr
      obtain ⟨x, hxv⟩ : ∃ x : Ent p, x.1 = ((k : Int), r) := ⟨⟨_, List.mem_of_getElem? hx⟩, rfl⟩
      have HX : Hid ((allL p)[k]? = some x.1) := hid (by rw [hxv]; exact hx)
      have hk2 := hkp.alloc (by omega) (blk_lt kB hkp) (.cells #[.int .i64 r.a, .int .i64 r.b, .int .i64 r.c, .int .i64 r.d] 92)
      have hJ2 := hJ _ _ (wr.alloc (.cells #[.int .i64 r.a, .int .i64 r.b, .int .i64 r.c, .int .i64 r.d] 92)) none hJs (World.grownBy_alloc _ _ _) (fun _ e => by cases e)
      have hYx := hY pre x _ hJ2 (by have := HLN.out; rw [pre_len (by omega) hpre]; omega)
      rw [hxv] at hYx
      obtain ⟨fn, tmps, assign, body, hy, hR⟩ := hYx
      dsimp only at hy
      have HPRE := hid hpre
      clear hr hx hpre hxv
      gi_wp2
      refine hR.mono ?_
      rintro e W3 (⟨rfl, hJ3, hk3⟩ | ⟨rfl, hJx3⟩)
      · gi_wp2
        go_roundw
        case rel => exact ⟨k + 1, _, by go_num, by omega, pre_snoc HPRE.out HX.out, hJ3, hk2.trans hk3, by have := hk2.1.size; have := hk3.1.size; have := World.size_alloc wr (.cells #[.int .i64 r.a, .int .i64 r.b, .int .i64 r.c, .int .i64 r.d] 92); omega⟩
        case measure => simp [intOf]; omega
      · gi_wp2
        refine bodyPost_ret (results_none rfl _ _ _) rfl ?_
        exact ⟨⟨_, rfl⟩, .inr ⟨_, by rw [pre_snoc HPRE.out HX.out]; exact List.take_prefix _ _, hJx3⟩⟩
    · obtain rfl : k = L := by omega
      have HPRE0 := hid hpre
      clear hpre
      gi_wp2
      gi_loopw [5] (fun i wr => ∃ (j : Nat) (pre : List (Ent p)), i = .int .i64 ((j : Int) + 1) ∧ j + 1 ≤ N ∧ pre.map (·.1) = (allL p).take (k + j) ∧ J pre wr ∧ KpB n₀ B W wr ∧ W.heap.size ≤ wr.heap.size)
        (fun i _ => N - (intOf i).toNat)
      case atStart => exact ⟨0, pre, rfl, hN1, HPRE0.out, hJs, hkp, hsz⟩
      case round =>
        clear hJs hkp hsz HPRE0
        obtain ⟨j, pre, rfl, hj, hpre, hJs, hkp, hsz⟩ := hrel
        have c0 := (hkp.blk kB).look 0 rfl
        by_cases hjN : j + 1 < N
        · have hx : (allL p)[k + j]? = some ((-((j + 1 : Nat) : Int), ground (j + 1)) : Int × Rul) := by rw [← HL.out]; exact allL_right (by rw [HN.out, Int.toNat_natCast]; omega)
          obtain ⟨x, hxv⟩ : ∃ x : Ent p, x.1 = (-((j + 1 : Nat) : Int), ground (j + 1)) := ⟨⟨_, List.mem_of_getElem? hx⟩, rfl⟩
          have HX : Hid ((allL p)[k + j]? = some x.1) := hid (by rw [hxv]; exact hx)
          have hYx := hY pre x _ hJs (by have := HLN.out; rw [pre_len (by omega) hpre]; omega)
          rw [hxv] at hYx
          obtain ⟨fn, tmps, assign, body, hy, hR⟩ := hYx
          simp only [ruV, ground, Int.natCast_add, Int.natCast_one] at hy
          have HPRE := hid hpre
          clear hx hpre hxv
          gi_wp2
          refine hR.mono ?_
          rintro e W3 (⟨rfl, hJ3, hk3⟩ | ⟨rfl, hJx3⟩)
          · gi_wp2
            go_roundw
            case rel => exact ⟨j + 1, _, by go_num, by omega, by have := pre_snoc HPRE.out HX.out; rw [Nat.add_assoc] at this; exact this, hJ3, hkp.trans hk3, Nat.le_trans hsz hk3.1.size⟩
            case measure => simp [intOf]; omega
          · gi_wp2
            refine bodyPost_ret (results_none rfl _ _ _) rfl ?_
            exact ⟨⟨_, rfl⟩, .inr ⟨_, by rw [pre_snoc HPRE.out HX.out]; exact List.take_prefix _ _, hJx3⟩⟩
        · obtain rfl : N = j + 1 := by omega
          have HPRE := hid hpre
          clear hpre
          gi_wp2
          go_end0
          refine ⟨⟨_, rfl⟩, .inl ⟨pre, ?_, hJs⟩⟩
          rw [HPRE.out, List.take_of_length_le (by rw [HLN.out]; omega)]

set_option maxHeartbeats 1000000 in
/-- The maker: the pattern is boxed; the function value holds the box. -/
theorem all_in (F : Fence) (n : Nat) (hf : F.fn 82) (hro : F.round = none) (N : Int) (sv : Value) (w : World) :
    CallsIn F n Try.prog 82 #[.agg #[.int .i64 N, sv]] w fun e w' => e = .returned (.func (.func 114) #[] #[.pointer (some ⟨w.heap.size, 0, none⟩)]) ∧ w' = w.alloc (.cells #[.int .i64 N, sv] 33) := by
  refine callsIn_of_wp Try.func82 rfl hf ?_ hro
  simp only [Try.ntmps82, List.size_toArray, List.length_cons, List.length_nil, Nat.reduceAdd, Nat.reduceSub, Array.replicate_succ, Array.replicate_zero, List.push_toArray, List.append_toArray, List.nil_append, List.cons_append]
  gi_wp2
  go_ret
  exact ⟨rfl, rfl⟩

theorem all_stops (F : Fence) (n : Nat) (hf : F.fn 114) (hro : F.round = none) (hn : 1 ≤ n) (B n₀ : Nat) (p : Pat) (N : Nat) (hN : p.n = N) (hN1 : 1 ≤ N) (hN16 : N ≤ 16) (hL64 : p.rules.length ≤ 64) (ao : Option Addr) (cap : Nat) (hcap : p.rules.length ≤ cap) (w : World)
    (hn0 : n₀ ≤ w.heap.size) (kB : Blk w B #[.int .i64 (N : Int), .slice ao p.rules.length cap] 33) (hc : ∀ W', Below n₀ w W' → CellsOf 0 W' ao (ruCells p.rules)) :
    SeqStopsK F n Try.prog 114 #[.pointer (some ⟨B, 0, none⟩)] (fun x : Ent p => #[.int .i64 x.1.1, ruV x.1.2]) (KpB n₀ B) (fun xs => xs.map (·.1) = allL p) (fun pre => pre.map (·.1) <+: allL p) (allL p).length w :=
  fun l J Jx W hW hJ _ hY h0 => all1_in F n hf hro hn l B n₀ p N hN hN1 hN16 hL64 ao cap hcap W J Jx hJ hY (Nat.le_trans hn0 hW.size) (kB.below hW) (fun W' hb => hc W' ((hW.mono hn0).trans hb)) h0

end Go.Proofs.Ytmknengmjepdaaa
