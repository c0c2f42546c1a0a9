/- What a value reads as in a world: slices by their cells; kept by whatever leaves old blocks alone. -/
import Derived.Test.YtcpefolhohakmaaRows
import Derived.Test.YtcpefolhohakmaaPn
import Derived.WalkKit
import Derived.WalkSpells
import Derived.WalkLawsBesides
import Derived.BigQuiet
import Derived.Deep.QuietTactic
import Derived.WalkSmall
import Derived.Maps.AppendAt
namespace Go.Proofs.Ytcpefolhohakmaa
open Go.RowKit

theorem hid {p : Prop} (h : p) : Hid p := h
theorem ret_int {k : IntKind} {a b : Int} (h : a = b) : Ending.returned (.int k a) = .returned (.int k b) := by rw [h]
theorem ret_bool {a b : Bool} (h : a = b) : Ending.returned (.bool a) = .returned (.bool b) := by rw [h]

theorem drewN_drewN (w : World) (a b : Nat) : (w.drewN a).drewN b = w.drewN (a + b) := by
  induction b with
  | zero => rfl
  | succ b ih => exact congrArg World.drew ih
theorem dr0 (w : World) : ∃ n, w = w.drewN n := ⟨0, rfl⟩
theorem dr1 (w : World) (a : Nat) : ∃ n, w.drewN a = w.drewN n := ⟨a, rfl⟩
theorem dr2 (w : World) (a b : Nat) : ∃ n, (w.drewN a).drewN b = w.drewN n := ⟨_, drewN_drewN w a b⟩
theorem dr3 (w : World) (a b c : Nat) : ∃ n, ((w.drewN a).drewN b).drewN c = w.drewN n := ⟨a + (b + c), by rw [drewN_drewN, drewN_drewN]⟩
theorem below_drewN0 {B : Nat} {w w' : World} (h : Below B w w') (n : Nat) : Below B w (w'.drewN n) := by
  induction n with
  | zero => exact h
  | succ n ih => exact ih.drew

/-- The cells xs lie from the address on, in a block from lo on (nothing is asked of the address where there are none). -/
def CellsOf (lo : Nat) (w : World) (ao : Option Addr) (xs : List Value) : Prop :=
  xs ≠ [] → ∃ b off, ao = some ⟨b, off, none⟩ ∧ lo ≤ b ∧ b < w.heap.size ∧ ∀ j, j < xs.length → w.cell? ⟨b, off + j, none⟩ = some (xs.getD j undef)
/-- A slice value of n elements whose cells are xs. -/
def SlR (lo : Nat) (w : World) (v : Value) (n : Nat) (xs : List Value) : Prop :=
  ∃ ao cap, v = .slice ao n cap ∧ n ≤ cap ∧ cap ≤ maxLen ∧ CellsOf lo w ao xs

theorem CellsOf.below {lo : Nat} {w w' : World} {ao : Option Addr} {xs : List Value} (h : CellsOf lo w ao xs) (hb : Below w.heap.size w w') : CellsOf lo w' ao xs := by
  intro hx
  obtain ⟨b, off, rfl, hlo, hlt, hc⟩ := h hx
  exact ⟨b, off, rfl, hlo, Nat.lt_of_lt_of_le hlt hb.size, fun j hj => (hb.cell (p := ⟨b, off + j, none⟩) hlt).trans (hc j hj)⟩
theorem CellsOf.mono {lo lo' : Nat} {w : World} {ao : Option Addr} {xs : List Value} (h : CellsOf lo w ao xs) (hl : lo' ≤ lo) : CellsOf lo' w ao xs := by
  intro hx
  obtain ⟨b, off, rfl, hlo, hlt, hc⟩ := h hx
  exact ⟨b, off, rfl, by omega, hlt, hc⟩
theorem CellsOf.setCell {lo : Nat} {w : World} {ao : Option Addr} {xs : List Value} (h : CellsOf lo w ao xs) {p : Addr} (hp : p.block < lo) (u : Value) : CellsOf lo (w.setCell p u) ao xs := by
  intro hx
  obtain ⟨b, off, rfl, hlo, hlt, hc⟩ := h hx
  refine ⟨b, off, rfl, hlo, by simpa [World.setCell] using hlt, fun j hj => ?_⟩
  rw [World.cell?_of_block (Below.heap_setCell w p u b (by omega))]
  exact hc j hj
theorem SlR.below {lo : Nat} {w w' : World} {v : Value} {n : Nat} {xs : List Value} (h : SlR lo w v n xs) (hb : Below w.heap.size w w') : SlR lo w' v n xs := by
  obtain ⟨ao, cap, rfl, h1, h2, h3⟩ := h
  exact ⟨ao, cap, rfl, h1, h2, h3.below hb⟩
theorem SlR.mono {lo lo' : Nat} {w : World} {v : Value} {n : Nat} {xs : List Value} (h : SlR lo w v n xs) (hl : lo' ≤ lo) : SlR lo' w v n xs := by
  obtain ⟨ao, cap, rfl, h1, h2, h3⟩ := h
  exact ⟨ao, cap, rfl, h1, h2, h3.mono hl⟩
theorem SlR.setCell {lo : Nat} {w : World} {v : Value} {n : Nat} {xs : List Value} (h : SlR lo w v n xs) {p : Addr} (hp : p.block < lo) (u : Value) : SlR lo (w.setCell p u) v n xs := by
  obtain ⟨ao, cap, rfl, h1, h2, h3⟩ := h
  exact ⟨ao, cap, rfl, h1, h2, h3.setCell hp u⟩
theorem SlR.nil (lo : Nat) (w : World) : SlR lo w (.slice none 0 0) 0 [] := ⟨none, 0, rfl, Nat.le_refl _, Nat.zero_le _, fun h => absurd rfl h⟩
theorem owns_below {w w' : World} {base : Nat} {e : TypeId} {size : Nat} {v : Value} {n : Nat} {xs : List Value} (h : w.ownsRow base e size v n xs) (hb : Below w.heap.size w w') : w'.ownsRow base e size v n xs :=
  h.kept (row := none) ⟨hb.os, hb.tape, hb.output, hb.size, fun k hk _ => hb.block k hk⟩ (by cases h : v.ownBlock <;> simp)
theorem getD_some {xs : List Value} {j : Nat} (h : j < xs.length) : xs[j]? = some (xs.getD j undef) := by
  rw [List.getD_eq_getElem?_getD, List.getElem?_eq_getElem h]; rfl
/-- What the call owns reads as its cells. -/
theorem SlR.of_owns {w : World} {base : Nat} {e : TypeId} {size : Nat} {v : Value} {n : Nat} {xs : List Value} (h : w.ownsRow base e size v n xs) : SlR base w v n xs := by
  have h0 := h
  obtain ⟨hl, ⟨rfl, rfl⟩ | ⟨g, cap, cur, rfl, hg, hh, hn, hm, hs, hx⟩⟩ := h
  · have : xs = [] := by simpa using hl
    subst this
    exact SlR.nil _ w
  · refine ⟨_, cap, rfl, hn, hm, fun _ => ⟨g, 0, rfl, hg, (Array.getElem?_eq_some_iff.1 hh).1, fun j hj => ?_⟩⟩
    have := h0.cells (g := g) rfl j _ (getD_some hj)
    by_cases hj0 : j = 0
    · subst hj0; simpa [Addr.add] using this
    · simpa [Addr.add, hj0] using this
theorem owns_head {w : World} {base : Nat} {e : TypeId} {size : Nat} {v : Value} {k : Nat} {xs : List Value} (h : w.ownsRow base e size v (k + 1) xs) :
    ∃ g cap, v = .slice (some ⟨g, 0, none⟩) (k + 1) cap ∧ base ≤ g ∧ g < w.heap.size := by
  obtain ⟨_, ⟨_, h0⟩ | ⟨g, cap, cur, hv, hg, hh, _⟩⟩ := h
  · omega
  · exact ⟨g, cap, hv, hg, (Array.getElem?_eq_some_iff.1 hh).1⟩
theorem below_grown {w w' : World} {base : Nat} {e : TypeId} {size : Nat} {v : Value} {n : Nat} {xs : List Value} (h : w.ownsRow base e size v n xs) (hg : w.grownBy w' v.ownBlock) (hb : base ≤ w.heap.size) : Below base w w' :=
  (Below.refl base w).grown hg hb (fun k hk => (h.lt k hk).1)

/-- Block b is a variable of the call's own: its cells, none of them frozen. -/
def Blk (w : World) (b : Nat) (cs : Array Value) (t : TypeId) : Prop := w.heap[b]? = some (.cells cs t (0, 0))
theorem Blk.lt {w : World} {b : Nat} {cs : Array Value} {t : TypeId} (h : Blk w b cs t) : b < w.heap.size := (Array.getElem?_eq_some_iff.1 h).1
theorem Blk.cell {w : World} {b : Nat} {cs : Array Value} {t : TypeId} (h : Blk w b cs t) (j : Nat) : w.cell? ⟨b, j, none⟩ = cs[j]? := by
  unfold World.cell?
  rw [show w.heap[(⟨b, j, none⟩ : Addr).block]? = _ from h]
  rfl
theorem Blk.look {w : World} {b : Nat} {cs : Array Value} {t : TypeId} (h : Blk w b cs t) (j : Nat) {u : Value} (hj : cs[j]? = some u) : w.cell? ⟨b, j, none⟩ = some u := (h.cell j).trans hj
theorem Blk.frozen {w : World} {b : Nat} {cs : Array Value} {t : TypeId} (h : Blk w b cs t) (j : Nat) : w.frozen? ⟨b, j, none⟩ = false := by
  unfold World.frozen?
  rw [show w.heap[(⟨b, j, none⟩ : Addr).block]? = _ from h]
  simp
theorem Blk.below {w w' : World} {b : Nat} {cs : Array Value} {t : TypeId} (h : Blk w b cs t) (hb : Below w.heap.size w w') : Blk w' b cs t := (hb.block b h.lt).trans h
theorem Blk.below' {w w' : World} {b n : Nat} {cs : Array Value} {t : TypeId} (h : Blk w b cs t) (hb : Below n w w') (hn : b < n) : Blk w' b cs t := (hb.block b hn).trans h
theorem Blk.new (w : World) (cs : Array Value) (t : TypeId) : Blk (w.alloc (.cells cs t)) w.heap.size cs t := heap_alloc_new w _
theorem Blk.alloc {w : World} {b : Nat} {cs : Array Value} {t : TypeId} (h : Blk w b cs t) (o : Obj) : Blk (w.alloc o) b cs t := (Below.heap_alloc w o b h.lt).trans h
theorem Blk.drew {w : World} {b : Nat} {cs : Array Value} {t : TypeId} (h : Blk w b cs t) : Blk w.drew b cs t := h
theorem Blk.set {w : World} {b : Nat} {cs : Array Value} {t : TypeId} (h : Blk w b cs t) (j : Nat) (u : Value) : Blk (w.setCell ⟨b, j, none⟩ u) b (cs.setIfInBounds j u) t := heap_setCell_same w b j cs t u h
theorem Blk.other {w : World} {b : Nat} {cs : Array Value} {t : TypeId} (h : Blk w b cs t) {p : Addr} (hp : b ≠ p.block) (u : Value) : Blk (w.setCell p u) b cs t := (Below.heap_setCell w p u b hp).trans h

/-- 'x = append(x, v)' of ONE element of whatever size, x nil or the call's own: the element lies in a new block of its own. -/
theorem wpList_app {P : Program} {w0 : World} {ops : Array Oper} {rest : List Oper} {o : Oper} {a : Act} {Q : Exit → Act → World → Prop} (hgd : o.guard = none) (s x : Operand) (t : TypeId)
    (ho : o.op = .call { callee := .builtin .append, args := #[s, x], argTypes := #[t, t] })
    (base : Nat) (e : TypeId) (z : Value) (size bytes : Nat) (ht : P.underlying t = some (.slice e)) (hi : (P.info? e).map (fun i => (i.zero, i.size, i.bytes)) = some (some z, size, bytes))
    (hzs : z.cells.size = size) (hsz : 0 < size) (te : TypeId)
    (v : Value) (n : Nat) (xs : List Value) (hs : a.eval s = v) (hown : w0.ownsRow base e size v n xs)
    (news : List Value) (hx : a.eval x = .slice (some ⟨w0.heap.size, 0, none⟩) 1 1) (hl : news.length = size) (h1 : ∀ u ∈ news, u.oneCell' = true)
    (h63 : n + 1 ≤ maxLen) (hbytes : (n + 1) * bytes ≤ 140737488355328) (hbase : base ≤ w0.heap.size)
    (h : ∀ g cap w', w'.ownsRow base e size (.slice (some ⟨g, 0, none⟩) (n + 1) cap) (n + 1) (xs ++ news) → Below base w0 w' → w0.grownBy w' v.ownBlock → base ≤ g → g < w'.heap.size →
      wpList P ops Q rest (a.put o.dst (.slice (some ⟨g, 0, none⟩) (n + 1) cap)) w') :
    wpList P ops Q (o :: rest) a (w0.alloc (.cells news.toArray te)) := by
  obtain ⟨i, hi0, hz, hsize, hby⟩ := info_parts hi
  refine wpList_append_own _ hgd s x t ho base e i z size bytes ht hi0 hz hsize hby hzs hsz v n xs hs (hown.alloc _) ⟨w0.heap.size, 0, none⟩ 1 1 news hx (by omega) ?_ h1 h63 hbytes (by simp; omega) ?_
  · intro j u hj
    have hj' : news.toArray[j]? = some u := by simpa using hj
    have h2 : (w0.alloc (.cells news.toArray te)).heap[w0.heap.size]? = some (.cells news.toArray te) := heap_alloc_new w0 _
    have h3 : ∀ k, (w0.alloc (.cells news.toArray te)).cell? ⟨w0.heap.size, k, none⟩ = news.toArray[k]? := fun k => by
      unfold World.cell?
      rw [h2]
      rfl
    by_cases hj0 : j = 0
    · subst hj0
      exact (h3 0).trans hj'
    · have h4 : (⟨w0.heap.size, 0, none⟩ : Addr).add j = ⟨w0.heap.size, j, none⟩ := by simp [Addr.add, hj0]
      rw [h4]
      exact (h3 j).trans hj'
  · intro v' w' hown' hgr _
    obtain ⟨g, cap, rfl, hg1, hg2⟩ := owns_head hown'
    have hgr0 : w0.grownBy w' v.ownBlock := (World.grownBy_alloc w0 _ _).trans hgr
    exact h g cap w' hown' (below_grown hown hgr0 hbase) hgr0 hg1 hg2

/-- 'make([]T, n)' of elements of one cell. -/
theorem wpList_mk {P : Program} {w : World} {ops : Array Oper} {rest : List Oper} {o : Oper} {a : Act} {Q : Exit → Act → World → Prop} (hgd : o.guard = none) (l c : Operand) (t : TypeId) (ho : o.op = Op.makeSlice t l c)
    (base : Nat) (e : TypeId) (z : Value) (bytes : Nat) (ht : P.underlying t = some (.slice e)) (hi : (P.info? e).map (fun i => (i.zero, i.size, i.bytes)) = some (some z, 1, bytes)) (hz : z.cells = #[z])
    (kl kc : IntKind) (L C : Int) (n : Nat) (hl : a.eval l = .int kl L) (hc : a.eval c = .int kc C) (hL : L = (n : Int)) (hC : C = (n : Int)) (b2 : bytes * n ≤ 281474976710656) (b3 : n ≤ maxLen) (b4 : base ≤ w.heap.size)
    (h : ∀ w', w'.ownsRow base e 1 (.slice (some ⟨w.heap.size, 0, none⟩) n n) n (List.replicate n z) → Below base w w' → w.heap.size < w'.heap.size → w.grownBy w' none →
      wpList P ops Q rest (a.put o.dst (.slice (some ⟨w.heap.size, 0, none⟩) n n)) w') : wpList P ops Q (o :: rest) a w := by
  obtain ⟨i, hi0, hz0, hsize, hby⟩ := info_parts hi
  refine wpList_make_full w hgd l c t ho base e i z 1 ht hi0 hz0 hsize kl kc L C n hl hc hL hC (by rw [hby]; exact b2) b3 b4 ?_
  intro w' hown hgr
  rw [hz, Nat.mul_one, toList_madeCells_one] at hown
  refine h w' hown ((Below.refl base w).grown hgr b4 (fun k hk => by cases hk)) ?_ hgr
  have := hown.lt w.heap.size rfl
  exact this.2

/-- The cells of digits. -/
def u32s (ds : List Nat) : List Value := ds.map fun (d : Nat) => Value.int .u32 (d : Int)
/-- A slice of digits. -/
def DsR (lo : Nat) (w : World) (v : Value) (ds : List Nat) : Prop := SlR lo w v ds.length (u32s ds)
/-- A natural number, in blocks from lo on. -/
def NatF (lo : Nat) (w : World) (v : Value) (n : Nat) : Prop := DsR lo w v (digs n)
/-- A natural number. -/
abbrev NatR (w : World) (v : Value) (n : Nat) : Prop := NatF 0 w v n
theorem DsR.below {lo : Nat} {w w' : World} {v : Value} {ds : List Nat} (h : DsR lo w v ds) (hb : Below w.heap.size w w') : DsR lo w' v ds := SlR.below h hb
theorem NatF.below {lo : Nat} {w w' : World} {v : Value} {n : Nat} (h : NatF lo w v n) (hb : Below w.heap.size w w') : NatF lo w' v n := SlR.below h hb
theorem NatF.mono {lo lo' : Nat} {w : World} {v : Value} {n : Nat} (h : NatF lo w v n) (hl : lo' ≤ lo) : NatF lo' w v n := SlR.mono h hl
theorem NatF.nat {lo : Nat} {w : World} {v : Value} {n : Nat} (h : NatF lo w v n) : NatR w v n := SlR.mono h (Nat.zero_le _)
theorem u32s_append (a b : List Nat) : u32s (a ++ b) = u32s a ++ u32s b := by unfold u32s; exact List.map_append
theorem u32s_length (a : List Nat) : (u32s a).length = a.length := by unfold u32s; exact List.length_map _
theorem u32s_cell {lo : Nat} {w : World} {ao : Option Addr} {ds : List Nat} (h : CellsOf lo w ao (u32s ds)) {i : Nat} (hi : i < ds.length) :
    ∃ b off, ao = some ⟨b, off, none⟩ ∧ b < w.heap.size ∧ w.cell? ⟨b, off + i, none⟩ = some (.int .u32 ((ds.getD i 0 : Nat) : Int)) := by
  obtain ⟨b, off, h1, _, h2, h3⟩ := h (by intro h0; have := congrArg List.length h0; rw [u32s_length] at this; simp at this; subst this; simp at hi)
  refine ⟨b, off, h1, h2, ?_⟩
  rw [h3 i (by rw [u32s_length]; exact hi)]
  simp [u32s, List.getD_eq_getElem?_getD, List.getElem?_map, List.getElem?_eq_getElem hi]

theorem u32s_getD {o : List Nat} {j : Nat} (h : j < o.length) : (u32s o)[j]? = some (.int .u32 ((o.getD j 0 : Nat) : Int)) := by
  simp [u32s, List.getD_eq_getElem?_getD, List.getElem?_map, List.getElem?_eq_getElem h]
theorem dig_cell {w : World} {base g n cap : Nat} {e : TypeId} {o : List Nat} (h : w.ownsRow base e 1 (.slice (some ⟨g, 0, none⟩) n cap) n (u32s o)) {j : Nat} (hj : j < o.length) :
    w.cell? ⟨g, j, none⟩ = some (.int .u32 ((o.getD j 0 : Nat) : Int)) := by
  have hl := h.1
  rw [u32s_length] at hl
  rw [h.cellAt j (by omega), u32s_getD hj]
theorem dig_set {w : World} {base g n cap : Nat} {e : TypeId} {o : List Nat} (h : w.ownsRow base e 1 (.slice (some ⟨g, 0, none⟩) n cap) n (u32s o)) (j : Nat) {z : Int} (d : Nat) (hz : z = (d : Int)) :
    (w.setCell ⟨g, j, none⟩ (.int .u32 z)).ownsRow base e 1 (.slice (some ⟨g, 0, none⟩) n cap) n (u32s (o.set j d)) := by
  subst hz
  have := (h.stored j (.int .u32 (d : Int))).1
  unfold u32s at *
  rw [List.map_set]; exact this

end Go.Proofs.Ytcpefolhohakmaa
