/- Variables of the call's own that a drawn region makes and fills, as facts for an invariant. -/
import Derived.Test.YtcpefolhohakmaaRj
import Derived.Test.YtcpefolhohakmaaRw
import Derived.Deep.WholeRow
namespace Go.Proofs.Ytcpefolhohakmaa
open Go.RowKit

theorem row_other (w : World) (g : Nat) (cs : Array Value) {k : Nat} (h : k ≠ g) : (w.setRow g cs).heap[k]? = w.heap[k]? := by
  simp only [World.setRow]
  rw [Array.getElem?_modify, if_neg (fun e => h e.symm)]
theorem row_blk {w : World} {g : Nat} {cs cs' : Array Value} {t : TypeId} (h : Blk w g cs t) : Blk (w.setRow g cs') g cs' t := by
  show (w.setRow g cs').heap[g]? = _
  simp only [World.setRow]
  rw [Array.getElem?_modify, if_pos rfl, show w.heap[g]? = _ from h]
  rfl
theorem row_size (w : World) (g : Nat) (cs : Array Value) : (w.setRow g cs).heap.size = w.heap.size := by simp [World.setRow]
theorem row_below {S : Nat} {w w' : World} (h : Below S w w') {g : Nat} (hg : S ≤ g) (cs : Array Value) : Below S w (w'.setRow g cs) :=
  ⟨h.os, h.tape, h.output, by rw [row_size]; exact h.size, fun k hk => (row_other w' g cs (by omega)).trans (h.block k hk)⟩
theorem row_blk_other {w : World} {g g' : Nat} {cs cs' : Array Value} {t : TypeId} (h : Blk w g cs t) (hg : g ≠ g') : Blk (w.setRow g' cs') g cs t := (row_other w g' cs' hg).trans h
theorem blk_ne {w : World} {g g' : Nat} {cs cs' : Array Value} {t t' : TypeId} (h : Blk w g cs t) (h' : Blk w g' cs' t') (ht : t ≠ t') : g ≠ g' := by
  rintro rfl
  have : (some (Obj.cells cs t (0, 0)) : Option Obj) = some (.cells cs' t' (0, 0)) := by
    rw [← show w.heap[g]? = _ from h, ← show w.heap[g]? = _ from h']
  simp at this
  exact ht this.2
/-- A whole struct or array, stored into a variable of the call's own. -/
theorem gives_store_row {P : Program} {o : Oper} {a : Act} {w : World} {R : Value → World → Prop} (ty : TypeId) (x y : Operand) (ho : o.op = .store ty x y) (g : Nat) (cells : Array Value) (hx : a.eval x = .pointer (some ⟨g, 0, none⟩)) (hy : a.eval y = .agg cells)
    (t : TypeId) (old : Array Value) (hg : Blk w g old t) (hi : (P.info? ty).map (·.size) = some cells.size) (hold : old.size = cells.size) (h1 : cells.all (·.oneCell') = true) (h : R undef (w.setRow g cells)) : gives P o a w R := by
  unfold gives execOp
  simp only [ho, hx, hy, Instr.storeAt, Instr.sureAddr, Sem.run_bind, Sem.run_pure, Result.andThen_ok, run_storeVar_row w g t ty old cells hg hi hold h1, givesUpon]
  exact h

/-- A variable that a region makes (v: its pointer) and fills (st: it is filled, with rc). -/
def VarI (B : Nat) (w : World) (v : Value) (t : TypeId) (sz : Nat) (st : Bool) (rc : Array Value) : Prop :=
  ∃ g cs, v = .pointer (some ⟨g, 0, none⟩) ∧ B ≤ g ∧ Blk w g cs t ∧ cs.size = sz ∧ (st = true → cs = rc)
section
variable {B : Nat} {w w' : World} {v : Value} {t : TypeId} {sz : Nat} {st : Bool} {rc : Array Value}
theorem VarI.below (h : VarI B w v t sz st rc) (hb : Below w.heap.size w w') : VarI B w' v t sz st rc := by
  obtain ⟨g, cs, h1, h2, h3, h4⟩ := h
  exact ⟨g, cs, h1, h2, h3.below hb, h4⟩
theorem VarI.new (w : World) (cs : Array Value) (t : TypeId) (hB : B ≤ w.heap.size) (hz : cs.size = sz) (hst : st = false) : VarI B (w.alloc (.cells cs t)) (.pointer (some ⟨w.heap.size, 0, none⟩)) t sz st rc :=
  ⟨_, cs, rfl, hB, Blk.new w cs t, hz, fun h => by rw [hst] at h; cases h⟩
theorem VarI.row_other (h : VarI B w v t sz st rc) {g : Nat} {cs cs' : Array Value} {t' : TypeId} (hg : Blk w g cs t') (ht : t ≠ t') : VarI B (w.setRow g cs') v t sz st rc := by
  obtain ⟨g', c, h1, h2, h3, h4⟩ := h
  exact ⟨g', c, h1, h2, row_blk_other h3 (blk_ne h3 hg ht), h4⟩
theorem VarI.filled {g : Nat} {cs : Array Value} (hB : B ≤ g) (hg : Blk w g cs t) (hz : rc.size = sz) : VarI B (w.setRow g rc) (.pointer (some ⟨g, 0, none⟩)) t sz st rc := ⟨g, rc, rfl, hB, row_blk hg, hz, fun _ => rfl⟩
theorem VarI.out (h : VarI B w v t sz true rc) : ∃ g, v = .pointer (some ⟨g, 0, none⟩) ∧ B ≤ g ∧ Blk w g rc t := by
  obtain ⟨g, cs, h1, h2, h3, -, h5⟩ := h
  rw [h5 rfl] at h3
  exact ⟨g, h1, h2, h3⟩
end
theorem alloc_below (w : World) (o : Obj) : Below w.heap.size w (w.alloc o) := (Below.refl _ _).alloc (Nat.le_refl _) o

end Go.Proofs.Ytcpefolhohakmaa
