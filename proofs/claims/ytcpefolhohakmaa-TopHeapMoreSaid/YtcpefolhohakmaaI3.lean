/- What run leaves, and helpers. -/
import Derived.Test.YtcpefolhohakmaaI2
import Derived.Deep.Cut
import Derived.Deep.CutRange
namespace Go.Proofs.Ytcpefolhohakmaa
open Go.RowKit
attribute [local irreducible] seqS seqST walkV walkJ

/-- The rows of a graph, in blocks of S. -/
def RowsR (S : Nat → Prop) (w : World) (gv : Value) (n : Nat) (nb : Nat → List Nat) : Prop := ∃ gw vs, gv = slV gw n ∧ S gw ∧ Blk w gw (arr n vs) 37 ∧ ∀ i, i < n → NatS S w (vs i) (nb i)
theorem RowsR.keep {S S' : Nat → Prop} {w w' : World} {gv : Value} {n : Nat} {nb : Nat → List Nat} (h : RowsR S w gv n nb) (k : Keep S' w w') (hs : ∀ b, b < w.heap.size → S b → S' b) : RowsR S w' gv n nb := by
  obtain ⟨gw, vs, h1, h2, h3, h4⟩ := h
  exact ⟨gw, vs, h1, h2, k.blk h3 (hs _ h3.lt h2), fun i hi => SlS.keep (h4 i hi) k hs⟩
theorem Keep.blk2 {S : Nat → Prop} {x : World} {o : Obj} {g : Nat} {cs : Array Value} {t : TypeId} (_h : Keep S x (x.alloc o)) (k : Blk x g cs t) : Blk (x.alloc o) g cs t := k.alloc o
/-- What run leaves: a search that has failed, or the end of an augmenting way. -/
structure RunP (adj : Nat → Nat → Prop) (gs gg gm : Nat) (gv : Value) (n root : Nat) (m : Mt) (w0 : World) (r : Ending) (w' : World) : Prop where
  out : ∃ gf gb ge qv f bs ev, SeR w' gs gg gm gf gb ge gv qv n m f bs ev ∧ (w0.heap.size ≤ gf ∧ w0.heap.size ≤ gb ∧ w0.heap.size ≤ ge) ∧
    ((r = .returned (.int .i64 (-1)) ∧ EvM n adj m root) ∨
     ∃ v s l, r = .returned (.int .i64 ((v : Nat) : Int)) ∧ v < n ∧ m v = none ∧ f v = some s ∧ adj v s ∧ Seg f m root s l ∧ Alt adj m l ∧ Sim m l ∧ v ∉ l)
  keep : Keep (· ≠ gs) w0 w'

/-- run's second statement: the three new arrays, stored into the search. -/
structure RnI (gs n : Nat) (pg x0 x5 : Value) (W w0 : World) (l : Nat → Bool) (V : Nat → Value) (w : World) : Prop where
  k : Keep (· ≠ gs) w0 w
  a4 : l 4 = true → ∃ g, V 4 = slV g n ∧ W.heap.size ≤ g ∧ Blk w g (arr n fun _ => .int .i64 0) 3
  a6 : l 6 = true → ∃ g, V 6 = slV g n ∧ W.heap.size ≤ g ∧ Blk w g (arr n fun i => .int .i64 (i : Int)) 3
  a8 : l 8 = true → ∃ g, V 8 = slV g n ∧ W.heap.size ≤ g ∧ Blk w g (arr n fun _ => .bool false) 4
  ne : l 4 = true → l 6 = true → V 4 ≠ V 6
  a9 : l 9 = true → V 9 = .pointer (some ⟨gs, 0, none⟩)
  a10 : l 10 = true → V 10 = .pointer (some ⟨gs, 2, none⟩)
  a12 : l 12 = true → V 12 = .pointer (some ⟨gs, 0, none⟩)
  a13 : l 13 = true → V 13 = .pointer (some ⟨gs, 3, none⟩)
  a15 : l 15 = true → V 15 = .pointer (some ⟨gs, 0, none⟩)
  a16 : l 16 = true → V 16 = .pointer (some ⟨gs, 4, none⟩)
  s : ∃ c2 c3 c4, Blk w gs #[pg, x0, c2, c3, c4, x5] 133 ∧ (l 11 = true → c2 = V 4) ∧ (l 14 = true → c3 = V 6) ∧ (l 17 = true → c4 = V 8)

/-- The append of one index to the queue, as a call that hands its answer on. -/
theorem gives_appQ {w : World} {o : Oper} {a : Act} {K : Value → World → Prop} (s x : Operand) (ty : TypeId) (ho : o.op = .call { callee := .builtin .append, args := #[s, x], argTypes := #[37, 37] }) (hty : o.type = ty)
    {P : Nat → Prop} {v : Value} {l : List Nat} (hs : a.eval s = v) (h : QuR w P v l) {H y : Nat} (hx : a.eval x = .slice (some ⟨H, 0, none⟩) 1 1) (hn : Blk w H #[.int .i64 (y : Int)] 3) (hB : ∀ g, w.heap.size ≤ g → P g) (hl : l.length ≤ 100000)
    (hk : ∀ v' w' gq, QuR w' P v' (l ++ [y]) → w.grownBy w' (some gq) → P gq → K v' w') : gives Try.prog o a w K := by
  obtain ⟨v', w', gq, hr, h1, h2, h3⟩ := h.app hn hB hl ty
  exact gives_append2 s x 37 ho hty hs hx hr (hk v' w' gq h1 h2 h3)
theorem SeR.setE {w : World} {gs gg gm gf gb ge : Nat} {gv qv : Value} {n : Nat} {m f : Mt} {bs : Nat → Nat} {ev : Nat → Bool} (h : SeR w gs gg gm gf gb ge gv qv n m f bs ev) (h1 : ge ≠ gs) (h2 : ge ≠ gg) (h3 : ge ≠ gm) (k : Nat) : SeR (w.setCell ⟨ge, k, none⟩ (.bool true)) gs gg gm gf gb ge gv qv n m f bs (fun i => if i = k then true else ev i) :=
  ⟨h.s.other h1.symm _, h.g.other h2.symm _, h.m.other h3.symm _, h.f.other (blk_ne h.f h.e (by decide)) _, h.b.other (blk_ne h.b h.e (by decide)) _, by have := h.e.arr_set k (.bool true); rwa [arr_bool_set] at this⟩
theorem SeR.setF2 {w : World} {gs gg gm gf gb ge : Nat} {gv qv : Value} {n : Nat} {m f : Mt} {bs : Nat → Nat} {ev : Nat → Bool} (h : SeR w gs gg gm gf gb ge gv qv n m f bs ev) (h1 : gf ≠ gs) (h2 : gf ≠ gg) (h3 : gf ≠ gm) (h4 : gf ≠ gb) (k : Nat) (o : Option Nat) : SeR (w.setCell ⟨gf, k, none⟩ (oI o)) gs gg gm gf gb ge gv qv n m (upd f k o) bs ev :=
  ⟨h.s.other h1.symm _, h.g.other h2.symm _, h.m.other h3.symm _, by have := h.f.arr_set k (oI o); rwa [arr_mt_set] at this, h.b.other h4.symm _, h.e.other (blk_ne h.e h.f (by decide)) _⟩
theorem cntB_one (ev : Nat → Bool) (x : Nat) : ∀ n, cntB (fun i => if i = x then true else ev i) n = cntB ev n + (if x < n ∧ ev x = false then 1 else 0)
  | 0 => by simp [cntB]
  | n + 1 => by
    have ih := cntB_one ev x n
    unfold cntB
    rw [ih]
    by_cases h : n = x
    · subst h
      cases e : ev n <;> simp
    · rw [if_neg h]
      have e : (x < n + 1 ∧ ev x = false) ↔ (x < n ∧ ev x = false) := by constructor <;> (rintro ⟨h1, h2⟩; exact ⟨by omega, h2⟩)
      simp only [e]; omega
theorem oZ_eq (o : Option Nat) (w : Nat) : (oZ o == (w : Int)) = decide (o = some w) := by
  cases o with
  | none => unfold oZ; simp
  | some x => unfold oZ; by_cases h : x = w <;> simp [h]; omega
theorem getD_mem {l : List Nat} {k : Nat} (h : k < l.length) : l.getD k 0 ∈ l := by
  rw [List.getD_eq_getElem?_getD, List.getElem?_eq_getElem h]; exact List.getElem_mem h
theorem take_getD {l : List Nat} {k : Nat} (h : k < l.length) : l.take (k + 1) = l.take k ++ [l.getD k 0] := by
  rw [List.take_succ_eq_append_getElem h, List.getD_eq_getElem?_getD, List.getElem?_eq_getElem h]; rfl

end Go.Proofs.Ytcpefolhohakmaa
