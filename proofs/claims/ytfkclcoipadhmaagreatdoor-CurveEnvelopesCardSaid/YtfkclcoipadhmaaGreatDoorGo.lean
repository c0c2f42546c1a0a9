/- What curve.compared keeps, and the classes of worlds in which it is walked. -/
import Derived.Test.YtfkclcoipadhmaaGreatDoorGf
import Derived.Test.YtfkclcoipadhmaaGreatDoorFt
import Derived.Test.YtfkclcoipadhmaaGreatDoorRg
import Derived.Test.YtfkclcoipadhmaaGreatDoorGh
namespace Go.Proofs.YtfkclcoipadhmaaGreatDoor
open Go.RowKit
attribute [local irreducible] seqS seqST walkV walkJ

structure BelX (g S B : Nat) (a b : World) : Prop where
  os : b.os = a.os
  tape : b.tape = a.tape
  output : b.output = a.output
  size : a.heap.size ≤ b.heap.size
  block : ∀ k, k < B → k ≠ g → k ≠ S → b.heap[k]? = a.heap[k]?
theorem BelX.refl (g S B : Nat) (w : World) : BelX g S B w w := ⟨rfl, rfl, rfl, Nat.le_refl _, fun _ _ _ _ => rfl⟩
theorem BelX.of_belG {g S B : Nat} {a b c : World} (h : BelX g S B a b) (k : BelG g B b c) : BelX g S B a c :=
  ⟨k.os.trans h.os, k.tape.trans h.tape, k.output.trans h.output, Nat.le_trans h.size k.size, fun i hi h1 h2 => (k.block i hi h1).trans (h.block i hi h1 h2)⟩
theorem BelX.set {g S B : Nat} {a b : World} (h : BelX g S B a b) {p : Addr} (hp : p.block = S) (v : Value) : BelX g S B a (b.setCell p v) :=
  ⟨h.os, h.tape, h.output, by simpa [World.setCell] using h.size, fun i hi h1 h2 => (Below.heap_setCell b p v i (fun e => h2 (by rw [e, hp]))).trans (h.block i hi h1 h2)⟩
theorem BelX.below {g S B C : Nat} {w a b : World} (h : Below C w a) (k : BelX g S B a b) (hC : C ≤ B) (hg : C ≤ g) (hS : C ≤ S) : Below C w b :=
  h.trans ⟨k.os, k.tape, k.output, k.size, fun i hi => k.block i (by omega) (by omega) (by omega)⟩
theorem BelG.below {g B C : Nat} {w a b : World} (h : Below C w a) (k : BelG g B a b) (hC : C ≤ B) (hg : C ≤ g) : Below C w b :=
  h.trans ⟨k.os, k.tape, k.output, k.size, fun i hi => k.block i (by omega) (by omega)⟩
theorem BelG.of_below {g B : Nat} {a b : World} (h : Below a.heap.size a b) (hB : B ≤ a.heap.size) : BelG g B a b := ⟨h.os, h.tape, h.output, h.size, fun k hk _ => h.block k (by omega)⟩
theorem BelG.of_grown {g B : Nat} {a b : World} {row : Option Nat} (h : a.grownBy b row) (hB : B ≤ a.heap.size) (hr : ∀ k, row = some k → B ≤ k) : BelG g B a b :=
  ⟨World.grownBy.os h, World.grownBy.tape h, World.grownBy.output h, World.grownBy.size h, fun k hk _ => World.grownBy.block h k (by omega) (fun e => by have := hr k e.symm; omega)⟩
theorem valsO_step {f : Rat → Option Rat} {l : List Rat} {i : Nat} {ok : Bool} {o : List Rat} {p : Rat} (h : ok = (valsO f l i).isSome) (h1 : ok = true → valsO f l i = some o) (h2 : (ok && (f (l.getD i 0)).isSome) = true → f (l.getD i 0) = some p) :
    (ok && (f (l.getD i 0)).isSome) = (valsO f l (i + 1)).isSome ∧ ((ok && (f (l.getD i 0)).isSome) = true → valsO f l (i + 1) = some (o ++ [p])) := by
  cases ok with
  | false =>
    have hn : valsO f l i = none := by
      cases hs : valsO f l i with
      | none => rfl
      | some x => rw [hs] at h; cases h
    rw [valsO_stay hn (Nat.le_succ i)]
    exact ⟨rfl, fun h => by cases h⟩
  | true =>
    cases hf : f (l.getD i 0) with
    | none => rw [valsO_none hf]; exact ⟨rfl, fun h => by cases h⟩
    | some p' =>
      rw [hf] at h2
      have e : p' = p := Option.some.inj (h2 rfl)
      subst e
      rw [valsO_some (h1 rfl) hf]
      exact ⟨rfl, fun _ => rfl⟩
theorem dff_cal (A C : List Pt) (x : Rat) (ok : Bool) (V1 V2 : Rat) (h1 : calK ok (atO C x) = true → atO C x = some V1) (h2 : calK (calK ok (atO C x)) (atO A x) = true → atO A x = some V2) :
    calK (calK (calK ok (atO C x)) (atO A x)) (fitO (V1 - V2)) = (ok && (dffO A C x).isSome) ∧ ((ok && (dffO A C x).isSome) = true → dffO A C x = some (calV (calK (calK ok (atO C x)) (atO A x)) (fitO (V1 - V2)))) := by
  unfold dffO
  cases ok with
  | false => exact ⟨rfl, fun h => by cases h⟩
  | true =>
    cases hc : atO C x with
    | none => exact ⟨rfl, fun h => by cases h⟩
    | some z =>
      rw [hc] at h1 h2
      have e1 : z = V1 := Option.some.inj (h1 rfl)
      cases ha : atO A x with
      | none => exact ⟨rfl, fun h => by cases h⟩
      | some y =>
        rw [ha] at h2
        have e2 : y = V2 := Option.some.inj (h2 rfl)
        subst e1 e2
        show calK true (fitO (z - y)) = (true && (fitO (z - y)).isSome) ∧ _
        cases hf : fitO (z - y) with
        | none => exact ⟨rfl, fun h => by
            simp only [Option.bind_some] at h
            rw [hf] at h
            cases h⟩
        | some s => exact ⟨rfl, fun _ => by
            simp only [Option.bind_some]
            rw [hf]
            rfl⟩
theorem SlR.mid {lo n : Nat} {w w' : World} {v : Value} {xs : List Value} (h : SlR lo w v n xs) (hs : w.heap.size ≤ w'.heap.size) (k : ∀ k, lo ≤ k → k < w.heap.size → w'.heap[k]? = w.heap[k]?) : SlR lo w' v n xs := by
  obtain ⟨ao, cap, rfl, h1, h2, hc⟩ := h
  refine ⟨ao, cap, rfl, h1, h2, fun hx => ?_⟩
  obtain ⟨b, off, e, hlo, hb, hcell⟩ := hc hx
  refine ⟨b, off, e, hlo, Nat.lt_of_lt_of_le hb hs, fun j hj => ?_⟩
  rw [World.cell?_of_block (k b hlo hb)]
  exact hcell j hj
/-- What compared hands back. -/
structure CmpR (c d : List P4) (w : World) (r : Ending) (w' : World) : Prop where
  out : ∃ (a1 : Option Addr) (n1 c1 : Nat) (a2 : Option Addr) (n2 c2 : Nat) (a3 : Option Addr) (n3 c3 : Nat) (a4 : Option Addr) (n4 c4 : Nat), r = .returned (.tuple #[.agg #[.slice a1 n1 c1, .slice a2 n2 c2, .slice a3 n3 c3, .slice a4 n4 c4], .int .i64 (cmpE c d)]) ∧
    (cmpE c d = 0 → QsR w.heap.size w' (.slice a3 n3 c3) (cmpA c d).1 ∧ ∃ B2, w.heap.size ≤ B2 ∧ B2 ≤ w'.heap.size ∧ w'.ownsRow B2 31 2 (.slice a4 n4 c4) (cmpA c d).2.length (frsC (cmpA c d).2) ∧
      ∀ W, Below B2 w' W → QsR 0 W (.slice a1 n1 c1) (comG (toQ c) (toQ d)) ∧ QsR 0 W (.slice a2 n2 c2) (cmpV c d))
  b : Below w.heap.size w w'

theorem q_cellB {lo : Nat} {w : World} {ao : Option Addr} {l : List Rat} (h : CellsOf lo w ao (frsC l)) {i : Nat} (hi : i < l.length) :
    ∃ b off, ao = some ⟨b, off, none⟩ ∧ lo ≤ b ∧ b < w.heap.size ∧ w.cell? ⟨b, off + i * 2, none⟩ = some (.int .i64 (l.getD i 0).num) ∧ w.cell? ⟨b, off + i * 2 + 1, none⟩ = some (.int .i64 ((l.getD i 0).den : Int)) := by
  obtain ⟨b, off, hao, hb, h0, h1⟩ := q_cell h hi
  have hne : frsC l ≠ [] := by
    intro he
    have := frsC_len l
    rw [he] at this
    simp at this
    omega
  obtain ⟨b', off', hao', hlo, -, -⟩ := h hne
  rw [hao] at hao'
  obtain ⟨rfl, rfl⟩ : b = b' ∧ off = off' := by simpa using hao'
  exact ⟨b, off, hao, hlo, hb, h0, h1⟩
theorem BelG.cell {g B : Nat} {a b : World} (h : BelG g B a b) {p : Addr} (hb : p.block < B) (hne : p.block ≠ g) : b.cell? p = a.cell? p := World.cell?_of_block (h.block _ hb hne)
theorem CalT.of_belG {g B : Nat} {a b : World} (h : BelG g B a b) (hB : a.heap.size ≤ B) : CalT g a b :=
  ⟨h.os, h.tape, h.output, h.size, fun k hk hne => h.block k (by omega) (fun e => hne (by rw [e]))⟩
/-- All below S stands but what X names. -/
structure ExT (X : Nat → Prop) (S : Nat) (a b : World) : Prop where
  os : b.os = a.os
  tape : b.tape = a.tape
  output : b.output = a.output
  size : a.heap.size ≤ b.heap.size
  block : ∀ k, k < S → ¬ X k → b.heap[k]? = a.heap[k]?
theorem exT_pre (X : Nat → Prop) (S : Nat) : Pre (ExT X S) := ⟨fun _ => ⟨rfl, rfl, rfl, Nat.le_refl _, fun _ _ _ => rfl⟩, fun h k => ⟨k.os.trans h.os, k.tape.trans h.tape, k.output.trans h.output, Nat.le_trans h.size k.size, fun i hi hne => (k.block i hi hne).trans (h.block i hi hne)⟩⟩
instance instExT (X : Nat → Prop) (S : Nat) (W : World) : Nonempty (SubT (ExT X S) W) := ⟨⟨W, (exT_pre X S).refl W⟩⟩
theorem ExT.of_below {X : Nat → Prop} {S : Nat} {a b : World} (h : Below a.heap.size a b) (hS : S ≤ a.heap.size) : ExT X S a b := ⟨h.os, h.tape, h.output, h.size, fun k hk _ => h.block k (by omega)⟩
theorem ExT.of_grown {X : Nat → Prop} {S : Nat} {a b : World} {row : Option Nat} (h : a.grownBy b row) (hS : S ≤ a.heap.size) (hX : ∀ k, row = some k → X k ∨ S ≤ k) : ExT X S a b :=
  ⟨World.grownBy.os h, World.grownBy.tape h, World.grownBy.output h, World.grownBy.size h, fun k hk hn => World.grownBy.block h k (by omega) (fun e => by
    rcases hX k e.symm with h | h
    · exact hn h
    · omega)⟩
theorem ExT.blk {X : Nat → Prop} {S b : Nat} {w w' : World} {cs : Array Value} {t : TypeId} (h : ExT X S w w') (k : Blk w b cs t) (hb : b < S) (hne : ¬ X b) : Blk w' b cs t := (h.block b hb hne).trans k
/-- An append within a drawn region, with where the row lies behind it. -/
theorem gives_appO {P : Program} {o : Oper} {a : Act} {w : World} {K : Value → World → Prop} (s x : Operand) (t ty : TypeId) (ho : o.op = .call { callee := .builtin .append, args := #[s, x], argTypes := #[t, t] }) (hty : o.type = ty)
    (base : Nat) (e : TypeId) (z : Value) (size bytes : Nat) (ht : P.underlying t = some (.slice e)) (hi : (P.info? e).map (fun i => (i.zero, i.size, i.bytes)) = some (some z, size, bytes))
    (hzs : z.cells.size = size) (hsz : 0 < size) {v : Value} {n : Nat} {xs : List Value} (hs : a.eval s = v) (hown : w.ownsRow base e size v n xs)
    (news : List Value) (H : Nat) {te : TypeId} (hk : Blk w H news.toArray te) (hx : a.eval x = .slice (some ⟨H, 0, none⟩) 1 1) (hl : news.length = size) (h1 : ∀ u ∈ news, u.oneCell' = true)
    (h63 : n + 1 ≤ maxLen) (hbytes : (n + 1) * bytes ≤ 140737488355328) (hbase : base ≤ w.heap.size)
    (h : ∀ g cap w', w'.ownsRow base e size (.slice (some ⟨g, 0, none⟩) (n + 1) cap) (n + 1) (xs ++ news) → w.grownBy w' v.ownBlock → base ≤ g → g < w'.heap.size → (v.ownBlock = some g ∨ w.heap.size ≤ g) → K (.slice (some ⟨g, 0, none⟩) (n + 1) cap) w') : gives P o a w K := by
  obtain ⟨i, hi0, hz, hsize, hby⟩ := info_parts hi
  obtain ⟨v', w', hr, h2, h3, h4, h5⟩ := run_append_own_at (P := P) w base t ty e i z size bytes ht hi0 hz hsize hby hzs hsz v n xs hown ⟨H, 0, none⟩ 1 1 news (by omega) (cells_news hk) h1 h63 hbytes hbase
  have h0 := h2
  obtain ⟨hl', ⟨rfl, hn⟩ | ⟨g', cap', cur, rfl, hg, hh, _⟩⟩ := h2
  · omega
  · refine gives_append2 s x t ho hty hs hx hr (h g' cap' w' h0 h3 hg (Array.getElem?_eq_some_iff.1 hh).1 ?_)
    rcases h5 with h5 | h5
    · exact .inl h5.symm
    · right
      have := Option.some.inj h5
      simp at this
      omega
/-- What holds of what has come up in region 17. -/
structure StJ (g B : Nat) (w0 : World) (ok k1 k2 : Bool) (v1 v2 : Value) (ft : TypeId) (rc : Array Value) (l : Nat → Bool) (V : Nat → Value) (w : World) : Prop where
  t : BelG g B w0 w
  k : CalB w g (if l 17 then k2 else if l 16 then k1 else ok)
  c1 : l 16 = true → V 16 = v1
  c2 : l 17 = true → V 17 = v2
  a : l 18 = true → VarI B w (V 18) ft 2 (l 19) rc
/-- What holds of what has come up in region 18. -/
structure StK (g B : Nat) (w0 : World) (ok k1 k2 k3 : Bool) (v1 v2 v3 : Value) (ft : TypeId) (rc : Array Value) (l : Nat → Bool) (V : Nat → Value) (w : World) : Prop where
  t : BelG g B w0 w
  k : CalB w g (if l 10 then k3 else if l 9 then k2 else if l 8 then k1 else ok)
  c1 : l 8 = true → V 8 = v1
  c2 : l 9 = true → V 9 = v2
  c3 : l 10 = true → V 10 = v3
  a : l 11 = true → VarI B w (V 11) ft 2 (l 12) rc

end Go.Proofs.YtfkclcoipadhmaaGreatDoor
