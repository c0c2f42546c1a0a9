/- Frames by sets of blocks; whole arrays of the call's own; rows of rows. -/
import Derived.Test.YtcpefolhohakmaaH3
import Derived.Test.YtcpefolhohakmaaRq
namespace Go.Proofs.Ytcpefolhohakmaa
open Go.RowKit

/-- The blocks of S are as they were; the streams too; no block has gone. -/
structure Keep (S : Nat → Prop) (w w' : World) : Prop where
  os : w'.os = w.os
  tape : w'.tape = w.tape
  output : w'.output = w.output
  size : w.heap.size ≤ w'.heap.size
  block : ∀ k, k < w.heap.size → S k → w'.heap[k]? = w.heap[k]?
theorem Keep.refl (S : Nat → Prop) (w : World) : Keep S w w := ⟨rfl, rfl, rfl, Nat.le_refl _, fun _ _ _ => rfl⟩
theorem Keep.trans {S : Nat → Prop} {a b c : World} (h : Keep S a b) (k : Keep S b c) : Keep S a c :=
  ⟨k.os.trans h.os, k.tape.trans h.tape, k.output.trans h.output, Nat.le_trans h.size k.size, fun i hi hs => (k.block i (Nat.lt_of_lt_of_le hi h.size) hs).trans (h.block i hi hs)⟩
theorem keep_pre (S : Nat → Prop) : Pre (Keep S) := ⟨fun _ => Keep.refl _ _, fun h k => h.trans k⟩
theorem Keep.mono {S S' : Nat → Prop} {a b : World} (h : Keep S a b) (hs : ∀ k, k < a.heap.size → S' k → S k) : Keep S' a b :=
  ⟨h.os, h.tape, h.output, h.size, fun k hk hk' => h.block k hk (hs k hk hk')⟩
theorem Keep.of_below {S : Nat → Prop} {a b : World} (h : Below a.heap.size a b) : Keep S a b := ⟨h.os, h.tape, h.output, h.size, fun k hk _ => h.block k hk⟩
theorem Keep.below {S : Nat → Prop} {a b : World} (h : Keep S a b) {B : Nat} (hB : B ≤ a.heap.size) (hs : ∀ k, k < B → S k) : Below B a b := ⟨h.os, h.tape, h.output, h.size, fun k hk => h.block k (by omega) (hs k hk)⟩
theorem Keep.of_below' {S : Nat → Prop} {B : Nat} {a b : World} (h : Below B a b) (hs : ∀ k, k < a.heap.size → S k → k < B) : Keep S a b := ⟨h.os, h.tape, h.output, h.size, fun k hk hk' => h.block k (hs k hk hk')⟩
theorem Keep.drew (S : Nat → Prop) (a : World) : Keep S a a.drew := ⟨rfl, rfl, rfl, Nat.le_refl _, fun _ _ _ => rfl⟩
theorem Keep.alloc (S : Nat → Prop) (a : World) (o : Obj) : Keep S a (a.alloc o) := ⟨rfl, rfl, rfl, by simp, fun k hk _ => Below.heap_alloc a o k hk⟩
theorem Keep.set {S : Nat → Prop} (a : World) {p : Addr} (hp : ¬ S p.block) (u : Value) : Keep S a (a.setCell p u) := ⟨rfl, rfl, rfl, by simp [World.setCell], fun k _ hs => Below.heap_setCell a p u k (fun e => hp (by rw [← e]; exact hs))⟩
theorem Keep.row {S : Nat → Prop} (a : World) {g : Nat} (hg : ¬ S g) (cs : Array Value) : Keep S a (a.setRow g cs) := ⟨rfl, rfl, rfl, by rw [row_size]; exact Nat.le_refl _, fun k _ hs => row_other a g cs (fun e => hg (by rw [← e]; exact hs))⟩
theorem Keep.grown {S : Nat → Prop} {a b : World} {row : Option Nat} (h : a.grownBy b row) (hr : ∀ k, row = some k → ¬ S k) : Keep S a b := ⟨h.os, h.tape, h.output, h.size, fun k hk hs => h.block k hk (fun e => hr k e.symm hs)⟩
theorem Keep.blk {S : Nat → Prop} {a b : World} (h : Keep S a b) {g : Nat} {cs : Array Value} {t : TypeId} (k : Blk a g cs t) (hg : S g) : Blk b g cs t := (h.block g k.lt hg).trans k
theorem Keep.cell {S : Nat → Prop} {a b : World} (h : Keep S a b) {p : Addr} (hl : p.block < a.heap.size) (hp : S p.block) : b.cell? p = a.cell? p := World.cell?_of_block (h.block _ hl hp)
theorem Keep.owns {S : Nat → Prop} {a b : World} (h : Keep S a b) {base : Nat} {e : TypeId} {size : Nat} {v : Value} {n : Nat} {xs : List Value} (k : a.ownsRow base e size v n xs) (hv : ∀ g, v.ownBlock = some g → S g) : b.ownsRow base e size v n xs := by
  obtain ⟨h1, h2 | ⟨g, cap, cur, rfl, hg, hh, hr⟩⟩ := k
  · exact ⟨h1, .inl h2⟩
  · exact ⟨h1, .inr ⟨g, cap, cur, rfl, hg, (h.block g (Array.getElem?_eq_some_iff.1 hh).1 (hv g rfl)).trans hh, hr⟩⟩

/-- A slice whose cells lie in a block of S. -/
def SlS (S : Nat → Prop) (w : World) (v : Value) (n : Nat) (xs : List Value) : Prop :=
  ∃ ao cap, v = .slice ao n cap ∧ n ≤ cap ∧ cap ≤ maxLen ∧ (xs ≠ [] → ∃ b off, ao = some ⟨b, off, none⟩ ∧ S b ∧ b < w.heap.size ∧ ∀ j, j < xs.length → w.cell? ⟨b, off + j, none⟩ = some (xs.getD j undef))
theorem SlS.keep {S S' : Nat → Prop} {w w' : World} {v : Value} {n : Nat} {xs : List Value} (h : SlS S w v n xs) (k : Keep S' w w') (hs : ∀ b, b < w.heap.size → S b → S' b) : SlS S w' v n xs := by
  obtain ⟨ao, cap, h1, h2, h3, h4⟩ := h
  refine ⟨ao, cap, h1, h2, h3, fun hx => ?_⟩
  obtain ⟨b, off, g1, g2, g3, g4⟩ := h4 hx
  exact ⟨b, off, g1, g2, Nat.lt_of_lt_of_le g3 k.size, fun j hj => (k.cell (p := ⟨b, off + j, none⟩) g3 (hs b g3 g2)).trans (g4 j hj)⟩
theorem SlS.mono {S S' : Nat → Prop} {w : World} {v : Value} {n : Nat} {xs : List Value} (h : SlS S w v n xs) (hs : ∀ b, b < w.heap.size → S b → S' b) : SlS S' w v n xs := by
  obtain ⟨ao, cap, h1, h2, h3, h4⟩ := h
  refine ⟨ao, cap, h1, h2, h3, fun hx => ?_⟩
  obtain ⟨b, off, g1, g2, g3, g4⟩ := h4 hx
  exact ⟨b, off, g1, hs b g3 g2, g3, g4⟩
theorem SlS.sl {S : Nat → Prop} {w : World} {v : Value} {n : Nat} {xs : List Value} (h : SlS S w v n xs) : SlR 0 w v n xs := by
  obtain ⟨ao, cap, h1, h2, h3, h4⟩ := h
  refine ⟨ao, cap, h1, h2, h3, fun hx => ?_⟩
  obtain ⟨b, off, g1, g2, g3, g4⟩ := h4 hx
  exact ⟨b, off, g1, Nat.zero_le _, g3, g4⟩
theorem SlS.of_sl {S : Nat → Prop} {lo : Nat} {w : World} {v : Value} {n : Nat} {xs : List Value} (h : SlR lo w v n xs) (hs : ∀ b, lo ≤ b → b < w.heap.size → S b) : SlS S w v n xs := by
  obtain ⟨ao, cap, h1, h2, h3, h4⟩ := h
  refine ⟨ao, cap, h1, h2, h3, fun hx => ?_⟩
  obtain ⟨b, off, g1, g2, g3, g4⟩ := h4 hx
  exact ⟨b, off, g1, hs b g2 g3, g3, g4⟩
theorem SlS.nil (S : Nat → Prop) (w : World) : SlS S w (.slice none 0 0) 0 [] := ⟨none, 0, rfl, Nat.le_refl _, Nat.zero_le _, fun h => absurd rfl h⟩

/-- An array of n cells by a function. -/
def arr (n : Nat) (f : Nat → Value) : Array Value := ((List.range n).map f).toArray
theorem arr_size (n : Nat) (f : Nat → Value) : (arr n f).size = n := by simp [arr]
theorem arr_get {n : Nat} (f : Nat → Value) {i : Nat} (hi : i < n) : (arr n f)[i]? = some (f i) := by simp [arr, hi]
theorem arr_set (n : Nat) (f : Nat → Value) (i : Nat) (u : Value) : (arr n f).setIfInBounds i u = arr n (fun j => if j = i then u else f j) := by
  apply Array.ext_getElem?
  intro j
  rw [Array.getElem?_setIfInBounds]
  by_cases hj : j < n
  · rw [arr_get _ hj, arr_get _ hj, arr_size]
    by_cases e : i = j
    · subst e; simp [hj]
    · rw [if_neg e, if_neg (fun h => e h.symm)]
  · have h1 : (arr n f)[j]? = none := by rw [Array.getElem?_eq_none]; rw [arr_size]; omega
    have h2 : (arr n (fun j => if j = i then u else f j))[j]? = none := by rw [Array.getElem?_eq_none]; rw [arr_size]; omega
    rw [h1, h2, arr_size]
    split
    · rw [if_neg (by omega)]
    · rfl
theorem arr_congr {n : Nat} {f f' : Nat → Value} (h : ∀ i, i < n → f i = f' i) : arr n f = arr n f' := by
  unfold arr
  congr 1
  apply List.map_congr_left
  intro i hi
  exact h i (List.mem_range.1 hi)
theorem arr_replicate (n : Nat) (z : Value) : arr n (fun _ => z) = (List.replicate n z).toArray := by
  unfold arr
  congr 1
  apply List.ext_getElem?
  intro i
  simp [List.getElem?_replicate]
  split <;> simp_all
theorem Blk.arr_look {w : World} {g n : Nat} {f : Nat → Value} {t : TypeId} (h : Blk w g (arr n f) t) {i : Nat} (hi : i < n) : w.cell? ⟨g, i, none⟩ = some (f i) := h.look i (arr_get f hi)
theorem Blk.arr_set {w : World} {g n : Nat} {f : Nat → Value} {t : TypeId} (h : Blk w g (arr n f) t) (i : Nat) (u : Value) : Blk (w.setCell ⟨g, i, none⟩ u) g (arr n (fun j => if j = i then u else f j)) t := by
  have := h.set i u
  rw [Go.Proofs.Ytcpefolhohakmaa.arr_set] at this
  exact this
/-- What make([]T, n) makes, as a block. -/
theorem owns_arr {w : World} {base : Nat} {e : TypeId} {g n : Nat} {z : Value} (h : w.ownsRow base e 1 (.slice (some ⟨g, 0, none⟩) n n) n (List.replicate n z)) : Blk w g (arr n fun _ => z) e := by
  obtain ⟨_, ⟨h1, _⟩ | ⟨g', cap, cur, h1, h2, h3, h4, h5, h6, h7⟩⟩ := h
  · cases h1
  · cases h1
    have : cur = (List.replicate n z).toArray := by
      apply Array.toList_inj.1
      rw [← h7, List.take_of_length_le]
      rw [Array.length_toList, h6]; omega
    rw [arr_replicate, ← this]; exact h3
theorem blk_owns {w : World} {base : Nat} {e : TypeId} {g n : Nat} {f : Nat → Value} (h : Blk w g (arr n f) e) (hb : base ≤ g) (hn : n ≤ maxLen) : w.ownsRow base e 1 (.slice (some ⟨g, 0, none⟩) n n) n ((List.range n).map f) :=
  ⟨by simp, .inr ⟨g, n, arr n f, rfl, hb, h, Nat.le_refl _, hn, by rw [arr_size]; omega, by rw [arr, Nat.mul_one, List.take_of_length_le (by simp)]⟩⟩
theorem blk_sl {w : World} {e : TypeId} {g n : Nat} {f : Nat → Value} (h : Blk w g (arr n f) e) (hn : n ≤ maxLen) : SlR g w (.slice (some ⟨g, 0, none⟩) n n) n ((List.range n).map f) := .of_owns (blk_owns h (Nat.le_refl _) hn)

theorem made_arr {z : Value} (hz : z.cells = #[z]) (n : Nat) : madeCells z.cells (n * 1) = arr n (fun _ => z) := by
  rw [hz, Nat.mul_one, arr_replicate]
  apply Array.toList_inj.1
  rw [toList_madeCells_one]
theorem run_mka {P : Program} (w : World) (t e : TypeId) {z : Value} {bytes : Nat} (ht : P.underlying t = some (.slice e)) (hi : (P.info? e).map (fun i => (i.zero, i.size, i.bytes)) = some (some z, 1, bytes)) (hz : z.cells = #[z])
    (kl kc : IntKind) (n : Nat) (b2 : bytes * n ≤ 281474976710656) (b3 : n ≤ 9223372036854775807) :
    (Instr.makeSlice t (.int kl (n : Int)) (.int kc (n : Int))).run P w = .ok (.slice (some ⟨w.heap.size, 0, none⟩) n n) (w.alloc (.cells (arr n fun _ => z) e)) := by
  obtain ⟨i, hi0, hz0, hsize, hby⟩ := info_parts hi
  have hb' : (i.bytes : Int) * (n : Int) ≤ 281474976710656 := by
    have h : ((i.bytes * n : Nat) : Int) ≤ 281474976710656 := by rw [hby]; omega
    rwa [Int.natCast_mul] at h
  have hr := run_make (P := P) w t e i z ht hi0 hz0 kl kc n n (by omega) (Int.le_refl _) hb' (by omega)
  simp only [Int.toNat_natCast, hsize] at hr
  rw [made_arr hz] at hr
  exact hr
theorem wpList_mka {P : Program} {w : World} {ops : Array Oper} {rest : List Oper} {o : Oper} {a : Act} {Q : Exit → Act → World → Prop} (hgd : o.guard = none) (l c : Operand) (t : TypeId) (ho : o.op = Op.makeSlice t l c)
    (e : TypeId) (z : Value) (bytes : Nat) (ht : P.underlying t = some (.slice e)) (hi : (P.info? e).map (fun i => (i.zero, i.size, i.bytes)) = some (some z, 1, bytes)) (hz : z.cells = #[z])
    (kl kc : IntKind) (n : Nat) (hl : a.eval l = .int kl (n : Int)) (hc : a.eval c = .int kc (n : Int)) (b2 : bytes * n ≤ 281474976710656) (b3 : n ≤ 9223372036854775807)
    (h : ∀ w', Blk w' w.heap.size (arr n fun _ => z) e → Below w.heap.size w w' → w'.heap.size = w.heap.size + 1 → wpList P ops Q rest (a.put o.dst (.slice (some ⟨w.heap.size, 0, none⟩) n n)) w') : wpList P ops Q (o :: rest) a w := by
  refine wpList_plain hgd fun K hK' => ?_
  have hr := run_mka (P := P) w t e ht hi hz kl kc n b2 b3
  unfold Oper.wp
  simp [execOp, ho, hl, hc, hr, Result.andThen]
  exact hK' _ _ (h _ (Blk.new w _ _) (alloc_below w _) (by simp))
theorem gives_mka {P : Program} {o : Oper} {a : Act} {w : World} {K : Value → World → Prop} (l c : Operand) (t : TypeId) (ho : o.op = Op.makeSlice t l c)
    (e : TypeId) (z : Value) (bytes : Nat) (ht : P.underlying t = some (.slice e)) (hi : (P.info? e).map (fun i => (i.zero, i.size, i.bytes)) = some (some z, 1, bytes)) (hz : z.cells = #[z])
    (kl kc : IntKind) (n : Nat) (hl : a.eval l = .int kl (n : Int)) (hc : a.eval c = .int kc (n : Int)) (b2 : bytes * n ≤ 281474976710656) (b3 : n ≤ 9223372036854775807)
    (h : K (.slice (some ⟨w.heap.size, 0, none⟩) n n) (w.alloc (.cells (arr n fun _ => z) e))) : gives P o a w K := by
  have hr := run_mka (P := P) w t e ht hi hz kl kc n b2 b3
  unfold gives execOp
  simp only [ho, hl, hc, Sem.run_bind, Sem.run_pure, hr, Result.andThen_ok, givesUpon]
  exact h

end Go.Proofs.Ytcpefolhohakmaa
