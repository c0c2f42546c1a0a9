/- For the walk of Load: the marks of its ranges over the iterator; what a range keeps. -/
import Derived.Test.YtcpefolhohakmaaV7
namespace Go.Proofs.Ytcpefolhohakmaa
open Go.RowKit Go.Shelf

/-- The mark of one range over the iterator. -/
def mkD (D : Nat) : Deferred := { target := .collected D, args := #[] }
structure Mks (Ds : List Nat) (W : World) : Prop where
  nd : Ds.Nodup
  all : ∀ D ∈ Ds, W.heap[D]? = some (.deferred (some []))
theorem Mks.lt {Ds : List Nat} {W : World} (h : Mks Ds W) {D : Nat} (hD : D ∈ Ds) : D < W.heap.size := (Array.getElem?_eq_some_iff.1 (h.all D hD)).1
theorem Mks.not {Ds : List Nat} {W : World} (h : Mks Ds W) {b : Nat} {cs : Array Value} {t : TypeId} (k : Blk W b cs t) : b ∉ Ds := by
  intro hb
  have h1 := h.all b hb
  rw [show W.heap[b]? = _ from k] at h1
  cases h1
theorem Mks.of {Ds : List Nat} {W W' : World} (h : Mks Ds W) (hb : ∀ D ∈ Ds, W'.heap[D]? = W.heap[D]?) : Mks Ds W' := ⟨h.nd, fun D hD => (hb D hD).trans (h.all D hD)⟩
theorem Mks.below {Ds : List Nat} {W W' : World} (h : Mks Ds W) (hb : Below W.heap.size W W') : Mks Ds W' := h.of fun D hD => hb.block D (h.lt hD)
theorem Mks.set {Ds : List Nat} {W : World} (h : Mks Ds W) {b : Nat} {cs : Array Value} {t : TypeId} (k : Blk W b cs t) (j : Nat) (u : Value) : Mks Ds (W.setCell ⟨b, j, none⟩ u) :=
  h.of fun D hD => Below.heap_setCell W ⟨b, j, none⟩ u D (fun e => h.not k (by have e2 : D = b := e; rw [← e2]; exact hD))

/-- The marks' blocks have been shut; nothing else has changed. -/
structure Shut (Ds : List Nat) (W W' : World) : Prop where
  os : W'.os = W.os
  tape : W'.tape = W.tape
  output : W'.output = W.output
  size : W'.heap.size = W.heap.size
  block : ∀ k, k ∉ Ds → W'.heap[k]? = W.heap[k]?
theorem Shut.below {Ds : List Nat} {W W' : World} {S : Nat} (h : Shut Ds W W') (hs : ∀ D ∈ Ds, S ≤ D) : Below S W W' :=
  ⟨h.os, h.tape, h.output, Nat.le_of_eq h.size.symm, fun k hk => h.block k (fun hm => by have := hs k hm; omega)⟩
theorem Shut.blk {Ds : List Nat} {W W' : World} (h : Shut Ds W W') (hm : Mks Ds W) {b : Nat} {cs : Array Value} {t : TypeId} (k : Blk W b cs t) : Blk W' b cs t := (h.block b (hm.not k)).trans k

theorem leaves_marks {F : Fence} {n : Nat} {P : Program} {fn : Func} {tmps : Array Value} {R : Ending → World → Prop} : ∀ (Ds : List Nat) (W : World), Mks Ds W →
    (∀ W', Shut Ds W W' → ∃ v, (results fn tmps).run P W' = .ok v W' ∧ R (.returned v) W') → LeavesInM F n P fn tmps R (Ds.map mkD) .returning W
  | [], W, _, h => h W ⟨rfl, rfl, rfl, rfl, fun _ _ => rfl⟩
  | D :: Ds, W, hm, h => by
    obtain ⟨hnot, hnd⟩ := List.nodup_cons.1 hm.nd
    refine ⟨by simp, .inl ⟨D, W.putObj D (.deferred none), rfl, run_takeDeferred (hm.all D (List.mem_cons_self ..)), leaves_marks Ds _ ⟨hnd, fun D' hD' => ?_⟩ fun W' hs => h W' ?_⟩⟩
    · have hne : D' ≠ D := fun e => hnot (by rw [← e]; exact hD')
      rw [World.putObj_heap_other hne]
      exact hm.all D' (List.mem_cons_of_mem _ hD')
    · refine ⟨hs.os, hs.tape, hs.output, hs.size.trans World.putObj_size, fun k hk => ?_⟩
      have h1 : k ∉ Ds := fun hh => hk (List.mem_cons_of_mem _ hh)
      have h2 : k ≠ D := fun e => hk (by rw [e]; exact List.mem_cons_self ..)
      rw [hs.block k h1, World.putObj_heap_other h2]

theorem blk_own {W W' : World} {row : Option Nat} {b : Nat} {cs : Array Value} {t : TypeId} (h : Blk W b cs t) (hg : W.grownBy W' row) (hr : ∀ r, row = some r → ∃ o : Obj, W.heap[r]? = some o ∧ o.isCells = false) : Blk W' b cs t := by
  refine (hg.block b h.lt (fun e => ?_)).trans h
  obtain ⟨o, ho, hc⟩ := hr b e.symm
  rw [show W.heap[b]? = _ from h] at ho
  cases ho
  cases hc
theorem keeps_of_below {W W' : World} (hb : Below W.heap.size W W') : KeepsOthers W W' := ⟨hb.size, fun k _ hk _ => (hb.block k (Array.getElem?_eq_some_iff.1 hk).1).trans hk⟩

theorem owns_own {W W' : World} {row : Option Nat} {base : Nat} {e : TypeId} {size : Nat} {v : Value} {n : Nat} {xs : List Value} (h : W.ownsRow base e size v n xs) (hg : W.grownBy W' row) (hr : ∀ r, row = some r → ∃ o : Obj, W.heap[r]? = some o ∧ o.isCells = false) : W'.ownsRow base e size v n xs := by
  obtain ⟨h1, h2 | ⟨g, cap, cur, rfl, hb, hh, hx⟩⟩ := h
  · exact ⟨h1, .inl h2⟩
  · exact ⟨h1, .inr ⟨g, cap, cur, rfl, hb, blk_own (show Blk W g cur e from hh) hg hr, hx⟩⟩
theorem trsO_own {W W' : World} {row : Option Nat} {lo : Nat} {vs : List Value} {ps : List (List Tr)} (h : TrsO lo W vs ps) (hg : W.grownBy W' row) (hr : ∀ r, row = some r → ∃ o : Obj, W.heap[r]? = some o ∧ o.isCells = false) : TrsO lo W' vs ps :=
  ⟨h.1, fun i hi => owns_own (h.2 i hi) hg hr⟩
/-- A book and its posts, in memory of the call's own. -/
structure BkR (lo : Nat) (w : World) (gb : Nat) (c : List Int) (ch : Nat → Int) (vp : Value) (vs : List Value) (ps : List (List Tr)) : Prop where
  blk : BkB w gb c ch vp
  posts : w.ownsRow lo 62 1 vp ps.length vs
  trs : TrsO lo w vs ps
  lo : lo ≤ gb
section
variable {lo : Nat} {w w' : World} {gb : Nat} {c : List Int} {ch : Nat → Int} {vp : Value} {vs : List Value} {ps : List (List Tr)}
theorem BkR.below (h : BkR lo w gb c ch vp vs ps) (k : Below w.heap.size w w') : BkR lo w' gb c ch vp vs ps := ⟨h.blk.below k, owns_below h.posts k, h.trs.below k, h.lo⟩
theorem BkR.own {row : Option Nat} (h : BkR lo w gb c ch vp vs ps) (hg : w.grownBy w' row) (hr : ∀ r, row = some r → ∃ o : Obj, w.heap[r]? = some o ∧ o.isCells = false) : BkR lo w' gb c ch vp vs ps :=
  ⟨blk_own h.blk hg hr, owns_own h.posts hg hr, trsO_own h.trs hg hr, h.lo⟩
theorem BkR.keep {S : Nat → Prop} (h : BkR lo w gb c ch vp vs ps) (k : Keep S w w') (h1 : S gb) (h2 : ∀ g, vp.ownBlock = some g → S g) (h3 : ∀ i, i < ps.length → ∀ g, (vs.getD i undef).ownBlock = some g → S g) : BkR lo w' gb c ch vp vs ps :=
  ⟨h.blk.keep k h1, k.owns h.posts h2, h.trs.keep k h3, h.lo⟩
end
theorem Mks.keep {Ds : List Nat} {S : Nat → Prop} {W W' : World} (h : Mks Ds W) (k : Keep S W W') (hs : ∀ D ∈ Ds, S D) : Mks Ds W' := h.of fun D hD => k.block D (h.lt hD) (hs D hD)
/-- What lies in memory while the pieces of a post come; W0: the world in which the range began. -/
def LdI (l : List Tr) (m : Nat) (W0 w : World) (gl gb : Nat) (c : List Int) (ch : Nat → Int) (vp : Value) (vs : List Value) (ps : List (List Tr)) (Ds : List Nat) (pre : List (Ek m)) (W : World) : Prop :=
  (∃ vl, Blk W gl #[vl] 62 ∧ W.ownsRow W0.heap.size 103 4 vl pre.length (trsC (pre.map fun x => l.getD x.k ⟨0, 0, 0, 0⟩))) ∧ BkR w.heap.size W gb c ch vp vs ps ∧ (Mks Ds W ∧ ∀ D ∈ Ds, D < W0.heap.size) ∧ Below w.heap.size w W ∧ W0.heap.size ≤ W.heap.size
theorem LdI_own (l : List Tr) (m : Nat) (W0 w : World) (gl gb : Nat) (c : List Int) (ch : Nat → Int) (vp : Value) (vs : List Value) (ps : List (List Tr)) (Ds : List Nat) (hS : w.heap.size ≤ W0.heap.size) : OwnFrom W0.heap.size (LdI l m W0 w gl gb c ch vp vs ps Ds) := by
  rintro pre W W' row ⟨⟨vl, h1, h1'⟩, h0, ⟨h2, h2'⟩, h3, h4⟩ hg hr
  have hr' : ∀ r, row = some r → ∃ o : Obj, W.heap[r]? = some o ∧ o.isCells = false := fun r e => (hr r e).2
  refine ⟨⟨vl, blk_own h1 hg hr', owns_own h1' hg hr'⟩, h0.own hg hr', ⟨h2.of fun D hD => ?_, h2'⟩, ?_, Nat.le_trans h4 hg.size⟩
  · refine hg.block D (h2.lt hD) (fun e => ?_)
    have := (hr D e.symm).1
    have := h2' D hD
    omega
  · refine h3.trans ⟨hg.os, hg.tape, hg.output, hg.size, fun k hk => hg.block k (Nat.lt_of_lt_of_le hk h3.size) (fun e => ?_)⟩
    have := (hr k e.symm).1
    omega

end Go.Proofs.Ytcpefolhohakmaa
