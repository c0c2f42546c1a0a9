/- For the walk of grade.Pattern.solve: its memory, and the marks of its ranges over the iterator. -/
import Derived.Test.YtmknengmjepdaaaIb
import Derived.Test.YtmknengmjepdaaaRr
namespace Go.Proofs.Ytmknengmjepdaaa
open Go.RowKit Go.Shelf

/-- The mark of one range over the iterator. -/
def mkD (D : Nat) : Deferred := { target := .collected D, args := #[] }
structure Mks (Ds : List Nat) (W : World) : Prop where
  nd : Ds.Nodup
  all : ∀ D ∈ Ds, W.heap[D]? = some (.deferred (some []))
theorem Mks.lt {Ds : List Nat} {W : World} (h : Mks Ds W) {D : Nat} (hD : D ∈ Ds) : D < W.heap.size := (Array.getElem?_eq_some_iff.1 (h.all D hD)).1
theorem Mks.not {Ds : List Nat} {W : World} (h : Mks Ds W) {b : Nat} {cs : Array Value} {t : TypeId} (k : Blk W b cs t) : b ∉ Ds := by
  intro hb
  have h1 := h.all b hb
  rw [show W.heap[b]? = _ from k] at h1
  cases h1
theorem Mks.of {Ds : List Nat} {W W' : World} (h : Mks Ds W) (hb : ∀ D ∈ Ds, W'.heap[D]? = W.heap[D]?) : Mks Ds W' := ⟨h.nd, fun D hD => (hb D hD).trans (h.all D hD)⟩
theorem Mks.below {Ds : List Nat} {W W' : World} (h : Mks Ds W) (hb : Below W.heap.size W W') : Mks Ds W' := h.of fun D hD => hb.block D (h.lt hD)
theorem Mks.set {Ds : List Nat} {W : World} (h : Mks Ds W) {b : Nat} {cs : Array Value} {t : TypeId} (k : Blk W b cs t) (j : Nat) (u : Value) : Mks Ds (W.setCell ⟨b, j, none⟩ u) :=
  h.of fun D hD => Below.heap_setCell W ⟨b, j, none⟩ u D (fun e => h.not k (by have e2 : D = b := e; rw [← e2]; exact hD))

/-- The marks' blocks have been shut; nothing else has changed. -/
structure Shut (Ds : List Nat) (W W' : World) : Prop where
  os : W'.os = W.os
  tape : W'.tape = W.tape
  output : W'.output = W.output
  size : W'.heap.size = W.heap.size
  block : ∀ k, k ∉ Ds → W'.heap[k]? = W.heap[k]?
theorem Shut.below {Ds : List Nat} {W W' : World} {S : Nat} (h : Shut Ds W W') (hs : ∀ D ∈ Ds, S ≤ D) : Below S W W' :=
  ⟨h.os, h.tape, h.output, Nat.le_of_eq h.size.symm, fun k hk => h.block k (fun hm => by have := hs k hm; omega)⟩
theorem Shut.blk {Ds : List Nat} {W W' : World} (h : Shut Ds W W') (hm : Mks Ds W) {b : Nat} {cs : Array Value} {t : TypeId} (k : Blk W b cs t) : Blk W' b cs t := (h.block b (hm.not k)).trans k

theorem leaves_marks {F : Fence} {n : Nat} {P : Program} {fn : Func} {tmps : Array Value} {R : Ending → World → Prop} : ∀ (Ds : List Nat) (W : World), Mks Ds W →
    (∀ W', Shut Ds W W' → ∃ v, (results fn tmps).run P W' = .ok v W' ∧ R (.returned v) W') → LeavesInM F n P fn tmps R (Ds.map mkD) .returning W
  | [], W, _, h => h W ⟨rfl, rfl, rfl, rfl, fun _ _ => rfl⟩
  | D :: Ds, W, hm, h => by
    obtain ⟨hnot, hnd⟩ := List.nodup_cons.1 hm.nd
    refine ⟨by simp, .inl ⟨D, W.putObj D (.deferred none), rfl, run_takeDeferred (hm.all D (List.mem_cons_self ..)), leaves_marks Ds _ ⟨hnd, fun D' hD' => ?_⟩ fun W' hs => h W' ?_⟩⟩
    · have hne : D' ≠ D := fun e => hnot (by rw [← e]; exact hD')
      rw [World.putObj_heap_other hne]
      exact hm.all D' (List.mem_cons_of_mem _ hD')
    · refine ⟨hs.os, hs.tape, hs.output, hs.size.trans World.putObj_size, fun k hk => ?_⟩
      have h1 : k ∉ Ds := fun hh => hk (List.mem_cons_of_mem _ hh)
      have h2 : k ≠ D := fun e => hk (by rw [e]; exact List.mem_cons_self ..)
      rw [hs.block k h1, World.putObj_heap_other h2]

/-- solve's own memory. -/
structure So (W : World) (S N : Nat) (pa : Array Value) (n d : Int) (st : BSt) : Prop where
  kp : Blk W S pa 33
  ks : Blk W (S + 1) #[.int .i64 n, .int .i64 d] 26
  kxb : Blk W (S + 1 + 1) #[.slice (some ⟨S + 1 + 1 + 1, 0, none⟩) N N] 49
  kx : Blk W (S + 1 + 1 + 1) (rowArr N st.x) 3
  kb : Blk W (S + 1 + 1 + 1 + 1) (rowArr N st.by_) 3
  kbb : Blk W (S + 1 + 1 + 1 + 1 + 1) #[.slice (some ⟨S + 1 + 1 + 1 + 1, 0, none⟩) N N] 49
  kl : Blk W (S + 1 + 1 + 1 + 1 + 1 + 1) #[.int .i64 st.last] 3
section
variable {W W' : World} {S N : Nat} {pa : Array Value} {n d : Int} {st : BSt}
theorem So.of (h : So W S N pa n d st) (hb : ∀ b cs t, Blk W b cs t → S ≤ b → b < S + 7 → Blk W' b cs t) : So W' S N pa n d st :=
  ⟨hb _ _ _ h.kp (by omega) (by omega), hb _ _ _ h.ks (by omega) (by omega), hb _ _ _ h.kxb (by omega) (by omega), hb _ _ _ h.kx (by omega) (by omega), hb _ _ _ h.kb (by omega) (by omega), hb _ _ _ h.kbb (by omega) (by omega), hb _ _ _ h.kl (by omega) (by omega)⟩
theorem So.below (h : So W S N pa n d st) (hb : Below W.heap.size W W') : So W' S N pa n d st := h.of fun _ _ _ k _ _ => k.below hb
theorem So.alloc (h : So W S N pa n d st) (o : Obj) : So (W.alloc o) S N pa n d st := h.of fun _ _ _ k _ _ => k.alloc o
theorem So.lt (h : So W S N pa n d st) : S + 7 ≤ W.heap.size := by have := h.kl.lt; omega
theorem So.setLast (h : So W S N pa n d st) (z : Int) : So (W.setCell ⟨S + 1 + 1 + 1 + 1 + 1 + 1, 0, none⟩ (.int .i64 z)) S N pa n d ⟨st.x, st.by_, z⟩ :=
  ⟨h.kp.other (by simp <;> omega) _, h.ks.other (by simp <;> omega) _, h.kxb.other (by simp <;> omega) _, h.kx.other (by simp <;> omega) _, h.kb.other (by simp <;> omega) _, h.kbb.other (by simp) _, h.kl.set 0 _⟩
theorem So.setX (h : So W S N pa n d st) (a : Nat) (z : Int) : So (W.setCell ⟨S + 1 + 1 + 1, a, none⟩ (.int .i64 z)) S N pa n d ⟨updF st.x a z, st.by_, st.last⟩ := by
  refine ⟨h.kp.other (by simp <;> omega) _, h.ks.other (by simp <;> omega) _, h.kxb.other (by simp) _, ?_, h.kb.other (by simp) _, h.kbb.other (by simp <;> omega) _, h.kl.other (by simp <;> omega) _⟩
  have := h.kx.set a (.int .i64 z)
  rw [rowArr_set] at this
  exact this
theorem So.setB (h : So W S N pa n d st) (a : Nat) (z : Int) : So (W.setCell ⟨S + 1 + 1 + 1 + 1, a, none⟩ (.int .i64 z)) S N pa n d ⟨st.x, updF st.by_ a z, st.last⟩ := by
  refine ⟨h.kp.other (by simp <;> omega) _, h.ks.other (by simp <;> omega) _, h.kxb.other (by simp <;> omega) _, h.kx.other (by simp) _, ?_, h.kbb.other (by simp) _, h.kl.other (by simp <;> omega) _⟩
  have := h.kb.set a (.int .i64 z)
  rw [rowArr_set] at this
  exact this
end

theorem blk_own {W W' : World} {row : Option Nat} {b : Nat} {cs : Array Value} {t : TypeId} (h : Blk W b cs t) (hg : W.grownBy W' row) (hr : ∀ r, row = some r → ∃ o : Obj, W.heap[r]? = some o ∧ o.isCells = false) : Blk W' b cs t := by
  refine (hg.block b h.lt (fun e => ?_)).trans h
  obtain ⟨o, ho, hc⟩ := hr b e.symm
  rw [show W.heap[b]? = _ from h] at ho
  cases ho
  cases hc
theorem keeps_of_below {W W' : World} (hb : Below W.heap.size W W') : KeepsOthers W W' := ⟨hb.size, fun k _ hk _ => (hb.block k (Array.getElem?_eq_some_iff.1 hk).1).trans hk⟩

/-- The state behind the rules that have come. -/
def Rel (p : Pat) (n d : Int) (st : BSt) (pre : List (Ent p)) : BSt := (pre.map (·.1)).foldl (relax n d) ⟨st.x, st.by_, -1⟩
theorem Rel_snoc (p : Pat) (n d : Int) (st : BSt) (pre : List (Ent p)) (x : Ent p) : Rel p n d st (pre ++ [x]) = relax n d (Rel p n d st pre) x.1 := by
  unfold Rel; rw [List.map_append, List.foldl_append]; rfl
/-- What lies in memory while the rules come; W0: the world in which the range began. -/
def SoI (p : Pat) (W0 w : World) (S N : Nat) (pa : Array Value) (n d : Int) (st : BSt) (Ds : List Nat) (pre : List (Ent p)) (W : World) : Prop :=
  So W S N pa n d (Rel p n d st pre) ∧ (Mks Ds W ∧ ∀ D ∈ Ds, D < W0.heap.size) ∧ Below S w W ∧ W0.heap.size ≤ W.heap.size
theorem SoI_own (p : Pat) (W0 w : World) (S N : Nat) (pa : Array Value) (n d : Int) (st : BSt) (Ds : List Nat) (hS : S ≤ W0.heap.size) : OwnFrom W0.heap.size (SoI p W0 w S N pa n d st Ds) := by
  rintro pre W W' row ⟨h1, ⟨h2, h2'⟩, h3, h4⟩ hg hr
  refine ⟨h1.of fun b cs t k _ _ => blk_own k hg (fun r e => (hr r e).2), ⟨h2.of fun D hD => ?_, h2'⟩, ?_, Nat.le_trans h4 hg.size⟩
  · refine hg.block D (h2.lt hD) (fun e => ?_)
    have := (hr D e.symm).1
    have := h2' D hD
    omega
  · refine h3.trans ⟨hg.os, hg.tape, hg.output, hg.size, fun k hk => hg.block k (by omega) (fun e => ?_)⟩
    have := (hr k e.symm).1
    omega

end Go.Proofs.Ytmknengmjepdaaa
