/- For the law's walk: what lies in memory, and what each call leaves of it. -/
import Derived.Test.YtcpefolhohakmaaW4
namespace Go.Proofs.Ytcpefolhohakmaa
open Go.RowKit
attribute [local irreducible] seqS seqST walkV walkJ

/-- Posts as they come in: slices of transfers. -/
def TssR (w : World) (v : Value) (ls : List (Value × List Tr)) : Prop := SlR 0 w v ls.length (ls.map (·.1)) ∧ ∀ x ∈ ls, TsR 0 w x.1 x.2
/-- A round as it comes in. -/
structure Rd where
  v : Value
  ls : List (Value × List Tr)
  pack : Int
  fuse : Int
  k0 : Int
  k1 : Int
def rdC (r : Rd) : List Value := [r.v, .int .i64 r.pack, .int .i64 r.fuse, .int .i64 r.k0, .int .i64 r.k1]
def RdsR (w : World) (v : Value) (rs : List Rd) : Prop := SlR 0 w v rs.length (rs.flatMap rdC) ∧ ∀ r ∈ rs, TssR w r.v r.ls
theorem rdC_get : ∀ (rs : List Rd) (i k : Nat) (r : Rd), rs[i]? = some r → k < 5 → (rs.flatMap rdC)[i * 5 + k]? = (rdC r)[k]?
  | [], i, k, r, h, _ => by simp at h
  | x :: l, 0, k, r, h, hk => by
    obtain rfl : x = r := by simpa using h
    rw [List.flatMap_cons, Nat.zero_mul, Nat.zero_add, List.getElem?_append_left (by show k < 5; exact hk)]
  | x :: l, i + 1, k, r, h, hk => by
    have hl : (rdC x).length = 5 := rfl
    rw [List.flatMap_cons, List.getElem?_append_right (by rw [hl]; omega), hl, show (i + 1) * 5 + k - 5 = i * 5 + k by omega]
    exact rdC_get l i k r (by simpa using h) hk
theorem rdC_len (rs : List Rd) : (rs.flatMap rdC).length = rs.length * 5 := by
  induction rs with
  | nil => rfl
  | cons x l ih => rw [List.flatMap_cons, List.length_append, ih, List.length_cons, show (rdC x).length = 5 from rfl]; omega
theorem rd_cell {w : World} {ao : Option Addr} {n cap : Nat} {rs : List Rd} (h : SlR 0 w (.slice ao n cap) rs.length (rs.flatMap rdC)) {i : Nat} {r : Rd} (hr : rs[i]? = some r) :
    ∃ g off, ao = some ⟨g, off, none⟩ ∧ g < w.heap.size ∧ w.cell? ⟨g, off + i * 5, none⟩ = some r.v ∧ w.cell? ⟨g, off + i * 5 + 1, none⟩ = some (.int .i64 r.pack) ∧ w.cell? ⟨g, off + i * 5 + 2, none⟩ = some (.int .i64 r.fuse) ∧ w.cell? ⟨g, off + i * 5 + 3, none⟩ = some (.int .i64 r.k0) ∧ w.cell? ⟨g, off + i * 5 + 4, none⟩ = some (.int .i64 r.k1) := by
  obtain ⟨ao', cap', e, -, -, hc⟩ := h
  cases e
  have hi := (List.getElem?_eq_some_iff.1 hr).1
  have hl := rdC_len rs
  obtain ⟨g, off, h1, -, h3, h4⟩ := hc (by intro e; rw [e, List.length_nil] at hl; omega)
  have key : ∀ k u, k < 5 → (rdC r)[k]? = some u → w.cell? ⟨g, off + (i * 5 + k), none⟩ = some u := fun k u hk hu => by
    rw [h4 (i * 5 + k) (by omega), List.getD_eq_getElem?_getD, rdC_get rs i k r hr hk, hu]; rfl
  exact ⟨g, off, h1, h3, key 0 _ (by decide) rfl, key 1 _ (by decide) rfl, key 2 _ (by decide) rfl, key 3 _ (by decide) rfl, key 4 _ (by decide) rfl⟩
theorem ts_cell {w : World} {ao : Option Addr} {n cap : Nat} {ls : List (Value × List Tr)} (h : SlR 0 w (.slice ao n cap) ls.length (ls.map (·.1))) {i : Nat} {x : Value × List Tr} (hx : ls[i]? = some x) :
    ∃ g off, ao = some ⟨g, off, none⟩ ∧ g < w.heap.size ∧ w.cell? ⟨g, off + i, none⟩ = some x.1 := by
  obtain ⟨ao', cap', e, -, -, hc⟩ := h
  cases e
  have hi := (List.getElem?_eq_some_iff.1 hx).1
  obtain ⟨g, off, h1, -, h3, h4⟩ := hc (by intro e; have := congrArg List.length e; simp at this; rw [this] at hx; cases hx)
  refine ⟨g, off, h1, h3, ?_⟩
  rw [h4 i (by rw [List.length_map]; exact hi), List.getD_eq_getElem?_getD, List.getElem?_map, hx]; rfl
theorem TssR.below {w w' : World} {v : Value} {ls : List (Value × List Tr)} (h : TssR w v ls) (k : Below w.heap.size w w') : TssR w' v ls := ⟨SlR.below h.1 k, fun x hx => TsR.below (h.2 x hx) k⟩

/-- Bytes that the law holds: they lie apart from the disk. -/
def SuR (lo : Nat) (w : World) (gd : Nat) (v : Nat → Value) (y : Value) (x : Bts) : Prop := w.ownsRow lo 5 1 y x.length (u8V x) ∧ ∀ b, y.ownBlock = some b → ¬ DS gd v b
section
variable {lo : Nat} {w w' : World} {gd : Nat} {v v' : Nat → Value} {y : Value} {x : Bts} {d : Dk}
theorem SuR.below (h : SuR lo w gd v y x) (k : Below w.heap.size w w') : SuR lo w' gd v y x := ⟨owns_below h.1 k, h.2⟩
theorem SuR.bs (h : SuR lo w gd v y x) : BsR w y x := bs_of_owns h.1 rfl
theorem SuR.nil (lo : Nat) (w : World) (gd : Nat) (v : Nat → Value) : SuR lo w gd v (.slice none 0 0) [] := ⟨World.ownsRow_nil _ _ _ _, fun b e => by cases e⟩
theorem SuR.new {w0 : World} (hd : DkR w0 gd v d) (h : w.ownsRow w0.heap.size 5 1 y x.length (u8V x)) (hlo : lo ≤ w0.heap.size) : SuR lo w gd v y x := ⟨owns_low h hlo, fun b e hb => by
  have h1 := (h.lt b e).1
  have h2 := hd.lt hb
  omega⟩
theorem SuR.dkg (h : SuR lo w gd v y x) (k : DkG w w' gd v v') : SuR lo w' gd v' y x := ⟨k.keep.owns h.1 h.2, fun b e hb => by
  rcases k.new b hb with h1 | h1
  · exact h.2 b e h1
  · have := (h.1.lt b e).2; omega⟩
theorem SuR.log {gl : Nat} {g at' : Int} {vs vr vr' : Value} {down : Bool} {rvs : List Value} (h : SuR lo w gd v y x) (hL : LgB w gl gd g at' vs vr down) (hr : RcR lo w vr rvs) (k : LoG w w' gl gd v v' vr vr') : SuR lo w' gd v' y x :=
  ⟨k.keep.owns h.1 (fun b e => ⟨h.2 b e, owns_blk_neT h.1 hL (by decide) b e, fun e2 => by
    obtain ⟨cur, kk⟩ := hr.blk e2
    exact owns_blk_neT h.1 kk (by decide) b e rfl⟩), fun b e hb => by
    rcases k.new b hb with h1 | h1
    · exact h.2 b e h1
    · have := (h.1.lt b e).2; omega⟩
theorem SuR.bk {gb : Nat} {c : List Int} {ch : Nat → Int} {vp vp' : Value} {pvs : List Value} {ps : List (List Tr)} (h : SuR lo w gd v y x) (hb : BkR lo w gb c ch vp pvs ps) (k : BkG w w' gb vp vp') : SuR lo w' gd v y x :=
  ⟨k.keep.owns h.1 (fun b e => ⟨owns_blk_neT h.1 hb.blk (by decide) b e, fun e2 => owns_ne2 h.1 hb.posts (by decide) b e e2⟩), h.2⟩

theorem DkR.nDSo (h : DkR w gd v d) {B : Nat} {e : TypeId} {s n : Nat} {u : Value} {xs : List Value} (k : w.ownsRow B e s u n xs) (h1 : 89 ≠ e) (h2 : 5 ≠ e) : ∀ b, u.ownBlock = some b → ¬ DS gd v b := by
  intro b hb
  obtain ⟨-, ⟨rfl, -⟩ | ⟨g', cap, cur, rfl, -, hh, -⟩⟩ := k
  · cases hb
  · cases hb
    exact h.nDS (show Blk w g' cur e from hh) h1 h2
/-- A book is kept where the disk alone is written. -/
theorem BkR.dkg {gb : Nat} {c : List Int} {ch : Nat → Int} {vp : Value} {pvs : List Value} {ps : List (List Tr)} (h : BkR lo w gb c ch vp pvs ps) (hd : DkR w gd v d) (k : DkG w w' gd v v') : BkR lo w' gb c ch vp pvs ps :=
  h.keep k.keep (hd.nDS h.blk (by decide) (by decide)) (hd.nDSo h.posts (by decide) (by decide)) (fun i hi => hd.nDSo (h.trs.2 i hi) (by decide) (by decide))
theorem BkR.log {gb gl : Nat} {c : List Int} {ch : Nat → Int} {vp : Value} {pvs : List Value} {ps : List (List Tr)} {g at' : Int} {vs vr vr' : Value} {down : Bool} {rvs : List Value} (h : BkR lo w gb c ch vp pvs ps) (hd : DkR w gd v d) (hL : LgB w gl gd g at' vs vr down) (hr : RcR lo w vr rvs) (k : LoG w w' gl gd v v' vr vr') : BkR lo w' gb c ch vp pvs ps := by
  have hrow : ∀ {cs : Array Value} {t : TypeId} {b : Nat}, Blk w b cs t → 48 ≠ t → vr.ownBlock ≠ some b := fun kk ht e => hr.ne_blk kk ht _ e rfl
  have hrowO : ∀ {B : Nat} {e : TypeId} {s n : Nat} {u : Value} {xs : List Value}, w.ownsRow B e s u n xs → 48 ≠ e → ∀ b, u.ownBlock = some b → vr.ownBlock ≠ some b := fun kk ht b hb => by
    obtain ⟨-, ⟨rfl, -⟩ | ⟨g', cap, cur, rfl, -, hh, -⟩⟩ := kk
    · cases hb
    · cases hb
      exact hrow (show Blk w g' cur _ from hh) ht
  exact h.keep k.keep ⟨hd.nDS h.blk (by decide) (by decide), blk_ne h.blk hL (by decide), hrow h.blk (by decide)⟩
    (fun b hb => ⟨hd.nDSo h.posts (by decide) (by decide) b hb, owns_blk_neT h.posts hL (by decide) b hb, hrowO h.posts (by decide) b hb⟩)
    (fun i hi b hb => ⟨hd.nDSo (h.trs.2 i hi) (by decide) (by decide) b hb, owns_blk_neT (h.trs.2 i hi) hL (by decide) b hb, hrowO (h.trs.2 i hi) (by decide) b hb⟩)
/-- Disk and journal are kept where the book alone is written. -/
theorem DkR.bk {gb : Nat} {c : List Int} {ch : Nat → Int} {vp vp' : Value} {pvs : List Value} {ps : List (List Tr)} (h : DkR w gd v d) (hb : BkR lo w gb c ch vp pvs ps) (k : BkG w w' gb vp vp') : DkR w' gd v d :=
  h.keep k.keep (fun b hd => ⟨fun e => h.nDS hb.blk (by decide) (by decide) (by rw [← e]; exact hd), fun e => h.nDSo hb.posts (by decide) (by decide) b e hd⟩)
theorem LgB.bk {gb gl : Nat} {c : List Int} {ch : Nat → Int} {vp vp' : Value} {pvs : List Value} {ps : List (List Tr)} {g at' : Int} {vs vr : Value} {down : Bool} (h : LgB w gl gd g at' vs vr down) (hb : BkR lo w gb c ch vp pvs ps) (k : BkG w w' gb vp vp') : LgB w' gl gd g at' vs vr down :=
  k.keep.blk h ⟨blk_ne h hb.blk (by decide), fun e => owns_blk_neT hb.posts h (by decide) gl e rfl⟩
theorem RcR.bk {gb : Nat} {c : List Int} {ch : Nat → Int} {vp vp' : Value} {pvs : List Value} {ps : List (List Tr)} {vr : Value} {rvs : List Value} (h : RcR lo w vr rvs) (hb : BkR lo w gb c ch vp pvs ps) (k : BkG w w' gb vp vp') : RcR lo w' vr rvs :=
  h.keep k.keep (fun b e => by
    obtain ⟨cur, kk⟩ := h.blk e
    exact ⟨blk_ne kk hb.blk (by decide), fun e2 => owns_blk_neT hb.posts kk (by decide) b e2 rfl⟩)
theorem BkG.bel {gb : Nat} {c : List Int} {ch : Nat → Int} {vp vp' : Value} {pvs : List Value} {ps : List (List Tr)} (hb : BkR lo w gb c ch vp pvs ps) (k : BkG w w' gb vp vp') (hlo : lo ≤ w.heap.size) : Below lo w w' :=
  k.keep.below hlo (fun b hb2 => ⟨fun e => by have := hb.lo; omega, fun e => by have := (hb.posts.lt b e).1; omega⟩)
theorem DkG.bel (k : DkG w w' gd v v') (hd : ∀ b, DS gd v b → lo ≤ b) (hlo : lo ≤ w.heap.size) : Below lo w w' := k.keep.below hlo (fun b hb e => by have := hd b e; omega)
theorem DkG.low (k : DkG w w' gd v v') (hd : ∀ b, DS gd v b → lo ≤ b) (hlo : lo ≤ w.heap.size) : ∀ b, DS gd v' b → lo ≤ b := fun b hb => by
  rcases k.new b hb with h | h
  · exact hd b h
  · omega
theorem LoG.bel {gl : Nat} {vr vr' : Value} {rvs : List Value} (k : LoG w w' gl gd v v' vr vr') (hd : ∀ b, DS gd v b → lo ≤ b) (hgl : lo ≤ gl) (hr : RcR lo w vr rvs) (hlo : lo ≤ w.heap.size) : Below lo w w' :=
  k.keep.below hlo (fun b hb => ⟨fun e => by have := hd b e; omega, fun e => by omega, fun e => by have := hr.lo e; omega⟩)
theorem LoG.low {gl : Nat} {vr vr' : Value} (k : LoG w w' gl gd v v' vr vr') (hd : ∀ b, DS gd v b → lo ≤ b) (hlo : lo ≤ w.heap.size) : ∀ b, DS gd v' b → lo ≤ b := fun b hb => by
  rcases k.new b hb with h | h
  · exact hd b h
  · omega
end
theorem run_ok {ps : List (List Tr)} {c : List Int} (h : run ps = some c) : ∀ l ∈ ps, l.length ≤ 16 ∧ ∀ t ∈ l, t.Ok := by
  intro l hl
  obtain ⟨i, hi, rfl⟩ := List.getElem_of_mem hl
  obtain ⟨d, -, hp, -⟩ := run_take h hi
  rw [List.getD_eq_getElem?_getD, List.getElem?_eq_getElem hi] at hp
  exact ⟨hp.1.2.1, hp.1.2.2⟩
theorem save_of {lo : Nat} {w : World} {gb : Nat} {c : List Int} {ch : Nat → Int} {vp : Value} {pvs : List Value} {ps : List (List Tr)} (h : BkR lo w gb c ch vp pvs ps) (hr : run ps = some c) (hn : ps.length ≤ 900) :
    Calls Try.prog 18 #[.pointer (some ⟨gb, 0, none⟩)] w fun r w' => (∃ v', r = .returned v' ∧ w'.ownsRow w.heap.size 5 1 v' (encB ps).length (u8V (encB ps))) ∧ Below w.heap.size w w' :=
  Save_any gb c ch vp pvs ps lo w h.blk h.posts h.trs (by omega) (run_ok hr)
theorem save_len {ps : List (List Tr)} {c : List Int} (h : run ps = some c) (hn : ps.length ≤ 600) : (encB ps).length ≤ 58200 := by
  have := encB_bound (fun l hl => (run_ok h l hl).1)
  omega

end Go.Proofs.Ytcpefolhohakmaa
