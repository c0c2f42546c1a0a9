/- Walks of the disk: at, spend, Fuse, NewDisk. -/
import Derived.Test.YtcpefolhohakmaaT2
namespace Go.Proofs.Ytcpefolhohakmaa
open Go.RowKit
attribute [local irreducible] seqS seqST walkV walkJ

theorem owns_blk_neT {w : World} {base g : Nat} {e t : TypeId} {size n : Nat} {v : Value} {xs : List Value} {cs : Array Value} (h : w.ownsRow base e size v n xs) (k : Blk w g cs t) (ht : e ≠ t) : ∀ j, v.ownBlock = some j → j ≠ g := by
  intro j hj
  obtain ⟨-, ⟨rfl, -⟩ | ⟨g', cap, cur, rfl, hg, hh, -⟩⟩ := h
  · cases hj
  · cases hj
    exact blk_ne (show Blk w g' cur e from hh) k ht
/-- A disk, plainly. -/
structure Dk where
  off : Bool
  fused : Bool
  left : Nat
  most : Nat
  b : Nat → Bts
  s : Nat → Nat
def dkC (v : Nat → Value) (d : Dk) : Array Value := #[.bool d.off, .bool d.fused, .int .i64 (d.left : Int), v 0, .int .i64 (d.s 0 : Int), v 1, .int .i64 (d.s 1 : Int), .int .i64 (d.most : Int)]
/-- A disk in memory: its own block, and the rows of its two areas. -/
structure DkR (w : World) (gd : Nat) (v : Nat → Value) (d : Dk) : Prop where
  blk : Blk w gd (dkC v d) 89
  own : ∀ n, n < 2 → w.ownsRow 0 5 1 (v n) (d.b n).length (u8V (d.b n))
  ne : ∀ g, (v 0).ownBlock = some g → (v 1).ownBlock ≠ some g
  safe : ∀ n, n < 2 → d.s n ≤ (d.b n).length
  len : ∀ n, n < 2 → (d.b n).length ≤ d.most
  most : 64 ≤ d.most ∧ d.most ≤ 1048576
  left : d.left ≤ 1000
/-- The blocks of a disk. -/
def DS (gd : Nat) (v : Nat → Value) (b : Nat) : Prop := b = gd ∨ (v 0).ownBlock = some b ∨ (v 1).ownBlock = some b
/-- What a call on a disk leaves of the rest. -/
structure DkG (w w' : World) (gd : Nat) (v v' : Nat → Value) : Prop where
  keep : Keep (fun b => ¬ DS gd v b) w w'
  new : ∀ b, DS gd v' b → DS gd v b ∨ w.heap.size ≤ b
theorem DkG.refl (w : World) (gd : Nat) (v : Nat → Value) : DkG w w gd v v := ⟨Keep.refl _ _, fun _ h => .inl h⟩
theorem DkG.trans {a b c : World} {gd : Nat} {v v' v2 : Nat → Value} (h : DkG a b gd v v') (k : DkG b c gd v' v2) : DkG a c gd v v2 where
  keep := ⟨k.keep.os.trans h.keep.os, k.keep.tape.trans h.keep.tape, k.keep.output.trans h.keep.output, Nat.le_trans h.keep.size k.keep.size, fun i hi hn =>
    (k.keep.block i (Nat.lt_of_lt_of_le hi h.keep.size) (fun hd => by
      rcases h.new i hd with h1 | h1
      · exact hn h1
      · omega)).trans (h.keep.block i hi hn)⟩
  new b hb := by
    rcases k.new b hb with h1 | h1
    · exact h.new b h1
    · exact .inr (Nat.le_trans h.keep.size h1)
theorem DkR.below {w w' : World} {gd : Nat} {v : Nat → Value} {d : Dk} (h : DkR w gd v d) (k : Below w.heap.size w w') : DkR w' gd v d :=
  ⟨h.blk.below k, fun n hn => owns_below (h.own n hn) k, h.ne, h.safe, h.len, h.most, h.left⟩
theorem DkG.of_below {w w' : World} {gd : Nat} {v : Nat → Value} (k : Below w.heap.size w w') : DkG w w' gd v v := ⟨Keep.of_below k, fun _ h => .inl h⟩
/-- The disk's own cells but for the areas. -/
theorem DkR.power {w : World} {gd : Nat} {v : Nat → Value} {d : Dk} (h : DkR w gd v d) {d' : Dk} (hb : d'.b = d.b) (hs : d'.s = d.s) (hm : d'.most = d.most) (hl : d'.left ≤ 1000) {w' : World} (hk : Blk w' gd (dkC v d') 89) (k : Keep (· ≠ gd) w w') : DkR w' gd v d' :=
  ⟨hk, fun n hn => by
      rw [hb]
      exact k.owns (h.own n hn) (owns_blk_neT (h.own n hn) h.blk (by decide)), h.ne, by rw [hb, hs]; exact h.safe, by rw [hb, hm]; exact h.len, by rw [hm]; exact h.most, hl⟩

section
variable {w : World} {gd : Nat} {v : Nat → Value} {d : Dk}
theorem DkR.cOff (h : DkR w gd v d) : w.cell? ⟨gd, 0, none⟩ = some (.bool d.off) := h.blk.look 0 rfl
theorem DkR.cFus (h : DkR w gd v d) : w.cell? ⟨gd, 1, none⟩ = some (.bool d.fused) := h.blk.look 1 rfl
theorem DkR.cLeft (h : DkR w gd v d) : w.cell? ⟨gd, 2, none⟩ = some (.int .i64 (d.left : Int)) := h.blk.look 2 rfl
theorem DkR.cMost (h : DkR w gd v d) : w.cell? ⟨gd, 7, none⟩ = some (.int .i64 (d.most : Int)) := h.blk.look 7 rfl
theorem DkR.cV (h : DkR w gd v d) (n : Nat) (hn : n < 2) : w.cell? ⟨gd, 3 + n * 2, none⟩ = some (v n) := by
  obtain rfl | rfl : n = 0 ∨ n = 1 := by omega
  · exact h.blk.look 3 rfl
  · exact h.blk.look 5 rfl
theorem DkR.cS (h : DkR w gd v d) (n : Nat) (hn : n < 2) : w.cell? ⟨gd, 3 + n * 2 + 1, none⟩ = some (.int .i64 (d.s n : Int)) := by
  obtain rfl | rfl : n = 0 ∨ n = 1 := by omega
  · exact h.blk.look 4 rfl
  · exact h.blk.look 6 rfl
end

set_option maxHeartbeats 1000000 in
theorem at_any2 (gd n : Nat) (v : Nat → Value) (d : Dk) (w : World) (h : DkR w gd v d) (hn : n < 2) :
    Calls Try.prog 79 #[.pointer (some ⟨gd, 0, none⟩), .int .i64 (n : Int)] w fun r w' => r = .returned (.tuple #[.pointer (some ⟨gd, 3 + n * 2, none⟩), .int .i64 0]) ∧ w = w' := by
  have x7 := h.cMost
  have hm := h.most
  have hm0 : ((d.most : Int) == 0) = false := by rw [beq_eq_false_iff_ne]; omega
  have hn0 : ¬ (n : Int) < 0 := by omega
  have hn1 : ¬ (1 : Int) < (n : Int) := by omega
  have hn2 : (n : Int) < 2 := by omega
  clear h
  go_enter Try.func79, Try.ntmps79
  go_wp2_with fail
  go_ret2
  exact ⟨rfl, rfl⟩

def spB (d : Dk) : Bool := if d.off then false else if d.fused then decide (d.left ≠ 0) else true
def spD (d : Dk) : Dk := if d.off then d else if d.fused then (if d.left = 0 then { d with off := true } else { d with left := d.left - 1 }) else d
theorem DkG.of_own {w w' : World} {gd : Nat} {v : Nat → Value} (k : Keep (· ≠ gd) w w') : DkG w w' gd v v := ⟨k.mono (fun _ _ hb e => hb (.inl e)), fun _ h => .inl h⟩

set_option maxHeartbeats 2000000 in
theorem spend_any (gd : Nat) (v : Nat → Value) (d : Dk) (w : World) (h : DkR w gd v d) :
    Calls Try.prog 80 #[.pointer (some ⟨gd, 0, none⟩)] w fun r w' => r = .returned (.bool (spB d)) ∧ DkR w' gd v (spD d) ∧ Keep (· ≠ gd) w w' := by
  have x0 := h.cOff
  have x1 := h.cFus
  have x2 := h.cLeft
  have HD := hid h
  have hl := h.left
  have f0 := h.blk.frozen 0
  have f2 := h.blk.frozen 2
  have l0 := h.blk.lt
  obtain ⟨rb, hrb⟩ : ∃ z, spB d = z := ⟨_, rfl⟩
  obtain ⟨rd, hrd⟩ : ∃ z, spD d = z := ⟨_, rfl⟩
  rw [hrb, hrd]
  clear h
  unfold spB at hrb
  unfold spD at hrd
  cases hoff : d.off with
  | true =>
    rw [hoff] at x0 hrb hrd
    rw [if_pos rfl] at hrb hrd
    subst hrb hrd
    clear hoff
    go_enter Try.func80, Try.ntmps80
    go_wp2
    go_ret
    exact ⟨rfl, HD.out, Keep.refl _ _⟩
  | false =>
    rw [hoff] at x0 hrb hrd
    rw [if_neg (by simp)] at hrb hrd
    cases hfus : d.fused with
    | false =>
      rw [hfus] at x1 hrb hrd
      rw [if_neg (by simp)] at hrb hrd
      subst hrb hrd
      clear hoff hfus
      go_enter Try.func80, Try.ntmps80
      go_wp2
      go_ret
      exact ⟨rfl, HD.out, Keep.refl _ _⟩
    | true =>
      rw [hfus] at x1 hrb hrd
      rw [if_pos rfl] at hrb hrd
      by_cases h0 : d.left = 0
      · rw [if_pos h0] at hrd
        rw [decide_eq_false (fun h => h h0)] at hrb
        have hk := Keep.set (S := (· ≠ gd)) w (p := ⟨gd, 0, none⟩) (fun h => h rfl) (.bool true)
        have hr : DkR (w.setCell ⟨gd, 0, none⟩ (.bool true)) gd v { d with off := true } := HD.out.power (d' := { d with off := true }) rfl rfl rfl hl (HD.out.blk.set 0 (.bool true)) hk
        rw [hfus] at hr
        rw [hrd] at hr
        rw [h0] at x2
        have HR := hid hr
        have HK := hid hk
        subst hrb
        clear hk hr hrd hoff hfus h0
        go_enter Try.func80, Try.ntmps80
        go_wp2
        go_ret
        exact ⟨rfl, HR.out, HK.out⟩
      · rw [if_neg h0] at hrd
        rw [decide_eq_true h0] at hrb
        have h1 : ((d.left : Int) == 0) = false := by rw [beq_eq_false_iff_ne]; omega
        have hs : (d.left : Int) - 1 = ((d.left - 1 : Nat) : Int) := by omega
        have hk := Keep.set (S := (· ≠ gd)) w (p := ⟨gd, 2, none⟩) (fun h => h rfl) (.int .i64 ((d.left : Int) - 1))
        have hr : DkR (w.setCell ⟨gd, 2, none⟩ (.int .i64 ((d.left : Int) - 1))) gd v { d with left := d.left - 1 } := by
          refine HD.out.power (d' := { d with left := d.left - 1 }) rfl rfl rfl (by show d.left - 1 ≤ 1000; omega) ?_ hk
          have := HD.out.blk.set 2 (.int .i64 ((d.left : Int) - 1))
          rw [hs] at this ⊢
          exact this
        rw [hoff, hfus] at hr
        rw [hrd] at hr
        have HR := hid hr
        have HK := hid hk
        subst hrb
        clear hk hs hr hrd hoff hfus h0
        go_enter Try.func80, Try.ntmps80
        go_wp2
        go_ret
        exact ⟨rfl, HR.out, HK.out⟩

def updN {α : Type} (f : Nat → α) (n : Nat) (x : α) : Nat → α := fun i => if i = n then x else f i
theorem updN_same {α : Type} (f : Nat → α) (n : Nat) (x : α) : updN f n x n = x := if_pos rfl
theorem updN_ne {α : Type} (f : Nat → α) {n i : Nat} (x : α) (h : i ≠ n) : updN f n x i = f i := if_neg h
theorem DkR.setS {w : World} {gd : Nat} {v : Nat → Value} {d : Dk} (h : DkR w gd v d) (n k : Nat) (hn : n < 2) (hk : k ≤ (d.b n).length) : DkR (w.setCell ⟨gd, 3 + n * 2 + 1, none⟩ (.int .i64 (k : Int))) gd v { d with s := updN d.s n k } := by
  have hkp := Keep.set (S := (· ≠ gd)) w (p := ⟨gd, 3 + n * 2 + 1, none⟩) (fun h => h rfl) (.int .i64 (k : Int))
  refine ⟨?_, fun i hi => hkp.owns (h.own i hi) (owns_blk_neT (h.own i hi) h.blk (by decide)), h.ne, fun i hi => ?_, h.len, h.most, h.left⟩
  · have := h.blk.set (3 + n * 2 + 1) (.int .i64 (k : Int))
    obtain rfl | rfl : n = 0 ∨ n = 1 := by omega
    · exact this
    · exact this
  · show updN d.s n k i ≤ _
    by_cases e : i = n
    · subst e; rw [updN_same]; exact hk
    · rw [updN_ne _ _ e]; exact h.safe i hi
/-- An area's row is a slice. -/
theorem DkR.sl {w : World} {gd : Nat} {v : Nat → Value} {d : Dk} (h : DkR w gd v d) {n : Nat} (hn : n < 2) : ∃ ao cap, v n = .slice ao (d.b n).length cap ∧ (d.b n).length ≤ cap ∧ BsR w (v n) (d.b n) := by
  have h1 := bs_of_owns (h.own n hn) rfl
  obtain ⟨ao, cap, e, hc, -, -⟩ := id h1
  exact ⟨ao, cap, e, hc, h1⟩
theorem spD_b (d : Dk) : (spD d).b = d.b ∧ (spD d).s = d.s ∧ (spD d).most = d.most := by
  unfold spD
  split
  · exact ⟨rfl, rfl, rfl⟩
  · split
    · split <;> exact ⟨rfl, rfl, rfl⟩
    · exact ⟨rfl, rfl, rfl⟩
def pwE (b : Bool) : Int := if b then 0 else 14
def syncD (n : Nat) (d : Dk) : Dk := if spB d then { spD d with s := updN (spD d).s n ((spD d).b n).length } else spD d

set_option maxHeartbeats 2000000 in
theorem Sync_any (gd n : Nat) (v : Nat → Value) (d : Dk) (w : World) (h : DkR w gd v d) (hn : n < 2) :
    Calls Try.prog 57 #[.pointer (some ⟨gd, 0, none⟩), .int .i64 (n : Int)] w fun r w' => r = .returned (.int .i64 (pwE (spB d))) ∧ DkR w' gd v (syncD n d) ∧ Keep (· ≠ gd) w w' := by
  have AT := hid (at_any2 gd n v d w h hn)
  have SP := hid (spend_any gd v d w h)
  have HDF : Hid (syncD n d = if spB d then { spD d with s := updN (spD d).s n ((spD d).b n).length } else spD d) := hid rfl
  obtain ⟨rd, hrd⟩ : ∃ z, syncD n d = z := ⟨_, rfl⟩
  rw [hrd] at HDF ⊢
  obtain ⟨sb, hsb⟩ : ∃ z, spB d = z := ⟨_, rfl⟩
  rw [hsb] at SP HDF ⊢
  clear hrd hsb
  go_enter Try.func57, Try.ntmps57
  go_wp2_with fail
  refine AT.out.mono ?_
  rintro r w1 ⟨rfl, rfl⟩
  go_wp2_with fail
  refine SP.out.mono ?_
  rintro r w1 ⟨rfl, hd1, hk1⟩
  have HD1 := hid hd1
  have HK1 := hid hk1
  clear AT SP hd1 hk1
  cases sb with
  | false =>
    have e : Hid (rd = spD d) := hid (by rw [HDF.out, if_neg (by simp)])
    go_wp2
    go_ret
    exact ⟨rfl, by rw [e.out]; exact HD1.out, HK1.out⟩
  | true =>
    have e : Hid (rd = { spD d with s := updN (spD d).s n ((spD d).b n).length }) := hid (by rw [HDF.out, if_pos rfl])
    obtain ⟨ao, cap, hv, -, -⟩ := HD1.out.sl hn
    have xv := HD1.out.cV n hn
    have xs := HD1.out.cS n hn
    have fs := HD1.out.blk.frozen (3 + n * 2 + 1)
    have ls := HD1.out.blk.lt
    rw [hv] at xv
    have HR := hid (HD1.out.setS n ((spD d).b n).length hn (Nat.le_refl _))
    have HK := hid (HK1.out.trans (Keep.set (S := (· ≠ gd)) w1 (p := ⟨gd, 3 + n * 2 + 1, none⟩) (fun h => h rfl) (.int .i64 (((spD d).b n).length : Int))))
    rw [← e.out] at HR
    obtain ⟨L, hL⟩ : ∃ L, ((spD d).b n).length = L := ⟨_, rfl⟩
    rw [hL] at xv HR HK
    clear hL hv
    go_wp2
    go_ret
    exact ⟨rfl, HR.out, HK.out⟩

theorem DS_upd {gd n : Nat} {v : Nat → Value} {x : Value} (hx : ∀ b, x.ownBlock = some b → DS gd v b) : ∀ b, DS gd (updN v n x) b → DS gd v b := by
  intro b hb
  rcases hb with hb | hb | hb
  · exact .inl hb
  · unfold updN at hb
    split at hb
    · exact hx b hb
    · exact .inr (.inl hb)
  · unfold updN at hb
    split at hb
    · exact hx b hb
    · exact .inr (.inr hb)
/-- A new row for an area. -/
theorem DkR.setV {w w' : World} {gd : Nat} {v : Nat → Value} {d : Dk} (h : DkR w gd v d) {n k : Nat} (hn : n < 2) {x : Value} {b' : Bts} (hk : Keep (fun b => b ≠ gd ∧ (v n).ownBlock ≠ some b) w w') (hb : ∀ c c', (dkC v d)[3 + n * 2]? = some c → (dkC v d)[3 + n * 2 + 1]? = some c' → Blk w' gd (((dkC v d).setIfInBounds (3 + n * 2) x).setIfInBounds (3 + n * 2 + 1) (.int .i64 (k : Int))) 89)
    (ho : w'.ownsRow 0 5 1 x b'.length (u8V b')) (hne : ∀ i, i < 2 → i ≠ n → ∀ g, x.ownBlock = some g → (v i).ownBlock ≠ some g) (hs : k ≤ b'.length) (hl : b'.length ≤ d.most) : DkR w' gd (updN v n x) { d with b := updN d.b n b', s := updN d.s n k } := by
  refine ⟨?_, fun i hi => ?_, ?_, fun i hi => ?_, fun i hi => ?_, h.most, h.left⟩
  · obtain rfl | rfl : n = 0 ∨ n = 1 := by omega
    · exact hb _ _ rfl rfl
    · exact hb _ _ rfl rfl
  · show w'.ownsRow 0 _ 1 (updN v n x i) (updN d.b n b' i).length (u8V (updN d.b n b' i))
    by_cases e : i = n
    · subst e; rw [updN_same, updN_same]; exact ho
    · rw [updN_ne _ _ e, updN_ne _ _ e]
      refine hk.owns (h.own i hi) (fun g hg => ⟨owns_blk_neT (h.own i hi) h.blk (by decide) g hg, fun hg2 => ?_⟩)
      obtain ⟨rfl, rfl⟩ | ⟨rfl, rfl⟩ : (i = 0 ∧ n = 1) ∨ (i = 1 ∧ n = 0) := by omega
      · exact h.ne g hg hg2
      · exact h.ne g hg2 hg
  · intro g h0 h1
    obtain rfl | rfl : n = 0 ∨ n = 1 := by omega
    · rw [updN_same] at h0
      rw [updN_ne _ _ (by decide)] at h1
      exact hne 1 (by decide) (by decide) g h0 h1
    · rw [updN_ne _ _ (by decide)] at h0
      rw [updN_same] at h1
      exact hne 0 (by decide) (by decide) g h1 h0
  · show updN d.s n k i ≤ (updN d.b n b' i).length
    by_cases e : i = n
    · subst e; rw [updN_same, updN_same]; exact hs
    · rw [updN_ne _ _ e, updN_ne _ _ e]; exact h.safe i hi
  · show (updN d.b n b' i).length ≤ d.most
    by_cases e : i = n
    · subst e; rw [updN_same]; exact hl
    · rw [updN_ne _ _ e]; exact h.len i hi
def clearD (n : Nat) (d : Dk) : Dk := if spB d then { spD d with b := updN (spD d).b n [], s := updN (spD d).s n 0 } else spD d

set_option maxHeartbeats 2000000 in
theorem Clear_any (gd n : Nat) (v : Nat → Value) (d : Dk) (w : World) (h : DkR w gd v d) (hn : n < 2) :
    Calls Try.prog 82 #[.pointer (some ⟨gd, 0, none⟩), .int .i64 (n : Int)] w fun r w' => r = .returned (.int .i64 (pwE (spB d))) ∧ (∃ v', DkR w' gd v' (clearD n d) ∧ DkG w w' gd v v') := by
  have AT := hid (at_any2 gd n v d w h hn)
  have SP := hid (spend_any gd v d w h)
  have HDF : Hid (clearD n d = if spB d then { spD d with b := updN (spD d).b n [], s := updN (spD d).s n 0 } else spD d) := hid rfl
  obtain ⟨rd, hrd⟩ : ∃ z, clearD n d = z := ⟨_, rfl⟩
  rw [hrd] at HDF ⊢
  obtain ⟨sb, hsb⟩ : ∃ z, spB d = z := ⟨_, rfl⟩
  rw [hsb] at SP HDF ⊢
  clear hrd hsb
  go_enter Try.func82, Try.ntmps82
  go_wp2_with fail
  refine AT.out.mono ?_
  rintro r w1 ⟨rfl, rfl⟩
  go_wp2_with fail
  refine SP.out.mono ?_
  rintro r w1 ⟨rfl, hd1, hk1⟩
  have HD1 := hid hd1
  have HK1 := hid hk1
  clear AT SP hd1 hk1
  cases sb with
  | false =>
    have e : Hid (rd = spD d) := hid (by rw [HDF.out, if_neg (by simp)])
    go_wp2
    go_ret
    exact ⟨rfl, v, by rw [e.out]; exact HD1.out, DkG.of_own HK1.out⟩
  | true =>
    have e : Hid (rd = { spD d with b := updN (spD d).b n [], s := updN (spD d).s n 0 }) := hid (by rw [HDF.out, if_pos rfl])
    have xv := HD1.out.cV n hn
    have xs := HD1.out.cS n hn
    have fv := HD1.out.blk.frozen (3 + n * 2)
    have fs := HD1.out.blk.frozen (3 + n * 2 + 1)
    have ls := HD1.out.blk.lt
    have hk := (Keep.set (S := (· ≠ gd)) w1 (p := ⟨gd, 3 + n * 2, none⟩) (fun h => h rfl) (.slice none 0 0)).trans (Keep.set (S := (· ≠ gd)) _ (p := ⟨gd, 3 + n * 2 + 1, none⟩) (fun h => h rfl) (.int .i64 0))
    have HR := hid (HD1.out.setV (n := n) (k := 0) (x := .slice none 0 0) (b' := []) hn (hk.mono (fun _ _ h => h.1)) (fun _ _ _ _ => (HD1.out.blk.set (3 + n * 2) (.slice none 0 0)).set (3 + n * 2 + 1) (.int .i64 0)) (World.ownsRow_nil _ _ _ _) (fun _ _ _ _ hg => by cases hg) (Nat.le_refl _) (Nat.zero_le _))
    have HK := hid ((DkG.of_own HK1.out).trans (⟨hk.mono (fun _ _ hb e => hb (.inl e)), fun b hb => .inl (DS_upd (fun _ hx => by cases hx) b hb)⟩ : DkG w1 _ gd v (updN v n (.slice none 0 0))))
    rw [← e.out] at HR
    clear hk
    go_wp2
    go_ret
    exact ⟨rfl, _, HR.out, HK.out⟩

end Go.Proofs.Ytcpefolhohakmaa
