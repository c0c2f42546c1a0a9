/- Walk of Most: the greatest size of a pairing. -/
import Derived.Test.YtcpefolhohakmaaK4
import Derived.Test.YtcpefolhohakmaaJ2
namespace Go.Proofs.Ytcpefolhohakmaa
open Go.RowKit
attribute [local irreducible] seqS seqST walkV walkJ

theorem costC_le {l r : List Gv} {u : Ru} (hS : SideOk l) (hS2 : SideOk r) (hR : RuOk u) (i j : Nat) (hi : i < l.length) (hj : j < r.length) : costC l r u i j ≤ 1000000000 := by
  unfold costC costV
  split
  · have := (costT_bd (g4_in (hS.get hi)) (g4_in (hS2.get hj)) (g4_in hR.1) 4).2
    omega
  · omega
def mostN (l r : List Gv) (u : Ru) : Nat := cnt (kuhn (kE (costC l r u)) r.length l.length) r.length

set_option maxHeartbeats 8000000 in
set_option maxRecDepth 100000 in
theorem Most_no (l r : List Gv) (u : Ru) (v v2 : Value) (w : World) (h : GsR 0 w v l) (h2 : GsR 0 w v2 r) (hno : ¬ (SideOk l ∧ SideOk r ∧ RuOk u)) :
    Calls Try.prog 6 #[v, v2, ruV u] w fun e w' => e = .returned (.tuple #[.int .i64 0, .int .i64 2]) ∧ Below w.heap.size w w' := by
  have CC := hid (fun w h h2 => costs_no l r u v v2 w h h2 hno)
  clear hno
  obtain ⟨U, hU⟩ : ∃ U, u = U := ⟨_, rfl⟩
  have HU := hid hU.symm
  clear hU
  obtain ⟨⟨wa, wb, wc, wd⟩, ⟨la, lb, lc, ld⟩⟩ := u
  have kU := Blk.new w #[.int .i64 wa, .int .i64 wb, .int .i64 wc, .int .i64 wd, .int .i64 la, .int .i64 lb, .int .i64 lc, .int .i64 ld] 35
  have bU := alloc_below w (.cells #[.int .i64 wa, .int .i64 wb, .int .i64 wc, .int .i64 wd, .int .i64 la, .int .i64 lb, .int .i64 lc, .int .i64 ld] 35)
  have hLU := hid (h.below bU)
  have hRU := hid (h2.below bU)
  have x0 := kU.look 0 rfl
  have x1 := kU.look 1 rfl
  have x2 := kU.look 2 rfl
  have x3 := kU.look 3 rfl
  have x4 := kU.look 4 rfl
  have x5 := kU.look 5 rfl
  have x6 := kU.look 6 rfl
  have x7 := kU.look 7 rfl
  go_enter Try.func6, Try.ntmps6
  go_wp2_with fail
  refine (CC.out _ hLU.out hRU.out).mono ?_
  rintro r1 w1 ⟨rfl, hb1⟩
  have bb1 := bU.trans (hb1.mono bU.size)
  clear CC hLU hRU kU bU x0 x1 x2 x3 x4 x5 x6 x7 hb1
  go_wp2
  go_ret2
  exact ⟨rfl, bb1⟩

set_option maxHeartbeats 8000000 in
set_option maxRecDepth 100000 in
theorem Most_yes (l r : List Gv) (u : Ru) (v v2 : Value) (w : World) (h : GsR 0 w v l) (h2 : GsR 0 w v2 r) (hS : SideOk l) (hS2 : SideOk r) (hR : RuOk u) :
    Calls Try.prog 6 #[v, v2, ruV u] w fun e w' => e = .returned (.tuple #[.int .i64 (mostN l r u : Int), .int .i64 0]) ∧ Below w.heap.size w w' := by
  have CC := hid (fun w h h2 => costs_yes l r u v v2 w h h2 hS hS2 hR)
  have hl32 := hS.1
  have hr32 := hS2.1
  have HCL := hid (costC_le hS hS2 hR)
  obtain ⟨z, hz⟩ : ∃ z, mostN l r u = z := ⟨_, rfl⟩
  have HZ := hid hz
  rw [hz]
  unfold mostN at HZ
  obtain ⟨c, hcc⟩ : ∃ c, costC l r u = c := ⟨_, rfl⟩
  rw [hcc] at CC HCL HZ
  obtain ⟨nl, hnl⟩ : ∃ n, l.length = n := ⟨_, rfl⟩
  obtain ⟨nr, hnr⟩ : ∃ n, r.length = n := ⟨_, rfl⟩
  rw [hnl, hnr] at CC HCL HZ
  rw [hnl] at hl32
  rw [hnr] at hr32
  clear hS hS2 hR hz hcc hnl hnr
  obtain ⟨U, hU⟩ : ∃ U, u = U := ⟨_, rfl⟩
  have HU := hid hU.symm
  clear hU
  obtain ⟨⟨wa, wb, wc, wd⟩, ⟨la, lb, lc, ld⟩⟩ := u
  have kU := Blk.new w #[.int .i64 wa, .int .i64 wb, .int .i64 wc, .int .i64 wd, .int .i64 la, .int .i64 lb, .int .i64 lc, .int .i64 ld] 35
  have bU := alloc_below w (.cells #[.int .i64 wa, .int .i64 wb, .int .i64 wc, .int .i64 wd, .int .i64 la, .int .i64 lb, .int .i64 lc, .int .i64 ld] 35)
  have hLU := hid (h.below bU)
  have hRU := hid (h2.below bU)
  have x0 := kU.look 0 rfl
  have x1 := kU.look 1 rfl
  have x2 := kU.look 2 rfl
  have x3 := kU.look 3 rfl
  have x4 := kU.look 4 rfl
  have x5 := kU.look 5 rfl
  have x6 := kU.look 6 rfl
  have x7 := kU.look 7 rfl
  go_enter Try.func6, Try.ntmps6
  go_wp2_with fail
  refine (CC.out _ hLU.out hRU.out).mono ?_
  rintro r1 w1 ⟨⟨p, rfl, hp⟩, hb1⟩
  have bb1 := bU.trans (hb1.mono bU.size)
  have MA := hid (matched_any (by omega) (by omega) HCL.out w1 hp)
  obtain ⟨gt, vc, vs, rfl, -⟩ := id hp
  clear CC hLU hRU kU bU x0 x1 x2 x3 x4 x5 x6 x7 hb1 hp
  go_wp2_with fail
  refine MA.out.mono ?_
  rintro r1 w2 ⟨⟨ga, rfl, hga, hm⟩, hb2⟩
  have bb2 := bb1.trans (hb2.mono bb1.size)
  have SZ := hid (size_any nr _ _ w2 (blk_fun hm (by omega)))
  rw [cnt_cntI, HZ.out] at SZ
  clear MA hb2 bb1 hm hga
  go_wp2_with fail
  refine SZ.out.mono ?_
  rintro r1 w3 ⟨rfl, rfl⟩
  clear SZ
  go_wp2
  go_ret2
  exact ⟨rfl, bb2⟩

end Go.Proofs.Ytcpefolhohakmaa
