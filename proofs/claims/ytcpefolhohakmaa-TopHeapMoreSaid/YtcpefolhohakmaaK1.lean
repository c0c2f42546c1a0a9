/- Walk of costs: the table of two sides. -/
import Derived.Test.YtcpefolhohakmaaH8
import Derived.Test.YtcpefolhohakmaaRq
namespace Go.Proofs.Ytcpefolhohakmaa
open Go.RowKit
attribute [local irreducible] seqS seqST walkV walkJ

theorem owns_blk_ne {w : World} {base g : Nat} {e t : TypeId} {size n : Nat} {v : Value} {xs : List Value} {cs : Array Value} (h : w.ownsRow base e size v n xs) (k : Blk w g cs t) (ht : e ≠ t) : ∀ j, v.ownBlock = some j → j ≠ g := by
  intro j hj
  obtain ⟨-, ⟨rfl, -⟩ | ⟨g', cap, cur, rfl, hg, hh, -⟩⟩ := h
  · cases hj
  · cases hj
    exact blk_ne (show Blk w g' cur e from hh) k ht
def costC (l r : List Gv) (u : Ru) (i j : Nat) : Int := costV u (l.getD i g0) (r.getD j g0)
/-- A table of costs, in blocks of S. -/
def TabR (S : Nat → Prop) (w : World) (p : Value) (nl nr : Nat) (c : Nat → Nat → Int) : Prop :=
  ∃ gt vc vs, p = .pointer (some ⟨gt, 0, none⟩) ∧ S gt ∧ Blk w gt #[vc, .int .i64 (nl : Int), .int .i64 (nr : Int)] 128 ∧ SlS S w vc nl ((List.range nl).map vs) ∧
    ∀ i, i < nl → ∃ g, vs i = slV g nr ∧ S g ∧ Blk w g (arr nr fun j => .int .i64 (c i j)) 3

set_option maxHeartbeats 8000000 in
set_option maxRecDepth 100000 in
theorem costs_no (l r : List Gv) (u : Ru) (v v2 : Value) (w : World) (h : GsR 0 w v l) (h2 : GsR 0 w v2 r) (hno : ¬ (SideOk l ∧ SideOk r ∧ RuOk u)) :
    Calls Try.prog 27 #[v, v2, ruV u] w fun r w' => r = .returned (.pointer none) ∧ Below w.heap.size w w' := by
  have SD1 := hid (fun w h => side_any l v w h)
  have SD2 := hid (fun w h => side_any r v2 w h)
  by_cases hS : SideOk l
  case neg =>
    have RR := hid (fun w => rright_any u w)
    obtain ⟨U, hU⟩ : ∃ U, u = U := ⟨_, rfl⟩
    have HU := hid hU.symm
    clear hU
    obtain ⟨⟨wa, wb, wc, wd⟩, ⟨la, lb, lc, ld⟩⟩ := u
    have kU := Blk.new w #[.int .i64 wa, .int .i64 wb, .int .i64 wc, .int .i64 wd, .int .i64 la, .int .i64 lb, .int .i64 lc, .int .i64 ld] 35
    have bU := alloc_below w (.cells #[.int .i64 wa, .int .i64 wb, .int .i64 wc, .int .i64 wd, .int .i64 la, .int .i64 lb, .int .i64 lc, .int .i64 ld] 35)
    have hLU := hid (h.below bU)
    have hRU := hid (h2.below bU)
    go_enter Try.func27, Try.ntmps27
    go_wp2_with fail
    refine (SD1.out _ hLU.out).mono ?_
    rintro r1 w1 ⟨rfl, hb1⟩
    have k1 := kU.below hb1
    have bb1 := bU.trans (hb1.mono bU.size)
    have hR1 := hid (hRU.out.below hb1)
    clear SD1 hLU kU bU hb1 hRU
    rw [sideB_false hS]
    clear k1 hno
    go_wp2
    go_ret
    exact ⟨rfl, bb1⟩
  case pos =>
    by_cases hS2 : SideOk r
    case neg =>
      have RR := hid (fun w => rright_any u w)
      obtain ⟨U, hU⟩ : ∃ U, u = U := ⟨_, rfl⟩
      have HU := hid hU.symm
      clear hU
      obtain ⟨⟨wa, wb, wc, wd⟩, ⟨la, lb, lc, ld⟩⟩ := u
      have kU := Blk.new w #[.int .i64 wa, .int .i64 wb, .int .i64 wc, .int .i64 wd, .int .i64 la, .int .i64 lb, .int .i64 lc, .int .i64 ld] 35
      have bU := alloc_below w (.cells #[.int .i64 wa, .int .i64 wb, .int .i64 wc, .int .i64 wd, .int .i64 la, .int .i64 lb, .int .i64 lc, .int .i64 ld] 35)
      have hLU := hid (h.below bU)
      have hRU := hid (h2.below bU)
      go_enter Try.func27, Try.ntmps27
      go_wp2_with fail
      refine (SD1.out _ hLU.out).mono ?_
      rintro r1 w1 ⟨rfl, hb1⟩
      have k1 := kU.below hb1
      have bb1 := bU.trans (hb1.mono bU.size)
      have hR1 := hid (hRU.out.below hb1)
      clear SD1 hLU kU bU hb1 hRU
      rw [sideB_true hS]
      rw [sideB_false hS2] at SD2
      clear hno hS hS2
      go_wp2_with fail
      refine (SD2.out _ hR1.out).mono ?_
      rintro r1 w2 ⟨rfl, hb2⟩
      have k2 := k1.below hb2
      have bb2 := bb1.trans (hb2.mono bb1.size)
      clear SD2 hR1 k1 bb1 hb2
      have x0 := k2.look 0 rfl
      have x1 := k2.look 1 rfl
      have x2 := k2.look 2 rfl
      have x3 := k2.look 3 rfl
      have x4 := k2.look 4 rfl
      have x5 := k2.look 5 rfl
      have x6 := k2.look 6 rfl
      have x7 := k2.look 7 rfl
      clear x0 x1 x2 x3 x4 x5 x6 x7 k2
      go_wp2
      go_ret
      exact ⟨rfl, bb2⟩
    case pos =>
      have hR : rokB u = false := rokB_false fun h => hno ⟨hS, hS2, h⟩
      have RR := hid (fun w => rright_any u w)
      obtain ⟨U, hU⟩ : ∃ U, u = U := ⟨_, rfl⟩
      have HU := hid hU.symm
      clear hU
      obtain ⟨⟨wa, wb, wc, wd⟩, ⟨la, lb, lc, ld⟩⟩ := u
      have kU := Blk.new w #[.int .i64 wa, .int .i64 wb, .int .i64 wc, .int .i64 wd, .int .i64 la, .int .i64 lb, .int .i64 lc, .int .i64 ld] 35
      have bU := alloc_below w (.cells #[.int .i64 wa, .int .i64 wb, .int .i64 wc, .int .i64 wd, .int .i64 la, .int .i64 lb, .int .i64 lc, .int .i64 ld] 35)
      have hLU := hid (h.below bU)
      have hRU := hid (h2.below bU)
      go_enter Try.func27, Try.ntmps27
      go_wp2_with fail
      refine (SD1.out _ hLU.out).mono ?_
      rintro r1 w1 ⟨rfl, hb1⟩
      have k1 := kU.below hb1
      have bb1 := bU.trans (hb1.mono bU.size)
      have hR1 := hid (hRU.out.below hb1)
      clear SD1 hLU kU bU hb1 hRU
      rw [sideB_true hS]
      rw [sideB_true hS2] at SD2
      rw [hR] at RR
      clear hno hS hS2 hR
      go_wp2_with fail
      refine (SD2.out _ hR1.out).mono ?_
      rintro r1 w2 ⟨rfl, hb2⟩
      have k2 := k1.below hb2
      have bb2 := bb1.trans (hb2.mono bb1.size)
      clear SD2 hR1 k1 bb1 hb2
      have x0 := k2.look 0 rfl
      have x1 := k2.look 1 rfl
      have x2 := k2.look 2 rfl
      have x3 := k2.look 3 rfl
      have x4 := k2.look 4 rfl
      have x5 := k2.look 5 rfl
      have x6 := k2.look 6 rfl
      have x7 := k2.look 7 rfl
      go_wp2_with fail
      refine (RR.out _).mono ?_
      rintro r1 w3 ⟨rfl, hb3⟩
      have k3 := k2.below hb3
      have bb3 := bb2.trans (hb3.mono bb2.size)
      clear RR k2 bb2 hb3 x0 x1 x2 x3 x4 x5 x6 x7
      clear k3
      go_wp2
      go_ret
      exact ⟨rfl, bb3⟩

set_option maxHeartbeats 8000000 in
set_option maxRecDepth 100000 in
theorem costs_yes (l r : List Gv) (u : Ru) (v v2 : Value) (w : World) (h : GsR 0 w v l) (h2 : GsR 0 w v2 r) (hS : SideOk l) (hS2 : SideOk r) (hR : RuOk u) :
    Calls Try.prog 27 #[v, v2, ruV u] w fun e w' => (∃ p, e = .returned p ∧ TabR (w.heap.size ≤ ·) w' p l.length r.length (costC l r u)) ∧ Below w.heap.size w w' := by
  have SD1 := hid (fun w h => side_any l v w h)
  have SD2 := hid (fun w h => side_any r v2 w h)
  have HS := hid hS
  have HS2 := hid hS2
  have HR := hid hR
  have hRk := rokB_true hR
  have hl32 := hS.1
  have hr32 := hS2.1
  obtain ⟨ao, cap, rfl, hcap, hmax, hc⟩ := id h
  obtain ⟨ao2, cap2, rfl, hcap2, hmax2, hc2⟩ := id h2
  have HC := hid hc
  have HC2 := hid hc2
  clear hc hc2 hmax hmax2
  have RR := hid (fun w => rright_any u w)
  obtain ⟨U, hU⟩ : ∃ U, u = U := ⟨_, rfl⟩
  have HU := hid hU.symm
  clear hU
  obtain ⟨⟨wa, wb, wc, wd⟩, ⟨la, lb, lc, ld⟩⟩ := u
  have kU := Blk.new w #[.int .i64 wa, .int .i64 wb, .int .i64 wc, .int .i64 wd, .int .i64 la, .int .i64 lb, .int .i64 lc, .int .i64 ld] 35
  have bU := alloc_below w (.cells #[.int .i64 wa, .int .i64 wb, .int .i64 wc, .int .i64 wd, .int .i64 la, .int .i64 lb, .int .i64 lc, .int .i64 ld] 35)
  have hLU := hid (h.below bU)
  have hRU := hid (h2.below bU)
  go_enter Try.func27, Try.ntmps27
  go_wp2_with fail
  refine (SD1.out _ hLU.out).mono ?_
  rintro r1 w1 ⟨rfl, hb1⟩
  have k1 := kU.below hb1
  have bb1 := bU.trans (hb1.mono bU.size)
  have hR1 := hid (hRU.out.below hb1)
  clear SD1 hLU kU bU hb1 hRU
  rw [sideB_true hS]
  rw [sideB_true hS2] at SD2
  rw [hRk] at RR
  clear hS hS2 hRk
  go_wp2_with fail
  refine (SD2.out _ hR1.out).mono ?_
  rintro r1 w2 ⟨rfl, hb2⟩
  have k2 := k1.below hb2
  have bb2 := bb1.trans (hb2.mono bb1.size)
  clear SD2 hR1 k1 bb1 hb2
  have x0 := k2.look 0 rfl
  have x1 := k2.look 1 rfl
  have x2 := k2.look 2 rfl
  have x3 := k2.look 3 rfl
  have x4 := k2.look 4 rfl
  have x5 := k2.look 5 rfl
  have x6 := k2.look 6 rfl
  have x7 := k2.look 7 rfl
  go_wp2_with fail
  refine (RR.out _).mono ?_
  rintro r1 w3 ⟨rfl, hb3⟩
  have k3 := k2.below hb3
  have bb3 := bb2.trans (hb3.mono bb2.size)
  clear RR k2 bb2 hb3 x0 x1 x2 x3 x4 x5 x6 x7
  obtain ⟨nl, hnl⟩ : ∃ n, l.length = n := ⟨_, rfl⟩
  obtain ⟨nr, hnr⟩ : ∃ n, r.length = n := ⟨_, rfl⟩
  have HNL := hid hnl
  have HNR := hid hnr
  rw [hnl] at hcap hl32 ⊢
  rw [hnr] at hcap2 hr32 ⊢
  clear hnl hnr
  go_wp2_with fail
  have kT := Blk.new w3 #[.slice none 0 0, .int .i64 (nl : Int), .int .i64 (nr : Int)] 128
  have bT := alloc_below w3 (.cells #[.slice none 0 0, .int .i64 (nl : Int), .int .i64 (nr : Int)] 128)
  have kU4 := k3.below bT
  have bb4 := bb3.trans (bT.mono bb3.size)
  have hug : w.heap.size < w3.heap.size := k3.lt
  have hsT : w3.heap.size < (w3.alloc (.cells #[.slice none 0 0, .int .i64 (nl : Int), .int .i64 (nr : Int)] 128)).heap.size := kT.lt
  clear bT k3 bb3
  generalize w3.alloc (.cells #[.slice none 0 0, .int .i64 (nl : Int), .int .i64 (nr : Int)] 128) = w4 at kT kU4 bb4 hsT ⊢
  generalize w3.heap.size = gt at kT hug hsT ⊢
  clear w3
  generalize hF : w4.heap.size = F at hsT
  have HF := hid hF
  obtain ⟨B, hB⟩ : ∃ B, w.heap.size = B := ⟨_, rfl⟩
  rw [hB] at kU4 bb4 hug ⊢
  have HB := hid hB
  clear hF hB
  go_loopw [34] (fun z wr => ∃ (k : Nat) (vc : Value) (vs : Nat → Value), z = .int .i64 (k : Int) ∧ k ≤ nl ∧ Hid (Blk wr gt #[vc, .int .i64 (nl : Int), .int .i64 (nr : Int)] 128) ∧ Hid (wr.ownsRow F 37 1 vc k ((List.range k).map vs)) ∧ Hid (∀ i, i < k → ∃ g, vs i = slV g nr ∧ F ≤ g ∧ Blk wr g (arr nr fun j => .int .i64 (costC l r U i j)) 3) ∧ Keep (fun b => b < F ∧ b ≠ gt) w4 wr) (fun z _ => nl - (intOf z).toNat)
  case atStart => exact ⟨0, _, fun _ => undef, rfl, Nat.zero_le _, hid kT, hid (World.ownsRow_nil _ _ _ _), hid fun j hj => absurd hj (Nat.not_lt_zero _), Keep.refl _ _⟩
  case round =>
    obtain ⟨k, vc, vs, rfl, hk, HT, HO, HV, hkp⟩ := hrel
    by_cases hkn : k < nl
    case neg =>
      obtain rfl : nl = k := by omega
      have hk2 : ¬ (nl : Int) < (nl : Int) := by omega
      have HBf : Hid (Below B w wr) := hid (bb4.trans (hkp.below (by rw [HF.out]; omega) (fun b hb => ⟨by omega, by omega⟩)))
      have HTb : Hid (TabR (B ≤ ·) wr (.pointer (some ⟨gt, 0, none⟩)) nl nr (costC l r U)) := hid ⟨gt, vc, vs, rfl, by show B ≤ gt; omega, HT.out, SlS.of_sl (SlR.of_owns HO.out) (fun b hb _ => by show B ≤ b; omega), fun i hi => by
        obtain ⟨g, e1, e2, e3⟩ := HV.out i hi
        exact ⟨g, e1, by show B ≤ g; omega, e3⟩⟩
      clear HT HO HV hkp kT kU4 bb4
      go_wp2
      go_ret
      have h9 : TabR (w.heap.size ≤ ·) wr (.pointer (some ⟨gt, 0, none⟩)) nl nr (costC l r U) := by rw [HB.out]; exact HTb.out
      rw [HU.out, ← HNL.out, ← HNR.out] at h9
      refine ⟨⟨.pointer (some ⟨gt, 0, none⟩), rfl, ?_⟩, by rw [HB.out]; exact HBf.out⟩
      exact h9
    case pos =>
      have hk2 : (k : Int) < (nl : Int) := by omega
      obtain ⟨b, off, rfl, hb, x0, x1, x2, x3⟩ := g_cell HC.out (show k < l.length by rw [HNL.out]; exact hkn)
      have hgok : GOk (l.getD k g0) := HS.out.get (by rw [HNL.out]; exact hkn)
      have hgk : l.getD k ⟨0, 0, 0, 0⟩ = l.getD k g0 := rfl
      rw [hgk] at x0 x1 x2 x3
      obtain ⟨ga, hga⟩ : ∃ g, l.getD k g0 = g := ⟨_, rfl⟩
      rw [hga] at x0 x1 x2 x3 hgok
      have HGA := hid hga
      have HGAO := hid hgok
      clear hga hgok hgk
      have hk0 : Below B w wr := bb4.trans (hkp.below (by rw [HF.out]; omega) (fun b hb => ⟨by omega, by omega⟩))
      rw [HB.out] at hb
      replace x0 := (hk0.cell (p := ⟨b, off + k * 4, none⟩) hb).trans x0
      replace x1 := (hk0.cell (p := ⟨b, off + k * 4 + 1, none⟩) hb).trans x1
      replace x2 := (hk0.cell (p := ⟨b, off + k * 4 + 2, none⟩) hb).trans x2
      replace x3 := (hk0.cell (p := ⟨b, off + k * 4 + 3, none⟩) hb).trans x3
      obtain ⟨wo, rfl⟩ : ∃ wo : World, wo = wr := ⟨_, rfl⟩
      go_wp2_with (at_make; refine wpList_mka rfl (.tmp 39) (.tmp 39) 37 rfl 3 (.int .i64 0) 8 Try.underlying37 infoInt rfl _ _ nr rfl rfl (by omega) (by omega) ?_; intro w6 kw6 hb6 hz6; clear hz6)
      clear x0 x1 x2 x3
      have kA := Blk.new wo #[.int .i64 ga.a, .int .i64 ga.b, .int .i64 ga.c, .int .i64 ga.d] 33
      have bA := alloc_below wo (.cells #[.int .i64 ga.a, .int .i64 ga.b, .int .i64 ga.c, .int .i64 ga.d] 33)
      have bb6 := bA.trans (hb6.mono bA.size)
      have kA6 := kA.below hb6
      have HT6 := hid (HT.out.below bb6)
      have HO6 := hid (owns_below HO.out bb6)
      have HV6 : Hid (∀ i, i < k → ∃ g, vs i = slV g nr ∧ F ≤ g ∧ g < wo.heap.size ∧ Blk w6 g (arr nr fun j => .int .i64 (costC l r U i j)) 3) := hid fun i hi => by
        obtain ⟨g, e1, e2, e3⟩ := HV.out i hi
        exact ⟨g, e1, e2, e3.lt, e3.below bb6⟩
      have hkp6 := hkp.trans (Keep.of_below bb6)
      have hgA : F ≤ wo.heap.size := by rw [← HF.out]; exact hkp.size
      have hszA : (wo.alloc (.cells #[.int .i64 ga.a, .int .i64 ga.b, .int .i64 ga.c, .int .i64 ga.d] 33)).heap.size = wo.heap.size + 1 := by simp
      rw [hszA] at kw6
      clear kA bA hb6 bb6 HT HO HV hkp hk0 hb hszA
      generalize wo.heap.size = gA at kA6 hgA kw6 HV6 ⊢
      obtain ⟨gr, hgr⟩ : ∃ gr, gA + 1 = gr := ⟨_, rfl⟩
      rw [hgr] at kw6 ⊢
      have hgA2 : gA < gr := by omega
      clear hgr
      clear wo
      have HKA := hid kA6
      have HKP6 := hid hkp6
      clear kA6 hkp6
      go_loopw [43] (fun z wr => ∃ q : Nat, z = .int .i64 (q : Int) ∧ q ≤ nr ∧ Hid (Blk wr gr (arr nr fun j => .int .i64 (if j < q then costC l r U k j else 0)) 3) ∧ Keep (· ≠ gr) w6 wr) (fun z _ => nr - (intOf z).toNat)
      case atStart => exact ⟨0, rfl, Nat.zero_le _, hid (by simpa using kw6), Keep.refl _ _⟩
      case round =>
        obtain ⟨q, rfl, hq, HW, hkq⟩ := hrel
        by_cases hqn : q < nr
        case neg =>
          obtain rfl : nr = q := by omega
          have hq2 : ¬ (nr : Int) < (nr : Int) := by omega
          have hgtr : gt ≠ gr := by omega
          have HTr := hid (hkq.blk HT6.out hgtr)
          have HOr := hid (hkq.owns HO6.out (owns_blk_ne HO6.out kw6 (by decide)))
          have HWr : Hid (Blk wr gr (arr nr fun j => .int .i64 (costC l r U k j)) 3) := hid (by
            have := HW.out
            rw [arr_congr (f' := fun j => .int .i64 (costC l r U k j)) (fun i hi => by rw [if_pos hi])] at this
            exact this)
          have HVr : Hid (∀ i, i < k → ∃ g, vs i = slV g nr ∧ F ≤ g ∧ Blk wr g (arr nr fun j => .int .i64 (costC l r U i j)) 3) := hid fun i hi => by
            obtain ⟨g, e1, e2, e3, e4⟩ := HV6.out i hi
            exact ⟨g, e1, e2, hkq.blk e4 (by show g ≠ gr; omega)⟩
          have HKr := hid (HKP6.out.trans (hkq.mono (S' := fun b => b < F ∧ b ≠ gt) (fun b _ hb => by have h9 := hb.1; show b ≠ gr; omega)))
          have hFr : F ≤ wr.heap.size := by have := HWr.out.lt; omega
          have z0 := HTr.out.look 0 rfl
          have HGT := hid (by omega : gt < F)
          clear HT6 HO6 HV6 HKP6 HKA hkq HW hq hqn kw6 hgtr kU4 bb4 kT
          go_wp2_with (at_builtin; refine wpList_appO rfl (.tmp 60) (.tmp 62) _ rfl F 37 (.slice none 0 0) 1 24 Try.underlying76 infoInts rfl (by decide) 37 _ _ _ rfl HOr.out [.slice (some ⟨gr, 0, none⟩) nr nr] _ rfl rfl rfl (by simp [Value.oneCell']) (by unfold maxLen; omega) (by omega) hFr ?_; intro g5 c5 w5 ho5 hb5 hg5 hbg5 hl5 hor5; have kT5 := HTr.out.below' hb5 HGT.out; have x9 := kT5.look 0 rfl; have f9 := kT5.frozen 0; have l9 := kT5.lt)
          have hg6 : wr.grownBy w5 vc.ownBlock := hg5
          have HT9 := hid (kT5.set 0 (.slice (some ⟨g5, 0, none⟩) (k + 1) c5))
          have HO9 := hid (ownsRow_setCell_below ho5 (a := ⟨gt, 0, none⟩) HGT.out (.slice (some ⟨g5, 0, none⟩) (k + 1) c5))
          have hkb : ∀ {g : Nat} {cs : Array Value}, F ≤ g → Blk wr g cs 3 → Blk (w5.setCell ⟨gt, 0, none⟩ (.slice (some ⟨g5, 0, none⟩) (k + 1) c5)) g cs 3 := fun {g cs} hF hB =>
            Blk.other (p := ⟨gt, 0, none⟩) ((hg6.block g hB.lt (fun e => owns_blk_ne HOr.out hB (by decide) g e.symm rfl)).trans hB) (by have := HGT.out; show g ≠ gt; omega) _
          have HV9 : Hid (∀ i, i < k + 1 → ∃ g, (fun i => if i = k then slV gr nr else vs i) i = slV g nr ∧ F ≤ g ∧ Blk (w5.setCell ⟨gt, 0, none⟩ (.slice (some ⟨g5, 0, none⟩) (k + 1) c5)) g (arr nr fun j => .int .i64 (costC l r U i j)) 3) := hid fun i hi => by
            by_cases e : i = k
            · subst e
              exact ⟨gr, if_pos rfl, by omega, hkb (by omega) HWr.out⟩
            · obtain ⟨g, e1, e2, e3⟩ := HVr.out i (by omega)
              exact ⟨g, (if_neg e).trans e1, e2, hkb e2 e3⟩
          have hkf : Keep (fun b => b < F ∧ b ≠ gt) wr (w5.setCell ⟨gt, 0, none⟩ (.slice (some ⟨g5, 0, none⟩) (k + 1) c5)) := (Keep.of_below' hb5 (fun _ _ h => h.1)).trans (Keep.set w5 (p := ⟨gt, 0, none⟩) (fun h => h.2 rfl) _)
          have HKf := hid (HKr.out.trans hkf)
          have hmap : (List.range (k + 1)).map (fun i => if i = k then slV gr nr else vs i) = (List.range k).map vs ++ [Value.slice (some ⟨gr, 0, none⟩) nr nr] := by
            rw [List.range_succ, List.map_append]
            congr 1
            · exact List.map_congr_left fun i hi => if_neg (by have := List.mem_range.1 hi; omega)
            · simp [slV]
          have HMAP := hid hmap
          clear hg5 hor5 hg6 hkb hkf hmap HTr HOr HVr HKr HWr x9 f9 l9 kT5 ho5 hb5
          go_roundw
          case rel => exact ⟨k + 1, _, fun i => if i = k then slV gr nr else vs i, by go_num, by omega, HT9, hid (by rw [HMAP.out]; exact HO9.out), HV9, HKf.out⟩
          case measure => simp [intOf]; omega
        case pos =>
          have hq2 : (q : Int) < (nr : Int) := by omega
          obtain ⟨b2, off2, rfl, hb2, x0, x1, x2, x3⟩ := g_cell HC2.out (show q < r.length by rw [HNR.out]; exact hqn)
          have hgok : GOk (r.getD q g0) := HS2.out.get (by rw [HNR.out]; exact hqn)
          have hgk : r.getD q ⟨0, 0, 0, 0⟩ = r.getD q g0 := rfl
          have hcv : costC l r U k q = costV U (l.getD k g0) (r.getD q g0) := rfl
          rw [hgk] at x0 x1 x2 x3
          rw [HGA.out] at hcv
          obtain ⟨gb, hgb⟩ : ∃ g, r.getD q g0 = g := ⟨_, rfl⟩
          rw [hgb] at x0 x1 x2 x3 hgok hcv
          have CO := hid (fun w => cost_any U ga gb w (by rw [HU.out]; exact HR.out) HGAO.out hgok)
          obtain ⟨cv, hcv2⟩ : ∃ c, costV U ga gb = c := ⟨_, rfl⟩
          rw [hcv2] at CO hcv
          rw [HU.out] at CO
          have HCV := hid hcv
          have hkq6 := HKP6.out.trans (hkq.mono (S' := fun b => b < F ∧ b ≠ gt) (fun b _ hb => by have h9 := hb.1; show b ≠ gr; omega))
          have hk0 : Below B w wr := bb4.trans (hkq6.below (by rw [HF.out]; omega) (fun b hb => ⟨by omega, by omega⟩))
          rw [HB.out] at hb2
          replace x0 := (hk0.cell (p := ⟨b2, off2 + q * 4, none⟩) hb2).trans x0
          replace x1 := (hk0.cell (p := ⟨b2, off2 + q * 4 + 1, none⟩) hb2).trans x1
          replace x2 := (hk0.cell (p := ⟨b2, off2 + q * 4 + 2, none⟩) hb2).trans x2
          replace x3 := (hk0.cell (p := ⟨b2, off2 + q * 4 + 3, none⟩) hb2).trans x3
          have kUr := hkq6.blk kU4 ⟨by omega, by omega⟩
          have kAr := hkq.blk HKA.out (by show gA ≠ gr; omega)
          have bB := alloc_below wr (.cells #[.int .i64 gb.a, .int .i64 gb.b, .int .i64 gb.c, .int .i64 gb.d] 33)
          have kB := Blk.new wr #[.int .i64 gb.a, .int .i64 gb.b, .int .i64 gb.c, .int .i64 gb.d] 33
          have kU5 := kUr.below bB
          have kA5 := kAr.below bB
          have HW5 := hid (HW.out.below bB)
          have hk5 := hkq.trans (Keep.of_below bB)
          have r0 := kU5.look 0 rfl
          have r1 := kU5.look 1 rfl
          have r2 := kU5.look 2 rfl
          have r3 := kU5.look 3 rfl
          have r4 := kU5.look 4 rfl
          have r5 := kU5.look 5 rfl
          have r6 := kU5.look 6 rfl
          have r7 := kU5.look 7 rfl
          have a0 := kA5.look 0 rfl
          have a1 := kA5.look 1 rfl
          have a2 := kA5.look 2 rfl
          have a3 := kA5.look 3 rfl
          clear hgok hgk hcv hgb hcv2 hk0 kUr kAr bB kB kU5 kA5 HW hkq hkq6
          go_wp2_with fail
          refine (CO.out _).mono ?_
          rintro e9 w7 ⟨rfl, hb7⟩
          have HW7 := hid (HW5.out.below hb7)
          have hk7 := hk5.trans (Keep.of_below hb7)
          clear x0 x1 x2 x3 r0 r1 r2 r3 r4 r5 r6 r7 a0 a1 a2 a3 CO HW5 hk5 hb7
          have c0 := HW7.out.arr_look hqn
          have f0 := HW7.out.frozen q
          have l0 := HW7.out.lt
          have HW8 : Hid (Blk (w7.setCell ⟨gr, q, none⟩ (.int .i64 cv)) gr (arr nr fun j => .int .i64 (if j < q + 1 then costC l r U k j else 0)) 3) := hid (by
            have := HW7.out.arr_set q (.int .i64 cv)
            rw [arr_congr (f' := fun j => .int .i64 (if j < q + 1 then costC l r U k j else 0)) (fun i hi => by
              by_cases h1 : i = q
              · subst h1; rw [if_pos rfl, if_pos (by omega), HCV.out]
              · rw [if_neg h1]
                by_cases h2 : i < q
                · rw [if_pos h2, if_pos (by omega)]
                · rw [if_neg h2, if_neg (by omega)])] at this
            exact this)
          have hk8 := hk7.trans (Keep.set w7 (p := ⟨gr, q, none⟩) (fun h => h rfl) (.int .i64 cv))
          clear hk7 HW7
          go_wp2
          go_roundw
          case rel => exact ⟨q + 1, by go_num, by omega, HW8, hk8⟩
          case measure => simp [intOf]; omega

end Go.Proofs.Ytcpefolhohakmaa
