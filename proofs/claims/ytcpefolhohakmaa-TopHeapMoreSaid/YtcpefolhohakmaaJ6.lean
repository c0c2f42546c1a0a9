/- Walk of Odd: the odd classes without some gloves. -/
import Derived.Test.YtcpefolhohakmaaJ4
import Derived.Test.YtcpefolhohakmaaJ5
namespace Go.Proofs.Ytcpefolhohakmaa
open Go.RowKit
attribute [local irreducible] seqS seqST walkV walkJ

theorem take_snoc_mem {b : List Nat} {k x : Nat} (hk : k < b.length) : x ∈ b.take (k + 1) ↔ x ∈ b.take k ∨ x = b.getD k 0 := by
  rw [take_getD hk, List.mem_append, List.mem_singleton]
theorem sorted_lt {b : List Nat} (hs : b.Pairwise (· < ·)) {k : Nat} (hk : k + 1 < b.length) : b.getD k 0 < b.getD (k + 1) 0 := by
  rw [List.getD_eq_getElem?_getD, List.getD_eq_getElem?_getD, List.getElem?_eq_getElem hk, List.getElem?_eq_getElem (by omega)]
  exact List.pairwise_iff_getElem.1 hs k (k + 1) (by omega) hk (by omega)

theorem getD_left {c : List Nat} (d : List Nat) {j : Nat} (h : j < c.length) : (c ++ d).getD j 0 = c.getD j 0 := by
  rw [List.getD_eq_getElem?_getD, List.getD_eq_getElem?_getD, List.getElem?_append_left h]
theorem graph_open {S : Nat → Prop} {w : World} {g0 n : Nat} {nb : Nat → List Nat} (h : GrR S w (.pointer (some ⟨g0, 0, none⟩)) n nb) : ∃ gw vs, Blk w g0 #[.int .i64 (n : Int), .slice (some ⟨gw, 0, none⟩) n n] 78 ∧ Blk w gw (arr n vs) 37 ∧ S g0 ∧ S gw ∧ ∀ i, i < n → NatS S w (vs i) (nb i) := by
  obtain ⟨g, gw, vs, e, h1, h2, h3, h4, h5⟩ := h
  cases e
  exact ⟨gw, vs, h3, h4, h1, h2, h5⟩

set_option maxHeartbeats 8000000 in
set_option maxRecDepth 100000 in
theorem Odd_yes (l : List Gv) (u : Ru) (v vb : Value) (b : List Nat) (w : World) (h : GsR 0 w v l) (hS : SideOk l) (hR : RuOk u) (hb : SlR 0 w vb b.length (natI b)) (hbl : ∀ x ∈ b, x < l.length) (hbs : b.Pairwise (· < ·)) :
    Calls Try.prog 14 #[v, ruV u, vb] w fun r w' => (∃ cs, r = .returned (.tuple #[.int .i64 (odds cs : Int), .int .i64 0]) ∧ Cls l.length (fun i j => adjB l u i j = true) (fun x => x ∈ b) cs) ∧ Below w.heap.size w w' := by
  have HH := hid (fun w h => heaped_yes l u v w h hS hR)
  have h32 := hS.1
  have G := adjB_gr l u
  obtain ⟨ad, had⟩ : ∃ ad, adjB l u = ad := ⟨_, rfl⟩
  obtain ⟨n, hn⟩ : ∃ n, l.length = n := ⟨_, rfl⟩
  rw [had, hn] at HH G
  rw [had, hn]
  rw [hn] at h32 hbl
  clear hS hR had hn
  obtain ⟨ab, capb, rfl, hcapb, hmaxb, -⟩ := id hb
  have HB0 := hid hb
  obtain ⟨L, hL⟩ : ∃ L, b.length = L := ⟨_, rfl⟩
  rw [hL] at hcapb HB0 ⊢
  have HL := hid hL
  have HBL := hid hbl
  have HBS := hid hbs
  clear hb hL hbl hbs
  obtain ⟨U, hU⟩ : ∃ U, u = U := ⟨_, rfl⟩
  have HU := hid hU.symm
  clear hU
  obtain ⟨⟨wa, wb, wc, wd⟩, ⟨la, lb, lc, ld⟩⟩ := u
  have kU := Blk.new w #[.int .i64 wa, .int .i64 wb, .int .i64 wc, .int .i64 wd, .int .i64 la, .int .i64 lb, .int .i64 lc, .int .i64 ld] 35
  have bU := alloc_below w (.cells #[.int .i64 wa, .int .i64 wb, .int .i64 wc, .int .i64 wd, .int .i64 la, .int .i64 lb, .int .i64 lc, .int .i64 ld] 35)
  have hLU := hid (h.below bU)
  have x0 := kU.look 0 rfl
  have x1 := kU.look 1 rfl
  have x2 := kU.look 2 rfl
  have x3 := kU.look 3 rfl
  have x4 := kU.look 4 rfl
  have x5 := kU.look 5 rfl
  have x6 := kU.look 6 rfl
  have x7 := kU.look 7 rfl
  have HB1 := hid (HB0.out.below bU)
  go_enter Try.func14, Try.ntmps14
  go_wp2_with fail
  refine (HH.out _ hLU.out).mono ?_
  rintro r w1 ⟨⟨p, rfl, hp⟩, hb1⟩
  have bb1 := bU.trans (hb1.mono bU.size)
  have HB2 := hid (HB1.out.below hb1)
  have HGR := hid hp
  obtain ⟨g0, gw0, vs, rfl, -, -, kg, -, -⟩ := id hp
  have y0 := kg.look 0 rfl
  unfold maxLen at hmaxb
  clear HH hLU kU bU x0 x1 x2 x3 x4 x5 x6 x7 hb1 hp HB0 HB1
  go_wp2_with (at_make; refine wpList_mka rfl (.tmp 26) (.tmp 26) 80 rfl 4 (.bool false) 1 Try.underlying80 infoBool2 rfl _ _ n rfl rfl (by omega) (by omega) ?_; intro w4 kw4 hb4 hz4; clear hz4)
  obtain ⟨gs, hgs⟩ : ∃ gs, w1.heap.size = gs := ⟨_, rfl⟩
  rw [hgs]
  rw [hgs] at kw4
  have HG4 := hid (GrR.below_lt (S' := (· < gs)) HGR.out hb4 (fun b hb _ => by omega))
  have HB4 := hid (SlS.of_sl (S := (· < gs)) HB2.out (fun b _ hb => by omega))
  have HB5 := hid (SlS.keep HB4.out (Keep.of_below (S := fun _ => True) hb4) (fun _ _ _ => trivial))
  have HBB := hid (bb1.trans (hb4.mono bb1.size))
  have HGS : Hid (w.heap.size ≤ gs) := hid (by rw [← hgs]; exact bb1.size)
  have HK4 := hid kw4
  obtain ⟨gw, hgx⟩ := graph_open HG4.out
  have HGX := hid hgx
  clear hgx
  clear bb1 HB2 HB4 HGR hb4 kg y0 hgs kw4
  have HG0 : Hid (∃ vs, Blk w4 g0 #[.int .i64 (n : Int), .slice (some ⟨gw, 0, none⟩) n n] 78 ∧ Blk w4 gw (arr n vs) 37 ∧ g0 < gs ∧ gw < gs ∧ ∀ i, i < n → NatS (· < gs) w4 (vs i) (nbT ad i n)) := hid HGX.out
  clear HG4 HGX
  go_loopw [30] (fun z wr => ∃ k : Nat, z = .int .i64 (k : Int) ∧ k ≤ L ∧ Hid (Blk wr gs (arr n fun x => .bool (decide (x ∈ b.take k))) 4) ∧ Keep (· < gs) w4 wr) (fun z _ => L - (intOf z).toNat)
  case atStart => exact ⟨0, rfl, Nat.zero_le _, hid (by simpa using HK4.out), Keep.refl _ _⟩
  case round =>
    obtain ⟨k, rfl, hk, HW, hkp⟩ := hrel
    obtain ⟨vs, hG1, hG2, hG3, hG4, hG5⟩ := HG0.out
    have kg := hkp.blk hG1 (by show g0 < gs; exact hG3)
    by_cases hkl : k < L
    case pos =>
      have hk2 : (k : Int) < (L : Int) := by omega
      have hkb : k < b.length := by rw [HL.out]; exact hkl
      obtain ⟨rb, ro, e, _, _, xk⟩ := nat_cell (S := (· < gs)) (w := wr) (ao := ab) (cap := capb) (n := L) (l := b) (by rw [HL.out]; exact SlS.keep HB5.out hkp (fun _ _ h => h)) hkb
      cases e
      have hyn := HBL.out _ (getD_mem hkb)
      have hst : ∀ x, decide (x ∈ b.take (k + 1)) = (if x = b.getD k 0 then true else decide (x ∈ b.take k)) := fun x => by
        rw [Bool.eq_iff_iff, decide_eq_true_iff, take_snoc_mem hkb]
        by_cases e : x = b.getD k 0
        · simp [e]
        · rw [if_neg e, decide_eq_true_iff]
          exact ⟨fun h => h.resolve_right e, .inl⟩
      have y0 := kg.look 0 rfl
      obtain ⟨y, hy⟩ : ∃ y, b.getD k 0 = y := ⟨_, rfl⟩
      rw [hy] at xk hyn hst
      have HY := hid hy
      have HST := hid hst
      have hy0 : ¬ (y : Int) < 0 := by omega
      have hy1 : ¬ (n : Int) ≤ (y : Int) := by omega
      have x0 := HW.out.arr_look hyn
      have f0 := HW.out.frozen y
      have l0 := HW.out.lt
      have HW2 : Hid (Blk (wr.setCell ⟨gs, y, none⟩ (.bool true)) gs (arr n fun x => .bool (decide (x ∈ b.take (k + 1)))) 4) := hid (by
        have := HW.out.arr_set y (.bool true)
        rw [arr_congr (f' := fun x => .bool (decide (x ∈ b.take (k + 1)))) (fun x _ => by
          rw [HST.out x]
          by_cases e : x = y
          · rw [if_pos e, if_pos e]
          · rw [if_neg e, if_neg e])] at this
        exact this)
      have hkp2 := hkp.trans (Keep.set (S := (· < gs)) wr (p := ⟨gs, y, none⟩) (fun h => Nat.lt_irrefl gs h) (.bool true))
      have HKP2 := hid hkp2
      cases k with
      | zero =>
        rw [Nat.add_zero] at xk
        clear hst hy hG1 hG2 hG5 HW hkp hkp2 hkb
        go_wp2
        go_roundw
        case rel => exact ⟨1, by go_num, by omega, HW2, HKP2.out⟩
        case measure => simp [intOf]; omega
      | succ k =>
        have hlt := sorted_lt HBS.out hkb
        rw [hy] at hlt
        obtain ⟨rb', ro', e', _, _, xp⟩ := nat_cell (S := (· < gs)) (w := wr) (ao := some ⟨rb, ro, none⟩) (cap := capb) (n := L) (l := b) (i := k) (by rw [HL.out]; exact SlS.keep HB5.out hkp (fun _ _ h => h)) (by omega)
        cases e'
        obtain ⟨y', hy'⟩ : ∃ y', b.getD k 0 = y' := ⟨_, rfl⟩
        rw [hy'] at xp hlt
        have hk0 : (0 : Int) < ((k + 1 : Nat) : Int) := by omega
        have hlt2 : ¬ (y : Int) ≤ (y' : Int) := by omega
        have hk1 : ((k + 1 : Nat) : Int) - 1 = (k : Int) := by omega
        have hk3 : (k : Int) < (L : Int) := by omega
        clear hst hy hG1 hG2 hG5 HW hkp hkp2 hkb hlt hy'
        go_wp2_with fail
        go_roundw
        case rel => exact ⟨k + 2, by go_num, by omega, HW2, HKP2.out⟩
        case measure => simp [intOf]; omega
    case neg =>
      obtain rfl : L = k := by omega
      have hk2 : ¬ (L : Int) < (L : Int) := by omega
      have hcs : b.take L = b := List.take_of_length_le (by rw [HL.out]; exact Nat.le_refl _)
      rw [hcs] at HW
      clear hk hkl hcs kg hG1 hG2 hG5 HB5
      go_wp2_with fail
      have HKW := hid hkp
      have HOD := hid (OdI.start (n := n) (adj := fun i j => ad i j = true) (A := fun x => x ∈ b) (s := fun x => decide (x ∈ b)) (fun x => by simp))
      clear hkp
      go_loopw [12, 64] (fun zo z wr => ∃ (i : Nat) (s : Nat → Bool) (cs : List (List Nat)), z = .int .i64 (i : Int) ∧ zo = .int .i64 (odds cs : Int) ∧ i ≤ n ∧ odds cs ≤ i ∧ Hid (Blk wr gs (arr n fun x => .bool (s x)) 4) ∧ Hid (OdI n (fun i j => ad i j = true) (fun x => x ∈ b) cs s i) ∧ Hid (Keep (· < gs) w4 wr)) (fun _ z _ => n - (intOf z).toNat)
      case atStart => exact ⟨0, _, [], rfl, rfl, Nat.zero_le _, Nat.le_refl _, HW, HOD, HKW⟩
      case round =>
        obtain ⟨i, s, cs, rfl, rfl, hi, hoi, HS, HO, HK⟩ := hrel
        clear HW HOD HKW
        by_cases hin : i < n
        case neg =>
          obtain rfl : n = i := by omega
          have hk2 : ¬ (n : Int) < (n : Int) := by omega
          have HBf := hid (HBB.out.trans (HK.out.below HBB.out.size (fun b hb => by have := HGS.out; show b < gs; omega)))
          go_wp2
          go_ret2
          exact ⟨⟨cs, rfl, HO.out.cls⟩, HBf.out⟩
        case pos =>
          have hi2 : (i : Int) < (n : Int) := by omega
          have x0 := HS.out.arr_look hin
          cases hsi : s i with
          | true =>
            rw [hsi] at x0
            have HO2 := hid (HO.out.skip hsi)
            clear hsi HO
            go_wp2
            go_roundw
            case rel => exact ⟨i + 1, s, cs, by go_num, rfl, by omega, by omega, HS, HO2, HK⟩
            case measure => simp [intOf]; omega
          | false =>
            rw [hsi] at x0
            have HC0 := hid (OcI.start HO.out hin hsi)
            have hsz : (wr.setCell ⟨gs, i, none⟩ (.bool true)).heap.size = wr.heap.size := by simp [World.setCell]
            have kN := Blk.new (wr.setCell ⟨gs, i, none⟩ (.bool true)) #[.int .i64 (i : Int)] 3
            rw [hsz] at kN
            have HQ0 : Hid (QuR ((wr.setCell ⟨gs, i, none⟩ (.bool true)).alloc (.cells #[.int .i64 (i : Int)] 3)) (gs < ·) (.slice (some ⟨wr.heap.size, 0, none⟩) 1 1) [i]) := hid (QuR.one kN HS.out.lt)
            have HS0 : Hid (Blk ((wr.setCell ⟨gs, i, none⟩ (.bool true)).alloc (.cells #[.int .i64 (i : Int)] 3)) gs (arr n fun x => .bool (setB s i x)) 4) := hid (by
              have := (HS.out.arr_set i (.bool true)).alloc (.cells #[.int .i64 (i : Int)] 3)
              rw [arr_bool_set] at this
              exact this)
            have HK0 : Hid (Keep (· < gs) w4 ((wr.setCell ⟨gs, i, none⟩ (.bool true)).alloc (.cells #[.int .i64 (i : Int)] 3))) := hid ((HK.out.trans (Keep.set (S := (· < gs)) _ (p := ⟨gs, i, none⟩) (fun h => Nat.lt_irrefl gs h) (.bool true))).trans (Keep.alloc _ _ _))
            clear hsz kN
            have xa := (HS.out.alloc (.cells #[.int .i64 (i : Int)] 3)).arr_look hin
            have fa := (HS.out.alloc (.cells #[.int .i64 (i : Int)] 3)).frozen i
            have lsa := (HS.out.alloc (.cells #[.int .i64 (i : Int)] 3)).lt
            have fb := HS.out.frozen i
            have lsb := HS.out.lt
            rw [hsi] at xa
            clear hsi HS HK
            go_wp2_with fail
            clear xa fa lsa fb lsb x0
            generalize (wr.setCell ⟨gs, i, none⟩ (.bool true)).alloc (.cells #[.int .i64 (i : Int)] 3) = W0 at HQ0 HS0 HK0 ⊢
            generalize wr.heap.size = H0 at HQ0 ⊢
            go_loopw [14, 15] (fun zc zk wr => ∃ (k : Nat) (t : Nat → Bool) (c : List Nat), zk = .int .i64 (k : Int) ∧ k ≤ c.length ∧ Hid (QuR wr (gs < ·) zc c) ∧ Hid (Blk wr gs (arr n fun x => .bool (t x)) 4) ∧ Hid (OcI n (fun i j => ad i j = true) (fun x => x ∈ b) cs s i t c) ∧ Hid (∀ j, j < k → ∀ y, ad (c.getD j 0) y = true → t y = true) ∧ Hid (Keep (· < gs) w4 wr)) (fun _ zk _ => n - (intOf zk).toNat)
            case atStart => exact ⟨0, _, _, rfl, Nat.zero_le _, HQ0, HS0, HC0, hid (fun j h => absurd h (Nat.not_lt_zero _)), HK0⟩
            case round =>
              obtain ⟨k, t, c, rfl, hk, HQ, HT, HC, HD, HK⟩ := hrel
              clear HQ0 HS0 HC0 HK0
              have hcl := HC.out.len
              obtain ⟨gq, off, cap, cur, rfl, -⟩ := id HQ.out
              obtain ⟨lc, hlc⟩ : ∃ z, c.length = z := ⟨_, rfl⟩
              have HLC := hid hlc
              by_cases hkc : k < lc
              case neg =>
                have hkc2 : ¬ (k : Int) < (lc : Int) := by omega
                have HO2 := hid (HC.out.close HO.out G.sym (fun x hx y hxy => by
                  obtain ⟨j, hj, e⟩ := List.mem_iff_getElem.1 hx
                  refine HD.out j (by omega) y ?_
                  rw [List.getD_eq_getElem?_getD, List.getElem?_eq_getElem hj]
                  show ad (c[j]) y = true
                  rw [e]; exact hxy))
                have hod := odds_snoc cs c
                rw [hlc] at hod
                have HOS := hid hod
                have hlc0 : (0 : Int) ≤ (lc : Int) := Int.natCast_nonneg _
                rw [hlc] at hcl HQ ⊢
                have hmod : lc % 2 ≤ 1 := by omega
                have hmod2 : ((lc % 2 : Nat) : Int) = (lc : Int) % 2 := by omega
                clear hod hlc
                go_wp2_with fail
                go_roundw
                case rel => exact ⟨i + 1, t, cs ++ [c], by go_num, by rw [HOS.out]; go_num, by omega, by rw [HOS.out]; omega, HT, HO2, HK⟩
                case measure => simp [intOf]; omega
              case pos =>
                have hkc2 : (k : Int) < (lc : Int) := by omega
                have hkc3 : k < c.length := by omega
                obtain ⟨vs, hG1, hG2, hG3, hG4, hG5⟩ := HG0.out
                have hmx := getD_mem hkc3
                obtain ⟨hxn, -, -⟩ := HC.out.ok _ hmx
                have xc := HQ.out.cell hkc3
                have kg := HK.out.blk hG1 (by show g0 < gs; exact hG3)
                have kw := HK.out.blk hG2 (by show gw < gs; exact hG4)
                have hrw : NatS (· < gs) wr (vs (c.getD k 0)) (nbT ad (c.getD k 0) n) := SlS.keep (hG5 _ hxn) HK.out (fun _ _ h => h)
                obtain ⟨x, hx⟩ : ∃ x, c.getD k 0 = x := ⟨_, rfl⟩
                have HX := hid hx
                rw [hx] at xc hrw hxn hmx
                have HMX := hid hmx
                have z1 := fun y : SubT (Below wr.heap.size) wr.drew => (kg.drew.below' y.b kg.lt).look 1 rfl
                have zw := fun y : SubT (Below wr.heap.size) wr.drew => (kw.drew.below' y.b kw.lt).arr_look hxn
                have zc := fun y : SubT (Below wr.heap.size) wr.drew => (HQ.out.below ((Below.refl wr.heap.size wr).drew.trans y.b)).cell hkc3
                simp only [hx] at zc
                have HRW := hid hrw
                obtain ⟨ra, rc, hrv, -⟩ := id hrw
                rw [hrv] at HRW
                simp only [hrv] at zw
                obtain ⟨row, hrow⟩ : ∃ r, nbT ad x n = r := ⟨_, rfl⟩
                have HRM : Hid (∀ y, y ∈ row ↔ y < n ∧ ad x y = true) := hid (by rw [← hrow]; exact nbT_mem ad x n)
                have hrl := nbT_len ad x n
                rw [hrow] at HRW hrl
                simp only [hrow] at zw
                obtain ⟨ml, hml⟩ : ∃ r, row.length = r := ⟨_, rfl⟩
                rw [hml] at HRW hrl
                simp only [hml] at zw
                have HML := hid hml
                have hx2 : (x : Int) < (n : Int) := by omega
                rw [hlc] at HQ hcl ⊢
                clear hx hmx hrw hrv hrow hml hlc hG1 hG2 hG5 kw hkc3 hk xc kg
                go_wp2_with fail
                refine wp_walkJ (T := Below (wr.heap.size)) (belowV_pre _) (.rd 0 (.rd 1 (.rd 2 (.rd 3 (.rd 4 (.rd 5 (.rd 6 (.rd 7 (.rd 8 (.rd 9 (.rd 10 (.rd 11 (.inv []))))))))))))) (by kernel_rfl) rfl (by kernel_rfl) (by kernel_rfl) ?_
                iterate 12 (refine walkJ_rd rfl (fun K hK => ?_); go_simp; refine hK _ ?_; clear hK K)
                refine walkJ_nil ?_
                clear z1 zw zc
                have hbd := (Below.refl wr.heap.size wr).drew
                have HQ1 := hid (HQ.out.below hbd)
                have HT1 := hid (HT.out.below hbd)
                have HK1 := hid (HK.out.trans (Keep.of_below hbd))
                have HRW1 := hid (SlS.keep HRW.out (Keep.of_below (S := fun _ => True) hbd) (fun _ _ _ => trivial))
                clear hbd HQ HT HK HRW
                generalize wr.drew = W1 at HQ1 HT1 HK1 HRW1 ⊢
                go_wp2_with fail
                have HX0 : Hid (c.getD k 0 = x ∧ k < c.length ∧ x ∈ c) := hid ⟨HX.out, by rw [HLC.out]; exact hkc, HMX.out⟩
                have HQ2 : Hid (∃ l2, Value.slice (some ⟨gq, off, none⟩) lc cap = .slice (some ⟨gq, off, none⟩) l2 cap ∧ l2 = c.length) := hid ⟨lc, rfl, HLC.out.symm⟩
                clear HQ2 HX HMX
                go_loopw [14, 93] (fun zc zd wr => ∃ (d : Nat) (t : Nat → Bool) (c : List Nat), zd = .int .i64 (d : Int) ∧ d ≤ ml ∧ Hid (QuR wr (gs < ·) zc c) ∧ Hid (Blk wr gs (arr n fun x => .bool (t x)) 4) ∧ Hid (OcI n (fun i j => ad i j = true) (fun x => x ∈ b) cs s i t c) ∧ Hid (∀ j, j < k → ∀ y, ad (c.getD j 0) y = true → t y = true) ∧ Hid (∀ y ∈ row.take d, t y = true) ∧ Hid (c.getD k 0 = x ∧ k < c.length ∧ x ∈ c) ∧ Hid (Keep (· < gs) W1 wr)) (fun _ zd _ => ml - (intOf zd).toNat)
                case atStart => exact ⟨0, t, c, rfl, Nat.zero_le _, HQ1, HT1, HC, HD, hid (fun y hy => by simp at hy), HX0, hid (Keep.refl _ _)⟩
                case round =>
                  obtain ⟨d, t, c, rfl, hd, HQ, HT, HC, HD, HR, HX, HK⟩ := hrel
                  clear HQ1 HT1 HX0
                  have hcl := HC.out.len
                  by_cases hdm : d < ml
                  case neg =>
                    obtain rfl : ml = d := by omega
                    have hd2 : ¬ (ml : Int) < (ml : Int) := by omega
                    have HD2 : Hid (∀ j, j < k + 1 → ∀ y, ad (c.getD j 0) y = true → t y = true) := hid (fun j hj y hy => by
                      by_cases e : j = k
                      · rw [e, HX.out.1] at hy
                        refine HR.out y ?_
                        rw [List.take_of_length_le (by rw [HML.out]; exact Nat.le_refl _)]
                        exact (HRM.out y).2 ⟨(G.lt _ _ hy).2, hy⟩
                      · exact HD.out j (by omega) y hy)
                    have HK2 := hid (HK1.out.trans HK.out)
                    have hkn : k < n := by have := HX.out.2.1; omega
                    clear HD HR
                    go_wp2_with fail
                    go_roundw
                    case rel => exact ⟨k + 1, t, c, by go_num, HX.out.2.1, HQ, HT, HC, HD2, HK2⟩
                    case measure => simp [intOf]; omega
                  case pos =>
                    have hd2 : (d : Int) < (ml : Int) := by omega
                    have hdr : d < row.length := by rw [HML.out]; exact hdm
                    have hrow := SlS.keep HRW1.out HK.out (fun _ _ h => h)
                    obtain ⟨rb, ro, e, _, _, xk⟩ := nat_cell (l := row) hrow hdr
                    cases e
                    have htk := take_getD hdr
                    obtain ⟨hyn, hyx⟩ := (HRM.out _).1 (getD_mem hdr)
                    obtain ⟨y, hy⟩ : ∃ y, row.getD d 0 = y := ⟨_, rfl⟩
                    rw [hy] at xk htk hyn hyx
                    have HTK := hid htk
                    have HYX : Hid (ad x y = true) := hid hyx
                    have hyn2 : (y : Int) < (n : Int) := by omega
                    have xt := HT.out.arr_look hyn
                    clear htk hyx hy hrow hdr
                    cases hty : t y with
                    | true =>
                      rw [hty] at xt
                      have HR2 : Hid (∀ y ∈ row.take (d + 1), t y = true) := hid (fun z hz => by
                        rw [HTK.out] at hz
                        rcases List.mem_append.1 hz with h | h
                        · exact HR.out z h
                        · rw [List.mem_singleton.1 h]; exact hty)
                      clear hty HR
                      go_wp2
                      go_roundw
                      case rel => exact ⟨d + 1, t, c, by go_num, by omega, HQ, HT, HC, HD, HR2, HX, HK⟩
                      case measure => simp [intOf]; omega
                    | false =>
                      rw [hty] at xt
                      have HTY := hid hty
                      have ft := HT.out.frozen y
                      have lt := HT.out.lt
                      clear hty
                      have hsz : (wr.setCell ⟨gs, y, none⟩ (.bool true)).heap.size = wr.heap.size := by simp [World.setCell]
                      have kN := Blk.new (wr.setCell ⟨gs, y, none⟩ (.bool true)) #[.int .i64 (y : Int)] 3
                      rw [hsz] at kN
                      have HN := hid kN
                      have HQs := hid ((HQ.out.keep (Keep.set (S := (gs < ·)) wr (p := ⟨gs, y, none⟩) (fun h => Nat.lt_irrefl gs h) (.bool true)) (fun _ h => h)).keep (Keep.alloc (gs < ·) _ (.cells #[.int .i64 (y : Int)] 3)) (fun _ h => h))
                      have HTs : Hid (Blk ((wr.setCell ⟨gs, y, none⟩ (.bool true)).alloc (.cells #[.int .i64 (y : Int)] 3)) gs (arr n fun x => .bool (setB t y x)) 4) := hid (by
                        have := (HT.out.arr_set y (.bool true)).alloc (.cells #[.int .i64 (y : Int)] 3)
                        rw [arr_bool_set] at this
                        exact this)
                      have HKs : Hid (Keep (· < gs) W1 ((wr.setCell ⟨gs, y, none⟩ (.bool true)).alloc (.cells #[.int .i64 (y : Int)] 3))) := hid ((HK.out.trans (Keep.set (S := (· < gs)) _ (p := ⟨gs, y, none⟩) (fun h => Nat.lt_irrefl gs h) (.bool true))).trans (Keep.alloc _ _ _))
                      have HPP : Hid (∀ g, ((wr.setCell ⟨gs, y, none⟩ (.bool true)).alloc (.cells #[.int .i64 (y : Int)] 3)).heap.size ≤ g → gs < g) := hid (fun g hg => by have := HTs.out.lt; omega)
                      have HLQ : Hid (c.length ≤ 100000) := hid (by omega)
                      have HC2 := hid (HC.out.add HO.out HX.out.2.2 HYX.out hyn HTY.out)
                      have HD2 : Hid (∀ j, j < k → ∀ z, ad ((c ++ [y]).getD j 0) z = true → setB t y z = true) := hid (fun j hj z hz => by
                        have hjc : j < c.length := by have := HX.out.2.1; omega
                        rw [getD_left _ hjc] at hz
                        exact (setB_iff _ _ _).2 (.inl (HD.out j hj z hz)))
                      have HR2 : Hid (∀ z ∈ row.take (d + 1), setB t y z = true) := hid (fun z hz => by
                        rw [HTK.out] at hz
                        rcases List.mem_append.1 hz with h | h
                        · exact (setB_iff _ _ _).2 (.inl (HR.out z h))
                        · exact (setB_iff _ _ _).2 (.inr (List.mem_singleton.1 h)))
                      have HX2 : Hid ((c ++ [y]).getD k 0 = x ∧ k < (c ++ [y]).length ∧ x ∈ c ++ [y]) := hid ⟨by rw [getD_left _ HX.out.2.1]; exact HX.out.1, by have := HX.out.2.1; simp; omega, by simp [HX.out.2.2]⟩
                      clear HQ HT HK HD HR HTK HYX HTY hsz kN
                      go_wp2_with (at_builtin; refine wpList_appQ rfl (.tmp 105) (.tmp 107) rfl rfl HQs.out rfl HN.out HPP.out HLQ.out (fun v5 w5 g5 hq5 hg5 hp5 => ?_))
                      have hk5 : Keep (· ≠ g5) _ w5 := Keep.grown hg5 (fun j hj h => h (Option.some.inj hj).symm)
                      have HT5 := hid (hk5.blk HTs.out (by show gs ≠ g5; have h9 : gs < g5 := hp5; omega))
                      have HK5 := hid (HKs.out.trans (hk5.mono (fun b _ hb => by have h9 : b < gs := hb; have h8 : gs < g5 := hp5; show b ≠ g5; omega)))
                      have HQ5 := hid hq5
                      clear hk5 hg5 hp5 hq5 HTs HKs HQs HN HPP
                      go_roundw
                      case rel => exact ⟨d + 1, setB t y, c ++ [y], by go_num, by omega, HQ5, HT5, HC2, HD2, HR2, HX2, HK5⟩
                      case measure => simp [intOf]; omega

end Go.Proofs.Ytcpefolhohakmaa
