/- Matching with and without one glove; Heap and Pairs. -/
import Derived.Test.YtcpefolhohakmaaJ1
namespace Go.Proofs.Ytcpefolhohakmaa
open Go.RowKit
attribute [local irreducible] seqS seqST walkV walkJ

theorem adjB_gr (l : List Gv) (u : Ru) : Gr l.length (fun i j => adjB l u i j = true) where
  sym i j h := by
    unfold adjB at h ⊢
    rw [decide_eq_true_eq] at h ⊢
    exact ⟨h.2.1, h.1, h.2.2.1.symm, h.2.2.2.symm⟩
  irr i h := by
    unfold adjB at h
    rw [decide_eq_true_eq] at h
    exact h.2.2.1 rfl
  lt i j h := by
    unfold adjB at h
    rw [decide_eq_true_eq] at h
    exact ⟨h.1, h.2.1⟩
theorem woB_wo (ad : Nat → Nat → Bool) (k : Nat) : (fun i j => woB ad k i j = true) = wo (fun i j => ad i j = true) k := by
  funext i j
  unfold woB wo
  simp [and_assoc]
theorem woB_gr {n : Nat} {ad : Nat → Nat → Bool} (G : Gr n (fun i j => ad i j = true)) (k : Nat) : Gr n (fun i j => woB ad k i j = true) := by
  rw [woB_wo]; exact wo_gr G k
theorem cnt_cntI (m : Mt) : ∀ n, cntI (fun i => oZ (m i)) n = cnt m n
  | 0 => rfl
  | n + 1 => by
    unfold cntI cnt
    rw [cnt_cntI m n]
    cases h : m n with
    | none => simp [oZ]
    | some x => simp [oZ]

set_option maxHeartbeats 1000000 in
theorem matching_all {S : Nat → Prop} {ad : Nat → Nat → Bool} {n : Nat} {p : Value} (G : Gr n (fun i j => ad i j = true)) (hn : n ≤ 400) (w : World) (h : GrR S w p n (fun i => nbT ad i n)) :
    Calls Try.prog 32 #[p, .int .i64 (-1)] w fun r w' => MtcR ad n w.heap.size r w' ∧ Below w.heap.size w w' := by
  have h0 := h
  obtain ⟨g0, gw, vs, rfl, -, -, kg, -, -⟩ := h
  refine matching_gen G hn w kg fun x hx => (less_all _ _ rfl x).mono ?_
  rintro r w' ⟨rfl, rfl⟩
  exact ⟨⟨_, rfl, (GrR.below_lt (S' := fun b => b < w.heap.size) h0 hx (fun b hb _ => hb)).mono (fun b _ hb => .inl hb)⟩, Below.refl _ _⟩
set_option maxHeartbeats 1000000 in
theorem matching_but {S : Nat → Prop} {ad : Nat → Nat → Bool} {n k : Nat} {p : Value} (G : Gr n (fun i j => ad i j = true)) (hn : n ≤ 400) (hk : k < n) (w : World) (h : GrR S w p n (fun i => nbT ad i n)) :
    Calls Try.prog 32 #[p, .int .i64 (k : Int)] w fun r w' => MtcR (woB ad k) n w.heap.size r w' ∧ Below w.heap.size w w' := by
  have h0 := h
  obtain ⟨g0, gw, vs, rfl, -, -, kg, -, -⟩ := h
  refine matching_gen (woB_gr G k) hn w kg fun x hx => (less_any S _ n k ad x (GrR.below_lt h0 hx (fun _ _ h => h)) (by omega) hk).mono ?_
  rintro r w' ⟨⟨p', rfl, hp⟩, hb⟩
  exact ⟨⟨p', rfl, hp.mono (fun b _ hb => .inr hb)⟩, hb⟩

theorem blk_fun {w : World} {gm n : Nat} {m : Mt} (h : Blk w gm (arr n fun i => oI (m i)) 3) (hn : n ≤ 1000) : FunR w (slV gm n) n (fun i => oZ (m i)) := by
  refine ⟨some ⟨gm, 0, none⟩, n, rfl, Nat.le_refl _, by unfold maxLen; omega, fun _ => ⟨gm, 0, rfl, Nat.zero_le _, h.lt, fun j hj => ?_⟩⟩
  have hj2 : j < n := by simpa using hj
  rw [Nat.zero_add, h.arr_look hj2]
  simp [List.getD_eq_getElem?_getD, hj2, oI]

set_option maxHeartbeats 8000000 in
set_option maxRecDepth 100000 in
theorem Heap_no (l : List Gv) (u : Ru) (v : Value) (w : World) (h : GsR 0 w v l) (hno : ¬ (SideOk l ∧ RuOk u)) :
    Calls Try.prog 9 #[v, ruV u] w fun r w' => r = .returned (.tuple #[.slice none 0 0, .int .i64 2]) ∧ Below w.heap.size w w' := by
  have HH := hid (fun w h => heaped_no l u v w h hno)
  clear hno
  obtain ⟨U, hU⟩ : ∃ U, u = U := ⟨_, rfl⟩
  have HU := hid hU.symm
  clear hU
  obtain ⟨⟨wa, wb, wc, wd⟩, ⟨la, lb, lc, ld⟩⟩ := u
  have kU := Blk.new w #[.int .i64 wa, .int .i64 wb, .int .i64 wc, .int .i64 wd, .int .i64 la, .int .i64 lb, .int .i64 lc, .int .i64 ld] 35
  have bU := alloc_below w (.cells #[.int .i64 wa, .int .i64 wb, .int .i64 wc, .int .i64 wd, .int .i64 la, .int .i64 lb, .int .i64 lc, .int .i64 ld] 35)
  have hLU := hid (h.below bU)
  have x0 := kU.look 0 rfl
  have x1 := kU.look 1 rfl
  have x2 := kU.look 2 rfl
  have x3 := kU.look 3 rfl
  have x4 := kU.look 4 rfl
  have x5 := kU.look 5 rfl
  have x6 := kU.look 6 rfl
  have x7 := kU.look 7 rfl
  go_enter Try.func9, Try.ntmps9
  go_wp2_with fail
  refine (HH.out _ hLU.out).mono ?_
  rintro r w1 ⟨rfl, hb1⟩
  have bb1 := bU.trans (hb1.mono bU.size)
  clear HH hLU kU bU x0 x1 x2 x3 x4 x5 x6 x7 hb1
  go_wp2
  go_ret2
  exact ⟨rfl, bb1⟩

set_option maxHeartbeats 8000000 in
set_option maxRecDepth 100000 in
theorem Heap_yes (l : List Gv) (u : Ru) (v : Value) (w : World) (h : GsR 0 w v l) (hS : SideOk l) (hR : RuOk u) :
    Calls Try.prog 9 #[v, ruV u] w fun r w' => (∃ z, r = .returned (.tuple #[z, .int .i64 0]) ∧ MtcR (adjB l u) l.length w.heap.size (.returned z) w') ∧ Below w.heap.size w w' := by
  have HH := hid (fun w h => heaped_yes l u v w h hS hR)
  have h32 := hS.1
  have G := adjB_gr l u
  obtain ⟨ad, had⟩ : ∃ ad, adjB l u = ad := ⟨_, rfl⟩
  obtain ⟨n, hn⟩ : ∃ n, l.length = n := ⟨_, rfl⟩
  rw [had, hn] at HH G ⊢
  rw [hn] at h32
  clear hS hR had hn
  obtain ⟨U, hU⟩ : ∃ U, u = U := ⟨_, rfl⟩
  have HU := hid hU.symm
  clear hU
  obtain ⟨⟨wa, wb, wc, wd⟩, ⟨la, lb, lc, ld⟩⟩ := u
  have kU := Blk.new w #[.int .i64 wa, .int .i64 wb, .int .i64 wc, .int .i64 wd, .int .i64 la, .int .i64 lb, .int .i64 lc, .int .i64 ld] 35
  have bU := alloc_below w (.cells #[.int .i64 wa, .int .i64 wb, .int .i64 wc, .int .i64 wd, .int .i64 la, .int .i64 lb, .int .i64 lc, .int .i64 ld] 35)
  have hLU := hid (h.below bU)
  have x0 := kU.look 0 rfl
  have x1 := kU.look 1 rfl
  have x2 := kU.look 2 rfl
  have x3 := kU.look 3 rfl
  have x4 := kU.look 4 rfl
  have x5 := kU.look 5 rfl
  have x6 := kU.look 6 rfl
  have x7 := kU.look 7 rfl
  go_enter Try.func9, Try.ntmps9
  go_wp2_with fail
  refine (HH.out _ hLU.out).mono ?_
  rintro r w1 ⟨⟨p, rfl, hp⟩, hb1⟩
  have bb1 := bU.trans (hb1.mono bU.size)
  have MA := hid (matching_all G (by omega) w1 hp)
  obtain ⟨g0, gw, vs, rfl, -⟩ := id hp
  clear HH hLU kU bU x0 x1 x2 x3 x4 x5 x6 x7 hb1 hp
  go_wp2_with fail
  refine MA.out.mono ?_
  rintro r w2 ⟨hm, hb2⟩
  obtain ⟨gm, m, rfl, h1, h2, h3, h4⟩ := hm.out
  have HMR := hid h1
  have hb3 := bb1.trans (hb2.mono bb1.size)
  have HR2 : Hid (MtcR ad n w.heap.size (.returned (slV gm n)) w2) := hid ⟨⟨gm, m, rfl, by have := bb1.size; omega, h2, h3, h4⟩⟩
  clear MA hb2 bb1 hm h1 h2 h3 h4 HMR
  go_wp2
  go_ret2
  exact ⟨⟨_, rfl, HR2.out⟩, hb3⟩

set_option maxHeartbeats 8000000 in
set_option maxRecDepth 100000 in
theorem Pairs_yes (l : List Gv) (u : Ru) (v : Value) (w : World) (h : GsR 0 w v l) (hS : SideOk l) (hR : RuOk u) {gm n : Nat} {m : Mt} (hn : l.length = n) (hm : Blk w gm (arr n fun i => oI (m i)) 3) (hM : Mat (fun i j => adjB l u i j = true) m) :
    Calls Try.prog 12 #[v, ruV u, slV gm n] w fun r w' => r = .returned (.tuple #[.int .i64 ((cnt m n / 2 : Nat) : Int), .int .i64 0]) ∧ Below w.heap.size w w' := by
  have HH := hid (fun w h => heaped_yes l u v w h hS hR)
  have h32 := hS.1
  have G := adjB_gr l u
  obtain ⟨ad, had⟩ : ∃ ad, adjB l u = ad := ⟨_, rfl⟩
  rw [had, hn] at HH G
  rw [had] at hM
  rw [hn] at h32
  clear hS hR had hn
  obtain ⟨U, hU⟩ : ∃ U, u = U := ⟨_, rfl⟩
  have HU := hid hU.symm
  clear hU
  obtain ⟨⟨wa, wb, wc, wd⟩, ⟨la, lb, lc, ld⟩⟩ := u
  have kU := Blk.new w #[.int .i64 wa, .int .i64 wb, .int .i64 wc, .int .i64 wd, .int .i64 la, .int .i64 lb, .int .i64 lc, .int .i64 ld] 35
  have bU := alloc_below w (.cells #[.int .i64 wa, .int .i64 wb, .int .i64 wc, .int .i64 wd, .int .i64 la, .int .i64 lb, .int .i64 lc, .int .i64 ld] 35)
  have hLU := hid (h.below bU)
  have x0 := kU.look 0 rfl
  have x1 := kU.look 1 rfl
  have x2 := kU.look 2 rfl
  have x3 := kU.look 3 rfl
  have x4 := kU.look 4 rfl
  have x5 := kU.look 5 rfl
  have x6 := kU.look 6 rfl
  have x7 := kU.look 7 rfl
  have hm1 := hid (hm.below bU)
  go_enter Try.func12, Try.ntmps12
  unfold slV
  go_wp2_with fail
  refine (HH.out _ hLU.out).mono ?_
  rintro r w1 ⟨⟨p, rfl, hp⟩, hb1⟩
  have bb1 := bU.trans (hb1.mono bU.size)
  have hm2 := hid (hm1.out.below hb1)
  obtain ⟨g0, gw, vs, rfl, -, -, kg, kw, hrow⟩ := id hp
  have HRW := hid hrow
  have y0 := kg.look 0 rfl
  have y1 := kg.look 1 rfl
  have hne : ((n : Int) != (n : Int)) = false := by simp
  clear HH hLU kU bU x0 x1 x2 x3 x4 x5 x6 x7 hb1 hp hm1 hm hrow
  go_wp2_with fail
  go_loopw [27] (fun z wr => ∃ k : Nat, z = .int .i64 (k : Int) ∧ k ≤ n ∧ w1 = wr) (fun z _ => n - (intOf z).toNat)
  case atStart => exact ⟨0, rfl, Nat.zero_le _, rfl⟩
  case round =>
    obtain ⟨k, rfl, hk, rfl⟩ := hrel
    by_cases hkn : k < n
    case pos =>
      have hk2 : (k : Int) < (n : Int) := by omega
      have xk := hm2.out.arr_look hkn
      cases hmk : m k with
      | none =>
        rw [hmk] at xk
        unfold oI oZ at xk
        clear hmk
        go_wp2
        go_roundw
        case rel => exact ⟨k + 1, by go_num, by omega, trivial⟩
        case measure => simp [intOf]; omega
      | some j =>
        rw [hmk] at xk
        unfold oI oZ at xk
        have hadj := hM.adj _ _ hmk
        have hjn : j < n := (G.lt _ _ hadj).2
        have hj2 : (j : Int) < (n : Int) := by omega
        have hj0 : ¬ (j : Int) < 0 := by omega
        have hj3 : ((j : Int) != -1) = true := by rw [bne_iff_ne]; omega
        have hj4 : ¬ (n : Int) ≤ (j : Int) := by omega
        have xj := hm2.out.arr_look hjn
        rw [hM.inv _ _ hmk] at xj
        unfold oI oZ at xj
        have hkk : ((k : Int) != (k : Int)) = false := by simp
        have xw := kw.arr_look hkn
        have HIN : Hid (j ∈ nbT ad k n) := hid ((nbT_mem ad k n j).2 ⟨hjn, hadj⟩)
        have CO := hid (Contains_any (nbT ad k n) j (vs k) w1 (HRW.out k hkn).sl)
        rw [decide_eq_true HIN.out] at CO
        obtain ⟨ra, rc, hrv, -⟩ := id (HRW.out k hkn)
        rw [hrv] at xw CO
        clear hmk hrv hadj
        go_wp2_with fail
        refine CO.out.mono ?_
        rintro r w2 ⟨rfl, rfl⟩
        clear CO
        go_wp2
        go_roundw
        case rel => exact ⟨k + 1, by go_num, by omega, trivial⟩
        case measure => simp [intOf]; omega
    case neg =>
      obtain rfl : n = k := by omega
      have hk2 : ¬ (n : Int) < (n : Int) := by omega
      have SZ := hid (size_any n _ _ w1 (blk_fun hm2.out (by omega)))
      rw [cnt_cntI] at SZ
      unfold slV at SZ
      go_wp2_with fail
      refine SZ.out.mono ?_
      rintro r w2 ⟨rfl, rfl⟩
      have hcl := cnt_le m n
      go_wp2
      go_ret2
      refine ⟨?_, bb1⟩
      have e : ((cnt m n / 2 : Nat) : Int) = (cnt m n : Int) / 2 := by omega
      rw [e]
      rfl

end Go.Proofs.Ytcpefolhohakmaa
