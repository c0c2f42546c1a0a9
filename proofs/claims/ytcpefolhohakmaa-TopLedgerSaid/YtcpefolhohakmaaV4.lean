/- A book in memory; walks of none, there, look, Held, Total, NewBook. -/
import Derived.Test.YtcpefolhohakmaaV3
namespace Go.Proofs.Ytcpefolhohakmaa
open Go.RowKit
attribute [local irreducible] seqS seqST walkV walkJ

theorem Blk.setCells {b : Nat} {t : TypeId} : ∀ (vs : List Value) (o n : Nat) (f : Nat → Value) (w : World), Blk w b (arr n f) t → Blk (w.setCells b o vs) b (arr n fun j => if o ≤ j ∧ j < o + vs.length then vs.getD (j - o) undef else f j) t
  | [], o, n, f, w, h => by
    rw [arr_congr (f' := f) (fun i _ => if_neg (by simp only [List.length_nil]; omega))]
    exact h
  | v :: vs, o, n, f, w, h => by
    have h2 := Blk.setCells vs (o + 1) n _ _ (h.arr_set o v)
    rw [arr_congr (f' := fun j => if o ≤ j ∧ j < o + (v :: vs).length then (v :: vs).getD (j - o) undef else f j) (fun i _ => by
      simp only [List.length_cons]
      by_cases e : i = o
      · subst e
        rw [if_neg (by omega), if_pos rfl, if_pos (by omega), Nat.sub_self]; rfl
      · by_cases e2 : o + 1 ≤ i ∧ i < o + 1 + vs.length
        · rw [if_pos e2, if_pos (by omega), show i - o = (i - (o + 1)) + 1 by omega]; rfl
        · rw [if_neg e2, if_neg e, if_neg (by omega)])] at h2
    exact h2
theorem Keep.setCells {b : Nat} {S : Nat → Prop} (hb : ¬ S b) : ∀ (vs : List Value) (o : Nat) (w : World), Keep S w (w.setCells b o vs)
  | [], _, w => Keep.refl S w
  | v :: vs, o, w => (Keep.set w (p := ⟨b, o, none⟩) hb v).trans (Keep.setCells hb vs (o + 1) _)

/-- The cells of a book. -/
def bkF (c : List Int) (ch : Nat → Int) (vp : Value) (i : Nat) : Value := if i = 0 then .bool true else if i < 257 then .int .i64 (c.getD (i - 1) 0) else if i < 513 then .int .i64 (ch (i - 257)) else vp
/-- A book's block. -/
def BkB (w : World) (gb : Nat) (c : List Int) (ch : Nat → Int) (vp : Value) : Prop := Blk w gb (arr 514 (bkF c ch vp)) 101
section
variable {w : World} {gb : Nat} {c : List Int} {ch : Nat → Int} {vp : Value}
theorem BkB.c0 (h : BkB w gb c ch vp) : w.cell? ⟨gb, 0, none⟩ = some (.bool true) := Blk.arr_look h (by decide)
theorem BkB.cH (h : BkB w gb c ch vp) {k : Nat} (hk : k < 256) : w.cell? ⟨gb, 1 + k, none⟩ = some (.int .i64 (c.getD k 0)) := by
  rw [Blk.arr_look h (show 1 + k < 514 by omega)]
  unfold bkF
  rw [if_neg (by omega), if_pos (by omega), show 1 + k - 1 = k by omega]
theorem BkB.cH2 (h : BkB w gb c ch vp) (p i : Nat) (hk : p * 16 + i < 256) : w.cell? ⟨gb, 1 + p * 16 + i, none⟩ = some (.int .i64 (c.getD (p * 16 + i) 0)) := by
  rw [Nat.add_assoc]; exact h.cH hk
theorem BkB.cC (h : BkB w gb c ch vp) {k : Nat} (hk : k < 256) : w.cell? ⟨gb, 257 + k, none⟩ = some (.int .i64 (ch k)) := by
  rw [Blk.arr_look h (show 257 + k < 514 by omega)]
  unfold bkF
  rw [if_neg (by omega), if_neg (by omega), if_pos (by omega), show 257 + k - 257 = k by omega]
theorem BkB.cP (h : BkB w gb c ch vp) : w.cell? ⟨gb, 513, none⟩ = some vp := Blk.arr_look h (by decide)
theorem BkB.below {w' : World} (h : BkB w gb c ch vp) (k : Below w.heap.size w w') : BkB w' gb c ch vp := Blk.below h k
theorem BkB.keep {w' : World} {S : Nat → Prop} (h : BkB w gb c ch vp) (k : Keep S w w') (hs : S gb) : BkB w' gb c ch vp := k.blk h hs
theorem BkB.range (h : BkB w gb c ch vp) : w.rangeAt gb 1 (CA c).toList := by
  intro j v hj
  rw [Array.getElem?_toList] at hj
  have hl : j < 256 := by have := (Array.getElem?_eq_some_iff.1 hj).1; rw [CA_size] at this; exact this
  rw [CA_get c hl] at hj
  rw [h.cH hl]; exact hj
theorem BkB.there (h : BkB w gb c ch vp) (d : List Int) : w.there gb 1 (CA d).size := by
  intro j hj
  rw [CA_size] at hj
  rw [h.cH hj]
  exact ⟨rfl, Blk.frozen h _⟩
theorem BkB.setH (h : BkB w gb c ch vp) (d : List Int) : BkB (w.setCells gb 1 (CA d).toList) gb d ch vp := by
  have h2 := Blk.setCells (CA d).toList 1 514 _ w h
  have hl : (CA d).toList.length = 256 := by rw [Array.length_toList, CA_size]
  rw [hl] at h2
  unfold BkB
  rw [arr_congr (f' := bkF d ch vp) (fun i _ => by
    by_cases e : 1 ≤ i ∧ i < 1 + 256
    · rw [if_pos e]
      unfold bkF
      rw [if_neg (by omega), if_pos (by omega), List.getD_eq_getElem?_getD, Array.getElem?_toList, CA_get d (by omega)]; rfl
    · rw [if_neg e]
      unfold bkF
      repeat' split
      all_goals first | rfl | (exfalso; omega))] at h2
  exact h2
theorem BkB.setC (h : BkB w gb c ch vp) {k : Nat} (hk : k < 256) (z : Int) : BkB (w.setCell ⟨gb, 257 + k, none⟩ (.int .i64 z)) gb c (fun i => if i = k then z else ch i) vp := by
  have h2 := Blk.arr_set h (257 + k) (.int .i64 z)
  rw [arr_congr (f' := bkF c (fun i => if i = k then z else ch i) vp) (fun i _ => by
    unfold bkF
    dsimp only
    repeat' split
    all_goals first | rfl | (exfalso; omega))] at h2
  exact h2
theorem BkB.setP (h : BkB w gb c ch vp) (vp' : Value) : BkB (w.setCell ⟨gb, 513, none⟩ vp') gb c ch vp' := by
  have h2 := Blk.arr_set h 513 vp'
  rw [arr_congr (f' := bkF c ch vp') (fun i hi => by
    unfold bkF
    repeat' split
    all_goals first | rfl | (exfalso; omega))] at h2
  exact h2
end

theorem bnone_any (gb : Nat) (c : List Int) (ch : Nat → Int) (vp : Value) (w : World) (h : BkB w gb c ch vp) :
    Calls Try.prog 42 #[.pointer (some ⟨gb, 0, none⟩)] w fun r w' => r = .returned (.bool false) ∧ w = w' := by
  have x0 := h.c0
  clear h
  go_enter Try.func42, Try.ntmps42
  go_wp2
  go_ret
  exact ⟨rfl, rfl⟩

theorem there_any (p i : Nat) (w : World) (hp : p < 16) (hi : i < 16) :
    Calls Try.prog 92 #[.agg #[.int .i64 (p : Int), .int .i64 (i : Int)]] w fun r w' => r = .returned (.bool true) ∧ Below w.heap.size w w' := by
  have bA := alloc_below w (.cells #[.int .i64 (p : Int), .int .i64 (i : Int)] 151)
  obtain ⟨m, hm⟩ : ∃ m, (if (i : Int) < (p : Int) then (i : Int) else (p : Int)) = m := ⟨_, rfl⟩
  obtain ⟨x, hx⟩ : ∃ m, (if (p : Int) < (i : Int) then (i : Int) else (p : Int)) = m := ⟨_, rfl⟩
  have h0 : 0 ≤ m := by rw [← hm]; split <;> omega
  have h1 : x < 16 := by rw [← hx]; split <;> omega
  have hp2 : (p : Int) < 16 := by omega
  have hi2 : (i : Int) < 16 := by omega
  go_enter Try.func92, Try.ntmps92
  go_wp2
  all_goals (go_ret; exact ⟨rfl, bA⟩)

theorem held1_any (gb gx : Nat) (w : World) (h : Blk w gx #[.pointer (some ⟨gb, 0, none⟩)] 52) :
    Calls Try.prog 77 #[.pointer (some ⟨gx, 0, none⟩)] w fun r w' => r = .returned (.pointer (some ⟨gb, 1, none⟩)) ∧ w = w' := by
  have x0 := h.look 0 rfl
  clear h
  go_enter Try.func77, Try.ntmps77
  go_wp2
  go_ret
  exact ⟨rfl, rfl⟩

set_option maxHeartbeats 2000000 in
theorem look_any (gb gx p i : Nat) (c : List Int) (ch : Nat → Int) (vp : Value) (w : World) (h : BkB w gb c ch vp) (hx : Blk w gx #[.pointer (some ⟨gb, 0, none⟩)] 52) (hp : p < 16) (hi : i < 16) :
    Calls Try.prog 76 #[.pointer (some ⟨gb, 0, none⟩), .func (.func 77) #[] #[.pointer (some ⟨gx, 0, none⟩)], .agg #[.int .i64 (p : Int), .int .i64 (i : Int)]] w fun r w' => r = .returned (.tuple #[.int .i64 (c.getD (p * 16 + i) 0), .int .i64 0]) ∧ Below w.heap.size w w' := by
  have kS := Blk.new w #[.int .i64 (p : Int), .int .i64 (i : Int)] 151
  have bS := alloc_below w (.cells #[.int .i64 (p : Int), .int .i64 (i : Int)] 151)
  have BN := hid (bnone_any gb c ch vp _ (h.below bS))
  have TH := hid (fun w => there_any p i w hp hi)
  have HB := hid h
  have HX := hid hx
  have KS := hid kS
  have BS := hid bS
  have hk : p * 16 + i < 256 := by omega
  have hp2 : (p : Int) < 16 := by omega
  have hi2 : (i : Int) < 16 := by omega
  clear h hx kS bS
  go_enter Try.func76, Try.ntmps76
  go_wp2_with fail
  refine BN.out.mono ?_
  rintro r w1 ⟨rfl, rfl⟩
  clear BN
  go_wp2_with fail
  refine (TH.out _).mono ?_
  rintro r w1 ⟨rfl, hb1⟩
  have HB1 := hid ((HB.out.below BS.out).below hb1)
  have HX1 := hid ((HX.out.below BS.out).below hb1)
  have KS1 := hid (KS.out.below hb1)
  have HW1 := hid (BS.out.trans (hb1.mono BS.out.size))
  clear TH HB HX KS BS hb1
  go_wp2_with fail
  obtain ⟨gs, hgs⟩ : ∃ g, w.heap.size = g := ⟨_, rfl⟩
  have HGS := hid hgs
  rw [hgs] at KS1 HW1 ⊢
  clear hgs
  have z0 := fun y : SubT (Below w1.heap.size) w1.drew => (KS1.out.below ((Below.refl w1.heap.size w1).drew.trans y.b)).look 0 rfl
  have z1 := fun y : SubT (Below w1.heap.size) w1.drew => (KS1.out.below ((Below.refl w1.heap.size w1).drew.trans y.b)).look 1 rfl
  have zc := fun y : SubT (Below w1.heap.size) w1.drew => (HB1.out.below ((Below.refl w1.heap.size w1).drew.trans y.b)).cH2 p i hk
  have H1 := hid (fun W (k : Below w1.heap.size w1 W) => held1_any gb gx W (HX1.out.below k))
  refine wp_walkJ (T := Below (w1.heap.size)) (belowV_pre _) (.rd 0 (.rd 2 (.rd 3 (.rd 4 (.rd 5 (.mv 1 (.rd 6 (.rd 7 (.rd 8 (.rd 9 (.rd 10 (.rd 11 (.inv []))))))))))))) (by kernel_rfl) rfl (by kernel_rfl) (by kernel_rfl) ?_
  iterate 5 (refine walkJ_rd rfl (fun K hK => ?_); go_simp; refine hK _ ?_; clear hK K)
  (refine walkJ_mv rfl (fun K hK => ?_); go_simp; refine (H1.out _ (Below.refl w1.heap.size w1).drew).mono ?_; rintro r w2 ⟨rfl, rfl⟩; refine ⟨_, rfl, hK _ _ (Below.refl _ _) ?_⟩; clear hK K)
  iterate 6 (refine walkJ_rd rfl (fun K hK => ?_); go_simp; refine hK _ ?_; clear hK K)
  refine walkJ_nil ?_
  clear z0 z1 zc H1
  have HW2 := hid HW1.out.drew
  go_wp2
  go_ret2
  rw [HGS.out]
  exact ⟨rfl, HW2.out⟩

theorem Held_any (gb p i : Nat) (c : List Int) (ch : Nat → Int) (vp : Value) (w : World) (h : BkB w gb c ch vp) (hp : p < 16) (hi : i < 16) :
    Calls Try.prog 44 #[.pointer (some ⟨gb, 0, none⟩), .int .i64 (p : Int), .int .i64 (i : Int)] w fun r w' => r = .returned (.tuple #[.int .i64 (c.getD (p * 16 + i) 0), .int .i64 0]) ∧ Below w.heap.size w w' := by
  have kX := Blk.new w #[.pointer (some ⟨gb, 0, none⟩)] 52
  have bX := alloc_below w (.cells #[.pointer (some ⟨gb, 0, none⟩)] 52)
  have LK := hid (look_any gb w.heap.size p i c ch vp _ (h.below bX) kX hp hi)
  have BX := hid bX
  clear h kX bX
  go_enter Try.func44, Try.ntmps44
  go_wp2_with fail
  refine LK.out.mono ?_
  rintro r w1 ⟨rfl, hb1⟩
  have HW1 := hid (BX.out.trans (hb1.mono BX.out.size))
  clear LK BX hb1
  go_wp2
  go_ret2
  exact ⟨rfl, HW1.out⟩

theorem totN_succ (c : List Int) (i n : Nat) : totN c i (n + 1) = totN c i n + c.getD (n * 16 + i) 0 := rfl
theorem totN_bd (c : List Int) (i : Nat) (hi : i < 16) (h : ∀ k, k < 256 → -1000000000 ≤ c.getD k 0 ∧ c.getD k 0 ≤ 1000000000) (n : Nat) (hn : n ≤ 16) : -1000000000 * (n : Int) ≤ totN c i n ∧ totN c i n ≤ 1000000000 * n := by
  induction n with
  | zero => exact ⟨Int.le_refl _, Int.le_refl _⟩
  | succ n ih =>
    have := ih (by omega)
    have := h (n * 16 + i) (by omega)
    rw [totN_succ]
    omega

set_option maxHeartbeats 2000000 in
set_option maxRecDepth 100000 in
theorem Total_any (gb i : Nat) (c : List Int) (ch : Nat → Int) (vp : Value) (w : World) (h : BkB w gb c ch vp) (hi : i < 16) (hb : ∀ k, k < 256 → -1000000000 ≤ c.getD k 0 ∧ c.getD k 0 ≤ 1000000000) :
    Calls Try.prog 45 #[.pointer (some ⟨gb, 0, none⟩), .int .i64 (i : Int)] w fun r w' => r = .returned (.tuple #[.int .i64 (tot c i), .int .i64 0]) ∧ Below w.heap.size w w' := by
  have BN := hid (bnone_any gb c ch vp _ h)
  have HB := hid h
  have HBD := hid hb
  have HBN := hid (totN_bd c i hi hb)
  have hi2 : (i : Int) < 16 := by omega
  have hi1 : ¬ (i : Int) < 0 := by omega
  have hi3 : ¬ (16 : Int) ≤ (i : Int) := by omega
  have hIX := hid (fun p hp w => cnt_index c (p := p) hp w)
  obtain ⟨Z, hZ⟩ : ∃ Z, (ints (rowL [] 0)).toArray = Z := ⟨_, rfl⟩
  have hz := (zero_of_info infoRow).1
  rw [hZ] at hz
  have hZs : Hid (Z.size = 16) := hid (by rw [← hZ, row_size16])
  clear h hb hZ
  go_enter Try.func45, Try.ntmps45
  go_wp2_with fail
  refine BN.out.mono ?_
  rintro r w1 ⟨rfl, rfl⟩
  clear BN
  go_wp2_with (refine wpList_load_mid rfl 98 (.tmp 21) rfl gb 1 rfl (CA c).toList _ HB.out.range Try.underlying98 rfl (by rw [Array.length_toList]; exact CA_info c) ?_)
  rw [Array.toArray_toList]
  go_loopw [6, 8, 23] (fun y _ z wr => ∃ k : Nat, z = .int .i64 (k : Int) ∧ k ≤ 16 ∧ y = .int .i64 (totN c i k) ∧ Hid (Below w.heap.size w wr)) (fun _ _ z _ => 16 - (intOf z).toNat)
  case atStart => exact ⟨0, rfl, Nat.zero_le _, rfl, hid (Below.refl _ _)⟩
  case round =>
    obtain ⟨k, rfl, hk, rfl, HBE⟩ := hrel
    by_cases hk16 : k < 16
    case neg =>
      obtain rfl : k = 16 := by omega
      have hk2 : ¬ ((16 : Nat) : Int) < 16 := by omega
      have HT : Hid (totN c i 16 = tot c i) := hid rfl
      rw [HT.out]
      go_wp2
      go_ret2
      exact ⟨rfl, HBE.out⟩
    case pos =>
      have hk2 : (k : Int) < 16 := by omega
      have hix := hIX.out k hk16
      have kN := Blk.new wr Z 96
      have bN := alloc_below wr (.cells Z 96)
      have hst := totN_succ c i k
      have hb1 := HBN.out k (by omega)
      have hb2 := HBD.out (k * 16 + i) (by omega)
      have kR := hid (row_blk (cs' := (ints (rowL c k)).toArray) kN)
      have hbr := hid (row_below (HBE.out.trans (bN.mono HBE.out.size)) (show w.heap.size ≤ wr.heap.size from HBE.out.size) (ints (rowL c k)).toArray)
      have hrow : (ints (rowL c k)).toArray[i]? = some (.int .i64 (c.getD (k * 16 + i) 0)) := by
        rw [List.getElem?_toArray]
        unfold ints
        rw [List.getElem?_map, List.getElem?_eq_getElem (by rw [rowL_len]; exact hi)]
        have := rowL_get c k hi
        rw [List.getD_eq_getElem?_getD, List.getElem?_eq_getElem (by rw [rowL_len]; exact hi)] at this
        rw [← this]; rfl
      have xr := kR.out.look i hrow
      have hinf := hid (row_info c k)
      have hone := hid (ints_one (rowL c k))
      have hsz := hid (row_size16 c k)
      obtain ⟨R, hR⟩ : ∃ R, (ints (rowL c k)).toArray = R := ⟨_, rfl⟩
      rw [hR] at hix kR hbr xr hinf hone hsz
      obtain ⟨X, hX⟩ : ∃ X, c.getD (k * 16 + i) 0 = X := ⟨_, rfl⟩
      obtain ⟨Y, hY⟩ : ∃ X, totN c i k = X := ⟨_, rfl⟩
      rw [hX] at xr hst hb2
      rw [hY] at hst hb1 ⊢
      have hw1 : IntKind.i64.wrap (Y + X) = Y + X := wrap_id (by omega) (by omega)
      have HST := hid hst
      clear hR hX hY hst hrow
      go_wp2_with (refine wpList_store_row rfl 96 (.tmp 8) (.tmp 25) rfl wr.heap.size R rfl rfl 96 Z kN hinf.out (by rw [hZs.out, hsz.out]) hone.out ?_)
      go_roundw
      case rel => exact ⟨k + 1, by go_num, by omega, by rw [HST.out], hbr⟩
      case measure => simp [intOf]; omega

theorem NewBook_any (w : World) :
    Calls Try.prog 73 #[] w fun r w' => r = .returned (.pointer (some ⟨w.heap.size, 0, none⟩)) ∧ BkB w' w.heap.size zeroC (fun _ => 0) (.slice none 0 0) ∧ Below w.heap.size w w' := by
  go_enter Try.func73, Try.ntmps73
  go_wp2
  have hz : Try.zeroCells101.setIfInBounds 0 (.bool true) = arr 514 (bkF zeroC (fun _ => 0) (.slice none 0 0)) := by kernel_rfl
  rw [hz]
  go_ret
  exact ⟨rfl, Blk.new w _ _, alloc_below w _⟩

end Go.Proofs.Ytcpefolhohakmaa
