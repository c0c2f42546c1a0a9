/- Walk of less: the graph without one glove. -/
import Derived.Test.YtcpefolhohakmaaH6
namespace Go.Proofs.Ytcpefolhohakmaa
open Go.RowKit
attribute [local irreducible] seqS seqST walkV walkJ

def woB (ad : Nat → Nat → Bool) (k : Nat) (i j : Nat) : Bool := ad i j && decide (i ≠ k) && decide (j ≠ k)
theorem woB_row (ad : Nat → Nat → Bool) (k : Nat) {i : Nat} (hi : i ≠ k) : ∀ q, (nbT ad i q).filter (fun y => !decide (y = k)) = nbT (woB ad k) i q
  | 0 => rfl
  | q + 1 => by
    have ih := woB_row ad k hi q
    unfold nbT
    by_cases h : ad i q = true
    · rw [if_pos h, List.filter_append, ih]
      by_cases hq : q = k
      · rw [if_neg (by unfold woB; simp [hq]), List.filter_cons_of_neg (by simp [hq]), List.filter_nil, List.append_nil]
      · rw [if_pos (by unfold woB; simp [h, hi, hq]), List.filter_cons_of_pos (by simp [hq]), List.filter_nil]
    · rw [if_neg h, if_neg (by unfold woB; simp [h]), ih]
theorem woB_self (ad : Nat → Nat → Bool) (k : Nat) : ∀ q, nbT (woB ad k) k q = []
  | 0 => rfl
  | q + 1 => by
    unfold nbT
    rw [if_neg (by unfold woB; simp), woB_self ad k q]

set_option maxHeartbeats 1000000 in
theorem less_all (p : Value) (gp : Addr) (hp : p = .pointer (some gp)) (w : World) :
    Calls Try.prog 65 #[p, .int .i64 (-1)] w fun r w' => r = .returned p ∧ w = w' := by
  subst hp
  go_enter Try.func65, Try.ntmps65
  go_wp2
  go_ret
  exact ⟨rfl, rfl⟩

set_option maxHeartbeats 8000000 in
set_option maxRecDepth 100000 in
theorem less_any (S : Nat → Prop) (p : Value) (n k : Nat) (ad : Nat → Nat → Bool) (w : World) (h : GrR S w p n (fun i => nbT ad i n)) (hn : n ≤ 1000) (hk : k < n) :
    Calls Try.prog 65 #[p, .int .i64 (k : Int)] w fun r w' => (∃ p', r = .returned p' ∧ GrR (w.heap.size ≤ ·) w' p' n (fun i => nbT (woB ad k) i n)) ∧ Below w.heap.size w w' := by
  obtain ⟨g1, w1, us, rfl, -, -, kG1, kW1, hrow⟩ := h
  have HROW : Hid (∀ i, i < n → NatS (· < w.heap.size) w (us i) (nbT ad i n)) := hid fun i hi => SlS.mono (hrow i hi) (fun b hb _ => hb)
  have HKN := hid hk
  have hg1 : g1 < w.heap.size := kG1.lt
  have hw1 : w1 < w.heap.size := kW1.lt
  have hk0 : ¬ (k : Int) < 0 := by omega
  clear hrow hk
  go_enter Try.func65, Try.ntmps65
  go_wp2_with fail
  clear hk0
  have z0 := fun y : SubT (Below w.heap.size) w.drew => (kG1.drew.below' y.b kG1.lt).look 0 rfl
  refine wp_walkJ (T := Below (w.heap.size)) (belowV_pre _) (.rd 0 (.rd 1 (.rd 2 (.rd 3 (.rd 4 (.rd 5 (.rd 6 (.rd 7 (.mv 8 (.rd 9 (.bt 10 (.rd 11 (.inv []))))))))))))) (by kernel_rfl) rfl (by kernel_rfl) (by kernel_rfl) ?_
  iterate 8 (refine walkJ_rd rfl (fun K hK => ?_); go_simp; refine hK _ ?_; clear hK K)
  clear z0
  have hd := (Below.refl w.heap.size w).drew
  have kG2 := kG1.drew
  have kW2 := kW1.drew
  have HROW2 : Hid (∀ i, i < n → NatS (· < w.heap.size) w.drew (us i) (nbT ad i n)) := hid fun i hi => SlS.keep (HROW.out i hi) (Keep.drew (fun _ => True) w) (fun _ _ _ => trivial)
  have hsd : w.heap.size = w.drew.heap.size := rfl
  clear HROW kG1 kW1
  have HSD := hid hsd
  clear hsd
  generalize w.drew = wd at hd kG2 kW2 HROW2 HSD ⊢
  refine walkJ_mv rfl (fun K hK => ⟨rfl, gives_mka _ _ 76 rfl 37 (.slice none 0 0) 24 Try.underlying76 infoInts rfl _ _ n rfl rfl (by omega) (by omega) (hK _ _ ((alloc_below wd _).mono (by rw [HSD.out]; exact Nat.le_refl _)) ?_)⟩)
  clear hK K
  have kW := Blk.new wd (arr n fun _ => .slice none 0 0) 37
  have bW := alloc_below wd (.cells (arr n fun _ => .slice none 0 0) 37)
  have hd3 := hd.trans (bW.mono (by rw [HSD.out]; exact Nat.le_refl _))
  have kG3 := kG2.below bW
  have kW3 := kW2.below bW
  have HROW3 : Hid (∀ i, i < n → NatS (· < w.heap.size) (wd.alloc (.cells (arr n fun _ => .slice none 0 0) 37)) (us i) (nbT ad i n)) := hid fun i hi => SlS.keep (HROW2.out i hi) (Keep.of_below (S := fun _ => True) bW) (fun _ _ _ => trivial)
  have hgw : w.heap.size ≤ wd.heap.size := by rw [HSD.out]; exact Nat.le_refl _
  clear bW kG2 kW2 HROW2 hd HSD
  generalize wd.alloc (.cells (arr n fun _ => .slice none 0 0) 37) = w3 at kW hd3 kG3 kW3 HROW3 ⊢
  generalize wd.heap.size = gw at kW hgw ⊢
  clear wd
  iterate 1 (refine walkJ_rd rfl (fun K hK => ?_); go_simp; refine hK _ ?_; clear hK K)
  (refine walkJ_bt rfl (fun K hK => ?_); go_simp; refine hK _ _ ?_; clear hK K)
  iterate 1 (refine walkJ_rd rfl (fun K hK => ?_); go_simp; refine hK _ ?_; clear hK K)
  refine walkJ_nil ?_
  have kG := Blk.new w3 #[.int .i64 (n : Int), .slice (some ⟨gw, 0, none⟩) n n] 78
  have b4 := alloc_below w3 (.cells #[.int .i64 (n : Int), .slice (some ⟨gw, 0, none⟩) n n] 78)
  have kWn := kW.below b4
  have kG4 := kG3.below b4
  have kW4 := kW3.below b4
  have hd4 := hd3.trans (b4.mono hd3.size)
  have HROW4 : Hid (∀ i, i < n → NatS (· < w.heap.size) (w3.alloc (.cells #[.int .i64 (n : Int), .slice (some ⟨gw, 0, none⟩) n n] 78)) (us i) (nbT ad i n)) := hid fun i hi => SlS.keep (HROW3.out i hi) (Keep.of_below (S := fun _ => True) b4) (fun _ _ _ => trivial)
  have hgg : gw < w3.heap.size := kW.lt
  clear b4 kG3 kW3 HROW3 hd3 kW
  generalize w3.alloc (.cells #[.int .i64 (n : Int), .slice (some ⟨gw, 0, none⟩) n n] 78) = w4 at kG kWn kG4 kW4 hd4 HROW4 ⊢
  generalize w3.heap.size = gg at kG hgg ⊢
  clear w3
  have zg := kG4.look 1 rfl
  go_wp2_with fail
  clear zg
  go_loopw [27] (fun z wr => ∃ (q : Nat) (vs : Nat → Value), z = .int .i64 q ∧ q ≤ n ∧ Hid (Blk wr gw (arr n vs) 37) ∧ Hid (∀ j, j < q → NatS (gw < ·) wr (vs j) (nbT (woB ad k) j n)) ∧ Hid (∀ j, q ≤ j → vs j = .slice none 0 0) ∧ Keep (· ≠ gw) w4 wr) (fun z _ => n - (intOf z).toNat)
  case atStart => exact ⟨0, fun _ => .slice none 0 0, rfl, Nat.zero_le _, hid kWn, hid fun j hj => absurd hj (Nat.not_lt_zero _), hid fun _ _ => rfl, Keep.refl _ _⟩
  case round =>
    obtain ⟨q, vs, rfl, hq, HW, HRO, HNI, hkp⟩ := hrel
    by_cases hqn : q < n
    case neg =>
      obtain rfl : n = q := by omega
      have hq2 : ¬ (n : Int) < (n : Int) := by omega
      have kGf := hid (hkp.blk kG (by show gg ≠ gw; omega))
      have hbf := hd4.trans (hkp.below hd4.size (fun b hb => by show b ≠ gw; omega))
      clear hkp kG kWn kG4 kW4 hd4
      go_wp2
      go_ret
      refine ⟨⟨_, rfl, gg, gw, vs, rfl, by show w.heap.size ≤ gg; omega, by show w.heap.size ≤ gw; omega, kGf.out, HW.out, fun i hi => SlS.mono (HRO.out i hi) (fun b _ hb => by have h9 : gw < b := hb; show w.heap.size ≤ b; omega)⟩, hbf⟩
    case pos =>
    have hq2 : (q : Int) < (n : Int) := by omega
    have x0 := (hkp.blk kW4 (by show w1 ≠ gw; omega)).arr_look hqn
    have hrow := SlS.keep (HROW4.out q hqn) hkp (fun b _ hb => by have h9 : b < w.heap.size := hb; show b ≠ gw; omega)
    obtain ⟨ua, uc, hu, -⟩ := id hrow
    rw [hu] at x0 hrow
    have HRQ := hid hrow
    have HLN := hid (nbT_len ad q n)
    obtain ⟨m, hm⟩ : ∃ m, (nbT ad q n).length = m := ⟨_, rfl⟩
    have HM := hid hm
    rw [hm] at x0
    clear hrow hu hm
    by_cases hqk : q = k
    case pos =>
      have hbe : ((q : Int) != (k : Int)) = false := by simp [hqk]
      have HRO2 : Hid (∀ j, j < q + 1 → NatS (gw < ·) wr (vs j) (nbT (woB ad k) j n)) := hid fun j hj => by
        by_cases e : j = q
        · rw [e, HNI.out q (Nat.le_refl _), hqk, woB_self]
          exact SlS.nil _ _
        · exact HRO.out j (by omega)
      have HNI2 : Hid (∀ j, q + 1 ≤ j → vs j = .slice none 0 0) := hid fun j hj => HNI.out j (by omega)
      clear hqk HRO HNI
      go_wp2
      go_roundw
      case rel => exact ⟨q + 1, vs, by go_num, by omega, HW, HRO2, HNI2, hkp⟩
      case measure => simp [intOf]; omega
    case neg =>
      have hbe : ((q : Int) != (k : Int)) = true := by rw [bne_iff_ne]; omega
      have WO := hid (fun w h => without_any (nbT ad q n) k (.slice ua m uc) w h (by have := HLN.out; omega))
      rw [woB_row ad k hqk] at WO
      have kGr := hkp.blk kG (by show gg ≠ gw; omega)
      have kWr := HW.out
      have hsr : w4.heap.size ≤ wr.heap.size := hkp.size
      have hgw4 : gw < wr.heap.size := kWr.lt
      have HQK := hid hqk
      clear hqk
      go_wp2_with fail
      have z0 := fun y : SubT (Below wr.heap.size) wr.drew => (kGr.drew.below' y.b kGr.lt).look 1 rfl
      refine wp_walkJ (T := Below (wr.heap.size)) (belowV_pre _) (.rd 0 (.rd 1 (.rd 2 (.rd 3 (.rd 4 (.rd 5 (.rd 6 (.mv 7 (.rd 8 (.bt 9 (.inv []))))))))))) (by kernel_rfl) rfl (by kernel_rfl) (by kernel_rfl) ?_
      iterate 7 (refine walkJ_rd rfl (fun K hK => ?_); go_simp; refine hK _ ?_; clear hK K)
      clear z0 x0
      have hrd : SlR 0 wr.drew (.slice ua m uc) (nbT ad q n).length (natI (nbT ad q n)) := by
        have := (SlS.keep HRQ.out (Keep.drew (fun _ => True) wr) (fun _ _ _ => trivial)).sl
        rw [HM.out] at this ⊢
        exact this
      have hd0 := (Below.refl wr.heap.size wr).drew
      (refine walkJ_mv rfl (fun K hK => ?_); go_simp; refine (WO.out _ hrd).mono ?_; rintro r w6 ⟨⟨v', rfl, hv⟩, hb6⟩; refine ⟨_, rfl, hK _ _ hb6 ?_⟩; clear hK K)
      have hb7 := hd0.trans hb6
      have kW6 := kWr.below hb7
      have hk6 : Keep (fun b => b ≠ gw) w4 w6 := hkp.trans (Keep.of_below hb7)
      have hvs : NatS (gw < ·) w6 v' (nbT (woB ad k) q n) := SlS.of_sl hv (fun b hb _ => by show gw < b; have h9 : wr.drew.heap.size + 1 ≤ b := hb; have h10 : wr.drew.heap.size = wr.heap.size := rfl; omega)
      have HRO6 : Hid (∀ j, j < q → NatS (gw < ·) w6 (vs j) (nbT (woB ad k) j n)) := hid fun j hj => SlS.keep (HRO.out j hj) (Keep.of_below (S := fun _ => True) hb7) (fun _ _ _ => trivial)
      obtain ⟨a', c', rfl, -⟩ := id hvs
      have x9 := kW6.arr_look hqn
      have f9 := kW6.frozen q
      have hlt9 := kW6.lt
      obtain ⟨m', hm'⟩ : ∃ m', (nbT (woB ad k) q n).length = m' := ⟨_, rfl⟩
      rw [hm'] at hvs
      have HVS := hid hvs
      rw [hm']
      clear hv hb6 hb7 hd0 hrd kWr HW hkp HRO hvs WO hm'
      iterate 1 (refine walkJ_rd rfl (fun K hK => ?_); go_simp; refine hK _ ?_; clear hK K)
      (refine walkJ_bt rfl (fun K hK => ?_); go_simp; refine hK _ _ ?_; clear hK K)
      refine walkJ_nil ?_
      have kWa := hid (kW6.arr_set q (.slice a' m' c'))
      have hka := hid (hk6.trans (Keep.set w6 (p := ⟨gw, q, none⟩) (fun h => h rfl) (.slice a' m' c')))
      have HROa : Hid (∀ j, j < q + 1 → NatS (gw < ·) (w6.setCell ⟨gw, q, none⟩ (.slice a' m' c')) ((fun j => if j = q then .slice a' m' c' else vs j) j) (nbT (woB ad k) j n)) := hid fun j hj => by
        have hst : Keep (fun b => b ≠ gw) w6 (w6.setCell ⟨gw, q, none⟩ (.slice a' m' c')) := Keep.set w6 (p := ⟨gw, q, none⟩) (fun h => h rfl) _
        by_cases e : j = q
        · subst e
          show NatS _ _ (if j = j then _ else _) _
          rw [if_pos rfl]
          exact SlS.keep HVS.out hst (fun b _ hb => by have h9 : gw < b := hb; show b ≠ gw; omega)
        · show NatS _ _ (if j = q then _ else _) _
          rw [if_neg e]
          exact SlS.keep (HRO6.out j (by omega)) hst (fun b _ hb => by have h9 : gw < b := hb; show b ≠ gw; omega)
      have HNIa : Hid (∀ j, q + 1 ≤ j → (fun j => if j = q then .slice a' m' c' else vs j) j = .slice none 0 0) := hid fun j hj => by
        show (if j = q then _ else _) = _
        rw [if_neg (by omega)]; exact HNI.out j (by omega)
      clear kW6 hk6 x9 f9 hlt9 HRO6 HNI kGr
      go_wp2
      go_roundw
      case rel => exact ⟨q + 1, _, by go_num, by omega, kWa, HROa, HNIa, hka.out⟩
      case measure => simp [intOf]; omega

end Go.Proofs.Ytcpefolhohakmaa
