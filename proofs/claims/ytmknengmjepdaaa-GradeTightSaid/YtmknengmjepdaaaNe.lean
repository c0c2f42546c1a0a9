/- Walks of trankref01's natural numbers: times. -/
import Derived.Test.YtmknengmjepdaaaNd
namespace Go.Proofs.Ytmknengmjepdaaa
open Go.RowKit

theorem times_inner {D i k x y Y Y' : Nat} (hY : Y' = Y + 4294967296 ^ k * y) : D + 4294967296 ^ i * (x * Y) + 4294967296 ^ (i + k) * (x * y) = D + 4294967296 ^ i * (x * Y') := by
  rw [hY, Nat.pow_add, Nat.mul_assoc, Nat.add_assoc, ← Nat.mul_add]
  congr 2
  rw [Nat.mul_add, Nat.mul_left_comm]
theorem times_row {o : List Nat} {j c i x b X X' : Nat} (hj : j < o.length) (h0 : o.getD j 0 = 0) (h : dval o + 4294967296 ^ j * c = X * b + 4294967296 ^ i * (x * b)) (hX : X' = X + 4294967296 ^ i * x) : dval (o.set j c) = X' * b := by
  have h1 := dval_set o j c hj
  rw [h0, Nat.mul_zero, Nat.add_zero, h] at h1
  rw [h1, hX, Nat.add_mul, Nat.mul_assoc]
theorem getD_repl (n j : Nat) : (List.replicate n 0).getD j 0 = 0 := by
  rw [List.getD_eq_getElem?_getD, List.getElem?_replicate]
  split <;> rfl
theorem u32s_repl (n : Nat) : u32s (List.replicate n 0) = List.replicate n (.int .u32 0) := by
  unfold u32s; rw [List.map_replicate]; rfl

set_option maxHeartbeats 2000000 in
theorem times_any (a b : Nat) (u v : Value) (w : World) (ha : NatR w u a) (hb : NatR w v b) (la : (digs a).length ≤ 1099511627776) (lb : (digs b).length ≤ 1099511627776) :
    Calls Try.prog 83 #[u, v] w fun e w' => ∃ v', e = .returned v' ∧ NatF w.heap.size w' v' (a * b) ∧ Below w.heap.size w w' := by
  obtain ⟨ao, cap, rfl, hcap, hmax, hc⟩ := ha
  obtain ⟨bo, bcap, rfl, hbcap, hbmax, hbc⟩ := hb
  unfold maxLen at hmax hbmax
  obtain ⟨L, hL⟩ : ∃ L, (digs a).length = L := ⟨_, rfl⟩
  obtain ⟨M, hM⟩ : ∃ M, (digs b).length = M := ⟨_, rfl⟩
  have HL := hid hL
  have HM := hid hM
  have hda := digs_lt a
  have hdb := digs_lt b
  have HA := hid hda
  have HB := hid hdb
  rw [hL] at hcap la ⊢
  rw [hM] at hbcap lb ⊢
  clear hL hM hda hdb
  go_enter Try.func83, Try.ntmps83
  go_wp2_with (at_make; refine wpList_mk rfl (.tmp 16) (.tmp 16) _ rfl w.heap.size 116 (.int .u32 0) 4 Try.underlying41 infoU32 rfl _ _ _ _ (L + M + 1) rfl rfl (by omega) (by omega) (by omega) (by unfold maxLen; omega) (Nat.le_refl _) ?_; intro w1 hown1 hb1 hlt1 _)
  rw [← u32s_repl] at hown1
  go_loopw [20] (fun x wr => ∃ (i : Nat) (o : List Nat), x = .int .i64 i ∧ i ≤ L ∧ o.length = L + M + 1 ∧ (∀ d ∈ o, d < 4294967296) ∧ wr.ownsRow w.heap.size 116 1 (.slice (some ⟨w.heap.size, 0, none⟩) (L + M + 1) (L + M + 1)) (L + M + 1) (u32s o) ∧
      dval o = dval ((digs a).take i) * b ∧ (∀ j, i + M ≤ j → o.getD j 0 = 0) ∧ Below w.heap.size w wr) (fun x _ => L - (intOf x).toNat)
  case atStart => exact ⟨0, List.replicate (L + M + 1) 0, rfl, by omega, by simp, fun d hd => by rw [List.eq_of_mem_replicate hd]; decide, hown1, by rw [dval_replicate]; simp [dval], fun j _ => getD_repl _ _, hb1⟩
  case round =>
    obtain ⟨i, o, rfl, hi, hlen, hall, hown, hsum, hzero, hbel⟩ := hrel
    have HLen := hid hlen
    have HAll := hid hall
    have HS := hid hsum
    have HZ := hid hzero
    clear hlen hall hsum hzero
    by_cases h1 : i < L
    · obtain ⟨b1, off1, rfl, hb1, hcell1⟩ := u32s_cell hc (i := i) (by rw [HL.out]; omega)
      have hcr1 := (hbel.cell (p := ⟨b1, off1 + i, none⟩) hb1).trans hcell1
      obtain ⟨x, hx, hxl⟩ := digit_at HA.out (i := i)
      rw [hx] at hcr1
      have HX := hid hx
      clear hx hcell1 hb1
      obtain ⟨wo, rfl⟩ : ∃ wo : World, wo = wr := ⟨_, rfl⟩
      go_wp2
      go_loopw [8, 27] (fun y z wr => ∃ (k c : Nat) (o' : List Nat), y = .int .u64 c ∧ z = .int .i64 k ∧ k ≤ M ∧ c < 4294967296 ∧ o'.length = L + M + 1 ∧ (∀ d ∈ o', d < 4294967296) ∧ wr.ownsRow w.heap.size 116 1 (.slice (some ⟨w.heap.size, 0, none⟩) (L + M + 1) (L + M + 1)) (L + M + 1) (u32s o') ∧
        dval o' + 4294967296 ^ (i + k) * c = dval o + 4294967296 ^ i * (x * dval ((digs b).take k)) ∧ (∀ j, i + M ≤ j → o'.getD j 0 = 0) ∧ Below w.heap.size w wr) (fun _ z _ => M - (intOf z).toNat)
      case atStart => exact ⟨0, 0, o, rfl, rfl, by omega, by omega, HLen.out, HAll.out, hown, by simp only [List.take_zero, dval, Nat.mul_zero, Nat.add_zero], HZ.out, hbel⟩
      case round =>
        obtain ⟨k, c, o', rfl, rfl, hk, hcl, hlen', hall', hown', hsum', hzero', hbel'⟩ := hrel
        have HLen' := hid hlen'
        have HAll' := hid hall'
        have HS' := hid hsum'
        have HZ' := hid hzero'
        clear hlen' hall' hsum' hzero'
        by_cases h2 : k < M
        · obtain ⟨b2, off2, rfl, hb2, hcell2⟩ := u32s_cell hbc (i := k) (by rw [HM.out]; omega)
          have hcr2 := (hbel'.cell (p := ⟨b2, off2 + k, none⟩) hb2).trans hcell2
          obtain ⟨y, hy, hyl⟩ := digit_at HB.out (i := k)
          rw [hy] at hcr2
          have HY := hid hy
          clear hy hcell2 hb2
          have hco := dig_cell hown' (j := i + k) (by rw [HLen'.out]; omega)
          have hfo := hown'.frozenAt (i + k)
          obtain ⟨z, hz, hzl⟩ := digit_at HAll'.out (i := i + k)
          rw [hz] at hco
          have HZZ := hid hz
          clear hz
          have hxy : (x : Int) * (y : Int) ≤ 18446744065119617025 := by rw [← Int.natCast_mul]; have := prod_lt hxl hyl; omega
          have hxy0 : 0 ≤ (x : Int) * (y : Int) := by rw [← Int.natCast_mul]; omega
          go_wp2
          go_roundw
          case rel =>
            have hp := prod_lt hxl hyl
            exact ⟨k + 1, (c + (z + x * y)) / 4294967296, o'.set (i + k) ((c + (z + x * y)) % 4294967296), congrArg (Value.int .u64) (by rw [Int.natCast_ediv, Int.natCast_add, Int.natCast_add, Int.natCast_mul]; rfl), by go_num, by omega, by omega, by rw [List.length_set]; exact HLen'.out, mem_set_lt HAll'.out (by omega),
              dig_set hown' _ _ (by rw [Int.natCast_emod, Int.natCast_add, Int.natCast_add, Int.natCast_mul]; rfl), by rw [← times_inner (take_step (by rw [HM.out]; omega)), HY.out]; exact times_step (by rw [HLen'.out]; omega) (by rw [HZZ.out]) HS'.out,
              fun j hj => by rw [getD_set_ne (by omega)]; exact HZ'.out j hj, hbel'.setCell (Nat.le_refl _) _⟩
          case measure => simp [intOf]; omega
        · obtain rfl : k = M := by omega
          have hco := dig_cell hown' (j := i + k) (by rw [HLen'.out]; omega)
          have hfo := hown'.frozenAt (i + k)
          rw [HZ'.out _ (Nat.le_refl _)] at hco
          go_wp2
          go_roundw
          case rel =>
            have hs := HS'.out
            rw [List.take_of_length_le (by rw [HM.out]; omega), dval_digs, HS.out] at hs
            exact ⟨i + 1, o'.set (i + k) c, by go_num, by omega, by rw [List.length_set]; exact HLen'.out, mem_set_lt HAll'.out hcl, dig_set hown' _ _ (by first | rfl | omega),
              times_row (by rw [HLen'.out]; omega) (HZ'.out _ (Nat.le_refl _)) hs (by rw [take_step (by rw [HL.out]; omega), HX.out]), fun j hj => by rw [getD_set_ne (by omega)]; exact HZ'.out j (by omega), hbel'.setCell (Nat.le_refl _) _⟩
          case measure => simp [intOf]; omega
    · obtain rfl : i = L := by omega
      go_wp2_with (go_at_call 115; refine (trimmed_any w.heap.size o _ _ HAll.out (by unfold DsR; rw [HLen.out]; exact SlR.of_owns hown)).mono ?_; rintro e w' ⟨v', rfl, hv', rfl⟩)
      go_ret
      refine ⟨_, rfl, ?_, hbel⟩
      rw [HS.out, List.take_of_length_le (by rw [HL.out]; omega), dval_digs] at hv'
      exact hv'

end Go.Proofs.Ytmknengmjepdaaa
