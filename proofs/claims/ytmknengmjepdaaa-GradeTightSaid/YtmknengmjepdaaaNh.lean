/- Walks of trankref01's natural numbers: divided, divisor. -/
import Derived.Test.YtmknengmjepdaaaNf
import Derived.Test.YtmknengmjepdaaaNg
import Derived.Deep.LoopGhost
namespace Go.Proofs.Ytmknengmjepdaaa
open Go.RowKit

theorem natR_one (w : World) (t : TypeId) : NatF w.heap.size (w.alloc (.cells #[.int .u32 1] t)) (.slice (some ⟨w.heap.size, 0, none⟩) 1 1) 1 := by
  have e : digs 1 = [1] := by rw [digs_pos (by decide), show 1 / 4294967296 = 0 from rfl, digs_zero]
  unfold NatF DsR
  rw [e]
  refine ⟨_, 1, rfl, Nat.le_refl _, by unfold maxLen; omega, fun _ => ⟨w.heap.size, 0, rfl, Nat.le_refl _, by simp, fun j hj => ?_⟩⟩
  have : j = 0 := by simp [u32s] at hj; exact hj
  subst this
  simp [u32s]
theorem len_le_of_le {a b : Nat} {k : Nat} (h : a ≤ b) (hb : (digs b).length ≤ k) : (digs a).length ≤ k := Nat.le_trans (digs_mono_len h) hb
theorem len_dbl {a : Nat} : (digs (a + a)).length ≤ (digs a).length + 1 := by have := digs_len_add a a; omega
theorem small_lt {n : Nat} (h : (digs n).length ≤ 2) : n < 18446744073709551616 := by
  have h1 := lt_pow_digs n
  have h2 := Nat.pow_le_pow_right (show 0 < 4294967296 by omega) h
  omega

theorem natural_z (n : Nat) (z : Int) (w : World) (hz : z = (n : Int)) (hn : n < 18446744073709551616) :
    Calls Try.prog 88 #[.int .u64 z] w fun e w' => ∃ v, e = .returned v ∧ NatF w.heap.size w' v n ∧ Below w.heap.size w w' := by
  subst hz; exact natural_any n w hn

theorem wrap_nat {n : Nat} (h : n < 18446744073709551616) : IntKind.u64.wrap (n : Int) = (n : Int) := by rw [IntKind.wrap_u64]; omega

set_option maxHeartbeats 1000000 in
theorem divided_small (a b : Nat) (u v : Value) (w : World) (ha : NatR w u a) (hb : NatR w v b) (h0 : 0 < b) (la : (digs a).length ≤ 2) (lb : (digs b).length ≤ 2) :
    Calls Try.prog 117 #[u, v] w fun e w' => ∃ v1 v2, e = .returned (.tuple #[v1, v2]) ∧ NatF w.heap.size w' v1 (a / b) ∧ NatF w.heap.size w' v2 (a % b) ∧ Below w.heap.size w w' := by
  have ha0 := ha
  have hb0 := hb
  have hal := small_lt la
  have hbl := small_lt lb
  have hq : a / b < 18446744073709551616 := Nat.lt_of_le_of_lt (Nat.div_le_self _ _) hal
  have hr : a % b < 18446744073709551616 := Nat.lt_of_le_of_lt (Nat.mod_le _ _) hal
  obtain ⟨ao, cap, rfl, hcap, hmax, hc⟩ := ha
  obtain ⟨bo, bcap, rfl, hbcap, hbmax, hbc⟩ := hb
  obtain ⟨L, hL⟩ : ∃ L, (digs a).length = L := ⟨_, rfl⟩
  obtain ⟨M, hM⟩ : ∃ M, (digs b).length = M := ⟨_, rfl⟩
  rw [hL] at ha0 la ⊢
  rw [hM] at hb0 lb ⊢
  clear hL hM hcap hmax hc hbcap hbmax hbc
  go_enter Try.func117, Try.ntmps117
  go_wp2_with fail
  refine (short_any a _ _ hal ha0).mono ?_
  rintro e w' ⟨rfl, rfl⟩
  go_wp2_with fail
  refine (short_any b _ _ hbl hb0).mono ?_
  rintro e w' ⟨rfl, rfl⟩
  go_wp2_with fail
  refine (natural_z (a / b) _ _ (by rw [← Int.natCast_ediv]; exact wrap_nat hq) hq).mono ?_
  rintro e w1 ⟨v1, rfl, hv1, hb1⟩
  have ha1 := ha0.below hb1
  have hb2 := hb0.below hb1
  go_wp2_with fail
  refine (short_any a _ _ hal ha1).mono ?_
  rintro e w' ⟨rfl, rfl⟩
  go_wp2_with fail
  refine (short_any b _ _ hbl hb2).mono ?_
  rintro e w' ⟨rfl, rfl⟩
  go_wp2_with fail
  refine (natural_z (a % b) _ _ (by rw [← Int.natCast_emod]) hr).mono ?_
  rintro e w2 ⟨v2, rfl, hv2, hb3⟩
  go_wp2_with fail
  go_ret2
  exact ⟨v1, v2, rfl, hv1.below hb3, hv2.mono hb1.size, hb1.trans (hb3.mono hb1.size)⟩

theorem and_bit (x r : Nat) (hx : x < 4294967296) : bits BinOp.and IntKind.u32 ((x : Int) / 2 ^ r) 1 = ((x / 2 ^ r % 2 : Nat) : Int) := by
  have h1 : (x : Int) / 2 ^ r = ((x / 2 ^ r : Nat) : Int) := by rw [Int.natCast_ediv]; norm_cast
  have h2 : x / 2 ^ r < 4294967296 := Nat.lt_of_le_of_lt (Nat.div_le_self _ _) hx
  have := u32_and_nat (x / 2 ^ r) 1 h2 (by omega)
  rw [Nat.and_one_is_mod] at this
  rw [h1]; exact this
theorem or_bit {q t r : Nat} (hr : r < 32) (hq : q = t * 2 ^ (r + 1)) (hb : t * 2 ^ (r + 1) + 2 ^ r < 4294967296) : bits BinOp.or IntKind.u32 (q : Int) ((2 : Int) ^ r % 4294967296) = ((t * 2 ^ (r + 1) + 2 ^ r : Nat) : Int) := by
  have h1 : (2 : Int) ^ r % 4294967296 = ((2 ^ r : Nat) : Int) := by
    have h2 : (2 : Int) ^ r = ((2 ^ r : Nat) : Int) := by norm_cast
    have h3 : 2 ^ r < 2 ^ 32 := Nat.pow_lt_pow_right (by omega) hr
    rw [h2]; exact Int.emod_eq_of_lt (Int.natCast_nonneg _) (Int.ofNat_lt.2 h3)
  have h5 : 2 ^ r < 2 ^ 32 := Nat.pow_lt_pow_right (by omega) hr
  rw [h1, u32_or_nat _ _ (by omega) h5, hq, or_free]
theorem NatF.setCell {lo : Nat} {w : World} {v : Value} {n : Nat} (h : NatF lo w v n) {p : Addr} (hp : p.block < lo) (u : Value) : NatF lo (w.setCell p u) v n := SlR.setCell h hp u
theorem NatF.drew {lo : Nat} {w : World} {v : Value} {n : Nat} (h : NatF lo w v n) : NatF lo w.drew v n := h.below (Below.refl _ _).drew
theorem compare_ge (a b : Nat) (u v : Value) (w : World) (ha : NatR w u a) (hb : NatR w v b) (h : b ≤ a) :
    Calls Try.prog 86 #[u, v] w fun e w' => ∃ z : Int, e = .returned (.int .i64 z) ∧ 0 ≤ z ∧ ∃ n, w' = w.drewN n :=
  (compare_any a b u v w ha hb).mono fun _ _ ⟨h1, h2⟩ => ⟨_, h1, by unfold cmpN; rw [if_neg (by omega)]; split <;> omega, h2⟩
theorem compare_lt (a b : Nat) (u v : Value) (w : World) (ha : NatR w u a) (hb : NatR w v b) (h : a < b) :
    Calls Try.prog 86 #[u, v] w fun e w' => e = .returned (.int .i64 (-1)) ∧ ∃ n, w' = w.drewN n :=
  (compare_any a b u v w ha hb).mono fun _ _ ⟨h1, h2⟩ => ⟨by rw [h1]; exact ret_int (cmpN_lt h).symm, h2⟩

set_option maxHeartbeats 2000000 in
theorem divided_big (a b : Nat) (u v : Value) (w : World) (ha : NatR w u a) (hb : NatR w v b) (h0 : 0 < b) (la : (digs a).length ≤ 1073741824) (lb : (digs b).length ≤ 1073741824)
    (hbig : ((digs a).length ≤ 2 ∧ 2 < (digs b).length) ∨ 2 < (digs a).length) :
    Calls Try.prog 117 #[u, v] w fun e w' => ∃ v1 v2, e = .returned (.tuple #[v1, v2]) ∧ NatF w.heap.size w' v1 (a / b) ∧ NatF w.heap.size w' v2 (a % b) ∧ Below w.heap.size w w' := by
  have hb0 := hb
  obtain ⟨ao, cap, rfl, hcap, hmax, hc⟩ := ha
  obtain ⟨bo, bcap, rfl, hbcap, hbmax, hbc⟩ := hb
  unfold maxLen at hmax hbmax
  obtain ⟨L, hL⟩ : ∃ L, (digs a).length = L := ⟨_, rfl⟩
  obtain ⟨M, hM⟩ : ∃ M, (digs b).length = M := ⟨_, rfl⟩
  have HL := hid hL
  have HM := hid hM
  have hda := digs_lt a
  have HA := hid hda
  rw [hL] at hcap la hbig ⊢
  rw [hM] at hbcap lb hbig hb0 ⊢
  clear hL hM hda hbc
  have HB0 := hid hb0
  clear hb0
  rcases hbig with ⟨hb1, hb2⟩ | hb1
  all_goals
    go_enter Try.func117, Try.ntmps117
    go_wp2_with (at_make; refine wpList_mk rfl (.tmp 30) (.tmp 30) _ rfl w.heap.size 116 (.int .u32 0) 4 Try.underlying41 infoU32 rfl _ _ _ _ L rfl rfl (by omega) (by omega) (by omega) (by unfold maxLen; omega) (Nat.le_refl _) ?_; intro w1 hown1 hbw1 hlt1 _)
    rw [← u32s_repl] at hown1
    go_loopw [7, 8] (fun x y wr => ∃ (k : Nat) (o : List Nat), y = .int .i64 ((k : Int) - 1) ∧ k ≤ 32 * L ∧ NatF (w.heap.size + 1) wr x (a / 2 ^ k % b) ∧ o.length = L ∧ (∀ d ∈ o, d < 4294967296) ∧
      wr.ownsRow w.heap.size 116 1 (.slice (some ⟨w.heap.size, 0, none⟩) L L) L (u32s o) ∧ dval o = a / 2 ^ k / b * 2 ^ k ∧ Below w.heap.size w wr ∧ w.heap.size < wr.heap.size) (fun _ y _ => (intOf y + 1).toNat)
    case atStart =>
      exact ⟨32 * L, List.replicate L 0, by go_num, Nat.le_refl _, by rw [shift_all a (by rw [HL.out]; omega), Nat.zero_mod]; unfold NatF DsR; rw [digs_zero]; exact SlR.nil _ _, by simp, fun d hd => by rw [List.eq_of_mem_replicate hd]; decide, hown1,
        by rw [shift_all a (by rw [HL.out]; omega), Nat.zero_div, Nat.zero_mul, dval_replicate], hbw1, hlt1⟩
    case round =>
      obtain ⟨k, o, rfl, hk, hrest, hlen, hall, hown, hq, hbel, hsz⟩ := hrel
      have HLen := hid hlen
      have HAll := hid hall
      have HQ := hid hq
      clear hlen hall hq
      by_cases hk0 : k = 0
      · subst hk0
        go_wp2_with (go_at_call 115; refine (trimmed_any w.heap.size o _ _ HAll.out (by unfold DsR; rw [HLen.out]; exact SlR.of_owns hown)).mono ?_; rintro e w' ⟨v', rfl, hv', rfl⟩)
        go_ret2
        have h1 := HQ.out
        simp only [Nat.pow_zero, Nat.div_one, Nat.mul_one] at h1 hrest
        rw [h1] at hv'
        exact ⟨_, _, rfl, hv', hrest.mono (by omega), hbel⟩
      · obtain ⟨r, hr⟩ : ∃ r, a / 2 ^ k % b = r := ⟨_, rfl⟩
        have hrb : r < b := by rw [← hr]; exact Nat.mod_lt _ h0
        have hrl : (digs r).length ≤ 1073741824 := len_le_of_le (Nat.le_of_lt hrb) (by rw [HM.out]; exact lb)
        have hrl2 : (digs (r + r)).length ≤ 1073741825 := by have := @len_dbl r; omega
        rw [hr] at hrest
        have HR := hid hr
        clear hr
        obtain ⟨b1, off1, rfl, hb1, hcell1⟩ := u32s_cell hc (i := (k - 1) / 32) (by rw [HL.out]; omega)
        obtain ⟨x, hx, hxl⟩ := digit_at HA.out (i := (k - 1) / 32)
        rw [hx] at hcell1
        have HX := hid hx
        clear hx
        go_wp2_with fail
        refine (plus_any r r _ _ _ hrest.nat hrest.nat (by omega) (by omega)).mono ?_
        rintro e w1 ⟨v1, rfl, hv1, hw1⟩
        have hbel1 : Below w.heap.size w w1 := hbel.trans (hw1.mono hbel.size)
        have hcr1 := (hbel1.cell (p := ⟨b1, off1 + (k - 1) / 32, none⟩) hb1).trans hcell1
        obtain ⟨e, he⟩ : ∃ e, a / 2 ^ (k - 1) % 2 = e := ⟨_, rfl⟩
        have hbit := and_bit x ((k - 1) % 32) hxl
        have hbe : x / 2 ^ ((k - 1) % 32) % 2 = e := by rw [← he, ← bit_of a (k - 1), HX.out]
        rw [hbe] at hbit
        have HE := hid he
        clear he hbe
        obtain ⟨R, hR⟩ : ∃ R, r + r + e = R := ⟨_, rfl⟩
        have he2 : e ≤ 1 := by have := HE.out; omega
        have hRl : (digs R).length ≤ 1073741826 := by rw [← hR]; exact Nat.le_trans (digs_len_add _ _) (by have := digs_len_small (n := e) (by omega); omega)
        have HRR := hid hR
        have key : ∃ (x0 : Bool), (bits BinOp.and IntKind.u32 ((x : Int) / 2 ^ ((k - 1) % 32)) 1 == 1) = x0 ∧ ((x0 = false ∧ R = r + r) ∨ (x0 = true ∧ R = r + r + 1)) := by
          rw [hbit]
          rcases (show e = 0 ∨ e = 1 by omega) with h | h
          · exact ⟨false, by rw [h]; rfl, .inl ⟨rfl, by omega⟩⟩
          · exact ⟨true, by rw [h]; rfl, .inr ⟨rfl, by omega⟩⟩
        clear hbit hR
        obtain ⟨x0, hb', hx0⟩ := key
        rcases hx0 with ⟨rfl, hRr⟩ | ⟨rfl, hRr⟩
        · obtain ⟨v2, rfl⟩ : ∃ v, v = v1 := ⟨_, rfl⟩
          have hv2 : NatF (w.heap.size + 1) w1 v2 R := by rw [hRr]; exact hv1.mono (by omega)
          obtain ⟨w2, rfl⟩ : ∃ w', w' = w1 := ⟨_, rfl⟩
          have hown2 := owns_below hown hw1
          have hbel2 := hbel1
          have hsz2 : w.heap.size < w2.heap.size := Nat.lt_of_lt_of_le hsz hw1.size
          clear hRr
          by_cases hge : b ≤ R
          · go_wp2_with fail
            refine (compare_ge R b _ _ _ hv2.nat (HB0.out.below hbel2) hge).mono ?_
            rintro e w3 ⟨z, rfl, hz, n, rfl⟩
            have hd3 := below_drewN0 (Below.refl w2.heap.size w2) n
            have hbel3 := below_drewN0 hbel2 n
            go_wp2_with fail
            refine (less_any R b _ _ _ (hv2.below hd3).nat (HB0.out.below hbel3) hge (by omega)).mono ?_
            rintro e w4 ⟨v4, rfl, hv4, hw4⟩
            have hown4 := owns_below (owns_below hown2 hd3) hw4
            have hbel4 : Below w.heap.size w w4 := hbel3.trans (hw4.mono hbel3.size)
            have hsz4 : w.heap.size < w4.heap.size := Nat.lt_of_lt_of_le hsz2 (Nat.le_trans hd3.size hw4.size)
            have hco := dig_cell hown4 (j := (k - 1) / 32) (by rw [HLen.out]; omega)
            have hfo := hown4.frozenAt ((k - 1) / 32)
            obtain ⟨q, hq⟩ : ∃ q, o.getD ((k - 1) / 32) 0 = q := ⟨_, rfl⟩
            rw [hq] at hco
            have HQQ := hid hq
            clear hq
            go_wp2
            go_region
            all_goals go_wp2
            go_roundw
            case rel =>
              obtain ⟨g1, g2⟩ := div_ge hk0 h0 HR.out HE.out HRR.out hge
              have hqq := HQ.out
              obtain ⟨t, ht, htl⟩ := digit_free o HAll.out (k - 1) (a / 2 ^ k / b) (by rw [show k - 1 + 1 = k by omega]; exact hqq)
              refine ⟨k - 1, o.set ((k - 1) / 32) (t * 2 ^ ((k - 1) % 32 + 1) + 2 ^ ((k - 1) % 32)), by go_num, by omega, ?_, by rw [List.length_set]; exact HLen.out, mem_set_lt HAll.out htl, ?_, ?_, ((hbel4.setCell (Nat.le_refl _) _).drew), by simpa [World.setCell] using hsz4⟩
              · rw [g1]; exact (NatF.setCell (hv4.mono (Nat.le_trans hsz2 hd3.size)) (Nat.lt_succ_self _) _).drew
              · exact (dig_set hown4 _ _ (or_bit (Nat.mod_lt _ (by omega)) (HQQ.out.symm.trans ht) htl)).drew
              · rw [set_bit (by rw [HLen.out]; omega) ht, g2, hqq]
            case measure => simp [intOf]; omega
          · go_wp2_with fail
            refine (compare_lt R b _ _ _ hv2.nat (HB0.out.below hbel2) (by omega)).mono ?_
            rintro e w3 ⟨rfl, n, rfl⟩
            go_wp2
            go_roundw
            case rel =>
              obtain ⟨g1, g2⟩ := div_lt hk0 h0 HR.out HE.out HRR.out hge
              have hd3 := below_drewN0 (Below.refl w2.heap.size w2) n
              exact ⟨k - 1, o, by go_num, by omega, by rw [g1]; exact hv2.below hd3, HLen.out, HAll.out, owns_below hown2 hd3, by rw [g2]; exact HQ.out, below_drewN0 hbel2 n, Nat.lt_of_lt_of_le hsz2 hd3.size⟩
            case measure => simp [intOf]; omega
        · have hRR := hid hRr
          clear hRr
          go_wp2_with fail
          refine (plus_any (r + r) 1 _ _ _ (hv1.below ((Below.refl _ _).alloc (Nat.le_refl _) _)).nat (natR_one _ _).nat (by omega) (by rw [digs_one (by decide) (by decide)]; decide)).mono ?_
          rintro e w2 ⟨v2, rfl, hv2', hw2⟩
          have hw12 : Below w1.heap.size w1 w2 := ((Below.refl _ _).alloc (Nat.le_refl _) _).trans (hw2.mono (by simp))
          have hv2 : NatF (w.heap.size + 1) w2 v2 R := by rw [hRR.out]; exact hv2'.mono (by have := hw1.size; simp; omega)
          have hown2 := owns_below (owns_below hown hw1) hw12
          have hbel2 : Below w.heap.size w w2 := hbel1.trans (hw12.mono hbel1.size)
          have hsz2 : w.heap.size < w2.heap.size := Nat.lt_of_lt_of_le hsz (Nat.le_trans hw1.size hw12.size)
          by_cases hge : b ≤ R
          · go_wp2_with fail
            refine (compare_ge R b _ _ _ hv2.nat (HB0.out.below hbel2) hge).mono ?_
            rintro e w3 ⟨z, rfl, hz, n, rfl⟩
            have hd3 := below_drewN0 (Below.refl w2.heap.size w2) n
            have hbel3 := below_drewN0 hbel2 n
            go_wp2_with fail
            refine (less_any R b _ _ _ (hv2.below hd3).nat (HB0.out.below hbel3) hge (by omega)).mono ?_
            rintro e w4 ⟨v4, rfl, hv4, hw4⟩
            have hown4 := owns_below (owns_below hown2 hd3) hw4
            have hbel4 : Below w.heap.size w w4 := hbel3.trans (hw4.mono hbel3.size)
            have hsz4 : w.heap.size < w4.heap.size := Nat.lt_of_lt_of_le hsz2 (Nat.le_trans hd3.size hw4.size)
            have hco := dig_cell hown4 (j := (k - 1) / 32) (by rw [HLen.out]; omega)
            have hfo := hown4.frozenAt ((k - 1) / 32)
            obtain ⟨q, hq⟩ : ∃ q, o.getD ((k - 1) / 32) 0 = q := ⟨_, rfl⟩
            rw [hq] at hco
            have HQQ := hid hq
            clear hq
            go_wp2
            go_region
            all_goals go_wp2
            go_roundw
            case rel =>
              obtain ⟨g1, g2⟩ := div_ge hk0 h0 HR.out HE.out HRR.out hge
              have hqq := HQ.out
              obtain ⟨t, ht, htl⟩ := digit_free o HAll.out (k - 1) (a / 2 ^ k / b) (by rw [show k - 1 + 1 = k by omega]; exact hqq)
              refine ⟨k - 1, o.set ((k - 1) / 32) (t * 2 ^ ((k - 1) % 32 + 1) + 2 ^ ((k - 1) % 32)), by go_num, by omega, ?_, by rw [List.length_set]; exact HLen.out, mem_set_lt HAll.out htl, ?_, ?_, ((hbel4.setCell (Nat.le_refl _) _).drew), by simpa [World.setCell] using hsz4⟩
              · rw [g1]; exact (NatF.setCell (hv4.mono (Nat.le_trans hsz2 hd3.size)) (Nat.lt_succ_self _) _).drew
              · exact (dig_set hown4 _ _ (or_bit (Nat.mod_lt _ (by omega)) (HQQ.out.symm.trans ht) htl)).drew
              · rw [set_bit (by rw [HLen.out]; omega) ht, g2, hqq]
            case measure => simp [intOf]; omega
          · go_wp2_with fail
            refine (compare_lt R b _ _ _ hv2.nat (HB0.out.below hbel2) (by omega)).mono ?_
            rintro e w3 ⟨rfl, n, rfl⟩
            go_wp2
            go_roundw
            case rel =>
              obtain ⟨g1, g2⟩ := div_lt hk0 h0 HR.out HE.out HRR.out hge
              have hd3 := below_drewN0 (Below.refl w2.heap.size w2) n
              exact ⟨k - 1, o, by go_num, by omega, by rw [g1]; exact hv2.below hd3, HLen.out, HAll.out, owns_below hown2 hd3, by rw [g2]; exact HQ.out, below_drewN0 hbel2 n, Nat.lt_of_lt_of_le hsz2 hd3.size⟩
            case measure => simp [intOf]; omega

theorem divided_any (a b : Nat) (u v : Value) (w : World) (ha : NatR w u a) (hb : NatR w v b) (h0 : 0 < b) (la : (digs a).length ≤ 1073741824) (lb : (digs b).length ≤ 1073741824) :
    Calls Try.prog 117 #[u, v] w fun e w' => ∃ v1 v2, e = .returned (.tuple #[v1, v2]) ∧ NatF w.heap.size w' v1 (a / b) ∧ NatF w.heap.size w' v2 (a % b) ∧ Below w.heap.size w w' := by
  by_cases h1 : (digs a).length ≤ 2
  · by_cases h2 : (digs b).length ≤ 2
    · exact divided_small a b u v w ha hb h0 h1 h2
    · exact divided_big a b u v w ha hb h0 la lb (.inl ⟨h1, by omega⟩)
  · exact divided_big a b u v w ha hb h0 la lb (.inr (by omega))

theorem gcd_step {i j g : Nat} (h : Nat.gcd i j = g) : Nat.gcd j (i % j) = g := by rw [← h, Nat.gcd_comm i j, Nat.gcd_rec j i, Nat.gcd_comm]

set_option maxHeartbeats 1000000 in
theorem divisor_any (a b : Nat) (u v : Value) (w : World) (ha : NatR w u a) (hb : NatR w v b) (la : (digs a).length ≤ 1073741824) (lb : (digs b).length ≤ 1073741824) :
    Calls Try.prog 116 #[u, v] w fun e w' => ∃ v', e = .returned v' ∧ NatR w' v' (Nat.gcd a b) ∧ Below w.heap.size w w' := by
  go_enter Try.func116, Try.ntmps116
  go_wp2
  go_loopg [0, 1] b (fun j x y wr => ∃ i : Nat, NatR wr x i ∧ NatR wr y j ∧ (digs i).length ≤ 1073741824 ∧ (digs j).length ≤ 1073741824 ∧ Nat.gcd i j = Nat.gcd a b ∧ Below w.heap.size w wr)
  case atStart => exact ⟨a, ha, hb, la, lb, rfl, Below.refl _ _⟩
  case round =>
    obtain ⟨i, hx, hy, lx, ly, hg, hbel⟩ := hrel
    have HG := hid hg
    clear hg
    by_cases h0 : gk = 0
    · subst h0
      obtain ⟨yo, ycap, rfl, _⟩ := hy
      rw [digs_zero] at *
      go_wp2
      go_ret
      exact ⟨_, rfl, by rw [← HG.out, Nat.gcd_zero_right]; exact hx, hbel⟩
    · have hy0 := hy
      obtain ⟨yo, ycap, rfl, _⟩ := hy
      have hpos : 0 < (digs gk).length := by have := @digs_len_zero gk; omega
      go_wp2_with (go_at_call 117; refine (divided_any i gk _ _ _ hx hy0 (by omega) lx ly).mono ?_; rintro e w1 ⟨v1, v2, rfl, _, hv2, hb1⟩)
      go_roundg (i % gk)
      case measure => exact Nat.mod_lt _ (by omega)
      case rel => exact ⟨gk, hy0.below hb1, hv2.nat, ly, len_le_of_le (Nat.le_of_lt (Nat.mod_lt _ (by omega))) ly, gcd_step HG.out, hbel.trans (hb1.mono hbel.size)⟩

end Go.Proofs.Ytmknengmjepdaaa
