/- Walks of trankref01's New, Valid, All, Sub. -/
import Derived.Test.YtmknengmjepdaaaQg
namespace Go.Proofs.Ytmknengmjepdaaa
open Go.RowKit

theorem div_mk (n : Int) {d : Int} (hd : 0 < d) : (n : Rat) / (d : Rat) = mkRat n d.natAbs := by
  rw [Rat.mkRat_eq_div]
  have : (d : Rat) = ((d.natAbs : Nat) : Rat) := by rw [← Rat.intCast_natCast, Int.natAbs_of_nonneg (by omega)]
  rw [this]
theorem div_num (n : Int) {d : Int} (hd : 0 < d) : ((n : Rat) / (d : Rat)).num = n / ((Nat.gcd d.natAbs n.natAbs : Nat) : Int) := by
  rw [div_mk n hd, Rat.num_mkRat, if_neg (by omega)]
theorem div_den (n : Int) {d : Int} (hd : 0 < d) : ((n : Rat) / (d : Rat)).den = d.natAbs / Nat.gcd d.natAbs n.natAbs := by
  rw [div_mk n hd, Rat.den_mkRat, if_neg (by omega)]
/-- A fraction within the limits, in lowest terms. -/
def FV (n d : Int) : Prop := 1 ≤ d ∧ d ≤ 1000000000 ∧ -1000000000 ≤ n ∧ n ≤ 1000000000 ∧ Nat.gcd n.natAbs d.natAbs = 1
instance (n d : Int) : Decidable (FV n d) := inferInstanceAs (Decidable (_ ∧ _))
theorem fits_of {n d : Int} (h1 : 1 ≤ d) (h2 : d ≤ 1000000000) (h3 : -1000000000 ≤ n) (h4 : n ≤ 1000000000) : fits ((n : Rat) / (d : Rat)) := by
  have hg : Nat.gcd d.natAbs n.natAbs ∣ n.natAbs := Nat.gcd_dvd_right _ _
  refine ⟨?_, ?_⟩
  · rw [div_num n (by omega), Int.natAbs_ediv_of_dvd (Int.ofNat_dvd_left.2 hg)]
    exact Nat.le_trans (Nat.div_le_self _ _) (by omega)
  · rw [div_den n (by omega)]
    exact Nat.le_trans (Nat.div_le_self _ _) (by omega)
theorem div_self_iff {n d : Int} (h1 : 1 ≤ d) : (((n : Rat) / (d : Rat)).num = n ∧ (((n : Rat) / (d : Rat)).den : Int) = d) ↔ Nat.gcd n.natAbs d.natAbs = 1 := by
  rw [div_num n (by omega), div_den n (by omega), Nat.gcd_comm]
  have hg : 0 < Nat.gcd n.natAbs d.natAbs := Nat.gcd_pos_of_pos_right _ (by omega)
  constructor
  · rintro ⟨_, h⟩
    have hd : d.natAbs / Nat.gcd n.natAbs d.natAbs = d.natAbs := by omega
    have := Nat.div_mul_cancel (Nat.gcd_dvd_right n.natAbs d.natAbs)
    rw [hd] at this
    have h3 : 0 < d.natAbs := by omega
    exact Nat.eq_of_mul_eq_mul_left h3 (by rw [this, Nat.mul_one])
  · intro h
    rw [h]
    simp
    omega
theorem FV.num {n d : Int} (h : FV n d) : ((n : Rat) / (d : Rat)).num = n := ((div_self_iff h.1).2 h.2.2.2.2).1
theorem FV.den {n d : Int} (h : FV n d) : (((n : Rat) / (d : Rat)).den : Int) = d := ((div_self_iff h.1).2 h.2.2.2.2).2

/-- What New(n, d) hands back. -/
def newN (n d : Int) : Int := if d = 0 then 0 else fitN ((n : Rat) / (d : Rat))
def newD (n d : Int) : Int := if d = 0 then 0 else fitD ((n : Rat) / (d : Rat))
def newE (n d : Int) : Int := if d = 0 then 4 else fitE ((n : Rat) / (d : Rat))

set_option maxHeartbeats 1000000 in
theorem New_any (n d : Int) (w : World) (hn1 : -9223372036854775808 ≤ n) (hn2 : n ≤ 9223372036854775807) (hd1 : -9223372036854775808 ≤ d) (hd2 : d ≤ 9223372036854775807) :
    Calls Try.prog 73 #[.int .i64 n, .int .i64 d] w fun e w' => e = .returned (.tuple #[frV (newN n d) (newD n d), .int .i64 (newE n d)]) ∧ Below w.heap.size w w' := by
  by_cases h0 : d = 0
  · subst h0
    rw [show newN n 0 = 0 from rfl, show newD n 0 = 0 from rfl, show newE n 0 = 4 from rfl]
    go_enter Try.func73, Try.ntmps73
    go_wp2
    exact bodyPost_ret (v := .tuple #[frV 0 0, .int .i64 4]) (by simp [results, Try.results73, go_sem]) rfl ⟨rfl, (Below.refl _ _).alloc (Nat.le_refl _) _⟩
  · have hz : (d == 0) = false := by simpa using h0
    have SN := hid ((int_size hn1 hn2).mono (k' := 268435456) (by decide))
    have SD := hid ((int_size hd1 hd2).mono (k' := 268435456) (by decide))
    have hdr : (d : Rat) ≠ 0 := by simpa using h0
    have HDR := hid hdr
    rw [show newN n d = fitN ((n : Rat) / (d : Rat)) from if_neg h0, show newD n d = fitD ((n : Rat) / (d : Rat)) from if_neg h0, show newE n d = fitE ((n : Rat) / (d : Rat)) from if_neg h0]
    obtain ⟨q, hq⟩ : ∃ q, (n : Rat) / (d : Rat) = q := ⟨_, rfl⟩
    rw [hq]
    have HQ := hid hq
    clear hq hdr h0
    obtain ⟨N, hN⟩ : ∃ x, fitN q = x := ⟨_, rfl⟩
    obtain ⟨D, hD⟩ : ∃ x, fitD q = x := ⟨_, rfl⟩
    obtain ⟨E, hE⟩ : ∃ x, fitE q = x := ⟨_, rfl⟩
    have ANS : Hid (∀ v w, QR w v q → Calls Try.prog 110 #[v] w fun e w' => e = .returned (.tuple #[frV N D, .int .i64 E]) ∧ Below w.heap.size w w') := by
      rw [← hN, ← hD, ← hE]; exact fun v w h => answer_any q v w h
    rw [hN, hD, hE]
    clear hN hD hE
    go_enter Try.func73, Try.ntmps73
    go_wp2_with fail
    have hb0 : Below w.heap.size w (w.alloc (.cells #[.int .i64 0, .int .i64 0] 26)) := (Below.refl _ _).alloc (Nat.le_refl _) _
    have hk0 := Blk.new w #[.int .i64 0, .int .i64 0] 26
    obtain ⟨w0, hw0⟩ : ∃ w0, w.alloc (.cells #[.int .i64 0, .int .i64 0] 26) = w0 := ⟨_, rfl⟩
    rw [hw0] at hb0 hk0 ⊢
    clear hw0
    refine (Int_any n _ hn1 hn2).mono ?_
    rintro e w1 ⟨v1, rfl, hv1, hb1⟩
    go_wp2_with fail
    refine (Int_any d _ hd1 hd2).mono ?_
    rintro e w2 ⟨v2, rfl, hv2, hb2⟩
    go_wp2_with fail
    refine (Over_any n d _ _ _ (hv1.below hb2).rat hv2.rat SN.out SD.out HDR.out).mono ?_
    rintro e w3 ⟨v3, rfl, hv3, hb3⟩
    rw [HQ.out] at hv3
    go_wp2_with fail
    refine (ANS.out _ _ hv3.rat).mono ?_
    rintro e w4 ⟨rfl, hb4⟩
    have hk4 := (((hk0.below hb1).below hb2).below hb3).below hb4
    have hB4 : Below w.heap.size w w4 := (((hb0.trans (hb1.mono hb0.size)).trans (hb2.mono (Nat.le_trans hb0.size hb1.size))).trans (hb3.mono (Nat.le_trans (Nat.le_trans hb0.size hb1.size) hb2.size))).trans (hb4.mono (Nat.le_trans (Nat.le_trans (Nat.le_trans hb0.size hb1.size) hb2.size) hb3.size))
    have f4 := hk4.frozen
    have c0 := hk4.cell 0
    have c1 := hk4.cell 1
    go_wp2
    refine bodyPost_ret (v := .tuple #[frV N D, .int .i64 E]) ?_ rfl ⟨rfl, (hB4.setCell (Nat.le_refl _) _).setCell (Nat.le_refl _) _⟩
    simp [results, Try.results73, go_sem, c0, c1]

end Go.Proofs.Ytmknengmjepdaaa
