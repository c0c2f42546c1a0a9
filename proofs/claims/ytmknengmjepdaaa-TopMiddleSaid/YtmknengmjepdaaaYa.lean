/- Measures: walks of grade.Pattern.assigned and trankref01.All; when measures satisfy a rule, plainly. -/
import Derived.Test.YtmknengmjepdaaaFf
import Derived.Test.YtmknengmjepdaaaFg
import Derived.Test.YtmknengmjepdaaaRy
namespace Go.Proofs.Ytmknengmjepdaaa
open Go.RowKit
attribute [local irreducible] seqS seqST walkV walkJ

/-- Measures of a pattern. -/
def AsgP (p : Pat) (l : List (Int × Int)) : Prop := (l.length : Int) = p.n ∧ ∀ f ∈ l, FV f.1 f.2
instance (p : Pat) (l : List (Int × Int)) : Decidable (AsgP p l) := inferInstanceAs (Decidable (_ ∧ _))

set_option maxHeartbeats 1000000 in
theorem All1_any (l : List (Int × Int)) (v : Value) (w : World) (h : FrsR 0 w v l) :
    Calls Try.prog 56 #[v] w fun e w' => e = .returned (.bool (decide (∀ f ∈ l, FV f.1 f.2))) ∧ Below w.heap.size w w' := by
  obtain ⟨ao, cap, rfl, hcap, hmax, hc⟩ := h
  unfold maxLen at hmax
  obtain ⟨res, hres⟩ : ∃ b, decide (∀ f ∈ l, FV f.1 f.2) = b := ⟨_, rfl⟩
  rw [hres]
  have HR := hid hres
  clear hres
  go_enter Try.func56, Try.ntmps56
  go_wp2
  go_loopw [7] (fun x wr => ∃ i : Nat, x = .int .i64 i ∧ i ≤ l.length ∧ (∀ f ∈ l.take i, FV f.1 f.2) ∧ Below w.heap.size w wr) (fun x _ => l.length - (intOf x).toNat)
  case atStart => exact ⟨0, rfl, Nat.zero_le _, by simp, Below.refl _ _⟩
  case round =>
    obtain ⟨i, rfl, hi, hall, hbel⟩ := hrel
    have HA := hid hall
    clear hall
    by_cases h1 : i < l.length
    · obtain ⟨b, off, rfl, hb, c0, c1⟩ := fr_cell hc h1
      have d0 := (hbel.cell (p := ⟨b, off + i * 2, none⟩) hb).trans c0
      have d1 := (hbel.cell (p := ⟨b, off + i * 2 + 1, none⟩) hb).trans c1
      obtain ⟨n, hn⟩ : ∃ n, (l.getD i (0, 0)).1 = n := ⟨_, rfl⟩
      obtain ⟨d, hd⟩ : ∃ n, (l.getD i (0, 0)).2 = n := ⟨_, rfl⟩
      rw [hn] at d0
      rw [hd] at d1
      have HN := hid hn
      have HD := hid hd
      clear hn hd c0 c1
      go_wp2_with fail
      refine (Valid_any n d _).mono ?_
      rintro e w1 ⟨rfl, hb1⟩
      have hsz := hbel.size
      by_cases hv : FV n d
      · rw [decide_eq_true hv]
        have HV := hid hv
        clear hv
        go_wp2
        refine ⟨⟨i + 1, by go_num, by omega, all_take h1 HA.out (by rw [HN.out, HD.out]; exact HV.out), (hbel.alloc hsz _).trans (hb1.mono (by simp; omega))⟩, by simp [intOf]; omega⟩
      · rw [decide_eq_false hv]
        have HV := hid hv
        clear hv
        go_wp2
        go_ret
        refine ⟨ret_bool ?_, (hbel.alloc hsz _).trans (hb1.mono (by simp; omega))⟩
        rw [← HR.out]; symm
        rw [decide_eq_false_iff_not]
        intro hh
        have := hh _ (getD_mem' h1)
        rw [HN.out, HD.out] at this
        exact HV.out this
    · obtain rfl : i = l.length := by omega
      go_wp2
      go_ret
      refine ⟨ret_bool ?_, hbel⟩
      rw [← HR.out]; symm
      rw [decide_eq_true_eq]
      have := HA.out
      rwa [List.take_length] at this

theorem asg_any (p : Pat) (l : List (Int × Int)) (sv v : Value) (w : World) (h : FrsR 0 w v l) :
    Calls Try.prog 98 #[.agg #[.int .i64 p.n, sv], v] w fun e w' => e = .returned (.bool (decide (AsgP p l))) ∧ Below w.heap.size w w' := by
  have := assigned_any p.n sv l v w h
  rwa [← Bool.decide_and] at this

/-- Measures satisfy a rule. -/
def okR (n d : Int) (l : List (Int × Int)) (r : Rul) : Bool :=
  decide (wt r n d * ((l.getD r.a.toNat (0, 0)).2 * (l.getD r.b.toNat (0, 0)).2) ≤ ((l.getD r.a.toNat (0, 0)).1 * (l.getD r.b.toNat (0, 0)).2 - (l.getD r.b.toNat (0, 0)).1 * (l.getD r.a.toNat (0, 0)).2) * d)
/-- What Fits hands back. -/
def ftE (p : Pat) (n d : Int) (l : List (Int × Int)) : Int := if PValid p ∧ FSize n d ∧ AsgP p l then 0 else 2
def ftB (p : Pat) (n d : Int) (l : List (Int × Int)) : Bool := decide (ftE p n d l = 0) && decide ((l.getD 0 (0, 0)).1 = 0) && (ext p).all (okR n d l)
theorem fit_two {p : Pat} {n d : Int} {l : List (Int × Int)} (h : ¬ (PValid p ∧ FSize n d ∧ AsgP p l)) : ftE p n d l = 2 ∧ ftB p n d l = false := by
  have h1 : ftE p n d l = 2 := if_neg h
  exact ⟨h1, by unfold ftB; rw [h1]; rfl⟩
theorem fit_ok {p : Pat} {n d : Int} {l : List (Int × Int)} (h : PValid p ∧ FSize n d ∧ AsgP p l) : ftE p n d l = 0 ∧ ftB p n d l = (decide ((l.getD 0 (0, 0)).1 = 0) && (ext p).all (okR n d l)) := by
  have h1 : ftE p n d l = 0 := if_pos h
  exact ⟨h1, by unfold ftB; rw [h1]; rfl⟩
theorem fv_at {p : Pat} {l : List (Int × Int)} (h : AsgP p l) {i : Nat} (hi : i < p.n.toNat) : i < l.length ∧ FV (l.getD i (0, 0)).1 (l.getD i (0, 0)).2 := by
  have hl : i < l.length := by have := h.1; omega
  exact ⟨hl, h.2 _ (getD_mem' hl)⟩
theorem mul_bd {x y X Y : Int} (h1 : -X ≤ x) (h2 : x ≤ X) (h3 : 0 ≤ y) (h4 : y ≤ Y) : -(X * Y) ≤ x * y ∧ x * y ≤ X * Y := prod_bd h1 h2 h3 h4
/-- What the walks reckon stays in 64 bits. -/
theorem fit_bd {a b c e : Int} (h1 : FV a b) (h2 : FV c e) : (-1000000000000000000 ≤ a * e ∧ a * e ≤ 1000000000000000000) ∧ (-1000000000000000000 ≤ c * b ∧ c * b ≤ 1000000000000000000) ∧ (1 ≤ b * e ∧ b * e ≤ 1000000000000000000) := by
  have e1 := prod_bd (x := a) (y := e) (X := 1000000000) (Y := 1000000000) (by have := h1.2.2.1; omega) h1.2.2.2.1 (by have := h2.1; omega) h2.2.1
  have e2 := prod_bd (x := c) (y := b) (X := 1000000000) (Y := 1000000000) (by have := h2.2.2.1; omega) h2.2.2.2.1 (by have := h1.1; omega) h1.2.1
  have e3 := prod_bd (x := b) (y := e) (X := 1000000000) (Y := 1000000000) (by have := h1.1; omega) h1.2.1 (by have := h2.1; omega) h2.2.1
  have e4 : 0 < b * e := Int.mul_pos (by have := h1.1; omega) (by have := h2.1; omega)
  omega

end Go.Proofs.Ytmknengmjepdaaa
