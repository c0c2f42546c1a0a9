/- Walk of grade.Pattern.assigned. -/
import Derived.Test.YtmknengmjepdaaaFd
import Derived.Test.YtmknengmjepdaaaPx
namespace Go.Proofs.Ytmknengmjepdaaa
open Go.RowKit

set_option maxHeartbeats 1000000 in
theorem assigned_any (m : Int) (sv : Value) (l : List (Int × Int)) (v : Value) (w : World) (h : FrsR 0 w v l) :
    Calls Try.prog 98 #[.agg #[.int .i64 m, sv], v] w fun e w' => e = .returned (.bool (decide ((l.length : Int) = m) && decide (∀ f ∈ l, FV f.1 f.2))) ∧ Below w.heap.size w w' := by
  obtain ⟨ao, cap, rfl, hcap, hmax, hc⟩ := h
  unfold maxLen at hmax
  obtain ⟨res, hres⟩ : ∃ b, decide (∀ f ∈ l, FV f.1 f.2) = b := ⟨_, rfl⟩
  rw [hres]
  have HR := hid hres
  clear hres
  have HLM : ∀ z : Int, Hid (Below w.heap.size w (w.alloc (.cells #[.int .i64 z, sv] 33))) := fun z => hid ((Below.refl w.heap.size w).alloc (Nat.le_refl _) _)
  by_cases hlm : (l.length : Int) = m
  · rw [decide_eq_true hlm]
    subst hlm
    go_enter Try.func98, Try.ntmps98
    go_wp2_with fail
    have b0 := (HLM (l.length : Int)).out
    have hsz0 : (w.alloc (.cells #[.int .i64 (l.length : Int), sv] 33)).heap.size = w.heap.size + 1 := World.size_alloc _ _
    obtain ⟨w0, hw0⟩ : ∃ w0, w.alloc (.cells #[.int .i64 (l.length : Int), sv] 33) = w0 := ⟨_, rfl⟩
    rw [hw0] at b0 hsz0 ⊢
    clear hw0
    obtain ⟨S, hS⟩ : ∃ S, w.heap.size = S := ⟨_, rfl⟩
    have HS := hid hS
    rw [hS] at b0 hsz0 ⊢
    clear hS
    go_loopw [14] (fun x wr => ∃ i : Nat, x = .int .i64 i ∧ i ≤ l.length ∧ (∀ f ∈ l.take i, FV f.1 f.2) ∧ Below S w wr ∧ S ≤ wr.heap.size) (fun x _ => l.length - (intOf x).toNat)
    case atStart => exact ⟨0, rfl, Nat.zero_le _, by simp, b0, by omega⟩
    case round =>
      obtain ⟨i, rfl, hi, hall, hbel, hsz⟩ := hrel
      have HA := hid hall
      clear hall
      by_cases h1 : i < l.length
      · obtain ⟨b, off, rfl, hb, c0, c1⟩ := fr_cell hc h1
        have hbS : b < S := by have := HS.out; omega
        have e0 := (hbel.cell (p := ⟨b, off + i * 2, none⟩) hbS).trans c0
        have e1 := (hbel.cell (p := ⟨b, off + i * 2 + 1, none⟩) hbS).trans c1
        obtain ⟨n, hn⟩ : ∃ n, (l.getD i (0, 0)).1 = n := ⟨_, rfl⟩
        obtain ⟨d, hd⟩ : ∃ n, (l.getD i (0, 0)).2 = n := ⟨_, rfl⟩
        rw [hn] at e0
        rw [hd] at e1
        have HN := hid hn
        have HD := hid hd
        clear hn hd c0 c1
        go_wp2_with fail
        refine (fValid_any n d _).mono ?_
        rintro e w1 ⟨rfl, hb1⟩
        have hb2 : Below S w w1 := (hbel.alloc hsz _).trans (hb1.mono (by simp; omega))
        have hs2 := hb1.size
        rw [World.size_alloc] at hs2
        by_cases hv : FV n d
        · rw [decide_eq_true hv]
          have HV := hid hv
          clear hv
          go_wp2
          refine ⟨⟨i + 1, by go_num, by omega, all_take h1 HA.out (by rw [HN.out, HD.out]; exact HV.out), hb2, by omega⟩, by simp [intOf]; omega⟩
        · rw [decide_eq_false hv]
          have HV := hid hv
          clear hv
          go_wp2
          go_ret
          refine ⟨ret_bool ?_, by rw [HS.out]; exact hb2⟩
          rw [← HR.out]; symm
          rw [Bool.true_and, decide_eq_false_iff_not]
          intro hh
          have := hh _ (getD_mem' h1)
          rw [HN.out, HD.out] at this
          exact HV.out this
      · obtain rfl : i = l.length := by omega
        go_wp2
        go_ret
        refine ⟨ret_bool ?_, by rw [HS.out]; exact hbel⟩
        rw [← HR.out]; symm
        rw [Bool.true_and, decide_eq_true_eq]
        have := HA.out
        rwa [List.take_length] at this
  · rw [decide_eq_false hlm]
    go_enter Try.func98, Try.ntmps98
    go_wp2
    go_ret
    exact ⟨rfl, (HLM m).out⟩

end Go.Proofs.Ytmknengmjepdaaa
