/- Walks of frac.Valid, valid, Cmp, curve.order: the world grows, no more. -/
import Derived.Test.YtfkclcoipadhmaaDoorDa
import Derived.Sort.Grow
namespace Go.Proofs.YtfkclcoipadhmaaDoor
open Go.RowKit Go.Sort
attribute [local irreducible] seqS seqST walkV walkJ

/-- The world has grown: draws, new blocks. -/
def Grow (w w' : World) : Prop := ∃ q os, w' = grow (w.drewN q) os
theorem Grow.refl (w : World) : Grow w w := ⟨0, #[], by simp [grow, World.drewN]⟩
theorem Grow.trans {a b c : World} (h : Grow a b) (k : Grow b c) : Grow a c := by
  obtain ⟨q, os, rfl⟩ := h
  obtain ⟨q', os', rfl⟩ := k
  refine ⟨q + q', os ++ os', ?_⟩
  show grow (grow ((a.drewN q).drewN q') os) os' = _
  rw [grow_grow, World.drewN_drewN]
theorem Grow.alloc (w : World) (o : Obj) : Grow w (w.alloc o) := ⟨0, #[o], by rw [alloc_eq_grow]; rfl⟩
theorem Grow.drewN {w w' : World} (h : Grow w w') (n : Nat) : Grow w (w'.drewN n) := h.trans ⟨n, #[], by simp⟩
theorem Grow.drew (w : World) : Grow w w.drew := ⟨1, #[], by simp; rfl⟩
theorem Grow.below {w w' : World} (h : Grow w w') : Below w.heap.size w w' := by
  obtain ⟨q, os, rfl⟩ := h
  exact ⟨rfl, rfl, rfl, by show _ ≤ (w.heap ++ os).size; simp, fun k hk => by show (w.heap ++ os)[k]? = _; rw [Array.getElem?_append_left hk]⟩
theorem grow_pre : Pre Grow := ⟨Grow.refl, Grow.trans⟩
instance instGrow (W : World) : Nonempty (SubT Grow W) := ⟨⟨W, Grow.refl W⟩⟩

set_option maxHeartbeats 1000000 in
theorem fValid_g (n d : Int) (w : World) :
    Calls Tryd.prog 61 #[.agg #[.int .i64 n, .int .i64 d]] w fun e w' => e = .returned (.bool (decide (FV n d))) ∧ Grow w w' := by
  have hB : ∀ o (k : Nat), Grow w ((w.alloc o).drewN k) := fun o k => (Grow.alloc w o).drewN k
  have HB := hid hB
  clear hB
  by_cases hb : 1 ≤ d ∧ d ≤ 1000000000 ∧ -1000000000 ≤ n ∧ n ≤ 1000000000
  · obtain ⟨h1, h2, h3, h4⟩ := hb
    have hdec : decide (FV n d) = (((Nat.gcd n.natAbs d.natAbs : Nat) : Int) == 1) := by
      by_cases hg : Nat.gcd n.natAbs d.natAbs = 1
      · have hFV : FV n d := ⟨h1, h2, h3, h4, hg⟩
        rw [decide_eq_true hFV, hg]; rfl
      · rw [decide_eq_false (fun h : FV n d => hg h.2.2.2.2)]; symm; rw [beq_eq_false_iff_ne]; omega
    rw [hdec]
    have hd : d = ((d.natAbs : Nat) : Int) := by omega
    have HG : Hid (∀ w, Calls Tryd.prog 111 #[.int .u64 ((n.natAbs : Nat) : Int), .int .u64 d] w fun e w' => e = .returned (.int .u64 (Nat.gcd n.natAbs d.natAbs)) ∧ ∃ n, w' = w.drewN n) := by
      intro w; have := gcd_any n.natAbs d.natAbs w (by omega) (by omega); rw [← hd] at this; exact this
    clear hdec hd
    go_enter Tryd.func61, Tryd.ntmps61
    go_wp2
    go_quiet (first | (go_at_call 112; exact Calls.quiet_of_same ((size_any _ _ (by omega) (by omega)).mono fun e w' h => ⟨h.1, h.2.symm⟩)) | (go_at_call 111; exact Calls.quiet_of (HG.out _)))
    go_wp2
    go_ret
    exact ⟨rfl, HB.out _ _⟩
  · have hdec : decide (FV n d) = false := decide_eq_false (fun h => hb ⟨h.1, h.2.1, h.2.2.1, h.2.2.2.1⟩)
    rw [hdec]
    clear hdec
    have hc : d < 1 ∨ (1 ≤ d ∧ 1000000000 < d) ∨ (1 ≤ d ∧ d ≤ 1000000000 ∧ n < -1000000000) ∨ (1 ≤ d ∧ d ≤ 1000000000 ∧ -1000000000 ≤ n ∧ 1000000000 < n) := by omega
    clear hb
    rcases hc with h1 | ⟨h1, h2⟩ | ⟨h1, h2, h3⟩ | ⟨h1, h2, h3, h4⟩
    · have e1 : decide (1 ≤ d) = false := decide_eq_false (by omega)
      go_enter Tryd.func61, Tryd.ntmps61
      go_wp2
      go_quiet (fail)
      go_wp2
      go_ret
      exact ⟨rfl, HB.out _ _⟩
    · have e1 : decide (d ≤ 1000000000) = false := decide_eq_false (by omega)
      go_enter Tryd.func61, Tryd.ntmps61
      go_wp2
      go_quiet (fail)
      go_wp2
      go_ret
      exact ⟨rfl, HB.out _ _⟩
    · have e1 : decide (-1000000000 ≤ n) = false := decide_eq_false (by omega)
      go_enter Tryd.func61, Tryd.ntmps61
      go_wp2
      go_quiet (fail)
      go_wp2
      go_ret
      exact ⟨rfl, HB.out _ _⟩
    · have e1 : decide (n ≤ 1000000000) = false := decide_eq_false (by omega)
      go_enter Tryd.func61, Tryd.ntmps61
      go_wp2
      go_quiet (fail)
      go_wp2
      go_ret
      exact ⟨rfl, HB.out _ _⟩

set_option maxHeartbeats 1000000 in
theorem fvalid_g (l : List (Int × Int)) (v : Value) (w : World) (h : FrsR 0 w v l) :
    Calls Tryd.prog 109 #[v] w fun e w' => e = .returned (.bool (decide (∀ f ∈ l, FV f.1 f.2))) ∧ Grow w w' := by
  obtain ⟨ao, cap, rfl, hcap, hmax, hc⟩ := h
  unfold maxLen at hmax
  obtain ⟨res, hres⟩ : ∃ b, decide (∀ f ∈ l, FV f.1 f.2) = b := ⟨_, rfl⟩
  rw [hres]
  have HR := hid hres
  clear hres
  go_enter Tryd.func109, Tryd.ntmps109
  go_wp2
  go_loopw [7] (fun x wr => ∃ i : Nat, x = .int .i64 i ∧ i ≤ l.length ∧ (∀ f ∈ l.take i, FV f.1 f.2) ∧ Grow w wr) (fun x _ => l.length - (intOf x).toNat)
  case atStart => exact ⟨0, rfl, Nat.zero_le _, by simp, Grow.refl _⟩
  case round =>
    obtain ⟨i, rfl, hi, hall, hbel⟩ := hrel
    have HA := hid hall
    clear hall
    by_cases h1 : i < l.length
    · obtain ⟨b, off, rfl, hb, c0, c1⟩ := fr_cell hc h1
      have d0 := (hbel.below.cell (p := ⟨b, off + i * 2, none⟩) hb).trans c0
      have d1 := (hbel.below.cell (p := ⟨b, off + i * 2 + 1, none⟩) hb).trans c1
      obtain ⟨n, hn⟩ : ∃ n, (l.getD i (0, 0)).1 = n := ⟨_, rfl⟩
      obtain ⟨d, hd⟩ : ∃ n, (l.getD i (0, 0)).2 = n := ⟨_, rfl⟩
      rw [hn] at d0
      rw [hd] at d1
      have HN := hid hn
      have HD := hid hd
      clear hn hd c0 c1
      go_wp2_with fail
      refine (fValid_g n d _).mono ?_
      rintro e w1 ⟨rfl, hb1⟩
      by_cases hv : FV n d
      · rw [decide_eq_true hv]
        have HV := hid hv
        clear hv
        go_wp2
        refine ⟨⟨i + 1, by go_num, by omega, all_take h1 HA.out (by rw [HN.out, HD.out]; exact HV.out), (hbel.trans (Grow.alloc _ _)).trans hb1⟩, by simp [intOf]; omega⟩
      · rw [decide_eq_false hv]
        have HV := hid hv
        clear hv
        go_wp2
        go_ret
        refine ⟨ret_bool ?_, (hbel.trans (Grow.alloc _ _)).trans hb1⟩
        rw [← HR.out]; symm
        rw [decide_eq_false_iff_not]
        intro hh
        have := hh _ (getD_mem' h1)
        rw [HN.out, HD.out] at this
        exact HV.out this
    · obtain rfl : i = l.length := by omega
      go_wp2
      go_ret
      refine ⟨ret_bool ?_, hbel⟩
      rw [← HR.out]; symm
      rw [decide_eq_true_eq]
      have := HA.out
      rwa [List.take_length] at this

theorem cross_lt (a b : Rat) : a < b ↔ a.num * (b.den : Int) < b.num * (a.den : Int) := Rat.lt_iff a b
/-- What a comparison hands back. -/
def cmpQ (a b : Rat) : Int := if a < b then -1 else if b < a then 1 else 0
theorem cmp_cases (a b : Rat) : (a < b ∧ cmpQ a b = -1 ∧ a.num * (b.den : Int) < b.num * (a.den : Int)) ∨ (b < a ∧ cmpQ a b = 1 ∧ b.num * (a.den : Int) < a.num * (b.den : Int)) ∨ (a = b ∧ cmpQ a b = 0 ∧ a.num * (b.den : Int) = b.num * (a.den : Int)) := by
  by_cases h1 : a < b
  · exact .inl ⟨h1, if_pos h1, (cross_lt a b).1 h1⟩
  · by_cases h2 : b < a
    · exact .inr (.inl ⟨h2, by unfold cmpQ; rw [if_neg h1, if_pos h2], (cross_lt b a).1 h2⟩)
    · have he : a = b := Rat.le_antisymm (Rat.not_lt.1 h2) (Rat.not_lt.1 h1)
      exact .inr (.inr ⟨he, by unfold cmpQ; rw [if_neg h1, if_neg h2], by rw [he]⟩)

set_option maxHeartbeats 2000000 in
set_option maxRecDepth 100000 in
theorem Cmp_g (p q : Rat) (hp : fits p) (hq : fits q) (w : World) :
    Calls Tryd.prog 113 #[frQ p, frQ q] w fun r w' => r = .returned (.tuple #[.int .i64 (cmpQ p q), .int .i64 0]) ∧ Grow w w' := by
  have hfv : FV p.num (p.den : Int) ∧ FV q.num (q.den : Int) := ⟨fits_FV hp, fits_FV hq⟩
  have hcc := cmp_cases p q
  unfold frQ
  obtain ⟨cz, hcz⟩ : ∃ z, cmpQ p q = z := ⟨_, rfl⟩
  rw [hcz] at hcc ⊢
  obtain ⟨a, ha⟩ : ∃ z, p.num = z := ⟨_, rfl⟩
  obtain ⟨b, hb⟩ : ∃ z, (p.den : Int) = z := ⟨_, rfl⟩
  obtain ⟨c, hc⟩ : ∃ z, q.num = z := ⟨_, rfl⟩
  obtain ⟨e, he⟩ : ∃ z, (q.den : Int) = z := ⟨_, rfl⟩
  rw [ha, hb, hc, he] at hfv hcc
  rw [ha, hb, hc, he]
  clear ha hb hc he hcz hp hq
  have HCC := hid hcc
  clear hcc
  go_enter Tryd.func113, Tryd.ntmps113
  go_wp2_with fail
  have k0 := (Blk.new w #[.int .i64 a, .int .i64 b] 32).alloc (.cells #[.int .i64 c, .int .i64 e] 32)
  have k1 := (Blk.new (w.alloc (.cells #[.int .i64 a, .int .i64 b] 32)) #[.int .i64 c, .int .i64 e] 32)
  have b0 := (Grow.alloc w (.cells #[.int .i64 a, .int .i64 b] 32)).trans (Grow.alloc _ (.cells #[.int .i64 c, .int .i64 e] 32))
  simp only [World.size_alloc] at k1
  have k0' := k0.alloc (.cells #[.int .i64 a, .int .i64 b, .int .i64 c, .int .i64 e] 32)
  have k1' := k1.alloc (.cells #[.int .i64 a, .int .i64 b, .int .i64 c, .int .i64 e] 32)
  have b0' := b0.trans (Grow.alloc _ (.cells #[.int .i64 a, .int .i64 b, .int .i64 c, .int .i64 e] 32))
  have k3 := Blk.new ((w.alloc (.cells #[.int .i64 a, .int .i64 b] 32)).alloc (.cells #[.int .i64 c, .int .i64 e] 32)) #[.int .i64 a, .int .i64 b, .int .i64 c, .int .i64 e] 32
  simp only [World.size_alloc] at k3
  clear k0 k1 b0
  obtain ⟨w0, hw0⟩ : ∃ w0, ((w.alloc (.cells #[.int .i64 a, .int .i64 b] 32)).alloc (.cells #[.int .i64 c, .int .i64 e] 32)).alloc (.cells #[.int .i64 a, .int .i64 b, .int .i64 c, .int .i64 e] 32) = w0 := ⟨_, rfl⟩
  rw [hw0] at k0' k1' k3 b0' ⊢
  clear hw0
  refine (fvalid_g _ _ _ (two_frs k3)).mono ?_
  rintro r w1 ⟨rfl, hb1⟩
  have hdec : decide (∀ f ∈ [(a, b), (c, e)], FV f.1 f.2) = true := by
    rw [decide_eq_true_eq]
    intro f hf
    simp at hf
    rcases hf with rfl | rfl
    · exact hfv.1
    · exact hfv.2
  rw [hdec]
  have b1 := b0'.trans hb1
  have k0 := k0'.below hb1.below
  have k1 := k1'.below hb1.below
  clear k0' k1' k3 b0' hb1 hdec
  have p1 := fv_prod hfv.1 hfv.2
  have p2 := fv_prod hfv.2 hfv.1
  have P1 : IntKind.i64.wrap (a * e) = a * e := by rw [IntWalk.i64_left]; unfold wrap64; omega
  have P2 : IntKind.i64.wrap (c * b) = c * b := by rw [IntWalk.i64_left]; unfold wrap64; omega
  clear hfv p1 p2
  go_wp2_with fail
  have hd := Grow.drew w1
  have z0 := fun x : SubT Grow w1.drew => (k0.below (hd.trans x.b).below).look 0 rfl
  have z1 := fun x : SubT Grow w1.drew => (k0.below (hd.trans x.b).below).look 1 rfl
  have z2 := fun x : SubT Grow w1.drew => (k1.below (hd.trans x.b).below).look 0 rfl
  have z3 := fun x : SubT Grow w1.drew => (k1.below (hd.trans x.b).below).look 1 rfl
  refine wp_walkJ (T := Grow) (grow_pre) (.rd 0 (.rd 1 (.rd 2 (.rd 3 (.rd 4 (.rd 5 (.rd 6 (.rd 7 (.rd 8 (.rd 9 (.rd 10 (.rd 11 (.inv []))))))))))))) (by kernel_rfl) rfl (by kernel_rfl) (by kernel_rfl) ?_
  iterate 12 (refine walkJ_rd rfl (fun K hK => ?_); go_simp; refine hK _ ?_; clear hK K)
  refine walkJ_nil ?_
  have b2 : Grow w w1.drew := b1.trans hd
  clear z0 z1 z2 z3
  rcases HCC.out with ⟨-, rfl, h1⟩ | ⟨-, rfl, h1⟩ | ⟨-, rfl, h1⟩
  · have h2 : ¬ c * b < a * e := by omega
    go_wp2
    go_ret2
    exact ⟨rfl, b2⟩
  · have h2 : ¬ a * e < c * b := by omega
    go_wp2
    go_ret2
    exact ⟨rfl, b2⟩
  · have h2 : ¬ c * b < a * e := by omega
    have h3 : ¬ a * e < c * b := by omega
    go_wp2
    go_ret2
    exact ⟨rfl, b2⟩

set_option maxHeartbeats 1000000 in
theorem order_g (p q : Rat) (hp : fits p) (hq : fits q) (w : World) :
    Calls Tryd.prog 62 #[frQ p, frQ q] w fun r w' => r = .returned (.int .i64 (cmpQ p q)) ∧ Grow w w' := by
  have CM := hid (fun w => Cmp_g p q hp hq w)
  obtain ⟨cz, hcz⟩ : ∃ z, cmpQ p q = z := ⟨_, rfl⟩
  rw [hcz] at CM ⊢
  unfold frQ at CM ⊢
  clear hcz
  go_enter Tryd.func62, Tryd.ntmps62
  have b0 := (Grow.alloc w (.cells #[.int .i64 p.num, .int .i64 (p.den : Int)] 32)).trans (Grow.alloc _ (.cells #[.int .i64 q.num, .int .i64 (q.den : Int)] 32))
  go_wp2_with fail
  refine (CM.out _).mono ?_
  rintro r w1 ⟨rfl, hb1⟩
  go_wp2
  go_ret
  exact ⟨rfl, b0.trans hb1⟩
theorem order_any (p q : Rat) (hp : fits p) (hq : fits q) (w : World) :
    Calls Tryd.prog 62 #[frQ p, frQ q] w fun r w' => r = .returned (.int .i64 (cmpQ p q)) ∧ Below w.heap.size w w' :=
  (order_g p q hp hq w).mono fun _ _ h => ⟨h.1, h.2.below⟩

end Go.Proofs.YtfkclcoipadhmaaDoor
