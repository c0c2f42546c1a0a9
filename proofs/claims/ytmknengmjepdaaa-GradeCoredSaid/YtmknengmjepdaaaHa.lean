/- Walks of trankref04.Sound, follows. -/
import Derived.Test.YtmknengmjepdaaaKx
import Derived.Test.YtmknengmjepdaaaRx
namespace Go.Proofs.Ytmknengmjepdaaa
open Go.RowKit
attribute [local irreducible] seqS seqST

set_option maxHeartbeats 4000000 in
theorem Sound_any (p : Pat) (n d : Int) (v : Value) (w : World) (h : PatF 0 w v p) (hp : PValid p) (hs : FSize n d) :
    Calls Try.prog 32 #[v, .agg #[.int .i64 n, .int .i64 d]] w fun e w' => e = .returned (.bool (!chBad p n d)) ∧ Below w.heap.size w w' := by
  obtain ⟨sv, rfl, hsl⟩ := id h
  go_enter Try.func32, Try.ntmps32
  go_wp2_with fail
  obtain ⟨w0, hw0, k0, k1, hB, hsz⟩ := one_new w #[.int .i64 p.n, sv] #[.int .i64 n, .int .i64 d] 24 26
  rw [hw0]
  clear hw0
  have c0 := k0.look 0 rfl
  have c1 := k0.look 1 rfl
  have c2 := k1.look 0 rfl
  have c3 := k1.look 1 rfl
  go_wp2_with fail
  refine (chains_any p n d _ _ (h.below hB) hp hs).mono ?_
  rintro e w2 ⟨⟨vm, ok, rfl, hcase⟩, hb2⟩
  clear c0 c1 c2 c3
  have hok : ok = !chBad p n d := by
    rcases hcase with ⟨rfl, -, hbad⟩ | ⟨rfl, hgood, -⟩
    · rw [chBad_true hbad]; rfl
    · rw [chBad_not hgood]; rfl
  have HO := hid hok
  clear hcase hok
  go_wp2
  go_ret
  exact ⟨by rw [HO.out]; rfl, hB.trans (hb2.mono hB.size)⟩

/-- Whether a rule follows. -/
def folB (p : Pat) (n d : Int) (r : Rul) : Bool := decide (chainM p n d r.a.toNat r.b.toNat ≠ NONE) && decide (wt r n d ≤ chainM p n d r.a.toNat r.b.toNat)

set_option maxHeartbeats 4000000 in
set_option maxRecDepth 100000 in
theorem follows_any (p : Pat) (n d : Int) (r : Rul) (v : Value) (w : World) (h : PatF 0 w v p) (hp : PValid p) (hs : FSize n d) (hb : chBad p n d = false) (hr : RV p.n r) :
    Calls Try.prog 90 #[v, .agg #[.int .i64 n, .int .i64 d], .agg #[.int .i64 r.a, .int .i64 r.b, .int .i64 r.c, .int .i64 r.d]] w fun e w' => e = .returned (.bool (folB p n d r)) ∧ Below w.heap.size w w' := by
  obtain ⟨sv, rfl, hsl⟩ := id h
  have AT := hid (fun w => weight_any p.n r n d w hr hs)
  have hfol : folB p n d r = (decide (chainM p n d r.a.toNat r.b.toNat ≠ NONE) && decide (wt r n d ≤ chainM p n d r.a.toNat r.b.toNat)) := rfl
  obtain ⟨N, hN⟩ : ∃ N : Nat, p.n = N := ⟨p.n.toNat, by have := hp.1; omega⟩
  have hN16 : N ≤ 16 := by have := hp.2.1; omega
  obtain ⟨A, hA⟩ : ∃ A : Nat, r.a = A := ⟨r.a.toNat, by have := hr.1; omega⟩
  obtain ⟨C, hC⟩ : ∃ A : Nat, r.b = A := ⟨r.b.toNat, by have := hr.2.2.1; omega⟩
  have hAN : A < N := by have := hr.2.1; omega
  have hCN : C < N := by have := hr.2.2.2.1; omega
  obtain ⟨rc, hrc⟩ : ∃ z, r.c = z := ⟨_, rfl⟩
  obtain ⟨rd, hrd⟩ : ∃ z, r.d = z := ⟨_, rfl⟩
  obtain ⟨y, hy⟩ : ∃ z, wt r n d = z := ⟨_, rfl⟩
  obtain ⟨res, hres⟩ : ∃ b, folB p n d r = b := ⟨_, rfl⟩
  rw [hres, hA, hC, Int.toNat_natCast, Int.toNat_natCast, hy] at hfol
  rw [hA, hC, hrc, hrd, hy] at AT
  have hg : ∀ a, a < p.n.toNat → chainM p n d a a ≤ 0 := chBad_false.1 hb
  rw [hres, hA, hC, hrc, hrd]
  have HP := hid hp
  have HS := hid hs
  have HN := hid hN
  have HFO := hid hfol
  have HB := hid hb
  clear hp hs hr hb hres hfol hA hC hrc hrd hy hg hN
  go_enter Try.func90, Try.ntmps90
  go_wp2_with fail
  obtain ⟨w0, hw0, k0, k1, k2, hB, hsz⟩ := three_new w #[.int .i64 p.n, sv] #[.int .i64 n, .int .i64 d] #[.int .i64 (A : Int), .int .i64 (C : Int), .int .i64 rc, .int .i64 rd] 24 26 46
  rw [hw0]
  clear hw0
  have c0 := k0.look 0 rfl
  have c1 := k0.look 1 rfl
  have c2 := k1.look 0 rfl
  have c3 := k1.look 1 rfl
  go_wp2_with fail
  refine (chains_any p n d _ _ (h.below hB) HP.out HS.out).mono ?_
  rintro e w2 ⟨⟨vm, ok, rfl, hcase⟩, hb2⟩
  clear c0 c1 c2 c3
  rcases hcase with ⟨-, -, hbad⟩ | ⟨rfl, -, hmat⟩
  · have := chBad_true hbad
    rw [HB.out] at this
    cases this
  obtain ⟨o, base, rfl, hlo, hlb, ko, km⟩ := hmat
  rw [HN.out, Int.toNat_natCast] at ko km ⊢
  have kA := km A hAN
  obtain ⟨g, hgq⟩ : ∃ g : Nat → Int, chainM p n d A = g := ⟨_, rfl⟩
  rw [hgq] at kA
  have hfo := HFO.out
  rw [show chainM p n d A C = g C by rw [hgq]] at hfo
  obtain ⟨m, hm⟩ : ∃ m, g C = m := ⟨_, rfl⟩
  rw [hm] at hfo
  have HM := hid hm
  have HF2 := hid hfo
  clear hgq hm hfo
  have k12 := k1.below hb2
  have k22 := k2.below hb2
  have hB2 := hB.trans (hb2.mono hB.size)
  have hA2 : (A : Int) < (N : Int) := by omega
  have hC2 : (C : Int) < (N : Int) := by omega
  have z0 := fun x : Sub w2.drew => (k22.drew.below x.b).look 0 rfl
  have z1 := fun x : Sub w2.drew => (k22.drew.below x.b).look 1 rfl
  have z2 := fun x : Sub w2.drew => (k22.drew.below x.b).look 2 rfl
  have z3 := fun x : Sub w2.drew => (k22.drew.below x.b).look 3 rfl
  have z4 := fun x : Sub w2.drew => (k12.drew.below x.b).look 0 rfl
  have z5 := fun x : Sub w2.drew => (k12.drew.below x.b).look 1 rfl
  have z6 := fun x : Sub w2.drew => (ko.drew.below x.b).look A (outArr_get hAN hAN)
  have z7 := fun x : Sub w2.drew => ((kA.drew.below x.b).look C (rowArr_get hCN)).trans (congrArg (fun y => some (Value.int .i64 y)) HM.out)
  by_cases h1 : m = NONE
  · have hr : res = false := by rw [HF2.out]; simp [h1]
    have HR := hid hr
    have h1' : m = -1152921504606846976 := h1
    clear hr h1 HF2
    subst h1'
    go_wp2_with fail
    refine wp_seq [(0, false), (1, false), (2, false), (3, false), (4, false), (5, false), (6, false), (7, false), (8, false), (9, false), (10, false), (11, false), (12, false), (13, false), (14, false), (15, false), (16, false), (17, false), (18, false), (19, false), (20, false), (21, false), (22, true), (23, false), (24, false), (25, false)] [(_, false), (_, false), (_, false), (_, false), (_, false), (_, false), (_, false), (_, false), (_, false), (_, false), (_, false), (_, false), (_, false), (_, false), (_, false), (_, false), (_, false), (_, false), (_, false), (_, false), (_, false), (_, false), (_, true), (_, false), (_, false), (_, false)] (by kernel_rfl) rfl rfl (by kernel_rfl) ?_
    iterate 22 (refine seqS_read (fun K hK => ?_); go_simp; refine hK _ ?_; clear hK K)
    (refine seqS_skip2 (fun K hK => ?_); go_simp; refine hK _ ?_; clear hK K)
    iterate 3 (refine seqS_read (fun K hK => ?_); go_simp; refine hK _ ?_; clear hK K)
    refine seqS_nil ?_
    clear z0 z1 z2 z3 z4 z5 z6 z7
    go_wp2
    go_ret
    exact ⟨by rw [HR.out]; rfl, hB2.drew⟩
  · have h1' : m ≠ -1152921504606846976 := h1
    have hr : res = decide (y ≤ m) := by rw [HF2.out]; simp [h1]
    have HR := hid hr
    clear hr h1
    go_wp2_with fail
    refine wp_seq [(0, false), (1, false), (2, false), (3, false), (4, false), (5, false), (6, false), (7, false), (8, false), (9, false), (10, false), (11, false), (12, false), (13, false), (14, false), (15, false), (16, false), (17, false), (18, false), (19, false), (20, false), (21, false), (22, true), (23, false), (24, false), (25, false)] [(_, false), (_, false), (_, false), (_, false), (_, false), (_, false), (_, false), (_, false), (_, false), (_, false), (_, false), (_, false), (_, false), (_, false), (_, false), (_, false), (_, false), (_, false), (_, false), (_, false), (_, false), (_, false), (_, true), (_, false), (_, false), (_, false)] (by kernel_rfl) rfl rfl (by kernel_rfl) ?_
    iterate 22 (refine seqS_read (fun K hK => ?_); go_simp; refine hK _ ?_; clear hK K)
    clear z0 z1 z2 z3 z4 z5 z6 z7
    (refine seqS_call (fun K hK => ?_); go_simp; refine (AT.out _).mono ?_; rintro e w4 ⟨rfl, hb4⟩; refine ⟨_, rfl, hK _ _ hb4 ?_⟩; clear hK K)
    have hB4 := hB2.drew.trans (hb4.mono hB2.size)
    by_cases h2 : y ≤ m
    · iterate 3 (refine seqS_read (fun K hK => ?_); go_simp; refine hK _ ?_; clear hK K)
      refine seqS_nil ?_
      go_wp2
      go_ret
      exact ⟨by rw [HR.out]; simp [h2, h1'], hB4⟩
    · iterate 3 (refine seqS_read (fun K hK => ?_); go_simp; refine hK _ ?_; clear hK K)
      refine seqS_nil ?_
      go_wp2
      go_ret
      exact ⟨by rw [HR.out]; simp [h2], hB4⟩

end Go.Proofs.Ytmknengmjepdaaa
