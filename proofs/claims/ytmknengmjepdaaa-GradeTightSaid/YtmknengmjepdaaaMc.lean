/- Walk of trankref04.Least. -/
import Derived.Test.YtmknengmjepdaaaMb
import Derived.Test.YtmknengmjepdaaaQi
import Derived.Deep.RegionHeld3
namespace Go.Proofs.Ytmknengmjepdaaa
open Go.RowKit

def I64 (z : Int) : Prop := -9223372036854775808 ≤ z ∧ z ≤ 9223372036854775807
theorem wrap64_I64 (z : Int) : I64 (wrap64 z) := by unfold I64 wrap64; omega
theorem upd_I64 {M : Nat → Nat → Int} (h : ∀ a b, I64 (M a b)) (x y : Nat) {z : Int} (hz : I64 z) : ∀ a b, I64 (upd M x y z a b) := by
  intro a b; unfold upd; split
  · exact hz
  · exact h a b
theorem max_I64 {x y : Int} (hx : I64 x) (hy : I64 y) : I64 (max x y) := by unfold I64 at *; omega
theorem fwC_I64 {m a : Nat} {M : Nat → Nat → Int} (h : ∀ a b, I64 (M a b)) (b : Nat) : ∀ x y, I64 (fwC m a M b x y) := by
  intro x y; unfold fwC; split
  · exact upd_I64 h _ _ (max_I64 (h _ _) (wrap64_I64 _)) x y
  · exact h x y
theorem foldl_inv {α β : Type} {P : β → Prop} {f : β → α → β} (hf : ∀ b a, P b → P (f b a)) (l : List α) (b : β) (h : P b) : P (l.foldl f b) := by
  induction l generalizing b with
  | nil => exact h
  | cons x xs ih => exact ih _ (hf b x h)
theorem foldl_inv_mem {α β : Type} {P : β → Prop} {f : β → α → β} (l : List α) (hf : ∀ b a, a ∈ l → P b → P (f b a)) (b : β) (h : P b) : P (l.foldl f b) := by
  induction l generalizing b with
  | nil => exact h
  | cons x xs ih => exact ih (fun b a ha => hf b a (List.mem_cons_of_mem _ ha)) _ (hf b x (List.mem_cons_self ..) h)
theorem chainM_I64 {p : Pat} {n d : Int} (hp : PValid p) (hs : FSize n d) : ∀ a b, I64 (chainM p n d a b) := by
  unfold chainM fwAll
  refine foldl_inv (P := fun M : Nat → Nat → Int => ∀ a b, I64 (M a b)) (fun M m hM => ?_) _ _ ?_
  · unfold fwStep
    refine foldl_inv (P := fun M : Nat → Nat → Int => ∀ a b, I64 (M a b)) (fun M a hM => ?_) _ _ hM
    unfold fwRow
    exact foldl_inv (P := fun M : Nat → Nat → Int => ∀ a b, I64 (M a b)) (fun M b hM => fwC_I64 hM b) _ _ hM
  · refine foldl_inv_mem (P := fun M : Nat → Nat → Int => ∀ a b, I64 (M a b)) _ (fun M r hr hM => ?_) _ ?_
    · have hrv := ext_rv hp.1 hp.2.2.2 r hr
      have hw := wt_le hrv hs
      exact upd_I64 hM _ _ (max_I64 (hM _ _) ⟨by omega, by omega⟩)
    · intro a b; unfold m0 NONE I64; split <;> omega

/-- Whether some loop's weight is above 0. -/
def chBad (p : Pat) (n d : Int) : Bool := (List.range p.n.toNat).any fun a => decide (0 < chainM p n d a a)
/-- One element of Least. -/
def leastF (p : Pat) (n d : Int) (i : Nat) : Int × Int := (newN (chainM p n d i 0) d, newD (chainM p n d i 0) d)

def rLeastE (p : Pat) (n d : Int) : Int := if (decide (PValid p) && decide (FSize n d)) = false then 2 else if chBad p n d then 10 else 0
def leastL (p : Pat) (n d : Int) : List (Int × Int) := (List.range p.n.toNat).map (leastF p n d)
def rLeastL (p : Pat) (n d : Int) : List (Int × Int) := if rLeastE p n d = 0 then leastL p n d else []

theorem infoFrac : (Try.prog.info? 26).map (fun i => (i.zero, i.size, i.bytes)) = some (some (frV 0 0), 2, 16) := by kernel_rfl

theorem keepL {W w' : World} {a b c i N : Nat} {n d : Int} {base : Nat} {f : Nat → Int} {s t u : TypeId} (k1 : Blk W a #[.int .i64 n, .int .i64 d] s) (ko : Blk W b (outArr base N N) t) (km : Blk W c (rowArr N f) u) (hi : i < N) (hb : Below W.heap.size W w') :
    w'.cell? ⟨a, 1, none⟩ = some (.int .i64 d) ∧ w'.cell? ⟨b, i, none⟩ = some (.slice (some ⟨base + i, 0, none⟩) N N) ∧ w'.cell? ⟨c, 0, none⟩ = some (.int .i64 (f 0)) :=
  ⟨(k1.below hb).look 1 rfl, (ko.below hb).look i (outArr_get hi hi), (km.below hb).look 0 (rowArr_get (by omega))⟩
set_option maxHeartbeats 4000000 in
theorem rLeast_any (p : Pat) (n d : Int) (v : Value) (w : World) (h : PatF 0 w v p) :
    Calls Try.prog 24 #[v, .agg #[.int .i64 n, .int .i64 d]] w fun e w' => (∃ vm, e = .returned (.tuple #[vm, .int .i64 (rLeastE p n d)]) ∧ FrsR w.heap.size w' vm (rLeastL p n d)) ∧ Below w.heap.size w w' := by
  obtain ⟨sv, rfl, -⟩ := id h
  go_enter Try.func24, Try.ntmps24
  go_wp2_with fail
  obtain ⟨w0, hw0, k0, k1, hB, hsz⟩ := one_new w #[.int .i64 p.n, sv] #[.int .i64 n, .int .i64 d] 24 26
  rw [hw0]
  clear hw0
  have hB0 := hB
  refine (Good_any p n d _ _ (h.below hB)).mono ?_
  rintro e w1 ⟨rfl, hb1⟩
  obtain ⟨S, hS⟩ : ∃ S, w.heap.size = S := ⟨_, rfl⟩
  rw [hS] at k0 k1 hB hsz ⊢
  have HS := hid hS
  replace k0 := k0.below hb1
  replace k1 := k1.below hb1
  have hB1 := hB.trans (hb1.mono (by omega))
  have hs1 := hb1.size
  have hsz1 : S + 1 + 1 ≤ w1.heap.size := by omega
  clear hB hb1 hs1 hsz hB0 hS
  by_cases hg : (decide (PValid p) && decide (FSize n d)) = true
  · rw [hg]
    have hpv : PValid p := by simp only [Bool.and_eq_true, decide_eq_true_eq] at hg; exact hg.1
    have hfs : FSize n d := by simp only [Bool.and_eq_true, decide_eq_true_eq] at hg; exact hg.2
    have HG := hid hg
    have HP := hid hpv
    have HF := hid hfs
    have HI := hid (chainM_I64 hpv hfs)
    clear hg hpv hfs
    have c0 := k0.look 0 rfl
    have c1 := k0.look 1 rfl
    have c2 := k1.look 0 rfl
    have c3 := k1.look 1 rfl
    go_wp2_with fail
    refine (chains_any p n d _ _ (h.below (by rw [HS.out]; exact hB1)) HP.out HF.out).mono ?_
    rintro e w2 ⟨⟨vm, ok, rfl, hcase⟩, hb2⟩
    replace k0 := k0.below hb2
    replace k1 := k1.below hb2
    have hB2 := hB1.trans (hb2.mono (by omega))
    have hs2 := hb2.size
    have hsz2 : S + 1 + 1 ≤ w2.heap.size := by omega
    clear c0 c1 c2 c3 hB1 hb2 hs2
    rcases hcase with ⟨rfl, rfl, hbad⟩ | ⟨rfl, hgood, hmat⟩
    · have HBAD := hid hbad
      clear hbad
      go_wp2
      have hE : rLeastE p n d = 10 := by
        unfold rLeastE
        rw [HG.out, if_neg (by decide), if_pos]
        unfold chBad
        obtain ⟨a, ha, hpos⟩ := HBAD.out
        exact List.any_eq_true.2 ⟨a, List.mem_range.2 ha, by simpa using hpos⟩
      have hL : rLeastL p n d = [] := by
        unfold rLeastL
        rw [hE]; rfl
      refine bodyPost_ret (v := .tuple #[.slice none 0 0, .int .i64 10]) (by simp [results, Try.results24, go_sem]) rfl ⟨⟨_, by rw [hE], ?_⟩, by rw [HS.out]; exact hB2⟩
      rw [hL]
      exact SlR.nil _ _
    · have HGOOD := hid hgood
      clear hgood
      obtain ⟨N, hN⟩ : ∃ N : Nat, p.n = N := ⟨p.n.toNat, by have := HP.out.1; omega⟩
      have hN16 : N ≤ 16 := by have := HP.out.2.1; omega
      rw [hN] at k0
      have HN := hid hN
      clear hN
      have hN1 : 1 ≤ N := by have := HP.out.1; have := HN.out; omega
      obtain ⟨o, base, rfl, hlo, hlb, ko, km⟩ := hmat
      rw [HN.out, Int.toNat_natCast] at ko km ⊢
      have c0 := k0.look 0 rfl
      go_wp2_with fail
      clear c0
      go_loopw [8, 26] (fun y x wr => ∃ i : Nat, x = .int .i64 i ∧ i ≤ N ∧ wr.ownsRow w2.heap.size 26 2 y i (frCells ((List.range i).map (leastF p n d))) ∧ Below w2.heap.size w2 wr) (fun _ x _ => N - (intOf x).toNat)
      case atStart => exact ⟨0, rfl, Nat.zero_le _, World.ownsRow_nil _ _ _ _, Below.refl _ _⟩
      case round =>
        obtain ⟨i, rfl, hi, ho, hbel⟩ := hrel
        by_cases hiN : i < N
        · have kb := km i hiN
          have hIi := HI.out i 0
          obtain ⟨z, hz⟩ : ∃ z, chainM p n d i 0 = z := ⟨_, rfl⟩
          have NEW : Hid (∀ w, Calls Try.prog 73 #[.int .i64 z, .int .i64 d] w fun e w' => e = .returned (.tuple #[frV (leastF p n d i).1 (leastF p n d i).2, .int .i64 (newE z d)]) ∧ Below w.heap.size w w') := by
            refine hid (fun w => ?_)
            have := New_any z d w (by rw [← hz]; exact hIi.1) (by rw [← hz]; exact hIi.2) (by have := HF.out.1.1; omega) (by have := HF.out.1.2.1; omega)
            unfold leastF
            rw [hz]
            exact this
          have hsnoc : frCells ((List.range (i + 1)).map (leastF p n d)) = frCells ((List.range i).map (leastF p n d)) ++ [.int .i64 (leastF p n d i).1, .int .i64 (leastF p n d i).2] := by
            rw [range_snoc, frCells_append]; rfl
          have HSN := hid hsnoc
          obtain ⟨xn, hxn⟩ : ∃ z, (leastF p n d i).1 = z := ⟨_, rfl⟩
          obtain ⟨xd, hxd⟩ : ∃ z, (leastF p n d i).2 = z := ⟨_, rfl⟩
          rw [hxn, hxd] at NEW HSN
          obtain ⟨xe, hxe⟩ : ∃ e, newE z d = e := ⟨_, rfl⟩
          rw [hxe] at NEW
          obtain ⟨g, hg⟩ : ∃ g : Nat → Int, chainM p n d i = g := ⟨_, rfl⟩
          rw [hg] at kb hz
          subst hz
          clear hIi hsnoc hxn hxd hxe hg
          go_wp2_with fail
          have hd0 := hbel.drew
          have hN0 : (0 : Int) < (N : Int) := by omega
          have hN00 : 0 < N := by omega
          have hd1 := (hbel.alloc hbel.size (.cells #[.int .i64 0, .int .i64 0] 26)).drew
          go_region_held3 (fun w' => w'.cell? ⟨S + 1, 1, none⟩ = some (.int .i64 d) ∧ w'.cell? ⟨o, i, none⟩ = some (.slice (some ⟨base + i, 0, none⟩) N N) ∧ w'.cell? ⟨base + i, 0, none⟩ = some (.int .i64 (g 0)))
            (first | (refine keepL k1 ko kb hiN ?_; assumption) | (refine keepL k1 ko kb hiN ?_; exact hW3.alloc hW3.size _) | (refine keepL k1 ko kb hiN ?_; exact ((hW3.alloc hW3.size _).setCell hW3.size _).setCell hW3.size _) | (refine keepL k1 ko kb hiN ?_; exact (hW3.setCell hbel.size _).setCell hbel.size _))
            (first
              | (go_at_call 73; refine (NEW.out _).mono ?_; rintro e w3 ⟨rfl, hb3⟩; have hW3 : Below w2.heap.size w2 w3 := hd0.trans (hb3.mono hd0.size))
              | (go_at_call 73; refine (NEW.out _).mono ?_; rintro e w3 ⟨rfl, hb3⟩; have hW3 : Below w2.heap.size w2 w3 := hd1.trans (hb3.mono hd1.size); have kv := ((Blk.new wr #[.int .i64 0, .int .i64 0] 26).drew).below hb3; have v0 := kv.look 0 rfl; have v1 := kv.look 1 rfl; have vf := kv.frozen))
          · have B4 : Below wr.heap.size wr (w3.alloc (.cells #[.int .i64 xn, .int .i64 xd] 26)) := ((Below.refl wr.heap.size wr).drew.trans hb3).alloc hb3.size _
            have kv4 := Blk.new w3 #[.int .i64 xn, .int .i64 xd] 26
            have ho4 := owns_below ho B4
            have hbel4 := hbel.trans (B4.mono hbel.size)
            have c0 := kv4.look 0 rfl
            have c1 := kv4.look 1 rfl
            obtain ⟨w4, hw4⟩ : ∃ w4, w3.alloc (.cells #[.int .i64 xn, .int .i64 xd] 26) = w4 := ⟨_, rfl⟩
            rw [hw4] at ho4 hbel4 c0 c1 ⊢
            clear hw4 B4 kv4
            obtain ⟨A, hA⟩ : ∃ A, w3.heap.size = A := ⟨_, rfl⟩
            rw [hA] at c0 c1 ⊢
            clear hA
            have hs4 := hbel4.size
            go_wp2_with (first
              | (at_builtin; refine wpList_app rfl (.tmp 41) (.tmp 43) _ rfl w2.heap.size 26 (frV 0 0) 2 16 Try.underlying27 infoFrac rfl (by decide) 26 _ _ _ rfl ho4 [.int .i64 xn, .int .i64 xd] rfl rfl (by simp [Value.oneCell']) (by unfold maxLen; omega) (by omega) (by omega) ?_; intro g5 gcap w5 ho5 hb5 _ _ _))
            go_roundw
            case rel => exact ⟨i + 1, by go_num, by omega, by rw [HSN.out]; exact ho5, hbel4.trans hb5⟩
            case measure => simp [intOf]; omega
          · have B3 : Below wr.heap.size wr w3 := ((Below.refl wr.heap.size wr).alloc (Nat.le_refl _) _).drew.trans (hb3.mono (by show wr.heap.size ≤ (wr.alloc _).heap.size; simp))
            have B4 := (B3.setCell (p := ⟨wr.heap.size, 0, none⟩) (Nat.le_refl _) (.int .i64 xn)).setCell (p := ⟨wr.heap.size, 1, none⟩) (Nat.le_refl _) (.int .i64 xd)
            have kv4 : Blk ((w3.setCell ⟨wr.heap.size, 0, none⟩ (.int .i64 xn)).setCell ⟨wr.heap.size, 1, none⟩ (.int .i64 xd)) wr.heap.size #[.int .i64 xn, .int .i64 xd] 26 := (kv.set 0 _).set 1 _
            clear kv v0 v1 vf B3
            have ho4 := owns_below ho B4
            have hbel4 := hbel.trans (B4.mono hbel.size)
            have c0 := kv4.look 0 rfl
            have c1 := kv4.look 1 rfl
            obtain ⟨w4, hw4⟩ : ∃ w4, (w3.setCell ⟨wr.heap.size, 0, none⟩ (.int .i64 xn)).setCell ⟨wr.heap.size, 1, none⟩ (.int .i64 xd) = w4 := ⟨_, rfl⟩
            rw [hw4] at ho4 hbel4 c0 c1 ⊢
            clear hw4 B4 kv4
            obtain ⟨A, hA⟩ : ∃ A, wr.heap.size = A := ⟨_, rfl⟩
            rw [hA] at c0 c1 ⊢
            clear hA
            have hs4 := hbel4.size
            go_wp2_with (first
              | (at_builtin; refine wpList_app rfl (.tmp 41) (.tmp 43) _ rfl w2.heap.size 26 (frV 0 0) 2 16 Try.underlying27 infoFrac rfl (by decide) 26 _ _ _ rfl ho4 [.int .i64 xn, .int .i64 xd] rfl rfl (by simp [Value.oneCell']) (by unfold maxLen; omega) (by omega) (by omega) ?_; intro g5 gcap w5 ho5 hb5 _ _ _))
            go_roundw
            case rel => exact ⟨i + 1, by go_num, by omega, by rw [HSN.out]; exact ho5, hbel4.trans hb5⟩
            case measure => simp [intOf]; omega
        · obtain rfl : i = N := by omega
          have hE : rLeastE p n d = 0 := by
            unfold rLeastE
            rw [HG.out, if_neg (by decide), if_neg]
            unfold chBad
            intro hb
            obtain ⟨a, ha, hpos⟩ := List.any_eq_true.1 hb
            have := HGOOD.out a (List.mem_range.1 ha)
            simp only [decide_eq_true_eq] at hpos
            omega
          have hL : rLeastL p n d = (List.range i).map (leastF p n d) := by
            unfold rLeastL leastL
            rw [if_pos hE, HN.out, Int.toNat_natCast]
          have HE := hid hE
          have HLL := hid hL
          clear hE hL
          go_wp2
          refine bodyPost_ret (v := .tuple #[u8, .int .i64 0]) (by simp [results, Try.results24, go_sem]) rfl ⟨⟨_, by rw [HE.out], ?_⟩, by rw [HS.out]; exact hB2.trans (hbel.mono (by omega))⟩
          rw [HLL.out]
          unfold FrsR
          rw [List.length_map, List.length_range]
          exact (SlR.of_owns ho).mono (by rw [HS.out]; omega)
  · have hg' : (decide (PValid p) && decide (FSize n d)) = false := by simpa using hg
    rw [hg']
    have HG := hid hg'
    clear hg hg'
    go_wp2
    have hE : rLeastE p n d = 2 := by
      unfold rLeastE
      rw [HG.out]; rfl
    have hL : rLeastL p n d = [] := by
      unfold rLeastL
      rw [hE]; rfl
    refine bodyPost_ret (v := .tuple #[.slice none 0 0, .int .i64 2]) (by simp [results, Try.results24, go_sem]) rfl ⟨⟨_, by rw [hE], ?_⟩, by rw [HS.out]; exact hB1⟩
    rw [hL]
    exact SlR.nil _ _

end Go.Proofs.Ytmknengmjepdaaa
