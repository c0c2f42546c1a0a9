/- Walk of grade.Pattern.solve. -/
import Derived.Test.YtmknengmjepdaaaTx
namespace Go.Proofs.Ytmknengmjepdaaa
open Go.RowKit Go.Shelf
attribute [local go_sem] Oper.semAt_some

theorem so_start {w : World} {N : Nat} {n d : Int} (pa : Array Value) :
    So (((((((w.alloc (.cells pa 33)).alloc (.cells #[.int .i64 n, .int .i64 d] 26)).alloc (.cells #[.slice (some ⟨w.heap.size + 1 + 1 + 1, 0, none⟩) N N] 49)).alloc (.cells (rowArr N fun _ => 0) 3)).alloc (.cells (rowArr N fun _ => 0) 3)).alloc (.cells #[.slice (some ⟨w.heap.size + 1 + 1 + 1 + 1, 0, none⟩) N N] 49)).alloc (.cells #[.int .i64 (-1)] 3)) w.heap.size N pa n d bf0 ∧
    Below w.heap.size w (((((((w.alloc (.cells pa 33)).alloc (.cells #[.int .i64 n, .int .i64 d] 26)).alloc (.cells #[.slice (some ⟨w.heap.size + 1 + 1 + 1, 0, none⟩) N N] 49)).alloc (.cells (rowArr N fun _ => 0) 3)).alloc (.cells (rowArr N fun _ => 0) 3)).alloc (.cells #[.slice (some ⟨w.heap.size + 1 + 1 + 1 + 1, 0, none⟩) N N] 49)).alloc (.cells #[.int .i64 (-1)] 3)) ∧
    (((((((w.alloc (.cells pa 33)).alloc (.cells #[.int .i64 n, .int .i64 d] 26)).alloc (.cells #[.slice (some ⟨w.heap.size + 1 + 1 + 1, 0, none⟩) N N] 49)).alloc (.cells (rowArr N fun _ => 0) 3)).alloc (.cells (rowArr N fun _ => 0) 3)).alloc (.cells #[.slice (some ⟨w.heap.size + 1 + 1 + 1 + 1, 0, none⟩) N N] 49)).alloc (.cells #[.int .i64 (-1)] 3)).heap.size = w.heap.size + 7 := by
  have e : ∀ (W : World) (m : Nat) (cs : Array Value) (t : TypeId), W.heap.size = m → Blk (W.alloc (.cells cs t)) m cs t := fun W m cs t hm => by rw [← hm]; exact Blk.new W cs t
  refine ⟨⟨?_, ?_, ?_, ?_, ?_, ?_, ?_⟩, ?_, by simp⟩
  · exact ((((((Blk.new w _ _).alloc _).alloc _).alloc _).alloc _).alloc _).alloc _
  · exact (((((e _ _ _ _ (by simp)).alloc _).alloc _).alloc _).alloc _).alloc _
  · exact ((((e _ _ _ _ (by simp)).alloc _).alloc _).alloc _).alloc _
  · exact (((e _ _ _ _ (by simp)).alloc _).alloc _).alloc _
  · exact ((e _ _ _ _ (by simp)).alloc _).alloc _
  · exact (e _ _ _ _ (by simp)).alloc _
  · exact e _ _ _ _ (by simp)
  · exact (((((((Below.refl _ w).alloc (Nat.le_refl _) _).alloc (by simp) _).alloc (by simp <;> omega) _).alloc (by simp <;> omega) _).alloc (by simp <;> omega) _).alloc (by simp <;> omega) _).alloc (by simp <;> omega) _

theorem field_b (a b c d : Int) (w : World) : (Instr.field 92 (.agg #[.int .i64 a, .int .i64 b, .int .i64 c, .int .i64 d]) 1).run Try.prog w = .ok (.int .i64 b) w := by
  simp [Instr.field, go_sem, asAgg, Result.andThen]
theorem row_ints {lo b N : Nat} {W : World} {f : Nat → Int} {t : TypeId} (h : Blk W b (rowArr N f) t) (hlo : lo ≤ b) (hN : N ≤ 1000) : IntsR lo W (.slice (some ⟨b, 0, none⟩) N N) ((List.range N).map f) := by
  refine ⟨some ⟨b, 0, none⟩, N, by rw [List.length_map, List.length_range], by rw [List.length_map, List.length_range]; exact Nat.le_refl _, by unfold maxLen; omega, fun _ => ⟨b, 0, rfl, hlo, h.lt, fun j hj => ?_⟩⟩
  have hj' : j < N := by rw [intCells_len, List.length_map, List.length_range] at hj; exact hj
  rw [Nat.zero_add, h.look j (rowArr_get hj')]
  simp [intCells, List.getD_eq_getElem?_getD, hj']
theorem slR_shut {lo : Nat} {W W' : World} {v : Value} {n : Nat} {xs : List Value} {Ds : List Nat} (h : SlR lo W v n xs) (hs : Shut Ds W W') (hD : ∀ D ∈ Ds, D < lo) : SlR lo W' v n xs := by
  obtain ⟨ao, cap, rfl, h1, h2, h3⟩ := h
  refine ⟨ao, cap, rfl, h1, h2, fun hx => ?_⟩
  obtain ⟨b, off, rfl, hlo, hlt, hc⟩ := h3 hx
  refine ⟨b, off, rfl, hlo, by rw [hs.size]; exact hlt, fun j hj => ?_⟩
  rw [World.cell?_of_block (hs.block b (fun hm => by have := hD b hm; omega))]
  exact hc j hj
/-- What solve hands back: the measures where a pass without gain came, or a loop. -/
def SolveR (p : Pat) (n d : Int) (lo : Nat) (e : Ending) (W : World) : Prop :=
  ∃ vx vl, e = .returned (.tuple #[vx, vl]) ∧
    ((∃ k, k ≤ p.n.toNat ∧ (bf p n d (k + 1)).last < 0 ∧ vl = .slice none 0 0 ∧ IntsR lo W vx ((List.range p.n.toNat).map (bf p n d (k + 1)).x)) ∨
     (0 ≤ (bf p n d (p.n.toNat + 1)).last ∧ vx = .slice none 0 0 ∧ ∃ v q, Cycle p n d (bf p n d (p.n.toNat + 1)) v q ∧ IntsR lo W vl ((List.range q).map fun i => (bf p n d (p.n.toNat + 1)).by_ (parN p (bf p n d (p.n.toNat + 1)) v i))))

set_option maxHeartbeats 4000000 in
set_option maxRecDepth 100000 in
theorem solve_any (p : Pat) (n d : Int) (v : Value) (w : World) (h : PatF 0 w v p) (hp : PValid p) (hs : FSize n d) :
    Calls Try.prog 78 #[v, .agg #[.int .i64 n, .int .i64 d]] w fun e w' => SolveR p n d w.heap.size e w' ∧ Below w.heap.size w w' := by
  have h00 := h
  obtain ⟨ao, cap, rfl, hcap, hmax, hc⟩ := h.shape
  unfold maxLen at hmax
  clear h
  obtain ⟨N, hN⟩ : ∃ N : Nat, p.n = N := ⟨p.n.toNat, by have := hp.1; omega⟩
  have HP := hid hp
  obtain ⟨hp1, hp2, hp3, -⟩ := hp
  rw [hN] at hp1 hp2
  obtain ⟨L, hL⟩ : ∃ L, p.rules.length = L := ⟨_, rfl⟩
  have HL := hid hL
  have HN := hid hN
  have HS := hid hs
  rw [hL] at hcap hp3 h00 ⊢
  rw [hN] at h00 ⊢
  clear hL hN hs
  refine (callsIn_wide (n := 6)).1 (callsIn_of_wp_marks Try.func78 rfl trivial (wpIn_wide.2 ?_) rfl)
  simp only [Try.ntmps78, List.size_toArray, List.length_cons, List.length_nil, Nat.reduceAdd, Nat.reduceSub, Array.replicate_succ, Array.replicate_zero, List.push_toArray, List.append_toArray, List.nil_append, List.cons_append]
  go_wp2_with (first | (at_make; refine wpList_mkr rfl (.tmp 13) (.tmp 13) 49 rfl 3 (.int .i64 0) 8 Try.underlying49 infoInt rfl _ _ N rfl rfl (by omega) (by omega) ?_; rw [made_row]) | (at_make; refine wpList_mkr rfl (.tmp 16) (.tmp 16) 49 rfl 3 (.int .i64 0) 8 Try.underlying49 infoInt rfl _ _ N rfl rfl (by omega) (by omega) ?_; rw [made_row]))
  obtain ⟨w0, hw0⟩ : ∃ w0, (((((((w.alloc (.cells #[.int .i64 (N : Int), .slice ao L cap] 33)).alloc (.cells #[.int .i64 n, .int .i64 d] 26)).alloc (.cells #[.slice (some ⟨w.heap.size + 1 + 1 + 1, 0, none⟩) N N] 49)).alloc (.cells (rowArr N fun _ => 0) 3)).alloc (.cells (rowArr N fun _ => 0) 3)).alloc (.cells #[.slice (some ⟨w.heap.size + 1 + 1 + 1 + 1, 0, none⟩) N N] 49)).alloc (.cells #[.int .i64 (-1)] 3)) = w0 := ⟨_, rfl⟩
  obtain ⟨hso, hbel0, hsz0⟩ := so_start (w := w) (N := N) (n := n) (d := d) #[.int .i64 (N : Int), .slice ao L cap]
  rw [hw0] at hso hbel0 hsz0 ⊢
  clear hw0
  obtain ⟨S, hS⟩ : ∃ S, w.heap.size = S := ⟨_, rfl⟩
  rw [hS] at hso hbel0 hsz0 ⊢
  have HSS := hid hS
  clear hS
  refine wp_loop (fun a' wr => ∃ (k : Nat) (Ds : List Nat) (u22 u23 u24 u55 u56 u57 u58 : Value), a' = { tmps := #[.agg #[.int .i64 (N : Int), .slice ao L cap], .agg #[.int .i64 n, .int .i64 d], .pointer (some ⟨S, 0, none⟩), .pointer (some ⟨S + 1, 0, none⟩), .pointer (some ⟨S + 1 + 1, 0, none⟩), .slice none 0 0, .pointer (some ⟨S + 1 + 1 + 1 + 1 + 1, 0, none⟩), .pointer (some ⟨S + 1 + 1 + 1 + 1 + 1 + 1, 0, none⟩), undef, undef, undef, undef, .pointer (some ⟨S, 0, none⟩), .int .i64 (N : Int), .slice (some ⟨S + 1 + 1 + 1, 0, none⟩) N N, .pointer (some ⟨S, 0, none⟩), .int .i64 (N : Int), .slice (some ⟨S + 1 + 1 + 1 + 1, 0, none⟩) N N, .pointer (some ⟨S, 0, none⟩), .int .i64 (N : Int), .int .i64 ((N : Int) + 1), .int .i64 (k : Int), u22, u23, u24, undef, undef, undef, undef, undef, undef, undef, undef, undef, undef, undef, undef, undef, undef, undef, undef, undef, undef, undef, undef, undef, undef, undef, undef, undef, undef, undef, undef, undef, undef, u55, u56, u57, u58, undef, undef, undef, undef, undef, undef, undef, undef, undef, undef, undef, undef, undef, undef, undef, undef, undef, undef, undef, undef, undef, undef, undef, undef, undef, undef, undef, undef, undef, undef, undef], defers := Ds.map mkD } ∧ k ≤ N + 1 ∧ So wr S N #[.int .i64 (N : Int), .slice ao L cap] n d (bf p n d k) ∧ (k = 0 ∨ 0 ≤ (bf p n d k).last) ∧ Mks Ds wr ∧ (∀ D ∈ Ds, S ≤ D) ∧ Below S w wr) (fun a' _ => N + 1 - (intOf (a'.tmps.getD 21 undef)).toNat) ?_ ?_
  · exact ⟨0, [], undef, undef, undef, undef, undef, undef, undef, rfl, Nat.zero_le _, hso, .inl rfl, ⟨List.nodup_nil, fun D hD => (by cases hD)⟩, fun D hD => (by cases hD), hbel0⟩
  · rintro a' wr ⟨k, Ds, u22, u23, u24, u55, u56, u57, u58, rfl, hk, hso1, hlast, hmk, hDS, hbel1⟩
    clear hso hbel0 hsz0
    obtain ⟨st, hst⟩ : ∃ st, bf p n d k = st := ⟨_, rfl⟩
    rw [hst] at hso1 hlast
    have HST := hid hst
    have HLAST := hid hlast
    clear hst hlast
    have hlt := hso1.lt
    by_cases hkN : k < N + 1
    · have cl := hso1.kl.look 0 rfl
      have fl := hso1.kl.frozen
      have cp0 := (hso1.setLast (-1)).kp.look 0 rfl
      have cp1 := (hso1.setLast (-1)).kp.look 1 rfl
      have hkN2 : (k : Int) < (N : Int) + 1 := by omega
      go_wp2_with fail
      refine ((callsIn_wide (n := 0)).1 (all_in Fence.wide 0 trivial rfl _ _ _)).mono ?_
      rintro e w1 ⟨rfl, rfl⟩
      obtain ⟨Wm, hWm⟩ : ∃ Wm, wr.setCell ⟨S + 1 + 1 + 1 + 1 + 1 + 1, 0, none⟩ (.int .i64 (-1)) = Wm := ⟨_, rfl⟩
      have hso2 := hso1.setLast (-1)
      have hmk2 := hmk.set hso1.kl 0 (.int .i64 (-1))
      have hbel2 := hbel1.setCell (p := ⟨S + 1 + 1 + 1 + 1 + 1 + 1, 0, none⟩) (by show S ≤ S + 1 + 1 + 1 + 1 + 1 + 1; omega) (.int .i64 (-1))
      rw [hWm] at hso2 hmk2 hbel2 ⊢
      clear hWm cl fl cp0 cp1 hso1 hmk hbel1
      obtain ⟨B, hB⟩ : ∃ B, Wm.heap.size = B := ⟨_, rfl⟩
      have kB := Blk.new Wm #[.int .i64 (N : Int), .slice ao L cap] 33
      have hso3 := hso2.alloc (.cells #[.int .i64 (N : Int), .slice ao L cap] 33)
      have hmk3 := hmk2.below ((Below.refl _ Wm).alloc (Nat.le_refl _) (.cells #[.int .i64 (N : Int), .slice ao L cap] 33))
      have hbel3 := hbel2.alloc (by have := hso2.lt; omega) (.cells #[.int .i64 (N : Int), .slice ao L cap] 33)
      have hszW : (Wm.alloc (.cells #[.int .i64 (N : Int), .slice ao L cap] 33)).heap.size = Wm.heap.size + 1 := World.size_alloc _ _
      obtain ⟨W0, hW0⟩ : ∃ W0, Wm.alloc (.cells #[.int .i64 (N : Int), .slice ao L cap] 33) = W0 := ⟨_, rfl⟩
      have hBlt := hso2.lt
      rw [hW0, hB] at kB hszW ⊢
      rw [hB] at hBlt
      rw [hW0] at hso3 hmk3 hbel3
      clear hW0 hso2 hmk2 hbel2 hB
      go_wp2_with fail
      refine wpIn_wide.1 (wpIn_rangeFunc_ownH (F := Fence.wide) (n := 6) (α := Ent p) rfl (by omega) (gf := 114) (lb := #[.pointer (some ⟨B, 0, none⟩)]) rfl trivial (enters_of Try.func114 (by kernel_rfl) rfl)
        (all_stops Fence.wide 5 trivial rfl (by omega) B S p N HN.out (by omega) (by omega) (by rw [HL.out]; exact hp3) ao cap (by rw [HL.out]; exact hcap) W0 (by omega) (by rw [HL.out]; exact kB) (fun W' hb => hc.below (by rw [HSS.out]; exact hbel3.trans hb)))
        (fun h k => KpB.trans h k) (fun W l o o' hl _ _ _ => KpB.put (by omega) (by omega) o') (Below.refl _ _) (fun _ => rfl)
        (SoI p W0 w S N #[.int .i64 (N : Int), .slice ao L cap] n d st Ds) (fun _ _ _ => False) (SoI_own p W0 w S N _ n d st Ds (by omega)) (fun _ _ _ _ _ hf _ _ => hf) ⟨hso3, ⟨hmk3, fun D hD => hmk3.lt hD⟩, hbel3, Nat.le_refl _⟩
        (fun x a' W => ∃ Bx, W0.heap.size ≤ Bx ∧ Blk W Bx #[.int .i64 x.1.2.a, .int .i64 x.1.2.b, .int .i64 x.1.2.c, .int .i64 x.1.2.d] 92 ∧ a' = { tmps := #[.agg #[.int .i64 (N : Int), .slice ao L cap], .agg #[.int .i64 n, .int .i64 d], .pointer (some ⟨S, 0, none⟩), .pointer (some ⟨S + 1, 0, none⟩), .pointer (some ⟨S + 1 + 1, 0, none⟩), .slice none 0 0, .pointer (some ⟨S + 1 + 1 + 1 + 1 + 1, 0, none⟩), .pointer (some ⟨S + 1 + 1 + 1 + 1 + 1 + 1, 0, none⟩), .int .i64 x.1.1, .pointer (some ⟨Bx, 0, none⟩), undef, undef, .pointer (some ⟨S, 0, none⟩), .int .i64 (N : Int), .slice (some ⟨S + 1 + 1 + 1, 0, none⟩) N N, .pointer (some ⟨S, 0, none⟩), .int .i64 (N : Int), .slice (some ⟨S + 1 + 1 + 1 + 1, 0, none⟩) N N, .pointer (some ⟨S, 0, none⟩), .int .i64 (N : Int), .int .i64 ((N : Int) + 1), .int .i64 (k : Int), .bool true, .agg #[.int .i64 (N : Int), .slice ao L cap], .func (.func 114) #[] #[.pointer (some ⟨B, 0, none⟩)], .int .i64 x.1.1, ruV x.1.2, undef, undef, undef, undef, undef, undef, undef, undef, undef, undef, undef, undef, undef, undef, undef, undef, undef, undef, undef, undef, undef, undef, undef, undef, undef, undef, undef, undef, u55, u56, u57, u58, undef, undef, undef, undef, undef, undef, undef, undef, undef, undef, undef, undef, undef, undef, undef, undef, undef, undef, undef, undef, undef, undef, undef, undef, undef, undef, undef, undef, undef, undef, undef], defers := [] })
        (fun x a' _ X Y row hs hg hr => by obtain ⟨Bx, b1, b2, b3⟩ := hs; exact ⟨Bx, b1, blk_own b2 hg (fun r e => (hr r e).2), b3⟩) ?assign ?body ?done ?stop)
      case assign =>
        rintro l pre x W K ⟨i1, ⟨i2, i2'⟩, i3, i4⟩ hK
        obtain ⟨⟨xk, r⟩, hx⟩ := x
        dsimp only at hK ⊢
        gi_wp2
        refine hK _ _ ((KeepsOthers.alloc _ _).from _) ((KpB.refl S B W).alloc (by omega) (by omega) _) ⟨i1.alloc _, ⟨i2.below ((Below.refl _ W).alloc (Nat.le_refl _) _), i2'⟩, i3.alloc (by omega) _, by rw [World.size_alloc]; omega⟩ ⟨W.heap.size, i4, Blk.new W _ _, rfl⟩
      case body =>
        rintro l pre x a' W hl - ⟨i1, ⟨i2, i2'⟩, i3, i4⟩ ⟨Bx, hBx, kx, rfl⟩ hlen
        have hrv := allL_RV HP.out x.2
        have WT : Hid (∀ w, Calls Try.prog 80 #[ruV x.1.2, .agg #[.int .i64 n, .int .i64 d]] w fun e w' => e = .returned (.int .i64 (wt x.1.2 n d)) ∧ Below w.heap.size w w') := hid (fun w => at_any p.n x.1.2 n d w hrv HS.out)
        have hstep : Rel p n d st (pre ++ [x]) = relax n d (Rel p n d st pre) x.1 := Rel_snoc p n d st pre x
        obtain ⟨s1, hs1⟩ : ∃ s1, Rel p n d st pre = s1 := ⟨_, rfl⟩
        rw [hs1] at i1 hstep
        have HSTEP := hid hstep
        clear hs1 hstep
        obtain ⟨A, hA⟩ : ∃ A : Nat, x.1.2.a = A := ⟨x.1.2.a.toNat, by have := hrv.1; omega⟩
        obtain ⟨C, hC⟩ : ∃ A : Nat, x.1.2.b = A := ⟨x.1.2.b.toNat, by have := hrv.2.2.1; omega⟩
        have hAN : A < N := by have := hrv.2.1; have := HN.out; omega
        have hCN : C < N := by have := hrv.2.2.2.1; have := HN.out; omega
        rw [hA, hC] at kx
        obtain ⟨xk, hxk⟩ : ∃ z, x.1.1 = z := ⟨_, rfl⟩
        obtain ⟨rc, hrc⟩ : ∃ z, x.1.2.c = z := ⟨_, rfl⟩
        obtain ⟨rd, hrd⟩ : ∃ z, x.1.2.d = z := ⟨_, rfl⟩
        obtain ⟨y, hy⟩ : ∃ z, wt x.1.2 n d = z := ⟨_, rfl⟩
        simp only [ruV] at WT ⊢
        rw [hA, hC, hrc, hrd, hy] at WT
        rw [hrc, hrd] at kx
        rw [hA, hC, hxk, hrc, hrd]
        have HA := hid hA
        have HC := hid hC
        have HXK := hid hxk
        have HY := hid hy
        clear hrv hA hC hxk hrc hrd hy
        gi_wp2_with fail
        have z0 := fun x : Sub W => (kx.below x.b).look 0 rfl
        have z1 := fun x : Sub W => (kx.below x.b).look 1 rfl
        have z2 := fun x : Sub W => (kx.below x.b).look 2 rfl
        have z3 := fun x : Sub W => (kx.below x.b).look 3 rfl
        have z4 := fun x : Sub W => (i1.below x.b).kxb.look 0 rfl
        have z5 := fun x : Sub W => (i1.below x.b).ks.look 0 rfl
        have z6 := fun x : Sub W => (i1.below x.b).ks.look 1 rfl
        have z7 := fun x : Sub W => (i1.below x.b).kx.look C (rowArr_get hCN)
        refine wpIn_region_round (C := fun w' => ∃ x : Sub _, w' = x.w) (lst := [_, _, _, _, _, _, _, _, _, _]) (by kernel_rfl) (by kernel_rfl) ?letsout (by kernel_rfl) (Sub.first _) ?_
        case letsout =>
          rintro ⟨a9, w9, h9⟩
          exact h9
        repeat (quiet_step ((go_at_call 80; refine sub_call (WT.out _))))
        refine wpQuiet_nil ?_
        intro _ hw'
        obtain ⟨xq, hw''⟩ := hw'
        subst hw''
        clear z0 z1 z2 z3 z4 z5 z6 z7
        have kx2 := kx.below xq.b
        have i1' := i1.below xq.b
        have i2q := i2.below xq.b
        have i3q := i3.trans (xq.b.mono (by omega))
        have i4q := Nat.le_trans i4 xq.b.size
        have hkeep : KeepsOthers W xq.w := keeps_of_below xq.b
        have hkpb : KpB S B W xq.w := ⟨xq.b.mono (by omega), xq.b.block B (by omega)⟩
        generalize xq.w = W2 at kx2 i1' i2q i3q i4q hkeep hkpb ⊢
        have c0 := kx2.look 0 rfl
        have c4 := i1'.kxb.look 0 rfl
        have cA := i1'.kx.look A (rowArr_get hAN)
        obtain ⟨yy, hyy⟩ : ∃ z, IntKind.i64.wrap (s1.x C + y) = z := ⟨_, rfl⟩
        obtain ⟨xa, hxa⟩ : ∃ z, s1.x A = z := ⟨_, rfl⟩
        rw [hxa] at cA
        rw [hyy]
        have HYY := hid hyy
        have HXA := hid hxa
        clear hyy hxa
        have hoff : offer n d s1 x.1.2 = yy := by
          unfold offer
          rw [HC.out, Int.toNat_natCast, HY.out, ← IntWalk.i64_left]
          exact HYY.out
        have hxaN : s1.x x.1.2.a.toNat = xa := by rw [HA.out, Int.toNat_natCast]; exact HXA.out
        have HOFF := hid hoff
        have HXAN := hid hxaN
        clear hoff hxaN
        by_cases hgt : xa < yy
        · gi_wp2_with fail
          obtain ⟨G, hG⟩ : ∃ G : World → Prop, G = fun W' => Blk W' Bx #[.int .i64 (A : Int), .int .i64 (C : Int), .int .i64 rc, .int .i64 rd] 92 ∧ Mks Ds W' ∧ Below S w W' ∧ W0.heap.size ≤ W'.heap.size ∧ KeepsOthers W W' ∧ KpB S B W W' := ⟨_, rfl⟩
          have hGS : StoreOk S G := by
            subst hG
            rintro W' b cs t j u hb1 hb2 kb ⟨g1, g2, g3, g4, g5, g6⟩
            exact ⟨g1.other (by simp <;> omega) _, g2.set kb j u, g3.setCell (by show S ≤ b; omega) _, by simpa [World.setCell] using g4, g5.trans (KeepsOthers.setCell _ _ _), g6.1.setCell (by show S ≤ b; omega) _, (Below.heap_setCell W' ⟨b, j, none⟩ u B (by show B ≠ b; omega)).trans g6.2⟩
          have hGx : ∀ W', G W' → Blk W' Bx #[.int .i64 (A : Int), .int .i64 (C : Int), .int .i64 rc, .int .i64 rd] 92 := fun W' hw => by rw [hG] at hw; exact hw.1
          have hC0 : Gain S N #[.int .i64 (N : Int), .slice ao L cap] n d s1 A yy xk G (Array.replicate 15 false) W2.drew := by
            refine ⟨by simp, ?_, ?_⟩
            · have e : gainSt s1 A yy xk (Array.replicate 15 false) = s1 := by simp [gainSt]
              rw [e]
              exact i1'.below (Below.refl _ _).drew
            · rw [hG]
              exact ⟨kx2.drew, i2q.below (Below.refl _ _).drew, i3q.drew, i4q, hkeep.trans (KeepsOthers.drew _), hkpb.1.drew, hkpb.2⟩
          have hne : Nonempty (SubL (Gain S N #[.int .i64 (N : Int), .slice ao L cap] n d s1 A yy xk G)) := ⟨⟨_, _, hC0⟩⟩
          have z0 := fun x : SubL (Gain S N #[.int .i64 (N : Int), .slice ao L cap] n d s1 A yy xk G) => (hGx _ x.h.2.2).look 0 rfl
          have z1 := fun x : SubL (Gain S N #[.int .i64 (N : Int), .slice ao L cap] n d s1 A yy xk G) => x.h.2.1.kxb.look 0 rfl
          have z2 := fun x : SubL (Gain S N #[.int .i64 (N : Int), .slice ao L cap] n d s1 A yy xk G) => x.h.2.1.kbb.look 0 rfl
          have z3 := fun x : SubL (Gain S N #[.int .i64 (N : Int), .slice ao L cap] n d s1 A yy xk G) => x.h.2.1.kx.look A (rowArr_get hAN)
          have z4 := fun x : SubL (Gain S N #[.int .i64 (N : Int), .slice ao L cap] n d s1 A yy xk G) => x.h.2.1.kb.look A (rowArr_get hAN)
          have z5 := fun x : SubL (Gain S N #[.int .i64 (N : Int), .slice ao L cap] n d s1 A yy xk G) => x.h.2.1.kl.look 0 rfl
          have z6 := fun x : SubL (Gain S N #[.int .i64 (N : Int), .slice ao L cap] n d s1 A yy xk G) => x.h.2.1.kx.frozen
          have z7 := fun x : SubL (Gain S N #[.int .i64 (N : Int), .slice ao L cap] n d s1 A yy xk G) => x.h.2.1.kb.frozen
          have z8 := fun x : SubL (Gain S N #[.int .i64 (N : Int), .slice ao L cap] n d s1 A yy xk G) => x.h.2.1.kl.frozen
          have HG := hid hG
          clear c0 c4 cA hG hGx kx kx2 i1 i1' i2q i3q hkeep hkpb hso3 kB hmk3
          refine wpIn_region_lex (C := Gain S N #[.int .i64 (N : Int), .slice ao L cap] n d s1 A yy xk G) (lst := [_, _, _, _, _, _, _, _, _, _, _, _, _, _, _]) (by kernel_rfl) (by kernel_rfl) ?letsout2 (by kernel_rfl) (by kernel_rfl) (fun L w h => h.1) hC0 ?_
          case letsout2 =>
            rintro ⟨a9, w9, h9⟩
            exact h9
          repeat (refine lexL_read (fun L w h => gain_read (by decide) (by decide) (by decide) h) (fun K hK => ?_); refine ⟨rfl, ?_⟩; go_simp; refine hK _ ?_; clear hK K)
          refine lexL_store ⟨S + 1 + 1 + 1, A, none⟩ (.int .i64 yy) (fun L w h => gain_x hGS h) (fun K hK => ?_)
          refine ⟨rfl, ?_⟩
          go_simp
          refine hK _ ?_
          clear hK K
          refine lexL_read (fun L w h => gain_read (by decide) (by decide) (by decide) h) (fun K hK => ?_)
          refine ⟨rfl, ?_⟩
          go_simp
          refine hK _ ?_
          clear hK K
          refine lexL_store ⟨S + 1 + 1 + 1 + 1, A, none⟩ (.int .i64 xk) (fun L w h => gain_b hGS h) (fun K hK => ?_)
          refine ⟨rfl, ?_⟩
          go_simp
          refine hK _ ?_
          clear hK K
          refine lexL_store ⟨S + 1 + 1 + 1 + 1 + 1 + 1, 0, none⟩ (.int .i64 (A : Int)) (fun L w h => gain_l hGS h) (fun K hK => ?_)
          refine ⟨rfl, ?_⟩
          go_simp
          refine hK _ ?_
          clear hK K
          intro L3 W3 hL3 hC3
          obtain ⟨e1, e2⟩ := gain_end hC3 hL3
          rw [HG.out] at e2
          obtain ⟨-, e3, e4, e5, e6, e7⟩ := e2
          clear z0 z1 z2 z3 z4 z5 z6 z7 z8 hC0 hne hC3 hL3
          refine (⟨e6.from _, e7, ?_, ⟨e3, i2'⟩, e4, e5⟩ : _ ∧ _ ∧ SoI p W0 w S N #[.int .i64 (N : Int), .slice ao L cap] n d st Ds (pre ++ [x]) W3)
          rw [HSTEP.out]
          unfold relax
          rw [HOFF.out, HXAN.out, if_pos hgt, HA.out, Int.toNat_natCast, HXK.out]
          exact e1
        · gi_wp2_with fail
          refine ⟨hkeep.from _, hkpb, ?_, ⟨i2q, i2'⟩, i3q, i4q⟩
          rw [HSTEP.out]
          unfold relax
          rw [HOFF.out, HXAN.out, if_neg (by omega)]
          exact i1'
      case done =>
        rintro D xs W hD hS ⟨i1, ⟨i2, i2'⟩, i3, i4⟩ hKD
        have hrel : Rel p n d st xs = bf p n d (k + 1) := by unfold Rel; rw [hS, ← HST.out]; rfl
        have hmk4 : Mks (D :: Ds) W := ⟨List.nodup_cons.2 ⟨fun hm => by have := i2' D hm; omega, i2.nd⟩, fun D' hD' => (List.mem_cons.1 hD').elim (fun e => by rw [e]; exact hKD) (i2.all D')⟩
        have hDS2 : ∀ D' ∈ D :: Ds, S ≤ D' := fun D' hD' => (List.mem_cons.1 hD').elim (fun e => by omega) (hDS D')
        rw [hrel] at i1
        obtain ⟨st2, hst2⟩ : ∃ st2, bf p n d (k + 1) = st2 := ⟨_, rfl⟩
        rw [hst2] at i1
        have HST2 := hid hst2
        clear hrel hst2 hS hKD i2 i2' kB hso3 hmk3 hbel3
        have cl := i1.kl.look 0 rfl
        have cx := i1.kxb.look 0 rfl
        have fx := i1.kxb.frozen
        dsimp only
        by_cases hneg : st2.last < 0
        · go_wp2
          have i5 : So (W.setCell ⟨S + 1 + 1, 0, none⟩ (.slice (some ⟨S + 1 + 1 + 1, 0, none⟩) N N)) S N #[.int .i64 (N : Int), .slice ao L cap] n d st2 :=
            ⟨i1.kp.other (by simp <;> omega) _, i1.ks.other (by simp) _, i1.kxb.set 0 _, i1.kx.other (by simp) _, i1.kb.other (by simp <;> omega) _, i1.kbb.other (by simp <;> omega) _, i1.kl.other (by simp <;> omega) _⟩
          have i6 := hmk4.set i1.kxb 0 (.slice (some ⟨S + 1 + 1 + 1, 0, none⟩) N N)
          have i7 := i3.setCell (p := ⟨S + 1 + 1, 0, none⟩) (by show S ≤ S + 1 + 1; omega) (.slice (some ⟨S + 1 + 1 + 1, 0, none⟩) N N)
          generalize W.setCell ⟨S + 1 + 1, 0, none⟩ (.slice (some ⟨S + 1 + 1 + 1, 0, none⟩) N N) = W5 at i5 i6 i7 ⊢
          refine leaves_marks (D :: Ds) W5 i6 fun W6 hs6 => ?_
          have j1 := hs6.blk i6 i5.kxb
          have j2 := hs6.blk i6 i5.kx
          have cx6 := j1.look 0 rfl
          refine ⟨.tuple #[.slice (some ⟨S + 1 + 1 + 1, 0, none⟩) N N, .slice none 0 0], ?_, ⟨_, _, rfl, .inl ⟨k, ?_, ?_, rfl, ?_⟩⟩, ?_⟩
          · simp [results, Try.results78, go_sem, cx6]
          · rw [HN.out, Int.toNat_natCast]; omega
          · rw [HST2.out]; exact hneg
          · rw [HN.out, Int.toNat_natCast, HST2.out, HSS.out]
            exact row_ints j2 (by omega) (by omega)
          · rw [HSS.out]
            exact i7.trans (hs6.below hDS2)
        · go_wp2
          refine ⟨⟨k + 1, D :: Ds, ⟨by omega, rfl⟩, by omega, by rw [HST2.out]; exact i1, .inr (by rw [HST2.out]; omega), hmk4, hDS2⟩, ?_⟩
          simp [intOf]
          omega
      case stop =>
        intro D c pre W hD hS hI
        exact hI.elim
    · obtain rfl : k = N + 1 := by omega
      have cp0 := hso1.kp.look 0 rfl
      have hbv : ∃ T c t, BInv p n d (N + 1) (allL p).length ((N + 1) * (allL p).length) (bf p n d (N + 1)) T c t := binv_bf HP.out HS.out (N + 1) (by omega)
      have hcyc : ∃ v : Nat, st.last = v ∧ v < N ∧ (∀ i, Gained p st (parN p st v i)) ∧ ∃ q, Cycle p n d st (parN p st v N) q := by
        obtain ⟨T, c, t, hb⟩ := hbv
        rw [HST.out] at hb
        have h0 : 0 ≤ st.last := HLAST.out.resolve_left (by omega)
        have hN1 : p.n.toNat = N := by rw [HN.out, Int.toNat_natCast]
        rw [← hN1] at hb
        obtain ⟨v, hv⟩ : ∃ v : Nat, st.last = v := ⟨st.last.toNat, by omega⟩
        obtain ⟨g1, g2, g3⟩ := cycle_of HP.out hb hv
        rw [hN1] at g1 g3
        exact ⟨v, hv, g1, g2, g3⟩
      obtain ⟨v0, hv0, hv0N, hgain, q, hq⟩ := hcyc
      have HV0 := hid hv0
      have HQ := hid hq
      have HGA := hid hgain
      clear hbv hv0 hq hgain
      go_wp2_with fail
      clear cp0
      have hso2 : So wr S N #[.int .i64 (N : Int), .slice ao L cap] n d ⟨st.x, st.by_, ((parN p st v0 0 : Nat) : Int)⟩ := by
        show So wr S N _ n d ⟨st.x, st.by_, (v0 : Int)⟩
        rw [← HV0.out]
        exact hso1
      clear hso1
      generalize wr = w7 at *
      go_loopw [61] (fun x wr => ∃ i : Nat, x = .int .i64 i ∧ i ≤ N ∧ So wr S N #[.int .i64 (N : Int), .slice ao L cap] n d ⟨st.x, st.by_, ((parN p st v0 i : Nat) : Int)⟩ ∧ Mks Ds wr ∧ Below S w wr) (fun x _ => N - (intOf x).toNat)
      case atStart => exact ⟨0, rfl, Nat.zero_le _, hso2, hmk, hbel1⟩
      case round =>
        obtain ⟨i, rfl, hi, hso3, hmk3, hbel3⟩ := hrel
        clear hso2 hmk hbel1
        by_cases hiN : i < N
        · obtain ⟨u, hu⟩ : ∃ u, parN p st v0 i = u := ⟨_, rfl⟩
          have hgu := HGA.out i
          have hnx : parN p st v0 (i + 1) = par p st u := by rw [← hu]; rfl
          rw [hu] at hso3 hgu
          obtain ⟨r1, r2, r3⟩ := gained_rule hgu
          have hnb := num_bd r3
          have huN : u < N := by have := hgu.1; have := HN.out; omega
          have hrv := allL_RV HP.out r3
          obtain ⟨ky, hky⟩ : ∃ z, st.by_ u = z := ⟨_, rfl⟩
          rw [hky] at hnb hrv
          have hb1 : (numRule p ky).b = ((par p st u : Nat) : Int) := by
            unfold par; rw [hky]; have := hrv.2.2.1; dsimp only at this ⊢; omega
          have RU : Hid (∀ w', Below wr.heap.size wr w' → Calls Try.prog 113 #[.agg #[.int .i64 (N : Int), .slice ao L cap], .int .i64 ky] w' fun e w'' => e = .returned (ruV (numRule p ky)) ∧ Below w'.heap.size w' w'') :=
            hid (fun w' hb => rule_any p ky _ w' (h00.below (by rw [HSS.out]; exact hbel3.trans (hb.mono (by have := hso3.lt; omega)))) (by have := hnb.1; have := HN.out; omega) hnb.2)
          obtain ⟨rr, hrr⟩ : ∃ r, numRule p ky = r := ⟨_, rfl⟩
          rw [hrr] at RU hb1
          simp only [ruV] at RU
          rw [hb1] at RU
          have HKY := hid hky
          have HNX := hid hnx
          clear hu hgu hnx r1 r2 r3 hnb hrv hky hb1 hrr
          go_wp2_with fail
          have z0 := fun x : Sub wr => (hso3.below x.b).kp.look 0 rfl
          have z1 := fun x : Sub wr => (hso3.below x.b).kp.look 1 rfl
          have z2 := fun x : Sub wr => (hso3.below x.b).kbb.look 0 rfl
          have z3 := fun x : Sub wr => (hso3.below x.b).kl.look 0 rfl
          have z4 := fun x : Sub wr => (((hso3.below x.b).kb).look u (rowArr_get huN)).trans (congrArg (fun y => some (Value.int .i64 y)) HKY.out)
          have z5 := fun x : Sub wr => (hso3.below x.b).kl.frozen
          have hfd := field_b
          refine wp_region_snoc' (C := fun w' => ∃ x : Sub _, w' = x.w) (l := [_, _, _, _, _, _, _]) rfl (by kernel_rfl) (by kernel_rfl) (by kernel_rfl) (Sub.first _) ?_
          repeat (quiet_step ((go_at_call 113; refine sub_call (RU.out _ (Sub.b _)))))
          refine wpQuiet_nil ?_
          intro _ hw'
          obtain ⟨xq, hw''⟩ := hw'
          subst hw''
          have hz := hso3.below xq.b
          have hmz := hmk3.below xq.b
          have hbz := hbel3.trans (xq.b.mono (by have := hso3.lt; omega))
          have hz2 := hz.setLast ((par p st u : Nat) : Int)
          have hmz2 := hmz.set hz.kl 0 (.int .i64 ((par p st u : Nat) : Int))
          have hbz2 := hbz.setCell (p := ⟨S + 1 + 1 + 1 + 1 + 1 + 1, 0, none⟩) (by show S ≤ S + 1 + 1 + 1 + 1 + 1 + 1; omega) (.int .i64 ((par p st u : Nat) : Int))
          go_wp2
          go_roundw
          case rel => exact ⟨i + 1, by go_num, by omega, by rw [HNX.out]; exact hz2, hmz2, hbz2⟩
          case measure => simp [intOf]; omega
        · obtain rfl : i = N := by omega
          have cl := hso3.kl.look 0 rfl
          go_wp2_with fail
          clear cl
          obtain ⟨V, hV⟩ : ∃ V, parN p st v0 i = V := ⟨_, rfl⟩
          rw [hV] at hso3 HQ ⊢
          clear hV
          generalize wr = w8 at *
          have hgain : ∀ j, Gained p st (parN p st V j) := HQ.out.gain
          have HGV := hid hgain
          have hq1 := HQ.out.pos
          have hqN : q ≤ i := by have := HQ.out.le; have := HN.out; omega
          clear hgain
          go_loopw [5, 11] (fun y x wr => ∃ j : Nat, x = .int .i64 ((parN p st V j : Nat) : Int) ∧ j < q ∧ wr.ownsRow w8.heap.size 3 1 y j (intCells ((List.range j).map fun m => st.by_ (parN p st V m))) ∧ Below w8.heap.size w8 wr) (fun y _ _ => q - lenSl y)
          case atStart => exact ⟨0, rfl, hq1, World.ownsRow_nil _ _ _ _, Below.refl _ _⟩
          case round =>
            obtain ⟨j, rfl, hj, ho, hbel⟩ := hrel
            obtain ⟨u, hu⟩ : ∃ u, parN p st V j = u := ⟨_, rfl⟩
            have hgu := HGV.out j
            have hnx : parN p st V (j + 1) = par p st u := by rw [← hu]; rfl
            rw [hu] at hgu ⊢
            obtain ⟨r1, r2, r3⟩ := gained_rule hgu
            have hnb := num_bd r3
            have huN : u < i := by have := hgu.1; have := HN.out; omega
            have hrv := allL_RV HP.out r3
            obtain ⟨ky, hky⟩ : ∃ z, st.by_ u = z := ⟨_, rfl⟩
            rw [hky] at hnb hrv
            have hb1 : (numRule p ky).b = ((par p st u : Nat) : Int) := by
              unfold par; rw [hky]; have := hrv.2.2.1; dsimp only at this ⊢; omega
            have hbelS := hbel3.trans (hbel.mono (by have := hso3.lt; omega))
            have RU : Hid (∀ w', Below S w w' → Calls Try.prog 113 #[.agg #[.int .i64 (i : Int), .slice ao L cap], .int .i64 ky] w' fun e w'' => e = .returned (ruV (numRule p ky)) ∧ Below w'.heap.size w' w'') :=
              hid (fun w' hb => rule_any p ky _ w' (h00.below (by rw [HSS.out]; exact hb)) (by have := hnb.1; have := HN.out; omega) hnb.2)
            obtain ⟨rr, hrr⟩ : ∃ r, numRule p ky = r := ⟨_, rfl⟩
            rw [hrr] at RU hb1
            simp only [ruV] at RU
            rw [hb1] at RU
            have HU := hid hu
            have HKY := hid hky
            have HNX := hid hnx
            clear hu hgu hnx r1 r2 r3 hnb hrv hky hb1 hrr
            have so1 := hso3.below hbel
            have c0 := so1.kbb.look 0 rfl
            have c1 := (so1.kb.look u (rowArr_get huN)).trans (congrArg (fun y => some (Value.int .i64 y)) HKY.out)
            have hsz := hbel.size
            go_wp2_with (first
              | (at_builtin; refine wpList_app rfl (.tmp 72) (.tmp 77) _ rfl w8.heap.size 3 (.int .i64 0) 1 8 Try.underlying49 infoInt rfl (by decide) 3 _ _ _ rfl ho [.int .i64 ky] rfl rfl (by simp [Value.oneCell']) (by unfold maxLen; omega) (by omega) (by omega) ?_; intro g5 gcap w5 ho5 hb5 _ _ _))
            have so5 := hso3.below (hbel.trans hb5)
            have hbel5 := hbel.trans hb5
            have hbelS5 := hbel3.trans (hbel5.mono (by have := hso3.lt; omega))
            have hmk5 := hmk3.below hbel5
            have hlen : lenSl u5 = j := by obtain ⟨_, _, e9, -⟩ := SlR.of_owns ho; rw [e9]; rfl
            have hS5 : S ≤ w5.heap.size := by have := hso3.lt; have := hbel5.size; omega
            clear so1 hbelS ho hbel c0 c1 hb5
            have z0 := fun x : Sub w5 => (so5.below x.b).kp.look 0 rfl
            have z1 := fun x : Sub w5 => (so5.below x.b).kp.look 1 rfl
            have z2 := fun x : Sub w5 => (so5.below x.b).kbb.look 0 rfl
            have z4 := fun x : Sub w5 => (((so5.below x.b).kb).look u (rowArr_get huN)).trans (congrArg (fun y => some (Value.int .i64 y)) HKY.out)
            have hfd := field_b
            refine wp_region_sub (by kernel_rfl) (by kernel_rfl) ?_
            repeat (quiet_step ((go_at_call 113; refine sub_call (RU.out _ (hbelS5.trans ((Sub.b _).mono hS5))))))
            refine wpQuiet_nil ?_
            intro _ hw'
            obtain ⟨xq, hw''⟩ := hw'
            subst hw''
            clear z0 z1 z2 z4 hfd
            have so6 := so5.below xq.b
            have hmk6 := hmk5.below xq.b
            have hbel6 := hbel5.trans (xq.b.mono (by have := hbel5.size; omega))
            have hbelS6 := hbelS5.trans (xq.b.mono hS5)
            have ho6 := owns_below ho5 xq.b
            have hrow : ((List.range j).map fun m => st.by_ (parN p st V m)) ++ [ky] = (List.range (j + 1)).map fun m => st.by_ (parN p st V m) := by
              rw [List.range_succ, List.map_append, List.map_cons, List.map_nil, HU.out, HKY.out]
            have hrow2 : intCells ((List.range j).map fun m => st.by_ (parN p st V m)) ++ [.int .i64 ky] = intCells ((List.range (j + 1)).map fun m => st.by_ (parN p st V m)) := by
              rw [← hrow]; simp [intCells]
            rw [hrow2] at ho6
            clear hrow hrow2 so5 hmk5 hbel5 hbelS5 ho5
            generalize xq.w = W6 at so6 hmk6 hbel6 hbelS6 ho6 ⊢
            have c3 := so6.kl.look 0 rfl
            have c4 := so6.kxb.frozen
            have c5 := so6.kxb.look 0 rfl
            by_cases hback : j + 1 = q
            · subst hback
              have hpu : par p st u = V := by rw [← HNX.out]; exact HQ.out.back
              rw [hpu]
              go_wp2
              have i6 := hmk6.set so6.kxb 0 (.slice none 0 0)
              have i7 := hbelS6.setCell (p := ⟨S + 1 + 1, 0, none⟩) (by show S ≤ S + 1 + 1; omega) (.slice none 0 0)
              have i8 := (SlR.of_owns ho6).setCell (p := ⟨S + 1 + 1, 0, none⟩) (by have := hso3.lt; show S + 1 + 1 < _; omega) (.slice none 0 0)
              have i9 := so6.kxb.set 0 (.slice none 0 0)
              generalize W6.setCell ⟨S + 1 + 1, 0, none⟩ (.slice none 0 0) = W7 at i6 i7 i8 i9 ⊢
              refine leaves_marks Ds W7 i6 fun W8 hs8 => ?_
              have j1 := hs8.blk i6 i9
              have cx8 := j1.look 0 rfl
              have j2 := slR_shut i8 hs8 (fun D hD => hmk3.lt hD)
              refine ⟨.tuple #[.slice none 0 0, .slice (some ⟨g5, 0, none⟩) (j + 1) gcap], ?_, ⟨_, _, rfl, .inr ⟨?_, rfl, V, j + 1, ?_, ?_⟩⟩, ?_⟩
              · simp [results, Try.results78, go_sem, cx8]
              · rw [HN.out, Int.toNat_natCast, HST.out]; exact HLAST.out.resolve_left (by omega)
              · rw [HN.out, Int.toNat_natCast, HST.out]; exact HQ.out
              · have j3 : SlR S _ _ _ _ := j2.mono (Nat.le_trans (by omega) hso3.lt)
                rw [HN.out, Int.toNat_natCast, HST.out, HSS.out]
                unfold IntsR
                rw [List.length_map, List.length_range]
                exact j3
              · rw [HSS.out]
                exact i7.trans (hs8.below hDS)
            · have hne : ((par p st u : Nat) : Int) ≠ (V : Int) := by
                intro e
                have h1 := HQ.out.first (j + 1) (by omega) (by omega)
                rw [HNX.out] at h1
                omega
              go_wp2
              go_roundw
              case rel => exact ⟨j + 1, by rw [HNX.out], by omega, ho6, hbel6⟩
              case measure => rw [hlen]; simp [lenSl]; omega

end Go.Proofs.Ytmknengmjepdaaa
