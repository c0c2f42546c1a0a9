/- Walk of grade.Pattern.closed. -/
import Derived.Test.YtmknengmjepdaaaGa
import Derived.Test.YtmknengmjepdaaaRx
import Derived.Test.YtmknengmjepdaaaTx
import Derived.Deep.WholeRow
namespace Go.Proofs.Ytmknengmjepdaaa
open Go.RowKit Go.Shelf
attribute [local go_sem] Oper.semAt_some
attribute [local irreducible] seqS seqST

theorem infoCl : (Try.prog.info? 122).map (fun i => (i.zero, i.size)) = some (some (.agg (clArr 0 (fun _ _ => NONE))), 512) := by kernel_rfl

/-- closed's own memory. -/
structure Cl (W : World) (S : Nat) (pa : Array Value) (n d : Int) (Z A : Array Value) : Prop where
  kp : Blk W S pa 33
  ks : Blk W (S + 1) #[.int .i64 n, .int .i64 d] 26
  kr : Blk W (S + 1 + 1) Z 122
  kc : Blk W (S + 1 + 1 + 1) A 122
theorem cl_start (w : World) (pa : Array Value) (n d : Int) (Z : Array Value) :
    ∃ W, (((w.alloc (.cells pa 33)).alloc (.cells #[.int .i64 n, .int .i64 d] 26)).alloc (.cells Z 122)).alloc (.cells Z 122) = W ∧ Cl W w.heap.size pa n d Z Z ∧ Below w.heap.size w W := by
  have e : ∀ (W : World) (m : Nat) (cs : Array Value) (t : TypeId), W.heap.size = m → Blk (W.alloc (.cells cs t)) m cs t := fun W m cs t hm => by rw [← hm]; exact Blk.new W cs t
  refine ⟨_, rfl, ⟨?_, ?_, ?_, ?_⟩, ?_⟩
  · exact (((Blk.new w _ _).alloc _).alloc _).alloc _
  · exact ((e _ _ _ _ (by simp)).alloc _).alloc _
  · exact (e _ _ _ _ (by simp)).alloc _
  · exact e _ _ _ _ (by simp)
  · exact ((((Below.refl _ w).alloc (Nat.le_refl _) _).alloc (by simp) _).alloc (by simp <;> omega) _).alloc (by simp <;> omega) _
/-- Worlds that differ in one block at most. -/
structure But (b : Nat) (w w' : World) : Prop where
  size : w.heap.size ≤ w'.heap.size
  block : ∀ k, k ≠ b → k < w.heap.size → w'.heap[k]? = w.heap[k]?
theorem but_pre (b : Nat) : Pre (But b) := ⟨fun _ => ⟨Nat.le_refl _, fun _ _ _ => rfl⟩, fun h k => ⟨Nat.le_trans h.size k.size, fun i hi hlt => (k.block i hi (Nat.lt_of_lt_of_le hlt h.size)).trans (h.block i hi hlt)⟩⟩
theorem But.blk {b c : Nat} {w w' : World} {cs : Array Value} {t : TypeId} (h : But b w w') (k : Blk w c cs t) (hne : c ≠ b) : Blk w' c cs t := (h.block c hne k.lt).trans k
instance instBut (b : Nat) (W : World) : Nonempty (SubT (But b) W) := ⟨⟨W, (but_pre b).refl W⟩⟩
theorem But.set (w : World) (b j : Nat) (u : Value) : But b w (w.setCell ⟨b, j, none⟩ u) := ⟨by simp [World.setCell], fun k hk _ => Below.heap_setCell w ⟨b, j, none⟩ u k hk⟩
section
variable {W W' : World} {S : Nat} {pa : Array Value} {n d : Int} {Z A : Array Value}
theorem Cl.lt (h : Cl W S pa n d Z A) : S + 4 ≤ W.heap.size := by have := h.kc.lt; omega
theorem Cl.below (h : Cl W S pa n d Z A) (hb : Below W.heap.size W W') : Cl W' S pa n d Z A := ⟨h.kp.below hb, h.ks.below hb, h.kr.below hb, h.kc.below hb⟩
theorem Cl.alloc (h : Cl W S pa n d Z A) (o : Obj) : Cl (W.alloc o) S pa n d Z A := ⟨h.kp.alloc o, h.ks.alloc o, h.kr.alloc o, h.kc.alloc o⟩
theorem Cl.set (h : Cl W S pa n d Z A) (j : Nat) (u : Value) : Cl (W.setCell ⟨S + 1 + 1 + 1, j, none⟩ u) S pa n d Z (A.setIfInBounds j u) :=
  ⟨h.kp.other (by simp <;> omega) u, h.ks.other (by simp <;> omega) u, h.kr.other (by simp) u, h.kc.set j u⟩
theorem Cl.set2 {N i j : Nat} {M : Nat → Nat → Int} {z : Int} (h : Cl W S pa n d Z (clArr N M)) (hN : N ≤ 16) (hi : i < N) (hj : j < N) (hz : z ≠ NONE) :
    Cl ((W.setCell ⟨S + 1 + 1 + 1, i * 16 + j, none⟩ (.int .i64 z)).setCell ⟨S + 1 + 1 + 1, 256 + i * 16 + j, none⟩ (.bool true)) S pa n d Z (clArr N (upd M i j z)) := by
  have := (h.set (i * 16 + j) (.int .i64 z)).set (256 + i * 16 + j) (.bool true)
  rw [clArr_set hN hi hj hz] at this
  exact this
end

theorem Cl.of {W W' : World} {S : Nat} {pa : Array Value} {n d : Int} {Z A : Array Value} (h : Cl W S pa n d Z A) (hb : ∀ b cs t, Blk W b cs t → S ≤ b → b < S + 4 → Blk W' b cs t) : Cl W' S pa n d Z A :=
  ⟨hb _ _ _ h.kp (by omega) (by omega), hb _ _ _ h.ks (by omega) (by omega), hb _ _ _ h.kr (by omega) (by omega), hb _ _ _ h.kc (by omega) (by omega)⟩
/-- What lies in memory while the rules come. -/
def ClI (p : Pat) (W0 w : World) (S N : Nat) (pa : Array Value) (n d : Int) (Z : Array Value) (pre : List (Ent p)) (W : World) : Prop :=
  Cl W S pa n d Z (clArr N (relM n d (pre.map (·.1)))) ∧ Below S w W ∧ W0.heap.size ≤ W.heap.size
theorem ClI_own (p : Pat) (W0 w : World) (S N : Nat) (pa : Array Value) (n d : Int) (Z : Array Value) (hS : S ≤ W0.heap.size) : OwnFrom W0.heap.size (ClI p W0 w S N pa n d Z) := by
  rintro pre W W' row ⟨h1, h3, h4⟩ hg hr
  refine ⟨h1.of fun b cs t k _ _ => blk_own k hg (fun r e => (hr r e).2), ?_, Nat.le_trans h4 hg.size⟩
  refine h3.trans ⟨hg.os, hg.tape, hg.output, hg.size, fun k hk => hg.block k (by omega) (fun e => ?_)⟩
  have := (hr k e.symm).1
  omega

theorem setRow_other (w : World) (g : Nat) (cs : Array Value) {k : Nat} (h : k ≠ g) : (w.setRow g cs).heap[k]? = w.heap[k]? := by
  simp only [World.setRow]
  rw [Array.getElem?_modify, if_neg (fun e => h e.symm)]
theorem setRow_blk {w : World} {g : Nat} {cs cs' : Array Value} {t : TypeId} (h : Blk w g cs t) : Blk (w.setRow g cs') g cs' t := by
  show (w.setRow g cs').heap[g]? = _
  simp only [World.setRow]
  rw [Array.getElem?_modify, if_pos rfl, show w.heap[g]? = _ from h]
  rfl
theorem setRow_below {S : Nat} {w w' : World} (h : Below S w w') {g : Nat} (hg : S ≤ g) (cs : Array Value) : Below S w (w'.setRow g cs) :=
  ⟨h.os, h.tape, h.output, by rw [size_setRow]; exact h.size, fun k hk => (setRow_other w' g cs (by omega)).trans (h.block k hk)⟩
theorem cl_one (N : Nat) (M : Nat → Nat → Int) : (clArr N M).all (·.oneCell') = true := by
  rw [Array.all_eq_true_iff_forall_mem]
  intro v hv
  unfold clArr vArr at hv
  rw [List.mem_toArray, List.mem_map] at hv
  obtain ⟨i, _, rfl⟩ := hv
  unfold clV
  split <;> simp [Value.oneCell']
theorem cl_info (N : Nat) (M : Nat → Nat → Int) : (Try.prog.info? 122).map (·.size) = some (clArr N M).size := by
  rw [clArr_size]
  exact (zero_of_info infoCl).2
theorem onB_yes {N : Nat} {M : Nat → Nat → Int} {x y : Nat} (hx : x < N) (hy : y < N) (h : M x y ≠ NONE) : onB N M x y = true := by unfold onB; simp [hx, hy, h]
theorem onB_no {N : Nat} {M : Nat → Nat → Int} {x y : Nat} (h : M x y = NONE) : onB N M x y = false := by unfold onB; simp [h]
theorem onW_yes {N : Nat} {M : Nat → Nat → Int} {x y : Nat} (hx : x < N) (hy : y < N) (h : M x y ≠ NONE) : onW N M x y = M x y := by unfold onW; rw [onB_yes hx hy h]; rfl

set_option maxHeartbeats 4000000 in
set_option maxRecDepth 100000 in
theorem closed_any (p : Pat) (n d : Int) (v : Value) (w : World) (h : PatF 0 w v p) (hp : PValid p) (hs : FSize n d) (hn : NoPos p n d) :
    Calls Try.prog 89 #[v, .agg #[.int .i64 n, .int .i64 d]] w fun e w' => e = .returned (.agg (clArr p.n.toNat (chainM p n d))) ∧ Below w.heap.size w w' := by
  have h00 := h
  obtain ⟨ao, cap, rfl, hcap, hmax, hc⟩ := h.shape
  unfold maxLen at hmax
  clear h
  obtain ⟨N, hN⟩ : ∃ N : Nat, p.n = N := ⟨p.n.toNat, by have := hp.1; omega⟩
  have HP := hid hp
  obtain ⟨hp1, hp2, hp3, -⟩ := hp
  rw [hN] at hp1 hp2
  obtain ⟨L, hL⟩ : ∃ L, p.rules.length = L := ⟨_, rfl⟩
  have HL := hid hL
  have HN := hid hN
  have HS := hid hs
  have HNP := hid hn
  rw [hL] at hcap hp3 h00 ⊢
  rw [hN] at h00 ⊢
  clear hL hN hs hn
  obtain ⟨Z, hZ⟩ : ∃ Z, clArr 0 (fun _ _ => NONE) = Z := ⟨_, rfl⟩
  have hz := (zero_of_info infoCl).1
  rw [hZ] at hz
  refine (callsIn_wide (n := 6)).1 (callsIn_of_wp_marks Try.func89 rfl trivial (wpIn_wide.2 ?_) rfl)
  simp only [Try.ntmps89, List.size_toArray, List.length_cons, List.length_nil, Nat.reduceAdd, Nat.reduceSub, Array.replicate_succ, Array.replicate_zero, List.push_toArray, List.append_toArray, List.nil_append, List.cons_append]
  go_wp2_with fail
  obtain ⟨w0, hw0, hcl, hbel0⟩ := cl_start w #[.int .i64 (N : Int), .slice ao L cap] n d Z
  rw [hw0]
  clear hw0
  obtain ⟨S, hS⟩ : ∃ S, w.heap.size = S := ⟨_, rfl⟩
  rw [hS] at hcl hbel0 ⊢
  have HSS := hid hS
  have hZ0 : Z = clArr N (diagM 0) := by rw [diag_zero]; exact hZ.symm
  have HZ := hid hZ
  have hcl0 : Cl w0 S #[.int .i64 (N : Int), .slice ao L cap] n d Z (clArr N (diagM 0)) := ⟨hcl.kp, hcl.ks, hcl.kr, by rw [← hZ0]; exact hcl.kc⟩
  clear hZ0 hZ
  have cp0 := hcl.kp.look 0 rfl
  go_wp2_with fail
  clear cp0
  go_loopw [16] (fun x wr => ∃ i : Nat, x = .int .i64 i ∧ i ≤ N ∧ Cl wr S #[.int .i64 (N : Int), .slice ao L cap] n d Z (clArr N (diagM i)) ∧ Below S w wr) (fun x _ => N - (intOf x).toNat)
  case atStart => exact ⟨0, rfl, Nat.zero_le _, hcl0, hbel0⟩
  case round =>
    obtain ⟨i, rfl, hi, hcl1, hbel1⟩ := hrel
    by_cases hiN : i < N
    · have hi16 : i < 16 := by omega
      have hi162 : (i : Int) < 16 := by omega
      have hiN2 : (i : Int) < (N : Int) := by omega
      have c0 := hcl1.kc.look (256 + i * 16 + i) (clArr_b hi16 hi16)
      have f0 := hcl1.kc.frozen
      go_wp2_with fail
      have hset := hcl1.set (256 + i * 16 + i) (.bool true)
      rw [diag_set (by omega) hiN] at hset
      refine ⟨⟨i + 1, by go_num, by omega, hset, hbel1.setCell (p := ⟨S + 1 + 1 + 1, 256 + i * 16 + i, none⟩) (by show S ≤ S + 1 + 1 + 1; omega) _⟩, by simp [intOf]; omega⟩
    · obtain rfl : i = N := by omega
      have cp0 := hcl1.kp.look 0 rfl
      have cp1 := hcl1.kp.look 1 rfl
      go_wp2_with fail
      refine ((callsIn_wide (n := 0)).1 (all_in Fence.wide 0 trivial rfl _ _ _)).mono ?_
      rintro e w1 ⟨rfl, rfl⟩
      clear cp0 cp1 hcl hcl0 hbel0
      go_wp2_with fail
      obtain ⟨B, hB⟩ : ∃ B, wr.heap.size = B := ⟨_, rfl⟩
      have hBlt := hcl1.lt
      have kB := Blk.new wr #[.int .i64 (i : Int), .slice ao L cap] 33
      have hcl3 := hcl1.alloc (.cells #[.int .i64 (i : Int), .slice ao L cap] 33)
      have hbel3 := hbel1.alloc (by omega) (.cells #[.int .i64 (i : Int), .slice ao L cap] 33)
      have hszW : (wr.alloc (.cells #[.int .i64 (i : Int), .slice ao L cap] 33)).heap.size = wr.heap.size + 1 := World.size_alloc _ _
      obtain ⟨W0, hW0⟩ : ∃ W0, wr.alloc (.cells #[.int .i64 (i : Int), .slice ao L cap] 33) = W0 := ⟨_, rfl⟩
      rw [hW0, hB] at kB hszW
      rw [hW0, hB]
      rw [hB] at hBlt
      rw [hW0] at hcl3 hbel3
      clear hW0 hcl1 hbel1 hB
      have hinit : ClI p W0 w S i #[.int .i64 (i : Int), .slice ao L cap] n d Z [] W0 := ⟨by rw [show relM n d (([] : List (Ent p)).map (·.1)) = m0 from rfl, ← diag_done]; exact hcl3, hbel3, Nat.le_refl _⟩
      clear hcl3
      refine wpIn_wide.1 (wpIn_rangeFunc_ownH (F := Fence.wide) (n := 6) (α := Ent p) rfl (by omega) (gf := 114) (lb := #[.pointer (some ⟨B, 0, none⟩)]) rfl trivial (enters_of Try.func114 (by kernel_rfl) rfl)
        (all_stops Fence.wide 5 trivial rfl (by omega) B S p i HN.out (by omega) (by omega) (by rw [HL.out]; exact hp3) ao cap (by rw [HL.out]; exact hcap) W0 (by omega) (by rw [HL.out]; exact kB) (fun W' hb => hc.below (by rw [HSS.out]; exact hbel3.trans hb)))
        (fun h k => KpB.trans h k) (fun W l o o' hl _ _ _ => KpB.put (by omega) (by omega) o') (Below.refl _ _) (fun _ => rfl)
        (ClI p W0 w S i #[.int .i64 (i : Int), .slice ao L cap] n d Z) (fun _ _ _ => False) (ClI_own p W0 w S i _ n d Z (by omega)) (fun _ _ _ _ _ hf _ _ => hf) hinit
        (fun x a' W => ∃ Bx, W0.heap.size ≤ Bx ∧ Blk W Bx #[.int .i64 x.1.2.a, .int .i64 x.1.2.b, .int .i64 x.1.2.c, .int .i64 x.1.2.d] 92 ∧ a' = { tmps := #[.agg #[.int .i64 (i : Int), .slice ao L cap], .agg #[.int .i64 n, .int .i64 d], .pointer (some ⟨S, 0, none⟩), .pointer (some ⟨S + 1, 0, none⟩), .pointer (some ⟨S + 1 + 1, 0, none⟩), .pointer (some ⟨S + 1 + 1 + 1, 0, none⟩), u6, undef, .pointer (some ⟨Bx, 0, none⟩), undef, undef, undef, undef, undef, .pointer (some ⟨S, 0, none⟩), .int .i64 (i : Int), .int .i64 (i : Int), .bool false, u18, u19, u20, u21, u22, u23, u24, .agg #[.int .i64 (i : Int), .slice ao L cap], .func (.func 114) #[] #[.pointer (some ⟨B, 0, none⟩)], .int .i64 x.1.1, ruV x.1.2, undef, undef, undef, undef, undef, undef, undef, undef, undef, undef, undef, undef, undef, undef, undef, undef, undef, undef, undef, undef, undef, undef, undef, undef, undef, undef, undef, undef, undef, undef, undef, undef, undef, undef, undef, undef, undef, undef, undef, undef, undef, undef, undef, undef, undef, undef, undef, undef, undef, undef, undef, undef, undef, undef, undef, undef, undef, undef, undef, undef, undef, undef, undef, undef, undef, undef, undef, undef, undef, undef, undef, undef, undef, undef, undef, undef, undef, undef, undef, undef, undef, undef, undef, undef, undef, undef, undef, undef, undef, undef, undef, undef, undef, undef, undef, undef, undef, undef, undef, undef, undef, undef, undef, undef, undef, undef, undef, undef, undef, undef, undef, undef, undef, undef, undef], defers := [] })
        (fun x a' _ X Y row hs hg hr => by obtain ⟨Bx, b1, b2, b3⟩ := hs; exact ⟨Bx, b1, blk_own b2 hg (fun r e => (hr r e).2), b3⟩) ?assign ?body ?done ?stop)
      case assign =>
        rintro l pre x W K ⟨i1, i3, i4⟩ hK
        obtain ⟨⟨xk, r⟩, hx⟩ := x
        dsimp only at hK ⊢
        gi_wp2
        refine hK _ _ ((KeepsOthers.alloc _ _).from _) ((KpB.refl S B W).alloc (by omega) (by omega) _) ⟨i1.alloc _, i3.alloc (by omega) _, by rw [World.size_alloc]; omega⟩ ⟨W.heap.size, i4, Blk.new W _ _, rfl⟩
      case body =>
        rintro l pre x a' W hl - ⟨i1, i3, i4⟩ ⟨Bx, hBx, kx, rfl⟩ hlen
        have hrv := allL_RV HP.out x.2
        have WT : Hid (∀ w, Calls Try.prog 80 #[ruV x.1.2, .agg #[.int .i64 n, .int .i64 d]] w fun e w' => e = .returned (.int .i64 (wt x.1.2 n d)) ∧ Below w.heap.size w w') := hid (fun w => at_any p.n x.1.2 n d w hrv HS.out)
        have hstep : relM n d ((pre ++ [x]).map (·.1)) = addR n d (relM n d (pre.map (·.1))) x.1.2 := by rw [List.map_append]; exact relM_snoc n d (pre.map (·.1)) x.1
        have hwt := wt_le hrv HS.out
        have hadd := addR_cases n d (relM n d (pre.map (·.1))) x.1.2 (by unfold NONE; omega)
        obtain ⟨M, hM⟩ : ∃ M, relM n d (pre.map (·.1)) = M := ⟨_, rfl⟩
        rw [hM] at i1 hstep hadd
        have HSTEP := hid hstep
        clear hM hstep
        obtain ⟨A, hA⟩ : ∃ A : Nat, x.1.2.a = A := ⟨x.1.2.a.toNat, by have := hrv.1; omega⟩
        obtain ⟨C, hC⟩ : ∃ A : Nat, x.1.2.b = A := ⟨x.1.2.b.toNat, by have := hrv.2.2.1; omega⟩
        have hAN : A < i := by have := hrv.2.1; have := HN.out; omega
        have hCN : C < i := by have := hrv.2.2.2.1; have := HN.out; omega
        rw [hA, hC, Int.toNat_natCast, Int.toNat_natCast] at hadd
        rw [hA, hC] at kx
        obtain ⟨xk, hxk⟩ : ∃ z, x.1.1 = z := ⟨_, rfl⟩
        obtain ⟨rc, hrc⟩ : ∃ z, x.1.2.c = z := ⟨_, rfl⟩
        obtain ⟨rd, hrd⟩ : ∃ z, x.1.2.d = z := ⟨_, rfl⟩
        obtain ⟨y, hy⟩ : ∃ z, wt x.1.2 n d = z := ⟨_, rfl⟩
        simp only [ruV] at WT ⊢
        rw [hA, hC, hrc, hrd, hy] at WT
        rw [hrc, hrd] at kx
        rw [hy] at hadd hwt
        rw [hA, hC, hxk, hrc, hrd]
        have HADD := hid hadd
        clear hrv hA hC hxk hrc hrd hy hadd
        have d0 := kx.look 0 rfl
        have d1 := kx.look 1 rfl
        have d2 := kx.look 2 rfl
        have d3 := kx.look 3 rfl
        have d4 := i1.ks.look 0 rfl
        have d5 := i1.ks.look 1 rfl
        gi_wp2_with fail
        refine ⟨trivial, (CallsIn.inRound _ (callsIn_wide.2 (WT.out _))).mono ?_⟩
        rintro e W2 ⟨rfl, hb2⟩
        clear d0 d1 d2 d3 d4 d5
        have kx2 := kx.below hb2
        have i12 := i1.below hb2
        have hs2 := hb2.size
        have hltW := i1.lt
        have hA16 : A < 16 := by omega
        have hC16 : C < 16 := by omega
        have hA162 : (A : Int) < 16 := by omega
        have hC162 : (C : Int) < 16 := by omega
        have z0 := fun x : Sub W2.drew => (kx2.drew.below x.b).look 0 rfl
        have z1 := fun x : Sub W2.drew => (kx2.drew.below x.b).look 1 rfl
        have zb := fun x : Sub W2.drew => (i12.kc.drew.below x.b).look (256 + A * 16 + C) (clArr_b hA16 hC16)
        have zw := fun x : Sub W2.drew => (i12.kc.drew.below x.b).look (A * 16 + C) (clArr_w hA16 hC16)
        by_cases hM1 : M A C = NONE
        · have hcond : M A C = NONE ∨ M A C < y := .inl hM1
          have o1 : onB i M A C = false := by unfold onB; simp [hM1]
          rw [o1] at zb
          gi_wp2_with fail
          refine wpIn_seq [(0, false), (1, false), (2, false), (3, false), (4, false), (5, false), (6, false), (7, false), (8, false), (9, false), (10, false), (11, false), (12, false), (13, false), (14, false), (15, false), (16, false), (17, false), (18, false), (19, false), (20, false)] [(_, false), (_, false), (_, false), (_, false), (_, false), (_, false), (_, false), (_, false), (_, false), (_, false), (_, false), (_, false), (_, false), (_, false), (_, false), (_, false), (_, false), (_, false), (_, false), (_, false), (_, false)] (by kernel_rfl) (by kernel_rfl) ?lo1 rfl rfl (by kernel_rfl) ?_
          case lo1 => rintro ⟨a9, w9, h9⟩; exact h9
          iterate 21 (refine seqS_read (fun K hK => ?_); go_simp; refine hK _ ?_; clear hK K)
          clear z0 z1 zb zw
          refine seqS_nil ?_
          gi_wp2_with fail
          have hb3 := hb2.drew.drew
          obtain ⟨W3, hW3⟩ : ∃ W3, W2.drew.drew = W3 := ⟨_, rfl⟩
          have kx3 := kx2.drew.drew
          have i13 := i12.below (Below.refl _ W2).drew.drew
          have hb4 : Below W.heap.size W W3 := by rw [← hW3]; exact hb3
          rw [hW3] at kx3 i13
          have t0 := fun x : SubT (But (S + 1 + 1 + 1)) W3 => (x.b.blk kx3 (by omega)).look 0 rfl
          have t1 := fun x : SubT (But (S + 1 + 1 + 1)) W3 => (x.b.blk kx3 (by omega)).look 1 rfl
          have f3 := i13.kc.frozen
          have e0 := i13.kc.look (A * 16 + C) (clArr_w hA16 hC16)
          have kc4 := i13.kc.set (A * 16 + C) (.int .i64 y)
          have e1 : (W3.setCell ⟨S + 1 + 1 + 1, A * 16 + C, none⟩ (.int .i64 y)).cell? ⟨S + 1 + 1 + 1, 256 + A * 16 + C, none⟩ = some (.bool (onB i M A C)) := by
            rw [kc4.cell, Array.getElem?_setIfInBounds_ne (by omega)]
            exact clArr_b hA16 hC16
          have f4 := kc4.frozen
          refine wpIn_seqT (T := But (S + 1 + 1 + 1)) (but_pre _) [(0, false), (1, false), (2, false), (3, false), (4, false), (5, false), (6, false), (7, false), (8, false), (9, false), (10, false), (11, false), (13, false), (14, false), (12, true), (15, false), (16, true)] [(_, false), (_, false), (_, false), (_, false), (_, false), (_, false), (_, false), (_, false), (_, false), (_, false), (_, false), (_, false), (_, false), (_, false), (_, true), (_, false), (_, true)] (by kernel_rfl) (by kernel_rfl) ?lo2 rfl rfl (by kernel_rfl) ?_
          case lo2 => rintro ⟨a9, w9, h9⟩; exact h9
          rw [hW3]
          iterate 14 (refine seqS_readT (fun K hK => ?_); go_simp; refine hK _ ?_; clear hK K)
          (refine seqS_callT (fun K hK => ?_); go_simp; refine hK _ _ (But.set _ _ _ _) ?_; clear hK K)
          iterate 1 (refine seqS_readT (fun K hK => ?_); go_simp; refine hK _ ?_; clear hK K)
          (refine seqS_callT (fun K hK => ?_); go_simp; refine hK _ _ (But.set _ _ _ _) ?_; clear hK K)
          refine seqS_nilT ?_
          have hfin := i13.set2 (z := y) (by omega) hAN hCN (by unfold NONE; omega)
          have hbf := (hb4.mono (show S ≤ W.heap.size by omega)).setCell (p := ⟨S + 1 + 1 + 1, A * 16 + C, none⟩) (by show S ≤ S + 1 + 1 + 1; omega) (.int .i64 y)
          have hbf2 := hbf.setCell (p := ⟨S + 1 + 1 + 1, 256 + A * 16 + C, none⟩) (by show S ≤ S + 1 + 1 + 1; omega) (.bool true)
          have hk1 := ((keeps_of_below hb4).trans (KeepsOthers.setCell W3 ⟨S + 1 + 1 + 1, A * 16 + C, none⟩ (.int .i64 y))).trans (KeepsOthers.setCell _ ⟨S + 1 + 1 + 1, 256 + A * 16 + C, none⟩ (.bool true))
          have hB1 := ((Below.heap_setCell _ ⟨S + 1 + 1 + 1, 256 + A * 16 + C, none⟩ (.bool true) B (by show B ≠ S + 1 + 1 + 1; omega)).trans (Below.heap_setCell W3 ⟨S + 1 + 1 + 1, A * 16 + C, none⟩ (.int .i64 y) B (by show B ≠ S + 1 + 1 + 1; omega))).trans (hb4.block B (by omega))
          have hsz9 := hbf2.size
          have i39 := i3.trans hbf2
          clear t0 t1 f3 e0 e1 f4 kc4
          gi_wp2_with fail
          refine ⟨hk1.from _, ⟨hbf2, hB1⟩, (⟨?_, i39, by omega⟩ : ClI p W0 w S i _ n d Z (pre ++ [x]) _)⟩
          rw [HSTEP.out, HADD.out.1 hcond]
          exact hfin
        · have o1 : onB i M A C = true := by unfold onB; simp [hM1, hAN, hCN]
          have o2 : onW i M A C = M A C := by unfold onW; rw [o1]; rfl
          rw [o1] at zb
          rw [o2] at zw
          obtain ⟨m, hm⟩ : ∃ m, M A C = m := ⟨_, rfl⟩
          rw [hm] at zw
          have HM := hid hm
          by_cases hlt : m < y
          · have hcond : M A C = NONE ∨ M A C < y := .inr (by rw [hm]; exact hlt)
            clear hm
            gi_wp2_with fail
            refine wpIn_seq [(0, false), (1, false), (2, false), (3, false), (4, false), (5, false), (6, false), (7, false), (8, false), (9, false), (10, false), (11, false), (12, false), (13, false), (14, false), (15, false), (16, false), (17, false), (18, false), (19, false), (20, false)] [(_, false), (_, false), (_, false), (_, false), (_, false), (_, false), (_, false), (_, false), (_, false), (_, false), (_, false), (_, false), (_, false), (_, false), (_, false), (_, false), (_, false), (_, false), (_, false), (_, false), (_, false)] (by kernel_rfl) (by kernel_rfl) ?lo3 rfl rfl (by kernel_rfl) ?_
            case lo3 => rintro ⟨a9, w9, h9⟩; exact h9
            iterate 21 (refine seqS_read (fun K hK => ?_); go_simp; refine hK _ ?_; clear hK K)
            clear z0 z1 zb zw
            refine seqS_nil ?_
            gi_wp2_with fail
            have hb3 := hb2.drew.drew
            obtain ⟨W3, hW3⟩ : ∃ W3, W2.drew.drew = W3 := ⟨_, rfl⟩
            have kx3 := kx2.drew.drew
            have i13 := i12.below (Below.refl _ W2).drew.drew
            have hb4 : Below W.heap.size W W3 := by rw [← hW3]; exact hb3
            rw [hW3] at kx3 i13
            have t0 := fun x : SubT (But (S + 1 + 1 + 1)) W3 => (x.b.blk kx3 (by omega)).look 0 rfl
            have t1 := fun x : SubT (But (S + 1 + 1 + 1)) W3 => (x.b.blk kx3 (by omega)).look 1 rfl
            have f3 := i13.kc.frozen
            have e0 := i13.kc.look (A * 16 + C) (clArr_w hA16 hC16)
            have kc4 := i13.kc.set (A * 16 + C) (.int .i64 y)
            have e1 : (W3.setCell ⟨S + 1 + 1 + 1, A * 16 + C, none⟩ (.int .i64 y)).cell? ⟨S + 1 + 1 + 1, 256 + A * 16 + C, none⟩ = some (.bool (onB i M A C)) := by
              rw [kc4.cell, Array.getElem?_setIfInBounds_ne (by omega)]
              exact clArr_b hA16 hC16
            have f4 := kc4.frozen
            refine wpIn_seqT (T := But (S + 1 + 1 + 1)) (but_pre _) [(0, false), (1, false), (2, false), (3, false), (4, false), (5, false), (6, false), (7, false), (8, false), (9, false), (10, false), (11, false), (13, false), (14, false), (12, true), (15, false), (16, true)] [(_, false), (_, false), (_, false), (_, false), (_, false), (_, false), (_, false), (_, false), (_, false), (_, false), (_, false), (_, false), (_, false), (_, false), (_, true), (_, false), (_, true)] (by kernel_rfl) (by kernel_rfl) ?lo4 rfl rfl (by kernel_rfl) ?_
            case lo4 => rintro ⟨a9, w9, h9⟩; exact h9
            rw [hW3]
            iterate 14 (refine seqS_readT (fun K hK => ?_); go_simp; refine hK _ ?_; clear hK K)
            (refine seqS_callT (fun K hK => ?_); go_simp; refine hK _ _ (But.set _ _ _ _) ?_; clear hK K)
            iterate 1 (refine seqS_readT (fun K hK => ?_); go_simp; refine hK _ ?_; clear hK K)
            (refine seqS_callT (fun K hK => ?_); go_simp; refine hK _ _ (But.set _ _ _ _) ?_; clear hK K)
            refine seqS_nilT ?_
            have hfin := i13.set2 (z := y) (by omega) hAN hCN (by unfold NONE; omega)
            have hbf := (hb4.mono (show S ≤ W.heap.size by omega)).setCell (p := ⟨S + 1 + 1 + 1, A * 16 + C, none⟩) (by show S ≤ S + 1 + 1 + 1; omega) (.int .i64 y)
            have hbf2 := hbf.setCell (p := ⟨S + 1 + 1 + 1, 256 + A * 16 + C, none⟩) (by show S ≤ S + 1 + 1 + 1; omega) (.bool true)
            have hk1 := ((keeps_of_below hb4).trans (KeepsOthers.setCell W3 ⟨S + 1 + 1 + 1, A * 16 + C, none⟩ (.int .i64 y))).trans (KeepsOthers.setCell _ ⟨S + 1 + 1 + 1, 256 + A * 16 + C, none⟩ (.bool true))
            have hB1 := ((Below.heap_setCell _ ⟨S + 1 + 1 + 1, 256 + A * 16 + C, none⟩ (.bool true) B (by show B ≠ S + 1 + 1 + 1; omega)).trans (Below.heap_setCell W3 ⟨S + 1 + 1 + 1, A * 16 + C, none⟩ (.int .i64 y) B (by show B ≠ S + 1 + 1 + 1; omega))).trans (hb4.block B (by omega))
            have hsz9 := hbf2.size
            have i39 := i3.trans hbf2
            clear t0 t1 f3 e0 e1 f4 kc4
            gi_wp2_with fail
            refine ⟨hk1.from _, ⟨hbf2, hB1⟩, (⟨?_, i39, by omega⟩ : ClI p W0 w S i _ n d Z (pre ++ [x]) _)⟩
            rw [HSTEP.out, HADD.out.1 hcond]
            exact hfin
          · have hcond : ¬ (M A C = NONE ∨ M A C < y) := by rw [hm]; rw [hm] at hM1; omega
            clear hm
            gi_wp2_with fail
            refine wpIn_seq [(0, false), (1, false), (2, false), (3, false), (4, false), (5, false), (6, false), (7, false), (8, false), (9, false), (10, false), (11, false), (12, false), (13, false), (14, false), (15, false), (16, false), (17, false), (18, false), (19, false), (20, false)] [(_, false), (_, false), (_, false), (_, false), (_, false), (_, false), (_, false), (_, false), (_, false), (_, false), (_, false), (_, false), (_, false), (_, false), (_, false), (_, false), (_, false), (_, false), (_, false), (_, false), (_, false)] (by kernel_rfl) (by kernel_rfl) ?lo5 rfl rfl (by kernel_rfl) ?_
            case lo5 => rintro ⟨a9, w9, h9⟩; exact h9
            iterate 21 (refine seqS_read (fun K hK => ?_); go_simp; refine hK _ ?_; clear hK K)
            clear z0 z1 zb zw
            refine seqS_nil ?_
            gi_wp2_with fail
            have hb3 := hb2.drew
            have i13 := i12.below (Below.refl _ W2).drew
            have i39 := i3.trans (hb3.mono (show S ≤ W.heap.size by omega))
            refine ⟨(keeps_of_below hb3).from _, ⟨hb3.mono (show S ≤ W.heap.size by omega), hb3.block B (by omega)⟩, (⟨?_, i39, Nat.le_trans i4 hb3.size⟩ : ClI p W0 w S i _ n d Z (pre ++ [x]) _)⟩
            rw [HSTEP.out, HADD.out.2 hcond]
            exact i13
      case done =>
        rintro D xs W hD hS ⟨i1, i3, i4⟩ hKD
        have hrel : relM n d (xs.map (·.1)) = stg p n d 0 := by rw [hS, relM_all]; rfl
        rw [hrel] at i1
        have hmk : Mks [D] W := ⟨List.nodup_cons.2 ⟨(fun h => by cases h), List.nodup_nil⟩, fun D' hD' => by rw [List.mem_singleton.1 hD']; exact hKD⟩
        have hDS : ∀ D' ∈ [D], S ≤ D' := fun D' hD' => by rw [List.mem_singleton.1 hD']; omega
        clear hrel hS hKD kB hbel3
        have cp0 := i1.kp.look 0 rfl
        dsimp only
        go_wp2_with fail
        clear cp0
        go_loopw [70] (fun x wr => ∃ k : Nat, x = .int .i64 k ∧ k ≤ i ∧ Cl wr S #[.int .i64 (i : Int), .slice ao L cap] n d Z (clArr i (stg p n d k)) ∧ Mks [D] wr ∧ Below S w wr) (fun x _ => i - (intOf x).toNat)
        case atStart => exact ⟨0, rfl, Nat.zero_le _, i1, hmk, i3⟩
        case round =>
          obtain ⟨k, rfl, hk, hcl2, hmk2, hbel2⟩ := hrel
          clear i1 hmk i3
          by_cases hkN : k < i
          · have hpn : p.n.toNat = i := by rw [HN.out, Int.toNat_natCast]
            have hsg := stage_of HP.out HS.out HNP.out (k := k) (by omega)
            rw [hpn] at hsg
            obtain ⟨M, hM⟩ : ∃ M, stg p n d k = M := ⟨_, rfl⟩
            rw [hM] at hsg hcl2
            have HSG := hid hsg.1
            have HNX := hid hsg.2
            have hk16 : k < 16 := by omega
            have hk162 : (k : Int) < 16 := by omega
            have hkN2 : (k : Int) < (i : Int) := by omega
            have hc0 : Cl wr S #[.int .i64 (i : Int), .slice ao L cap] n d Z (clArr i (inS i M k 0 0)) := by rw [clArr_congr (M' := M) (fun x y _ _ => inS_zero x y)]; exact hcl2
            clear hsg hM hcl2
            have cp0 := hc0.kp.look 0 rfl
            go_wp2_with fail
            clear cp0
            generalize wr = w2 at *
            go_loopw [75] (fun x wr => ∃ a : Nat, x = .int .i64 a ∧ a ≤ i ∧ Cl wr S #[.int .i64 (i : Int), .slice ao L cap] n d Z (clArr i (inS i M k a 0)) ∧ Mks [D] wr ∧ Below S w wr) (fun x _ => i - (intOf x).toNat)
            case atStart => exact ⟨0, rfl, Nat.zero_le _, hc0, hmk2, hbel2⟩
            case round =>
              obtain ⟨a, rfl, ha, hcl3, hmk3, hbel3⟩ := hrel
              clear hc0 hmk2 hbel2
              by_cases haN : a < i
              · have ha16 : a < 16 := by omega
                have ha162 : (a : Int) < 16 := by omega
                have haN2 : (a : Int) < (i : Int) := by omega
                have cp0 := hcl3.kp.look 0 rfl
                go_wp2_with fail
                clear cp0
                generalize wr = w3 at *
                go_loopw [80] (fun x wr => ∃ b : Nat, x = .int .i64 b ∧ b ≤ i ∧ Cl wr S #[.int .i64 (i : Int), .slice ao L cap] n d Z (clArr i (inS i M k a b)) ∧ Mks [D] wr ∧ Below S w wr) (fun x _ => i - (intOf x).toNat)
                case atStart => exact ⟨0, rfl, Nat.zero_le _, hcl3, hmk3, hbel3⟩
                case round =>
                  obtain ⟨b, rfl, hb, hcl4, hmk4, hbel4⟩ := hrel
                  clear hcl3 hmk3 hbel3
                  by_cases hbN : b < i
                  · have hb16 : b < 16 := by omega
                    have hb162 : (b : Int) < 16 := by omega
                    have hbN2 : (b : Int) < (i : Int) := by omega
                    have cik := hcl4.kc.look (256 + a * 16 + k) (clArr_b ha16 hk16)
                    have ckb := hcl4.kc.look (256 + k * 16 + b) (clArr_b hk16 hb16)
                    have e1 : inS i M k a b a k = M a k := inS_ik HSG.out
                    have e2 : inS i M k a b k b = M k b := inS_kj HSG.out
                    have e3 : inS i M k a b a b = M a b := inS_ij
                    by_cases h1 : M a k = NONE
                    · rw [onB_no (N := i) (e1.trans h1)] at cik
                      go_wp2_with fail
                      rw [← inS_skip (.inl h1)] at hcl4
                      refine ⟨⟨b + 1, by go_num, by omega, hcl4, hmk4, hbel4⟩, by simp [intOf]; omega⟩
                    · rw [onB_yes haN hkN (by rw [e1]; exact h1)] at cik
                      by_cases h2 : M k b = NONE
                      · rw [onB_no (N := i) (e2.trans h2)] at ckb
                        go_wp2_with fail
                        rw [← inS_skip (.inr h2)] at hcl4
                        refine ⟨⟨b + 1, by go_num, by omega, hcl4, hmk4, hbel4⟩, by simp [intOf]; omega⟩
                      · rw [onB_yes hkN hbN (by rw [e2]; exact h2)] at ckb
                        have hsum := sum_bd HSG.out haN hkN hbN h1 h2
                        obtain ⟨t, ht⟩ : ∃ t, M a k + M k b = t := ⟨_, rfl⟩
                        rw [ht] at hsum
                        have htn : t ≠ NONE := by unfold NONE; omega
                        have hwr : IntKind.i64.wrap (M a k + M k b) = t := by rw [ht, IntWalk.i64_left]; unfold wrap64; omega
                        have hyes : (M a b = NONE ∨ M a b < t) → clArr i (inS i M k a (b + 1)) = clArr i (upd (inS i M k a b) a b t) := fun hh => by rw [← ht]; exact inS_set h1 h2 HSG.out haN hkN hbN (by rw [ht]; exact hh)
                        have hno : ¬ (M a b = NONE ∨ M a b < t) → clArr i (inS i M k a (b + 1)) = clArr i (inS i M k a b) := fun hh => inS_keep h1 h2 (by rw [ht]; exact hh)
                        have wik := fun x : Sub wr.drew => ((hcl4.kc.drew.below x.b).look (a * 16 + k) (clArr_w ha16 hk16)).trans (congrArg (fun z => some (Value.int .i64 z)) ((onW_yes haN hkN (by rw [e1]; exact h1)).trans e1))
                        have wkb := fun x : Sub wr.drew => ((hcl4.kc.drew.below x.b).look (k * 16 + b) (clArr_w hk16 hb16)).trans (congrArg (fun z => some (Value.int .i64 z)) ((onW_yes hkN hbN (by rw [e2]; exact h2)).trans e2))
                        obtain ⟨u, hu⟩ : ∃ u, M a k = u := ⟨_, rfl⟩
                        obtain ⟨v, hv⟩ : ∃ v, M k b = v := ⟨_, rfl⟩
                        rw [hu] at wik hwr
                        rw [hv] at wkb hwr
                        have HY := hid hyes
                        have HNO := hid hno
                        clear hyes hno hu hv ht h1 h2 e1 e2
                        go_wp2_with fail
                        refine wp_seq [(0, false), (1, false), (2, false), (3, false), (4, false), (5, false), (6, false), (7, false), (8, false), (9, false), (10, false), (11, false), (12, false), (13, false)] [(_, false), (_, false), (_, false), (_, false), (_, false), (_, false), (_, false), (_, false), (_, false), (_, false), (_, false), (_, false), (_, false), (_, false)] (by kernel_rfl) rfl rfl (by kernel_rfl) ?_
                        iterate 14 (refine seqS_read (fun K hK => ?_); go_simp; refine hK _ ?_; clear hK K)
                        refine seqS_nil ?_
                        clear wik wkb cik ckb hwr
                        have cab := hcl4.kc.drew.look (256 + a * 16 + b) (clArr_b ha16 hb16)
                        have wab := hcl4.kc.drew.look (a * 16 + b) (clArr_w ha16 hb16)
                        obtain ⟨m, hm⟩ : ∃ m, M a b = m := ⟨_, rfl⟩
                        by_cases h3 : M a b = NONE
                        · rw [onB_no (N := i) (e3.trans h3)] at cab
                          have hset := HY.out (.inl h3)
                          clear h3 e3 hm wab
                          go_wp2_with fail
                          clear cab
                          have hcl5 := hcl4.below ((Below.refl _ wr).drew.drew)
                          have hbel5 := hbel4.drew.drew
                          have hmk5 := hmk4.below ((Below.refl _ wr).drew.drew)
                          obtain ⟨w5, hw5⟩ : ∃ w5, wr.drew.drew = w5 := ⟨_, rfl⟩
                          rw [hw5] at hcl5 hbel5 hmk5
                          have f3 := hcl5.kc.frozen
                          have e0 := hcl5.kc.look (a * 16 + b) (clArr_w ha16 hb16)
                          have kc4 := hcl5.kc.set (a * 16 + b) (.int .i64 t)
                          have e9 : (w5.setCell ⟨S + 1 + 1 + 1, a * 16 + b, none⟩ (.int .i64 t)).cell? ⟨S + 1 + 1 + 1, 256 + a * 16 + b, none⟩ = some (.bool (onB i (inS i M k a b) a b)) := by
                            rw [kc4.cell, Array.getElem?_setIfInBounds_ne (by omega)]
                            exact clArr_b ha16 hb16
                          have f4 := kc4.frozen
                          refine wp_seqT (T := But (S + 1 + 1 + 1)) (but_pre _) [(0, false), (1, false), (2, false), (3, false), (4, false), (5, false), (6, false), (7, false), (9, false), (10, false), (8, true), (11, false), (12, true)] [(_, false), (_, false), (_, false), (_, false), (_, false), (_, false), (_, false), (_, false), (_, false), (_, false), (_, true), (_, false), (_, true)] (by kernel_rfl) rfl rfl (by kernel_rfl) ?_
                          rw [hw5]
                          iterate 10 (refine seqS_readT (fun K hK => ?_); go_simp; refine hK _ ?_; clear hK K)
                          (refine seqS_callT (fun K hK => ?_); go_simp; refine hK _ _ (But.set _ _ _ _) ?_; clear hK K)
                          iterate 1 (refine seqS_readT (fun K hK => ?_); go_simp; refine hK _ ?_; clear hK K)
                          (refine seqS_callT (fun K hK => ?_); go_simp; refine hK _ _ (But.set _ _ _ _) ?_; clear hK K)
                          refine seqS_nilT ?_
                          have hfin := hcl5.set2 (z := t) (by omega) haN hbN htn
                          rw [← hset] at hfin
                          have hbf2 := (hbel5.setCell (p := ⟨S + 1 + 1 + 1, a * 16 + b, none⟩) (by show S ≤ S + 1 + 1 + 1; omega) (.int .i64 t)).setCell (p := ⟨S + 1 + 1 + 1, 256 + a * 16 + b, none⟩) (by show S ≤ S + 1 + 1 + 1; omega) (.bool true)
                          have hmf := (hmk5.set hcl5.kc (a * 16 + b) (.int .i64 t)).set kc4 (256 + a * 16 + b) (.bool true)
                          clear f3 e0 e9 f4 kc4
                          go_wp2_with fail
                          refine ⟨⟨b + 1, by go_num, by omega, hfin, hmf, hbf2⟩, by simp [intOf]; omega⟩
                        · rw [onB_yes haN hbN (by rw [e3]; exact h3)] at cab
                          rw [onW_yes haN hbN (by rw [e3]; exact h3), e3, hm] at wab
                          by_cases h4 : m < t
                          · have hset := HY.out (.inr (by rw [hm]; exact h4))
                            clear h3 e3 hm
                            go_wp2_with fail
                            clear cab wab
                            have hcl5 := hcl4.below ((Below.refl _ wr).drew.drew)
                            have hbel5 := hbel4.drew.drew
                            have hmk5 := hmk4.below ((Below.refl _ wr).drew.drew)
                            obtain ⟨w5, hw5⟩ : ∃ w5, wr.drew.drew = w5 := ⟨_, rfl⟩
                            rw [hw5] at hcl5 hbel5 hmk5
                            have f3 := hcl5.kc.frozen
                            have e0 := hcl5.kc.look (a * 16 + b) (clArr_w ha16 hb16)
                            have kc4 := hcl5.kc.set (a * 16 + b) (.int .i64 t)
                            have e9 : (w5.setCell ⟨S + 1 + 1 + 1, a * 16 + b, none⟩ (.int .i64 t)).cell? ⟨S + 1 + 1 + 1, 256 + a * 16 + b, none⟩ = some (.bool (onB i (inS i M k a b) a b)) := by
                              rw [kc4.cell, Array.getElem?_setIfInBounds_ne (by omega)]
                              exact clArr_b ha16 hb16
                            have f4 := kc4.frozen
                            refine wp_seqT (T := But (S + 1 + 1 + 1)) (but_pre _) [(0, false), (1, false), (2, false), (3, false), (4, false), (5, false), (6, false), (7, false), (9, false), (10, false), (8, true), (11, false), (12, true)] [(_, false), (_, false), (_, false), (_, false), (_, false), (_, false), (_, false), (_, false), (_, false), (_, false), (_, true), (_, false), (_, true)] (by kernel_rfl) rfl rfl (by kernel_rfl) ?_
                            rw [hw5]
                            iterate 10 (refine seqS_readT (fun K hK => ?_); go_simp; refine hK _ ?_; clear hK K)
                            (refine seqS_callT (fun K hK => ?_); go_simp; refine hK _ _ (But.set _ _ _ _) ?_; clear hK K)
                            iterate 1 (refine seqS_readT (fun K hK => ?_); go_simp; refine hK _ ?_; clear hK K)
                            (refine seqS_callT (fun K hK => ?_); go_simp; refine hK _ _ (But.set _ _ _ _) ?_; clear hK K)
                            refine seqS_nilT ?_
                            have hfin := hcl5.set2 (z := t) (by omega) haN hbN htn
                            rw [← hset] at hfin
                            have hbf2 := (hbel5.setCell (p := ⟨S + 1 + 1 + 1, a * 16 + b, none⟩) (by show S ≤ S + 1 + 1 + 1; omega) (.int .i64 t)).setCell (p := ⟨S + 1 + 1 + 1, 256 + a * 16 + b, none⟩) (by show S ≤ S + 1 + 1 + 1; omega) (.bool true)
                            have hmf := (hmk5.set hcl5.kc (a * 16 + b) (.int .i64 t)).set kc4 (256 + a * 16 + b) (.bool true)
                            clear f3 e0 e9 f4 kc4
                            go_wp2_with fail
                            refine ⟨⟨b + 1, by go_num, by omega, hfin, hmf, hbf2⟩, by simp [intOf]; omega⟩
                          · have hset := HNO.out (by rw [hm] at h3 ⊢; omega)
                            clear h3 e3 hm
                            go_wp2_with fail
                            rw [← hset] at hcl4
                            refine ⟨⟨b + 1, by go_num, by omega, hcl4.below (Below.refl _ wr).drew, hmk4.below (Below.refl _ wr).drew, hbel4.drew⟩, by simp [intOf]; omega⟩
                  · obtain rfl : b = i := by omega
                    go_wp2_with fail
                    rw [inS_next] at hcl4
                    refine ⟨⟨a + 1, by go_num, by omega, hcl4, hmk4, hbel4⟩, by simp [intOf]; omega⟩
              · obtain rfl : a = i := by omega
                go_wp2_with fail
                refine ⟨⟨k + 1, by go_num, by omega, ?_, hmk3, hbel3⟩, by simp [intOf]; omega⟩
                rw [HNX.out, clArr_congr (M' := inS a M k a 0) (fun x y hx hy => by rw [if_pos ⟨hx, hy⟩, inS_done x y hx hy])]
                exact hcl3
          · obtain rfl : k = i := by omega
            have hst : stg p n d k = chainM p n d := by unfold stg chainM fwAll; rw [HN.out, Int.toNat_natCast]
            rw [hst] at hcl2
            go_wp2_with (first
              | (refine wpList_load_row rfl 122 (.tmp 5) rfl (S + 1 + 1 + 1) rfl 122 (clArr k (chainM p n d)) (0, 0) _ hcl2.kc Try.underlying122 rfl (cl_info _ _) ?_)
              | (refine wpList_store_row rfl 122 (.tmp 4) (.tmp 143) rfl (S + 1 + 1) (clArr k (chainM p n d)) rfl rfl 122 Z hcl2.kr (cl_info _ _) ?_ (cl_one _ _) ?_))
            · rw [← HZ.out, clArr_size, clArr_size]
            · have hlt2 := hcl2.lt
              have hmk5 : Mks [D] (wr.setRow (S + 1 + 1) (clArr k (chainM p n d))) := hmk2.of fun D' hD' => setRow_other _ _ _ (by rw [List.mem_singleton.1 hD']; omega)
              have hkr := setRow_blk (cs' := clArr k (chainM p n d)) hcl2.kr
              have hbel5 := setRow_below hbel2 (show S ≤ S + 1 + 1 by omega) (clArr k (chainM p n d))
              generalize wr.setRow (S + 1 + 1) (clArr k (chainM p n d)) = W5 at hmk5 hkr hbel5 ⊢
              refine leaves_marks [D] W5 hmk5 fun W6 hs6 => ?_
              have j1 := hs6.blk hmk5 hkr
              refine ⟨.agg (clArr k (chainM p n d)), ?_, ?_, ?_⟩
              · exact results_cell_row Try.results89 _ W6 (S + 1 + 1) 122 (clArr k (chainM p n d)) (0, 0) _ rfl j1 Try.underlying122 rfl (cl_info _ _)
              · rw [Int.toNat_natCast]
              · rw [HSS.out]; exact hbel5.trans (hs6.below hDS)
      case stop =>
        intro D c pre W hD hS hI
        exact hI.elim

end Go.Proofs.Ytmknengmjepdaaa
