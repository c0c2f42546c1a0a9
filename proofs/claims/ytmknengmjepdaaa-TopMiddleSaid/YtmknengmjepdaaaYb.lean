/- Walk of grade.Fits. -/
import Derived.Test.YtmknengmjepdaaaYa
import Derived.Test.YtmknengmjepdaaaIc
namespace Go.Proofs.Ytmknengmjepdaaa
open Go.RowKit Go.Shelf
attribute [local go_sem] Oper.semAt_some
attribute [local irreducible] seqS seqST walkV walkJ

/-- Two variables of one type. -/
theorem VarI.row_other' {B : Nat} {w : World} {v : Value} {t : TypeId} {sz : Nat} {st : Bool} {rc : Array Value} (h : VarI B w v t sz st rc) {g : Nat} {cs' : Array Value} (hv : v ≠ .pointer (some ⟨g, 0, none⟩)) : VarI B (w.setRow g cs') v t sz st rc := by
  obtain ⟨g', c, rfl, h2, h3, h4⟩ := h
  exact ⟨g', c, rfl, h2, row_blk_other h3 (fun e => hv (by rw [e])), h4⟩
theorem VarI.lt {B : Nat} {w : World} {v : Value} {t : TypeId} {sz : Nat} {st : Bool} {rc : Array Value} (h : VarI B w v t sz st rc) : v ≠ .pointer (some ⟨w.heap.size, 0, none⟩) := by
  obtain ⟨g', c, rfl, h2, h3, h4⟩ := h
  intro e
  simp only [Value.pointer.injEq, Option.some.injEq, Addr.mk.injEq] at e
  have := h3.lt
  omega
theorem VarI.row_all {B : Nat} {w : World} {v : Value} {t : TypeId} {sz : Nat} {rc : Array Value} (h : VarI B w v t sz true rc) {st : Bool} : VarI B w v t sz st rc := by
  obtain ⟨g', c, e, h2, h3, h4, h5⟩ := h
  exact ⟨g', c, e, h2, h3, h4, fun _ => h5 rfl⟩

theorem pinfoFrac : (Try.prog.info? 26).map (·.size) = some 2 := by kernel_rfl
theorem ext_of_all {p : Pat} : (allL p).map (·.2) = ext p := by
  unfold allL
  exact List.map_snd_zip (by rw [nums_len, ext_len]; exact Nat.le_refl _)
/-- The memory of Fits. -/
structure FitW (W : World) (S : Nat) (pa : Array Value) (n d : Int) (vx : Value) (bv : Bool) (ev : Int) : Prop where
  kp : Blk W S pa 33
  ks : Blk W (S + 1) #[.int .i64 n, .int .i64 d] 26
  kx : Blk W (S + 1 + 1) #[vx] 27
  kb : Blk W (S + 1 + 1 + 1) #[.bool bv] 4
  ke : Blk W (S + 1 + 1 + 1 + 1) #[.int .i64 ev] 28
section
variable {W W' : World} {S : Nat} {pa : Array Value} {n d : Int} {vx : Value} {bv : Bool} {ev : Int}
theorem FitW.of (h : FitW W S pa n d vx bv ev) (hb : ∀ b cs t, Blk W b cs t → Blk W' b cs t) : FitW W' S pa n d vx bv ev := ⟨hb _ _ _ h.kp, hb _ _ _ h.ks, hb _ _ _ h.kx, hb _ _ _ h.kb, hb _ _ _ h.ke⟩
theorem FitW.below (h : FitW W S pa n d vx bv ev) (hb : Below W.heap.size W W') : FitW W' S pa n d vx bv ev := h.of fun _ _ _ k => k.below hb
theorem FitW.lt (h : FitW W S pa n d vx bv ev) : S + 5 ≤ W.heap.size := by have := h.ke.lt; omega
theorem FitW.put (h : FitW W S pa n d vx bv ev) (bv' : Bool) (ev' : Int) : FitW ((W.setCell ⟨S + 1 + 1 + 1, 0, none⟩ (.bool bv')).setCell ⟨S + 1 + 1 + 1 + 1, 0, none⟩ (.int .i64 ev')) S pa n d vx bv' ev' :=
  ⟨(h.kp.other (by simp <;> omega) _).other (by simp <;> omega) _, (h.ks.other (by simp <;> omega) _).other (by simp <;> omega) _, (h.kx.other (by simp) _).other (by simp <;> omega) _, (h.kb.set 0 _).other (by simp) _, (h.ke.other (by simp) _).set 0 _⟩
end
theorem fit_start (w : World) (pa : Array Value) (n d : Int) (vx : Value) : ∃ W, ((((w.alloc (.cells pa 33)).alloc (.cells #[.int .i64 n, .int .i64 d] 26)).alloc (.cells #[vx] 27)).alloc (.cells #[.bool false] 4)).alloc (.cells #[.int .i64 0] 28) = W ∧ FitW W w.heap.size pa n d vx false 0 ∧ Below w.heap.size w W ∧ W.heap.size = w.heap.size + 5 := by
  refine ⟨_, rfl, ⟨((((Blk.new w pa _).alloc _).alloc _).alloc _).alloc _, ?_, ?_, ?_, ?_⟩, ((((alloc_below w _).alloc (by simp) _).alloc (by simp <;> omega) _).alloc (by simp <;> omega) _).alloc (by simp <;> omega) _, by simp⟩
  · have := (((Blk.new (w.alloc (.cells pa 33)) #[.int .i64 n, .int .i64 d] 26).alloc (.cells #[vx] 27)).alloc (.cells #[.bool false] 4)).alloc (.cells #[.int .i64 0] 28)
    simpa using this
  · have := ((Blk.new ((w.alloc (.cells pa 33)).alloc (.cells #[.int .i64 n, .int .i64 d] 26)) #[vx] 27).alloc (.cells #[.bool false] 4)).alloc (.cells #[.int .i64 0] 28)
    simpa using this
  · have := (Blk.new (((w.alloc (.cells pa 33)).alloc (.cells #[.int .i64 n, .int .i64 d] 26)).alloc (.cells #[vx] 27)) #[.bool false] 4).alloc (.cells #[.int .i64 0] 28)
    simpa using this
  · have := Blk.new ((((w.alloc (.cells pa 33)).alloc (.cells #[.int .i64 n, .int .i64 d] 26)).alloc (.cells #[vx] 27)).alloc (.cells #[.bool false] 4)) #[.int .i64 0] 28
    simpa using this
theorem FitW.putB {w W : World} {S : Nat} (h : Below S w W) (bv : Bool) (ev : Int) : Below S w ((W.setCell ⟨S + 1 + 1 + 1, 0, none⟩ (.bool bv)).setCell ⟨S + 1 + 1 + 1 + 1, 0, none⟩ (.int .i64 ev)) :=
  (h.setCell (p := ⟨S + 1 + 1 + 1, 0, none⟩) (by show S ≤ S + 1 + 1 + 1; omega) _).setCell (p := ⟨S + 1 + 1 + 1 + 1, 0, none⟩) (by show S ≤ S + 1 + 1 + 1 + 1; omega) _
/-- What lies in memory while the rules come. -/
def FitI (p : Pat) (W0 w : World) (S : Nat) (pa : Array Value) (n d : Int) (vx : Value) (l : List (Int × Int)) (pre : List (Ent p)) (W : World) : Prop :=
  FitW W S pa n d vx false 0 ∧ (∀ x ∈ pre, okR n d l x.1.2 = true) ∧ Below S w W ∧ W0.heap.size ≤ W.heap.size
/-- .. where a rule has failed. -/
def FitX (p : Pat) (W0 w : World) (S : Nat) (pa : Array Value) (n d : Int) (vx : Value) (l : List (Int × Int)) (c : Code) (pre : List (Ent p)) (W : World) : Prop :=
  c = .ret ∧ FitW W S pa n d vx false 0 ∧ (∃ x ∈ pre, okR n d l x.1.2 = false) ∧ Below S w W ∧ W0.heap.size ≤ W.heap.size
theorem below_own {W0 w W W' : World} {S : Nat} {row : Option Nat} (h3 : Below S w W) (hS : S ≤ W0.heap.size) (h4 : W0.heap.size ≤ W.heap.size) (hg : W.grownBy W' row) (hr : ∀ r, row = some r → W0.heap.size ≤ r ∧ ∃ o : Obj, W.heap[r]? = some o ∧ o.isCells = false) : Below S w W' :=
  h3.trans ⟨hg.os, hg.tape, hg.output, hg.size, fun k hk => hg.block k (by omega) (fun e => by have := (hr k e.symm).1; omega)⟩
theorem FitI_own (p : Pat) (W0 w : World) (S : Nat) (pa : Array Value) (n d : Int) (vx : Value) (l : List (Int × Int)) (hS : S ≤ W0.heap.size) : OwnFrom W0.heap.size (FitI p W0 w S pa n d vx l) := by
  rintro pre W W' row ⟨h1, h2, h3, h4⟩ hg hr
  exact ⟨h1.of fun b cs t k => blk_own k hg (fun r e => (hr r e).2), h2, below_own h3 hS h4 hg hr, Nat.le_trans h4 hg.size⟩
theorem FitX_own (p : Pat) (W0 w : World) (S : Nat) (pa : Array Value) (n d : Int) (vx : Value) (l : List (Int × Int)) (hS : S ≤ W0.heap.size) (c : Code) : OwnFrom W0.heap.size (FitX p W0 w S pa n d vx l c) := by
  rintro pre W W' row ⟨h0, h1, h2, h3, h4⟩ hg hr
  exact ⟨h0, h1.of fun b cs t k => blk_own k hg (fun r e => (hr r e).2), h2, below_own h3 hS h4 hg hr, Nat.le_trans h4 hg.size⟩

/-- What holds in region 7 of what has come up. -/
structure FitJ (B : Nat) (w0 : World) (fa fb : Array Value) (l : Nat → Bool) (V : Nat → Value) (w : World) : Prop where
  b : Below B w0 w
  c10 : l 10 = true → VarI B w (V 10) 26 2 (l 12) fa
  c11 : l 11 = true → VarI B w (V 11) 26 2 (l 13) fb
  ne : l 10 = true → l 11 = true → V 10 ≠ V 11

set_option maxHeartbeats 8000000 in
set_option maxRecDepth 100000 in
theorem gFits_any (p : Pat) (n d : Int) (l : List (Int × Int)) (v vx : Value) (w : World) (h : PatF 0 w v p) (hx : FrsR 0 w vx l) :
    Calls Try.prog 57 #[v, .agg #[.int .i64 n, .int .i64 d], vx] w fun e w' => e = .returned (.tuple #[.bool (ftB p n d l), .int .i64 (ftE p n d l)]) ∧ Below w.heap.size w w' := by
  obtain ⟨ao, cap, rfl, hcap, hmax, hc⟩ := h.shape
  have HX := hid hx
  obtain ⟨ax, cx, rfl, hcx, hmx, hlx⟩ := hx
  unfold maxLen at hmax hmx
  obtain ⟨L, hL⟩ : ∃ L, p.rules.length = L := ⟨_, rfl⟩
  have HL := hid hL
  have HC := hid hc
  have HLX := hid hlx
  rw [hL] at hcap h ⊢
  obtain ⟨bb, hbb⟩ : ∃ b, ftB p n d l = b := ⟨_, rfl⟩
  obtain ⟨ee, hee⟩ : ∃ b, ftE p n d l = b := ⟨_, rfl⟩
  rw [hbb, hee]
  have HBB := hid hbb
  have HEE := hid hee
  clear hL hbb hee hc hlx
  refine (callsIn_wide (n := 6)).1 (callsIn_of_wp_marks Try.func57 rfl trivial (wpIn_wide.2 ?_) rfl)
  simp only [Try.ntmps57, List.size_toArray, List.length_cons, List.length_nil, Nat.reduceAdd, Nat.reduceSub, Array.replicate_succ, Array.replicate_zero, List.push_toArray, List.append_toArray, List.nil_append, List.cons_append]
  go_wp2_with fail
  obtain ⟨w0, hw0, F0, B0, z0⟩ := fit_start w #[.int .i64 p.n, .slice ao L cap] n d (.slice ax l.length cx)
  rw [hw0]
  clear hw0
  have hp0 := h.below B0
  obtain ⟨S, hS⟩ : ∃ S, w.heap.size = S := ⟨_, rfl⟩
  have HSS := hid hS
  rw [hS] at F0 B0 z0 ⊢
  clear hS
  refine (gValid_any p _ _ hp0).mono ?_
  rintro e w1 ⟨rfl, hb1⟩
  have FW := F0.below hb1
  have FB : Below S w w1 := B0.trans (hb1.mono (by omega))
  have hs1 := hb1.size
  clear F0 B0
  by_cases hp : PValid p
  case neg =>
    have HNO := hid (fit_two (n := n) (d := d) (l := l) (fun hh => hp hh.1))
    rw [HBB.out, HEE.out] at HNO
    rw [decide_eq_false hp]
    clear hp
    have cb := FW.kb.look 0 rfl
    have ce := FW.ke.look 0 rfl
    have fb := FW.kb.frozen
    have fe := FW.ke.frozen
    have FW2 := FW.put false 2
    have FB2 := FitW.putB FB false 2
    go_wp2_with fail
    clear cb ce fb fe
    refine leaves_marks [] _ ⟨List.nodup_nil, fun D hD => (by cases hD)⟩ fun W6 hs6 => ?_
    have j1 := hs6.blk ⟨List.nodup_nil, fun D hD => (by cases hD)⟩ FW2.kb
    have j2 := hs6.blk ⟨List.nodup_nil, fun D hD => (by cases hD)⟩ FW2.ke
    have cb := j1.look 0 rfl
    have ce := j2.look 0 rfl
    refine ⟨.tuple #[.bool false, .int .i64 2], by simp [results, Try.results57, go_sem, cb, ce], ⟨by rw [HNO.out.1, HNO.out.2], ?_⟩⟩
    rw [HSS.out]
    exact FB2.trans (hs6.below (fun D hD => (by cases hD)))
  rw [decide_eq_true hp]
  have HP := hid hp
  clear hp
  have c0 := FW.ks.look 0 rfl
  have c1 := FW.ks.look 1 rfl
  go_wp2_with fail
  refine (sized_any n d _).mono ?_
  rintro e w2 ⟨rfl, hb2⟩
  clear c0 c1
  have FW' := FW.below hb2
  have FB' : Below S w w2 := FB.trans (hb2.mono (by omega))
  have hs2 := hb2.size
  clear FW FB
  have FW := FW'
  have FB := FB'
  clear FW' FB'
  by_cases hs : FSize n d
  case neg =>
    have HNO := hid (fit_two (p := p) (l := l) (fun hh => hs hh.2.1))
    rw [HBB.out, HEE.out] at HNO
    rw [decide_eq_false hs]
    clear hs
    have cb := FW.kb.look 0 rfl
    have ce := FW.ke.look 0 rfl
    have fb := FW.kb.frozen
    have fe := FW.ke.frozen
    have FW2 := FW.put false 2
    have FB2 := FitW.putB FB false 2
    go_wp2_with fail
    clear cb ce fb fe
    refine leaves_marks [] _ ⟨List.nodup_nil, fun D hD => (by cases hD)⟩ fun W6 hs6 => ?_
    have j1 := hs6.blk ⟨List.nodup_nil, fun D hD => (by cases hD)⟩ FW2.kb
    have j2 := hs6.blk ⟨List.nodup_nil, fun D hD => (by cases hD)⟩ FW2.ke
    have cb := j1.look 0 rfl
    have ce := j2.look 0 rfl
    refine ⟨.tuple #[.bool false, .int .i64 2], by simp [results, Try.results57, go_sem, cb, ce], ⟨by rw [HNO.out.1, HNO.out.2], ?_⟩⟩
    rw [HSS.out]
    exact FB2.trans (hs6.below (fun D hD => (by cases hD)))
  rw [decide_eq_true hs]
  have HF := hid hs
  clear hs
  have c0 := FW.kp.look 0 rfl
  have c1 := FW.kp.look 1 rfl
  have c2 := FW.kx.look 0 rfl
  go_wp2_with fail
  refine (asg_any p l _ _ _ (HX.out.below (by rw [HSS.out]; exact FB))).mono ?_
  rintro e w3 ⟨rfl, hb3⟩
  clear c0 c1 c2
  have FW' := FW.below hb3
  have FB' : Below S w w3 := FB.trans (hb3.mono (by omega))
  have hs3 := hb3.size
  clear FW FB
  have FW := FW'
  have FB := FB'
  clear FW' FB'
  by_cases ha : AsgP p l
  case neg =>
    have HNO := hid (fit_two (n := n) (d := d) (p := p) (l := l) (fun hh => ha hh.2.2))
    rw [HBB.out, HEE.out] at HNO
    rw [decide_eq_false ha]
    clear ha
    have cb := FW.kb.look 0 rfl
    have ce := FW.ke.look 0 rfl
    have fb := FW.kb.frozen
    have fe := FW.ke.frozen
    have FW2 := FW.put false 2
    have FB2 := FitW.putB FB false 2
    go_wp2_with fail
    clear cb ce fb fe
    refine leaves_marks [] _ ⟨List.nodup_nil, fun D hD => (by cases hD)⟩ fun W6 hs6 => ?_
    have j1 := hs6.blk ⟨List.nodup_nil, fun D hD => (by cases hD)⟩ FW2.kb
    have j2 := hs6.blk ⟨List.nodup_nil, fun D hD => (by cases hD)⟩ FW2.ke
    have cb := j1.look 0 rfl
    have ce := j2.look 0 rfl
    refine ⟨.tuple #[.bool false, .int .i64 2], by simp [results, Try.results57, go_sem, cb, ce], ⟨by rw [HNO.out.1, HNO.out.2], ?_⟩⟩
    rw [HSS.out]
    exact FB2.trans (hs6.below (fun D hD => (by cases hD)))
  rw [decide_eq_true ha]
  have HA := hid ha
  have HOK := hid (fit_ok ⟨HP.out, HF.out, ha⟩)
  rw [HBB.out, HEE.out] at HOK
  obtain ⟨N, hN⟩ : ∃ N : Nat, p.n = N := ⟨p.n.toNat, by have := HP.out.1; omega⟩
  have hN1 : 1 ≤ N := by have := HP.out.1; omega
  have hN16 : N ≤ 16 := by have := HP.out.2.1; omega
  have HN := hid hN
  have hlN : l.length = N := by have := ha.1; omega
  obtain ⟨bx, offx, rfl, hbx, x0, x1⟩ := fr_cell HLX.out (show 0 < l.length by omega)
  have hgw : ∀ (i : Nat) (W : World), i < N → Below S w W → W.cell? ⟨bx, offx + i * 2, none⟩ = some (.int .i64 (l.getD i (0, 0)).1) ∧ W.cell? ⟨bx, offx + i * 2 + 1, none⟩ = some (.int .i64 (l.getD i (0, 0)).2) := by
    intro i W hi hb
    obtain ⟨bx', offx', he, hb', y0, y1⟩ := fr_cell HLX.out (show i < l.length by omega)
    cases he
    have hbS : bx < S := by rw [← HSS.out]; exact hb'
    exact ⟨(hb.cell (p := ⟨bx, offx + i * 2, none⟩) hbS).trans y0, (hb.cell (p := ⟨bx, offx + i * 2 + 1, none⟩) hbS).trans y1⟩
  have HGW := hid hgw
  have q0 := hgw 0 _ (show 0 < N by omega) FB
  obtain ⟨q0, q1⟩ := q0
  rw [Nat.zero_mul, Nat.add_zero] at q0
  rw [hlN] at *
  obtain ⟨n0, hn0⟩ : ∃ z, (l.getD 0 (0, 0)).1 = z := ⟨_, rfl⟩
  rw [hn0] at q0 HOK
  clear ha hgw x0 x1 hN hbx hn0 q1
  have c2 := FW.kx.look 0 rfl
  have h0N : (0 : Int) < (N : Int) := by omega
  by_cases hz : n0 = 0
  case neg =>
    have HNO := hid (show ee = 0 ∧ bb = false from ⟨HOK.out.1, by rw [HOK.out.2, decide_eq_false hz]; rfl⟩)
    have cb := FW.kb.look 0 rfl
    have ce := FW.ke.look 0 rfl
    have fb := FW.kb.frozen
    have fe := FW.ke.frozen
    have FW2 := FW.put false 0
    have FB2 := FitW.putB FB false 0
    go_wp2_with fail
    clear cb ce fb fe
    refine leaves_marks [] _ ⟨List.nodup_nil, fun D hD => (by cases hD)⟩ fun W6 hs6 => ?_
    have j1 := hs6.blk ⟨List.nodup_nil, fun D hD => (by cases hD)⟩ FW2.kb
    have j2 := hs6.blk ⟨List.nodup_nil, fun D hD => (by cases hD)⟩ FW2.ke
    have cb := j1.look 0 rfl
    have ce := j2.look 0 rfl
    refine ⟨.tuple #[.bool false, .int .i64 0], by simp [results, Try.results57, go_sem, cb, ce], ⟨by rw [HNO.out.1, HNO.out.2], ?_⟩⟩
    rw [HSS.out]
    exact FB2.trans (hs6.below (fun D hD => (by cases hD)))
  subst hz
  have HOK2 := hid (show ee = 0 ∧ bb = (ext p).all (okR n d l) from ⟨HOK.out.1, by rw [HOK.out.2, decide_eq_true rfl]; rfl⟩)
  have c0 := FW.kp.look 0 rfl
  have c1 := FW.kp.look 1 rfl
  clear HOK
  go_wp2_with fail
  clear c0 c1 c2 q0
  refine ((callsIn_wide (n := 0)).1 (all_in Fence.wide 0 trivial rfl _ _ _)).mono ?_
  rintro e w4 ⟨rfl, rfl⟩
  have kB := Blk.new w3 #[.int .i64 p.n, .slice ao L cap] 33
  have hbB := alloc_below w3 (.cells #[.int .i64 p.n, .slice ao L cap] 33)
  obtain ⟨B, hB⟩ : ∃ B, w3.heap.size = B := ⟨_, rfl⟩
  obtain ⟨W0, hW0⟩ : ∃ W0, w3.alloc (.cells #[.int .i64 p.n, .slice ao L cap] 33) = W0 := ⟨_, rfl⟩
  have FW0 := FW.below hbB
  have hlt := FW.lt
  rw [hW0] at kB hbB FW0 ⊢
  rw [hB] at kB hlt ⊢
  have FB0 : Below S w W0 := FB.trans (hbB.mono (by omega))
  have hBW : B + 1 ≤ W0.heap.size := kB.lt
  rw [HN.out] at kB FW0 ⊢
  clear hW0 hB FW FB hbB
  go_wp2_with fail
  refine wpIn_wide.1 (wpIn_rangeFunc_ownH (F := Fence.wide) (n := 6) (α := Ent p) rfl (by omega) (gf := 114) (lb := #[.pointer (some ⟨B, 0, none⟩)]) rfl trivial (enters_of Try.func114 (by kernel_rfl) rfl)
    (all_stops Fence.wide 5 trivial rfl (by omega) B S p N HN.out (by omega) (by omega) (by have := HP.out.2.2.1; omega) ao cap (by rw [HL.out]; exact hcap) W0 (by omega) (by rw [HL.out]; exact kB) (fun W' hb => HC.out.below (by rw [HSS.out]; exact FB0.trans hb)))
    (fun h k => KpB.trans h k) (fun W l o o' hl _ _ _ => KpB.put (by omega) (by omega) o') (Below.refl _ _) (fun _ => rfl)
    (FitI p W0 w S #[.int .i64 (N : Int), .slice ao L cap] n d (.slice (some ⟨bx, offx, none⟩) N cx) l) (FitX p W0 w S #[.int .i64 (N : Int), .slice ao L cap] n d (.slice (some ⟨bx, offx, none⟩) N cx) l) (FitI_own p W0 w S _ n d _ l (by omega)) (FitX_own p W0 w S _ n d _ l (by omega)) ⟨FW0, fun x hx => (by cases hx), FB0, Nat.le_refl _⟩
    (fun x a' W => ∃ Bx, W0.heap.size ≤ Bx ∧ Blk W Bx #[.int .i64 x.1.2.a, .int .i64 x.1.2.b, .int .i64 x.1.2.c, .int .i64 x.1.2.d] 92 ∧ a' = { tmps := #[.agg #[.int .i64 (N : Int), .slice ao L cap], .agg #[.int .i64 n, .int .i64 d], .slice (some ⟨bx, offx, none⟩) N cx, .pointer (some ⟨S, 0, none⟩), .pointer (some ⟨S + 1, 0, none⟩), .pointer (some ⟨S + 1 + 1, 0, none⟩), .pointer (some ⟨S + 1 + 1 + 1, 0, none⟩), .pointer (some ⟨S + 1 + 1 + 1 + 1, 0, none⟩), undef, .pointer (some ⟨Bx, 0, none⟩), undef, undef, .agg #[.int .i64 (N : Int), .slice ao L cap], .bool true, .bool false, .bool false, .agg #[.int .i64 n, .int .i64 d], .bool true, .bool false, .bool false, .bool false, .agg #[.int .i64 (N : Int), .slice ao L cap], .slice (some ⟨bx, offx, none⟩) N cx, .bool true, .bool false, .bool false, .slice (some ⟨bx, offx, none⟩) N cx, .pointer (some ⟨bx, offx, none⟩), .pointer (some ⟨bx, offx, none⟩), .int .i64 0, .bool false, .agg #[.int .i64 (N : Int), .slice ao L cap], .func (.func 114) #[] #[.pointer (some ⟨B, 0, none⟩)], .int .i64 x.1.1, ruV x.1.2, undef, undef, undef, undef, undef, undef, undef, undef, undef, undef, undef, undef, undef, undef, undef, undef, undef, undef, undef, undef, undef, undef, undef, undef, undef, undef, undef, undef, undef, undef, undef, undef, undef], defers := [] })
    (fun x a' _ X Y row hs hg hr => by obtain ⟨Bx, b1, b2, b3⟩ := hs; exact ⟨Bx, b1, blk_own b2 hg (fun r e => (hr r e).2), b3⟩) ?assign ?body ?done ?stop)
  case assign =>
    rintro l' pre x W K ⟨i1, i2, i3, i4⟩ hK
    obtain ⟨⟨xk, r⟩, hx⟩ := x
    dsimp only at hK ⊢
    gi_wp2
    refine hK _ _ ((KeepsOthers.alloc _ _).from _) ((KpB.refl S B W).alloc (by omega) (by omega) _) ⟨i1.below (alloc_below _ _), i2, i3.alloc (by omega) _, by rw [World.size_alloc]; omega⟩ ⟨W.heap.size, i4, Blk.new W _ _, rfl⟩
  case body =>
    rintro l' pre x a' W hl - ⟨i1, i2, i3, i4⟩ ⟨Bx, hBx, kx, rfl⟩ hlen
    have hrv := allL_RV HP.out x.2
    have AT : Hid (∀ w, Calls Try.prog 80 #[ruV x.1.2, .agg #[.int .i64 n, .int .i64 d]] w fun e w' => e = .returned (.int .i64 (wt x.1.2 n d)) ∧ Below w.heap.size w w') := hid (fun w => at_any p.n x.1.2 n d w hrv HF.out)
    obtain ⟨A, hA⟩ : ∃ A : Nat, x.1.2.a = A := ⟨x.1.2.a.toNat, by have := hrv.1; omega⟩
    obtain ⟨C, hC⟩ : ∃ A : Nat, x.1.2.b = A := ⟨x.1.2.b.toNat, by have := hrv.2.2.1; omega⟩
    have hAN : A < N := by have := hrv.2.1; have := HN.out; omega
    have hCN : C < N := by have := hrv.2.2.2.1; have := HN.out; omega
    obtain ⟨-, fA⟩ := fv_at HA.out (i := A) (by rw [HN.out, Int.toNat_natCast]; exact hAN)
    obtain ⟨-, fC⟩ := fv_at HA.out (i := C) (by rw [HN.out, Int.toNat_natCast]; exact hCN)
    have hok : okR n d l x.1.2 = decide (wt x.1.2 n d * ((l.getD A (0, 0)).2 * (l.getD C (0, 0)).2) ≤ ((l.getD A (0, 0)).1 * (l.getD C (0, 0)).2 - (l.getD C (0, 0)).1 * (l.getD A (0, 0)).2) * d) := by
      unfold okR
      rw [hA, hC, Int.toNat_natCast, Int.toNat_natCast]
    have hyb := wt_le hrv HF.out
    have hgA := fun W hb => HGW.out A W hAN hb
    have hgC := fun W hb => HGW.out C W hCN hb
    obtain ⟨na, hna⟩ : ∃ z, (l.getD A (0, 0)).1 = z := ⟨_, rfl⟩
    obtain ⟨da, hda⟩ : ∃ z, (l.getD A (0, 0)).2 = z := ⟨_, rfl⟩
    obtain ⟨nb, hnb⟩ : ∃ z, (l.getD C (0, 0)).1 = z := ⟨_, rfl⟩
    obtain ⟨db, hdb⟩ : ∃ z, (l.getD C (0, 0)).2 = z := ⟨_, rfl⟩
    rw [hna, hda] at fA hgA
    rw [hnb, hdb] at fC hgC
    rw [hna, hda, hnb, hdb] at hok
    obtain ⟨⟨e1, e2⟩, ⟨e3, e4⟩, ⟨e5, e6⟩⟩ := fit_bd fA fC
    obtain ⟨m1, hm1⟩ : ∃ z, na * db = z := ⟨_, rfl⟩
    obtain ⟨m2, hm2⟩ : ∃ z, nb * da = z := ⟨_, rfl⟩
    obtain ⟨m3, hm3⟩ : ∃ z, da * db = z := ⟨_, rfl⟩
    rw [hm1] at e1 e2 hok
    rw [hm2] at e3 e4 hok
    rw [hm3] at e5 e6 hok
    have wK1 : IntKind.i64.wrap (na * db) = m1 := by rw [hm1, IntWalk.i64_left]; unfold wrap64; omega
    have wK2 : IntKind.i64.wrap (nb * da) = m2 := by rw [hm2, IntWalk.i64_left]; unfold wrap64; omega
    have wK3 : IntKind.i64.wrap (da * db) = m3 := by rw [hm3, IntWalk.i64_left]; unfold wrap64; omega
    have wK4 : IntKind.i64.wrap (m1 - m2) = m1 - m2 := by rw [IntWalk.i64_left]; unfold wrap64; omega
    obtain ⟨xk, hxk⟩ : ∃ z, x.1.1 = z := ⟨_, rfl⟩
    obtain ⟨rc, hrc⟩ : ∃ z, x.1.2.c = z := ⟨_, rfl⟩
    obtain ⟨rd, hrd⟩ : ∃ z, x.1.2.d = z := ⟨_, rfl⟩
    obtain ⟨y, hy⟩ : ∃ z, wt x.1.2 n d = z := ⟨_, rfl⟩
    rw [hy] at hok hyb
    have ABV := hid (fun w => gAbove_any (m1 - m2) m3 y d w (by omega) (by omega) (by omega) (by omega) (by omega) (by omega) (by have := HF.out.1.1; omega) (by have := HF.out.1.2.1; omega))
    rw [← hok] at ABV
    obtain ⟨ok, hokk⟩ : ∃ b, okR n d l x.1.2 = b := ⟨_, rfl⟩
    rw [hokk] at ABV
    have HOKK := hid hokk
    simp only [ruV] at AT ⊢
    rw [hA, hC, hrc, hrd, hy] at AT
    rw [hA, hC, hrc, hrd] at kx
    rw [hA, hC, hxk, hrc, hrd]
    have hA2 : (A : Int) < (N : Int) := by omega
    have hC2 : (C : Int) < (N : Int) := by omega
    have HGA := hid hgA
    have HGC := hid hgC
    clear hrv hA hC hxk hrc hrd hy hok hokk hm1 hm2 hm3 hna hda hnb hdb fA fC e1 e2 e3 e4 e5 e6 hyb hgA hgC
    gi_wp2_with fail
    have hd := (Below.refl W.heap.size W).drew
    have z0 := fun x : SubT (Below W.heap.size) W.drew => (kx.below (hd.trans x.b)).look 0 rfl
    have z1 := fun x : SubT (Below W.heap.size) W.drew => (kx.below (hd.trans x.b)).look 1 rfl
    have z2 := fun x : SubT (Below W.heap.size) W.drew => (i1.kx.below (hd.trans x.b)).look 0 rfl
    have z3 := fun x : SubT (Below W.heap.size) W.drew => (HGA.out x.w (i3.trans ((hd.trans x.b).mono (by omega)))).1
    have z4 := fun x : SubT (Below W.heap.size) W.drew => (HGA.out x.w (i3.trans ((hd.trans x.b).mono (by omega)))).2
    have z5 := fun x : SubT (Below W.heap.size) W.drew => (HGC.out x.w (i3.trans ((hd.trans x.b).mono (by omega)))).1
    have z6 := fun x : SubT (Below W.heap.size) W.drew => (HGC.out x.w (i3.trans ((hd.trans x.b).mono (by omega)))).2
    refine wpIn_walkJ (T := Below (W.heap.size)) (belowV_pre _) (.rd 0 (.rd 1 (.rd 2 (.rd 3 (.rd 4 (.rd 5 (.rd 6 (.rd 7 (.rd 8 (.rd 9 (.inv [10, 11, 12, 13]))))))))))) (by kernel_rfl) (by kernel_rfl) ?lets rfl (by kernel_rfl) (by kernel_rfl) ?_
    case lets => rintro ⟨a9, w9, h9⟩; exact h9
    iterate 10 (refine walkJ_rd rfl (fun K hK => ?_); go_simp; refine hK _ ?_; clear hK K)
    clear z0 z1 z2 z3 z4 z5 z6
    obtain ⟨W1, hW1⟩ : ∃ W1, W.drew = W1 := ⟨_, rfl⟩
    have hs9 : W.heap.size = W1.heap.size := by rw [← hW1]; rfl
    rw [hW1] at hd ⊢
    clear hW1
    have HS9 := hid hs9
    clear hs9
    refine walkJ_inv (FitJ W.heap.size W #[.int .i64 na, .int .i64 da] #[.int .i64 nb, .int .i64 db]) [(10, 10), (11, 11)] (by kernel_rfl) ?_ ?_ ?_
    · exact ⟨hd, fun h => (by cases h), fun h => (by cases h), fun h => (by cases h)⟩
    · refine stepsI_cons [] [12, 13] [] rfl (by kernel_rfl) (by kernel_rfl) (by kernel_rfl) (fun K l V x hx hl hds hn hI hK => ?_) ?_
      · go_simp
        have hsx : W.heap.size ≤ x.heap.size := by rw [HS9.out]; exact hx.size
        have hb9 := alloc_below x (.cells #[.int .i64 0, .int .i64 0] 26)
        refine hK _ _ (hb9.mono hsx) ?_
        exact ⟨hI.b.trans (hb9.mono hsx), fun _ => VarI.new x _ _ hsx rfl hds.1, fun h => (hI.c11 h).below hb9, fun _ h => Ne.symm (hI.c11 h).lt⟩
      refine stepsI_cons [] [12, 13] [] rfl (by kernel_rfl) (by kernel_rfl) (by kernel_rfl) (fun K l V x hx hl hds hn hI hK => ?_) ?_
      · go_simp
        have hsx : W.heap.size ≤ x.heap.size := by rw [HS9.out]; exact hx.size
        have hb9 := alloc_below x (.cells #[.int .i64 0, .int .i64 0] 26)
        refine hK _ _ (hb9.mono hsx) ?_
        exact ⟨hI.b.trans (hb9.mono hsx), fun h => (hI.c10 h).below hb9, fun _ => VarI.new x _ _ hsx rfl hds.2.1, fun h _ => (hI.c10 h).lt⟩
      refine stepsI_cons [10, 11] [13] [(10, 10), (11, 11)] rfl (by kernel_rfl) (by kernel_rfl) (by kernel_rfl) (fun K l V x hx hl hds hn hI hK => ?_) ?_
      · obtain ⟨g, cs, e1, e2, e3, e4, -⟩ := hI.c10 hl.1
        have hne := hI.ne hl.1 hl.2.1
        have hb9 := row_below (Below.refl W.heap.size x) e2 #[.int .i64 na, .int .i64 da]
        refine ⟨rfl, gives_store_row 26 (.tmp 10) (.tmp 39) rfl g _ e1 rfl 26 cs e3 pinfoFrac e4 (by simp [Value.oneCell']) (hK _ _ hb9 ?_)⟩
        refine ⟨hI.b.trans hb9, fun _ => ?_, fun h => (hI.c11 h).row_other' (fun e => hne (e1.trans e.symm)), fun _ _ => hne⟩
        show VarI _ _ (V 10) _ _ _ _
        rw [e1]
        exact VarI.filled e2 e3 rfl
      refine stepsI_cons [10, 11, 12] [] [(10, 10), (11, 11)] rfl (by kernel_rfl) (by kernel_rfl) (by kernel_rfl) (fun K l V x hx hl hds hn hI hK => ?_) ?_
      · obtain ⟨g, cs, e1, e2, e3, e4, -⟩ := hI.c11 hl.2.1
        have hne := hI.ne hl.1 hl.2.1
        have hb9 := row_below (Below.refl W.heap.size x) e2 #[.int .i64 nb, .int .i64 db]
        refine ⟨rfl, gives_store_row 26 (.tmp 11) (.tmp 44) rfl g _ e1 rfl 26 cs e3 pinfoFrac e4 (by simp [Value.oneCell']) (hK _ _ hb9 ?_)⟩
        refine ⟨hI.b.trans hb9, fun h => (hI.c10 h).row_other' (fun e => hne (e.trans e1.symm)), fun _ => ?_, fun _ _ => hne⟩
        show VarI _ _ (V 11) _ _ _ _
        rw [e1]
        exact VarI.filled e2 e3 rfl
      exact stepsI_nil
    intro V W2 hW2 hI
    obtain ⟨g, e1, e2, e3⟩ := (hI.c10 rfl).out
    obtain ⟨g', e1', e2', e3'⟩ := (hI.c11 rfl).out
    have hb2' := hI.b
    clear hI
    simp only [putsP, e1, e1']
    go_simp
    clear e1 e1'
    have i1' := i1.below hb2'
    have kx' := kx.below hb2'
    have i3' := i3.trans (hb2'.mono (by omega))
    have hs10 := hb2'.size
    have hd2 := (Below.refl W2.heap.size W2).drew
    have z0 := fun x : SubT (Below W2.heap.size) W2.drew => (kx'.below (hd2.trans x.b)).look 0 rfl
    have z1 := fun x : SubT (Below W2.heap.size) W2.drew => (kx'.below (hd2.trans x.b)).look 1 rfl
    have z2 := fun x : SubT (Below W2.heap.size) W2.drew => (kx'.below (hd2.trans x.b)).look 2 rfl
    have z3 := fun x : SubT (Below W2.heap.size) W2.drew => (kx'.below (hd2.trans x.b)).look 3 rfl
    have z4 := fun x : SubT (Below W2.heap.size) W2.drew => (e3.below (hd2.trans x.b)).look 0 rfl
    have z5 := fun x : SubT (Below W2.heap.size) W2.drew => (e3.below (hd2.trans x.b)).look 1 rfl
    have z6 := fun x : SubT (Below W2.heap.size) W2.drew => (e3'.below (hd2.trans x.b)).look 0 rfl
    have z7 := fun x : SubT (Below W2.heap.size) W2.drew => (e3'.below (hd2.trans x.b)).look 1 rfl
    have z8 := fun x : SubT (Below W2.heap.size) W2.drew => (i1'.ks.below (hd2.trans x.b)).look 0 rfl
    have z9 := fun x : SubT (Below W2.heap.size) W2.drew => (i1'.ks.below (hd2.trans x.b)).look 1 rfl
    gi_wp2_with fail
    refine wpIn_walkJ (T := Below (W2.heap.size)) (belowV_pre _) (.rd 0 (.rd 1 (.rd 2 (.rd 3 (.rd 4 (.rd 5 (.rd 6 (.rd 7 (.rd 8 (.rd 9 (.rd 10 (.rd 11 (.rd 12 (.rd 13 (.rd 14 (.rd 15 (.rd 16 (.rd 17 (.rd 19 (.rd 20 (.mv 18 (.bt 21 (.rd 22 (.inv [])))))))))))))))))))))))) (by kernel_rfl) (by kernel_rfl) ?lets2 rfl (by kernel_rfl) (by kernel_rfl) ?_
    case lets2 => rintro ⟨a9, w9, h9⟩; exact h9
    iterate 20 (refine walkJ_rd rfl (fun K hK => ?_); go_simp; refine hK _ ?_; clear hK K)
    clear z0 z1 z2 z3 z4 z5 z6 z7 z8 z9
    (refine walkJ_mv rfl (fun K hK => ?_); go_simp; refine (AT.out _).mono ?_; rintro e w4 ⟨rfl, hb4⟩; refine ⟨_, rfl, hK _ _ hb4 ?_⟩; clear hK K)
    (refine walkJ_bt rfl (fun K hK => ?_); go_simp; refine (ABV.out _).mono ?_; rintro e w5 ⟨rfl, rfl⟩; refine ⟨_, rfl, hK _ _ ?_⟩; clear hK K)
    iterate 1 (refine walkJ_rd rfl (fun K hK => ?_); go_simp; refine hK _ ?_; clear hK K)
    refine walkJ_nil ?_
    have hb24 : Below W2.heap.size W2 w4 := Below.trans hd2 hb4
    have hbW4 : Below W.heap.size W w4 := hb2'.trans (hb24.mono hs10)
    have j1 := i1'.below hb24
    have j3 := i3'.trans (hb24.mono (by omega))
    have j4 : W0.heap.size ≤ w4.heap.size := Nat.le_trans i4 hbW4.size
    have hkeep : KeepsOthers W w4 := keeps_of_below hbW4
    have hkpb : KpB S B W w4 := ⟨hbW4.mono (by omega), hbW4.block B (by omega)⟩
    clear hb24 hb4 hd2 hb2' hbW4 i1' kx' i3' e3 e3' hW2
    cases ok with
    | true =>
      gi_wp2_with fail
      refine ⟨hkeep.from _, hkpb, j1, ?_, j3, j4⟩
      intro z hz
      rcases List.mem_append.1 hz with hz | hz
      · exact i2 z hz
      · obtain rfl : z = x := by simpa using hz
        exact HOKK.out
    | false =>
      have cb := j1.kb.look 0 rfl
      have ce := j1.ke.look 0 rfl
      have fb := j1.kb.frozen
      have fe := j1.ke.frozen
      have J1 := j1.put false 0
      have J3 := FitW.putB j3 false 0
      gi_wp2_with fail
      refine ⟨((hkeep.trans (KeepsOthers.setCell _ _ _)).trans (KeepsOthers.setCell _ _ _)).from _, rfl, J1, ⟨x, List.mem_append.2 (.inr (List.mem_singleton.2 rfl)), HOKK.out⟩, J3, by simpa [World.setCell] using j4⟩
  case done =>
    rintro D xs W hD hS ⟨i1, i2, i3, i4⟩ hKD
    have hbb : bb = true := by
      rw [HOK2.out.2, List.all_eq_true]
      intro r hr
      rw [← ext_of_all, ← hS, List.map_map] at hr
      obtain ⟨x, hx, rfl⟩ := List.mem_map.1 hr
      exact i2 x hx
    have HNO := hid (show ee = 0 ∧ bb = true from ⟨HOK2.out.1, hbb⟩)
    have hmk : Mks [D] W := ⟨by simp, fun D' hD' => by rw [List.mem_singleton.1 hD']; exact hKD⟩
    have cb := i1.kb.look 0 rfl
    have ce := i1.ke.look 0 rfl
    have fb := i1.kb.frozen
    have fe := i1.ke.frozen
    have J1 := i1.put true 0
    have J3 := FitW.putB i3 true 0
    have hmk2 := (hmk.set i1.kb 0 (.bool true)).set (i1.ke.other (p := ⟨S + 1 + 1 + 1, 0, none⟩) (by simp) (.bool true)) 0 (.int .i64 0)
    clear hbb hS
    dsimp only
    go_wp2
    clear cb ce fb fe
    refine leaves_marks [D] _ hmk2 fun W6 hs6 => ?_
    have cb := (hs6.blk hmk2 J1.kb).look 0 rfl
    have ce := (hs6.blk hmk2 J1.ke).look 0 rfl
    refine ⟨.tuple #[.bool true, .int .i64 0], by simp [results, Try.results57, go_sem, cb, ce], ⟨by rw [HNO.out.1, HNO.out.2], ?_⟩⟩
    rw [HSS.out]
    exact J3.trans (hs6.below (fun D' hD' => by rw [List.mem_singleton.1 hD']; omega))
  case stop =>
    rintro D c pre W hD hSp ⟨rfl, i1, ⟨x, hx, hxk⟩, i3, i4⟩ hKD
    have hbb : bb = false := by
      rw [HOK2.out.2, List.all_eq_false]
      refine ⟨x.1.2, ?_, by rw [hxk]; decide⟩
      exact (List.of_mem_zip (show (x.1.1, x.1.2) ∈ (nums p).zip (ext p) from x.2)).2
    have HNO := hid (show ee = 0 ∧ bb = false from ⟨HOK2.out.1, hbb⟩)
    have hmk : Mks [D] W := ⟨by simp, fun D' hD' => by rw [List.mem_singleton.1 hD']; exact hKD⟩
    clear hbb
    gi_wp2
    refine leaves_marks [D] _ hmk fun W6 hs6 => ?_
    have cb := (hs6.blk hmk i1.kb).look 0 rfl
    have ce := (hs6.blk hmk i1.ke).look 0 rfl
    refine ⟨.tuple #[.bool false, .int .i64 0], by simp [results, Try.results57, go_sem, cb, ce], ⟨by rw [HNO.out.1, HNO.out.2], ?_⟩⟩
    rw [HSS.out]
    exact i3.trans (hs6.below (fun D' hD' => by rw [List.mem_singleton.1 hD']; omega))

end Go.Proofs.Ytmknengmjepdaaa
