/- Walks of the journal: Open. -/
import Derived.Test.YtcpefolhohakmaaT8
namespace Go.Proofs.Ytcpefolhohakmaa
open Go.RowKit
attribute [local irreducible] seqS seqST walkV walkJ

/-- A journal in memory. -/
def LgB (w : World) (gl gd : Nat) (g : Int) (at' : Int) (vs vr : Value) (down : Bool) : Prop := Blk w gl #[.int .i64 g, vs, vr, .pointer (some ⟨gd, 0, none⟩), .int .i64 at', .bool down] 115
structure Cn where
  g : Nat
  s : Bts
  rs : List Bts
  t : Bts
/-- What an area reads as. -/
def PO (b : Bts) : Option Cn → Prop
  | none => NoA b
  | some c => Are b c.g c.s c.rs c.t ∧ 1 ≤ c.g ∧ c.g ≤ 4611686018427387903
/-- The better one. -/
def bst (b : Option (Nat × Cn)) (n : Nat) : Option Cn → Option (Nat × Cn)
  | none => b
  | some c => match b with
    | none => some (n, c)
    | some (m, c') => if c'.g < c.g then some (n, c) else some (m, c')
def trn : Option (Nat × Cn) → Bool
  | none => false
  | some (_, c) => decide (0 < c.t.length)
/-- The journal while it is opened. -/
def LSt (lo : Nat) (w : World) (gl gd : Nat) : Option (Nat × Cn) → Prop
  | none => LgB w gl gd 0 (-1) (.slice none 0 0) (.slice none 0 0) false
  | some (m, c) => ∃ vs vr rvs, LgB w gl gd (c.g : Int) (m : Int) vs vr false ∧ w.ownsRow lo 5 1 vs c.s.length (u8V c.s) ∧ RcR lo w vr rvs ∧ PaysO lo w rvs c.rs ∧ m < 2 ∧ 1 ≤ c.g ∧ c.g ≤ 4611686018427387903
theorem LSt.below {lo : Nat} {w w' : World} {gl gd : Nat} {b : Option (Nat × Cn)} (h : LSt lo w gl gd b) (k : Below w.heap.size w w') : LSt lo w' gl gd b := by
  match b, h with
  | none, h => exact Blk.below h k
  | some (m, c), ⟨vs, vr, rvs, h1, h2, h3, h4, h5⟩ => exact ⟨vs, vr, rvs, Blk.below h1 k, owns_below h2 k, h3.below k, h4.below k, h5⟩
theorem LSt.lt {lo : Nat} {w : World} {gl gd : Nat} {b : Option (Nat × Cn)} (h : LSt lo w gl gd b) : gl < w.heap.size := by
  match b, h with
  | none, h => exact Blk.lt h
  | some (m, c), ⟨vs, vr, rvs, h1, _⟩ => exact Blk.lt h1

theorem bst_some {o0 o1 : Option Cn} {m : Nat} {c : Cn} (h : bst (bst none 0 o0) 1 o1 = some (m, c)) : (m = 0 ∧ o0 = some c) ∨ (m = 1 ∧ o1 = some c) := by
  cases o0 with
  | none =>
    cases o1 with
    | none => cases h
    | some c1 => right; cases h; exact ⟨rfl, rfl⟩
  | some c0 =>
    cases o1 with
    | none => left; cases h; exact ⟨rfl, rfl⟩
    | some c1 =>
      unfold bst at h
      simp only at h
      split at h
      · right; cases h; exact ⟨rfl, rfl⟩
      · left; cases h; exact ⟨rfl, rfl⟩
/-- What Open makes of a disk and the better area. -/
structure Op where
  d : Dk
  g : Nat
  m : Nat
  s : Bts
  rs : List Bts
def opF (d : Dk) (m : Nat) (F : Bts) : Dk := { d with b := updN d.b m F, s := updN d.s m F.length }
def opn (d : Dk) : Option (Nat × Cn) → Op
  | none => ⟨opF d 0 (frms (lay 1 0 [] [])), 1, 0, [], []⟩
  | some (m, c) => if 0 < c.t.length then ⟨opF d (1 - m) (frms (lay (c.g + 1) c.rs.length c.s c.rs)), c.g + 1, 1 - m, c.s, c.rs⟩ else ⟨d, c.g, m, c.s, c.rs⟩
theorem updN_twice {α : Type} (f : Nat → α) (n : Nat) (x y : α) : updN (updN f n x) n y = updN f n y := by
  funext i
  unfold updN
  split <;> rfl
theorem wr_on {d : Dk} (h1 : d.off = false) (h2 : d.fused = false) {n : Nat} {F : Bts} (hF : F.length ≤ d.most) : wrE n F d = 0 ∧ wrD n F d = opF d n F := by
  have hs : ∀ e : Dk, e.off = false → e.fused = false → spB e = true ∧ spD e = e := fun e he hf => by
    unfold spB spD
    rw [he, hf]
    exact ⟨rfl, rfl⟩
  obtain ⟨a1, a2⟩ := hs d h1 h2
  have hc : clearD n d = { d with b := updN d.b n [], s := updN d.s n 0 } := by unfold clearD; rw [if_pos a1, a2]
  obtain ⟨b1, b2⟩ := hs (clearD n d) (by rw [hc]; exact h1) (by rw [hc]; exact h2)
  have hft : fitD (clearD n d) n F = true := by
    unfold fitD
    rw [hc]
    show decide (F.length ≤ d.most - (updN d.b n [] n).length) = true
    rw [updN_same]
    exact decide_eq_true hF
  have ha : appD n F (clearD n d) = { d with b := updN d.b n F, s := updN d.s n 0 } := by
    unfold appD
    rw [if_pos hft, if_pos b1, b2, hc]
    show ({ d with b := updN (updN d.b n []) n (updN d.b n [] n ++ F), s := updN d.s n 0 } : Dk) = _
    rw [updN_same, updN_twice]; rfl
  have hae : appE n F (clearD n d) = 0 := by unfold appE; rw [if_pos hft, b1]; rfl
  obtain ⟨c1, c2⟩ := hs (appD n F (clearD n d)) (by rw [ha]; exact h1) (by rw [ha]; exact h2)
  refine ⟨?_, ?_⟩
  · unfold wrE
    rw [if_pos a1, if_pos hae, c1]; rfl
  · unfold wrD syncD
    rw [if_pos a1, if_pos hae, if_pos c1, c2, ha]
    unfold opF
    show ({ d with b := updN d.b n F, s := updN (updN d.s n 0) n (updN d.b n F n).length } : Dk) = _
    rw [updN_same, updN_twice]
theorem RcR.ne_blk {lo : Nat} {w : World} {v : Value} {vs : List Value} {g : Nat} {cs : Array Value} {t : TypeId} (h : RcR lo w v vs) (k : Blk w g cs t) (ht : 48 ≠ t) : ∀ j, v.ownBlock = some j → j ≠ g := by
  intro j hj
  rcases h with ⟨rfl, -⟩ | ⟨g', off, cap, cur, rfl, h2, h3, -⟩
  · cases hj
  · cases hj
    exact blk_ne h3 k ht
/-- All but one cell. -/
structure KpC (gl : Nat) (a b : World) : Prop where
  k : Keep (· ≠ gl) a b
  c : ∀ j, j ≠ 0 → b.cell? ⟨gl, j, none⟩ = a.cell? ⟨gl, j, none⟩
theorem KpC.oth {gl : Nat} (a : World) (u : Value) {j : Nat} (hj : j ≠ 0) : (a.setCell ⟨gl, 0, none⟩ u).cell? ⟨gl, j, none⟩ = a.cell? ⟨gl, j, none⟩ := by
  rw [World.cell?_setCell_other]
  intro e; exact hj (by cases e; rfl)
theorem kpC_pre (gl : Nat) : Pre (KpC gl) := ⟨fun _ => ⟨Keep.refl _ _, fun _ _ => rfl⟩, fun h k => ⟨h.k.trans k.k, fun j hj => (k.c j hj).trans (h.c j hj)⟩⟩
instance instKpC (gl : Nat) (W : World) : Nonempty (SubT (KpC gl) W) := ⟨⟨W, (kpC_pre gl).refl W⟩⟩
theorem RcR.lo {lo : Nat} {w : World} {v : Value} {vs : List Value} (h : RcR lo w v vs) {b : Nat} (hb : v.ownBlock = some b) : lo ≤ b := by
  rcases h with ⟨rfl, -⟩ | ⟨g', off, cap, cur, rfl, h2, -⟩
  · cases hb
  · cases hb; exact h2
set_option maxHeartbeats 4000000 in
set_option maxRecDepth 100000 in
theorem Open_any (gd : Nat) (v : Nat → Value) (d : Dk) (o : Nat → Option Cn) (w : World) (h : DkR w gd v d) (hon : d.off = false) (hfu : d.fused = false) (ho : ∀ n, n < 2 → PO (d.b n) (o n)) (op : Op) (hop : opn d (bst (bst none 0 (o 0)) 1 (o 1)) = op) :
    Calls Try.prog 38 #[.pointer (some ⟨gd, 0, none⟩)] w fun r w' => r = .returned (.tuple #[.pointer (some ⟨w.heap.size, 0, none⟩), .int .i64 0]) ∧ ∃ v' vs vr, LgB w' w.heap.size gd (op.g : Int) (op.m : Int) vs vr false ∧ w'.ownsRow w.heap.size 5 1 vs op.s.length (u8V op.s) ∧ ∃ rvs, RcR w.heap.size w' vr rvs ∧ PaysO w.heap.size w' rvs op.rs ∧ DkR w' gd v' op.d ∧ DkG w w' gd v v' := by
  have HD := hid h
  have RD := hid (fun n hn W (k : Below w.heap.size w W) => Read_any gd n v d W (h.below k) hn hon)
  have x7 := h.cMost
  have hm := h.most
  have hm0 : ((d.most : Int) == 0) = false := by rw [beq_eq_false_iff_ne]; omega
  have HLE := hid h.len
  clear h
  have kL := Blk.new w #[.int .i64 0, .slice none 0 0, .slice none 0 0, .pointer (some ⟨gd, 0, none⟩), .int .i64 (-1), .bool false] 115
  have bL := alloc_below w (.cells #[.int .i64 0, .slice none 0 0, .slice none 0 0, .pointer (some ⟨gd, 0, none⟩), .int .i64 (-1), .bool false] 115)
  have HKL : Hid (LSt w.heap.size _ w.heap.size gd none) := hid kL
  have HBL := hid bL
  clear kL bL
  go_enter Try.func38, Try.ntmps38
  go_wp2_with fail
  clear x7 hm0
  go_loopw [5, 6, 7, 8, 9, 10, 11, 25] (fun t _ _ _ _ _ _ z wr => ∃ n : Nat, z = .int .i64 (n : Int) ∧ n ≤ 2 ∧ ∃ b, t = .bool (trn b) ∧ Hid (b = match n with | 0 => none | 1 => bst none 0 (o 0) | _ => bst (bst none 0 (o 0)) 1 (o 1)) ∧ Hid (LSt w.heap.size wr w.heap.size gd b) ∧ Hid (Below w.heap.size w wr)) (fun _ _ _ _ _ _ _ z _ => 2 - (intOf z).toNat)
  case atStart => exact ⟨0, rfl, by omega, none, rfl, hid rfl, HKL, HBL⟩
  case round =>
    obtain ⟨n, rfl, hn2, b, rfl, HBE, HL, HB⟩ := hrel
    by_cases hn : n < 2
    case neg =>
      obtain rfl : n = 2 := by omega
      have hn1 : ¬ ((2 : Nat) : Int) < 2 := by omega
      have hbe : opn d b = op := by rw [HBE.out]; exact hop
      have HDr := hid (HD.out.below HB.out)
      have HGr : Hid (DkG w wr gd v v) := hid (DkG.of_below HB.out)
      have hDS : Hid (∀ x, DS gd v x → x < w.heap.size) := hid (fun x e => by
        rcases e with e | e | e
        · rw [e]; exact HD.out.blk.lt
        · exact ((HD.out.own 0 (by decide)).lt _ e).2
        · exact ((HD.out.own 1 (by decide)).lt _ e).2)
      cases b with
      | none =>
        have kL : Blk wr w.heap.size #[.int .i64 0, .slice none 0 0, .slice none 0 0, .pointer (some ⟨gd, 0, none⟩), .int .i64 (-1), .bool false] 115 := HL.out
        have KL := hid kL
        have y0 := kL.look 0 rfl
        have y1 := kL.look 1 rfl
        have y2 := kL.look 2 rfl
        have y4 := kL.look 4 rfl
        have f0 := kL.frozen 0
        have f1 := kL.frozen 1
        have f2 := kL.frozen 2
        have f4 := kL.frozen 4
        have ll := kL.lt
        clear kL
        have hk5 : Keep (· ≠ w.heap.size) wr ((((wr.setCell ⟨w.heap.size, 0, none⟩ (.int .i64 1)).setCell ⟨w.heap.size, 1, none⟩ (.slice none 0 0)).setCell ⟨w.heap.size, 2, none⟩ (.slice none 0 0)).setCell ⟨w.heap.size, 4, none⟩ (.int .i64 0)) := (((Keep.set wr (p := ⟨w.heap.size, 0, none⟩) (fun h => h rfl) _).trans (Keep.set _ (p := ⟨w.heap.size, 1, none⟩) (fun h => h rfl) _)).trans (Keep.set _ (p := ⟨w.heap.size, 2, none⟩) (fun h => h rfl) _)).trans (Keep.set _ (p := ⟨w.heap.size, 4, none⟩) (fun h => h rfl) _)
        have KLW : Hid (Blk _ w.heap.size #[.int .i64 1, .slice none 0 0, .slice none 0 0, .pointer (some ⟨gd, 0, none⟩), .int .i64 0, .bool false] 115) := hid ((((KL.out.set 0 (.int .i64 1)).set 1 (.slice none 0 0)).set 2 (.slice none 0 0)).set 4 (.int .i64 0))
        have hbw := hk5.below HB.out.size (fun k hk => by omega)
        have HDW := hid (HD.out.below (HB.out.trans hbw))
        have HGW : Hid (DkG w _ gd v v) := hid (DkG.of_below (HB.out.trans hbw))
        clear hk5 hbw KL HL HBE
        go_wp2_with fail
        clear y0 y1 y2 y4 f0 f1 f2 f4 ll
        generalize (((wr.setCell ⟨w.heap.size, 0, none⟩ (.int .i64 1)).setCell ⟨w.heap.size, 1, none⟩ (.slice none 0 0)).setCell ⟨w.heap.size, 2, none⟩ (.slice none 0 0)).setCell ⟨w.heap.size, 4, none⟩ (.int .i64 0) = W at KLW HDW HGW ⊢
        obtain ⟨M, hM0, hM⟩ : ∃ M : Nat, M = 0 ∧ M < 2 := ⟨0, rfl, by decide⟩
        obtain ⟨G, hG1⟩ : ∃ G : Nat, G = 1 := ⟨1, rfl⟩
        have HG' : Hid ((G : Int) = 1) := hid (by rw [hG1]; rfl)
        have HM' : Hid ((M : Int) = 0) := hid (by rw [hM0]; rfl)
        obtain ⟨F, hFF⟩ : ∃ F, F = frms (lay G ([] : List Bts).length [] []) := ⟨_, rfl⟩
        have HFF := hid hFF
        have HFl : Hid (F.length ≤ d.most) := hid (by rw [hFF, hG1]; show (frms (lay 1 0 [] [])).length ≤ _; rw [first_len]; omega)
        have HOP : Hid (op = ⟨opF d M F, G, M, [], []⟩) := hid (by rw [← hbe, hFF, hG1, hM0]; rfl)
        obtain ⟨s0, hs0⟩ : ∃ s : Bts, s = [] := ⟨_, rfl⟩
        obtain ⟨rs0, hrs0⟩ : ∃ s : List Bts, s = [] := ⟨_, rfl⟩
        obtain ⟨rvs0, hrvs0⟩ : ∃ s : List Value, s = [] := ⟨_, rfl⟩
        have HSW : Hid (W.ownsRow w.heap.size 5 1 (.slice none 0 0) s0.length (u8V s0)) := hid (by rw [hs0]; exact World.ownsRow_nil _ _ _ _)
        have HRW : Hid (RcR w.heap.size W (.slice none 0 0) rvs0) := hid (.inl ⟨rfl, hrvs0⟩)
        have HPW : Hid (PaysO w.heap.size W rvs0 rs0) := hid (by rw [hrvs0, hrs0]; exact ⟨rfl, fun i hi => absurd hi (Nat.not_lt_zero _)⟩)
        rw [← hs0, ← hrs0] at HOP HFF
        clear hFF hM0 hG1 hs0 hrs0 hrvs0 hbe HDr HGr HD
        have zg := fun y : SubT (Below W.heap.size) W.drew => (Blk.below KLW.out ((Below.refl W.heap.size W).drew.trans y.b)).look 0 rfl
        have zs := fun y : SubT (Below W.heap.size) W.drew => (Blk.below KLW.out ((Below.refl W.heap.size W).drew.trans y.b)).look 1 rfl
        have zr := fun y : SubT (Below W.heap.size) W.drew => (Blk.below KLW.out ((Below.refl W.heap.size W).drew.trans y.b)).look 2 rfl
        have zm := fun y : SubT (Below W.heap.size) W.drew => (Blk.below KLW.out ((Below.refl W.heap.size W).drew.trans y.b)).look 4 rfl
        refine wp_walkJ (T := Below (W.heap.size)) (belowV_pre _) (.rd 0 (.rd 1 (.rd 2 (.rd 3 (.rd 4 (.rd 5 (.rd 6 (.rd 7 (.rd 8 (.bt 9 (.rd 10 (.inv [])))))))))))) (by kernel_rfl) rfl (by kernel_rfl) (by kernel_rfl) ?_
        iterate 9 (refine walkJ_rd rfl (fun K hK => ?_); go_simp; refine hK _ ?_; clear hK K)
        clear zg zs zr zm
        have hd := (Below.refl W.heap.size W).drew
        have KL5 := hid (Blk.below KLW.out hd)
        have HS5 := hid (owns_below HSW.out hd)
        have HR5 := hid (RcR.below HRW.out hd)
        have HP5 := hid (PaysO.below HPW.out hd)
        have HD5 := hid (DkR.below HDW.out hd)
        have HG5 := hid (HGW.out.trans (DkG.of_below hd))
        clear hd KLW HSW HRW HPW HDW HGW
        generalize W.drew = W5 at KL5 HS5 HR5 HP5 HD5 HG5 ⊢
        have WR := hid (write_any gd M v d G s0 rs0 _ _ rvs0 W5 HD5.out hM w.heap.size hDS.out HS5.out HR5.out HP5.out (by rw [← HFF.out]; have := HFl.out; omega))
        rw [← HFF.out, (wr_on hon hfu HFl.out).1, (wr_on hon hfu HFl.out).2] at WR
        unfold cntV at WR
        rw [HG'.out, HM'.out] at WR
        (refine walkJ_bt rfl (fun K hK => ?_); go_simp; refine WR.out.mono ?_; rintro r w6 ⟨rfl, v6, hd6, hg6⟩; refine ⟨_, rfl, hK _ _ ?_⟩; clear hK K)
        have hno : ∀ x, w.heap.size ≤ x → ¬ DS gd v x := fun x hx e => by have := hDS.out x e; omega
        have KL6 := hid (hg6.keep.blk KL5.out (hno _ (Nat.le_refl _)))
        have HS6 := hid (hg6.keep.owns HS5.out (fun b hb => hno b (HS5.out.lt b hb).1))
        have HR6 := hid (HR5.out.keep hg6.keep (fun b hb => hno b (HR5.out.lo hb)))
        have HP6 := hid (HP5.out.keep hg6.keep (fun i hi b hb => hno b ((HP5.out.2 i hi).lt b hb).1))
        have HD6 := hid hd6
        have HG6 := hid (HG5.out.trans hg6)
        clear hno WR hd6 hg6 KL5 HS5 HR5 HP5 HD5 HG5
        iterate 1 (refine walkJ_rd rfl (fun K hK => ?_); go_simp; refine hK _ ?_; clear hK K)
        refine walkJ_nil ?_
        go_wp2
        go_ret2
        rw [HOP.out]
        exact ⟨rfl, v6, _, _, by rw [← HG'.out, ← HM'.out] at KL6; exact KL6.out, HS6.out, rvs0, HR6.out, HP6.out, HD6.out, HG6.out⟩
      | some p =>
        obtain ⟨m, c⟩ := p
        obtain ⟨vs, vr, rvs, kL, hs, hr, hp, hm2, hg1, hg2⟩ := HL.out
        replace kL : Blk wr w.heap.size #[.int .i64 (c.g : Int), vs, vr, .pointer (some ⟨gd, 0, none⟩), .int .i64 (m : Int), .bool false] 115 := kL
        have KL := hid kL
        have HS := hid hs
        have HR := hid hr
        have HP := hid hp
        have y0 := kL.look 0 rfl
        have y4 := kL.look 4 rfl
        have f0 := kL.frozen 0
        have f4 := kL.frozen 4
        have ll := kL.lt
        have hm0 : ¬ (m : Int) < 0 := by omega
        have hne : ((c.g : Int) == 4611686018427387904) = false := by rw [beq_eq_false_iff_ne]; omega
        have HOM : Hid (PO (d.b m) (some c)) := hid (by
          rcases bst_some HBE.out.symm with ⟨rfl, e⟩ | ⟨rfl, e⟩
          · rw [← e]; exact ho 0 (by decide)
          · rw [← e]; exact ho 1 (by decide))
        clear kL hs hr hp
        by_cases ht : 0 < c.t.length
        case neg =>
          have htr : trn (some (m, c)) = false := decide_eq_false ht
          rw [htr]
          have hop2 : op = ⟨d, c.g, m, c.s, c.rs⟩ := by rw [← hbe]; exact if_neg ht
          have HOP := hid hop2
          clear hop2 htr
          go_wp2
          go_ret2
          rw [HOP.out]
          exact ⟨rfl, v, vs, vr, KL.out, HS.out, rvs, HR.out, HP.out, HDr.out, HGr.out⟩
        case pos =>
          have htr : trn (some (m, c)) = true := decide_eq_true ht
          rw [htr]
          clear htr
          go_wp2_with fail
          clear y0 y4 f0 f4 ll
          obtain ⟨G, hG1⟩ : ∃ G, G = c.g + 1 := ⟨_, rfl⟩
          obtain ⟨M, hM1⟩ : ∃ M, M = 1 - m := ⟨_, rfl⟩
          have hw1 : IntKind.i64.wrap ((c.g : Int) + 1) = (G : Int) := by
            have := Go.Lib.wrap_i64_small (c.g + 1) (by omega)
            rw [hG1]
            rwa [show ((c.g + 1 : Nat) : Int) = (c.g : Int) + 1 by omega] at this ⊢
          have hw2 : IntKind.i64.wrap (1 - (m : Int)) = (M : Int) := by
            have := Go.Lib.wrap_i64_small (1 - m) (by omega)
            rw [hM1]
            rwa [show ((1 - m : Nat) : Int) = 1 - (m : Int) by omega] at this ⊢
          have hd := (Below.refl wr.heap.size wr).drew
          have KLd := hid (Blk.below KL.out hd)
          have HSd := hid (owns_below HS.out hd)
          have HRd := hid (RcR.below HR.out hd)
          have HPd := hid (PaysO.below HP.out hd)
          have HBd := hid (HB.out.drew)
          clear hd KL HS HR HP
          have z4 := fun y : SubT (KpC w.heap.size) wr.drew => (y.b.c 4 (by decide)).trans (KLd.out.look 4 rfl)
          have hM : M < 2 := by omega
          have hrun := run_of_torn (aa := d.b m) (ao := []) (t := c.t) (s := c.s) (rs := c.rs) (g := c.g) ⟨HOM.out.1, .inl noA_nil⟩ hg1
          obtain ⟨F, hFF⟩ : ∃ F, F = frms (lay G c.rs.length c.s c.rs) := ⟨_, rfl⟩
          have HFF := hid hFF
          have HFl : Hid (F.length ≤ d.most) := hid (by rw [hFF, hG1]; exact Nat.le_trans hrun.2 (HLE.out m hm2))
          have HOP : Hid (op = ⟨opF d M F, G, M, c.s, c.rs⟩) := hid (by rw [← hbe, hFF, hG1, hM1]; exact if_pos ht)
          clear hrun hFF hbe hG1 hM1 hne HL HBE HKL HBL hm0 hg1 hg2 HDr HGr HOM
          refine wp_walkJ (T := KpC w.heap.size) (kpC_pre _) (.rd 0 (.rd 1 (.rd 2 (.rd 3 (.rd 4 (.rd 5 (.rd 8 (.rd 9 (.rd 10 (.rd 11 (.rd 12 (.mv 6 (.rd 7 (.rd 13 (.rd 14 (.rd 15 (.mv 16 (.rd 17 (.rd 18 (.bt 19 (.inv []))))))))))))))))))))) (by kernel_rfl) rfl (by kernel_rfl) (by kernel_rfl) ?_
          iterate 11 (refine walkJ_rd rfl (fun K hK => ?_); go_simp; refine hK _ ?_; clear hK K)
          clear z4
          have hlt := KLd.out.lt
          have x0 := KLd.out.look 0 rfl
          generalize wr.drew = W0 at KLd HSd HRd HPd HBd hlt x0 ⊢
          have f0 := KLd.out.frozen 0
          (refine walkJ_mv rfl (fun K hK => ?_); go_simp; refine hK _ _ ((kpC_pre _).refl _) ?_; clear hK K)
          iterate 4 (refine walkJ_rd rfl (fun K hK => ?_); go_simp; refine hK _ ?_; clear hK K)
          (refine walkJ_mv rfl (fun K hK => ?_); go_simp; refine hK _ _ ⟨Keep.set _ (fun h => h rfl) _, fun j hj => KpC.oth _ _ hj⟩ ?_; clear hK K)
          clear x0 f0
          iterate 2 (refine walkJ_rd rfl (fun K hK => ?_); go_simp; refine hK _ ?_; clear hK K)
          have x4 := (KLd.out.set 0 (.int .i64 (G : Int))).look 4 rfl
          have f4 := (KLd.out.set 0 (.int .i64 (G : Int))).frozen 4
          (refine walkJ_bt rfl (fun K hK => ?_); go_simp; refine hK _ _ ?_; clear hK K)
          refine walkJ_nil ?_
          clear x4 f4 hlt hw1 hw2
          have hk5 : Keep (· ≠ w.heap.size) W0 ((W0.setCell ⟨w.heap.size, 0, none⟩ (.int .i64 (G : Int))).setCell ⟨w.heap.size, 4, none⟩ (.int .i64 (M : Int))) := (Keep.set W0 (p := ⟨w.heap.size, 0, none⟩) (fun h => h rfl) _).trans (Keep.set _ (p := ⟨w.heap.size, 4, none⟩) (fun h => h rfl) _)
          have KLW : Hid (Blk _ w.heap.size #[.int .i64 (G : Int), vs, vr, .pointer (some ⟨gd, 0, none⟩), .int .i64 (M : Int), .bool false] 115) := hid ((KLd.out.set 0 (.int .i64 (G : Int))).set 4 (.int .i64 (M : Int)))
          have HSW := hid (hk5.owns HSd.out (owns_blk_neT HSd.out KLd.out (by decide)))
          have HRW := hid (HRd.out.keep hk5 (HRd.out.ne_blk KLd.out (by decide)))
          have HPW := hid (HPd.out.keep hk5 (fun i hi => owns_blk_neT (HPd.out.2 i hi) KLd.out (by decide)))
          have hbw := hk5.below HBd.out.size (fun k hk => by omega)
          have HDW := hid (HD.out.below (HBd.out.trans hbw))
          have HGW : Hid (DkG w _ gd v v) := hid (DkG.of_below (HBd.out.trans hbw))
          clear hk5 hbw KLd HSd HRd HPd HBd
          generalize (W0.setCell ⟨w.heap.size, 0, none⟩ (.int .i64 (G : Int))).setCell ⟨w.heap.size, 4, none⟩ (.int .i64 (M : Int)) = W at KLW HSW HRW HPW HDW HGW ⊢
          obtain ⟨Gi, hGi⟩ : ∃ z : Int, (G : Int) = z := ⟨_, rfl⟩
          obtain ⟨Mi, hMi⟩ : ∃ z : Int, (M : Int) = z := ⟨_, rfl⟩
          rw [hGi, hMi] at KLW
          have HG' := hid hGi
          have HM' := hid hMi
          clear hGi hMi
          obtain ⟨av, cv, rfl, -⟩ := SlR.of_owns HSW.out
          obtain ⟨ar, cr, rfl, -⟩ := HRW.out.sl
          obtain ⟨nr, hnr⟩ : ∃ z, rvs.length = z := ⟨_, rfl⟩
          rw [hnr] at KLW HRW
          obtain ⟨s0, hs0⟩ : ∃ s : Bts, s = c.s := ⟨_, rfl⟩
          obtain ⟨rs0, hrs0⟩ : ∃ s : List Bts, s = c.rs := ⟨_, rfl⟩
          obtain ⟨rvs0, hrvs0⟩ : ∃ s : List Value, s = rvs := ⟨_, rfl⟩
          obtain ⟨ns, hns⟩ : ∃ n, c.s.length = n := ⟨_, rfl⟩
          have hsl : s0.length = ns := by rw [hs0]; exact hns
          rw [hns] at KLW HSW
          rw [← hs0] at HSW HOP HFF
          rw [← hrs0] at HPW HOP HFF
          rw [← hrvs0] at HRW HPW
          replace HSW : Hid (W.ownsRow w.heap.size 5 1 (.slice av ns cv) s0.length (u8V s0)) := hid (by rw [hsl]; exact HSW.out)
          have HSL := hid hsl
          clear hs0 hrs0 hrvs0 hns hnr hsl
          go_wp2_with fail
          have zg := fun y : SubT (Below W.heap.size) W.drew => (Blk.below KLW.out ((Below.refl W.heap.size W).drew.trans y.b)).look 0 rfl
          have zs := fun y : SubT (Below W.heap.size) W.drew => (Blk.below KLW.out ((Below.refl W.heap.size W).drew.trans y.b)).look 1 rfl
          have zr := fun y : SubT (Below W.heap.size) W.drew => (Blk.below KLW.out ((Below.refl W.heap.size W).drew.trans y.b)).look 2 rfl
          have zm := fun y : SubT (Below W.heap.size) W.drew => (Blk.below KLW.out ((Below.refl W.heap.size W).drew.trans y.b)).look 4 rfl
          refine wp_walkJ (T := Below (W.heap.size)) (belowV_pre _) (.rd 0 (.rd 1 (.rd 2 (.rd 3 (.rd 4 (.rd 5 (.rd 6 (.rd 7 (.rd 8 (.bt 9 (.rd 10 (.inv [])))))))))))) (by kernel_rfl) rfl (by kernel_rfl) (by kernel_rfl) ?_
          iterate 9 (refine walkJ_rd rfl (fun K hK => ?_); go_simp; refine hK _ ?_; clear hK K)
          clear zg zs zr zm
          have hd := (Below.refl W.heap.size W).drew
          have KL5 := hid (Blk.below KLW.out hd)
          have HS5 := hid (owns_below HSW.out hd)
          have HR5 := hid (RcR.below HRW.out hd)
          have HP5 := hid (PaysO.below HPW.out hd)
          have HD5 := hid (DkR.below HDW.out hd)
          have HG5 := hid (HGW.out.trans (DkG.of_below hd))
          clear hd KLW HSW HRW HPW HDW HGW
          generalize W.drew = W5 at KL5 HS5 HR5 HP5 HD5 HG5 ⊢
          have WR := hid (write_any gd M v d G s0 rs0 _ _ rvs0 W5 HD5.out hM w.heap.size hDS.out HS5.out HR5.out HP5.out (by rw [← HFF.out]; have := HFl.out; omega))
          rw [← HFF.out, (wr_on hon hfu HFl.out).1, (wr_on hon hfu HFl.out).2] at WR
          unfold cntV at WR
          rw [HG'.out, HM'.out] at WR
          (refine walkJ_bt rfl (fun K hK => ?_); go_simp; refine WR.out.mono ?_; rintro r w6 ⟨rfl, v6, hd6, hg6⟩; refine ⟨_, rfl, hK _ _ ?_⟩; clear hK K)
          have hno : ∀ x, w.heap.size ≤ x → ¬ DS gd v x := fun x hx e => by have := hDS.out x e; omega
          have KL6 := hid (hg6.keep.blk KL5.out (hno _ (Nat.le_refl _)))
          have HS6 := hid (hg6.keep.owns HS5.out (fun b hb => hno b (HS5.out.lt b hb).1))
          have HR6 := hid (HR5.out.keep hg6.keep (fun b hb => hno b (HR5.out.lo hb)))
          have HP6 := hid (HP5.out.keep hg6.keep (fun i hi b hb => hno b ((HP5.out.2 i hi).lt b hb).1))
          have HD6 := hid hd6
          have HG6 := hid (HG5.out.trans hg6)
          clear hno WR hd6 hg6 KL5 HS5 HR5 HP5 HD5 HG5
          iterate 1 (refine walkJ_rd rfl (fun K hK => ?_); go_simp; refine hK _ ?_; clear hK K)
          refine walkJ_nil ?_
          go_wp2
          go_ret2
          rw [HOP.out]
          exact ⟨rfl, v6, _, _, by rw [← HG'.out, ← HM'.out] at KL6; exact KL6.out, HS6.out, rvs0, HR6.out, HP6.out, HD6.out, HG6.out⟩
    case pos =>
      have hn1 : (n : Int) < 2 := by omega
      go_wp2_with fail
      refine (RD.out n hn wr HB.out).mono ?_
      rintro r w1 ⟨⟨v1, rfl, ho1⟩, hb1⟩
      have hBs : BsR w1 v1 (d.b n) := bs_of_owns ho1 rfl
      have hdl : (d.b n).length ≤ 2000000 := by have := HLE.out n hn; omega
      have HB1 := hid (HB.out.trans (hb1.mono HB.out.size))
      have HL1 := hid (HL.out.below hb1)
      have HBS := hid hBs
      clear hBs ho1 hb1 HL HB
      cases hon : o n with
      | none =>
        have hpo := ho n hn
        rw [hon] at hpo
        have PA := hid (parse_no (d.b n) hpo v1 w1 HBS.out hdl)
        have hbe : Hid (b = match n + 1 with | 0 => none | 1 => bst none 0 (o 0) | _ => bst (bst none 0 (o 0)) 1 (o 1)) := hid (by
          obtain rfl | rfl : n = 0 ∨ n = 1 := by omega
          · rw [HBE.out]; show none = bst none 0 (o 0); rw [hon]; rfl
          · rw [HBE.out]; show bst none 0 (o 0) = bst _ 1 (o 1); rw [hon]; rfl)
        clear hpo hon HBE
        unfold cntV at PA
        go_wp2_with fail
        refine PA.out.mono ?_
        rintro r w2 ⟨rfl, hb2⟩
        have HB2 := hid (HB1.out.trans (hb2.mono HB1.out.size))
        have HL2 := hid (HL1.out.below hb2)
        clear PA hb2 HB1 HL1
        go_wp2_with fail
        refine wp_walkJ (T := Below (w2.heap.size)) (belowV_pre _) (.rd 0 (.rd 1 (.rd 2 (.rd 3 (.rd 4 (.rd 5 (.rd 6 (.rd 7 (.rd 8 (.rd 9 (.rd 10 (.rd 11 (.rd 12 (.rd 13 (.rd 14 (.rd 15 (.rd 16 (.rd 17 (.inv []))))))))))))))))))) (by kernel_rfl) rfl (by kernel_rfl) (by kernel_rfl) ?_
        iterate 18 (refine walkJ_rd rfl (fun K hK => ?_); go_simp; refine hK _ ?_; clear hK K)
        refine walkJ_nil ?_
        go_wp2_with fail
        have bc := alloc_below w2 (.cells #[.int .i64 0, .slice none 0 0, .slice none 0 0] 113)
        have HL3 := hid ((HL2.out.below bc).below (Below.refl _ _).drew)
        have HB3 := hid (((HB2.out.trans (bc.mono HB2.out.size))).drew)
        clear bc HL2 HB2
        go_roundw
        case rel => exact ⟨n + 1, by go_num, by omega, b, rfl, hbe, HL3, HB3⟩
        case measure => simp [intOf]; omega
      | some c =>
        have hpo := ho n hn
        rw [hon] at hpo
        obtain ⟨hA, hc1, hc2⟩ := hpo
        have PA := hid (parse_are c.g c.s c.rs c.t (d.b n) hA hc1 (by omega) v1 w1 HBS.out hdl)
        have hbe : Hid (bst b n (some c) = match n + 1 with | 0 => none | 1 => bst none 0 (o 0) | _ => bst (bst none 0 (o 0)) 1 (o 1)) := hid (by
          obtain rfl | rfl : n = 0 ∨ n = 1 := by omega
          · rw [HBE.out]; show bst none 0 (some c) = bst none 0 (o 0); rw [hon]
          · rw [HBE.out]; show bst (bst none 0 (o 0)) 1 (some c) = bst _ 1 (o 1); rw [hon])
        clear hA hon HBE
        unfold cntV at PA
        go_wp2_with fail
        refine PA.out.mono ?_
        rintro r w2 ⟨⟨vs, vr, rfl, hs2, rvs, hr2, hp2⟩, hb2⟩
        have HS2 := hid (owns_low hs2 HB1.out.size)
        have HR2 := hid (hr2.mono HB1.out.size)
        have HP2 : Hid (PaysO w.heap.size w2 rvs c.rs) := hid ⟨hp2.1, fun i hi => owns_low (hp2.2 i hi) HB1.out.size⟩
        have HB2 := hid (HB1.out.trans (hb2.mono HB1.out.size))
        have HL2 := hid (HL1.out.below hb2)
        obtain ⟨av, cv, rfl, -⟩ := SlR.of_owns hs2
        obtain ⟨ar, cr, rfl, -⟩ := hr2.sl
        obtain ⟨tb, htb⟩ : ∃ z, decide (0 < c.t.length) = z := ⟨_, rfl⟩
        rw [htb]
        have HTB := hid htb
        clear PA hs2 hr2 hp2 hb2 HB1 HL1 htb
        obtain ⟨nr, hnr⟩ : ∃ z, rvs.length = z := ⟨_, rfl⟩
        rw [hnr] at HR2 ⊢
        obtain ⟨ns, hns⟩ : ∃ z, c.s.length = z := ⟨_, rfl⟩
        rw [hns] at HS2 ⊢
        have HNS := hid hns
        clear hnr hns
        have kC := Blk.new w2 #[.int .i64 (c.g : Int), .slice av ns cv, .slice ar nr cr] 113
        have bC := alloc_below w2 (.cells #[.int .i64 (c.g : Int), .slice av ns cv, .slice ar nr cr] 113)
        have hgc : w.heap.size < w2.heap.size := HL2.out.lt
        have HL3 := hid (HL2.out.below bC)
        have HS3 := hid (owns_below HS2.out bC)
        have HR3 := hid (HR2.out.below bC)
        have HP3 := hid (HP2.out.below bC)
        have HB3 := hid (HB2.out.trans (bC.mono HB2.out.size))
        have KC := hid kC
        clear kC bC HL2 HS2 HR2 HP2 HB2
        cases b with
        | none =>
          have hbb : Hid (bst none n (some c) = some (n, c)) := hid rfl
          go_wp2_with fail
          generalize w2.heap.size = gc at hgc KC ⊢
          generalize w2.alloc (.cells #[.int .i64 (c.g : Int), .slice av ns cv, .slice ar nr cr] 113) = W at HL3 HS3 HR3 HP3 HB3 KC ⊢
          have kL : Blk W w.heap.size #[.int .i64 0, .slice none 0 0, .slice none 0 0, .pointer (some ⟨gd, 0, none⟩), .int .i64 (-1), .bool false] 115 := HL3.out
          have zl := fun y : SubT (Below W.heap.size) W.drew => (Blk.below HL3.out ((Below.refl W.heap.size W).drew.trans y.b)).look 4 rfl
          refine wp_walkJ (T := Below (W.heap.size)) (belowV_pre _) (.rd 0 (.rd 1 (.rd 2 (.rd 3 (.rd 4 (.rd 5 (.rd 6 (.rd 7 (.rd 8 (.rd 9 (.rd 10 (.rd 11 (.rd 12 (.rd 13 (.rd 14 (.rd 15 (.rd 16 (.rd 17 (.inv []))))))))))))))))))) (by kernel_rfl) rfl (by kernel_rfl) (by kernel_rfl) ?_
          iterate 18 (refine walkJ_rd rfl (fun K hK => ?_); go_simp; refine hK _ ?_; clear hK K)
          clear zl
          refine walkJ_nil ?_
          have hd := (Below.refl W.heap.size W).drew
          have KL := hid (Blk.below kL hd)
          have KC4 := hid (KC.out.below hd)
          have HS4 := hid (owns_below HS3.out hd)
          have HR4 := hid (HR3.out.below hd)
          have HP4 := hid (HP3.out.below hd)
          have HB4 := hid (HB3.out.drew)
          clear kL hd KC HS3 HR3 HP3 HB3 HL3
          generalize W.drew = W4 at KL KC4 HS4 HR4 HP4 HB4 ⊢
          have y0 := KL.out.look 0 rfl
          have y1 := KL.out.look 1 rfl
          have y2 := KL.out.look 2 rfl
          have y4 := KL.out.look 4 rfl
          have f0 := KL.out.frozen 0
          have f1 := KL.out.frozen 1
          have f2 := KL.out.frozen 2
          have f4 := KL.out.frozen 4
          have ll := KL.out.lt
          have c0 := KC4.out.look 0 rfl
          have c1' := KC4.out.look 1 rfl
          have c2' := KC4.out.look 2 rfl
          have hk5 : Keep (· ≠ w.heap.size) W4 ((((W4.setCell ⟨w.heap.size, 0, none⟩ (.int .i64 (c.g : Int))).setCell ⟨w.heap.size, 1, none⟩ (.slice av ns cv)).setCell ⟨w.heap.size, 2, none⟩ (.slice ar nr cr)).setCell ⟨w.heap.size, 4, none⟩ (.int .i64 (n : Int))) := (((Keep.set W4 (p := ⟨w.heap.size, 0, none⟩) (fun h => h rfl) _).trans (Keep.set _ (p := ⟨w.heap.size, 1, none⟩) (fun h => h rfl) _)).trans (Keep.set _ (p := ⟨w.heap.size, 2, none⟩) (fun h => h rfl) _)).trans (Keep.set _ (p := ⟨w.heap.size, 4, none⟩) (fun h => h rfl) _)
          have HL5 : Hid (LSt w.heap.size ((((W4.setCell ⟨w.heap.size, 0, none⟩ (.int .i64 (c.g : Int))).setCell ⟨w.heap.size, 1, none⟩ (.slice av ns cv)).setCell ⟨w.heap.size, 2, none⟩ (.slice ar nr cr)).setCell ⟨w.heap.size, 4, none⟩ (.int .i64 (n : Int))) w.heap.size gd (some (n, c))) := hid ⟨.slice av ns cv, .slice ar nr cr, rvs, (((KL.out.set 0 (.int .i64 (c.g : Int))).set 1 (.slice av ns cv)).set 2 (.slice ar nr cr)).set 4 (.int .i64 (n : Int)),
            by rw [HNS.out]; exact hk5.owns HS4.out (owns_blk_neT HS4.out KL.out (by decide)), HR4.out.keep hk5 (HR4.out.ne_blk KL.out (by decide)), HP4.out.keep hk5 (fun i hi => owns_blk_neT (HP4.out.2 i hi) KL.out (by decide)), hn, hc1, hc2⟩
          have HB5 := hid (HB4.out.trans (hk5.below HB4.out.size (fun k hk => by omega)))
          clear hk5 KL KC4 HS4 HR4 HP4 HB4
          go_wp2_with fail
          go_roundw
          case rel => exact ⟨n + 1, by go_num, by omega, some (n, c), by show _ = Value.bool (decide (0 < c.t.length)); rw [HTB.out], hid (by rw [← hbe.out, hbb.out]), HL5, HB5⟩
          case measure => simp [intOf]; omega
        | some p =>
          obtain ⟨m, c'⟩ := p
          obtain ⟨vs', vr', rvs', hL, hs', hr', hp', hm2, hg1, hg2⟩ := HL3.out
          go_wp2_with fail
          generalize w2.heap.size = gc at hgc KC ⊢
          generalize w2.alloc (.cells #[.int .i64 (c.g : Int), .slice av ns cv, .slice ar nr cr] 113) = W at HL3 HS3 HR3 HP3 HB3 KC hL hs' hr' hp' ⊢
          have zl := fun y : SubT (Below W.heap.size) W.drew => (Blk.below hL ((Below.refl W.heap.size W).drew.trans y.b)).look 4 rfl
          have zg := fun y : SubT (Below W.heap.size) W.drew => (Blk.below hL ((Below.refl W.heap.size W).drew.trans y.b)).look 0 rfl
          have zc := fun y : SubT (Below W.heap.size) W.drew => (Blk.below KC.out ((Below.refl W.heap.size W).drew.trans y.b)).look 0 rfl
          have hm0 : ¬ (m : Int) < 0 := by omega
          by_cases hlt : c'.g < c.g
          case pos =>
            have hlt2 : (c'.g : Int) < (c.g : Int) := by omega
            have hbb : Hid (bst (some (m, c')) n (some c) = some (n, c)) := hid (if_pos hlt)
            have kL : Blk W w.heap.size #[.int .i64 (c'.g : Int), vs', vr', .pointer (some ⟨gd, 0, none⟩), .int .i64 (m : Int), .bool false] 115 := hL
            clear hs' hr' hp'
            refine wp_walkJ (T := Below (W.heap.size)) (belowV_pre _) (.rd 0 (.rd 1 (.rd 2 (.rd 3 (.rd 4 (.rd 5 (.rd 6 (.rd 7 (.rd 8 (.rd 9 (.rd 10 (.rd 11 (.rd 12 (.rd 13 (.rd 14 (.rd 15 (.rd 16 (.rd 17 (.inv []))))))))))))))))))) (by kernel_rfl) rfl (by kernel_rfl) (by kernel_rfl) ?_
            iterate 18 (refine walkJ_rd rfl (fun K hK => ?_); go_simp; refine hK _ ?_; clear hK K)
            clear zl zg zc hL
            refine walkJ_nil ?_
            have hd := (Below.refl W.heap.size W).drew
            have KL := hid (Blk.below kL hd)
            have KC4 := hid (KC.out.below hd)
            have HS4 := hid (owns_below HS3.out hd)
            have HR4 := hid (HR3.out.below hd)
            have HP4 := hid (HP3.out.below hd)
            have HB4 := hid (HB3.out.drew)
            clear kL hd KC HS3 HR3 HP3 HB3 HL3
            generalize W.drew = W4 at KL KC4 HS4 HR4 HP4 HB4 ⊢
            have y0 := KL.out.look 0 rfl
            have y1 := KL.out.look 1 rfl
            have y2 := KL.out.look 2 rfl
            have y4 := KL.out.look 4 rfl
            have f0 := KL.out.frozen 0
            have f1 := KL.out.frozen 1
            have f2 := KL.out.frozen 2
            have f4 := KL.out.frozen 4
            have ll := KL.out.lt
            have c0 := KC4.out.look 0 rfl
            have c1' := KC4.out.look 1 rfl
            have c2' := KC4.out.look 2 rfl
            have hk5 : Keep (· ≠ w.heap.size) W4 ((((W4.setCell ⟨w.heap.size, 0, none⟩ (.int .i64 (c.g : Int))).setCell ⟨w.heap.size, 1, none⟩ (.slice av ns cv)).setCell ⟨w.heap.size, 2, none⟩ (.slice ar nr cr)).setCell ⟨w.heap.size, 4, none⟩ (.int .i64 (n : Int))) := (((Keep.set W4 (p := ⟨w.heap.size, 0, none⟩) (fun h => h rfl) _).trans (Keep.set _ (p := ⟨w.heap.size, 1, none⟩) (fun h => h rfl) _)).trans (Keep.set _ (p := ⟨w.heap.size, 2, none⟩) (fun h => h rfl) _)).trans (Keep.set _ (p := ⟨w.heap.size, 4, none⟩) (fun h => h rfl) _)
            have HL5 : Hid (LSt w.heap.size ((((W4.setCell ⟨w.heap.size, 0, none⟩ (.int .i64 (c.g : Int))).setCell ⟨w.heap.size, 1, none⟩ (.slice av ns cv)).setCell ⟨w.heap.size, 2, none⟩ (.slice ar nr cr)).setCell ⟨w.heap.size, 4, none⟩ (.int .i64 (n : Int))) w.heap.size gd (some (n, c))) := hid ⟨.slice av ns cv, .slice ar nr cr, rvs, (((KL.out.set 0 (.int .i64 (c.g : Int))).set 1 (.slice av ns cv)).set 2 (.slice ar nr cr)).set 4 (.int .i64 (n : Int)),
              by rw [HNS.out]; exact hk5.owns HS4.out (owns_blk_neT HS4.out KL.out (by decide)), HR4.out.keep hk5 (HR4.out.ne_blk KL.out (by decide)), HP4.out.keep hk5 (fun i hi => owns_blk_neT (HP4.out.2 i hi) KL.out (by decide)), hn, hc1, hc2⟩
            have HB5 := hid (HB4.out.trans (hk5.below HB4.out.size (fun k hk => by omega)))
            clear hk5 KL KC4 HS4 HR4 HP4 HB4
            go_wp2_with fail
            go_roundw
            case rel => exact ⟨n + 1, by go_num, by omega, some (n, c), by show _ = Value.bool (decide (0 < c.t.length)); rw [HTB.out], hid (by rw [← hbe.out, hbb.out]), HL5, HB5⟩
            case measure => simp [intOf]; omega
          case neg =>
            have hlt2 : ¬ (c'.g : Int) < (c.g : Int) := by omega
            have hbb : Hid (bst (some (m, c')) n (some c) = some (m, c')) := hid (if_neg hlt)
            refine wp_walkJ (T := Below (W.heap.size)) (belowV_pre _) (.rd 0 (.rd 1 (.rd 2 (.rd 3 (.rd 4 (.rd 5 (.rd 6 (.rd 7 (.rd 8 (.rd 9 (.rd 10 (.rd 11 (.rd 12 (.rd 13 (.rd 14 (.rd 15 (.rd 16 (.rd 17 (.inv []))))))))))))))))))) (by kernel_rfl) rfl (by kernel_rfl) (by kernel_rfl) ?_
            iterate 18 (refine walkJ_rd rfl (fun K hK => ?_); go_simp; refine hK _ ?_; clear hK K)
            clear zl zg zc
            refine walkJ_nil ?_
            have hd := (Below.refl W.heap.size W).drew
            have HL4 := hid (HL3.out.below hd)
            have HB4 := hid (HB3.out.drew)
            clear hd HL3 HB3 HS3 HR3 HP3 KC hL hs' hr' hp'
            generalize W.drew = W4 at HL4 HB4 ⊢
            go_wp2_with fail
            go_roundw
            case rel => exact ⟨n + 1, by go_num, by omega, some (m, c'), rfl, hid (by rw [← hbe.out, hbb.out]), HL4, HB4⟩
            case measure => simp [intOf]; omega

end Go.Proofs.Ytcpefolhohakmaa
