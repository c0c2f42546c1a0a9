/- Walk of tranklaw04.GradeConflicts. -/
import Derived.Test.YtmknengmjepdaaaLj
import Derived.Test.YtmknengmjepdaaaSi
import Derived.Test.YtmknengmjepdaaaQj
namespace Go.Proofs.Ytmknengmjepdaaa
open Go.RowKit

theorem sgn_lt (a b : Rat) : sgnQ (a - b) < 0 ↔ a < b := by
  unfold sgnQ
  constructor
  · intro h
    apply Decidable.byContradiction
    intro hn
    have h1 : ¬ (a - b < 0) := fun h2 => hn (by grind)
    simp only [h1, if_false] at h
    split at h <;> omega
  · intro h
    have h1 : a - b < 0 := by grind
    simp only [h1, if_true]
    decide
theorem sgn_gt (a b : Rat) : sgnQ (a - b) > 0 ↔ b < a := by
  unfold sgnQ
  constructor
  · intro h
    have h1 : ¬ (a - b < 0) := fun h2 => by simp only [h2, if_true] at h; omega
    simp only [h1, if_false] at h
    split at h
    · omega
    · grind
  · intro h
    have h1 : ¬ (a - b < 0) := by grind
    have h2 : ¬ (a - b = 0) := by grind
    simp only [h1, h2, if_false]
    decide

/-- A rational in a box. -/
structure CBox (W : World) (B : Nat) (q : Rat) (b : Bool) (x1 : Option Addr) (m1 d1 : Nat) (x2 : Option Addr) (m2 d2 : Nat) : Prop where
  k : Blk W B #[.bool b, .slice x1 m1 d1, .slice x2 m2 d2] 43
  qf : QF 0 W (.agg #[.bool b, .slice x1 m1 d1, .slice x2 m2 d2]) q
  s : QS 268435456 q
section
variable {W W' : World} {B C : Nat} {q r : Rat} {b b' : Bool} {x1 x2 y1 y2 : Option Addr} {m1 d1 m2 d2 n1 e1 n2 e2 : Nat}
theorem CBox.below (h : CBox W B q b x1 m1 d1 x2 m2 d2) (hb : Below W.heap.size W W') : CBox W' B q b x1 m1 d1 x2 m2 d2 := ⟨h.k.below hb, h.qf.below hb, h.s⟩
theorem CBox.put (h : CBox W B q b x1 m1 d1 x2 m2 d2) (hq : QF 0 W (.agg #[.bool b', .slice y1 n1 e1, .slice y2 n2 e2]) r) (hs : QS 268435456 r) :
    CBox (((W.setCell ⟨B, 0, none⟩ (.bool b')).setCell ⟨B, 1, none⟩ (.slice y1 n1 e1)).setCell ⟨B, 2, none⟩ (.slice y2 n2 e2)) B r b' y1 n1 e1 y2 n2 e2 :=
  ⟨(q_box hq h.k).2, (q_box hq h.k).1, hs⟩
theorem CBox.keep (h : CBox W B q b x1 m1 d1 x2 m2 d2) {t : TypeId} {b0 : Bool} {a1 a2 : Option Addr} {f1 g1 f2 g2 : Nat} (k : Blk W C #[.bool b0, .slice a1 f1 g1, .slice a2 f2 g2] t) (hne : B ≠ C) :
    CBox (((W.setCell ⟨C, 0, none⟩ (.bool b')).setCell ⟨C, 1, none⟩ (.slice y1 n1 e1)).setCell ⟨C, 2, none⟩ (.slice y2 n2 e2)) B q b x1 m1 d1 x2 m2 d2 := by
  obtain ⟨hk, ⟨n, d, hv, h1, h2⟩, hs⟩ := h
  have k1 := k.set 0 (.bool b')
  have k2 := k1.set 1 (.slice y1 n1 e1)
  exact ⟨((hk.other (p := ⟨C, 0, none⟩) hne _).other (p := ⟨C, 1, none⟩) hne _).other (p := ⟨C, 2, none⟩) hne _, ⟨n, d, hv, nat_box (nat_box (nat_box h1 k 0 _) k1 1 _) k2 2 _, nat_box (nat_box (nat_box h2 k 0 _) k1 1 _) k2 2 _⟩, hs⟩
end

theorem conf_list {p : Pat} {lo : Nat} {W : World} {v : Value} (h : ConfOk p lo W v) : ∃ (g : Nat) (zs : List (Value × Int × Int)), v = .slice (some ⟨g, 0, none⟩) zs.length zs.length ∧ g < W.heap.size ∧ (zs.length = 1 ∨ zs.length = 2) ∧
    (∀ i z, zs[i]? = some z → W.cell? ⟨g, i, none⟩ = some z.1 ∧ (∃ es, LoopIn p 0 W z.1 es ∧ sumC es = z.2.1 ∧ sumD es = z.2.2) ∧ (z.2.2 = 0 → 0 < z.2.1)) ∧
    (zs.foldl (fun s z => stC s z.2.1 z.2.2) (0, 40)).2 < (zs.foldl (fun s z => stC s z.2.1 z.2.2) (0, 40)).1 := by
  rcases h with ⟨g, v1, es, h1, h2, h3, h4, h5⟩ | ⟨g, v1, v2, es1, es2, h1, h2, h3, h4, h5, h6, h7, h8⟩
  · refine ⟨g, [(v1, sumC es, sumD es)], h1, h3.lt, .inl rfl, fun i z hz => ?_, gap_one h5⟩
    match i, hz with
    | 0, hz =>
      obtain rfl : (v1, sumC es, sumD es) = z := by simpa using hz
      exact ⟨h3.look 0 rfl, ⟨es, h4.mono (Nat.zero_le _), rfl, rfl⟩, fun h0 => by dsimp only at h0 ⊢; omega⟩
    | n + 1, hz => simp at hz
  · refine ⟨g, [(v1, sumC es1, sumD es1), (v2, sumC es2, sumD es2)], h1, h3.lt, .inr rfl, fun i z hz => ?_, gap_two h6 h7 h8⟩
    match i, hz with
    | 0, hz =>
      obtain rfl : (v1, sumC es1, sumD es1) = z := by simpa using hz
      exact ⟨h3.look 0 rfl, ⟨es1, h4.mono (Nat.zero_le _), rfl, rfl⟩, fun h0 => by dsimp only at h0 ⊢; omega⟩
    | 1, hz =>
      obtain rfl : (v2, sumC es2, sumD es2) = z := by simpa using hz
      refine ⟨h3.look 1 rfl, ⟨es2, h5.mono (Nat.zero_le _), rfl, rfl⟩, fun h0 => ?_⟩
      dsimp only at h0 ⊢
      rw [h0] at h8
      exact Int.pos_of_mul_pos_left (b := -sumD es1) (by omega) (by omega)
    | n + 2, hz => simp at hz

set_option maxHeartbeats 4000000 in
set_option maxRecDepth 100000 in
theorem GradeConflicts_any (p : Pat) (v : Value) (w : World) (h : PatF 0 w v p) :
    Calls Try.prog 12 #[v] w fun e w' => e = .returned (.bool true) ∧ Below w.heap.size w w' := by
  obtain ⟨sv, rfl, -⟩ := id h
  have H := hid h
  go_enter Try.func12, Try.ntmps12
  go_wp2_with fail
  have k0 := Blk.new w #[.int .i64 p.n, sv] 24
  have b0 := (Below.refl w.heap.size w).alloc (Nat.le_refl _) (.cells #[.int .i64 p.n, sv] 24)
  obtain ⟨w0, hw0⟩ : ∃ w0, w.alloc (.cells #[.int .i64 p.n, sv] 24) = w0 := ⟨_, rfl⟩
  rw [hw0] at k0 b0 ⊢
  clear hw0 h
  have c0 := k0.look 0 rfl
  have c1 := k0.look 1 rfl
  go_wp2_with fail
  refine (of_any p _ _ (H.out.below b0)).mono ?_
  rintro e w1 ⟨v1, rfl, hv1, hb1⟩
  replace b0 := b0.trans (hb1.mono b0.size)
  replace k0 := k0.below hb1
  obtain ⟨s1, rfl, -⟩ := id hv1
  clear c0 c1 hb1
  go_wp2_with fail
  refine (gConflict_any (p71 p) _ _ (hv1.mono (Nat.zero_le _))).mono ?_
  rintro e w2 ⟨⟨conf, E, rfl, hg⟩, hb2⟩
  replace b0 := b0.trans (hb2.mono b0.size)
  replace k0 := k0.below hb2
  have hs2 := b0.size
  have HG := hid hg
  have c0 := k0.look 0 rfl
  have c1 := k0.look 1 rfl
  clear hg hb2 hv1
  go_wp2_with fail
  refine (rSizes_any p _ _ (H.out.below b0)).mono ?_
  rintro e w4 ⟨⟨ln, ld, hn, hd, E2, rfl, hg2⟩, hb4⟩
  have b1 := b0.trans (hb4.mono hs2)
  replace k0 := k0.below hb4
  clear c0 c1
  have hs4 := b1.size
  have b2 := (b1.alloc hs4 (.cells #[.int .i64 ln, .int .i64 ld] 26)).alloc (by simp <;> omega) (.cells #[.int .i64 hn, .int .i64 hd] 26)
  have k2 := (k0.alloc (.cells #[.int .i64 ln, .int .i64 ld] 26)).alloc (.cells #[.int .i64 hn, .int .i64 hd] 26)
  have b24 : Below w2.heap.size w2 ((w4.alloc (.cells #[.int .i64 ln, .int .i64 ld] 26)).alloc (.cells #[.int .i64 hn, .int .i64 hd] 26)) := (hb4.alloc hb4.size _).alloc (by have := hb4.size; simp <;> omega) _
  rcases HG.out with ⟨h1, rfl, rfl⟩ | ⟨h1, h2, rfl, hconf⟩ | ⟨h1, rfl, rfl, hok⟩
  · have hE2 : E2 = 2 := by
      rcases hg2 with ⟨_, h3, _⟩ | ⟨h3, _⟩ | ⟨h3, _⟩
      · exact h3
      · exact absurd ((p71_cases p).elim (fun h4 => by rw [h4]; exact h3) (fun h4 => absurd h3 h4.1)) h1
      · exact absurd ((p71_cases p).elim (fun h4 => by rw [h4]; exact h3) (fun h4 => absurd h3 h4.1)) h1
    subst hE2
    clear hg2 hb4 k0 k2 b24 hs4
    go_wp2_with fail
    refine (awake_any _).mono ?_
    rintro e wz ⟨rfl, hbz⟩
    go_wp2
    go_ret
    exact ⟨rfl, b2.trans (hbz.mono b2.size)⟩
  · have e71 : p71 p = p := (p71_cases p).resolve_right fun hh => hh.2 h1
    rw [e71] at h1 h2 hconf
    have hE2 : E2 = 10 := by
      rcases hg2 with ⟨h3, _⟩ | ⟨_, _, h3, _⟩ | ⟨_, _, h3⟩
      · exact absurd h1 h3
      · exact h3
      · exact (szok_no h3 h2).elim
    subst hE2
    obtain ⟨g, zs, rfl, hgl, hlen, hall, hgap⟩ := conf_list ((hconf.mono (Nat.zero_le _)).below b24)
    have HP := hid h1
    have HALL := hid hall
    have HGAP := hid hgap
    obtain ⟨L, hL⟩ : ∃ L, zs.length = L := ⟨_, rfl⟩
    have HLL := hid hL
    rw [hL] at hlen ⊢
    have hl1 : ¬ ((L : Int) < 1) := by omega
    have hl2 : ¬ ((L : Int) > 2) := by omega
    have hl3 : ¬ (2 < (L : Int)) := by omega
    clear hg2 hb4 k0 hs4 h1 h2 hconf hall hgap hL HG b24
    go_wp2_with fail
    obtain ⟨w5, hw5⟩ : ∃ w5, (w4.alloc (.cells #[.int .i64 ln, .int .i64 ld] 26)).alloc (.cells #[.int .i64 hn, .int .i64 hd] 26) = w5 := ⟨_, rfl⟩
    rw [hw5] at b2 k2 hgl HALL ⊢
    clear hw5
    refine (Int_any 0 _ (by decide) (by decide)).mono ?_
    rintro e u1 ⟨vL, rfl, hqL, hbL⟩
    go_wp2_with fail
    refine (Int_any 40 _ (by decide) (by decide)).mono ?_
    rintro e u2 ⟨vH, rfl, hqH, hbH⟩
    replace hqL := hqL.below hbH
    have hb5 : Below w5.heap.size w5 u2 := hbL.trans (hbH.mono hbL.size)
    obtain ⟨a1, n1, c1, a2, n2, c2, hv1⟩ := q_shape hqL
    obtain ⟨a3, n3, c3, a4, n4, c4, hv2⟩ := q_shape hqH
    generalize decide ((((0 : Int) : Rat)).num < 0) = bL at hv1
    generalize decide ((((40 : Int) : Rat)).num < 0) = bH at hv2
    subst hv1
    subst hv2
    have kL := (Blk.new u2 #[.bool bL, .slice a1 n1 c1, .slice a2 n2 c2] 43).alloc (.cells #[.bool bH, .slice a3 n3 c3, .slice a4 n4 c4] 43)
    have kH := Blk.new (u2.alloc (.cells #[.bool bL, .slice a1 n1 c1, .slice a2 n2 c2] 43)) #[.bool bH, .slice a3 n3 c3, .slice a4 n4 c4] 43
    have hb6 : Below u2.heap.size u2 ((u2.alloc (.cells #[.bool bL, .slice a1 n1 c1, .slice a2 n2 c2] 43)).alloc (.cells #[.bool bH, .slice a3 n3 c3, .slice a4 n4 c4] 43)) := ((Below.refl _ _).alloc (Nat.le_refl _) _).alloc (by simp <;> omega) _
    simp only [World.size_alloc] at kH
    replace hqL := (hqL.below hb6).mono (Nat.zero_le _)
    replace hqH := (hqH.below hb6).mono (Nat.zero_le _)
    go_wp2_with fail
    obtain ⟨w6, hw6⟩ : ∃ w6, (u2.alloc (.cells #[.bool bL, .slice a1 n1 c1, .slice a2 n2 c2] 43)).alloc (.cells #[.bool bH, .slice a3 n3 c3, .slice a4 n4 c4] 43) = w6 := ⟨_, rfl⟩
    obtain ⟨B, hB⟩ : ∃ B, u2.heap.size = B := ⟨_, rfl⟩
    rw [hw6] at kL kH hb6 hqL hqH ⊢
    have hsB : w5.heap.size ≤ B := by rw [← hB]; exact hb5.size
    have bW := hb5.trans (hb6.mono hb5.size)
    rw [hB] at kL kH ⊢
    have CL : Hid (CBox w6 B ((0 : Int) : Rat) bL a1 n1 c1 a2 n2 c2) := hid ⟨kL, hqL, (int_size (z := 0) (by decide) (by decide)).mono (k' := 268435456) (by decide)⟩
    have CH : Hid (CBox w6 (B + 1) ((40 : Int) : Rat) bH a3 n3 c3 a4 n4 c4) := hid ⟨kH, hqH, (int_size (z := 40) (by decide) (by decide)).mono (k' := 268435456) (by decide)⟩
    clear hw6 hB hb5 hb6 hbL hbH kL kH hqL hqH
    go_loopw [62] (fun x wr => ∃ i : Nat, x = .int .i64 i ∧ i ≤ L ∧ ∃ (qL qH : Rat) (b1 : Bool) (x1 : Option Addr) (m1 d1 : Nat) (x2 : Option Addr) (m2 d2 : Nat) (b2 : Bool) (x3 : Option Addr) (m3 d3 : Nat) (x4 : Option Addr) (m4 d4 : Nat),
      Hid (CBox wr B qL b1 x1 m1 d1 x2 m2 d2) ∧ Hid (CBox wr (B + 1) qH b2 x3 m3 d3 x4 m4 d4) ∧ Hid ((zs.take i).foldl (fun s z => stC s z.2.1 z.2.2) (0, 40) = (qL, qH)) ∧ Below w5.heap.size w5 wr) (fun x _ => L - (intOf x).toNat)
    case atStart => exact ⟨0, rfl, Nat.zero_le _, _, _, _, _, _, _, _, _, _, _, _, _, _, _, _, _, CL, CH, hid (by simp), bW⟩
    case round =>
      clear CL CH bW
      obtain ⟨i, rfl, hi, qL, qH, b1', x1, m1, d1, x2, m2, d2, b2', x3, m3, d3, x4, m4, d4, CL, CH, HF, bW⟩ := hrel
      by_cases hiL : i < L
      · skip
        obtain ⟨⟨x, c, d⟩, hz⟩ : ∃ z, zs[i]? = some z := ⟨zs[i]'(by rw [HLL.out]; exact hiL), List.getElem?_eq_getElem _⟩
        obtain ⟨hcell, ⟨es, hli, hC, hD⟩, hz0⟩ := HALL.out i _ hz
        dsimp only at hcell hli hC hD hz0
        have hnext : (zs.take (i + 1)).foldl (fun s z => stC s z.2.1 z.2.2) (0, 40) = stC (qL, qH) c d := by
          obtain ⟨hil, hie⟩ := List.getElem?_eq_some_iff.1 hz
          rw [List.take_succ_eq_append_getElem hil, List.foldl_append, HF.out, hie]
          rfl
        have HNEXT := hid hnext
        obtain ⟨a, hok⟩ := hli.ok
        obtain ⟨bv, ov, cv, hvl⟩ := hli.shape
        have hbd := sumcd_bd HP.out es hok.mem
        have hle := hli.le
        rw [hC, hD] at hbd
        have hcb : -16000 ≤ c ∧ c ≤ 16000 ∧ -16000 ≤ d ∧ d ≤ 16000 := by omega
        subst hvl
        have cx := (bW.cell (p := ⟨g, i, none⟩) hgl).trans hcell
        have p0 := (k2.below bW).look 0 rfl
        have p1 := (k2.below bW).look 1 rfl
        have HC := hid hC
        have HD := hid hD
        have HLI := hid hli
        have hiL2 : (i : Int) < (L : Int) := by omega
        clear hz hcell hnext hC hD hbd hle hli
        go_wp2_with fail
        refine (rLoop_any p es a _ _ _ (H.out.below (b2.trans (bW.mono b2.size))) (HLI.out.below bW).rd HP.out hok HLI.out.le HLI.out.pos).mono ?_
        rintro e w7 ⟨rfl, hb7⟩
        rw [HC.out, HD.out]
        have bW7 := bW.trans (hb7.mono bW.size)
        have CL7 := hid (CL.out.below hb7)
        have CH7 := hid (CH.out.below hb7)
        clear cx p0 p1 hb7 HC HD HLI hok CL CH bW
        rcases Int.lt_trichotomy d 0 with hd | hd | hd
        · skip
          have hn1 : ¬ d = 0 := by omega
          have hn2 : ¬ 0 < d := by omega
          have wN : IntKind.i64.wrap (-d) = -d := by rw [IntWalk.i64_left]; unfold wrap64; omega
          have hst := stC_neg (s := (qL, qH)) (c := c) hd
          have HST := hid hst
          have s1 : Hid (QS 4 ((c : Int) : Rat)) := hid ((int_size (z := c) (by omega) (by omega)).mono (by decide))
          have s2 : Hid (QS 268435456 (((c : Int) : Rat) / ((-d : Int) : Rat))) := hid ((QS_of (n := c) (d := -d) (by omega) (by omega) (by omega) (by omega) (by omega)).mono (by decide))
          clear hst
          go_wp2_with fail
          refine (Int_any (c) _ (by omega) (by omega)).mono ?_
          rintro e w8 ⟨v8, rfl, hq8, hb8⟩
          go_wp2_with fail
          refine (Int_any (-d) _ (by omega) (by omega)).mono ?_
          rintro e w9 ⟨v9, rfl, hq9, hb9⟩
          go_wp2_with fail
          refine (Over_any _ _ _ _ _ (hq8.below hb9).rat hq9.rat (s1.out.mono (by decide)) ((int_size (z := -d) (by omega) (by omega)).mono (k' := 268435456) (by decide)) (rat_ne (show 1 ≤ -d by omega))).mono ?_
          rintro e w10 ⟨v10, rfl, hq10, hb10⟩
          have h79 := (hb8.trans (hb9.mono hb8.size)).trans (hb10.mono (Nat.le_trans hb8.size hb9.size))
          have bW10 := bW7.trans (h79.mono bW7.size)
          have CL10 := hid (CL7.out.below h79)
          have CH10 := hid (CH7.out.below h79)
          obtain ⟨y1, n1', e1', y2, n2', e2', hv10⟩ := q_shape hq10
          generalize decide ((((c : Int) : Rat) / ((-d : Int) : Rat)).num < 0) = b10 at hv10
          subst hv10
          clear hb8 hb9 hb10 hq8 hq9 h79 CL7 CH7 bW7
          have kE := Blk.new w10 #[.bool b10, .slice y1 n1' e1', .slice y2 n2' e2'] 43
          have ba : Below w10.heap.size w10 (w10.alloc (.cells #[.bool b10, .slice y1 n1' e1', .slice y2 n2' e2'] 43)) := (Below.refl _ _).alloc (Nat.le_refl _) _
          have CL11 := hid (CL10.out.below ba)
          have CH11 := hid (CH10.out.below ba)
          have bW11 := bW10.trans (ba.mono bW10.size)
          have hq11 := (hq10.below ba).mono (Nat.zero_le _)
          have z0 := kE.look 0 rfl
          have z1 := kE.look 1 rfl
          have z2 := kE.look 2 rfl
          have z3 := CL11.out.k.look 0 rfl
          have z4 := CL11.out.k.look 1 rfl
          have z5 := CL11.out.k.look 2 rfl
          clear ba CL10 CH10 bW10 hq10 wN
          go_wp2_with fail
          refine (Order_any _ _ _ _ _ hq11.rat CL11.out.qf.rat s2.out CL11.out.s).mono ?_
          rintro e w12 ⟨rfl, hb12⟩
          have kE2 := kE.below hb12
          have CL12 := hid (CL11.out.below hb12)
          have CH12 := hid (CH11.out.below hb12)
          have bW12 := bW11.trans (hb12.mono bW11.size)
          have hq12 := hq11.below hb12
          clear z0 z1 z2 z3 z4 z5 kE CL11 CH11 bW11 hq11 hb12
          have z0 := kE2.look 0 rfl
          have z1 := kE2.look 1 rfl
          have z2 := kE2.look 2 rfl
          have z3 := CL12.out.k.look 0 rfl
          have z4 := CL12.out.k.look 1 rfl
          have z5 := CL12.out.k.look 2 rfl
          have ff := CL12.out.k.frozen
          have hsg := sgn_gt (((c : Int) : Rat) / ((-d : Int) : Rat)) qL
          obtain ⟨sg, hsg9⟩ : ∃ z, sgnQ (((c : Int) : Rat) / ((-d : Int) : Rat) - qL) = z := ⟨_, rfl⟩
          rw [hsg9] at hsg ⊢
          by_cases hgt : qL < ((c : Int) : Rat) / ((-d : Int) : Rat)
          · have hs1 := hsg.2 hgt
            have hs2 : 0 < sg := hs1
            have HN := hid (HNEXT.out.trans (HST.out.trans (by rw [if_pos hgt])))
            have CP := hid (CL12.out.put hq12 s2.out)
            have CK := hid (CH12.out.keep (b' := b10) (y1 := y1) (n1 := n1') (e1 := e1') (y2 := y2) (n2 := n2') (e2 := e2') CL12.out.k (by omega))
            have bS := ((bW12.setCell (p := ⟨B, 0, none⟩) (by show w5.heap.size ≤ B; omega) (.bool b10)).setCell (p := ⟨B, 1, none⟩) (by show w5.heap.size ≤ B; omega) (.slice y1 n1' e1')).setCell (p := ⟨B, 2, none⟩) (by show w5.heap.size ≤ B; omega) (.slice y2 n2' e2')
            clear hsg hsg9 hgt HST HNEXT
            go_wp2
            go_roundw
            case rel => exact ⟨i + 1, by go_num, by omega, _, _, _, _, _, _, _, _, _, _, _, _, _, _, _, _, CP, CK, HN, bS⟩
            case measure => simp [intOf]; omega
          · have hs1 := fun h9 => hgt (hsg.1 h9)
            have hs2 : ¬ (0 < sg) := hs1
            have HN := hid (HNEXT.out.trans (HST.out.trans (by rw [if_neg hgt])))
            clear hsg hsg9 hgt HST HNEXT hs1
            go_wp2
            go_roundw
            case rel => exact ⟨i + 1, by go_num, by omega, _, _, _, _, _, _, _, _, _, _, _, _, _, _, _, _, CL12, CH12, HN, bW12⟩
            case measure => simp [intOf]; omega
        · skip
          have hc := hz0 hd
          have HST := hid (stC_zero (s := (qL, qH)) hd hc)
          clear hz0
          go_wp2_with fail
          refine (Int_any 41 _ (by decide) (by decide)).mono ?_
          rintro e w8 ⟨v8, rfl, hq8, hb8⟩
          have bW8 := bW7.trans (hb8.mono bW7.size)
          have CL8 := hid (CL7.out.below hb8)
          have CH8 := hid (CH7.out.below hb8)
          obtain ⟨y1, n1', e1', y2, n2', e2', hv8⟩ := q_shape hq8
          generalize decide ((((41 : Int) : Rat)).num < 0) = b8 at hv8
          subst hv8
          have z3 := CL8.out.k.look 0 rfl
          have z4 := CL8.out.k.look 1 rfl
          have z5 := CL8.out.k.look 2 rfl
          have ff := CL8.out.k.frozen
          have s2 : Hid (QS 268435456 ((41 : Int) : Rat)) := hid ((int_size (z := 41) (by decide) (by decide)).mono (by decide))
          have CP := hid (CL8.out.put (hq8.mono (Nat.zero_le _)) s2.out)
          have CK := hid (CH8.out.keep (b' := b8) (y1 := y1) (n1 := n1') (e1 := e1') (y2 := y2) (n2 := n2') (e2 := e2') CL8.out.k (by omega))
          have bS := ((bW8.setCell (p := ⟨B, 0, none⟩) (by show w5.heap.size ≤ B; omega) (.bool b8)).setCell (p := ⟨B, 1, none⟩) (by show w5.heap.size ≤ B; omega) (.slice y1 n1' e1')).setCell (p := ⟨B, 2, none⟩) (by show w5.heap.size ≤ B; omega) (.slice y2 n2' e2')
          have HN : Hid ((zs.take (i + 1)).foldl (fun s z => stC s z.2.1 z.2.2) (0, 40) = (((41 : Int) : Rat), qH)) := hid (HNEXT.out.trans HST.out)
          clear hb8 CL7 CH7 bW7 HST HNEXT hq8
          go_wp2
          go_roundw
          case rel => exact ⟨i + 1, by go_num, by omega, _, _, _, _, _, _, _, _, _, _, _, _, _, _, _, _, CP, CK, HN, bS⟩
          case measure => simp [intOf]; omega
        · skip
          have hn1 : ¬ d = 0 := by omega
          have hn2 : 0 < d := hd
          have wN : IntKind.i64.wrap (-c) = -c := by rw [IntWalk.i64_left]; unfold wrap64; omega
          have hst := stC_pos (s := (qL, qH)) (c := c) hd
          have HST := hid hst
          have s1 : Hid (QS 4 ((-c : Int) : Rat)) := hid ((int_size (z := -c) (by omega) (by omega)).mono (by decide))
          have s2 : Hid (QS 268435456 (((-c : Int) : Rat) / ((d : Int) : Rat))) := hid ((QS_of (n := -c) (d := d) (by omega) (by omega) (by omega) (by omega) (by omega)).mono (by decide))
          clear hst
          go_wp2_with fail
          refine (Int_any (-c) _ (by omega) (by omega)).mono ?_
          rintro e w8 ⟨v8, rfl, hq8, hb8⟩
          go_wp2_with fail
          refine (Int_any (d) _ (by omega) (by omega)).mono ?_
          rintro e w9 ⟨v9, rfl, hq9, hb9⟩
          go_wp2_with fail
          refine (Over_any _ _ _ _ _ (hq8.below hb9).rat hq9.rat (s1.out.mono (by decide)) ((int_size (z := d) (by omega) (by omega)).mono (k' := 268435456) (by decide)) (rat_ne (show 1 ≤ d by omega))).mono ?_
          rintro e w10 ⟨v10, rfl, hq10, hb10⟩
          have h79 := (hb8.trans (hb9.mono hb8.size)).trans (hb10.mono (Nat.le_trans hb8.size hb9.size))
          have bW10 := bW7.trans (h79.mono bW7.size)
          have CL10 := hid (CL7.out.below h79)
          have CH10 := hid (CH7.out.below h79)
          obtain ⟨y1, n1', e1', y2, n2', e2', hv10⟩ := q_shape hq10
          generalize decide ((((-c : Int) : Rat) / ((d : Int) : Rat)).num < 0) = b10 at hv10
          subst hv10
          clear hb8 hb9 hb10 hq8 hq9 h79 CL7 CH7 bW7
          have kE := Blk.new w10 #[.bool b10, .slice y1 n1' e1', .slice y2 n2' e2'] 43
          have ba : Below w10.heap.size w10 (w10.alloc (.cells #[.bool b10, .slice y1 n1' e1', .slice y2 n2' e2'] 43)) := (Below.refl _ _).alloc (Nat.le_refl _) _
          have CL11 := hid (CL10.out.below ba)
          have CH11 := hid (CH10.out.below ba)
          have bW11 := bW10.trans (ba.mono bW10.size)
          have hq11 := (hq10.below ba).mono (Nat.zero_le _)
          have z0 := kE.look 0 rfl
          have z1 := kE.look 1 rfl
          have z2 := kE.look 2 rfl
          have z3 := CH11.out.k.look 0 rfl
          have z4 := CH11.out.k.look 1 rfl
          have z5 := CH11.out.k.look 2 rfl
          clear ba CL10 CH10 bW10 hq10 wN
          go_wp2_with fail
          refine (Order_any _ _ _ _ _ hq11.rat CH11.out.qf.rat s2.out CH11.out.s).mono ?_
          rintro e w12 ⟨rfl, hb12⟩
          have kE2 := kE.below hb12
          have CL12 := hid (CL11.out.below hb12)
          have CH12 := hid (CH11.out.below hb12)
          have bW12 := bW11.trans (hb12.mono bW11.size)
          have hq12 := hq11.below hb12
          clear z0 z1 z2 z3 z4 z5 kE CL11 CH11 bW11 hq11 hb12
          have z0 := kE2.look 0 rfl
          have z1 := kE2.look 1 rfl
          have z2 := kE2.look 2 rfl
          have z3 := CH12.out.k.look 0 rfl
          have z4 := CH12.out.k.look 1 rfl
          have z5 := CH12.out.k.look 2 rfl
          have ff := CH12.out.k.frozen
          have hsg := sgn_lt (((-c : Int) : Rat) / ((d : Int) : Rat)) qH
          obtain ⟨sg, hsg9⟩ : ∃ z, sgnQ (((-c : Int) : Rat) / ((d : Int) : Rat) - qH) = z := ⟨_, rfl⟩
          rw [hsg9] at hsg ⊢
          by_cases hgt : ((-c : Int) : Rat) / ((d : Int) : Rat) < qH
          · have hs1 := hsg.2 hgt
            have hs2 : sg < 0 := hs1
            have HN := hid (HNEXT.out.trans (HST.out.trans (by rw [if_pos hgt])))
            have CP := hid (CH12.out.put hq12 s2.out)
            have CK := hid (CL12.out.keep (b' := b10) (y1 := y1) (n1 := n1') (e1 := e1') (y2 := y2) (n2 := n2') (e2 := e2') CH12.out.k (by omega))
            have bS := ((bW12.setCell (p := ⟨B + 1, 0, none⟩) (by show w5.heap.size ≤ B + 1; omega) (.bool b10)).setCell (p := ⟨B + 1, 1, none⟩) (by show w5.heap.size ≤ B + 1; omega) (.slice y1 n1' e1')).setCell (p := ⟨B + 1, 2, none⟩) (by show w5.heap.size ≤ B + 1; omega) (.slice y2 n2' e2')
            clear hsg hsg9 hgt HST HNEXT
            go_wp2
            go_roundw
            case rel => exact ⟨i + 1, by go_num, by omega, _, _, _, _, _, _, _, _, _, _, _, _, _, _, _, _, CK, CP, HN, bS⟩
            case measure => simp [intOf]; omega
          · have hs1 := fun h9 => hgt (hsg.1 h9)
            have hs2 : ¬ (sg < 0) := hs1
            have HN := hid (HNEXT.out.trans (HST.out.trans (by rw [if_neg hgt])))
            clear hsg hsg9 hgt HST HNEXT hs1
            go_wp2
            go_roundw
            case rel => exact ⟨i + 1, by go_num, by omega, _, _, _, _, _, _, _, _, _, _, _, _, _, _, _, _, CL12, CH12, HN, bW12⟩
            case measure => simp [intOf]; omega
      · obtain rfl : i = L := by omega
        have hfold := HF.out
        rw [List.take_of_length_le (by rw [HLL.out]; exact Nat.le_refl _)] at hfold
        have hgt := HGAP.out
        rw [hfold] at hgt
        have HGT := hid ((sgn_gt qL qH).2 hgt)
        have z0 := CL.out.k.look 0 rfl
        have z1 := CL.out.k.look 1 rfl
        have z2 := CL.out.k.look 2 rfl
        have z3 := CH.out.k.look 0 rfl
        have z4 := CH.out.k.look 1 rfl
        have z5 := CH.out.k.look 2 rfl
        clear hfold hgt
        go_wp2_with fail
        refine (Order_any _ _ _ _ _ CL.out.qf.rat CH.out.qf.rat CL.out.s CH.out.s).mono ?_
        rintro e w7 ⟨rfl, hb7⟩
        have bz := (b2.trans (bW.mono b2.size)).trans (hb7.mono (Nat.le_trans b2.size bW.size))
        obtain ⟨sg, hsg⟩ : ∃ z, sgnQ (qL - qH) = z := ⟨_, rfl⟩
        have hsg0 := HGT.out
        rw [hsg] at hsg0 ⊢
        have hsg1 : 0 < sg := hsg0
        clear z0 z1 z2 z3 z4 z5 hsg HGT
        go_wp2_with fail
        refine (awake_any _).mono ?_
        rintro e wz ⟨rfl, hbz⟩
        go_wp2
        go_ret
        exact ⟨rfl, bz.trans (hbz.mono bz.size)⟩
  · have e71 : p71 p = p := (p71_cases p).resolve_right fun hh => hh.2 h1
    rw [e71] at h1 hok
    have hE2 : E2 = 0 := by
      obtain ⟨_, _, _, _, hok⟩ := hok
      rcases hg2 with ⟨h3, _⟩ | ⟨_, h3, _⟩ | ⟨_, h3, _⟩
      · exact absurd h1 h3
      · exact (szok_no hok h3).elim
      · exact h3
    subst hE2
    clear hg2 hb4 k0 k2 b24 hs4
    go_wp2_with fail
    refine (awake_any _).mono ?_
    rintro e wz ⟨rfl, hbz⟩
    go_wp2
    go_ret
    exact ⟨rfl, b2.trans (hbz.mono b2.size)⟩

end Go.Proofs.Ytmknengmjepdaaa
