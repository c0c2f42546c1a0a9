/- Barrier, whole. -/
import Derived.Test.YtcpefolhohakmaaJ3
namespace Go.Proofs.Ytcpefolhohakmaa
open Go.RowKit
attribute [local irreducible] seqS seqST walkV walkJ

/-- What Barrier hands back: the odd vertices of the search's certificates, in order. -/
structure BarP (ad : Nat → Nat → Bool) (n : Nat) (r : Ending) (w' : World) : Prop where
  out : ∃ (m : Mt) (b : List Nat) (v : Value), r = .returned (.tuple #[v, .int .i64 0]) ∧ SlR 0 w' v b.length (natI b) ∧ Mat (fun i j => ad i j = true) m ∧ (∀ r, r < n → m r = none → EvM n (fun i j => ad i j = true) m r) ∧ (∀ x, x ∈ b ↔ OdM n (fun i j => ad i j = true) m x) ∧ b.Pairwise (· < ·)

open Classical in
/-- Which vertices some greatest matching leaves out, and which lie beside them. -/
theorem bar_plain {n : Nat} {ad : Nat → Nat → Bool} (G : Gr n (fun i j => ad i j = true)) {m : Mt} (hM : Mat (fun i j => ad i j = true) m) (hE : ∀ r, r < n → m r = none → EvM n (fun i j => ad i j = true) m r) :
    ∃ ev : Nat → Bool, (∀ k, ev k = true ↔ EvM n (fun i j => ad i j = true) m k) ∧
      (∀ k mk, k < n → Mat (fun i j => woB ad k i j = true) mk → (∀ r, r < n → mk r = none → EvM n (fun i j => woB ad k i j = true) mk r) → decide (cnt mk n = cnt m n) = ev k) ∧
      ∀ x, x ∈ (List.range n).filter (fun i => !ev i && (nbT ad i n).any ev) ↔ OdM n (fun i j => ad i j = true) m x := by
  have hD := done_of G hM hE
  refine ⟨fun i => decide (EvM n (fun i j => ad i j = true) m i), fun k => decide_eq_true_iff, ?_, ?_⟩
  · intro k mk hk h1 h2
    rw [woB_wo] at h1 h2
    have h3 := left_iff hD hk (done_of (wo_gr G k) h1 h2)
    rw [Bool.eq_iff_iff, decide_eq_true_eq, decide_eq_true_iff]
    exact h3
  · intro x
    rw [odd_iff hD, List.mem_filter, List.mem_range]
    simp only [Bool.and_eq_true, Bool.not_eq_true', decide_eq_false_iff_not, List.any_eq_true, decide_eq_true_iff]
    constructor
    · rintro ⟨hx, h1, y, hy, h2⟩
      exact ⟨h1, y, ((nbT_mem ad x n y).1 hy).2, h2⟩
    · rintro ⟨h1, y, hy, h2⟩
      exact ⟨(G.lt _ _ hy).1, h1, y, (nbT_mem ad x n y).2 ⟨(G.lt _ _ hy).2, hy⟩, h2⟩

theorem infoBool2 : (Try.prog.info? 4).map (fun i => (i.zero, i.size, i.bytes)) = some (some (.bool false), 1, 1) := by kernel_rfl

set_option maxHeartbeats 8000000 in
set_option maxRecDepth 100000 in
theorem Barrier_yes (l : List Gv) (u : Ru) (v : Value) (w : World) (h : GsR 0 w v l) (hS : SideOk l) (hR : RuOk u) :
    Calls Try.prog 13 #[v, ruV u] w fun r w' => BarP (adjB l u) l.length r w' ∧ Below w.heap.size w w' := by
  have HH := hid (fun w h => heaped_yes l u v w h hS hR)
  have h32 := hS.1
  have G := adjB_gr l u
  obtain ⟨ad, had⟩ : ∃ ad, adjB l u = ad := ⟨_, rfl⟩
  obtain ⟨n, hn⟩ : ∃ n, l.length = n := ⟨_, rfl⟩
  rw [had, hn] at HH G ⊢
  rw [hn] at h32
  clear hS hR had hn
  obtain ⟨U, hU⟩ : ∃ U, u = U := ⟨_, rfl⟩
  have HU := hid hU.symm
  clear hU
  obtain ⟨⟨wa, wb, wc, wd⟩, ⟨la, lb, lc, ld⟩⟩ := u
  have kU := Blk.new w #[.int .i64 wa, .int .i64 wb, .int .i64 wc, .int .i64 wd, .int .i64 la, .int .i64 lb, .int .i64 lc, .int .i64 ld] 35
  have bU := alloc_below w (.cells #[.int .i64 wa, .int .i64 wb, .int .i64 wc, .int .i64 wd, .int .i64 la, .int .i64 lb, .int .i64 lc, .int .i64 ld] 35)
  have hLU := hid (h.below bU)
  have x0 := kU.look 0 rfl
  have x1 := kU.look 1 rfl
  have x2 := kU.look 2 rfl
  have x3 := kU.look 3 rfl
  have x4 := kU.look 4 rfl
  have x5 := kU.look 5 rfl
  have x6 := kU.look 6 rfl
  have x7 := kU.look 7 rfl
  go_enter Try.func13, Try.ntmps13
  go_wp2_with fail
  refine (HH.out _ hLU.out).mono ?_
  rintro r w1 ⟨⟨p, rfl, hp⟩, hb1⟩
  have bb1 := bU.trans (hb1.mono bU.size)
  have MA := hid (matching_all G (by omega) w1 hp)
  have HGR := hid hp
  obtain ⟨g0, gw, vs, rfl, -⟩ := id hp
  clear HH hLU kU bU x0 x1 x2 x3 x4 x5 x6 x7 hb1 hp
  go_wp2_with fail
  refine MA.out.mono ?_
  rintro r w2 ⟨hm, hb2⟩
  obtain ⟨gm, m, rfl, h1, h2, h3, h4⟩ := hm.out
  have bb2 := bb1.trans (hb2.mono bb1.size)
  have HGR2 := hid (GrR.below_lt (S' := fun _ => True) HGR.out hb2 (fun _ _ _ => trivial))
  have SZ := hid (size_any n _ _ w2 (blk_fun h2 (by omega)))
  rw [cnt_cntI] at SZ
  have HMT := hid h3
  have HEV := hid h4
  clear MA hb2 bb1 hm h1 h2 h3 h4 HGR
  go_wp2_with fail
  refine SZ.out.mono ?_
  rintro r w3 ⟨rfl, rfl⟩
  clear SZ
  obtain ⟨ev, he1, he2, he3⟩ := bar_plain G HMT.out HEV.out
  have HE2 := hid he2
  have HE3 := hid he3
  obtain ⟨g1, gw1, vs1, e1, -, -, kg, kw, hrow⟩ := id HGR2.out
  cases e1
  have y0 := kg.look 0 rfl
  obtain ⟨C, hC⟩ : ∃ C, cnt m n = C := ⟨_, rfl⟩
  rw [hC]
  have HC := hid hC
  clear he1 he2 he3 hC
  go_wp2_with (at_make; refine wpList_mka rfl (.tmp 24) (.tmp 24) 80 rfl 4 (.bool false) 1 Try.underlying80 infoBool2 rfl _ _ n rfl rfl (by omega) (by omega) ?_; intro w4 kw4 hb4 hz4; clear hz4)
  obtain ⟨gl, hgl⟩ : ∃ gl, w2.heap.size = gl := ⟨_, rfl⟩
  rw [hgl] at kw4
  have hgl4 : gl < w4.heap.size := kw4.lt
  obtain ⟨gb, hgb⟩ : ∃ gb, w4.heap.size = gb := ⟨_, rfl⟩
  have kb := Blk.new w4 #[slV gl n] 80
  have hb5 := alloc_below w4 (.cells #[slV gl n] 80)
  rw [hgb] at kb
  have hb6 := hb4.trans (hb5.mono hb4.size)
  have HL5 := hid (kw4.below hb5)
  have HG5 := hid (GrR.below_lt (S' := (· < gl)) HGR2.out hb6 (fun b hb _ => by omega))
  have HB5 := hid (bb2.trans (hb6.mono bb2.size))
  have HGL := hid (by rw [← hgl]; exact bb2.size : w.heap.size ≤ gl)
  have HGB : Hid (gl < gb) := hid (by omega)
  have HGG : Hid (g0 < gl) := hid (by have := kg.lt; omega)
  unfold slV at kb hb5 HL5 HG5 HB5
  rw [hgl, hgb]
  generalize w4.alloc (.cells #[.slice (some ⟨gl, 0, none⟩) n n] 80) = w5 at kb HL5 HG5 HB5 ⊢
  have HKB := hid kb
  clear hb5 hb6 hgl hgb hgl4 kw4 hb4 kw hrow kg y0 HGR2 bb2 kb
  go_loopw [28] (fun z wr => ∃ k : Nat, z = .int .i64 (k : Int) ∧ k ≤ n ∧ Hid (Blk wr gl (arr n fun i => .bool (if i < k then ev i else false)) 4) ∧ Keep (· ≠ gl) w5 wr) (fun z _ => n - (intOf z).toNat)
  case atStart => exact ⟨0, rfl, Nat.zero_le _, hid (by simpa using HL5.out), Keep.refl _ _⟩
  case round =>
    obtain ⟨k, rfl, hk, HW, hkp⟩ := hrel
    have kb := hkp.blk HKB.out (by have := HGB.out; show gb ≠ gl; omega)
    have HGr := hid (HG5.out.keep hkp (fun b _ hb => by have h9 : b < gl := hb; show b ≠ gl; omega))
    by_cases hkn : k < n
    case pos =>
      have hk2 : (k : Int) < (n : Int) := by omega
      have zb := fun y : SubT (Below wr.heap.size) wr.drew => (kb.drew.below' y.b kb.lt).look 0 rfl
      go_wp2_with fail
      refine wp_walkJ (T := Below (wr.heap.size)) (belowV_pre _) (.rd 0 (.rd 1 (.rd 2 (.rd 3 (.rd 6 (.mv 4 (.mv 5 (.rd 7 (.rd 8 (.bt 9 (.inv []))))))))))) (by kernel_rfl) rfl (by kernel_rfl) (by kernel_rfl) ?_
      iterate 5 (refine walkJ_rd rfl (fun K hK => ?_); go_simp; refine hK _ ?_; clear hK K)
      clear zb
      have hsz : wr.heap.size ≤ wr.drew.heap.size := Nat.le_refl _
      have HSZ := hid hsz
      have HGd := hid (HGr.out.keep (Keep.drew (fun _ => True) wr) (fun _ _ _ => trivial))
      have HWd := hid HW.out.drew
      have hkd := hkp.trans (Keep.drew _ wr)
      have MB := hid (matching_but G (by omega) hkn wr.drew HGd.out)
      have KBd := hid kb.drew
      clear hsz kb HW hkp HGr
      generalize wr.drew = W at HSZ HGd HWd hkd MB KBd ⊢
      (refine walkJ_mv rfl (fun K hK => ?_); go_simp; refine MB.out.mono ?_; rintro r w6 ⟨hm6, hb6⟩; obtain ⟨gk, mk, rfl, q1, q2, q3, q4⟩ := hm6.out; refine ⟨_, rfl, hK _ _ (hb6.mono HSZ.out) ?_⟩; clear hK K)
      have SZ6 := hid (size_any n _ _ w6 (blk_fun q2 (by omega)))
      rw [cnt_cntI] at SZ6
      have hq1 := HE2.out k mk hkn q3 q4
      rw [HC.out] at hq1
      have hq2 : ((cnt mk n : Int) == (C : Int)) = decide (cnt mk n = C) := by rw [Bool.eq_iff_iff]; simp; omega
      rw [hq1] at hq2
      obtain ⟨c6, hc6⟩ : ∃ c, cnt mk n = c := ⟨_, rfl⟩
      rw [hc6] at hq2 SZ6
      obtain ⟨e6, he6⟩ : ∃ e, ev k = e := ⟨_, rfl⟩
      rw [he6] at hq2
      have HE6 := hid he6
      have KW6 := hid (HWd.out.below hb6)
      have hk6 := hkd.trans (Keep.of_below hb6)
      clear hm6 q1 q2 q3 q4 hq1 hc6 he6 HWd hkd hb6 MB HGd KBd
      (refine walkJ_mv rfl (fun K hK => ?_); go_simp; refine SZ6.out.mono ?_; rintro r w7 ⟨rfl, rfl⟩; refine ⟨_, rfl, hK _ _ (Below.refl _ _) ?_⟩; clear hK K)
      iterate 2 (refine walkJ_rd rfl (fun K hK => ?_); go_simp; refine hK _ ?_; clear hK K)
      have x0 := KW6.out.arr_look hkn
      have f0 := KW6.out.frozen k
      have l0 := KW6.out.lt
      (refine walkJ_bt rfl (fun K hK => ?_); go_simp; refine hK _ _ ?_; clear hK K)
      refine walkJ_nil ?_
      have HW7 : Hid (Blk (w6.setCell ⟨gl, k, none⟩ (.bool e6)) gl (arr n fun i => .bool (if i < k + 1 then ev i else false)) 4) := hid (by
        have := KW6.out.arr_set k (.bool e6)
        rw [arr_congr (f' := fun i => .bool (if i < k + 1 then ev i else false)) (fun i hi => by
          by_cases h1 : i = k
          · subst h1; rw [if_pos rfl, if_pos (by omega), HE6.out]
          · rw [if_neg h1]
            by_cases h2 : i < k
            · rw [if_pos h2, if_pos (by omega)]
            · rw [if_neg h2, if_neg (by omega)])] at this
        exact this)
      have hk7 := hk6.trans (Keep.set w6 (p := ⟨gl, k, none⟩) (fun h => h rfl) (.bool e6))
      clear x0 f0 l0 SZ6 hq2 KW6 hk6
      go_wp2
      go_roundw
      case rel => exact ⟨k + 1, by go_num, by omega, HW7, hk7⟩
      case measure => simp [intOf]; omega
    case neg =>
      obtain rfl : n = k := by omega
      have hk2 : ¬ (n : Int) < (n : Int) := by omega
      obtain ⟨BW, hBW⟩ : ∃ x, wr.heap.size = x := ⟨_, rfl⟩
      have HBW := hid hBW
      clear hBW
      have HLr : Hid (Blk wr gl (arr n fun i => .bool (ev i)) 4) := hid (by
        have := HW.out
        rw [arr_congr (f' := fun i => .bool (ev i)) (fun i hi => by rw [if_pos hi])] at this
        exact this)
      have HKr := hid kb
      have HBr : Hid (Below w.heap.size w wr) := hid (HB5.out.trans (hkp.below HB5.out.size (fun b hb => by have := HGL.out; show b ≠ gl; omega)))
      obtain ⟨g9, gw9, vs9, e9, -, -, kg9, kw9, hrow9⟩ := id HGr.out
      cases e9
      have HKG := hid kg9
      have HKW := hid kw9
      have HRW := hid hrow9
      have y1 := kg9.look 1 rfl
      have HRO : Hid (wr.ownsRow BW 3 1 (.slice none 0 0) 0 (natI [])) := hid (World.ownsRow_nil _ _ _ _)
      clear HW hkp kb HGr kg9 kw9 hrow9 HL5 HG5 HKB HB5 hk hkn hk2
      go_wp2_with fail
      clear y1
      go_loopw [10, 46] (fun ro z w8 => ∃ (k : Nat) (R : List Nat), z = .int .i64 (k : Int) ∧ k ≤ n ∧ Hid (R = (List.range k).filter (fun i => !ev i && (nbT ad i n).any ev)) ∧ Hid (w8.ownsRow BW 3 1 ro R.length (natI R)) ∧ Below wr.heap.size wr w8) (fun _ z _ => n - (intOf z).toNat)
      case atStart => exact ⟨0, [], rfl, Nat.zero_le _, hid rfl, HRO, Below.refl _ _⟩
      case round =>
        obtain ⟨k, R, rfl, hk, HR, HO, hb8⟩ := hrel
        by_cases hkn : k < n
        case neg =>
          obtain rfl : n = k := by omega
          have hk2 : ¬ (n : Int) < (n : Int) := by omega
          have HB9 := hid (HBr.out.trans (hb8.mono HBr.out.size))
          clear hb8
          go_wp2
          go_ret2
          exact ⟨⟨m, R, _, rfl, SlR.mono (SlR.of_owns HO.out) (Nat.zero_le _), HMT.out, HEV.out, fun x => by rw [HR.out]; exact HE3.out x, by rw [HR.out]; exact List.Pairwise.filter _ List.pairwise_lt_range⟩, HB9.out⟩
        case pos =>
          have hk2 : (k : Int) < (n : Int) := by omega
          have hst : (List.range (k + 1)).filter (fun i => !ev i && (nbT ad i n).any ev) = R ++ if (!ev k && (nbT ad k n).any ev) then [k] else [] := by
            rw [List.range_succ, List.filter_append, ← HR.out]
            congr 1
            by_cases e : (!ev k && (nbT ad k n).any ev) = true
            · rw [if_pos e]; simp only [List.filter_cons, e, if_true, List.filter_nil]
            · rw [if_neg e]; simp only [List.filter_cons, List.filter_nil, e]; rfl
          have HST := hid hst
          have kl8 := HLr.out.below hb8
          have kb8 := HKr.out.below hb8
          have kw8 := HKW.out.below hb8
          have hrw8 := hid (SlS.keep (HRW.out k hkn) (Keep.of_below (S := fun _ => True) hb8) (fun _ _ _ => trivial))
          have zw := kw8.arr_look hkn
          have zb := kb8.look 0 rfl
          have zl := kl8.arr_look hkn
          obtain ⟨ra, rc, hrv, -⟩ := id hrw8.out
          rw [hrv] at zw hrw8
          have hRl : R.length ≤ n := by
            rw [HR.out]
            have := List.length_filter_le (fun i => !ev i && (nbT ad i n).any ev) (List.range k)
            simp at this
            omega
          cases hev : ev k with
          | true =>
            rw [hev] at zl
            have HR2 : Hid (R = (List.range (k + 1)).filter (fun i => !ev i && (nbT ad i n).any ev)) := hid (by rw [HST.out, hev]; simp)
            clear hst HST hev hrv hRl kl8 kb8 kw8 HR
            go_wp2
            go_roundw
            case rel => exact ⟨k + 1, R, by go_num, by omega, HR2, HO, hb8⟩
            case measure => simp [intOf]; omega
          | false =>
            rw [hev] at zl
            have CF := hid (ContainsF_any (nbT ad k n) ev (.pointer (some ⟨gb, 0, none⟩)) _ wr hrw8.out.sl (fun y hy => barr1_any ((nbT_mem ad k n y).1 hy).1 wr kb8 kl8))
            have HEVK := hid hev
            clear hst hev hrv kl8 kb8 kw8
            cases hany : (nbT ad k n).any ev with
            | false =>
              rw [hany] at CF
              have HR2 : Hid (R = (List.range (k + 1)).filter (fun i => !ev i && (nbT ad i n).any ev)) := hid (by rw [HST.out, hany]; simp)
              clear hany HST HR hRl
              go_wp2_with fail
              refine CF.out.mono ?_
              rintro r w9 ⟨rfl, rfl⟩
              clear CF
              go_wp2
              go_roundw
              case rel => exact ⟨k + 1, R, by go_num, by omega, HR2, HO, hb8⟩
              case measure => simp [intOf]; omega
            | true =>
              rw [hany] at CF
              have HR2 : Hid (R ++ [k] = (List.range (k + 1)).filter (fun i => !ev i && (nbT ad i n).any ev)) := hid (by rw [HST.out, hany, HEVK.out]; simp)
              clear hany HST HR
              obtain ⟨L, hL⟩ : ∃ L, R.length = L := ⟨_, rfl⟩
              have HL := hid hL
              rw [hL] at hRl HO
              clear hL
              go_wp2_with fail
              refine CF.out.mono ?_
              rintro r w9 ⟨rfl, rfl⟩
              clear CF zw zb zl
              have hsz8 : BW ≤ wr.heap.size := by rw [← HBW.out]; exact hb8.size
              have HB8 := hid hb8
              clear hb8
              go_wp2_with (at_builtin; refine wpList_appH rfl (.tmp 61) (.tmp 63) _ rfl BW 3 (.int .i64 0) 1 8 Try.underlying37 infoInt rfl (by decide) 3 _ _ _ rfl HO.out [.int .i64 (k : Int)] _ rfl rfl rfl (by simp [Value.oneCell']) (by unfold maxLen; omega) (by omega) hsz8 ?_; intro g5 gcap w5 ho5 hb5 _ _ _)
              go_roundw
              case rel => exact ⟨k + 1, R ++ [k], by go_num, by omega, HR2, hid (by
                rw [natI_append, List.length_append, HL.out]; exact ho5), HB8.out.trans (hb5.mono (by rw [HBW.out]; exact Nat.le_refl _))⟩
              case measure => simp [intOf]; omega

end Go.Proofs.Ytcpefolhohakmaa
