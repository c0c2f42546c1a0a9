/- Walk of matched and Most. -/
import Derived.Test.YtcpefolhohakmaaK3
namespace Go.Proofs.Ytcpefolhohakmaa
open Go.RowKit
attribute [local irreducible] seqS seqST walkV walkJ

@[local go_sem] theorem run_store_func {P : Program} {w : World} (a : Addr) (m : Mode) (f : Fn) (ts cs : Array Value) : (store a (.func f ts cs) m).run P w = stored P w a (.func f ts cs) m := run_store P w a _ m rfl

/-- What the loop over the left gloves keeps. -/
structure MjR (w0 w : World) (B gt0 gm0 gs0 ga0 gf0 ga : Nat) (p : Value) (nl nr : Nat) (c : Nat → Nat → Int) (i : Nat) : Prop where
  t : Blk w gt0 #[p] 67
  mo : Blk w gm0 #[.int .i64 1000000000] 3
  se : ∃ sv, Blk w gs0 #[sv] 80
  ma : Blk w ga0 #[slV ga nr] 37
  fi : Blk w gf0 #[.func (.func 64) #[] #[.pointer (some ⟨gt0, 0, none⟩), .pointer (some ⟨gm0, 0, none⟩), .pointer (some ⟨gs0, 0, none⟩), .pointer (some ⟨ga0, 0, none⟩), .pointer (some ⟨gf0, 0, none⟩)]] 82
  m : Blk w ga (arr nr fun j => oI (kuhn (kE c) nr i j)) 3
  tab : TabR (· < B) w p nl nr c
  n1 : gm0 ≠ ga
  ba : B ≤ ga
  bs : B ≤ gs0
  keep : Keep (· < B) w0 w
theorem infoBool3 : (Try.prog.info? 4).map (fun i => (i.zero, i.size, i.bytes)) = some (some (.bool false), 1, 1) := by kernel_rfl
theorem kuhn_lt (e : Nat → Nat → Bool) (nr i : Nat) {nl : Nat} (h : i ≤ nl) : ∀ j x, kuhn e nr i j = some x → x < nl := fun j x hx => by
  have := ((kuhn_ok e nr i).edg j x hx).2.2
  omega

set_option maxHeartbeats 8000000 in
set_option maxRecDepth 100000 in
theorem matched_any {S : Nat → Prop} {p : Value} {nl nr : Nat} {c : Nat → Nat → Int} (hnl : nl ≤ 400) (hnr : nr ≤ 400) (hc : ∀ i j, i < nl → j < nr → c i j ≤ 1000000000) (w : World) (h : TabR S w p nl nr c) :
    Calls Try.prog 29 #[p, .int .i64 1000000000] w fun r w' => (∃ ga, r = .returned (slV ga nr) ∧ w.heap.size ≤ ga ∧ Blk w' ga (arr nr fun j => oI (kuhn (kE c) nr nl j)) 3) ∧ Below w.heap.size w w' := by
  have HTB := hid (h.mono (S' := (· < w.heap.size)) (fun _ hb _ => hb))
  obtain ⟨gt, vc, vs, rfl, -, kt, -, -⟩ := h
  obtain ⟨B, hB⟩ : ∃ B, w.heap.size = B := ⟨_, rfl⟩
  have kP := Blk.new w #[.pointer (some ⟨gt, 0, none⟩)] 67
  have bP := alloc_below w (.cells #[.pointer (some ⟨gt, 0, none⟩)] 67)
  have kM := Blk.new (w.alloc (.cells #[.pointer (some ⟨gt, 0, none⟩)] 67)) #[.int .i64 1000000000] 3
  have bM := alloc_below (w.alloc (.cells #[.pointer (some ⟨gt, 0, none⟩)] 67)) (.cells #[.int .i64 1000000000] 3)
  have hsz : (w.alloc (.cells #[.pointer (some ⟨gt, 0, none⟩)] 67)).heap.size = w.heap.size + 1 := by simp
  rw [hsz] at kM
  have kP2 := kP.below bM
  have bb := bP.trans (bM.mono bP.size)
  have kt2 := kt.below bb
  have y0 := kP2.look 0 rfl
  have y1 := kt2.look 2 rfl
  have HCC := hid hc
  go_enter Try.func29, Try.ntmps29
  go_wp2_with (at_make; refine wpList_mka rfl (.tmp 13) (.tmp 13) 37 rfl 3 (.int .i64 0) 8 Try.underlying37 infoInt rfl _ _ nr rfl rfl (by omega) (by omega) ?_; intro w4 kw4 hb4 hz4; clear hz4)
  have hsz2 : ((w.alloc (.cells #[.pointer (some ⟨gt, 0, none⟩)] 67)).alloc (.cells #[.int .i64 1000000000] 3)).heap.size = w.heap.size + 1 + 1 := by simp
  rw [hsz2] at kw4
  have bb4 := bb.trans (hb4.mono (by rw [hsz2]; omega))
  have kP4 := kP2.below hb4
  have kM4 := kM.below hb4
  rw [hB] at kw4 bb4 kP4 kM4
  obtain ⟨ga, hga⟩ : ∃ ga, B + 1 + 1 = ga := ⟨_, rfl⟩
  obtain ⟨gm0, hgm⟩ : ∃ g, B + 1 = g := ⟨_, rfl⟩
  rw [hga] at kw4 ⊢
  rw [hgm] at kM4 ⊢
  have hga2 : B < ga := by omega
  have hgm2 : B < gm0 := by omega
  have hgma : gm0 ≠ ga := by omega
  have HTB4 := hid (HTB.out.keep (Keep.of_below (S := fun _ => True) (bb4.mono (by omega))) (fun _ _ _ => trivial))
  clear kP bP kM bM hsz kP2 bb kt2 y0 y1 hb4 hsz2 hga hgm HTB
  rw [hB] at HTB4
  have kA := Blk.new w4 #[slV ga nr] 37
  have bA := alloc_below w4 (.cells #[slV ga nr] 37)
  have bb5 := bb4.trans (bA.mono (by have := bb4.size; rw [hB] at this; exact this))
  have kP5 := hid (kP4.below bA)
  have kM5 := hid (kM4.below bA)
  have kw5 := kw4.below bA
  have HTB5 := hid (HTB4.out.keep (Keep.of_below (S := fun _ => True) bA) (fun _ _ _ => trivial))
  have hga0 : B < w4.heap.size := by have := kw4.lt; omega
  unfold slV at kA bA bb5 kP5 kM5 kw5 HTB5
  clear kP4 kM4 kw4 HTB4 bb4 bA
  generalize w4.alloc (.cells #[.slice (some ⟨ga, 0, none⟩) nr nr] 37) = w5 at kA bb5 kP5 kM5 kw5 HTB5 ⊢
  generalize w4.heap.size = ga0 at kA hga0 ⊢
  clear w4
  have HA5 := hid kA
  have HB5 := hid bb5
  have HBB := hid hB
  clear kA bb5 kt hB
  go_loopw [17] (fun z wr => ∃ k : Nat, z = .int .i64 (k : Int) ∧ k ≤ nr ∧ Hid (Blk wr ga (arr nr fun i => .int .i64 (if i < k then -1 else 0)) 3) ∧ Keep (· ≠ ga) w5 wr) (fun z _ => nr - (intOf z).toNat)
  case atStart => exact ⟨0, rfl, Nat.zero_le _, hid (by simpa using kw5), Keep.refl _ _⟩
  case round =>
    obtain ⟨k, rfl, hk, HW, hkp⟩ := hrel
    have HAr := hid (hkp.blk HA5.out (blk_ne HA5.out kw5 (by decide)))
    by_cases hkn : k < nr
    case pos =>
      have hk2 : (k : Int) < (nr : Int) := by omega
      have a2 := HAr.out.look 0 rfl
      have x0 := HW.out.arr_look hkn
      have f0 := HW.out.frozen k
      have hlt := HW.out.lt
      have kW2 := HW.out.arr_set k (.int .i64 (-1))
      have e : arr nr (fun j => if j = k then Value.int .i64 (-1) else .int .i64 (if j < k then -1 else 0)) = arr nr (fun i => .int .i64 (if i < k + 1 then -1 else 0)) := arr_congr fun i hi => by
        by_cases h1 : i = k
        · subst h1; rw [if_pos rfl, if_pos (by omega)]
        · rw [if_neg h1]
          by_cases h2 : i < k
          · rw [if_pos h2, if_pos (by omega)]
          · rw [if_neg h2, if_neg (by omega)]
      rw [e] at kW2
      have HW2 := hid kW2
      have hkp2 := hkp.trans (Keep.set wr (p := ⟨ga, k, none⟩) (fun h => h rfl) (.int .i64 (-1)))
      clear kW2 e HW hkp
      go_wp2
      go_roundw
      case rel => exact ⟨k + 1, by go_num, by omega, HW2, hkp2⟩
      case measure => simp [intOf]; omega
    case neg =>
      obtain rfl : nr = k := by omega
      have hk2 : ¬ (nr : Int) < (nr : Int) := by omega
      have HMr : Hid (Blk wr ga (arr nr fun i => oI ((fun _ => none : Mt) i)) 3) := hid (by
        have := HW.out
        rw [arr_congr (f' := fun i => oI ((fun _ => none : Mt) i)) (fun i hi => by rw [if_pos hi]; rfl)] at this
        exact this)
      have HPr := hid (hkp.blk kP5.out (blk_ne kP5.out kw5 (by decide)))
      have HOr := hid (hkp.blk kM5.out hgma)
      have HTr := hid (HTB5.out.keep hkp (fun b _ hb => by have h9 : b < B := hb; show b ≠ ga; omega))
      have HKr : Hid (Keep (· < B) w wr) := hid ((Keep.of_below' HB5.out (fun _ _ h => h)).trans (hkp.mono (fun b _ hb => by have h9 : b < B := hb; show b ≠ ga; omega)))
      clear HW hkp HA5 kP5 kM5 HTB5 HB5 kw5 hk hkn
      have kS := Blk.new wr #[.slice none 0 0] 80
      have bS := alloc_below wr (.cells #[.slice none 0 0] 80)
      have kG := Blk.new (wr.alloc (.cells #[.slice none 0 0] 80)) #[(.func (.func 64) #[] #[.pointer (some ⟨B, 0, none⟩), .pointer (some ⟨gm0, 0, none⟩), .pointer (some ⟨wr.heap.size, 0, none⟩), .pointer (some ⟨ga0, 0, none⟩), .pointer (some ⟨wr.heap.size + 1, 0, none⟩)])] 82
      have bG := alloc_below (wr.alloc (.cells #[.slice none 0 0] 80)) (.cells #[(.func (.func 64) #[] #[.pointer (some ⟨B, 0, none⟩), .pointer (some ⟨gm0, 0, none⟩), .pointer (some ⟨wr.heap.size, 0, none⟩), .pointer (some ⟨ga0, 0, none⟩), .pointer (some ⟨wr.heap.size + 1, 0, none⟩)])] 82)
      have hsS : (wr.alloc (.cells #[.slice none 0 0] 80)).heap.size = wr.heap.size + 1 := by simp
      rw [hsS] at kG
      have bSG := bS.trans (bG.mono (by rw [hsS]; omega))
      have kTr := HTr.out
      obtain ⟨gt', vc', vs', e', ht', kt', -, -⟩ := kTr
      cases e'
      have HJ : Hid (MjR w ((wr.alloc (.cells #[.slice none 0 0] 80)).alloc (.cells #[(.func (.func 64) #[] #[.pointer (some ⟨B, 0, none⟩), .pointer (some ⟨gm0, 0, none⟩), .pointer (some ⟨wr.heap.size, 0, none⟩), .pointer (some ⟨ga0, 0, none⟩), .pointer (some ⟨wr.heap.size + 1, 0, none⟩)])] 82)) B B gm0 wr.heap.size ga0 (wr.heap.size + 1) ga (.pointer (some ⟨gt, 0, none⟩)) nl nr c 0) := hid
        ⟨HPr.out.below bSG, HOr.out.below bSG, ⟨_, kS.below bG⟩, HAr.out.below bSG, kG, HMr.out.below bSG, HTr.out.keep (Keep.of_below (S := fun _ => True) bSG) (fun _ _ _ => trivial), hgma, by omega, by have := HPr.out.lt; omega, HKr.out.trans (Keep.of_below bSG)⟩
      have y0 := (HPr.out.below bSG).look 0 rfl
      have y1 := (kt'.below bSG).look 1 rfl
      clear kS bS kG bG hsS HPr HOr HTr HKr HAr HMr bSG kt'
      go_wp2_with fail
      clear y0 y1
      generalize (wr.alloc (.cells #[.slice none 0 0] 80)).alloc (.cells #[(.func (.func 64) #[] #[.pointer (some ⟨B, 0, none⟩), .pointer (some ⟨gm0, 0, none⟩), .pointer (some ⟨wr.heap.size, 0, none⟩), .pointer (some ⟨ga0, 0, none⟩), .pointer (some ⟨wr.heap.size + 1, 0, none⟩)])] 82) = W6 at HJ ⊢
      generalize wr.heap.size + 1 = gf0 at HJ ⊢
      generalize wr.heap.size = gs0 at HJ ⊢
      go_loopw [29] (fun z wr => ∃ i : Nat, z = .int .i64 (i : Int) ∧ i ≤ nl ∧ Hid (MjR w wr B B gm0 gs0 ga0 gf0 ga (.pointer (some ⟨gt, 0, none⟩)) nl nr c i)) (fun z _ => nl - (intOf z).toNat)
      case atStart => exact ⟨0, rfl, Nat.zero_le _, HJ⟩
      case round =>
        obtain ⟨i, rfl, hi, HR⟩ := hrel
        clear HJ
        have kTr := HR.out.tab
        obtain ⟨gt', vc', vs', e', ht', kt', -, -⟩ := kTr
        cases e'
        by_cases hin : i < nl
        case neg =>
          obtain rfl : nl = i := by omega
          have hi2 : ¬ (nl : Int) < (nl : Int) := by omega
          have y0 := HR.out.ma.look 0 rfl
          unfold slV at y0
          have HBf : Hid (Below B w wr) := hid (HR.out.keep.below (by rw [HBB.out]; exact Nat.le_refl _) (fun _ h => h))
          clear kt'
          go_wp2
          go_ret
          exact ⟨⟨ga, rfl, by rw [HBB.out]; exact HR.out.ba, HR.out.m⟩, by rw [HBB.out]; exact HBf.out⟩
        case pos =>
          have hi2 : (i : Int) < (nl : Int) := by omega
          have y0 := HR.out.t.look 0 rfl
          have y1 := kt'.look 2 rfl
          obtain ⟨sv, kse⟩ := HR.out.se
          go_wp2_with (at_make; refine wpList_mka rfl (.tmp 35) (.tmp 35) 80 rfl 4 (.bool false) 1 Try.underlying80 infoBool3 rfl _ _ nr rfl rfl (by omega) (by omega) ?_; intro w7 kw7 hb7 hz7; clear hz7; have ks7 := kse.below hb7; have z0 := ks7.look 0 rfl; have f0 := ks7.frozen 0; have l0 := ks7.lt; have zf := ((HR.out.fi.below hb7).other (p := ⟨gs0, 0, none⟩) (blk_ne HR.out.fi kse (by decide)) (.slice (some ⟨wr.heap.size, 0, none⟩) nr nr)).look 0 rfl)
          have hsm := HR.out.m.lt
          have hba := HR.out.ba
          have hbs := HR.out.bs
          have hne7 : wr.heap.size ≠ gs0 := blk_ne kw7 ks7 (by decide)
          have MK : Hid (MkR (w7.setCell ⟨gs0, 0, none⟩ (.slice (some ⟨wr.heap.size, 0, none⟩) nr nr)) B gm0 gs0 ga0 gf0 wr.heap.size ga (.pointer (some ⟨gt, 0, none⟩)) nl nr c (fun _ => false, kuhn (kE c) nr i)) := hid
            ⟨(HR.out.t.below hb7).other (blk_ne HR.out.t kse (by decide)) _, (HR.out.mo.below hb7).other (blk_ne HR.out.mo kse (by decide)) _, ks7.set 0 _, (HR.out.ma.below hb7).other (blk_ne HR.out.ma kse (by decide)) _, (HR.out.fi.below hb7).other (blk_ne HR.out.fi kse (by decide)) _,
              kw7.other hne7 _, (HR.out.m.below hb7).other (blk_ne HR.out.m kse (by decide)) _,
              ((HR.out.tab.keep (Keep.of_below (S := fun _ => True) hb7) (fun _ _ _ => trivial)).keep (Keep.set (S := (· < B)) w7 (p := ⟨gs0, 0, none⟩) (fun h => by have h9 : gs0 < B := h; omega) _) (fun _ _ h => h)).mono (fun b _ hb => ⟨by have h9 : b < B := hb; omega, by have h9 : b < B := hb; omega⟩), HR.out.n1⟩
          have HK8 : Hid (Keep (· < B) w (w7.setCell ⟨gs0, 0, none⟩ (.slice (some ⟨wr.heap.size, 0, none⟩) nr nr))) := hid ((HR.out.keep.trans (Keep.of_below hb7)).trans (Keep.set (S := (· < B)) w7 (p := ⟨gs0, 0, none⟩) (fun h => by have h9 : gs0 < B := h; omega) _))
          have HT8 : Hid (TabR (· < B) (w7.setCell ⟨gs0, 0, none⟩ (.slice (some ⟨wr.heap.size, 0, none⟩) nr nr)) (.pointer (some ⟨gt, 0, none⟩)) nl nr c) := hid ((HR.out.tab.keep (Keep.of_below (S := fun _ => True) hb7) (fun _ _ _ => trivial)).keep (Keep.set (S := (· < B)) w7 (p := ⟨gs0, 0, none⟩) (fun h => by have h9 : gs0 < B := h; omega) _) (fun _ _ h => h))
          have hBw : B ≤ wr.heap.size := by omega
          clear y0 y1 kt' z0 f0 l0 zf kw7 hb7 ks7
          generalize w7.setCell ⟨gs0, 0, none⟩ (.slice (some ⟨wr.heap.size, 0, none⟩) nr nr) = W8 at MK HK8 HT8 ⊢
          have CL := hid (find_any hnr HCC.out (nr + 1) i (fun _ => false, kuhn (kE c) nr i) W8 hin (kuhn_lt (kE c) nr i hi) (by show nr < cntB _ nr + (nr + 1); omega) MK.out)
          refine CL.out.mono ?_
          rintro r w9 ⟨⟨rfl, hM9⟩, hK9⟩
          have HJ9 : Hid (MjR w w9 B B gm0 gs0 ga0 gf0 ga (.pointer (some ⟨gt, 0, none⟩)) nl nr c (i + 1)) := hid
            ⟨hM9.t, hM9.mo, ⟨_, hM9.se⟩, hM9.ma, hM9.fi, hM9.m, HT8.out.keep hK9 (fun b _ hb => ⟨by have h9 : b < B := hb; omega, by have h9 : b < B := hb; omega⟩), hM9.n1, hba, hbs, HK8.out.trans (hK9.mono (fun b _ hb => ⟨by have h9 : b < B := hb; omega, by have h9 : b < B := hb; omega⟩))⟩
          clear CL MK HK8 HT8 hM9 hK9 HR
          go_wp2
          go_roundw
          case rel => exact ⟨i + 1, by go_num, by omega, HJ9⟩
          case measure => simp [intOf]; omega

end Go.Proofs.Ytcpefolhohakmaa
