/- Walk of run: one search. -/
import Derived.Test.YtcpefolhohakmaaI6
namespace Go.Proofs.Ytcpefolhohakmaa
open Go.RowKit
attribute [local irreducible] seqS seqST walkV walkJ

set_option maxHeartbeats 40000000 in
set_option maxRecDepth 100000 in
theorem run_any {ad : Nat → Nat → Bool} {n : Nat} {m : Mt} (G : Gr n (fun i j => ad i j = true)) (hM : Mat (fun i j => ad i j = true) m) {root gs gg gm : Nat} {gv x2 x3 x4 x5 : Value} (hn1 : n ≤ 400) (hr : root < n) (hmr : m root = none) (w : World)
    (hs : Blk w gs #[.pointer (some ⟨gg, 0, none⟩), slV gm n, x2, x3, x4, x5] 133) (hg : Blk w gg #[.int .i64 (n : Int), gv] 78) (hm : Blk w gm (arr n fun i => oI (m i)) 3) (hrow : RowsR (· ≠ gs) w gv n (fun i => nbT ad i n)) :
    Calls Try.prog 66 #[.pointer (some ⟨gs, 0, none⟩), .int .i64 (root : Int)] w fun e w' => RunP (fun i j => ad i j = true) gs gg gm gv n root m w e w' := by
  have y0 := hs.look 0 rfl
  have y1 := hg.look 0 rfl
  have UT := hid (fun w => upTo_any n w (by omega))
  have HROW := hid hrow
  have hgm : gm ≠ gs := blk_ne hm hs (by decide)
  have hgg : gg ≠ gs := blk_ne hg hs (by decide)
  have hgsl := hs.lt
  go_enter Try.func66, Try.ntmps66
  go_wp2_with fail
  clear y0 y1
  refine wp_walkJ (T := Keep (· ≠ gs)) (keep_pre _) (.rd 0 (.rd 1 (.rd 2 (.rd 3 (.rd 5 (.rd 7 (.inv [4, 6, 8, 9, 10, 11, 12, 13, 14, 15, 16, 17]))))))) (by kernel_rfl) rfl (by kernel_rfl) (by kernel_rfl) ?_
  iterate 6 (refine walkJ_rd rfl (fun K hK => ?_); go_simp; refine hK _ ?_; clear hK K)
  have hs0 := hs.drew
  have hkd := Keep.drew (· ≠ gs) w
  obtain ⟨Wd, hWd⟩ : ∃ Wd, w.drew = Wd := ⟨_, rfl⟩
  have hs9 : w.heap.size = Wd.heap.size := by rw [← hWd]; rfl
  rw [hWd] at hs0 hkd ⊢
  have HS9 := hid hs9
  clear hs9 hWd
  refine walkJ_inv (RnI gs n (.pointer (some ⟨gg, 0, none⟩)) (slV gm n) x5 w Wd) [(4, 21), (6, 23), (8, 25), (9, 26), (10, 27), (12, 28), (13, 29), (15, 30), (16, 31)] (by kernel_rfl) ?_ ?_ ?_
  · exact ⟨Keep.refl _ _, fun h => (by cases h), fun h => (by cases h), fun h => (by cases h), fun h => (by cases h), fun h => (by cases h), fun h => (by cases h), fun h => (by cases h), fun h => (by cases h), fun h => (by cases h), fun h => (by cases h), x2, x3, x4, hs0, fun h => (by cases h), fun h => (by cases h), fun h => (by cases h)⟩
  · refine stepsI_cons [] [9, 10, 11, 12, 13, 14, 15, 16, 17] [] rfl (by kernel_rfl) (by kernel_rfl) (by kernel_rfl) (fun K l V x hx hl hds hn hI hK => ?_) ?_
    · have hsx : w.heap.size ≤ x.heap.size := by rw [HS9.out]; exact hx.size
      have hb9 := Keep.alloc (· ≠ gs) x (.cells (arr n fun _ => .int .i64 0) 3)
      refine ⟨rfl, gives_mka (.tmp 20) (.tmp 20) 37 rfl 3 (.int .i64 0) 8 Try.underlying37 infoInt rfl _ _ n rfl rfl (by omega) (by omega) (hK _ _ hb9 ?_)⟩
      exact ⟨hI.k.trans hb9, fun _ => ⟨_, rfl, hsx, Blk.new x _ _⟩, fun h => (by obtain ⟨g, p1, p2, p3⟩ := hI.a6 h; exact ⟨g, p1, p2, hb9.blk p3 (by omega)⟩), fun h => (by obtain ⟨g, p1, p2, p3⟩ := hI.a8 h; exact ⟨g, p1, p2, hb9.blk p3 (by omega)⟩), fun _ h => fun e => (by obtain ⟨g, p1, p2, p3⟩ := hI.a6 h; have e2 := e.trans p1; injection e2 with e3; injection e3 with e4; injection e4 with e5; have := p3.lt; omega), fun h => hI.a9 h, fun h => hI.a10 h, fun h => hI.a12 h, fun h => hI.a13 h, fun h => hI.a15 h, fun h => hI.a16 h, (by obtain ⟨c2, c3, c4, kS, t2, t3, t4⟩ := hI.s; exact ⟨c2, c3, c4, hb9.blk2 kS, fun h => absurd (show l 11 = true from h) (by rw [hds.2.2.1]; simp), fun h => t3 h, fun h => t4 h⟩)⟩
    refine stepsI_cons [] [9, 10, 11, 12, 13, 14, 15, 16, 17] [] rfl (by kernel_rfl) (by kernel_rfl) (by kernel_rfl) (fun K l V x hx hl hds hn hI hK => ?_) ?_
    · have hsx : w.heap.size ≤ x.heap.size := by rw [HS9.out]; exact hx.size
      go_simp
      refine (UT.out _).mono ?_
      rintro r w9 ⟨⟨g9, rfl, hg9, kg9⟩, hbl9⟩
      have hb9 : Keep (· ≠ gs) x w9 := Keep.of_below hbl9
      refine ⟨_, rfl, hK _ _ hb9 ?_⟩
      exact ⟨hI.k.trans hb9, fun h => (by obtain ⟨g, p1, p2, p3⟩ := hI.a4 h; exact ⟨g, p1, p2, hb9.blk p3 (by omega)⟩), fun _ => ⟨g9, rfl, by omega, kg9⟩, fun h => (by obtain ⟨g, p1, p2, p3⟩ := hI.a8 h; exact ⟨g, p1, p2, hb9.blk p3 (by omega)⟩), fun h _ => fun e => (by obtain ⟨g, p1, p2, p3⟩ := hI.a4 h; have e2 := p1.symm.trans e; injection e2 with e3; injection e3 with e4; injection e4 with e5; have := p3.lt; omega), fun h => hI.a9 h, fun h => hI.a10 h, fun h => hI.a12 h, fun h => hI.a13 h, fun h => hI.a15 h, fun h => hI.a16 h, (by obtain ⟨c2, c3, c4, kS, t2, t3, t4⟩ := hI.s; exact ⟨c2, c3, c4, kS.below hbl9, fun h => t2 h, fun h => absurd (show l 14 = true from h) (by rw [hds.2.2.2.2.2.1]; simp), fun h => t4 h⟩)⟩
    refine stepsI_cons [] [15, 16, 17] [] rfl (by kernel_rfl) (by kernel_rfl) (by kernel_rfl) (fun K l V x hx hl hds hn hI hK => ?_) ?_
    · have hsx : w.heap.size ≤ x.heap.size := by rw [HS9.out]; exact hx.size
      have hb9 := Keep.alloc (· ≠ gs) x (.cells (arr n fun _ => .bool false) 4)
      refine ⟨rfl, gives_mka (.tmp 24) (.tmp 24) 80 rfl 4 (.bool false) 1 Try.underlying80 infoBool rfl _ _ n rfl rfl (by omega) (by omega) (hK _ _ hb9 ?_)⟩
      exact ⟨hI.k.trans hb9, fun h => (by obtain ⟨g, p1, p2, p3⟩ := hI.a4 h; exact ⟨g, p1, p2, hb9.blk p3 (by omega)⟩), fun h => (by obtain ⟨g, p1, p2, p3⟩ := hI.a6 h; exact ⟨g, p1, p2, hb9.blk p3 (by omega)⟩), fun _ => ⟨_, rfl, hsx, Blk.new x _ _⟩, hI.ne, fun h => hI.a9 h, fun h => hI.a10 h, fun h => hI.a12 h, fun h => hI.a13 h, fun h => hI.a15 h, fun h => hI.a16 h, (by obtain ⟨c2, c3, c4, kS, t2, t3, t4⟩ := hI.s; exact ⟨c2, c3, c4, hb9.blk2 kS, fun h => t2 h, fun h => t3 h, fun h => absurd (show l 17 = true from h) (by rw [hds.2.2.1]; simp)⟩)⟩
    refine stepsI_cons [4, 6] [10, 11, 12, 13, 14, 15, 16, 17] [(4, 21), (6, 23)] rfl (by kernel_rfl) (by kernel_rfl) (by kernel_rfl) (fun K l V x hx hl hds hn hI hK => ?_) ?_
    · have hsx : w.heap.size ≤ x.heap.size := by rw [HS9.out]; exact hx.size
      have hb9 := Keep.refl (· ≠ gs) x
      simp only [putsP]
      go_simp
      refine hK _ _ hb9 ?_
      exact ⟨hI.k.trans hb9, fun h => (by obtain ⟨g, p1, p2, p3⟩ := hI.a4 h; exact ⟨g, p1, p2, hb9.blk p3 (by omega)⟩), fun h => (by obtain ⟨g, p1, p2, p3⟩ := hI.a6 h; exact ⟨g, p1, p2, hb9.blk p3 (by omega)⟩), fun h => (by obtain ⟨g, p1, p2, p3⟩ := hI.a8 h; exact ⟨g, p1, p2, hb9.blk p3 (by omega)⟩), hI.ne, fun _ => rfl, fun h => hI.a10 h, fun h => hI.a12 h, fun h => hI.a13 h, fun h => hI.a15 h, fun h => hI.a16 h, (by obtain ⟨c2, c3, c4, kS, t2, t3, t4⟩ := hI.s; exact ⟨c2, c3, c4, kS, fun h => t2 h, fun h => t3 h, fun h => t4 h⟩)⟩
    refine stepsI_cons [4, 6, 9] [11, 12, 13, 14, 15, 16, 17] [(4, 21), (6, 23), (9, 26)] rfl (by kernel_rfl) (by kernel_rfl) (by kernel_rfl) (fun K l V x hx hl hds hn hI hK => ?_) ?_
    · have hsx : w.heap.size ≤ x.heap.size := by rw [HS9.out]; exact hx.size
      have hb9 := Keep.refl (· ≠ gs) x
      simp only [putsP, hI.a9 hl.2.2.1]
      go_simp
      refine hK _ _ hb9 ?_
      exact ⟨hI.k.trans hb9, fun h => (by obtain ⟨g, p1, p2, p3⟩ := hI.a4 h; exact ⟨g, p1, p2, hb9.blk p3 (by omega)⟩), fun h => (by obtain ⟨g, p1, p2, p3⟩ := hI.a6 h; exact ⟨g, p1, p2, hb9.blk p3 (by omega)⟩), fun h => (by obtain ⟨g, p1, p2, p3⟩ := hI.a8 h; exact ⟨g, p1, p2, hb9.blk p3 (by omega)⟩), hI.ne, fun h => hI.a9 h, fun _ => rfl, fun h => hI.a12 h, fun h => hI.a13 h, fun h => hI.a15 h, fun h => hI.a16 h, (by obtain ⟨c2, c3, c4, kS, t2, t3, t4⟩ := hI.s; exact ⟨c2, c3, c4, kS, fun h => t2 h, fun h => t3 h, fun h => t4 h⟩)⟩
    refine stepsI_cons [4, 6, 9, 10] [12, 13, 14, 15, 16, 17] [(4, 21), (6, 23), (9, 26), (10, 27)] rfl (by kernel_rfl) (by kernel_rfl) (by kernel_rfl) (fun K l V x hx hl hds hn hI hK => ?_) ?_
    · have hsx : w.heap.size ≤ x.heap.size := by rw [HS9.out]; exact hx.size
      obtain ⟨g9, q1, q2, q3⟩ := hI.a4 hl.1
      obtain ⟨c2, c3, c4, kS, t2, t3, t4⟩ := hI.s
      have T2 := hid t2
      have T3 := hid t3
      have T4 := hid t4
      clear t2 t3 t4
      have x9 := kS.look 2 rfl
      have f9 := kS.frozen 2
      have l9 := kS.lt
      have hb9 : Keep (· ≠ gs) x (x.setCell ⟨gs, 2, none⟩ (slV g9 n)) := Keep.set x (p := ⟨gs, 2, none⟩) (fun h => h rfl) _
      have hs9 := hid (kS.set 2 (slV g9 n))
      simp only [putsP, hI.a10 hl.2.2.2.1, q1]
      go_simp
      refine hK _ _ hb9 ?_
      clear x9 f9 l9 kS
      exact ⟨hI.k.trans hb9, fun h => (by obtain ⟨g, p1, p2, p3⟩ := hI.a4 h; exact ⟨g, p1, p2, hb9.blk p3 (by omega)⟩), fun h => (by obtain ⟨g, p1, p2, p3⟩ := hI.a6 h; exact ⟨g, p1, p2, hb9.blk p3 (by omega)⟩), fun h => (by obtain ⟨g, p1, p2, p3⟩ := hI.a8 h; exact ⟨g, p1, p2, hb9.blk p3 (by omega)⟩), hI.ne, fun h => hI.a9 h, fun h => hI.a10 h, fun h => hI.a12 h, fun h => hI.a13 h, fun h => hI.a15 h, fun h => hI.a16 h, ⟨slV g9 n, c3, c4, (by have := hs9.out; exact this), fun _ => q1.symm, fun h => T3.out h, fun h => T4.out h⟩⟩
    refine stepsI_cons [4, 6, 9, 10, 11] [13, 14, 15, 16, 17] [(4, 21), (6, 23), (9, 26), (10, 27)] rfl (by kernel_rfl) (by kernel_rfl) (by kernel_rfl) (fun K l V x hx hl hds hn hI hK => ?_) ?_
    · have hsx : w.heap.size ≤ x.heap.size := by rw [HS9.out]; exact hx.size
      have hb9 := Keep.refl (· ≠ gs) x
      simp only [putsP]
      go_simp
      refine hK _ _ hb9 ?_
      exact ⟨hI.k.trans hb9, fun h => (by obtain ⟨g, p1, p2, p3⟩ := hI.a4 h; exact ⟨g, p1, p2, hb9.blk p3 (by omega)⟩), fun h => (by obtain ⟨g, p1, p2, p3⟩ := hI.a6 h; exact ⟨g, p1, p2, hb9.blk p3 (by omega)⟩), fun h => (by obtain ⟨g, p1, p2, p3⟩ := hI.a8 h; exact ⟨g, p1, p2, hb9.blk p3 (by omega)⟩), hI.ne, fun h => hI.a9 h, fun h => hI.a10 h, fun _ => rfl, fun h => hI.a13 h, fun h => hI.a15 h, fun h => hI.a16 h, (by obtain ⟨c2, c3, c4, kS, t2, t3, t4⟩ := hI.s; exact ⟨c2, c3, c4, kS, fun h => t2 h, fun h => t3 h, fun h => t4 h⟩)⟩
    refine stepsI_cons [4, 6, 9, 10, 11, 12] [14, 15, 16, 17] [(4, 21), (6, 23), (9, 26), (10, 27), (12, 28)] rfl (by kernel_rfl) (by kernel_rfl) (by kernel_rfl) (fun K l V x hx hl hds hn hI hK => ?_) ?_
    · have hsx : w.heap.size ≤ x.heap.size := by rw [HS9.out]; exact hx.size
      have hb9 := Keep.refl (· ≠ gs) x
      simp only [putsP, hI.a12 hl.2.2.2.2.2.1]
      go_simp
      refine hK _ _ hb9 ?_
      exact ⟨hI.k.trans hb9, fun h => (by obtain ⟨g, p1, p2, p3⟩ := hI.a4 h; exact ⟨g, p1, p2, hb9.blk p3 (by omega)⟩), fun h => (by obtain ⟨g, p1, p2, p3⟩ := hI.a6 h; exact ⟨g, p1, p2, hb9.blk p3 (by omega)⟩), fun h => (by obtain ⟨g, p1, p2, p3⟩ := hI.a8 h; exact ⟨g, p1, p2, hb9.blk p3 (by omega)⟩), hI.ne, fun h => hI.a9 h, fun h => hI.a10 h, fun h => hI.a12 h, fun _ => rfl, fun h => hI.a15 h, fun h => hI.a16 h, (by obtain ⟨c2, c3, c4, kS, t2, t3, t4⟩ := hI.s; exact ⟨c2, c3, c4, kS, fun h => t2 h, fun h => t3 h, fun h => t4 h⟩)⟩
    refine stepsI_cons [4, 6, 9, 10, 11, 12, 13] [15, 16, 17] [(4, 21), (6, 23), (9, 26), (10, 27), (12, 28), (13, 29)] rfl (by kernel_rfl) (by kernel_rfl) (by kernel_rfl) (fun K l V x hx hl hds hn hI hK => ?_) ?_
    · have hsx : w.heap.size ≤ x.heap.size := by rw [HS9.out]; exact hx.size
      obtain ⟨g9, q1, q2, q3⟩ := hI.a6 hl.2.1
      obtain ⟨c2, c3, c4, kS, t2, t3, t4⟩ := hI.s
      have T2 := hid t2
      have T3 := hid t3
      have T4 := hid t4
      clear t2 t3 t4
      have x9 := kS.look 3 rfl
      have f9 := kS.frozen 3
      have l9 := kS.lt
      have hb9 : Keep (· ≠ gs) x (x.setCell ⟨gs, 3, none⟩ (slV g9 n)) := Keep.set x (p := ⟨gs, 3, none⟩) (fun h => h rfl) _
      have hs9 := hid (kS.set 3 (slV g9 n))
      simp only [putsP, hI.a13 hl.2.2.2.2.2.2.1, q1]
      go_simp
      refine hK _ _ hb9 ?_
      clear x9 f9 l9 kS
      exact ⟨hI.k.trans hb9, fun h => (by obtain ⟨g, p1, p2, p3⟩ := hI.a4 h; exact ⟨g, p1, p2, hb9.blk p3 (by omega)⟩), fun h => (by obtain ⟨g, p1, p2, p3⟩ := hI.a6 h; exact ⟨g, p1, p2, hb9.blk p3 (by omega)⟩), fun h => (by obtain ⟨g, p1, p2, p3⟩ := hI.a8 h; exact ⟨g, p1, p2, hb9.blk p3 (by omega)⟩), hI.ne, fun h => hI.a9 h, fun h => hI.a10 h, fun h => hI.a12 h, fun h => hI.a13 h, fun h => hI.a15 h, fun h => hI.a16 h, ⟨c2, slV g9 n, c4, (by have := hs9.out; exact this), fun h => T2.out h, fun _ => q1.symm, fun h => T4.out h⟩⟩
    refine stepsI_cons [4, 6, 8, 9, 10, 11, 12, 13, 14] [16, 17] [(4, 21), (6, 23), (8, 25), (9, 26), (10, 27), (12, 28), (13, 29)] rfl (by kernel_rfl) (by kernel_rfl) (by kernel_rfl) (fun K l V x hx hl hds hn hI hK => ?_) ?_
    · have hsx : w.heap.size ≤ x.heap.size := by rw [HS9.out]; exact hx.size
      have hb9 := Keep.refl (· ≠ gs) x
      simp only [putsP]
      go_simp
      refine hK _ _ hb9 ?_
      exact ⟨hI.k.trans hb9, fun h => (by obtain ⟨g, p1, p2, p3⟩ := hI.a4 h; exact ⟨g, p1, p2, hb9.blk p3 (by omega)⟩), fun h => (by obtain ⟨g, p1, p2, p3⟩ := hI.a6 h; exact ⟨g, p1, p2, hb9.blk p3 (by omega)⟩), fun h => (by obtain ⟨g, p1, p2, p3⟩ := hI.a8 h; exact ⟨g, p1, p2, hb9.blk p3 (by omega)⟩), hI.ne, fun h => hI.a9 h, fun h => hI.a10 h, fun h => hI.a12 h, fun h => hI.a13 h, fun _ => rfl, fun h => hI.a16 h, (by obtain ⟨c2, c3, c4, kS, t2, t3, t4⟩ := hI.s; exact ⟨c2, c3, c4, kS, fun h => t2 h, fun h => t3 h, fun h => t4 h⟩)⟩
    refine stepsI_cons [4, 6, 8, 9, 10, 11, 12, 13, 14, 15] [17] [(4, 21), (6, 23), (8, 25), (9, 26), (10, 27), (12, 28), (13, 29), (15, 30)] rfl (by kernel_rfl) (by kernel_rfl) (by kernel_rfl) (fun K l V x hx hl hds hn hI hK => ?_) ?_
    · have hsx : w.heap.size ≤ x.heap.size := by rw [HS9.out]; exact hx.size
      have hb9 := Keep.refl (· ≠ gs) x
      simp only [putsP, hI.a15 hl.2.2.2.2.2.2.2.2.2.1]
      go_simp
      refine hK _ _ hb9 ?_
      exact ⟨hI.k.trans hb9, fun h => (by obtain ⟨g, p1, p2, p3⟩ := hI.a4 h; exact ⟨g, p1, p2, hb9.blk p3 (by omega)⟩), fun h => (by obtain ⟨g, p1, p2, p3⟩ := hI.a6 h; exact ⟨g, p1, p2, hb9.blk p3 (by omega)⟩), fun h => (by obtain ⟨g, p1, p2, p3⟩ := hI.a8 h; exact ⟨g, p1, p2, hb9.blk p3 (by omega)⟩), hI.ne, fun h => hI.a9 h, fun h => hI.a10 h, fun h => hI.a12 h, fun h => hI.a13 h, fun h => hI.a15 h, fun _ => rfl, (by obtain ⟨c2, c3, c4, kS, t2, t3, t4⟩ := hI.s; exact ⟨c2, c3, c4, kS, fun h => t2 h, fun h => t3 h, fun h => t4 h⟩)⟩
    refine stepsI_cons [4, 6, 8, 9, 10, 11, 12, 13, 14, 15, 16] [] [(4, 21), (6, 23), (8, 25), (9, 26), (10, 27), (12, 28), (13, 29), (15, 30), (16, 31)] rfl (by kernel_rfl) (by kernel_rfl) (by kernel_rfl) (fun K l V x hx hl hds hn hI hK => ?_) ?_
    · have hsx : w.heap.size ≤ x.heap.size := by rw [HS9.out]; exact hx.size
      obtain ⟨g9, q1, q2, q3⟩ := hI.a8 hl.2.2.1
      obtain ⟨c2, c3, c4, kS, t2, t3, t4⟩ := hI.s
      have T2 := hid t2
      have T3 := hid t3
      have T4 := hid t4
      clear t2 t3 t4
      have x9 := kS.look 4 rfl
      have f9 := kS.frozen 4
      have l9 := kS.lt
      have hb9 : Keep (· ≠ gs) x (x.setCell ⟨gs, 4, none⟩ (slV g9 n)) := Keep.set x (p := ⟨gs, 4, none⟩) (fun h => h rfl) _
      have hs9 := hid (kS.set 4 (slV g9 n))
      simp only [putsP, hI.a16 hl.2.2.2.2.2.2.2.2.2.2.1, q1]
      go_simp
      refine hK _ _ hb9 ?_
      clear x9 f9 l9 kS
      exact ⟨hI.k.trans hb9, fun h => (by obtain ⟨g, p1, p2, p3⟩ := hI.a4 h; exact ⟨g, p1, p2, hb9.blk p3 (by omega)⟩), fun h => (by obtain ⟨g, p1, p2, p3⟩ := hI.a6 h; exact ⟨g, p1, p2, hb9.blk p3 (by omega)⟩), fun h => (by obtain ⟨g, p1, p2, p3⟩ := hI.a8 h; exact ⟨g, p1, p2, hb9.blk p3 (by omega)⟩), hI.ne, fun h => hI.a9 h, fun h => hI.a10 h, fun h => hI.a12 h, fun h => hI.a13 h, fun h => hI.a15 h, fun h => hI.a16 h, ⟨c2, c3, slV g9 n, (by have := hs9.out; exact this), fun h => T2.out h, fun h => T3.out h, fun _ => q1.symm⟩⟩
    exact stepsI_nil
  intro V W2 hW2 hI
  obtain ⟨gf, p4, hf1, kf⟩ := hI.a4 rfl
  obtain ⟨gb, p6, hb1, kb⟩ := hI.a6 rfl
  obtain ⟨ge, p8, he1, ke⟩ := hI.a8 rfl
  have hfb : gf ≠ gb := fun e => hI.ne rfl rfl (by rw [p4, p6, e])
  have q9 := hI.a9 rfl
  have q10 := hI.a10 rfl
  have q12 := hI.a12 rfl
  have q13 := hI.a13 rfl
  have q15 := hI.a15 rfl
  have q16 := hI.a16 rfl
  obtain ⟨c2, c3, c4, kS, t2, t3, t4⟩ := hI.s
  have e2 := (t2 rfl).trans p4
  have e3 := (t3 rfl).trans p6
  have e4 := (t4 rfl).trans p8
  subst e2 e3 e4
  have hkI := hkd.trans hI.k
  have kg2 := hkI.blk hg hgg
  have km2 := hkI.blk hm hgm
  have HROW2 := hid (HROW.out.keep hkI (fun _ _ h => h))
  have HKI : Hid (Keep (· ≠ gs) w W2) := hid hkI
  clear hI hW2 HS9 hkd hs0 t2 t3 t4 UT Wd
  simp only [putsP, p4, p6, p8, q9, q10, q12, q13, q15, q16]
  go_simp
  clear p4 p6 p8 q9 q10 q12 q13 q15 q16
  have a2 := kS.look 2 rfl
  go_wp2_with fail
  clear a2
  obtain ⟨B, hB⟩ : ∃ B, w.heap.size = B := ⟨_, rfl⟩
  have HB := hid hB
  rw [hB] at hf1 hb1 he1
  have hgsB : gs < B := by omega
  have hggB : gg < B := by have := hg.lt; omega
  have hgmB : gm < B := by have := hm.lt; omega
  clear hB
  go_loopw [37] (fun z wr => ∃ k : Nat, z = .int .i64 (k : Int) ∧ k ≤ n ∧ Hid (Blk wr gf (arr n fun i => .int .i64 (if i < k then -1 else 0)) 3) ∧ Keep (· ≠ gf) W2 wr) (fun z _ => n - (intOf z).toNat)
  case atStart => exact ⟨0, rfl, Nat.zero_le _, hid (by simpa using kf), Keep.refl _ _⟩
  case round =>
    obtain ⟨k, rfl, hk, HW, hkp⟩ := hrel
    by_cases hkn : k < n
    case pos =>
      have hk2 : (k : Int) < (n : Int) := by omega
      have kS2 := hkp.blk kS (by show gs ≠ gf; omega)
      have a2 := kS2.look 2 rfl
      have x0 := HW.out.arr_look hkn
      have f0 := HW.out.frozen k
      have hlt := HW.out.lt
      have kW2 := HW.out.arr_set k (.int .i64 (-1))
      have e : arr n (fun j => if j = k then Value.int .i64 (-1) else .int .i64 (if j < k then -1 else 0)) = arr n (fun i => .int .i64 (if i < k + 1 then -1 else 0)) := arr_congr fun i hi => by
        by_cases h1 : i = k
        · subst h1; rw [if_pos rfl, if_pos (by omega)]
        · rw [if_neg h1]
          by_cases h2 : i < k
          · rw [if_pos h2, if_pos (by omega)]
          · rw [if_neg h2, if_neg (by omega)]
      rw [e] at kW2
      have HW2 := hid kW2
      have hkp2 := hkp.trans (Keep.set wr (p := ⟨gf, k, none⟩) (fun h => h rfl) (.int .i64 (-1)))
      clear kW2 e HW hkp kS2
      go_wp2
      go_roundw
      case rel => exact ⟨k + 1, by go_num, by omega, HW2, hkp2⟩
      case measure => simp [intOf]; omega
    case neg =>
      obtain rfl : n = k := by omega
      have hk2 : ¬ (n : Int) < (n : Int) := by omega
      have hn0 : Hid (∀ z : Value, True) := hid (fun _ => trivial)
      clear hn0
      have kfn : Blk wr gf (arr n fun i => oI ((fun _ => none : Mt) i)) 3 := by
        have := HW.out
        rw [arr_congr (f' := fun i => oI ((fun _ => none : Mt) i)) (fun i hi => by rw [if_pos hi]; rfl)] at this
        exact this
      have hge1 : ge ≠ gf := fun e => blk_ne ke kf (by decide) e
      have hge2 : ge ≠ gb := fun e => blk_ne ke kb (by decide) e
      have kS3 := hkp.blk kS (by show gs ≠ gf; omega)
      have kg3 := hkp.blk kg2 (by show gg ≠ gf; omega)
      have km3 := hkp.blk km2 (by show gm ≠ gf; omega)
      have kb3 := hkp.blk kb (fun e => hfb e.symm)
      have ke3 := hkp.blk ke hge1
      have hkw : Hid (Keep (fun b => b < B ∧ b ≠ gs) w wr) := hid ((HKI.out.mono (fun b _ hb => hb.2)).trans (hkp.mono (fun b _ hb => by show b ≠ gf; have h9 : b < B := hb.1; omega)))
      have a4 := kS3.look 4 rfl
      have xe := ke3.arr_look hr
      have fe := ke3.frozen root
      have le := ke3.lt
      have hr2 : (root : Int) < (n : Int) := by omega
      have hges : ge ≠ gs := by omega
      have kS4 := (kS3.other (p := ⟨ge, root, none⟩) hges.symm (.bool true)).alloc (.cells #[.int .i64 (root : Int)] 3)
      have x5' := kS4.look 5 rfl
      have f5' := kS4.frozen 5
      have l5' := kS4.lt
      have ke4 := ke3.arr_set root (.bool true)
      have e0 : arr n (fun j => if j = root then Value.bool true else .bool false) = arr n (fun j => .bool (decide (j = root))) := arr_congr fun j _ => by
        by_cases e : j = root <;> simp [e]
      rw [e0] at ke4
      have hsz : (wr.setCell ⟨ge, root, none⟩ (.bool true)).heap.size = wr.heap.size := by simp [World.setCell]
      have kQ := Blk.new (wr.setCell ⟨ge, root, none⟩ (.bool true)) #[.int .i64 (root : Int)] 3
      rw [hsz] at kQ
      have HSE0 : Hid (SeR ((wr.setCell ⟨ge, root, none⟩ (.bool true)).alloc (.cells #[.int .i64 (root : Int)] 3)) gs gg gm gf gb ge gv x5 n m (fun _ => none) (fun i => i) (fun i => decide (i = root))) := hid
        ⟨kS4, (kg3.other (p := ⟨ge, root, none⟩) (by show gg ≠ ge; omega) _).alloc _, (km3.other (p := ⟨ge, root, none⟩) (by show gm ≠ ge; omega) _).alloc _, (kfn.other (p := ⟨ge, root, none⟩) hge1.symm _).alloc _, (kb3.other (p := ⟨ge, root, none⟩) hge2.symm _).alloc _, ke4.alloc _⟩
      have HSE : Hid (SeR (((wr.setCell ⟨ge, root, none⟩ (.bool true)).alloc (.cells #[.int .i64 (root : Int)] 3)).setCell ⟨gs, 5, none⟩ (.slice (some ⟨wr.heap.size, 0, none⟩) 1 1)) gs gg gm gf gb ge gv (.slice (some ⟨wr.heap.size, 0, none⟩) 1 1) n m (fun _ => none) (fun i => i) (fun i => decide (i = root))) := hid
        (HSE0.out.setQ hgg hgm (by omega) (by omega) hges _)
      have HQU : Hid (QuR (((wr.setCell ⟨ge, root, none⟩ (.bool true)).alloc (.cells #[.int .i64 (root : Int)] 3)).setCell ⟨gs, 5, none⟩ (.slice (some ⟨wr.heap.size, 0, none⟩) 1 1)) (QP B gf gb ge) (.slice (some ⟨wr.heap.size, 0, none⟩) 1 1) [root]) := hid
        (QuR.one (kQ.other (p := ⟨gs, 5, none⟩) (by have := kS3.lt; show wr.heap.size ≠ gs; omega) _) ⟨by have := kfn.lt; omega, by have := kfn.lt; omega, by have := kb3.lt; omega, by have := ke3.lt; omega⟩)
      have HKW : Hid (Keep (fun b => b < B ∧ b ≠ gs) w (((wr.setCell ⟨ge, root, none⟩ (.bool true)).alloc (.cells #[.int .i64 (root : Int)] 3)).setCell ⟨gs, 5, none⟩ (.slice (some ⟨wr.heap.size, 0, none⟩) 1 1))) := hid
        (((hkw.out.trans (Keep.set wr (p := ⟨ge, root, none⟩) (fun h => by have h9 : ge < B := h.1; omega) _)).trans (Keep.alloc _ _ _)).trans (Keep.set _ (p := ⟨gs, 5, none⟩) (fun h => h.2 rfl) _))
      clear hkp kS kg2 km2 kb ke kf HW HKI kS4 ke4 e0 hsz kQ HSE0 hkw kfn kS3 kg3 km3 kb3 ke3
      go_wp2_with fail
      clear a4 xe fe le x5' f5' l5'
      generalize ((wr.setCell ⟨ge, root, none⟩ (.bool true)).alloc (.cells #[.int .i64 (root : Int)] 3)).setCell ⟨gs, 5, none⟩ (.slice (some ⟨wr.heap.size, 0, none⟩) 1 1) = W8 at HSE HQU HKW ⊢
      have HROWB : Hid (RowsR (fun b => b < B ∧ b ≠ gs) w gv n (fun i => nbT ad i n)) := hid (by
        obtain ⟨gw, vs, h1, h2, h3, h4⟩ := HROW.out
        exact ⟨gw, vs, h1, ⟨by have := h3.lt; rw [HB.out] at this; exact this, h2⟩, h3, fun i hi => SlS.mono (h4 i hi) (fun b hb hne => ⟨by rw [HB.out] at hb; exact hb, hne⟩)⟩)
      have HSI0 := hid (SI.start (r := root) (n := n) (adj := fun i j => ad i j = true) G.irr hM hr hmr)
      have HQO0 := hid (QO.start (adj := fun i j => ad i j = true) root)
      have HBS : Hid (gs < B ∧ gg < B ∧ gm < B ∧ B ≤ gf ∧ B ≤ gb ∧ B ≤ ge) := hid ⟨hgsB, hggB, hgmB, hf1, hb1, he1⟩
      have HFB := hid hfb
      have HGG := hid hgg
      have HGM := hid hgm
      have HGES := hid hges
      clear HROW HROW2 hs hg hm hrow hkI hfb hgg hgm hges he1 hb1 hf1 hgsB hggB hgmB hk hkn hge1 hge2 hk2 hr2 hgsl
      go_loopg [7] (2 * (n - cntB (fun i => decide (i = root)) n) + 1) (fun k _ wr => ∃ (f : Mt) (bs : Nat → Nat) (ev : Nat → Bool) (lev : Nat → Nat) (q : List Nat) (qv : Value) (P : Nat → Prop), Hid (SeR wr gs gg gm gf gb ge gv qv n m f bs ev) ∧ Hid (QuR wr (QP B gf gb ge) qv q) ∧ Hid (SI n (fun i j => ad i j = true) m root f bs ev lev) ∧ Hid (QO (fun i j => ad i j = true) f bs ev P q) ∧ Hid (k = 2 * (n - cntB ev n) + q.length) ∧ Hid (2 * (n - cntB ev n) + q.length ≤ 2 * n + 1) ∧ Hid (Keep (fun b => b < B ∧ b ≠ gs) w wr))
      case atStart => exact ⟨_, _, _, _, [root], _, _, HSE, HQU, HSI0, HQO0, hid rfl, hid (by simp; omega), HKW⟩
      case round =>
        obtain ⟨f, bs, ev, lev, q, qv, P, HER, HQR, HSI, HQO, HGK, HQB, HKP⟩ := hrel
        have a5 := HER.out.s.look 5 rfl
        clear HSE HQU HSI0 HQO0 HKW
        cases q with
        | nil =>
          obtain ⟨gq, off, cap, cur, rfl, -⟩ := id HQR.out
          have hev := hid (HQO.out.cert HSI.out G hM)
          have HE2 := hid HER.out
          clear HER HQR HQO HSI HGK HQB
          go_wp2
          go_ret
          refine ⟨⟨gf, gb, ge, _, f, bs, ev, HE2.out, ⟨by rw [HB.out]; exact HBS.out.2.2.2.1, by rw [HB.out]; exact HBS.out.2.2.2.2.1, by rw [HB.out]; exact HBS.out.2.2.2.2.2⟩, .inl ⟨rfl, hev.out⟩⟩, HKP.out.mono (fun b hb hne => ⟨by rw [HB.out] at hb; exact hb, hne⟩)⟩
        | cons u q' =>
          obtain ⟨gq, off, cap, cur, rfl, h2, h3, h4, h5, h6, -⟩ := id HQR.out
          have x0 := HQR.out.cell (j := 0) (by simp)
          rw [Nat.add_zero] at x0
          have hu : (u :: q').getD 0 0 = u := rfl
          rw [hu] at x0
          have hcm := h6
          unfold maxLen at hcm
          have hcap : q'.length + 1 ≤ cap := by simpa using h5
          have hcap2 : (q'.length : Int) + 1 ≤ (cap : Int) := by omega
          have hcap3 : (1 : Int) ≤ (cap : Int) := by omega
          have f5 := HER.out.s.frozen 5
          have l5 := HER.out.s.lt
          have hlen : (u :: q').length = q'.length + 1 := rfl
          rw [hlen] at HER HQR a5
          clear hu h2 h3 h4 h5 h6 hlen
          go_upto_region 11 with fail
          go_cut [7] from 58 to 207 (fun v wx => v = .int .i64 (u : Int) ∧ ∃ v1, Hid (SeR wx gs gg gm gf gb ge gv v1 n m f bs ev) ∧ Hid (QuR wx (QP B gf gb ge) v1 q') ∧ Hid (Keep (fun b => b < B ∧ b ≠ gs) w wx))
          case first =>
            by_cases hc1 : cap = 1
            case pos =>
              subst hc1
              obtain ⟨rfl, hq1⟩ := HQR.out.tail1
              have HQ1 := hid hq1
              clear hq1 hcap hcap2 hcap3 hcm
              go_wp2_with fail
              go_meet
              have hbs := HBS.out
              exact ⟨rfl, _, hid (HER.out.setQ HGG.out HGM.out (by omega) (by omega) HGES.out _), hid (HQ1.out.keep (S := (· ≠ gs)) (Keep.set wr (p := ⟨gs, 5, none⟩) (fun h => h rfl) _) (fun g hg => by have := hg.1; show g ≠ gs; omega)), hid (HKP.out.trans (Keep.set wr (p := ⟨gs, 5, none⟩) (fun h => h.2 rfl) _))⟩
            case neg =>
              have hq1 := HQR.out.tail (by omega)
              have HQ1 := hid hq1
              clear hq1
              go_wp2_with fail
              go_meet
              have hbs := HBS.out
              exact ⟨rfl, _, hid (HER.out.setQ HGG.out HGM.out (by omega) (by omega) HGES.out _), hid (HQ1.out.keep (S := (· ≠ gs)) (Keep.set wr (p := ⟨gs, 5, none⟩) (fun h => h rfl) _) (fun g hg => by have := hg.1; show g ≠ gs; omega)), hid (HKP.out.trans (Keep.set wr (p := ⟨gs, 5, none⟩) (fun h => h.2 rfl) _))⟩
          case rest =>
            obtain ⟨rfl, v1, HER1, HQ1, HKP1⟩ := hcut
            have HQU0 := hid HQO.out.pop
            have hun : u < n := HSI.out.lt u HQU0.out.ue
            have hu2 : (u : Int) < (n : Int) := by omega
            obtain ⟨gw, vs, hgv, hgw, kW0, hrw⟩ := HROWB.out
            subst hgv
            have kW := HKP1.out.blk kW0 hgw
            have b0 := HER1.out.s.look 0 rfl
            have b1 := HER1.out.g.look 1 rfl
            have bw := kW.arr_look hun
            have hrw2 : NatS (fun b => b < B ∧ b ≠ gs) w (vs u) (nbT ad u n) := hrw u hun
            obtain ⟨ra, rc, hrv, -⟩ := id hrw2
            have HRWu := hid hrw2
            rw [hrv] at bw HRWu
            have hMm : Hid (∀ x, x ∈ nbT ad u n ↔ x < n ∧ ad u x = true) := hid (nbT_mem ad u n)
            have hrl := nbT_len ad u n
            obtain ⟨row, hrow⟩ : ∃ r, nbT ad u n = r := ⟨_, rfl⟩
            rw [hrow] at bw HRWu hMm hrl
            obtain ⟨ml, hml⟩ : ∃ r, row.length = r := ⟨_, rfl⟩
            rw [hml] at bw HRWu hrl
            have HML := hid hml
            have HGK2 : Hid (2 * (n - cntB ev n) + q'.length + 1 ≤ gk) := hid (by rw [HGK.out]; simp; omega)
            have HQB2 : Hid (2 * (n - cntB ev n) + q'.length ≤ 2 * n + 1) := hid (by have := HQB.out; simp at this; omega)
            clear x0 f5 l5 a5 hcap hcap2 hcap3 hcm HER HQR HKP hrw hrw2 hrv hrow hml HGK HQB HQO kW kW0 hgw
            go_wp2_with fail
            clear b0 b1 bw
            refine loop_in (P := P) (B := B) (gk := gk) (w := w) ⟨G, hM, hn1, HB, HBS, HFB, HGG, HGM, HGES, hun, hu2, HML, HRWu, hMm, hrl, ?hret⟩ HER1 HQ1 HSI HQU0 HGK2 HQB2 HKP1 ?hexit
            case hret =>
              intro a' w' h
              simp only [Exit.inBlock, Exit.then]
              refine bodyPost_ret (results_tmp rfl _ _ _) h.1 ?_
              exact h.2
            case hexit =>
              intro u4 u9 u90 u91 u92 u93 u94 u95 u96 u97 u98 u99 u100 u101 u102 u103 u104 u105 u106 u107 u108 u109 u110 u111 u112 u113 u114 u115 u116 u117 u118 u119 u120 u121 u122 u123 u124 u125 u126 u127 u128 u129 u130 u131 u132 u133 u134 u135 u136 u137 u138 u139 u140 u141 u142 u143 u144 u145 u146 u147 u148 u149 u150 u151 u152 u153 u154 u155 u156 u157 u158 u159 u160 u161 u162 u163 u164 u165 u166 u167 u168 u169 u170 u171 u172 u173 u174 u175 u176 u177 u178 u179 u180 u181 u182 u183 u184 u185 u186 u187 u188 u189 u190 u191 u192 u193 u194 u195 u196 u197 u198 u199 u200 u201 u202 u203 u204 u205 u206 u207 w2 f2 bs2 ev2 lev2 q2 qv2 P2 HER2 HQ2 HSI2 HQO2 HGK3 HQB3 HKP2
              simp only [Exit.inBlock, Exit.then, ↓reduceIte]
              refine (‹∀ (a' : Act) (w' : World), Handed _ gk a' w' → _›) _ _ ?_
              go_roundg (2 * (n - cntB ev2 n) + q2.length)
              case measure => exact Nat.lt_of_succ_le HGK3.out
              case rel => exact ⟨f2, bs2, ev2, lev2, q2, qv2, _, HER2, HQ2, HSI2, HQO2, hid rfl, HQB3, HKP2⟩

end Go.Proofs.Ytcpefolhohakmaa
