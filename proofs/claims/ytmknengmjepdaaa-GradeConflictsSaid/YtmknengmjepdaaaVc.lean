/- Walk of trankref04.Loop over a right loop. -/
import Derived.Test.YtmknengmjepdaaaVb
namespace Go.Proofs.Ytmknengmjepdaaa
open Go.RowKit
attribute [local irreducible] seqS seqST

set_option maxHeartbeats 8000000 in
set_option maxRecDepth 100000 in
theorem rLoop_any (p : Pat) (es : List (Int × Rul)) (a : Nat) (vl v : Value) (w : World) (h : PatF 0 w v p) (hl : IntsR 0 w vl (es.map (·.1))) (hp : PValid p) (hok : OkChain p es a a) (hlen : es.length ≤ 16) (hpos : 1 ≤ es.length) :
    Calls Try.prog 33 #[v, vl] w fun e w' => e = .returned (.tuple #[.int .i64 (sumC es), .int .i64 (sumD es), .bool true]) ∧ Below w.heap.size w w' := by
  obtain ⟨sv, rfl, -⟩ := id h
  have hl0 := hl
  obtain ⟨al, capl, rfl, hcapl, hmaxl, hcl⟩ := hl
  rw [List.length_map] at hcapl hl0 ⊢
  obtain ⟨e0, he0⟩ : ∃ e, es[0]? = some e := ⟨es[0]'(by omega), List.getElem?_eq_getElem _⟩
  obtain ⟨J, hJ1, hJ2⟩ := allL_at (hok.mem e0 (List.mem_of_getElem? he0))
  have hq := (chain_at hok.walk he0).1
  rw [vert_zero] at hq
  have hln : (es.map (·.1))[0]? = some e0.1 := by rw [List.getElem?_map, he0]; rfl
  obtain ⟨n0, hn0⟩ : ∃ z, e0.1 = z := ⟨_, rfl⟩
  rw [hn0] at hJ1 hln
  obtain ⟨bl, ol, rfl, hbl, xl⟩ := int_cell hcl hln
  obtain ⟨E, hE⟩ : ∃ E, es.length = E := ⟨_, rfl⟩
  have CH : Hid (∀ W, Below w.heap.size w W → Calls Try.prog 39 #[.agg #[.int .i64 p.n, sv], .slice (some ⟨bl, ol, none⟩) E capl, .int .i64 (a : Int), .int .i64 (a : Int)] W fun e w' => e = .returned (.tuple #[.int .i64 (sumC es), .int .i64 (sumD es), .bool true]) ∧ Below W.heap.size W w') :=
    hid (fun W hb => rChain_any p es a a _ _ W (h.below hb) (by rw [← hE]; exact SlR.below hl0 hb) hp hok hlen)
  have HE := hid hE
  have HP := hid hp
  have HJ1 := hid hJ1
  have HJ2 := hid hJ2
  have H := hid h
  rw [hE] at hcapl hlen hpos ⊢
  unfold maxLen at hmaxl
  obtain ⟨sC, hsC⟩ : ∃ z, sumC es = z := ⟨_, rfl⟩
  obtain ⟨sD, hsD⟩ : ∃ z, sumD es = z := ⟨_, rfl⟩
  rw [hsC, hsD] at CH ⊢
  clear hp hok hE he0 hJ1 hJ2 hln hn0 hcl h hl0 hsC hsD
  go_enter Try.func33, Try.ntmps33
  go_wp2_with fail
  have k0 := Blk.new w #[.int .i64 p.n, sv] 24
  have b0 := (Below.refl w.heap.size w).alloc (Nat.le_refl _) (.cells #[.int .i64 p.n, sv] 24)
  obtain ⟨w0, hw0⟩ : ∃ w0, w.alloc (.cells #[.int .i64 p.n, sv] 24) = w0 := ⟨_, rfl⟩
  rw [hw0] at k0 b0 ⊢
  clear hw0
  have c0 := k0.look 0 rfl
  have c1 := k0.look 1 rfl
  go_wp2_with fail
  refine (All4_any p _ _ (H.out.below b0) HP.out.1 HP.out.2.1 HP.out.2.2.1).mono ?_
  rintro e w1 ⟨vr, vn, rfl, hr, hn, hb1⟩
  have b1 := b0.trans (hb1.mono b0.size)
  have k01 := k0.below hb1
  clear c0 c1 hb1 k0 b0
  obtain ⟨ar, capr, rfl, hcapr, hmaxr, hcr⟩ := hr
  obtain ⟨an, capn, rfl, hcapn, hmaxn, hcn⟩ := hn
  obtain ⟨R, hR⟩ : ∃ R, (ext p).length = R := ⟨_, rfl⟩
  have hRn : (nums p).length = R := by rw [nums_len, ← hR, ext_len]
  have HR := hid hR
  have HRN := hid hRn
  have hJR : J < R := by have := (List.getElem?_eq_some_iff.1 HJ2.out).1; omega
  rw [hR] at hcapr ⊢
  rw [hRn] at hcapn ⊢
  unfold maxLen at hmaxr hmaxn
  clear hR hRn
  go_wp2_with fail
  go_loopw [18] (fun x wr => ∃ j : Nat, x = .int .i64 j ∧ j ≤ J ∧ wr = w1) (fun x _ => R - (intOf x).toNat)
  case atStart => exact ⟨0, rfl, Nat.zero_le _, rfl⟩
  case round =>
    obtain ⟨j, rfl, hj, rfl⟩ := hrel
    obtain ⟨nj, hnj⟩ := ex_int (l := nums p) (i := j) (by rw [HRN.out]; omega)
    obtain ⟨bn, on, rfl, hbn, xn⟩ := int_cell hcn hnj
    have hjR2 : (j : Int) < (R : Int) := by omega
    have xl1 := (b1.cell (p := ⟨bl, ol + 0, none⟩) hbl).trans xl
    have xl2 : wr.cell? ⟨bl, ol, none⟩ = some (.int .i64 n0) := xl1
    have hE0 : (0 : Int) < (E : Int) := by omega
    have hE00 : 0 < E := by omega
    by_cases hjq : j = J
    · subst hjq
      have hnn : nj = n0 := by have := HJ1.out; rw [hnj] at this; exact Option.some.inj this
      subst hnn
      obtain ⟨br, or_, rfl, hbr, r0, r1, r2, r3⟩ := ru_cell hcr HJ2.out
      rw [hq] at r0
      have bd := b1.drew
      go_wp2_with fail
      have z0 := fun x : Sub wr.drew => (k01.drew.below x.b).look 0 rfl
      have z1 := fun x : Sub wr.drew => (k01.drew.below x.b).look 1 rfl
      have z2 := fun x : Sub wr.drew => (x.b.cell (p := ⟨br, or_ + j * 4, none⟩) hbr).trans r0
      refine wp_seq [(0, false), (1, false), (2, false), (3, false), (4, false), (5, false), (6, false), (7, false), (8, false), (9, false), (10, false), (11, false), (12, true), (13, false), (14, false), (15, false), (16, false), (17, false), (18, false)] [(_, false), (_, false), (_, false), (_, false), (_, false), (_, false), (_, false), (_, false), (_, false), (_, false), (_, false), (_, false), (_, true), (_, false), (_, false), (_, false), (_, false), (_, false), (_, false)] (by kernel_rfl) rfl rfl (by kernel_rfl) ?_
      iterate 12 (refine seqS_read (fun K hK => ?_); go_simp; refine hK _ ?_; clear hK K)
      clear z0 z1 z2
      (refine seqS_call (fun K hK => ?_); go_simp; refine (CH.out _ bd).mono ?_; rintro e w4 ⟨rfl, hb4⟩; refine ⟨_, rfl, hK _ _ hb4 ?_⟩; clear hK K)
      iterate 6 (refine seqS_read (fun K hK => ?_); go_simp; refine hK _ ?_; clear hK K)
      refine seqS_nil ?_
      go_wp2
      go_ret3
      exact ⟨rfl, bd.trans (hb4.mono bd.size)⟩
    · have hne : nj ≠ n0 := fun hh => hjq (nums_inj hnj (by rw [hh]; exact HJ1.out))
      go_wp2_with fail
      refine ⟨⟨j + 1, by go_num, by omega, by first | rfl | trivial⟩, by simp [intOf]; omega⟩

end Go.Proofs.Ytmknengmjepdaaa
