/- The arms of run's inner loop: the vertices that are not even. -/
import Derived.Test.YtcpefolhohakmaaI4
namespace Go.Proofs.Ytcpefolhohakmaa
open Go.RowKit
attribute [local irreducible] seqS seqST walkV walkJ

set_option maxHeartbeats 8000000 in
set_option maxRecDepth 1000000 in
theorem arm_odd {ad : Nat → Nat → Bool} {n : Nat} {m : Mt} {root gs gg gm gf gb ge B gw gk ml u : Nat} {row : List Nat} {P : Nat → Prop} {w : World} {ra : Option Addr} {rc : Nat} {c2 c3 c5 c6 c8 c10 c11 c12 c13 c14 c15 c16 c17 c18 c19 c20 c21 c22 c23 c24 c25 c26 c27 c28 c29 c30 c31 c32 c33 c34 c35 c36 c37 c38 c39 c40 c41 c42 c43 c44 c45 c46 c47 c48 c49 c50 c51 c52 c53 c54 c55 c56 c57 c58 c59 c60 c61 c62 c63 c64 c65 c66 c67 c68 c69 c70 c71 c72 c73 c74 c75 c76 c77 c78 c79 c80 c81 c82 c83 c84 c85 c86 u4 u9 u90 u91 u92 u93 u94 u95 u96 u97 u98 u99 u100 u101 u102 u103 u104 u105 u106 u107 u108 u109 u110 u111 u112 u113 u114 u115 u116 u117 u118 u119 u120 u121 u122 u123 u124 u125 u126 u127 u128 u129 u130 u131 u132 u133 u134 u135 u136 u137 u138 u139 u140 u141 u142 u143 u144 u145 u146 u147 u148 u149 u150 u151 u152 u153 u154 u155 u156 u157 u158 u159 u160 u161 u162 u163 u164 u165 u166 u167 u168 u169 u170 u171 u172 u173 u174 u175 u176 u177 u178 u179 u180 u181 u182 u183 u184 u185 u186 u187 u188 u189 u190 u191 u192 u193 u194 u195 u196 u197 u198 u199 u200 u201 u202 u203 u204 u205 u206 u207 : Value} {Q0 : Exit → Act → World → Prop}
    (HC : InC ad n m root gs gg gm gf gb ge B gw ml u row w ra rc Q0)
    {wr : World} {k : Nat} {f : Mt} {bs : Nat → Nat} {ev : Nat → Bool} {lev : Nat → Nat} {q : List Nat} {qv : Value} (HT : InT ad n m root gs gg gm gf gb ge B gw gk ml u row P w wr k f bs ev lev q qv)
    {w1 : Nat} (hw1 : row.getD k 0 = w1) (hb : bs u ≠ bs w1) (hd : m u ≠ some w1) (he : w1 ≠ root) {x : Nat} (hmw : m w1 = some x) (hev : ev w1 = false) {y9 : Nat} (hfw : f w1 = some y9) :
    Code.wp Try.prog inBody (Exit.then (fun a' w'' => WI ad n m root gs gg gm gf gb ge B gw gk ml u row P w ra rc c2 c3 c5 c6 c8 c10 c11 c12 c13 c14 c15 c16 c17 c18 c19 c20 c21 c22 c23 c24 c25 c26 c27 c28 c29 c30 c31 c32 c33 c34 c35 c36 c37 c38 c39 c40 c41 c42 c43 c44 c45 c46 c47 c48 c49 c50 c51 c52 c53 c54 c55 c56 c57 c58 c59 c60 c61 c62 c63 c64 c65 c66 c67 c68 c69 c70 c71 c72 c73 c74 c75 c76 c77 c78 c79 c80 c81 c82 c83 c84 c85 c86 a' w'' ∧ Wmu ml a' < Wmu ml ⟨#[(.pointer (some ⟨gs, 0, none⟩)), (.int .i64 (root : Int)), c2, c3, u4, c5, c6, (.int .i64 (u : Int)), c8, u9, c10, c11, c12, c13, c14, c15, c16, c17, c18, c19, c20, c21, c22, c23, c24, c25, c26, c27, c28, c29, c30, c31, c32, c33, c34, c35, c36, c37, c38, c39, c40, c41, c42, c43, c44, c45, c46, c47, c48, c49, c50, c51, c52, c53, c54, c55, c56, c57, c58, c59, c60, c61, c62, c63, c64, c65, c66, c67, c68, c69, c70, c71, c72, c73, c74, c75, c76, c77, c78, c79, c80, c81, c82, c83, c84, c85, c86, (.slice ra ml rc), (.int .i64 (ml : Int)), (.int .i64 (k : Int)), u90, u91, u92, u93, u94, u95, u96, u97, u98, u99, u100, u101, u102, u103, u104, u105, u106, u107, u108, u109, u110, u111, u112, u113, u114, u115, u116, u117, u118, u119, u120, u121, u122, u123, u124, u125, u126, u127, u128, u129, u130, u131, u132, u133, u134, u135, u136, u137, u138, u139, u140, u141, u142, u143, u144, u145, u146, u147, u148, u149, u150, u151, u152, u153, u154, u155, u156, u157, u158, u159, u160, u161, u162, u163, u164, u165, u166, u167, u168, u169, u170, u171, u172, u173, u174, u175, u176, u177, u178, u179, u180, u181, u182, u183, u184, u185, u186, u187, u188, u189, u190, u191, u192, u193, u194, u195, u196, u197, u198, u199, u200, u201, u202, u203, u204, u205, u206, u207], []⟩) Q0) ⟨#[(.pointer (some ⟨gs, 0, none⟩)), (.int .i64 (root : Int)), c2, c3, u4, c5, c6, (.int .i64 (u : Int)), c8, u9, c10, c11, c12, c13, c14, c15, c16, c17, c18, c19, c20, c21, c22, c23, c24, c25, c26, c27, c28, c29, c30, c31, c32, c33, c34, c35, c36, c37, c38, c39, c40, c41, c42, c43, c44, c45, c46, c47, c48, c49, c50, c51, c52, c53, c54, c55, c56, c57, c58, c59, c60, c61, c62, c63, c64, c65, c66, c67, c68, c69, c70, c71, c72, c73, c74, c75, c76, c77, c78, c79, c80, c81, c82, c83, c84, c85, c86, (.slice ra ml rc), (.int .i64 (ml : Int)), (.int .i64 (k : Int)), u90, u91, u92, u93, u94, u95, u96, u97, u98, u99, u100, u101, u102, u103, u104, u105, u106, u107, u108, u109, u110, u111, u112, u113, u114, u115, u116, u117, u118, u119, u120, u121, u122, u123, u124, u125, u126, u127, u128, u129, u130, u131, u132, u133, u134, u135, u136, u137, u138, u139, u140, u141, u142, u143, u144, u145, u146, u147, u148, u149, u150, u151, u152, u153, u154, u155, u156, u157, u158, u159, u160, u161, u162, u163, u164, u165, u166, u167, u168, u169, u170, u171, u172, u173, u174, u175, u176, u177, u178, u179, u180, u181, u182, u183, u184, u185, u186, u187, u188, u189, u190, u191, u192, u193, u194, u195, u196, u197, u198, u199, u200, u201, u202, u203, u204, u205, u206, u207], []⟩ wr := by
  obtain ⟨G, hM, hn1, HB, HBS, HFB, HGG, HGM, HGES, hun, hu2, HML, HRWu, hMm, hrl, hret⟩ := HC
  obtain ⟨hkm, HER, HQR, HSI, HQU, HGK, HQB, HKP⟩ := HT
  conv => arg 2; whnf
  have hk2 : (k : Int) < (ml : Int) := by omega
  obtain ⟨rb, roff, rfl, hrb, hrbl, xk⟩ := nat_cell (SlS.keep HRWu.out HKP.out (fun _ _ h => h)) (show k < row.length by rw [HML.out]; exact hkm)
  have htk := take_getD (show k < row.length by rw [HML.out]; exact hkm)
  have hmem := getD_mem (show k < row.length by rw [HML.out]; exact hkm)
  rw [hw1] at xk htk hmem
  obtain ⟨hwn, hadj⟩ := (hMm.out w1).1 hmem
  have hwn2 : (w1 : Int) < (n : Int) := by omega
  have HTK := hid htk
  have HADJ : Hid (ad u w1 = true) := hid hadj
  clear htk hmem hw1 hadj hrb hrbl
  go_wp2_with fail
  clear xk
  have hER := fun y : SubT (Below wr.heap.size) wr.drew => HER.out.below ((Below.refl wr.heap.size wr).drew.trans y.b)
  have z3 := fun y => (hER y).s.look 3 rfl
  have z1 := fun y => (hER y).s.look 1 rfl
  have zu := fun y => (hER y).b.arr_look hun
  have zw := fun y => (hER y).b.arr_look hwn
  have zm := fun y => (hER y).m.arr_look hun
  unfold oI at zm
  have t2 := oZ_eq (m u) w1
  have t1 : ((bs u : Int) == (bs w1 : Int)) = decide (bs u = bs w1) := by rw [Bool.eq_iff_iff]; simp; omega
  rw [decide_eq_false hb] at t1
  rw [decide_eq_false hd] at t2
  obtain ⟨z, hz⟩ : ∃ z, oZ (m u) = z := ⟨_, rfl⟩
  obtain ⟨p1, hp1⟩ : ∃ z, bs u = z := ⟨_, rfl⟩
  obtain ⟨p2, hp2⟩ : ∃ z, bs w1 = z := ⟨_, rfl⟩
  rw [hz] at t2
  rw [hp1, hp2] at t1
  simp only [hz] at zm
  simp only [hp1] at zu
  simp only [hp2] at zw
  clear hER hz hp1 hp2
  refine wp_walkJ (T := Below (wr.heap.size)) (belowV_pre _) (.rd 0 (.rd 1 (.rd 2 (.rd 3 (.rd 4 (.rd 5 (.rd 6 (.rd 7 (.rd 8 (.rd 9 (.rd 10 (.rd 11 (.rd 12 (.rd 13 (.rd 14 (.rd 15 (.rd 16 (.rd 17 (.rd 18 (.rd 19 (.rd 20 (.rd 21 (.rd 22 (.rd 23 (.rd 24 (.rd 25 (.rd 26 (.inv [])))))))))))))))))))))))))))) (by kernel_rfl) rfl (by kernel_rfl) (by kernel_rfl) ?_
  iterate 27 (refine walkJ_rd rfl (fun K hK => ?_); go_simp; refine hK _ ?_; clear hK K)
  refine walkJ_nil ?_
  clear z3 z1 zu zw zm t1 t2
  have hbx := (Below.refl wr.heap.size wr).drew
  have HERX := hid (HER.out.below hbx)
  have HQX := hid (HQR.out.below hbx)
  have HKX := hid (HKP.out.trans (Keep.of_below hbx))
  clear hbx HER HQR HKP
  generalize wr.drew = wx at HERX HQX HKX ⊢
  go_wp2_with fail
  have hER := fun y : SubT (Below wx.heap.size) wx.drew => HERX.out.below ((Below.refl wx.heap.size wx).drew.trans y.b)
  have z2 := fun y => (hER y).s.look 2 rfl
  have z1 := fun y => (hER y).s.look 1 rfl
  have zm := fun y => (hER y).m.arr_look hwn
  have htst := HSI.out.test hM w1
  have HEV := hid hev
  have HMW := hid hmw
  have t1 : ((w1 : Int) == (root : Int)) = false := by rw [beq_eq_false_iff_ne]; omega
  have hxn : x < n := (G.lt _ _ (hM.adj _ _ hmw)).2
  have hx0 : (0 : Int) ≤ (x : Int) := Int.natCast_nonneg _
  have hx2 : (x : Int) < (n : Int) := by omega
  have zf := fun y => (hER y).f.arr_look hxn
  simp only [hmw] at zm
  have htst2 : ev w1 = true ↔ f x ≠ none := by
    rw [htst]
    constructor
    · rintro (h | ⟨x', h, h2⟩)
      · exact absurd h he
      · rw [hmw] at h; cases h; exact h2
    · exact fun h => .inr ⟨x, hmw, h⟩
  have t3 : decide ((0 : Int) ≤ oZ (f x)) = ev w1 := by
    cases hfx : f x with
    | none =>
      cases e : ev w1 with
      | false => rfl
      | true => exact absurd hfx (htst2.1 e)
    | some y8 => rw [htst2.2 (by rw [hfx]; simp)]; unfold oZ; simp
  rw [hev] at t3
  unfold oI at zf
  obtain ⟨z, hz⟩ : ∃ z, oZ (f x) = z := ⟨_, rfl⟩
  rw [hz] at t3
  simp only [hz] at zf
  unfold oI oZ at zm
  clear htst htst2 he hmw hev hER hz
  refine wp_walkJ (T := Below (wx.heap.size)) (belowV_pre _) (.rd 0 (.rd 1 (.rd 2 (.rd 3 (.rd 4 (.rd 5 (.rd 6 (.rd 7 (.rd 8 (.rd 9 (.rd 10 (.rd 11 (.rd 12 (.rd 13 (.rd 14 (.rd 15 (.rd 16 (.rd 17 (.rd 18 (.rd 19 (.rd 20 (.rd 21 (.rd 22 (.rd 23 (.rd 24 (.rd 25 (.rd 26 (.rd 27 (.rd 28 (.rd 29 (.inv []))))))))))))))))))))))))))))))) (by kernel_rfl) rfl (by kernel_rfl) (by kernel_rfl) ?_
  iterate 30 (refine walkJ_rd rfl (fun K hK => ?_); go_simp; refine hK _ ?_; clear hK K)
  refine walkJ_nil ?_
  clear z2 z1 zm t1 zf t3
  have hby := (Below.refl wx.heap.size wx).drew
  have HERY := hid (HERX.out.below hby)
  have HQY := hid (HQX.out.below hby)
  have HKY := hid (HKX.out.trans (Keep.of_below hby))
  clear hby HERX HQX HKX
  generalize wx.drew = wc at HERY HQY HKY ⊢
  have a2 := HERY.out.s.look 2 rfl
  have af := HERY.out.f.arr_look hwn
  have hy0 : ¬ (y9 : Int) < 0 := by omega
  have HQU2 := hid (show QU (fun i j => ad i j = true) f bs ev P q u (row.take (k + 1)) by
    rw [HTK.out]
    exact HQU.out.odd HEV.out (by rw [hfw]; simp))
  rw [hfw] at af
  unfold oI oZ at af
  clear hfw
  go_wp2
  refine ⟨?_, by simp [Wmu, intOf]; omega⟩
  unfold WI
  refine ⟨_, _, _, _, _, _, _, _, _, _, _, _, _, _, _, _, _, _, _, _, _, _, _, _, _, _, _, _, _, _, _, _, _, _, _, _, _, _, _, _, _, _, _, _, _, _, _, _, _, _, _, _, _, _, _, _, _, _, _, _, _, _, _, _, _, _, _, _, _, _, _, _, _, _, _, _, _, _, _, _, _, _, _, _, _, _, _, _, _, _, _, _, _, _, _, _, _, _, _, _, _, _, _, _, _, _, _, _, _, _, _, _, _, _, _, _, _, _, _, _, _, ?_, rfl⟩
  exact ⟨k + 1, f, bs, ev, lev, q, qv, by go_num, by omega, HERY, HQY, HSI, HQU2, HGK, HQB, HKY⟩

set_option maxHeartbeats 8000000 in
set_option maxRecDepth 1000000 in
theorem arm_found {ad : Nat → Nat → Bool} {n : Nat} {m : Mt} {root gs gg gm gf gb ge B gw gk ml u : Nat} {row : List Nat} {P : Nat → Prop} {w : World} {ra : Option Addr} {rc : Nat} {c2 c3 c5 c6 c8 c10 c11 c12 c13 c14 c15 c16 c17 c18 c19 c20 c21 c22 c23 c24 c25 c26 c27 c28 c29 c30 c31 c32 c33 c34 c35 c36 c37 c38 c39 c40 c41 c42 c43 c44 c45 c46 c47 c48 c49 c50 c51 c52 c53 c54 c55 c56 c57 c58 c59 c60 c61 c62 c63 c64 c65 c66 c67 c68 c69 c70 c71 c72 c73 c74 c75 c76 c77 c78 c79 c80 c81 c82 c83 c84 c85 c86 u4 u9 u90 u91 u92 u93 u94 u95 u96 u97 u98 u99 u100 u101 u102 u103 u104 u105 u106 u107 u108 u109 u110 u111 u112 u113 u114 u115 u116 u117 u118 u119 u120 u121 u122 u123 u124 u125 u126 u127 u128 u129 u130 u131 u132 u133 u134 u135 u136 u137 u138 u139 u140 u141 u142 u143 u144 u145 u146 u147 u148 u149 u150 u151 u152 u153 u154 u155 u156 u157 u158 u159 u160 u161 u162 u163 u164 u165 u166 u167 u168 u169 u170 u171 u172 u173 u174 u175 u176 u177 u178 u179 u180 u181 u182 u183 u184 u185 u186 u187 u188 u189 u190 u191 u192 u193 u194 u195 u196 u197 u198 u199 u200 u201 u202 u203 u204 u205 u206 u207 : Value} {Q0 : Exit → Act → World → Prop}
    (HC : InC ad n m root gs gg gm gf gb ge B gw ml u row w ra rc Q0)
    {wr : World} {k : Nat} {f : Mt} {bs : Nat → Nat} {ev : Nat → Bool} {lev : Nat → Nat} {q : List Nat} {qv : Value} (HT : InT ad n m root gs gg gm gf gb ge B gw gk ml u row P w wr k f bs ev lev q qv)
    {w1 : Nat} (hw1 : row.getD k 0 = w1) (hb : bs u ≠ bs w1) (hd : m u ≠ some w1) (he : w1 ≠ root) (hmw : m w1 = none) (hev : ev w1 = false) (hfw : f w1 = none) :
    Code.wp Try.prog inBody (Exit.then (fun a' w'' => WI ad n m root gs gg gm gf gb ge B gw gk ml u row P w ra rc c2 c3 c5 c6 c8 c10 c11 c12 c13 c14 c15 c16 c17 c18 c19 c20 c21 c22 c23 c24 c25 c26 c27 c28 c29 c30 c31 c32 c33 c34 c35 c36 c37 c38 c39 c40 c41 c42 c43 c44 c45 c46 c47 c48 c49 c50 c51 c52 c53 c54 c55 c56 c57 c58 c59 c60 c61 c62 c63 c64 c65 c66 c67 c68 c69 c70 c71 c72 c73 c74 c75 c76 c77 c78 c79 c80 c81 c82 c83 c84 c85 c86 a' w'' ∧ Wmu ml a' < Wmu ml ⟨#[(.pointer (some ⟨gs, 0, none⟩)), (.int .i64 (root : Int)), c2, c3, u4, c5, c6, (.int .i64 (u : Int)), c8, u9, c10, c11, c12, c13, c14, c15, c16, c17, c18, c19, c20, c21, c22, c23, c24, c25, c26, c27, c28, c29, c30, c31, c32, c33, c34, c35, c36, c37, c38, c39, c40, c41, c42, c43, c44, c45, c46, c47, c48, c49, c50, c51, c52, c53, c54, c55, c56, c57, c58, c59, c60, c61, c62, c63, c64, c65, c66, c67, c68, c69, c70, c71, c72, c73, c74, c75, c76, c77, c78, c79, c80, c81, c82, c83, c84, c85, c86, (.slice ra ml rc), (.int .i64 (ml : Int)), (.int .i64 (k : Int)), u90, u91, u92, u93, u94, u95, u96, u97, u98, u99, u100, u101, u102, u103, u104, u105, u106, u107, u108, u109, u110, u111, u112, u113, u114, u115, u116, u117, u118, u119, u120, u121, u122, u123, u124, u125, u126, u127, u128, u129, u130, u131, u132, u133, u134, u135, u136, u137, u138, u139, u140, u141, u142, u143, u144, u145, u146, u147, u148, u149, u150, u151, u152, u153, u154, u155, u156, u157, u158, u159, u160, u161, u162, u163, u164, u165, u166, u167, u168, u169, u170, u171, u172, u173, u174, u175, u176, u177, u178, u179, u180, u181, u182, u183, u184, u185, u186, u187, u188, u189, u190, u191, u192, u193, u194, u195, u196, u197, u198, u199, u200, u201, u202, u203, u204, u205, u206, u207], []⟩) Q0) ⟨#[(.pointer (some ⟨gs, 0, none⟩)), (.int .i64 (root : Int)), c2, c3, u4, c5, c6, (.int .i64 (u : Int)), c8, u9, c10, c11, c12, c13, c14, c15, c16, c17, c18, c19, c20, c21, c22, c23, c24, c25, c26, c27, c28, c29, c30, c31, c32, c33, c34, c35, c36, c37, c38, c39, c40, c41, c42, c43, c44, c45, c46, c47, c48, c49, c50, c51, c52, c53, c54, c55, c56, c57, c58, c59, c60, c61, c62, c63, c64, c65, c66, c67, c68, c69, c70, c71, c72, c73, c74, c75, c76, c77, c78, c79, c80, c81, c82, c83, c84, c85, c86, (.slice ra ml rc), (.int .i64 (ml : Int)), (.int .i64 (k : Int)), u90, u91, u92, u93, u94, u95, u96, u97, u98, u99, u100, u101, u102, u103, u104, u105, u106, u107, u108, u109, u110, u111, u112, u113, u114, u115, u116, u117, u118, u119, u120, u121, u122, u123, u124, u125, u126, u127, u128, u129, u130, u131, u132, u133, u134, u135, u136, u137, u138, u139, u140, u141, u142, u143, u144, u145, u146, u147, u148, u149, u150, u151, u152, u153, u154, u155, u156, u157, u158, u159, u160, u161, u162, u163, u164, u165, u166, u167, u168, u169, u170, u171, u172, u173, u174, u175, u176, u177, u178, u179, u180, u181, u182, u183, u184, u185, u186, u187, u188, u189, u190, u191, u192, u193, u194, u195, u196, u197, u198, u199, u200, u201, u202, u203, u204, u205, u206, u207], []⟩ wr := by
  obtain ⟨G, hM, hn1, HB, HBS, HFB, HGG, HGM, HGES, hun, hu2, HML, HRWu, hMm, hrl, hret⟩ := HC
  obtain ⟨hkm, HER, HQR, HSI, HQU, HGK, HQB, HKP⟩ := HT
  conv => arg 2; whnf
  have hk2 : (k : Int) < (ml : Int) := by omega
  obtain ⟨rb, roff, rfl, hrb, hrbl, xk⟩ := nat_cell (SlS.keep HRWu.out HKP.out (fun _ _ h => h)) (show k < row.length by rw [HML.out]; exact hkm)
  have htk := take_getD (show k < row.length by rw [HML.out]; exact hkm)
  have hmem := getD_mem (show k < row.length by rw [HML.out]; exact hkm)
  rw [hw1] at xk htk hmem
  obtain ⟨hwn, hadj⟩ := (hMm.out w1).1 hmem
  have hwn2 : (w1 : Int) < (n : Int) := by omega
  have HTK := hid htk
  have HADJ : Hid (ad u w1 = true) := hid hadj
  clear htk hmem hw1 hadj hrb hrbl
  go_wp2_with fail
  clear xk
  have hER := fun y : SubT (Below wr.heap.size) wr.drew => HER.out.below ((Below.refl wr.heap.size wr).drew.trans y.b)
  have z3 := fun y => (hER y).s.look 3 rfl
  have z1 := fun y => (hER y).s.look 1 rfl
  have zu := fun y => (hER y).b.arr_look hun
  have zw := fun y => (hER y).b.arr_look hwn
  have zm := fun y => (hER y).m.arr_look hun
  unfold oI at zm
  have t2 := oZ_eq (m u) w1
  have t1 : ((bs u : Int) == (bs w1 : Int)) = decide (bs u = bs w1) := by rw [Bool.eq_iff_iff]; simp; omega
  rw [decide_eq_false hb] at t1
  rw [decide_eq_false hd] at t2
  obtain ⟨z, hz⟩ : ∃ z, oZ (m u) = z := ⟨_, rfl⟩
  obtain ⟨p1, hp1⟩ : ∃ z, bs u = z := ⟨_, rfl⟩
  obtain ⟨p2, hp2⟩ : ∃ z, bs w1 = z := ⟨_, rfl⟩
  rw [hz] at t2
  rw [hp1, hp2] at t1
  simp only [hz] at zm
  simp only [hp1] at zu
  simp only [hp2] at zw
  clear hER hz hp1 hp2
  refine wp_walkJ (T := Below (wr.heap.size)) (belowV_pre _) (.rd 0 (.rd 1 (.rd 2 (.rd 3 (.rd 4 (.rd 5 (.rd 6 (.rd 7 (.rd 8 (.rd 9 (.rd 10 (.rd 11 (.rd 12 (.rd 13 (.rd 14 (.rd 15 (.rd 16 (.rd 17 (.rd 18 (.rd 19 (.rd 20 (.rd 21 (.rd 22 (.rd 23 (.rd 24 (.rd 25 (.rd 26 (.inv [])))))))))))))))))))))))))))) (by kernel_rfl) rfl (by kernel_rfl) (by kernel_rfl) ?_
  iterate 27 (refine walkJ_rd rfl (fun K hK => ?_); go_simp; refine hK _ ?_; clear hK K)
  refine walkJ_nil ?_
  clear z3 z1 zu zw zm t1 t2
  have hbx := (Below.refl wr.heap.size wr).drew
  have HERX := hid (HER.out.below hbx)
  have HQX := hid (HQR.out.below hbx)
  have HKX := hid (HKP.out.trans (Keep.of_below hbx))
  clear hbx HER HQR HKP
  generalize wr.drew = wx at HERX HQX HKX ⊢
  go_wp2_with fail
  have hER := fun y : SubT (Below wx.heap.size) wx.drew => HERX.out.below ((Below.refl wx.heap.size wx).drew.trans y.b)
  have z2 := fun y => (hER y).s.look 2 rfl
  have z1 := fun y => (hER y).s.look 1 rfl
  have zm := fun y => (hER y).m.arr_look hwn
  have htst := HSI.out.test hM w1
  have HEV := hid hev
  have HMW := hid hmw
  have t1 : ((w1 : Int) == (root : Int)) = false := by rw [beq_eq_false_iff_ne]; omega
  simp only [hmw] at zm
  unfold oI oZ at zm
  clear hER htst he hmw hev
  refine wp_walkJ (T := Below (wx.heap.size)) (belowV_pre _) (.rd 0 (.rd 1 (.rd 2 (.rd 3 (.rd 4 (.rd 5 (.rd 6 (.rd 7 (.rd 8 (.rd 9 (.rd 10 (.rd 11 (.rd 12 (.rd 13 (.rd 14 (.rd 15 (.rd 16 (.rd 17 (.rd 18 (.rd 19 (.rd 20 (.rd 21 (.rd 22 (.rd 23 (.rd 24 (.rd 25 (.rd 26 (.rd 27 (.rd 28 (.rd 29 (.inv []))))))))))))))))))))))))))))))) (by kernel_rfl) rfl (by kernel_rfl) (by kernel_rfl) ?_
  iterate 30 (refine walkJ_rd rfl (fun K hK => ?_); go_simp; refine hK _ ?_; clear hK K)
  refine walkJ_nil ?_
  clear z2 z1 zm t1
  have hby := (Below.refl wx.heap.size wx).drew
  have HERY := hid (HERX.out.below hby)
  have HQY := hid (HQX.out.below hby)
  have HKY := hid (HKX.out.trans (Keep.of_below hby))
  clear hby HERX HQX HKX
  generalize wx.drew = wc at HERY HQY HKY ⊢
  have a2 := HERY.out.s.look 2 rfl
  have af := HERY.out.f.arr_look hwn
  have HFW := hid hfw
  rw [hfw] at af
  unfold oI oZ at af
  have ff := HERY.out.f.frozen w1
  have lf := HERY.out.f.lt
  have hbs := HBS.out
  have hgf1 : gf ≠ gs := by omega
  have hgf2 : gf ≠ gg := by omega
  have hgf3 : gf ≠ gm := by omega
  have HERZ := hid (HERY.out.setF2 hgf1 hgf2 hgf3 HFB.out w1 (some u))
  have HQZ := hid (HQY.out.keep (S := fun g => g ≠ gf) (Keep.set wc (p := ⟨gf, w1, none⟩) (fun h => h rfl) (oI (some u))) (fun g hg => hg.2.1))
  have HKZ := hid (HKY.out.trans (Keep.set wc (p := ⟨gf, w1, none⟩) (fun h => by have h9 : gf < B := h.1; omega) (oI (some u))))
  have b1 := HERZ.out.s.look 1 rfl
  have bm := HERZ.out.m.arr_look hwn
  unfold oI oZ at HERZ HQZ HKZ b1
  rw [HMW.out] at bm
  unfold oI oZ at bm
  clear hfw HERY HQY HKY hbs
  go_wp2
  obtain ⟨l, l1, l2, l3, l4⟩ := HSI.out.found hM HQU.out.ue HEV.out HFW.out
  refine ⟨⟨gf, gb, ge, _, upd f w1 (some u), bs, ev, HERZ.out, ⟨by rw [HB.out]; exact HBS.out.2.2.2.1, by rw [HB.out]; exact HBS.out.2.2.2.2.1, by rw [HB.out]; exact HBS.out.2.2.2.2.2⟩, .inr ⟨w1, u, l, rfl, hwn, HMW.out, upd_same _ _ _, G.sym _ _ HADJ.out, l1, l2, l3, l4⟩⟩, HKZ.out.mono (fun b hb hne => ⟨by rw [HB.out] at hb; exact hb, hne⟩)⟩

set_option maxHeartbeats 8000000 in
set_option maxRecDepth 1000000 in
theorem arm_grow {ad : Nat → Nat → Bool} {n : Nat} {m : Mt} {root gs gg gm gf gb ge B gw gk ml u : Nat} {row : List Nat} {P : Nat → Prop} {w : World} {ra : Option Addr} {rc : Nat} {c2 c3 c5 c6 c8 c10 c11 c12 c13 c14 c15 c16 c17 c18 c19 c20 c21 c22 c23 c24 c25 c26 c27 c28 c29 c30 c31 c32 c33 c34 c35 c36 c37 c38 c39 c40 c41 c42 c43 c44 c45 c46 c47 c48 c49 c50 c51 c52 c53 c54 c55 c56 c57 c58 c59 c60 c61 c62 c63 c64 c65 c66 c67 c68 c69 c70 c71 c72 c73 c74 c75 c76 c77 c78 c79 c80 c81 c82 c83 c84 c85 c86 u4 u9 u90 u91 u92 u93 u94 u95 u96 u97 u98 u99 u100 u101 u102 u103 u104 u105 u106 u107 u108 u109 u110 u111 u112 u113 u114 u115 u116 u117 u118 u119 u120 u121 u122 u123 u124 u125 u126 u127 u128 u129 u130 u131 u132 u133 u134 u135 u136 u137 u138 u139 u140 u141 u142 u143 u144 u145 u146 u147 u148 u149 u150 u151 u152 u153 u154 u155 u156 u157 u158 u159 u160 u161 u162 u163 u164 u165 u166 u167 u168 u169 u170 u171 u172 u173 u174 u175 u176 u177 u178 u179 u180 u181 u182 u183 u184 u185 u186 u187 u188 u189 u190 u191 u192 u193 u194 u195 u196 u197 u198 u199 u200 u201 u202 u203 u204 u205 u206 u207 : Value} {Q0 : Exit → Act → World → Prop}
    (HC : InC ad n m root gs gg gm gf gb ge B gw ml u row w ra rc Q0)
    {wr : World} {k : Nat} {f : Mt} {bs : Nat → Nat} {ev : Nat → Bool} {lev : Nat → Nat} {q : List Nat} {qv : Value} (HT : InT ad n m root gs gg gm gf gb ge B gw gk ml u row P w wr k f bs ev lev q qv)
    {w1 : Nat} (hw1 : row.getD k 0 = w1) (hb : bs u ≠ bs w1) (hd : m u ≠ some w1) (he : w1 ≠ root) {x : Nat} (hmw : m w1 = some x) (hev : ev w1 = false) (hfw : f w1 = none) :
    Code.wp Try.prog inBody (Exit.then (fun a' w'' => WI ad n m root gs gg gm gf gb ge B gw gk ml u row P w ra rc c2 c3 c5 c6 c8 c10 c11 c12 c13 c14 c15 c16 c17 c18 c19 c20 c21 c22 c23 c24 c25 c26 c27 c28 c29 c30 c31 c32 c33 c34 c35 c36 c37 c38 c39 c40 c41 c42 c43 c44 c45 c46 c47 c48 c49 c50 c51 c52 c53 c54 c55 c56 c57 c58 c59 c60 c61 c62 c63 c64 c65 c66 c67 c68 c69 c70 c71 c72 c73 c74 c75 c76 c77 c78 c79 c80 c81 c82 c83 c84 c85 c86 a' w'' ∧ Wmu ml a' < Wmu ml ⟨#[(.pointer (some ⟨gs, 0, none⟩)), (.int .i64 (root : Int)), c2, c3, u4, c5, c6, (.int .i64 (u : Int)), c8, u9, c10, c11, c12, c13, c14, c15, c16, c17, c18, c19, c20, c21, c22, c23, c24, c25, c26, c27, c28, c29, c30, c31, c32, c33, c34, c35, c36, c37, c38, c39, c40, c41, c42, c43, c44, c45, c46, c47, c48, c49, c50, c51, c52, c53, c54, c55, c56, c57, c58, c59, c60, c61, c62, c63, c64, c65, c66, c67, c68, c69, c70, c71, c72, c73, c74, c75, c76, c77, c78, c79, c80, c81, c82, c83, c84, c85, c86, (.slice ra ml rc), (.int .i64 (ml : Int)), (.int .i64 (k : Int)), u90, u91, u92, u93, u94, u95, u96, u97, u98, u99, u100, u101, u102, u103, u104, u105, u106, u107, u108, u109, u110, u111, u112, u113, u114, u115, u116, u117, u118, u119, u120, u121, u122, u123, u124, u125, u126, u127, u128, u129, u130, u131, u132, u133, u134, u135, u136, u137, u138, u139, u140, u141, u142, u143, u144, u145, u146, u147, u148, u149, u150, u151, u152, u153, u154, u155, u156, u157, u158, u159, u160, u161, u162, u163, u164, u165, u166, u167, u168, u169, u170, u171, u172, u173, u174, u175, u176, u177, u178, u179, u180, u181, u182, u183, u184, u185, u186, u187, u188, u189, u190, u191, u192, u193, u194, u195, u196, u197, u198, u199, u200, u201, u202, u203, u204, u205, u206, u207], []⟩) Q0) ⟨#[(.pointer (some ⟨gs, 0, none⟩)), (.int .i64 (root : Int)), c2, c3, u4, c5, c6, (.int .i64 (u : Int)), c8, u9, c10, c11, c12, c13, c14, c15, c16, c17, c18, c19, c20, c21, c22, c23, c24, c25, c26, c27, c28, c29, c30, c31, c32, c33, c34, c35, c36, c37, c38, c39, c40, c41, c42, c43, c44, c45, c46, c47, c48, c49, c50, c51, c52, c53, c54, c55, c56, c57, c58, c59, c60, c61, c62, c63, c64, c65, c66, c67, c68, c69, c70, c71, c72, c73, c74, c75, c76, c77, c78, c79, c80, c81, c82, c83, c84, c85, c86, (.slice ra ml rc), (.int .i64 (ml : Int)), (.int .i64 (k : Int)), u90, u91, u92, u93, u94, u95, u96, u97, u98, u99, u100, u101, u102, u103, u104, u105, u106, u107, u108, u109, u110, u111, u112, u113, u114, u115, u116, u117, u118, u119, u120, u121, u122, u123, u124, u125, u126, u127, u128, u129, u130, u131, u132, u133, u134, u135, u136, u137, u138, u139, u140, u141, u142, u143, u144, u145, u146, u147, u148, u149, u150, u151, u152, u153, u154, u155, u156, u157, u158, u159, u160, u161, u162, u163, u164, u165, u166, u167, u168, u169, u170, u171, u172, u173, u174, u175, u176, u177, u178, u179, u180, u181, u182, u183, u184, u185, u186, u187, u188, u189, u190, u191, u192, u193, u194, u195, u196, u197, u198, u199, u200, u201, u202, u203, u204, u205, u206, u207], []⟩ wr := by
  obtain ⟨G, hM, hn1, HB, HBS, HFB, HGG, HGM, HGES, hun, hu2, HML, HRWu, hMm, hrl, hret⟩ := HC
  obtain ⟨hkm, HER, HQR, HSI, HQU, HGK, HQB, HKP⟩ := HT
  conv => arg 2; whnf
  have hk2 : (k : Int) < (ml : Int) := by omega
  obtain ⟨rb, roff, rfl, hrb, hrbl, xk⟩ := nat_cell (SlS.keep HRWu.out HKP.out (fun _ _ h => h)) (show k < row.length by rw [HML.out]; exact hkm)
  have htk := take_getD (show k < row.length by rw [HML.out]; exact hkm)
  have hmem := getD_mem (show k < row.length by rw [HML.out]; exact hkm)
  rw [hw1] at xk htk hmem
  obtain ⟨hwn, hadj⟩ := (hMm.out w1).1 hmem
  have hwn2 : (w1 : Int) < (n : Int) := by omega
  have HTK := hid htk
  have HADJ : Hid (ad u w1 = true) := hid hadj
  clear htk hmem hw1 hadj hrb hrbl
  go_wp2_with fail
  clear xk
  have hER := fun y : SubT (Below wr.heap.size) wr.drew => HER.out.below ((Below.refl wr.heap.size wr).drew.trans y.b)
  have z3 := fun y => (hER y).s.look 3 rfl
  have z1 := fun y => (hER y).s.look 1 rfl
  have zu := fun y => (hER y).b.arr_look hun
  have zw := fun y => (hER y).b.arr_look hwn
  have zm := fun y => (hER y).m.arr_look hun
  unfold oI at zm
  have t2 := oZ_eq (m u) w1
  have t1 : ((bs u : Int) == (bs w1 : Int)) = decide (bs u = bs w1) := by rw [Bool.eq_iff_iff]; simp; omega
  rw [decide_eq_false hb] at t1
  rw [decide_eq_false hd] at t2
  obtain ⟨z, hz⟩ : ∃ z, oZ (m u) = z := ⟨_, rfl⟩
  obtain ⟨p1, hp1⟩ : ∃ z, bs u = z := ⟨_, rfl⟩
  obtain ⟨p2, hp2⟩ : ∃ z, bs w1 = z := ⟨_, rfl⟩
  rw [hz] at t2
  rw [hp1, hp2] at t1
  simp only [hz] at zm
  simp only [hp1] at zu
  simp only [hp2] at zw
  clear hER hz hp1 hp2
  refine wp_walkJ (T := Below (wr.heap.size)) (belowV_pre _) (.rd 0 (.rd 1 (.rd 2 (.rd 3 (.rd 4 (.rd 5 (.rd 6 (.rd 7 (.rd 8 (.rd 9 (.rd 10 (.rd 11 (.rd 12 (.rd 13 (.rd 14 (.rd 15 (.rd 16 (.rd 17 (.rd 18 (.rd 19 (.rd 20 (.rd 21 (.rd 22 (.rd 23 (.rd 24 (.rd 25 (.rd 26 (.inv [])))))))))))))))))))))))))))) (by kernel_rfl) rfl (by kernel_rfl) (by kernel_rfl) ?_
  iterate 27 (refine walkJ_rd rfl (fun K hK => ?_); go_simp; refine hK _ ?_; clear hK K)
  refine walkJ_nil ?_
  clear z3 z1 zu zw zm t1 t2
  have hbx := (Below.refl wr.heap.size wr).drew
  have HERX := hid (HER.out.below hbx)
  have HQX := hid (HQR.out.below hbx)
  have HKX := hid (HKP.out.trans (Keep.of_below hbx))
  clear hbx HER HQR HKP
  generalize wr.drew = wx at HERX HQX HKX ⊢
  go_wp2_with fail
  have hER := fun y : SubT (Below wx.heap.size) wx.drew => HERX.out.below ((Below.refl wx.heap.size wx).drew.trans y.b)
  have z2 := fun y => (hER y).s.look 2 rfl
  have z1 := fun y => (hER y).s.look 1 rfl
  have zm := fun y => (hER y).m.arr_look hwn
  have htst := HSI.out.test hM w1
  have HEV := hid hev
  have HMW := hid hmw
  have t1 : ((w1 : Int) == (root : Int)) = false := by rw [beq_eq_false_iff_ne]; omega
  have hxn : x < n := (G.lt _ _ (hM.adj _ _ hmw)).2
  have hx0 : (0 : Int) ≤ (x : Int) := Int.natCast_nonneg _
  have hx2 : (x : Int) < (n : Int) := by omega
  have zf := fun y => (hER y).f.arr_look hxn
  simp only [hmw] at zm
  have htst2 : ev w1 = true ↔ f x ≠ none := by
    rw [htst]
    constructor
    · rintro (h | ⟨x', h, h2⟩)
      · exact absurd h he
      · rw [hmw] at h; cases h; exact h2
    · exact fun h => .inr ⟨x, hmw, h⟩
  have t3 : decide ((0 : Int) ≤ oZ (f x)) = ev w1 := by
    cases hfx : f x with
    | none =>
      cases e : ev w1 with
      | false => rfl
      | true => exact absurd hfx (htst2.1 e)
    | some y8 => rw [htst2.2 (by rw [hfx]; simp)]; unfold oZ; simp
  rw [hev] at t3
  unfold oI at zf
  obtain ⟨z, hz⟩ : ∃ z, oZ (f x) = z := ⟨_, rfl⟩
  rw [hz] at t3
  simp only [hz] at zf
  unfold oI oZ at zm
  clear htst htst2 he hmw hev hER hz
  refine wp_walkJ (T := Below (wx.heap.size)) (belowV_pre _) (.rd 0 (.rd 1 (.rd 2 (.rd 3 (.rd 4 (.rd 5 (.rd 6 (.rd 7 (.rd 8 (.rd 9 (.rd 10 (.rd 11 (.rd 12 (.rd 13 (.rd 14 (.rd 15 (.rd 16 (.rd 17 (.rd 18 (.rd 19 (.rd 20 (.rd 21 (.rd 22 (.rd 23 (.rd 24 (.rd 25 (.rd 26 (.rd 27 (.rd 28 (.rd 29 (.inv []))))))))))))))))))))))))))))))) (by kernel_rfl) rfl (by kernel_rfl) (by kernel_rfl) ?_
  iterate 30 (refine walkJ_rd rfl (fun K hK => ?_); go_simp; refine hK _ ?_; clear hK K)
  refine walkJ_nil ?_
  clear z2 z1 zm t1 zf t3
  have hby := (Below.refl wx.heap.size wx).drew
  have HERY := hid (HERX.out.below hby)
  have HQY := hid (HQX.out.below hby)
  have HKY := hid (HKX.out.trans (Keep.of_below hby))
  clear hby HERX HQX HKX
  generalize wx.drew = wc at HERY HQY HKY ⊢
  have a2 := HERY.out.s.look 2 rfl
  have af := HERY.out.f.arr_look hwn
  have HFW := hid hfw
  rw [hfw] at af
  unfold oI oZ at af
  have ff := HERY.out.f.frozen w1
  have lf := HERY.out.f.lt
  have hbs := HBS.out
  have hgf1 : gf ≠ gs := by omega
  have hgf2 : gf ≠ gg := by omega
  have hgf3 : gf ≠ gm := by omega
  have HERZ := hid (HERY.out.setF2 hgf1 hgf2 hgf3 HFB.out w1 (some u))
  have HQZ := hid (HQY.out.keep (S := fun g => g ≠ gf) (Keep.set wc (p := ⟨gf, w1, none⟩) (fun h => h rfl) (oI (some u))) (fun g hg => hg.2.1))
  have HKZ := hid (HKY.out.trans (Keep.set wc (p := ⟨gf, w1, none⟩) (fun h => by have h9 : gf < B := h.1; omega) (oI (some u))))
  have b1 := HERZ.out.s.look 1 rfl
  have bm := HERZ.out.m.arr_look hwn
  unfold oI oZ at HERZ HQZ HKZ b1
  rw [HMW.out] at bm
  unfold oI oZ at bm
  clear hfw HERY HQY HKY hbs
  have hx1 : ¬ (x : Int) < 0 := by omega
  have HGR := hid (HSI.out.grow G hM HQU.out.ue HADJ.out HEV.out HFW.out HMW.out)
  have HWX : Hid (w1 ≠ x) := hid (fun e => by have := hM.adj _ _ HMW.out; rw [e] at this; exact G.irr _ this)
  go_wp2_with fail
  clear a2 af ff lf b1 bm
  have hbs := HBS.out
  generalize wc.setCell ⟨gf, w1, none⟩ (.int .i64 (u : Int)) = W5 at HERZ HQZ HKZ ⊢
  have hER := fun y : SubT (Below W5.heap.size) W5.drew => HERZ.out.below ((Below.refl W5.heap.size W5).drew.trans y.b)
  have z4 := fun y => (hER y).s.look 4 rfl
  have z1 := fun y => (hER y).s.look 1 rfl
  have zm := fun y => (hER y).m.arr_look hwn
  simp only [HMW.out] at zm
  unfold oI oZ at zm
  clear hER
  refine wp_walkJ (T := Below (W5.heap.size)) (belowV_pre _) (.rd 0 (.rd 1 (.rd 2 (.rd 3 (.rd 4 (.rd 5 (.rd 6 (.rd 7 (.rd 8 (.rd 9 (.rd 10 (.rd 11 (.bt 12 (.inv [])))))))))))))) (by kernel_rfl) rfl (by kernel_rfl) (by kernel_rfl) ?_
  iterate 12 (refine walkJ_rd rfl (fun K hK => ?_); go_simp; refine hK _ ?_; clear hK K)
  clear z4 z1 zm
  have hd5 := (Below.refl W5.heap.size W5).drew
  have HERa := hid (HERZ.out.below hd5)
  have HQa := hid (HQZ.out.below hd5)
  have HKa := hid (HKZ.out.trans (Keep.of_below hd5))
  clear hd5 HERZ HQZ HKZ
  generalize W5.drew = W6 at HERa HQa HKa ⊢
  have x0 := HERa.out.e.arr_look hxn
  have f0' := HERa.out.e.frozen x
  have l0 := HERa.out.e.lt
  (refine walkJ_bt rfl (fun K hK => ?_); go_simp; refine hK _ _ ?_; clear hK K)
  refine walkJ_nil ?_
  clear x0 f0' l0
  have hge1 : ge ≠ gs := by omega
  have hge2 : ge ≠ gg := by omega
  have hge3 : ge ≠ gm := by omega
  have HERb := hid (HERa.out.setE hge1 hge2 hge3 x)
  have HQb := hid (HQa.out.keep (S := fun g => g ≠ ge) (Keep.set W6 (p := ⟨ge, x, none⟩) (fun h => h rfl) (.bool true)) (fun g hg => hg.2.2.2))
  have HKb := hid (HKa.out.trans (Keep.set W6 (p := ⟨ge, x, none⟩) (fun h => by have h9 : ge < B := h.1; omega) (.bool true)))
  clear HERa HQa HKa
  generalize W6.setCell ⟨ge, x, none⟩ (.bool true) = W7 at HERb HQb HKb ⊢
  go_wp2_with fail
  have HWD := hid (Keep.drew (fun g => ¬ QP B gf gb ge g) W7)
  have n1 : ¬ QP B gf gb ge gs := fun h => by have := h.1; omega
  have n2 : ¬ QP B gf gb ge gg := fun h => by have := h.1; omega
  have n3 : ¬ QP B gf gb ge gm := fun h => by have := h.1; omega
  have n4 : ¬ QP B gf gb ge gf := fun h => h.2.1 rfl
  have n5 : ¬ QP B gf gb ge gb := fun h => h.2.2.1 rfl
  have n6 : ¬ QP B gf gb ge ge := fun h => h.2.2.2 rfl
  have hER := fun y : SubT (Keep (fun g => ¬ QP B gf gb ge g)) W7.drew => HERb.out.keep (HWD.out.trans y.b) n1 n2 n3 n4 n5 n6
  have z5 := fun y => (hER y).s.look 5 rfl
  have z1 := fun y => (hER y).s.look 1 rfl
  have zm := fun y => (hER y).m.arr_look hwn
  simp only [HMW.out] at zm
  unfold oI oZ at zm
  clear hER
  refine wp_walkJ (T := Keep (fun g => ¬ QP B gf gb ge g)) (keep_pre _) (.rd 0 (.rd 1 (.rd 2 (.rd 3 (.rd 4 (.rd 5 (.rd 6 (.rd 7 (.rd 8 (.rd 9 (.rd 10 (.rd 11 (.mv 12 (.mv 13 (.rd 14 (.rd 15 (.bt 16 (.inv [])))))))))))))))))) (by kernel_rfl) rfl (by kernel_rfl) (by kernel_rfl) ?_
  iterate 12 (refine walkJ_rd rfl (fun K hK => ?_); go_simp; refine hK _ ?_; clear hK K)
  clear z5 z1 zm
  have hd7 := (Below.refl W7.heap.size W7).drew
  have HERc := hid (HERb.out.below hd7)
  have HQc := hid (HQb.out.below hd7)
  have HKc := hid (HKb.out.trans (Keep.of_below hd7))
  clear hd7 HERb HQb HKb HWD n1 n2 n3 n4 n5 n6
  generalize W7.drew = W8 at HERc HQc HKc ⊢
  (refine walkJ_mv rfl (fun K hK => ?_); go_simp; refine hK _ _ (Keep.alloc (fun g => ¬ QP B gf gb ge g) W8 (.cells #[.int .i64 (x : Int)] 3)) ?_; clear hK K)
  have HNN := hid (Blk.new W8 #[.int .i64 (x : Int)] 3)
  have hb8 := alloc_below W8 (.cells #[.int .i64 (x : Int)] 3)
  have HERd := hid (HERc.out.below hb8)
  have HQd := hid (HQc.out.below hb8)
  have HKd := hid (HKc.out.trans (Keep.of_below hb8))
  clear hb8 HERc HQc HKc
  generalize W8.heap.size = H at HNN ⊢
  generalize W8.alloc (.cells #[.int .i64 (x : Int)] 3) = W9 at HNN HERd HQd HKd ⊢
  have HPP : Hid (∀ g, W9.heap.size ≤ g → QP B gf gb ge g) := hid (fun g hg => by
    have g1 := HERd.out.f.lt
    have g2 := HERd.out.b.lt
    have g3 := HERd.out.e.lt
    exact ⟨by omega, by omega, by omega, by omega⟩)
  have HLQ : Hid (q.length ≤ 100000) := hid (by have := HQB.out; omega)
  refine walkJ_mv rfl (fun K hK => ⟨rfl, gives_appQ (.tmp 195) (.tmp 203) 37 rfl rfl rfl HQd.out rfl HNN.out HPP.out HLQ.out (fun v5 w5 g5 hq5 hg5 hp5 => hK _ _ (Keep.grown hg5 (fun j hj h => h (Option.some.inj hj ▸ hp5))) ?_)⟩)
  obtain ⟨g6, o6, c6, cur6, rfl, -⟩ := id hq5
  obtain ⟨L5, hL5⟩ : ∃ L, (q ++ [x]).length = L := ⟨_, rfl⟩
  rw [hL5] at hq5 ⊢
  clear hL5
  have hk5 : Keep (fun x => x ≠ g5) W9 w5 := Keep.grown hg5 (fun j hj h => h (Option.some.inj hj).symm)
  have HE9 := hid (SeR.qgrown HERd.out hg5 hp5 HBS.out)
  have HQ9 := hid hq5
  have hp6 := hp5.1
  have HK9 := hid (HKd.out.trans (hk5.mono (S' := fun k => k < B ∧ k ≠ gs) (fun x _ hx e => by have h9 := hx.1; omega)))
  clear hk5 hq5 hg5 hp5 hp6 HERd HQd HKd HNN HPP HLQ
  iterate 2 (refine walkJ_rd rfl (fun K hK => ?_); go_simp; refine hK _ ?_; clear hK K)
  have x6 := HE9.out.s.look 5 rfl
  have f6 := HE9.out.s.frozen 5
  have l6 := HE9.out.s.lt
  (refine walkJ_bt rfl (fun K hK => ?_); go_simp; refine hK _ _ ?_; clear hK K)
  refine walkJ_nil ?_
  clear x6 f6 l6
  have HEA := hid (HE9.out.setQ HGG.out HGM.out (by omega) (by omega) HGES.out (.slice (some ⟨g6, o6, none⟩) L5 c6))
  have HQA := hid (HQ9.out.keep (S := fun g => g ≠ gs) (Keep.set w5 (p := ⟨gs, 5, none⟩) (fun h => h rfl) (.slice (some ⟨g6, o6, none⟩) L5 c6)) (fun g hg => by have := hg.1; omega))
  have HKA := hid (HK9.out.trans (Keep.set w5 (p := ⟨gs, 5, none⟩) (fun h => h.2 rfl) (.slice (some ⟨g6, o6, none⟩) L5 c6)))
  have HSI2 := hid HGR.out.2.2
  have HQU2 := hid (show QU (fun i j => ad i j = true) (upd f w1 (some u)) bs (fun i => if i = x then true else ev i) P (q ++ [x]) u (row.take (k + 1)) by
    rw [HTK.out]
    exact HQU.out.grow HEV.out HWX.out)
  have hc1 : cntB (fun i => if i = x then true else ev i) n = cntB ev n + 1 := by rw [cntB_one, if_pos ⟨hxn, HGR.out.1⟩]
  have hc2 := cntB_le (fun i => if i = x then true else ev i) n
  have HG9 : Hid (2 * (n - cntB (fun i => if i = x then true else ev i) n) + (q ++ [x]).length + 1 ≤ gk) := hid (by have := HGK.out; rw [List.length_append, hc1]; simp; omega)
  have HB9 : Hid (2 * (n - cntB (fun i => if i = x then true else ev i) n) + (q ++ [x]).length ≤ 2 * n + 1) := hid (by have := HQB.out; rw [List.length_append, hc1]; simp; omega)
  clear HE9 HQ9 HK9 hc1 hc2
  go_wp2
  refine ⟨?_, by simp [Wmu, intOf]; omega⟩
  unfold WI
  refine ⟨_, _, _, _, _, _, _, _, _, _, _, _, _, _, _, _, _, _, _, _, _, _, _, _, _, _, _, _, _, _, _, _, _, _, _, _, _, _, _, _, _, _, _, _, _, _, _, _, _, _, _, _, _, _, _, _, _, _, _, _, _, _, _, _, _, _, _, _, _, _, _, _, _, _, _, _, _, _, _, _, _, _, _, _, _, _, _, _, _, _, _, _, _, _, _, _, _, _, _, _, _, _, _, _, _, _, _, _, _, _, _, _, _, _, _, _, _, _, _, _, _, ?_, rfl⟩
  exact ⟨k + 1, upd f w1 (some u), bs, _, _, q ++ [x], (.slice (some ⟨g6, o6, none⟩) L5 c6), by go_num, by omega, HEA, HQA, HSI2, HQU2, HG9, HB9, HKA⟩

end Go.Proofs.Ytcpefolhohakmaa
