/- The arms of run's inner loop. -/
import Derived.Test.YtcpefolhohakmaaI3
namespace Go.Proofs.Ytcpefolhohakmaa
open Go.RowKit
attribute [local irreducible] seqS seqST walkV walkJ

/-- The k-th loop of a text, counted as they open. -/
def loops : Code → List Code
  | .loop c => c :: loops c
  | .seq a b => loops a ++ loops b
  | .block _ c => loops c
  | .scope c => loops c
  | .cond _ a b => loops a ++ loops b
  | _ => []
noncomputable def inBody : Code := ((Try.f66.body.map fun c => (loops c).getD 2 .skip).getD .skip)
/-- What the inner loop keeps. -/
def InR (ad : Nat → Nat → Bool) (n : Nat) (m : Mt) (root gs gg gm gf gb ge B gw gk ml u : Nat) (row : List Nat) (P : Nat → Prop) (w : World) (z : Value) (wr2 : World) : Prop :=
  ∃ (k : Nat) (f : Mt) (bs : Nat → Nat) (ev : Nat → Bool) (lev : Nat → Nat) (q : List Nat) (qv : Value), z = .int .i64 (k : Int) ∧ k ≤ ml ∧ Hid (SeR wr2 gs gg gm gf gb ge (slV gw n) qv n m f bs ev) ∧ Hid (QuR wr2 (QP B gf gb ge) qv q) ∧ Hid (SI n (fun i j => ad i j = true) m root f bs ev lev) ∧ Hid (QU (fun i j => ad i j = true) f bs ev P q u (row.take k)) ∧ Hid (2 * (n - cntB ev n) + q.length + 1 ≤ gk) ∧ Hid (2 * (n - cntB ev n) + q.length ≤ 2 * n + 1) ∧ Hid (Keep (fun b => b < B ∧ b ≠ gs) w wr2)
set_option maxRecDepth 1000000 in
def WI (ad : Nat → Nat → Bool) (n : Nat) (m : Mt) (root gs gg gm gf gb ge B gw gk ml u : Nat) (row : List Nat) (P : Nat → Prop) (w : World) (ra : Option Addr) (rc : Nat) (c2 c3 c5 c6 c8 c10 c11 c12 c13 c14 c15 c16 c17 c18 c19 c20 c21 c22 c23 c24 c25 c26 c27 c28 c29 c30 c31 c32 c33 c34 c35 c36 c37 c38 c39 c40 c41 c42 c43 c44 c45 c46 c47 c48 c49 c50 c51 c52 c53 c54 c55 c56 c57 c58 c59 c60 c61 c62 c63 c64 c65 c66 c67 c68 c69 c70 c71 c72 c73 c74 c75 c76 c77 c78 c79 c80 c81 c82 c83 c84 c85 c86 : Value) (a' : Act) (w' : World) : Prop :=
  ∃ u4 u9 u89 u90 u91 u92 u93 u94 u95 u96 u97 u98 u99 u100 u101 u102 u103 u104 u105 u106 u107 u108 u109 u110 u111 u112 u113 u114 u115 u116 u117 u118 u119 u120 u121 u122 u123 u124 u125 u126 u127 u128 u129 u130 u131 u132 u133 u134 u135 u136 u137 u138 u139 u140 u141 u142 u143 u144 u145 u146 u147 u148 u149 u150 u151 u152 u153 u154 u155 u156 u157 u158 u159 u160 u161 u162 u163 u164 u165 u166 u167 u168 u169 u170 u171 u172 u173 u174 u175 u176 u177 u178 u179 u180 u181 u182 u183 u184 u185 u186 u187 u188 u189 u190 u191 u192 u193 u194 u195 u196 u197 u198 u199 u200 u201 u202 u203 u204 u205 u206 u207 : Value, InR ad n m root gs gg gm gf gb ge B gw gk ml u row P w u89 w' ∧ a' = ⟨#[(.pointer (some ⟨gs, 0, none⟩)), (.int .i64 (root : Int)), c2, c3, u4, c5, c6, (.int .i64 (u : Int)), c8, u9, c10, c11, c12, c13, c14, c15, c16, c17, c18, c19, c20, c21, c22, c23, c24, c25, c26, c27, c28, c29, c30, c31, c32, c33, c34, c35, c36, c37, c38, c39, c40, c41, c42, c43, c44, c45, c46, c47, c48, c49, c50, c51, c52, c53, c54, c55, c56, c57, c58, c59, c60, c61, c62, c63, c64, c65, c66, c67, c68, c69, c70, c71, c72, c73, c74, c75, c76, c77, c78, c79, c80, c81, c82, c83, c84, c85, c86, (.slice ra ml rc), (.int .i64 (ml : Int)), u89, u90, u91, u92, u93, u94, u95, u96, u97, u98, u99, u100, u101, u102, u103, u104, u105, u106, u107, u108, u109, u110, u111, u112, u113, u114, u115, u116, u117, u118, u119, u120, u121, u122, u123, u124, u125, u126, u127, u128, u129, u130, u131, u132, u133, u134, u135, u136, u137, u138, u139, u140, u141, u142, u143, u144, u145, u146, u147, u148, u149, u150, u151, u152, u153, u154, u155, u156, u157, u158, u159, u160, u161, u162, u163, u164, u165, u166, u167, u168, u169, u170, u171, u172, u173, u174, u175, u176, u177, u178, u179, u180, u181, u182, u183, u184, u185, u186, u187, u188, u189, u190, u191, u192, u193, u194, u195, u196, u197, u198, u199, u200, u201, u202, u203, u204, u205, u206, u207], []⟩
/-- What the arms know. -/
structure InC (ad : Nat → Nat → Bool) (n : Nat) (m : Mt) (root gs gg gm gf gb ge B gw ml u : Nat) (row : List Nat) (w : World) (ra : Option Addr) (rc : Nat) (Q0 : Exit → Act → World → Prop) : Prop where
  G : Gr n (fun i j => ad i j = true)
  hM : Mat (fun i j => ad i j = true) m
  hn1 : n ≤ 400
  HB : Hid (w.heap.size = B)
  HBS : Hid (gs < B ∧ gg < B ∧ gm < B ∧ B ≤ gf ∧ B ≤ gb ∧ B ≤ ge)
  HFB : Hid (gf ≠ gb)
  HGG : Hid (gg ≠ gs)
  HGM : Hid (gm ≠ gs)
  HGES : Hid (ge ≠ gs)
  hun : u < n
  hu2 : (u : Int) < (n : Int)
  HML : Hid (row.length = ml)
  HRWu : Hid (NatS (fun b => b < B ∧ b ≠ gs) w (.slice ra ml rc) row)
  hMm : Hid (∀ x, x ∈ row ↔ x < n ∧ ad u x = true)
  hrl : ml ≤ n
  hret : ∀ a w', (a.defers = [] ∧ RunP (fun i j => ad i j = true) gs gg gm (slV gw n) n root m w (.returned (a.tmps.getD 4 undef)) w') → Q0 .ret a w'
/-- Where a round begins. -/
structure InT (ad : Nat → Nat → Bool) (n : Nat) (m : Mt) (root gs gg gm gf gb ge B gw gk ml u : Nat) (row : List Nat) (P : Nat → Prop) (w wr : World) (k : Nat) (f : Mt) (bs : Nat → Nat) (ev : Nat → Bool) (lev : Nat → Nat) (q : List Nat) (qv : Value) : Prop where
  hkm : k < ml
  HER : Hid (SeR wr gs gg gm gf gb ge (slV gw n) qv n m f bs ev)
  HQR : Hid (QuR wr (QP B gf gb ge) qv q)
  HSI : Hid (SI n (fun i j => ad i j = true) m root f bs ev lev)
  HQU : Hid (QU (fun i j => ad i j = true) f bs ev P q u (row.take k))
  HGK : Hid (2 * (n - cntB ev n) + q.length + 1 ≤ gk)
  HQB : Hid (2 * (n - cntB ev n) + q.length ≤ 2 * n + 1)
  HKP : Hid (Keep (fun b => b < B ∧ b ≠ gs) w wr)
def Wmu (ml : Nat) (a : Act) : Nat := ml - (intOf (a.tmps.getD 89 undef)).toNat

set_option maxHeartbeats 8000000 in
set_option maxRecDepth 1000000 in
theorem arm_base {ad : Nat → Nat → Bool} {n : Nat} {m : Mt} {root gs gg gm gf gb ge B gw gk ml u : Nat} {row : List Nat} {P : Nat → Prop} {w : World} {ra : Option Addr} {rc : Nat} {c2 c3 c5 c6 c8 c10 c11 c12 c13 c14 c15 c16 c17 c18 c19 c20 c21 c22 c23 c24 c25 c26 c27 c28 c29 c30 c31 c32 c33 c34 c35 c36 c37 c38 c39 c40 c41 c42 c43 c44 c45 c46 c47 c48 c49 c50 c51 c52 c53 c54 c55 c56 c57 c58 c59 c60 c61 c62 c63 c64 c65 c66 c67 c68 c69 c70 c71 c72 c73 c74 c75 c76 c77 c78 c79 c80 c81 c82 c83 c84 c85 c86 u4 u9 u90 u91 u92 u93 u94 u95 u96 u97 u98 u99 u100 u101 u102 u103 u104 u105 u106 u107 u108 u109 u110 u111 u112 u113 u114 u115 u116 u117 u118 u119 u120 u121 u122 u123 u124 u125 u126 u127 u128 u129 u130 u131 u132 u133 u134 u135 u136 u137 u138 u139 u140 u141 u142 u143 u144 u145 u146 u147 u148 u149 u150 u151 u152 u153 u154 u155 u156 u157 u158 u159 u160 u161 u162 u163 u164 u165 u166 u167 u168 u169 u170 u171 u172 u173 u174 u175 u176 u177 u178 u179 u180 u181 u182 u183 u184 u185 u186 u187 u188 u189 u190 u191 u192 u193 u194 u195 u196 u197 u198 u199 u200 u201 u202 u203 u204 u205 u206 u207 : Value} {Q0 : Exit → Act → World → Prop}
    (HC : InC ad n m root gs gg gm gf gb ge B gw ml u row w ra rc Q0)
    {wr : World} {k : Nat} {f : Mt} {bs : Nat → Nat} {ev : Nat → Bool} {lev : Nat → Nat} {q : List Nat} {qv : Value} (HT : InT ad n m root gs gg gm gf gb ge B gw gk ml u row P w wr k f bs ev lev q qv)
    {w1 : Nat} (hw1 : row.getD k 0 = w1) (hd : bs u = bs w1) :
    Code.wp Try.prog inBody (Exit.then (fun a' w'' => WI ad n m root gs gg gm gf gb ge B gw gk ml u row P w ra rc c2 c3 c5 c6 c8 c10 c11 c12 c13 c14 c15 c16 c17 c18 c19 c20 c21 c22 c23 c24 c25 c26 c27 c28 c29 c30 c31 c32 c33 c34 c35 c36 c37 c38 c39 c40 c41 c42 c43 c44 c45 c46 c47 c48 c49 c50 c51 c52 c53 c54 c55 c56 c57 c58 c59 c60 c61 c62 c63 c64 c65 c66 c67 c68 c69 c70 c71 c72 c73 c74 c75 c76 c77 c78 c79 c80 c81 c82 c83 c84 c85 c86 a' w'' ∧ Wmu ml a' < Wmu ml ⟨#[(.pointer (some ⟨gs, 0, none⟩)), (.int .i64 (root : Int)), c2, c3, u4, c5, c6, (.int .i64 (u : Int)), c8, u9, c10, c11, c12, c13, c14, c15, c16, c17, c18, c19, c20, c21, c22, c23, c24, c25, c26, c27, c28, c29, c30, c31, c32, c33, c34, c35, c36, c37, c38, c39, c40, c41, c42, c43, c44, c45, c46, c47, c48, c49, c50, c51, c52, c53, c54, c55, c56, c57, c58, c59, c60, c61, c62, c63, c64, c65, c66, c67, c68, c69, c70, c71, c72, c73, c74, c75, c76, c77, c78, c79, c80, c81, c82, c83, c84, c85, c86, (.slice ra ml rc), (.int .i64 (ml : Int)), (.int .i64 (k : Int)), u90, u91, u92, u93, u94, u95, u96, u97, u98, u99, u100, u101, u102, u103, u104, u105, u106, u107, u108, u109, u110, u111, u112, u113, u114, u115, u116, u117, u118, u119, u120, u121, u122, u123, u124, u125, u126, u127, u128, u129, u130, u131, u132, u133, u134, u135, u136, u137, u138, u139, u140, u141, u142, u143, u144, u145, u146, u147, u148, u149, u150, u151, u152, u153, u154, u155, u156, u157, u158, u159, u160, u161, u162, u163, u164, u165, u166, u167, u168, u169, u170, u171, u172, u173, u174, u175, u176, u177, u178, u179, u180, u181, u182, u183, u184, u185, u186, u187, u188, u189, u190, u191, u192, u193, u194, u195, u196, u197, u198, u199, u200, u201, u202, u203, u204, u205, u206, u207], []⟩) Q0) ⟨#[(.pointer (some ⟨gs, 0, none⟩)), (.int .i64 (root : Int)), c2, c3, u4, c5, c6, (.int .i64 (u : Int)), c8, u9, c10, c11, c12, c13, c14, c15, c16, c17, c18, c19, c20, c21, c22, c23, c24, c25, c26, c27, c28, c29, c30, c31, c32, c33, c34, c35, c36, c37, c38, c39, c40, c41, c42, c43, c44, c45, c46, c47, c48, c49, c50, c51, c52, c53, c54, c55, c56, c57, c58, c59, c60, c61, c62, c63, c64, c65, c66, c67, c68, c69, c70, c71, c72, c73, c74, c75, c76, c77, c78, c79, c80, c81, c82, c83, c84, c85, c86, (.slice ra ml rc), (.int .i64 (ml : Int)), (.int .i64 (k : Int)), u90, u91, u92, u93, u94, u95, u96, u97, u98, u99, u100, u101, u102, u103, u104, u105, u106, u107, u108, u109, u110, u111, u112, u113, u114, u115, u116, u117, u118, u119, u120, u121, u122, u123, u124, u125, u126, u127, u128, u129, u130, u131, u132, u133, u134, u135, u136, u137, u138, u139, u140, u141, u142, u143, u144, u145, u146, u147, u148, u149, u150, u151, u152, u153, u154, u155, u156, u157, u158, u159, u160, u161, u162, u163, u164, u165, u166, u167, u168, u169, u170, u171, u172, u173, u174, u175, u176, u177, u178, u179, u180, u181, u182, u183, u184, u185, u186, u187, u188, u189, u190, u191, u192, u193, u194, u195, u196, u197, u198, u199, u200, u201, u202, u203, u204, u205, u206, u207], []⟩ wr := by
  obtain ⟨G, hM, hn1, HB, HBS, HFB, HGG, HGM, HGES, hun, hu2, HML, HRWu, hMm, hrl, hret⟩ := HC
  obtain ⟨hkm, HER, HQR, HSI, HQU, HGK, HQB, HKP⟩ := HT
  conv => arg 2; whnf
  have hk2 : (k : Int) < (ml : Int) := by omega
  obtain ⟨rb, roff, rfl, hrb, hrbl, xk⟩ := nat_cell (SlS.keep HRWu.out HKP.out (fun _ _ h => h)) (show k < row.length by rw [HML.out]; exact hkm)
  have htk := take_getD (show k < row.length by rw [HML.out]; exact hkm)
  have hmem := getD_mem (show k < row.length by rw [HML.out]; exact hkm)
  rw [hw1] at xk htk hmem
  obtain ⟨hwn, hadj⟩ := (hMm.out w1).1 hmem
  have hwn2 : (w1 : Int) < (n : Int) := by omega
  have HTK := hid htk
  have HADJ : Hid (ad u w1 = true) := hid hadj
  clear htk hmem hw1 hadj hrb hrbl
  go_wp2_with fail
  clear xk
  have hER := fun y : SubT (Below wr.heap.size) wr.drew => HER.out.below ((Below.refl wr.heap.size wr).drew.trans y.b)
  have z3 := fun y => (hER y).s.look 3 rfl
  have z1 := fun y => (hER y).s.look 1 rfl
  have zu := fun y => (hER y).b.arr_look hun
  have zw := fun y => (hER y).b.arr_look hwn
  have zm := fun y => (hER y).m.arr_look hun
  unfold oI at zm
  have t2 := oZ_eq (m u) w1
  have t1 : ((bs u : Int) == (bs w1 : Int)) = decide (bs u = bs w1) := by rw [Bool.eq_iff_iff]; simp; omega
  rw [decide_eq_true hd] at t1
  obtain ⟨z, hz⟩ : ∃ z, oZ (m u) = z := ⟨_, rfl⟩
  obtain ⟨p1, hp1⟩ : ∃ z, bs u = z := ⟨_, rfl⟩
  obtain ⟨p2, hp2⟩ : ∃ z, bs w1 = z := ⟨_, rfl⟩
  rw [hz] at t2
  rw [hp1, hp2] at t1
  simp only [hz] at zm
  simp only [hp1] at zu
  simp only [hp2] at zw
  clear hER hz hp1 hp2
  refine wp_walkJ (T := Below (wr.heap.size)) (belowV_pre _) (.rd 0 (.rd 1 (.rd 2 (.rd 3 (.rd 4 (.rd 5 (.rd 6 (.rd 7 (.rd 8 (.rd 9 (.rd 10 (.rd 11 (.rd 12 (.rd 13 (.rd 14 (.rd 15 (.rd 16 (.rd 17 (.rd 18 (.rd 19 (.rd 20 (.rd 21 (.rd 22 (.rd 23 (.rd 24 (.rd 25 (.rd 26 (.inv [])))))))))))))))))))))))))))) (by kernel_rfl) rfl (by kernel_rfl) (by kernel_rfl) ?_
  iterate 27 (refine walkJ_rd rfl (fun K hK => ?_); go_simp; refine hK _ ?_; clear hK K)
  refine walkJ_nil ?_
  clear z3 z1 zu zw zm t1 t2
  have hbx := (Below.refl wr.heap.size wr).drew
  have HERX := hid (HER.out.below hbx)
  have HQX := hid (HQR.out.below hbx)
  have HKX := hid (HKP.out.trans (Keep.of_below hbx))
  clear hbx HER HQR HKP
  generalize wr.drew = wx at HERX HQX HKX ⊢
  have HQU2 := hid (show QU (fun i j => ad i j = true) f bs ev P q u (row.take (k + 1)) by
    rw [HTK.out]
    exact HQU.out.base HSI.out hd)
  go_wp2
  refine ⟨?_, by simp [Wmu, intOf]; omega⟩
  unfold WI
  refine ⟨_, _, _, _, _, _, _, _, _, _, _, _, _, _, _, _, _, _, _, _, _, _, _, _, _, _, _, _, _, _, _, _, _, _, _, _, _, _, _, _, _, _, _, _, _, _, _, _, _, _, _, _, _, _, _, _, _, _, _, _, _, _, _, _, _, _, _, _, _, _, _, _, _, _, _, _, _, _, _, _, _, _, _, _, _, _, _, _, _, _, _, _, _, _, _, _, _, _, _, _, _, _, _, _, _, _, _, _, _, _, _, _, _, _, _, _, _, _, _, _, _, ?_, rfl⟩
  exact ⟨k + 1, f, bs, ev, lev, q, qv, by go_num, by omega, HERX, HQX, HSI, HQU2, HGK, HQB, HKX⟩

set_option maxHeartbeats 8000000 in
set_option maxRecDepth 1000000 in
theorem arm_mate {ad : Nat → Nat → Bool} {n : Nat} {m : Mt} {root gs gg gm gf gb ge B gw gk ml u : Nat} {row : List Nat} {P : Nat → Prop} {w : World} {ra : Option Addr} {rc : Nat} {c2 c3 c5 c6 c8 c10 c11 c12 c13 c14 c15 c16 c17 c18 c19 c20 c21 c22 c23 c24 c25 c26 c27 c28 c29 c30 c31 c32 c33 c34 c35 c36 c37 c38 c39 c40 c41 c42 c43 c44 c45 c46 c47 c48 c49 c50 c51 c52 c53 c54 c55 c56 c57 c58 c59 c60 c61 c62 c63 c64 c65 c66 c67 c68 c69 c70 c71 c72 c73 c74 c75 c76 c77 c78 c79 c80 c81 c82 c83 c84 c85 c86 u4 u9 u90 u91 u92 u93 u94 u95 u96 u97 u98 u99 u100 u101 u102 u103 u104 u105 u106 u107 u108 u109 u110 u111 u112 u113 u114 u115 u116 u117 u118 u119 u120 u121 u122 u123 u124 u125 u126 u127 u128 u129 u130 u131 u132 u133 u134 u135 u136 u137 u138 u139 u140 u141 u142 u143 u144 u145 u146 u147 u148 u149 u150 u151 u152 u153 u154 u155 u156 u157 u158 u159 u160 u161 u162 u163 u164 u165 u166 u167 u168 u169 u170 u171 u172 u173 u174 u175 u176 u177 u178 u179 u180 u181 u182 u183 u184 u185 u186 u187 u188 u189 u190 u191 u192 u193 u194 u195 u196 u197 u198 u199 u200 u201 u202 u203 u204 u205 u206 u207 : Value} {Q0 : Exit → Act → World → Prop}
    (HC : InC ad n m root gs gg gm gf gb ge B gw ml u row w ra rc Q0)
    {wr : World} {k : Nat} {f : Mt} {bs : Nat → Nat} {ev : Nat → Bool} {lev : Nat → Nat} {q : List Nat} {qv : Value} (HT : InT ad n m root gs gg gm gf gb ge B gw gk ml u row P w wr k f bs ev lev q qv)
    {w1 : Nat} (hw1 : row.getD k 0 = w1) (hb : bs u ≠ bs w1) (hd : m u = some w1) :
    Code.wp Try.prog inBody (Exit.then (fun a' w'' => WI ad n m root gs gg gm gf gb ge B gw gk ml u row P w ra rc c2 c3 c5 c6 c8 c10 c11 c12 c13 c14 c15 c16 c17 c18 c19 c20 c21 c22 c23 c24 c25 c26 c27 c28 c29 c30 c31 c32 c33 c34 c35 c36 c37 c38 c39 c40 c41 c42 c43 c44 c45 c46 c47 c48 c49 c50 c51 c52 c53 c54 c55 c56 c57 c58 c59 c60 c61 c62 c63 c64 c65 c66 c67 c68 c69 c70 c71 c72 c73 c74 c75 c76 c77 c78 c79 c80 c81 c82 c83 c84 c85 c86 a' w'' ∧ Wmu ml a' < Wmu ml ⟨#[(.pointer (some ⟨gs, 0, none⟩)), (.int .i64 (root : Int)), c2, c3, u4, c5, c6, (.int .i64 (u : Int)), c8, u9, c10, c11, c12, c13, c14, c15, c16, c17, c18, c19, c20, c21, c22, c23, c24, c25, c26, c27, c28, c29, c30, c31, c32, c33, c34, c35, c36, c37, c38, c39, c40, c41, c42, c43, c44, c45, c46, c47, c48, c49, c50, c51, c52, c53, c54, c55, c56, c57, c58, c59, c60, c61, c62, c63, c64, c65, c66, c67, c68, c69, c70, c71, c72, c73, c74, c75, c76, c77, c78, c79, c80, c81, c82, c83, c84, c85, c86, (.slice ra ml rc), (.int .i64 (ml : Int)), (.int .i64 (k : Int)), u90, u91, u92, u93, u94, u95, u96, u97, u98, u99, u100, u101, u102, u103, u104, u105, u106, u107, u108, u109, u110, u111, u112, u113, u114, u115, u116, u117, u118, u119, u120, u121, u122, u123, u124, u125, u126, u127, u128, u129, u130, u131, u132, u133, u134, u135, u136, u137, u138, u139, u140, u141, u142, u143, u144, u145, u146, u147, u148, u149, u150, u151, u152, u153, u154, u155, u156, u157, u158, u159, u160, u161, u162, u163, u164, u165, u166, u167, u168, u169, u170, u171, u172, u173, u174, u175, u176, u177, u178, u179, u180, u181, u182, u183, u184, u185, u186, u187, u188, u189, u190, u191, u192, u193, u194, u195, u196, u197, u198, u199, u200, u201, u202, u203, u204, u205, u206, u207], []⟩) Q0) ⟨#[(.pointer (some ⟨gs, 0, none⟩)), (.int .i64 (root : Int)), c2, c3, u4, c5, c6, (.int .i64 (u : Int)), c8, u9, c10, c11, c12, c13, c14, c15, c16, c17, c18, c19, c20, c21, c22, c23, c24, c25, c26, c27, c28, c29, c30, c31, c32, c33, c34, c35, c36, c37, c38, c39, c40, c41, c42, c43, c44, c45, c46, c47, c48, c49, c50, c51, c52, c53, c54, c55, c56, c57, c58, c59, c60, c61, c62, c63, c64, c65, c66, c67, c68, c69, c70, c71, c72, c73, c74, c75, c76, c77, c78, c79, c80, c81, c82, c83, c84, c85, c86, (.slice ra ml rc), (.int .i64 (ml : Int)), (.int .i64 (k : Int)), u90, u91, u92, u93, u94, u95, u96, u97, u98, u99, u100, u101, u102, u103, u104, u105, u106, u107, u108, u109, u110, u111, u112, u113, u114, u115, u116, u117, u118, u119, u120, u121, u122, u123, u124, u125, u126, u127, u128, u129, u130, u131, u132, u133, u134, u135, u136, u137, u138, u139, u140, u141, u142, u143, u144, u145, u146, u147, u148, u149, u150, u151, u152, u153, u154, u155, u156, u157, u158, u159, u160, u161, u162, u163, u164, u165, u166, u167, u168, u169, u170, u171, u172, u173, u174, u175, u176, u177, u178, u179, u180, u181, u182, u183, u184, u185, u186, u187, u188, u189, u190, u191, u192, u193, u194, u195, u196, u197, u198, u199, u200, u201, u202, u203, u204, u205, u206, u207], []⟩ wr := by
  obtain ⟨G, hM, hn1, HB, HBS, HFB, HGG, HGM, HGES, hun, hu2, HML, HRWu, hMm, hrl, hret⟩ := HC
  obtain ⟨hkm, HER, HQR, HSI, HQU, HGK, HQB, HKP⟩ := HT
  conv => arg 2; whnf
  have hk2 : (k : Int) < (ml : Int) := by omega
  obtain ⟨rb, roff, rfl, hrb, hrbl, xk⟩ := nat_cell (SlS.keep HRWu.out HKP.out (fun _ _ h => h)) (show k < row.length by rw [HML.out]; exact hkm)
  have htk := take_getD (show k < row.length by rw [HML.out]; exact hkm)
  have hmem := getD_mem (show k < row.length by rw [HML.out]; exact hkm)
  rw [hw1] at xk htk hmem
  obtain ⟨hwn, hadj⟩ := (hMm.out w1).1 hmem
  have hwn2 : (w1 : Int) < (n : Int) := by omega
  have HTK := hid htk
  have HADJ : Hid (ad u w1 = true) := hid hadj
  clear htk hmem hw1 hadj hrb hrbl
  go_wp2_with fail
  clear xk
  have hER := fun y : SubT (Below wr.heap.size) wr.drew => HER.out.below ((Below.refl wr.heap.size wr).drew.trans y.b)
  have z3 := fun y => (hER y).s.look 3 rfl
  have z1 := fun y => (hER y).s.look 1 rfl
  have zu := fun y => (hER y).b.arr_look hun
  have zw := fun y => (hER y).b.arr_look hwn
  have zm := fun y => (hER y).m.arr_look hun
  unfold oI at zm
  have t2 := oZ_eq (m u) w1
  have t1 : ((bs u : Int) == (bs w1 : Int)) = decide (bs u = bs w1) := by rw [Bool.eq_iff_iff]; simp; omega
  rw [decide_eq_false hb] at t1
  rw [decide_eq_true hd] at t2
  obtain ⟨z, hz⟩ : ∃ z, oZ (m u) = z := ⟨_, rfl⟩
  obtain ⟨p1, hp1⟩ : ∃ z, bs u = z := ⟨_, rfl⟩
  obtain ⟨p2, hp2⟩ : ∃ z, bs w1 = z := ⟨_, rfl⟩
  rw [hz] at t2
  rw [hp1, hp2] at t1
  simp only [hz] at zm
  simp only [hp1] at zu
  simp only [hp2] at zw
  clear hER hz hp1 hp2
  refine wp_walkJ (T := Below (wr.heap.size)) (belowV_pre _) (.rd 0 (.rd 1 (.rd 2 (.rd 3 (.rd 4 (.rd 5 (.rd 6 (.rd 7 (.rd 8 (.rd 9 (.rd 10 (.rd 11 (.rd 12 (.rd 13 (.rd 14 (.rd 15 (.rd 16 (.rd 17 (.rd 18 (.rd 19 (.rd 20 (.rd 21 (.rd 22 (.rd 23 (.rd 24 (.rd 25 (.rd 26 (.inv [])))))))))))))))))))))))))))) (by kernel_rfl) rfl (by kernel_rfl) (by kernel_rfl) ?_
  iterate 27 (refine walkJ_rd rfl (fun K hK => ?_); go_simp; refine hK _ ?_; clear hK K)
  refine walkJ_nil ?_
  clear z3 z1 zu zw zm t1 t2
  have hbx := (Below.refl wr.heap.size wr).drew
  have HERX := hid (HER.out.below hbx)
  have HQX := hid (HQR.out.below hbx)
  have HKX := hid (HKP.out.trans (Keep.of_below hbx))
  clear hbx HER HQR HKP
  generalize wr.drew = wx at HERX HQX HKX ⊢
  have HQU2 := hid (show QU (fun i j => ad i j = true) f bs ev P q u (row.take (k + 1)) by
    rw [HTK.out]
    exact HQU.out.mate HSI.out hd)
  go_wp2
  refine ⟨?_, by simp [Wmu, intOf]; omega⟩
  unfold WI
  refine ⟨_, _, _, _, _, _, _, _, _, _, _, _, _, _, _, _, _, _, _, _, _, _, _, _, _, _, _, _, _, _, _, _, _, _, _, _, _, _, _, _, _, _, _, _, _, _, _, _, _, _, _, _, _, _, _, _, _, _, _, _, _, _, _, _, _, _, _, _, _, _, _, _, _, _, _, _, _, _, _, _, _, _, _, _, _, _, _, _, _, _, _, _, _, _, _, _, _, _, _, _, _, _, _, _, _, _, _, _, _, _, _, _, _, _, _, _, _, _, _, _, _, ?_, rfl⟩
  exact ⟨k + 1, f, bs, ev, lev, q, qv, by go_num, by omega, HERX, HQX, HSI, HQU2, HGK, HQB, HKX⟩

set_option maxHeartbeats 8000000 in
set_option maxRecDepth 1000000 in
theorem arm_root {ad : Nat → Nat → Bool} {n : Nat} {m : Mt} {root gs gg gm gf gb ge B gw gk ml u : Nat} {row : List Nat} {P : Nat → Prop} {w : World} {ra : Option Addr} {rc : Nat} {c2 c3 c5 c6 c8 c10 c11 c12 c13 c14 c15 c16 c17 c18 c19 c20 c21 c22 c23 c24 c25 c26 c27 c28 c29 c30 c31 c32 c33 c34 c35 c36 c37 c38 c39 c40 c41 c42 c43 c44 c45 c46 c47 c48 c49 c50 c51 c52 c53 c54 c55 c56 c57 c58 c59 c60 c61 c62 c63 c64 c65 c66 c67 c68 c69 c70 c71 c72 c73 c74 c75 c76 c77 c78 c79 c80 c81 c82 c83 c84 c85 c86 u4 u9 u90 u91 u92 u93 u94 u95 u96 u97 u98 u99 u100 u101 u102 u103 u104 u105 u106 u107 u108 u109 u110 u111 u112 u113 u114 u115 u116 u117 u118 u119 u120 u121 u122 u123 u124 u125 u126 u127 u128 u129 u130 u131 u132 u133 u134 u135 u136 u137 u138 u139 u140 u141 u142 u143 u144 u145 u146 u147 u148 u149 u150 u151 u152 u153 u154 u155 u156 u157 u158 u159 u160 u161 u162 u163 u164 u165 u166 u167 u168 u169 u170 u171 u172 u173 u174 u175 u176 u177 u178 u179 u180 u181 u182 u183 u184 u185 u186 u187 u188 u189 u190 u191 u192 u193 u194 u195 u196 u197 u198 u199 u200 u201 u202 u203 u204 u205 u206 u207 : Value} {Q0 : Exit → Act → World → Prop}
    (HC : InC ad n m root gs gg gm gf gb ge B gw ml u row w ra rc Q0)
    {wr : World} {k : Nat} {f : Mt} {bs : Nat → Nat} {ev : Nat → Bool} {lev : Nat → Nat} {q : List Nat} {qv : Value} (HT : InT ad n m root gs gg gm gf gb ge B gw gk ml u row P w wr k f bs ev lev q qv)
    {w1 : Nat} (hw1 : row.getD k 0 = w1) (hb : bs u ≠ bs w1) (hd : m u ≠ some w1) (he : w1 = root) :
    Code.wp Try.prog inBody (Exit.then (fun a' w'' => WI ad n m root gs gg gm gf gb ge B gw gk ml u row P w ra rc c2 c3 c5 c6 c8 c10 c11 c12 c13 c14 c15 c16 c17 c18 c19 c20 c21 c22 c23 c24 c25 c26 c27 c28 c29 c30 c31 c32 c33 c34 c35 c36 c37 c38 c39 c40 c41 c42 c43 c44 c45 c46 c47 c48 c49 c50 c51 c52 c53 c54 c55 c56 c57 c58 c59 c60 c61 c62 c63 c64 c65 c66 c67 c68 c69 c70 c71 c72 c73 c74 c75 c76 c77 c78 c79 c80 c81 c82 c83 c84 c85 c86 a' w'' ∧ Wmu ml a' < Wmu ml ⟨#[(.pointer (some ⟨gs, 0, none⟩)), (.int .i64 (root : Int)), c2, c3, u4, c5, c6, (.int .i64 (u : Int)), c8, u9, c10, c11, c12, c13, c14, c15, c16, c17, c18, c19, c20, c21, c22, c23, c24, c25, c26, c27, c28, c29, c30, c31, c32, c33, c34, c35, c36, c37, c38, c39, c40, c41, c42, c43, c44, c45, c46, c47, c48, c49, c50, c51, c52, c53, c54, c55, c56, c57, c58, c59, c60, c61, c62, c63, c64, c65, c66, c67, c68, c69, c70, c71, c72, c73, c74, c75, c76, c77, c78, c79, c80, c81, c82, c83, c84, c85, c86, (.slice ra ml rc), (.int .i64 (ml : Int)), (.int .i64 (k : Int)), u90, u91, u92, u93, u94, u95, u96, u97, u98, u99, u100, u101, u102, u103, u104, u105, u106, u107, u108, u109, u110, u111, u112, u113, u114, u115, u116, u117, u118, u119, u120, u121, u122, u123, u124, u125, u126, u127, u128, u129, u130, u131, u132, u133, u134, u135, u136, u137, u138, u139, u140, u141, u142, u143, u144, u145, u146, u147, u148, u149, u150, u151, u152, u153, u154, u155, u156, u157, u158, u159, u160, u161, u162, u163, u164, u165, u166, u167, u168, u169, u170, u171, u172, u173, u174, u175, u176, u177, u178, u179, u180, u181, u182, u183, u184, u185, u186, u187, u188, u189, u190, u191, u192, u193, u194, u195, u196, u197, u198, u199, u200, u201, u202, u203, u204, u205, u206, u207], []⟩) Q0) ⟨#[(.pointer (some ⟨gs, 0, none⟩)), (.int .i64 (root : Int)), c2, c3, u4, c5, c6, (.int .i64 (u : Int)), c8, u9, c10, c11, c12, c13, c14, c15, c16, c17, c18, c19, c20, c21, c22, c23, c24, c25, c26, c27, c28, c29, c30, c31, c32, c33, c34, c35, c36, c37, c38, c39, c40, c41, c42, c43, c44, c45, c46, c47, c48, c49, c50, c51, c52, c53, c54, c55, c56, c57, c58, c59, c60, c61, c62, c63, c64, c65, c66, c67, c68, c69, c70, c71, c72, c73, c74, c75, c76, c77, c78, c79, c80, c81, c82, c83, c84, c85, c86, (.slice ra ml rc), (.int .i64 (ml : Int)), (.int .i64 (k : Int)), u90, u91, u92, u93, u94, u95, u96, u97, u98, u99, u100, u101, u102, u103, u104, u105, u106, u107, u108, u109, u110, u111, u112, u113, u114, u115, u116, u117, u118, u119, u120, u121, u122, u123, u124, u125, u126, u127, u128, u129, u130, u131, u132, u133, u134, u135, u136, u137, u138, u139, u140, u141, u142, u143, u144, u145, u146, u147, u148, u149, u150, u151, u152, u153, u154, u155, u156, u157, u158, u159, u160, u161, u162, u163, u164, u165, u166, u167, u168, u169, u170, u171, u172, u173, u174, u175, u176, u177, u178, u179, u180, u181, u182, u183, u184, u185, u186, u187, u188, u189, u190, u191, u192, u193, u194, u195, u196, u197, u198, u199, u200, u201, u202, u203, u204, u205, u206, u207], []⟩ wr := by
  obtain ⟨G, hM, hn1, HB, HBS, HFB, HGG, HGM, HGES, hun, hu2, HML, HRWu, hMm, hrl, hret⟩ := HC
  obtain ⟨hkm, HER, HQR, HSI, HQU, HGK, HQB, HKP⟩ := HT
  conv => arg 2; whnf
  have HE := hid he
  clear he
  have hk2 : (k : Int) < (ml : Int) := by omega
  obtain ⟨rb, roff, rfl, hrb, hrbl, xk⟩ := nat_cell (SlS.keep HRWu.out HKP.out (fun _ _ h => h)) (show k < row.length by rw [HML.out]; exact hkm)
  have htk := take_getD (show k < row.length by rw [HML.out]; exact hkm)
  have hmem := getD_mem (show k < row.length by rw [HML.out]; exact hkm)
  rw [hw1] at xk htk hmem
  obtain ⟨hwn, hadj⟩ := (hMm.out w1).1 hmem
  have hwn2 : (w1 : Int) < (n : Int) := by omega
  have HTK := hid htk
  have HADJ : Hid (ad u w1 = true) := hid hadj
  clear htk hmem hw1 hadj hrb hrbl
  go_wp2_with fail
  clear xk
  have hER := fun y : SubT (Below wr.heap.size) wr.drew => HER.out.below ((Below.refl wr.heap.size wr).drew.trans y.b)
  have z3 := fun y => (hER y).s.look 3 rfl
  have z1 := fun y => (hER y).s.look 1 rfl
  have zu := fun y => (hER y).b.arr_look hun
  have zw := fun y => (hER y).b.arr_look hwn
  have zm := fun y => (hER y).m.arr_look hun
  unfold oI at zm
  have t2 := oZ_eq (m u) w1
  have t1 : ((bs u : Int) == (bs w1 : Int)) = decide (bs u = bs w1) := by rw [Bool.eq_iff_iff]; simp; omega
  rw [decide_eq_false hb] at t1
  rw [decide_eq_false hd] at t2
  obtain ⟨z, hz⟩ : ∃ z, oZ (m u) = z := ⟨_, rfl⟩
  obtain ⟨p1, hp1⟩ : ∃ z, bs u = z := ⟨_, rfl⟩
  obtain ⟨p2, hp2⟩ : ∃ z, bs w1 = z := ⟨_, rfl⟩
  rw [hz] at t2
  rw [hp1, hp2] at t1
  simp only [hz] at zm
  simp only [hp1] at zu
  simp only [hp2] at zw
  clear hER hz hp1 hp2
  refine wp_walkJ (T := Below (wr.heap.size)) (belowV_pre _) (.rd 0 (.rd 1 (.rd 2 (.rd 3 (.rd 4 (.rd 5 (.rd 6 (.rd 7 (.rd 8 (.rd 9 (.rd 10 (.rd 11 (.rd 12 (.rd 13 (.rd 14 (.rd 15 (.rd 16 (.rd 17 (.rd 18 (.rd 19 (.rd 20 (.rd 21 (.rd 22 (.rd 23 (.rd 24 (.rd 25 (.rd 26 (.inv [])))))))))))))))))))))))))))) (by kernel_rfl) rfl (by kernel_rfl) (by kernel_rfl) ?_
  iterate 27 (refine walkJ_rd rfl (fun K hK => ?_); go_simp; refine hK _ ?_; clear hK K)
  refine walkJ_nil ?_
  clear z3 z1 zu zw zm t1 t2
  have hbx := (Below.refl wr.heap.size wr).drew
  have HERX := hid (HER.out.below hbx)
  have HQX := hid (HQR.out.below hbx)
  have HKX := hid (HKP.out.trans (Keep.of_below hbx))
  clear hbx HER HQR HKP
  generalize wr.drew = wx at HERX HQX HKX ⊢
  go_wp2_with fail
  have hER := fun y : SubT (Below wx.heap.size) wx.drew => HERX.out.below ((Below.refl wx.heap.size wx).drew.trans y.b)
  have z2 := fun y => (hER y).s.look 2 rfl
  have z1 := fun y => (hER y).s.look 1 rfl
  have zm := fun y => (hER y).m.arr_look hwn
  have htst := HSI.out.test hM w1
  have he := HE.out
  have HEV := hid (htst.2 (.inl HE.out))
  have t1 : ((w1 : Int) == (root : Int)) = true := by rw [HE.out]; exact beq_self_eq_true _
  clear hER htst he
  unfold oI at zm
  obtain ⟨z, hz⟩ : ∃ z, oZ (m w1) = z := ⟨_, rfl⟩
  simp only [hz] at zm
  clear hz
  refine wp_walkJ (T := Below (wx.heap.size)) (belowV_pre _) (.rd 0 (.rd 1 (.rd 2 (.rd 3 (.rd 4 (.rd 5 (.rd 6 (.rd 7 (.rd 8 (.rd 9 (.rd 10 (.rd 11 (.rd 12 (.rd 13 (.rd 14 (.rd 15 (.rd 16 (.rd 17 (.rd 18 (.rd 19 (.rd 20 (.rd 21 (.rd 22 (.rd 23 (.rd 24 (.rd 25 (.rd 26 (.rd 27 (.rd 28 (.rd 29 (.inv []))))))))))))))))))))))))))))))) (by kernel_rfl) rfl (by kernel_rfl) (by kernel_rfl) ?_
  iterate 30 (refine walkJ_rd rfl (fun K hK => ?_); go_simp; refine hK _ ?_; clear hK K)
  refine walkJ_nil ?_
  clear z2 z1 zm t1
  have hby := (Below.refl wx.heap.size wx).drew
  have HERY := hid (HERX.out.below hby)
  have HQY := hid (HQX.out.below hby)
  have HKY := hid (HKX.out.trans (Keep.of_below hby))
  clear hby HERX HQX HKX
  generalize wx.drew = wc at HERY HQY HKY ⊢
  have HQL : Hid (q.length ≤ 1000) := hid (by have := HQB.out; omega)
  have SHX := hid (shrink_any G hM HSI.out (by omega) HQU.out.ue HEV.out HADJ.out HQL.out _ HERY.out HQY.out HBS.out HFB.out)
  go_wp2_with fail
  refine SHX.out.mono ?_
  rintro r9 w9 ⟨rfl, hsh⟩
  have HSH := hid hsh
  clear hsh SHX HERY HQY
  obtain ⟨⟨f', bs', ev', qv', q', i1, i2, i3, i4, i5, i6, i7, i8, i9, i10, i11, i12⟩, i13⟩ := HSH.out
  have HER9 := hid i1
  have HQ9 := hid i2
  have HSI9 := hid i3
  have HK9 := hid (HKY.out.trans i13)
  have HQU9 := hid (show QU (fun i j => ad i j = true) f' bs' ev' P q' u (row.take (k + 1)) by
    rw [HTK.out]
    exact HQU.out.ext i4 i5 i6 i7 (fun x hx => (i8 x hx).elim (fun h => i4 x (HQU.out.qe x h)) id) i9 ⟨fun _ => i10.symm, fun h => by rw [i4 w1 HEV.out] at h; cases h⟩)
  have HG9 : Hid (2 * (n - cntB ev' n) + q'.length + 1 ≤ gk) := hid (by
    have c1 := cntB_le ev n
    have c2 := cntB_le ev' n
    have := HGK.out
    omega)
  have HB9 : Hid (2 * (n - cntB ev' n) + q'.length ≤ 2 * n + 1) := hid (by
    have c1 := cntB_le ev n
    have c2 := cntB_le ev' n
    have := HQB.out
    omega)
  clear i1 i2 i3 i4 i5 i6 i7 i8 i9 i10 i11 i12 i13 HSH HKY
  go_wp2
  refine ⟨?_, by simp [Wmu, intOf]; omega⟩
  unfold WI
  refine ⟨_, _, _, _, _, _, _, _, _, _, _, _, _, _, _, _, _, _, _, _, _, _, _, _, _, _, _, _, _, _, _, _, _, _, _, _, _, _, _, _, _, _, _, _, _, _, _, _, _, _, _, _, _, _, _, _, _, _, _, _, _, _, _, _, _, _, _, _, _, _, _, _, _, _, _, _, _, _, _, _, _, _, _, _, _, _, _, _, _, _, _, _, _, _, _, _, _, _, _, _, _, _, _, _, _, _, _, _, _, _, _, _, _, _, _, _, _, _, _, _, _, ?_, rfl⟩
  exact ⟨k + 1, f', bs', ev', lev, q', qv', by go_num, by omega, HER9, HQ9, HSI9, HQU9, HG9, HB9, HK9⟩

set_option maxHeartbeats 8000000 in
set_option maxRecDepth 1000000 in
theorem arm_shrink {ad : Nat → Nat → Bool} {n : Nat} {m : Mt} {root gs gg gm gf gb ge B gw gk ml u : Nat} {row : List Nat} {P : Nat → Prop} {w : World} {ra : Option Addr} {rc : Nat} {c2 c3 c5 c6 c8 c10 c11 c12 c13 c14 c15 c16 c17 c18 c19 c20 c21 c22 c23 c24 c25 c26 c27 c28 c29 c30 c31 c32 c33 c34 c35 c36 c37 c38 c39 c40 c41 c42 c43 c44 c45 c46 c47 c48 c49 c50 c51 c52 c53 c54 c55 c56 c57 c58 c59 c60 c61 c62 c63 c64 c65 c66 c67 c68 c69 c70 c71 c72 c73 c74 c75 c76 c77 c78 c79 c80 c81 c82 c83 c84 c85 c86 u4 u9 u90 u91 u92 u93 u94 u95 u96 u97 u98 u99 u100 u101 u102 u103 u104 u105 u106 u107 u108 u109 u110 u111 u112 u113 u114 u115 u116 u117 u118 u119 u120 u121 u122 u123 u124 u125 u126 u127 u128 u129 u130 u131 u132 u133 u134 u135 u136 u137 u138 u139 u140 u141 u142 u143 u144 u145 u146 u147 u148 u149 u150 u151 u152 u153 u154 u155 u156 u157 u158 u159 u160 u161 u162 u163 u164 u165 u166 u167 u168 u169 u170 u171 u172 u173 u174 u175 u176 u177 u178 u179 u180 u181 u182 u183 u184 u185 u186 u187 u188 u189 u190 u191 u192 u193 u194 u195 u196 u197 u198 u199 u200 u201 u202 u203 u204 u205 u206 u207 : Value} {Q0 : Exit → Act → World → Prop}
    (HC : InC ad n m root gs gg gm gf gb ge B gw ml u row w ra rc Q0)
    {wr : World} {k : Nat} {f : Mt} {bs : Nat → Nat} {ev : Nat → Bool} {lev : Nat → Nat} {q : List Nat} {qv : Value} (HT : InT ad n m root gs gg gm gf gb ge B gw gk ml u row P w wr k f bs ev lev q qv)
    {w1 : Nat} (hw1 : row.getD k 0 = w1) (hb : bs u ≠ bs w1) (hd : m u ≠ some w1) (he : w1 ≠ root) {x : Nat} (hmw : m w1 = some x) (hev : ev w1 = true) :
    Code.wp Try.prog inBody (Exit.then (fun a' w'' => WI ad n m root gs gg gm gf gb ge B gw gk ml u row P w ra rc c2 c3 c5 c6 c8 c10 c11 c12 c13 c14 c15 c16 c17 c18 c19 c20 c21 c22 c23 c24 c25 c26 c27 c28 c29 c30 c31 c32 c33 c34 c35 c36 c37 c38 c39 c40 c41 c42 c43 c44 c45 c46 c47 c48 c49 c50 c51 c52 c53 c54 c55 c56 c57 c58 c59 c60 c61 c62 c63 c64 c65 c66 c67 c68 c69 c70 c71 c72 c73 c74 c75 c76 c77 c78 c79 c80 c81 c82 c83 c84 c85 c86 a' w'' ∧ Wmu ml a' < Wmu ml ⟨#[(.pointer (some ⟨gs, 0, none⟩)), (.int .i64 (root : Int)), c2, c3, u4, c5, c6, (.int .i64 (u : Int)), c8, u9, c10, c11, c12, c13, c14, c15, c16, c17, c18, c19, c20, c21, c22, c23, c24, c25, c26, c27, c28, c29, c30, c31, c32, c33, c34, c35, c36, c37, c38, c39, c40, c41, c42, c43, c44, c45, c46, c47, c48, c49, c50, c51, c52, c53, c54, c55, c56, c57, c58, c59, c60, c61, c62, c63, c64, c65, c66, c67, c68, c69, c70, c71, c72, c73, c74, c75, c76, c77, c78, c79, c80, c81, c82, c83, c84, c85, c86, (.slice ra ml rc), (.int .i64 (ml : Int)), (.int .i64 (k : Int)), u90, u91, u92, u93, u94, u95, u96, u97, u98, u99, u100, u101, u102, u103, u104, u105, u106, u107, u108, u109, u110, u111, u112, u113, u114, u115, u116, u117, u118, u119, u120, u121, u122, u123, u124, u125, u126, u127, u128, u129, u130, u131, u132, u133, u134, u135, u136, u137, u138, u139, u140, u141, u142, u143, u144, u145, u146, u147, u148, u149, u150, u151, u152, u153, u154, u155, u156, u157, u158, u159, u160, u161, u162, u163, u164, u165, u166, u167, u168, u169, u170, u171, u172, u173, u174, u175, u176, u177, u178, u179, u180, u181, u182, u183, u184, u185, u186, u187, u188, u189, u190, u191, u192, u193, u194, u195, u196, u197, u198, u199, u200, u201, u202, u203, u204, u205, u206, u207], []⟩) Q0) ⟨#[(.pointer (some ⟨gs, 0, none⟩)), (.int .i64 (root : Int)), c2, c3, u4, c5, c6, (.int .i64 (u : Int)), c8, u9, c10, c11, c12, c13, c14, c15, c16, c17, c18, c19, c20, c21, c22, c23, c24, c25, c26, c27, c28, c29, c30, c31, c32, c33, c34, c35, c36, c37, c38, c39, c40, c41, c42, c43, c44, c45, c46, c47, c48, c49, c50, c51, c52, c53, c54, c55, c56, c57, c58, c59, c60, c61, c62, c63, c64, c65, c66, c67, c68, c69, c70, c71, c72, c73, c74, c75, c76, c77, c78, c79, c80, c81, c82, c83, c84, c85, c86, (.slice ra ml rc), (.int .i64 (ml : Int)), (.int .i64 (k : Int)), u90, u91, u92, u93, u94, u95, u96, u97, u98, u99, u100, u101, u102, u103, u104, u105, u106, u107, u108, u109, u110, u111, u112, u113, u114, u115, u116, u117, u118, u119, u120, u121, u122, u123, u124, u125, u126, u127, u128, u129, u130, u131, u132, u133, u134, u135, u136, u137, u138, u139, u140, u141, u142, u143, u144, u145, u146, u147, u148, u149, u150, u151, u152, u153, u154, u155, u156, u157, u158, u159, u160, u161, u162, u163, u164, u165, u166, u167, u168, u169, u170, u171, u172, u173, u174, u175, u176, u177, u178, u179, u180, u181, u182, u183, u184, u185, u186, u187, u188, u189, u190, u191, u192, u193, u194, u195, u196, u197, u198, u199, u200, u201, u202, u203, u204, u205, u206, u207], []⟩ wr := by
  obtain ⟨G, hM, hn1, HB, HBS, HFB, HGG, HGM, HGES, hun, hu2, HML, HRWu, hMm, hrl, hret⟩ := HC
  obtain ⟨hkm, HER, HQR, HSI, HQU, HGK, HQB, HKP⟩ := HT
  conv => arg 2; whnf
  have hk2 : (k : Int) < (ml : Int) := by omega
  obtain ⟨rb, roff, rfl, hrb, hrbl, xk⟩ := nat_cell (SlS.keep HRWu.out HKP.out (fun _ _ h => h)) (show k < row.length by rw [HML.out]; exact hkm)
  have htk := take_getD (show k < row.length by rw [HML.out]; exact hkm)
  have hmem := getD_mem (show k < row.length by rw [HML.out]; exact hkm)
  rw [hw1] at xk htk hmem
  obtain ⟨hwn, hadj⟩ := (hMm.out w1).1 hmem
  have hwn2 : (w1 : Int) < (n : Int) := by omega
  have HTK := hid htk
  have HADJ : Hid (ad u w1 = true) := hid hadj
  clear htk hmem hw1 hadj hrb hrbl
  go_wp2_with fail
  clear xk
  have hER := fun y : SubT (Below wr.heap.size) wr.drew => HER.out.below ((Below.refl wr.heap.size wr).drew.trans y.b)
  have z3 := fun y => (hER y).s.look 3 rfl
  have z1 := fun y => (hER y).s.look 1 rfl
  have zu := fun y => (hER y).b.arr_look hun
  have zw := fun y => (hER y).b.arr_look hwn
  have zm := fun y => (hER y).m.arr_look hun
  unfold oI at zm
  have t2 := oZ_eq (m u) w1
  have t1 : ((bs u : Int) == (bs w1 : Int)) = decide (bs u = bs w1) := by rw [Bool.eq_iff_iff]; simp; omega
  rw [decide_eq_false hb] at t1
  rw [decide_eq_false hd] at t2
  obtain ⟨z, hz⟩ : ∃ z, oZ (m u) = z := ⟨_, rfl⟩
  obtain ⟨p1, hp1⟩ : ∃ z, bs u = z := ⟨_, rfl⟩
  obtain ⟨p2, hp2⟩ : ∃ z, bs w1 = z := ⟨_, rfl⟩
  rw [hz] at t2
  rw [hp1, hp2] at t1
  simp only [hz] at zm
  simp only [hp1] at zu
  simp only [hp2] at zw
  clear hER hz hp1 hp2
  refine wp_walkJ (T := Below (wr.heap.size)) (belowV_pre _) (.rd 0 (.rd 1 (.rd 2 (.rd 3 (.rd 4 (.rd 5 (.rd 6 (.rd 7 (.rd 8 (.rd 9 (.rd 10 (.rd 11 (.rd 12 (.rd 13 (.rd 14 (.rd 15 (.rd 16 (.rd 17 (.rd 18 (.rd 19 (.rd 20 (.rd 21 (.rd 22 (.rd 23 (.rd 24 (.rd 25 (.rd 26 (.inv [])))))))))))))))))))))))))))) (by kernel_rfl) rfl (by kernel_rfl) (by kernel_rfl) ?_
  iterate 27 (refine walkJ_rd rfl (fun K hK => ?_); go_simp; refine hK _ ?_; clear hK K)
  refine walkJ_nil ?_
  clear z3 z1 zu zw zm t1 t2
  have hbx := (Below.refl wr.heap.size wr).drew
  have HERX := hid (HER.out.below hbx)
  have HQX := hid (HQR.out.below hbx)
  have HKX := hid (HKP.out.trans (Keep.of_below hbx))
  clear hbx HER HQR HKP
  generalize wr.drew = wx at HERX HQX HKX ⊢
  go_wp2_with fail
  have hER := fun y : SubT (Below wx.heap.size) wx.drew => HERX.out.below ((Below.refl wx.heap.size wx).drew.trans y.b)
  have z2 := fun y => (hER y).s.look 2 rfl
  have z1 := fun y => (hER y).s.look 1 rfl
  have zm := fun y => (hER y).m.arr_look hwn
  have htst := HSI.out.test hM w1
  have HEV := hid hev
  have HMW := hid hmw
  have t1 : ((w1 : Int) == (root : Int)) = false := by rw [beq_eq_false_iff_ne]; omega
  have hxn : x < n := (G.lt _ _ (hM.adj _ _ hmw)).2
  have hx0 : (0 : Int) ≤ (x : Int) := Int.natCast_nonneg _
  have hx2 : (x : Int) < (n : Int) := by omega
  have zf := fun y => (hER y).f.arr_look hxn
  simp only [hmw] at zm
  have htst2 : ev w1 = true ↔ f x ≠ none := by
    rw [htst]
    constructor
    · rintro (h | ⟨x', h, h2⟩)
      · exact absurd h he
      · rw [hmw] at h; cases h; exact h2
    · exact fun h => .inr ⟨x, hmw, h⟩
  have t3 : decide ((0 : Int) ≤ oZ (f x)) = ev w1 := by
    cases hfx : f x with
    | none =>
      cases e : ev w1 with
      | false => rfl
      | true => exact absurd hfx (htst2.1 e)
    | some y8 => rw [htst2.2 (by rw [hfx]; simp)]; unfold oZ; simp
  rw [hev] at t3
  unfold oI at zf
  obtain ⟨z, hz⟩ : ∃ z, oZ (f x) = z := ⟨_, rfl⟩
  rw [hz] at t3
  simp only [hz] at zf
  unfold oI oZ at zm
  clear htst htst2 he hmw hev hER hz
  refine wp_walkJ (T := Below (wx.heap.size)) (belowV_pre _) (.rd 0 (.rd 1 (.rd 2 (.rd 3 (.rd 4 (.rd 5 (.rd 6 (.rd 7 (.rd 8 (.rd 9 (.rd 10 (.rd 11 (.rd 12 (.rd 13 (.rd 14 (.rd 15 (.rd 16 (.rd 17 (.rd 18 (.rd 19 (.rd 20 (.rd 21 (.rd 22 (.rd 23 (.rd 24 (.rd 25 (.rd 26 (.rd 27 (.rd 28 (.rd 29 (.inv []))))))))))))))))))))))))))))))) (by kernel_rfl) rfl (by kernel_rfl) (by kernel_rfl) ?_
  iterate 30 (refine walkJ_rd rfl (fun K hK => ?_); go_simp; refine hK _ ?_; clear hK K)
  refine walkJ_nil ?_
  clear z2 z1 zm t1 zf t3
  have hby := (Below.refl wx.heap.size wx).drew
  have HERY := hid (HERX.out.below hby)
  have HQY := hid (HQX.out.below hby)
  have HKY := hid (HKX.out.trans (Keep.of_below hby))
  clear hby HERX HQX HKX
  generalize wx.drew = wc at HERY HQY HKY ⊢
  have HQL : Hid (q.length ≤ 1000) := hid (by have := HQB.out; omega)
  have SHX := hid (shrink_any G hM HSI.out (by omega) HQU.out.ue HEV.out HADJ.out HQL.out _ HERY.out HQY.out HBS.out HFB.out)
  go_wp2_with fail
  refine SHX.out.mono ?_
  rintro r9 w9 ⟨rfl, hsh⟩
  have HSH := hid hsh
  clear hsh SHX HERY HQY
  obtain ⟨⟨f', bs', ev', qv', q', i1, i2, i3, i4, i5, i6, i7, i8, i9, i10, i11, i12⟩, i13⟩ := HSH.out
  have HER9 := hid i1
  have HQ9 := hid i2
  have HSI9 := hid i3
  have HK9 := hid (HKY.out.trans i13)
  have HQU9 := hid (show QU (fun i j => ad i j = true) f' bs' ev' P q' u (row.take (k + 1)) by
    rw [HTK.out]
    exact HQU.out.ext i4 i5 i6 i7 (fun x hx => (i8 x hx).elim (fun h => i4 x (HQU.out.qe x h)) id) i9 ⟨fun _ => i10.symm, fun h => by rw [i4 w1 HEV.out] at h; cases h⟩)
  have HG9 : Hid (2 * (n - cntB ev' n) + q'.length + 1 ≤ gk) := hid (by
    have c1 := cntB_le ev n
    have c2 := cntB_le ev' n
    have := HGK.out
    omega)
  have HB9 : Hid (2 * (n - cntB ev' n) + q'.length ≤ 2 * n + 1) := hid (by
    have c1 := cntB_le ev n
    have c2 := cntB_le ev' n
    have := HQB.out
    omega)
  clear i1 i2 i3 i4 i5 i6 i7 i8 i9 i10 i11 i12 i13 HSH HKY
  go_wp2
  refine ⟨?_, by simp [Wmu, intOf]; omega⟩
  unfold WI
  refine ⟨_, _, _, _, _, _, _, _, _, _, _, _, _, _, _, _, _, _, _, _, _, _, _, _, _, _, _, _, _, _, _, _, _, _, _, _, _, _, _, _, _, _, _, _, _, _, _, _, _, _, _, _, _, _, _, _, _, _, _, _, _, _, _, _, _, _, _, _, _, _, _, _, _, _, _, _, _, _, _, _, _, _, _, _, _, _, _, _, _, _, _, _, _, _, _, _, _, _, _, _, _, _, _, _, _, _, _, _, _, _, _, _, _, _, _, _, _, _, _, _, _, ?_, rfl⟩
  exact ⟨k + 1, f', bs', ev', lev, q', qv', by go_num, by omega, HER9, HQ9, HSI9, HQU9, HG9, HB9, HK9⟩

end Go.Proofs.Ytcpefolhohakmaa
