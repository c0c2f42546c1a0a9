/- The search object; walks of lca and mark. -/
import Derived.Test.YtcpefolhohakmaaH7
import Derived.Test.YtcpefolhohakmaaM5
import Derived.Deep.LoopGhost
namespace Go.Proofs.Ytcpefolhohakmaa
open Go.RowKit
attribute [local irreducible] seqS seqST walkV walkJ

/-- An index, or -1. -/
def oZ : Option Nat → Int
  | none => -1
  | some j => (j : Int)
def oI (o : Option Nat) : Value := .int .i64 (oZ o)
abbrev slV (g n : Nat) : Value := .slice (some ⟨g, 0, none⟩) n n
/-- The search object. -/
structure SeR (w : World) (gs gg gm gf gb ge : Nat) (gv qv : Value) (n : Nat) (m f : Mt) (bs : Nat → Nat) (ev : Nat → Bool) : Prop where
  s : Blk w gs #[.pointer (some ⟨gg, 0, none⟩), slV gm n, slV gf n, slV gb n, slV ge n, qv] 133
  g : Blk w gg #[.int .i64 (n : Int), gv] 78
  m : Blk w gm (arr n fun i => oI (m i)) 3
  f : Blk w gf (arr n fun i => oI (f i)) 3
  b : Blk w gb (arr n fun i => .int .i64 (bs i : Int)) 3
  e : Blk w ge (arr n fun i => .bool (ev i)) 4
theorem SeR.keep {S : Nat → Prop} {w w' : World} {gs gg gm gf gb ge : Nat} {gv qv : Value} {n : Nat} {m f : Mt} {bs : Nat → Nat} {ev : Nat → Bool} (h : SeR w gs gg gm gf gb ge gv qv n m f bs ev) (k : Keep S w w')
    (hs : S gs) (hg : S gg) (hm : S gm) (hf : S gf) (hb : S gb) (he : S ge) : SeR w' gs gg gm gf gb ge gv qv n m f bs ev :=
  ⟨k.blk h.s hs, k.blk h.g hg, k.blk h.m hm, k.blk h.f hf, k.blk h.b hb, k.blk h.e he⟩
theorem SeR.below {w w' : World} {gs gg gm gf gb ge : Nat} {gv qv : Value} {n : Nat} {m f : Mt} {bs : Nat → Nat} {ev : Nat → Bool} (h : SeR w gs gg gm gf gb ge gv qv n m f bs ev) (k : Below w.heap.size w w') : SeR w' gs gg gm gf gb ge gv qv n m f bs ev :=
  ⟨h.s.below k, h.g.below k, h.m.below k, h.f.below k, h.b.below k, h.e.below k⟩
theorem SeR.other {w : World} {gs gg gm gf gb ge : Nat} {gv qv : Value} {n : Nat} {m f : Mt} {bs : Nat → Nat} {ev : Nat → Bool} (h : SeR w gs gg gm gf gb ge gv qv n m f bs ev) {p : Addr}
    (hs : gs ≠ p.block) (hg : gg ≠ p.block) (hm : gm ≠ p.block) (hf : gf ≠ p.block) (hb : gb ≠ p.block) (he : ge ≠ p.block) (u : Value) : SeR (w.setCell p u) gs gg gm gf gb ge gv qv n m f bs ev :=
  ⟨h.s.other hs u, h.g.other hg u, h.m.other hm u, h.f.other hf u, h.b.other hb u, h.e.other he u⟩
theorem infoBool : (Try.prog.info? 4).map (fun i => (i.zero, i.size, i.bytes)) = some (some (.bool false), 1, 1) := by kernel_rfl

set_option maxHeartbeats 4000000 in
set_option maxRecDepth 100000 in
theorem lca_any {adj : Nat → Nat → Prop} {r : Nat} {lev : Nat → Nat} {gs gg gm gf gb ge : Nat} {gv qv : Value} {n : Nat} {m f : Mt} {bs : Nat → Nat} {ev : Nat → Bool} (hS : SI n adj m r f bs ev lev) (hn : n ≤ 1000) (hM : ∀ i j, m i = some j → j < n)
    {a b c : Nat} (ha : ev a = true) (hb : ev b = true) {L K1 K2 : List Nat} (hL : Bp m f bs r (bs a) L) (hK : Bp m f bs r (bs b) (K1 ++ c :: K2)) (hc : c ∈ L) (hd : ∀ x ∈ K1, x ∉ L) (w : World) (h : SeR w gs gg gm gf gb ge gv qv n m f bs ev) :
    Calls Try.prog 97 #[.pointer (some ⟨gs, 0, none⟩), .int .i64 (a : Int), .int .i64 (b : Int)] w fun e w' => e = .returned (.int .i64 (c : Int)) ∧ Below w.heap.size w w' := by
  have s0 := h.s.look 0 rfl
  have s1 := h.g.look 0 rfl
  have HE := hid h
  have HL := hid hL
  have HK := hid hK
  have HC := hid hc
  have HD := hid hd
  have HM := hid hM
  clear hL hK hc hd hM h
  go_enter Try.func97, Try.ntmps97
  go_wp2_with (at_make; refine wpList_mka rfl _ _ 80 rfl 4 (.bool false) 1 Try.underlying80 infoBool rfl _ _ n rfl rfl (by omega) (by omega) ?_; intro w3 kw3 hb3 hz3; clear hz3 s0 s1)
  have HE3 := HE.out.below hb3
  obtain ⟨gq, hgq⟩ : ∃ g, w.heap.size = g := ⟨_, rfl⟩
  rw [hgq] at kw3 ⊢
  have HGQ := hid hgq
  have n1 : gs ≠ gq := by have := HE.out.s.lt; omega
  have n2 : gg ≠ gq := by have := HE.out.g.lt; omega
  have n3 : gm ≠ gq := by have := HE.out.m.lt; omega
  have n4 : gf ≠ gq := by have := HE.out.f.lt; omega
  have n5 : gb ≠ gq := by have := HE.out.b.lt; omega
  have n6 : ge ≠ gq := by have := HE.out.e.lt; omega
  clear hgq
  go_loopg [1] (lev (bs a)) (fun k z wr => ∃ (x : Nat) (Ld Lr : List Nat), z = .int .i64 (x : Int) ∧ Hid (ev x = true) ∧ Hid (Bp m f bs r (bs x) Lr) ∧ Hid (L = Ld ++ Lr) ∧ Hid (lev (bs x) = k) ∧ Hid (Blk wr gq (arr n fun i => .bool (decide (i ∈ Ld))) 4) ∧ Below w.heap.size w wr ∧ Hid (SeR wr gs gg gm gf gb ge gv qv n m f bs ev))
  case atStart => exact ⟨a, [], L, rfl, hid ha, HL, hid rfl, hid rfl, hid (by simpa using kw3), hb3, hid HE3⟩
  case round =>
    obtain ⟨x, Ld, Lr, rfl, HX, HB, HLE, HLV, HQ, hbel, HER⟩ := hrel
    have hxn := hS.lt x HX.out
    obtain ⟨c1, c2⟩ := hS.bev x HX.out
    have hcn := hS.lt _ c1
    have hx2 : (x : Int) < (n : Int) := by omega
    have a3 := HER.out.s.look 3 rfl
    have ab := HER.out.b.arr_look hxn
    have q0 := HQ.out.arr_look hcn
    have qf := HQ.out.frozen (bs x)
    have ql := HQ.out.lt
    have HQ2 := hid (HQ.out.arr_set (bs x) (.bool true))
    have HER2 := hid (HER.out.other (p := ⟨gq, bs x, none⟩) n1 n2 n3 n4 n5 n6 (.bool true))
    have hbel2 := hbel.setCell (p := ⟨gq, bs x, none⟩) (by rw [HGQ.out]; exact Nat.le_refl _) (.bool true)
    have a1 := HER2.out.s.look 1 rfl
    have am := HER2.out.m.arr_look hcn
    have hup := hS.up (bs x) c1 c2
    have hBc := HB.out
    have C1 := hid c1
    have C2 := hid c2
    have HUP := hid hup
    have HBC := hid hBc
    obtain ⟨d, hdd⟩ : ∃ d, bs x = d := ⟨_, rfl⟩
    rw [hdd] at ab q0 qf HQ2 HER2 hbel2 a1 am hcn C1 C2 HUP HBC HLV
    have hdn : (d : Int) < (n : Int) := by omega
    have HDD := hid hdd
    clear hdd hup hBc c1 c2 HB hbel HQ HER
    have heq : arr n (fun j => if j = d then Value.bool true else .bool (decide (j ∈ Ld))) = arr n (fun j => .bool (decide (j ∈ Ld ++ [d]))) := arr_congr fun j _ => by
      by_cases e : j = d
      · subst e; simp
      · simp [e]
    rw [heq] at HQ2
    clear heq
    by_cases hmd : m d = none
    case pos =>
      have hLr : Lr = [d] := by
        cases HBC.out with
        | root => rfl
        | up _ o x L hm _ _ => rw [hmd] at hm; cases hm
      have HLF : Hid (L = Ld ++ [d]) := hid (by rw [HLE.out, hLr])
      have am' : ((wr.setCell ⟨gq, d, none⟩ (.bool true))).cell? ⟨gm, d, none⟩ = some (.int .i64 (-1)) := by rw [am, hmd]; rfl
      clear am hmd hLr HLE HBC HUP
      go_wp2_with fail
      clear a1 am' a3 ab q0 qf ql
      generalize wr.setCell ⟨gq, d, none⟩ (.bool true) = W at HQ2 HER2 hbel2 ⊢
      rw [← HLF.out] at HQ2
      clear HX HLV C2 C1 HDD
      go_loopg [2] (lev (bs b)) (fun k z wr => ∃ (x : Nat) (Kr : List Nat), z = .int .i64 (x : Int) ∧ Hid (ev x = true) ∧ Hid (Bp m f bs r (bs x) (Kr ++ c :: K2)) ∧ Hid (∀ y ∈ Kr, y ∉ L) ∧ Hid (lev (bs x) = k) ∧ Hid (Blk wr gq (arr n fun i => .bool (decide (i ∈ L))) 4) ∧ Below w.heap.size w wr ∧ Hid (SeR wr gs gg gm gf gb ge gv qv n m f bs ev))
      case atStart => exact ⟨b, K1, rfl, hid hb, HK, HD, hid rfl, HQ2, hbel2, HER2⟩
      case round =>
        obtain ⟨x2, Kr, rfl, HX, HB, HKD, HLV, HQ, hbel, HER⟩ := hrel
        have hx2n := hS.lt x2 HX.out
        obtain ⟨c1, c2⟩ := hS.bev x2 HX.out
        have hc2n := hS.lt _ c1
        have hx22 : (x2 : Int) < (n : Int) := by omega
        have a3 := HER.out.s.look 3 rfl
        have ab := HER.out.b.arr_look hx2n
        have q0 := HQ.out.arr_look hc2n
        have a1 := HER.out.s.look 1 rfl
        have am := HER.out.m.arr_look hc2n
        have HUP := hid (hS.up (bs x2) c1 c2)
        have HBC := hid HB.out
        obtain ⟨e, hee⟩ : ∃ e, bs x2 = e := ⟨_, rfl⟩
        rw [hee] at ab q0 am hc2n HUP HBC HLV
        have hen : (e : Int) < (n : Int) := by omega
        clear hee c1 c2 HB
        obtain ⟨L', hhd⟩ := HBC.out.head
        by_cases hin : e ∈ L
        case pos =>
          have hce : c = e := by
            cases Kr with
            | nil => exact (List.cons.inj hhd).1
            | cons y Kr => exact absurd (by rw [(List.cons.inj hhd).1]; exact hin) (HKD.out y (by simp))
          rw [decide_eq_true hin] at q0
          have HCE := hid hce
          clear hce hin hhd HBC HUP
          go_wp2
          go_ret
          exact ⟨ret_int (by rw [HCE.out]), hbel⟩
        case neg =>
          rw [decide_eq_false hin] at q0
          have hKr : ∃ Kr', Kr = e :: Kr' := by
            cases Kr with
            | nil => exact absurd (by rw [← (List.cons.inj hhd).1]; exact HC.out) hin
            | cons y Kr => exact ⟨Kr, by rw [(List.cons.inj hhd).1]⟩
          obtain ⟨Kr', rfl⟩ := hKr
          obtain ⟨o2, x3, HBN, HMO, HFO, HLT, hevx⟩ : ∃ o2 x3, Hid (Bp m f bs r (bs x3) (Kr' ++ c :: K2)) ∧ Hid (m e = some o2) ∧ Hid (f o2 = some x3) ∧ Hid (lev (bs x3) < lev e) ∧ Hid (ev x3 = true) := by
            generalize hgl : e :: Kr' ++ c :: K2 = Lx at HBC
            cases HBC.out with
            | root => simp at hgl
            | up _ o x L'' hm hf h' =>
              have e2 : Kr' ++ c :: K2 = L'' := (List.cons.inj hgl).2
              subst e2
              have hne : e ≠ r := fun h => by rw [h, hS.rx] at hm; cases hm
              obtain ⟨o', x', g1, _, g3, g4⟩ := HUP.out hne
              rw [hm] at g1; cases g1
              rw [hf] at g3; cases g3
              exact ⟨o, x, hid h', hid hm, hid hf, hid g4, hid (hS.ev_of hf)⟩
          have ho2n := HM.out e o2 HMO.out
          have ho22 : (o2 : Int) < (n : Int) := by omega
          rw [HMO.out] at am
          clear hin hhd HUP HBC
          have hER := fun y : SubT (Below wr.heap.size) wr.drew => HER.out.below ((Below.refl wr.heap.size wr).drew.trans y.b)
          have z2 := fun y => (hER y).s.look 2 rfl
          have z1 := fun y => (hER y).s.look 1 rfl
          have zm := fun y => (hER y).m.arr_look hc2n
          have zf := fun y => (hER y).f.arr_look ho2n
          simp only [HMO.out, HFO.out] at zm zf
          unfold oI oZ at zm zf
          clear hER am
          go_wp2_with fail
          refine wp_walkJ (T := Below (wr.heap.size)) (belowV_pre _) (.rd 0 (.rd 1 (.rd 2 (.rd 3 (.rd 4 (.rd 5 (.rd 6 (.rd 7 (.rd 8 (.rd 9 (.rd 10 (.rd 11 (.rd 12 (.rd 13 (.inv []))))))))))))))) (by kernel_rfl) rfl (by kernel_rfl) (by kernel_rfl) ?_
          iterate 14 (refine walkJ_rd rfl (fun K hK => ?_); go_simp; refine hK _ ?_; clear hK K)
          refine walkJ_nil ?_
          have hd0 := (Below.refl wr.heap.size wr).drew
          have hbel3 := hbel.trans (hd0.mono hbel.size)
          have HER3 := hid (HER.out.below hd0)
          have HQ3 := hid (HQ.out.below hd0)
          clear z1 z2 zm zf a1 a3 ab q0 hd0 HER HQ hbel
          go_wp2
          go_roundg (lev (bs x3))
          case measure => rw [← HLV.out]; exact HLT.out
          case rel => exact ⟨x3, Kr', rfl, hevx, HBN, hid (fun y hy => HKD.out y (by simp [hy])), hid rfl, HQ3, hbel3, HER3⟩
    case neg =>
      have hdr : d ≠ r := fun e => hmd (by rw [e]; exact hS.rx)
      obtain ⟨o2, x3, L', HLR, HBN, HMO, HFO, HLT, hevx⟩ : ∃ o2 x3 L', Hid (Lr = d :: L') ∧ Hid (Bp m f bs r (bs x3) L') ∧ Hid (m d = some o2) ∧ Hid (f o2 = some x3) ∧ Hid (lev (bs x3) < lev d) ∧ Hid (ev x3 = true) := by
        cases HBC.out with
        | root => exact absurd rfl hdr
        | up _ o x L'' hm hf h' =>
          obtain ⟨o', x', g1, _, g3, g4⟩ := HUP.out hdr
          rw [hm] at g1; cases g1
          rw [hf] at g3; cases g3
          exact ⟨o, x, L'', hid rfl, hid h', hid hm, hid hf, hid g4, hid (hS.ev_of hf)⟩
      have HLF : Hid (L = (Ld ++ [d]) ++ L') := hid (by rw [HLE.out, HLR.out]; simp)
      have ho2n := HM.out d o2 HMO.out
      have ho22 : (o2 : Int) < (n : Int) := by omega
      have am' : ((wr.setCell ⟨gq, d, none⟩ (.bool true))).cell? ⟨gm, d, none⟩ = some (.int .i64 (o2 : Int)) := by rw [am, HMO.out]; rfl
      clear am hmd hdr HLE HBC HUP HLR
      go_wp2_with fail
      clear a1 am' a3 ab q0 qf ql
      generalize wr.setCell ⟨gq, d, none⟩ (.bool true) = W at HQ2 HER2 hbel2 ⊢
      have hER := fun y : SubT (Below W.heap.size) W.drew => HER2.out.below ((Below.refl W.heap.size W).drew.trans y.b)
      have z2 := fun y => (hER y).s.look 2 rfl
      have z1 := fun y => (hER y).s.look 1 rfl
      have zm := fun y => (hER y).m.arr_look hcn
      have zf := fun y => (hER y).f.arr_look ho2n
      simp only [HMO.out, HFO.out] at zm zf
      unfold oI oZ at zm zf
      clear hER
      refine wp_walkJ (T := Below (W.heap.size)) (belowV_pre _) (.rd 0 (.rd 1 (.rd 2 (.rd 3 (.rd 4 (.rd 5 (.rd 6 (.rd 7 (.rd 8 (.rd 9 (.rd 10 (.rd 11 (.rd 12 (.rd 13 (.inv []))))))))))))))) (by kernel_rfl) rfl (by kernel_rfl) (by kernel_rfl) ?_
      iterate 14 (refine walkJ_rd rfl (fun K hK => ?_); go_simp; refine hK _ ?_; clear hK K)
      refine walkJ_nil ?_
      have hd0 := (Below.refl W.heap.size W).drew
      have hbel3 := hbel2.trans (hd0.mono hbel2.size)
      have HER3 := hid (HER2.out.below hd0)
      have HQ3 := hid (HQ2.out.below hd0)
      clear z1 z2 zm zf hd0 HER2 HQ2 hbel2
      go_wp2
      go_roundg (lev (bs x3))
      case measure => rw [← HLV.out]; exact HLT.out
      case rel => exact ⟨x3, Ld ++ [d], L', rfl, hevx, HBN, HLF, hid rfl, HQ3, hbel3, HER3⟩

end Go.Proofs.Ytcpefolhohakmaa
