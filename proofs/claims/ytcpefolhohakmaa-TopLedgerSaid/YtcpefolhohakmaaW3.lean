/- Walk of loaded. -/
import Derived.Test.YtcpefolhohakmaaW2
import Derived.Test.YtcpefolhohakmaaV8
namespace Go.Proofs.Ytcpefolhohakmaa
open Go.RowKit
attribute [local irreducible] seqS seqST walkV walkJ

theorem flat_step (rs : List Bts) {i : Nat} (h : i < rs.length) : (rs.take (i + 1)).flatten = (rs.take i).flatten ++ rs.getD i [] := by
  rw [List.take_succ_eq_append_getElem h, List.getD_eq_getElem?_getD, List.getElem?_eq_getElem h, List.flatten_append]
  simp only [List.flatten_cons, List.flatten_nil, List.append_nil]; rfl
theorem flat_le (rs : List Bts) (i : Nat) : (rs.take i).flatten.length ≤ rs.flatten.length := by
  conv => rhs; rw [← List.take_append_drop i rs]
  rw [List.flatten_append, List.length_append]; omega
theorem flat_get (rs : List Bts) {i : Nat} (h : i < rs.length) : (rs.getD i []).length ≤ rs.flatten.length := by
  have h1 := flat_le rs (i + 1)
  rw [flat_step rs h, List.length_append] at h1
  omega
theorem LgB.lt {w : World} {gl gd : Nat} {g at' : Int} {vs vr : Value} {down : Bool} (h : LgB w gl gd g at' vs vr down) : gl < w.heap.size := Blk.lt h
theorem row_cell {lo : Nat} {w : World} {e : TypeId} {ao : Option Addr} {n cap : Nat} {vs : List Value} (h : w.ownsRow lo e 1 (.slice ao n cap) n vs) {i : Nat} (hi : i < vs.length) : ∃ g off, ao = some ⟨g, off, none⟩ ∧ g < w.heap.size ∧ w.cell? ⟨g, off + i, none⟩ = some (vs.getD i undef) := by
  obtain ⟨ao', cap', e, -, -, hc⟩ := SlR.of_owns h
  cases e
  obtain ⟨g, off, h1, -, h3, h4⟩ := hc (by intro e; rw [e] at hi; exact absurd hi (Nat.not_lt_zero _))
  exact ⟨g, off, h1, h3, h4 i hi⟩

set_option maxHeartbeats 4000000 in
set_option maxRecDepth 100000 in
theorem loaded_any (gd : Nat) (v : Nat → Value) (d : Dk) (o : Nat → Option Cn) (w : World) (h : DkR w gd v d) (hon : d.off = false) (hfu : d.fused = false) (ho : ∀ n, n < 2 → PO (d.b n) (o n)) (op : Op) (hop : opn d (bst (bst none 0 (o 0)) 1 (o 1)) = op)
    (ps : List (List Tr)) (c : List Int) (hrun : run ps = some c) (htx : txt op.s op.rs = encB ps) (hn : ps.length ≤ 900) (hrl : op.rs.length ≤ 1000000) :
    Calls Try.prog 16 #[.pointer (some ⟨gd, 0, none⟩)] w fun r w' => ∃ gb v' vs vr ch vp pvs, r = .returned (.tuple #[.pointer (some ⟨gb, 0, none⟩), .pointer (some ⟨w.heap.size, 0, none⟩), .bool true]) ∧ DkR w' gd v' op.d ∧ DkG w w' gd v v' ∧ LgB w' w.heap.size gd (op.g : Int) (op.m : Int) vs vr false ∧ BkR w.heap.size w' gb c ch vp pvs ps ∧ ∃ rvs, RcR w.heap.size w' vr rvs ∧ rvs.length = op.rs.length := by
  have OP := hid (Open_any gd v d o w h hon hfu ho op hop)
  have htl : (txt op.s op.rs).length ≤ 97 * 900 := by
    rw [htx]
    refine Nat.le_trans (encB_bound (fun l hl => ?_)) (Nat.mul_le_mul_left 97 hn)
    obtain ⟨i, hi, rfl⟩ := List.getElem_of_mem hl
    obtain ⟨d, -, h, -⟩ := run_take hrun hi
    have h9 := h.1.2.1
    rw [List.getD_eq_getElem?_getD, List.getElem?_eq_getElem hi] at h9
    exact h9
  have htl2 : op.s.length + op.rs.flatten.length ≤ 87300 := by unfold txt at htl; rw [List.length_append] at htl; omega
  have HRUN := hid hrun
  have HTX := hid htx
  have hgd := h.blk.lt
  clear h hon hfu ho hop htl hrun htx
  obtain ⟨od, og, om, s, rs⟩ := op
  simp only at OP HTX htl2 hrl ⊢
  go_enter Try.func16, Try.ntmps16
  go_wp2_with fail
  refine OP.out.mono ?_
  rintro r w1 ⟨rfl, v', vs, vr, hL, hs, rvs, hr, hp, hd, hg⟩
  have SN := hid (Snapshot_any w.heap.size gd _ _ vs vr false s w.heap.size w1 hL hs (by omega))
  have HL := hid hL
  have HD := hid hd
  have HG := hid hg
  have HR := hid hr
  have HPL := hid hp.1
  have HP := hid hp
  have hsz := hg.keep.size
  clear OP hs hL hr hp hd hg
  go_wp2_with fail
  refine SN.out.mono ?_
  rintro r w2 ⟨⟨v2, rfl, ho2⟩, hb2⟩
  have RC := hid (Records_any w.heap.size gd _ _ vs vr false rvs rs w.heap.size w2 (HL.out.below hb2) (HR.out.below hb2) (HP.out.below hb2) (by omega) (fun i hi => by have := flat_get rs hi; omega))
  have HB2 := hid hb2
  have HO2 := hid ho2
  clear SN hb2 ho2
  go_wp2_with fail
  refine RC.out.mono ?_
  rintro r w3 ⟨⟨v3, rfl, us, ho3, hp3⟩, hb3⟩
  have HB3 := hid (HB2.out.trans (hb3.mono HB2.out.size))
  have HO3 := hid (owns_below HO2.out hb3)
  have HU3 := hid ho3
  have HBO3 : Hid (∀ j, j < rs.length → BsO w3 v2 (us.getD j undef) (rs.getD j [])) := hid (fun j hj => sls_of_owns (hp3.2 j hj) (fun b hb e => by
    have h1 := ((hp3.2 j hj).lt b hb).1
    have h2 := (HO2.out.lt b e).2
    omega))
  have HUL := hid hp3.1
  clear RC hb3 ho3 hp3 HB2 HO2
  obtain ⟨n, hnn⟩ : ∃ n, rs.length = n := ⟨_, rfl⟩
  have HN := hid hnn
  rw [hnn] at HU3 HUL HBO3 hrl
  obtain ⟨a3, c3, rfl, hc3, hm3, -⟩ := SlR.of_owns HU3.out
  unfold maxLen at hm3
  clear hnn
  go_wp2_with fail
  go_loopw [7, 9, 27] (fun y _ z wr => ∃ i : Nat, z = .int .i64 (i : Int) ∧ i ≤ n ∧ Hid (Below w1.heap.size w1 wr) ∧ Hid (wr.ownsRow w1.heap.size 5 1 y (s ++ (rs.take i).flatten).length (u8V (s ++ (rs.take i).flatten))) ∧ Hid (wr.ownsRow w2.heap.size 48 1 (.slice a3 n c3) n us) ∧ Hid (∀ j, j < n → BsO wr y (us.getD j undef) (rs.getD j []))) (fun _ _ z _ => n - (intOf z).toNat)
  case atStart => exact ⟨0, rfl, Nat.zero_le _, HB3, hid (by simpa using HO3.out), HU3, HBO3⟩
  case round =>
    obtain ⟨i, rfl, hi, HB, HO, HU, HBO⟩ := hrel
    by_cases hin : i < n
    case neg =>
      obtain rfl : i = n := by omega
      have hin2 : ¬ (i : Int) < (i : Int) := by omega
      have hT : s ++ (rs.take i).flatten = encB ps := by
        rw [List.take_of_length_le (by rw [HN.out]; exact Nat.le_refl _)]; exact HTX.out
      rw [hT] at HO
      have LD := hid (Load_any ps c u7 wr HRUN.out (bs_of_owns HO.out rfl) hn)
      clear hT HBO HU
      go_wp2_with fail
      refine LD.out.mono ?_
      rintro r w5 ⟨⟨gb, ch, vp, pvs, rfl, hbk⟩, hb5⟩
      have hb15 := HB.out.trans (hb5.mono HB.out.size)
      have HD5 := hid (HD.out.below hb15)
      have HG5 := hid (HG.out.trans (DkG.of_below hb15))
      have HL5 := hid (HL.out.below hb15)
      have HR5 := hid (HR.out.below hb15)
      have HBK : Hid (BkR w.heap.size w5 gb c ch vp pvs ps) := hid ⟨hbk.blk, owns_low hbk.posts (Nat.le_trans hsz HB.out.size), ⟨hbk.trs.1, fun j hj => owns_low (hbk.trs.2 j hj) (Nat.le_trans hsz HB.out.size)⟩, Nat.le_trans (Nat.le_trans hsz HB.out.size) hbk.lo⟩
      clear LD hbk hb5 hb15 HB HO
      go_wp2
      refine bodyPost_ret (v := .tuple #[.pointer (some ⟨gb, 0, none⟩), .pointer (some ⟨w.heap.size, 0, none⟩), .bool true]) (by simp [results, Try.results16, go_sem]) rfl ?_
      exact ⟨gb, v', vs, vr, ch, vp, pvs, rfl, HD5.out, HG5.out, HL5.out, HBK.out, rvs, HR5.out, by rw [HPL.out]⟩
    case pos =>
      have hin2 : (i : Int) < (n : Int) := by omega
      obtain ⟨gx, ox, rfl, hgx, x0⟩ := row_cell HU.out (show i < us.length by rw [HUL.out]; exact hin)
      have hbo := HBO.out i hin
      have hst := flat_step rs (show i < rs.length by rw [HN.out]; exact hin)
      have hle := flat_le rs (i + 1)
      obtain ⟨p, hp⟩ : ∃ p, rs.getD i [] = p := ⟨_, rfl⟩
      rw [hp] at hbo hst
      obtain ⟨ai, ci, hvi, -, -, -⟩ := id hbo
      rw [hvi] at x0 hbo
      rw [hst, List.length_append] at hle
      have HBI := hid hbo.bs
      have HST : Hid (s ++ (rs.take (i + 1)).flatten = (s ++ (rs.take i).flatten) ++ p) := hid (by rw [hst, List.append_assoc])
      obtain ⟨T, hT⟩ : ∃ T, s ++ (rs.take i).flatten = T := ⟨_, rfl⟩
      have hTl : T.length + p.length ≤ 87300 := by rw [← hT, List.length_append]; omega
      rw [hT] at HO HST
      clear hp hvi hbo hst hle hT
      go_wp2_with (at_builtin; refine wpList_appV rfl (.tmp 31) (.tmp 32) rfl w1.heap.size rfl HO.out rfl HBI.out (by omega) HB.out.size ?_; intro v5 w5 ho5 hg5)
      rw [← u8V_append] at ho5
      have hk5 : Keep (fun x => Value.ownBlock u7 ≠ some x) wr w5 := Keep.grown hg5.g (fun x hx h => h hx)
      have HB5 := hid (HB.out.trans (hg5.bel HO.out HB.out.size))
      have HO5 : Hid (w5.ownsRow w1.heap.size 5 1 v5 (s ++ (rs.take (i + 1)).flatten).length (u8V (s ++ (rs.take (i + 1)).flatten))) := hid (by rw [HST.out, List.length_append]; exact ho5)
      have HU5 := hid (hk5.owns HU.out (fun x hx e => owns_ne2 HO.out HU.out (by decide) x e hx))
      have HBO5 := hid (fun j hj => (HBO.out j hj).grw hg5)
      clear x0 HBI HB HO HU HBO ho5 hg5 hk5
      go_roundw
      case rel => exact ⟨i + 1, by go_num, by omega, HB5, HO5, HU5, HBO5⟩
      case measure => simp [intOf]; omega

end Go.Proofs.Ytcpefolhohakmaa
