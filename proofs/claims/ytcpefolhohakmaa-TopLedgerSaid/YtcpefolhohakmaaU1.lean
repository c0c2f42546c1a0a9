/- Walks of the journal: none, Snapshot, Records, ready, met; an append to its records. -/
import Derived.Test.YtcpefolhohakmaaT9
import Derived.ArgAppend
namespace Go.Proofs.Ytcpefolhohakmaa
open Go.RowKit
attribute [local irreducible] seqS seqST walkV walkJ

section
variable {w : World} {gl gd : Nat} {g at' : Int} {vs vr : Value} {down : Bool}
theorem LgB.cG (h : LgB w gl gd g at' vs vr down) : w.cell? ⟨gl, 0, none⟩ = some (.int .i64 g) := Blk.look h 0 rfl
theorem LgB.cS (h : LgB w gl gd g at' vs vr down) : w.cell? ⟨gl, 1, none⟩ = some vs := Blk.look h 1 rfl
theorem LgB.cR (h : LgB w gl gd g at' vs vr down) : w.cell? ⟨gl, 2, none⟩ = some vr := Blk.look h 2 rfl
theorem LgB.cD (h : LgB w gl gd g at' vs vr down) : w.cell? ⟨gl, 3, none⟩ = some (.pointer (some ⟨gd, 0, none⟩)) := Blk.look h 3 rfl
theorem LgB.cA (h : LgB w gl gd g at' vs vr down) : w.cell? ⟨gl, 4, none⟩ = some (.int .i64 at') := Blk.look h 4 rfl
theorem LgB.cW (h : LgB w gl gd g at' vs vr down) : w.cell? ⟨gl, 5, none⟩ = some (.bool down) := Blk.look h 5 rfl
theorem LgB.below {w' : World} (h : LgB w gl gd g at' vs vr down) (k : Below w.heap.size w w') : LgB w' gl gd g at' vs vr down := Blk.below h k
end

theorem lnone_any (gl gd : Nat) (g at' : Int) (vs vr : Value) (down : Bool) (w : World) (h : LgB w gl gd g at' vs vr down) :
    Calls Try.prog 72 #[.pointer (some ⟨gl, 0, none⟩)] w fun r w' => r = .returned (.bool false) ∧ w = w' := by
  have x3 := h.cD
  clear h
  go_enter Try.func72, Try.ntmps72
  go_wp2
  go_ret
  exact ⟨rfl, rfl⟩

set_option maxHeartbeats 1000000 in
theorem Snapshot_any (gl gd : Nat) (g at' : Int) (vs vr : Value) (down : Bool) (s : Bts) (lo : Nat) (w : World) (h : LgB w gl gd g at' vs vr down) (hs : w.ownsRow lo 5 1 vs s.length (u8V s)) (hl : s.length ≤ 100000000) :
    Calls Try.prog 39 #[.pointer (some ⟨gl, 0, none⟩)] w fun r w' => (∃ v', r = .returned v' ∧ w'.ownsRow w.heap.size 5 1 v' s.length (u8V s)) ∧ Below w.heap.size w w' := by
  have LN := hid (lnone_any gl gd g at' vs vr down w h)
  have CL := hid (CloneB_any s vs w (bs_of_owns hs rfl) hl)
  have x1 := h.cS
  clear h hs
  go_enter Try.func39, Try.ntmps39
  go_wp2_with fail
  refine LN.out.mono ?_
  rintro r w1 ⟨rfl, rfl⟩
  clear LN
  go_wp2_with fail
  refine CL.out.mono ?_
  rintro r w1 ⟨⟨v', rfl, ho⟩, hb⟩
  have HO := hid ho
  have HB := hid hb
  clear CL ho hb x1
  go_wp2
  go_ret
  exact ⟨⟨_, rfl, HO.out⟩, HB.out⟩

set_option maxHeartbeats 2000000 in
set_option maxRecDepth 100000 in
theorem Records_any (gl gd : Nat) (g at' : Int) (vs vr : Value) (down : Bool) (rvs : List Value) (rs : List Bts) (lo : Nat) (w : World) (h : LgB w gl gd g at' vs vr down) (hr : RcR lo w vr rvs) (hp : PaysO lo w rvs rs) (hn : rs.length ≤ 1000000) (hb : ∀ i, i < rs.length → (rs.getD i []).length ≤ 100000000) :
    Calls Try.prog 40 #[.pointer (some ⟨gl, 0, none⟩)] w fun r w' => (∃ v', r = .returned v' ∧ ∃ vs', w'.ownsRow w.heap.size 48 1 v' rs.length vs' ∧ PaysO w.heap.size w' vs' rs) ∧ Below w.heap.size w w' := by
  have LN := hid (lnone_any gl gd g at' vs vr down w h)
  have x2 := h.cR
  have HR := hid hr
  have HP := hid hp
  have HLn := hid hb
  obtain ⟨ar, cr, rfl, hcr, hcm, -⟩ := hr.sl
  unfold maxLen at hcm
  have hpl := hp.1
  obtain ⟨n, hnn⟩ : ∃ n, rs.length = n := ⟨_, rfl⟩
  have HN := hid hnn
  have HRN := hid (hpl.trans hnn)
  rw [hpl, hnn] at hcr x2 HR
  rw [hnn] at hn HLn ⊢
  clear hpl hnn h hr hp hb
  go_enter Try.func40, Try.ntmps40
  go_wp2_with fail
  refine LN.out.mono ?_
  rintro r w1 ⟨rfl, rfl⟩
  clear LN
  go_wp2_with fail
  go_loopw [3, 5, 14] (fun y _ z wr => ∃ i : Nat, z = .int .i64 (i : Int) ∧ i ≤ n ∧ Hid (Below w.heap.size w wr) ∧ ∃ us : List Value, Hid (wr.ownsRow w.heap.size 48 1 y i us) ∧ Hid (PaysO w.heap.size wr us (rs.take i))) (fun _ _ z _ => n - (intOf z).toNat)
  case atStart => exact ⟨0, rfl, Nat.zero_le _, hid (Below.refl _ _), [], hid (World.ownsRow_nil _ _ _ _), hid ⟨rfl, fun i hi => absurd hi (by simp)⟩⟩
  case round =>
    obtain ⟨i, rfl, hi, HB, us, HO, HPS⟩ := hrel
    by_cases hin : i < n
    case neg =>
      obtain rfl : i = n := by omega
      have hin2 : ¬ (i : Int) < (i : Int) := by omega
      have HF : Hid (PaysO w.heap.size wr us rs) := hid (by have := HPS.out; rwa [List.take_of_length_le (by rw [HN.out]; exact Nat.le_refl _)] at this)
      go_wp2
      go_ret
      exact ⟨⟨_, rfl, _, HO.out, HF.out⟩, HB.out⟩
    case pos =>
      have hin2 : (i : Int) < (n : Int) := by omega
      obtain ⟨gx, ox, rfl, hgx, x0⟩ := rc_cell HR.out (show i < rvs.length by rw [HRN.out]; exact hin)
      have hpi := HP.out.2 i (by rw [HN.out]; exact hin)
      have hli := HLn.out i hin
      obtain ⟨ai, ci, hvi, -⟩ := SlR.of_owns hpi
      rw [hvi] at x0 hpi
      have x1 := (HB.out.cell (p := ⟨gx, ox + i, none⟩) hgx).trans x0
      have hpr := bs_of_owns hpi rfl
      have HTK : Hid (rs.take (i + 1) = rs.take i ++ [rs.getD i []]) := hid (by
        rw [List.take_succ_eq_append_getElem (by rw [HN.out]; exact hin), List.getD_eq_getElem?_getD, List.getElem?_eq_getElem (by rw [HN.out]; exact hin)]; rfl)
      obtain ⟨p, hp⟩ : ∃ p, rs.getD i [] = p := ⟨_, rfl⟩
      rw [hp] at HTK x1 hpr hli
      obtain ⟨L, hL⟩ : ∃ L, p.length = L := ⟨_, rfl⟩
      rw [hL] at x1 hpr hli
      have CL := hid (CloneB_any p _ wr (hpr.below HB.out) (by rw [hL]; exact hli))
      have HL := hid hL
      rw [hL] at CL
      clear hvi hpi x0 hpr hp hL
      go_wp2_with fail
      refine CL.out.mono ?_
      rintro r w1 ⟨⟨v1, rfl, ho1⟩, hb1⟩
      obtain ⟨a1, c1, rfl, -⟩ := SlR.of_owns ho1
      have hsz := HB.out.size
      have hs1 : w.heap.size ≤ w1.heap.size := Nat.le_trans hsz hb1.size
      have HB1 := hid (HB.out.trans (hb1.mono hsz))
      have HP1 := hid (HPS.out.below hb1)
      have HO1 := hid (owns_below HO.out hb1)
      have HC1 := hid (owns_low ho1 hsz)
      clear CL hb1 ho1 HPS HO HB hsz x1
      go_wp2_with (at_builtin; refine wpList_appO rfl (.tmp 18) (.tmp 21) _ rfl w.heap.size 48 (.slice none 0 0) 1 24 Try.underlying92 infoBs rfl (by decide) 48 _ _ _ rfl HO1.out [.slice a1 L c1] _ rfl rfl rfl (by simp [Value.oneCell']) (by unfold maxLen; omega) (by omega) hs1 ?_; intro g5 c5 w5 ho5 hb5 hg5 hbg hl5 hor)
      have HB5 := hid (HB1.out.trans hb5)
      have HO5 := hid ho5
      have hk5 : Keep (fun x => Value.ownBlock u3 ≠ some x) w1 w5 := Keep.grown hg5 (fun x hx h => h hx)
      have HP5 : Hid (PaysO w.heap.size w5 (us ++ [.slice a1 L c1]) (rs.take (i + 1))) := hid (by
        rw [HTK.out]
        have h9 := hk5.owns HC1.out (fun x hx e => owns_ne2 HO1.out HC1.out (by decide) x e hx)
        rw [← HL.out] at h9 ⊢
        exact PaysO.snoc (HP1.out.keep hk5 (fun i hi x hx e => owns_ne2 HO1.out (HP1.out.2 i hi) (by decide) x e hx)) h9)
      clear HB1 HO1 HP1 HC1 hg5 hbg hl5 hor hk5 ho5 hb5 hs1
      go_wp2_with fail
      go_roundw
      case rel => exact ⟨i + 1, by go_num, by omega, HB5, _, HO5, HP5⟩
      case measure => simp [intOf]; omega

theorem ready_any (gl gd : Nat) (g at' : Int) (vs vr : Value) (p : Bts) (vp : Value) (w : World) (h : LgB w gl gd g at' vs vr false) (hp : BsR w vp p) (hl : p.length ≤ 65536) :
    Calls Try.prog 53 #[.pointer (some ⟨gl, 0, none⟩), vp] w fun r w' => r = .returned (.int .i64 0) ∧ w = w' := by
  have LN := hid (lnone_any gl gd g at' vs vr false w h)
  have x5 := h.cW
  obtain ⟨ap, cp, rfl, hcp, hmp, -⟩ := hp
  unfold maxLen at hmp
  obtain ⟨n, hn⟩ : ∃ n, p.length = n := ⟨_, rfl⟩
  rw [hn] at hl hcp ⊢
  have hl2 : ¬ (65536 : Int) < (n : Int) := by omega
  clear h hn
  go_enter Try.func53, Try.ntmps53
  go_wp2_with fail
  refine LN.out.mono ?_
  rintro r w1 ⟨rfl, rfl⟩
  clear LN
  go_wp2
  go_ret
  exact ⟨rfl, rfl⟩

set_option maxHeartbeats 1000000 in
theorem met_any (gl gd : Nat) (g at' : Int) (vs vr : Value) (e : Int) (w : World) (h : LgB w gl gd g at' vs vr false) :
    Calls Try.prog 56 #[.pointer (some ⟨gl, 0, none⟩), .int .i64 e] w fun r w' => r = .returned (.int .i64 e) ∧ LgB w' gl gd g at' vs vr (e == 14) ∧ Keep (· ≠ gl) w w' := by
  have x5 := h.cW
  have f5 := Blk.frozen h 5
  have l5 := Blk.lt h
  have hk := Keep.set (S := (· ≠ gl)) w (p := ⟨gl, 5, none⟩) (fun h => h rfl) (.bool (e == 14))
  have hr : LgB (w.setCell ⟨gl, 5, none⟩ (.bool (e == 14))) gl gd g at' vs vr (e == 14) := Blk.set h 5 (.bool (e == 14))
  obtain ⟨b, hb⟩ : ∃ b, (e == 14) = b := ⟨_, rfl⟩
  rw [hb] at hk hr
  have HR := hid hr
  have HK := hid hk
  have HBb := hid hb
  clear h hk hr
  go_enter Try.func56, Try.ntmps56
  go_wp2
  go_ret
  rw [HBb.out]
  exact ⟨rfl, HR.out, HK.out⟩

theorem grown_wk {w w' : World} (h : w.grownBy w' none) (g : Nat) : w.grownBy w' (some g) := ⟨h.os, h.tape, h.output, h.size, fun k hk _ => h.block k hk (fun e => by cases e)⟩
/-- One record more. -/
theorem RcR.app {lo : Nat} {w : World} {v : Value} {vs : List Value} (h : RcR lo w v vs) {H : Nat} {x : Value} (hn : Blk w H #[x] 48) (hx : x.oneCell' = true) (hlo : lo ≤ w.heap.size) (hl : vs.length ≤ 1000000) (ty : TypeId) :
    ∃ v' w', (Builtin.append_ #[92, 92] ty #[v, .slice (some ⟨H, 0, none⟩) 1 1]).run Try.prog w = .ok v' w' ∧ RcR lo w' v' (vs ++ [x]) ∧ w.grownBy w' v.ownBlock ∧ (v'.ownBlock = v.ownBlock ∨ ∃ g', v'.ownBlock = some g' ∧ w.heap.size ≤ g') := by
  obtain ⟨i, hi0, hz, hsize, hby⟩ := info_parts infoBs
  have hnews : ∀ j u, [x][j]? = some u → w.cell? ((⟨H, 0, none⟩ : Addr).add j) = some u := cells_news (news := [x]) hn
  rcases h with ⟨rfl, rfl⟩ | ⟨gq, off, cap, cur, rfl, h2, h3, h4, h5, h6, h7⟩
  · obtain ⟨v', w', hr, ho, hg, hb, h5⟩ := run_append_own_at (P := Try.prog) w lo 92 ty 48 i (.slice none 0 0) 1 24 Try.underlying92 hi0 hz hsize hby rfl (by decide) (.slice none 0 0) 0 [] (World.ownsRow_nil _ _ _ _) ⟨H, 0, none⟩ 1 1 [x] rfl hnews (by simpa using hx) (by unfold maxLen; omega) (by omega) hlo
    refine ⟨v', w', hr, ?_, hg, ?_⟩
    · obtain ⟨a1, ⟨_, h0⟩ | ⟨g, c, cur', rfl, b1, b2, b3, b4, b5, b6⟩⟩ := ho
      · omega
      · refine .inr ⟨g, 0, c, cur', rfl, b1, b2, by omega, b3, b4, fun j u hu => ?_⟩
        rw [Nat.zero_add, ← Array.getElem?_toList]
        rw [← b6, List.getElem?_take] at hu
        split at hu
        · exact hu
        · cases hu
    · exact h5.imp id (fun e => ⟨_, e, Nat.le_refl _⟩)
  · by_cases hroom : vs.length + 1 ≤ cap
    · have hr := run_append_room_cells (P := Try.prog) w 92 ty 48 i Try.underlying92 hi0 gq off vs.length cap ⟨H, 0, none⟩ 1 1 [x] (by rw [hsize]; rfl) hnews (by intro u hu; rw [List.mem_singleton.1 hu]; exact hx) hroom
        (fun j hj => by
          have hj0 : j = 0 := by simp at hj; omega
          subst hj0
          rw [hsize, Nat.mul_one, Nat.add_zero, h3.cell, Array.getElem?_eq_getElem (by omega)]; rfl)
        (fun j hj => h3.frozen _)
      rw [hsize, Nat.mul_one] at hr
      have hset : w.setCells gq (off + vs.length) [x] = w.setCell ⟨gq, off + vs.length, none⟩ x := rfl
      rw [hset] at hr
      refine ⟨_, _, hr, .inr ⟨gq, off, cap, _, by rw [List.length_append]; rfl, h2, h3.set (off + vs.length) x, by rw [Array.size_setIfInBounds]; exact h4, by rw [List.length_append]; exact hroom, h6, fun j u hu => ?_⟩, ?_, .inl rfl⟩
      · rw [Array.getElem?_setIfInBounds]
        by_cases hj : j < vs.length
        · rw [if_neg (by omega)]
          rw [List.getElem?_append_left hj] at hu
          exact h7 j u hu
        · have hj2 : j = vs.length := by
            have := (List.getElem?_eq_some_iff.1 hu).1
            rw [List.length_append] at this
            simp at this; omega
          subst hj2
          rw [if_pos rfl, if_pos (by omega)]
          rw [List.getElem?_append_right (Nat.le_refl _), Nat.sub_self] at hu
          simpa using hu
      · exact ⟨rfl, rfl, rfl, by simp [World.setCell], fun k _ hk => Below.heap_setCell w _ _ k (fun e => hk (by rw [e]; rfl))⟩
    · obtain ⟨v', w', hr, ho, hg⟩ := run_append_arg_grows (P := Try.prog) w 92 ty 48 i (.slice none 0 0) 1 24 Try.underlying92 hi0 hz hsize hby rfl (by decide) ⟨gq, off, none⟩ vs.length cap vs (by rw [Nat.mul_one])
        (fun j u hu => by rw [Addr.add_lit]; exact (h3.cell _).trans (h7 j u hu)) ⟨H, 0, none⟩ 1 1 [x] rfl hnews (by omega) (by unfold maxLen; omega) (by omega)
      refine ⟨v', w', hr, ?_, grown_wk hg gq, ?_⟩
      · obtain ⟨a1, ⟨_, h0⟩ | ⟨g, c, cur', rfl, b1, b2, b3, b4, b5, b6⟩⟩ := ho
        · omega
        · refine .inr ⟨g, 0, c, cur', by rw [List.length_append]; rfl, Nat.le_trans hlo b1, b2, by omega, by rw [List.length_append]; exact b3, b4, fun j u hu => ?_⟩
          rw [Nat.zero_add, ← Array.getElem?_toList]
          rw [← b6, List.getElem?_take] at hu
          split at hu
          · exact hu
          · cases hu
      · obtain ⟨a1, ⟨_, h0⟩ | ⟨g, c, cur', rfl, b1, -⟩⟩ := ho
        · omega
        · exact .inr ⟨g, rfl, b1⟩

end Go.Proofs.Ytcpefolhohakmaa
