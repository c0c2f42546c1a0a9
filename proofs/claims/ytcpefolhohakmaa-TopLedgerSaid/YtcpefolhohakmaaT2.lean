/- Walks of frames: Clone, frame, Frame; the row's own example. -/
import Derived.Test.YtcpefolhohakmaaT1
namespace Go.Proofs.Ytcpefolhohakmaa
open Go.RowKit
attribute [local irreducible] seqS seqST walkV walkJ

theorem u8V_one (b : Bts) : ∀ u ∈ u8V b, u.oneCell' = true := by
  intro u hu
  obtain ⟨x, _, rfl⟩ := List.mem_map.1 hu
  rfl
theorem appB (w : World) (B : Nat) {g n cap : Nat} {xs : List Value} (hown : w.ownsRow B 5 1 (.slice (some ⟨g, 0, none⟩) n cap) n xs) {v2 : Value} {b : Bts} (hv : BsR w v2 b) (hsmall : n + b.length ≤ 1000000000) (hB : B ≤ w.heap.size) (ty : TypeId) :
    ∃ g' cap' w', (Builtin.append_ #[48, 48] ty #[.slice (some ⟨g, 0, none⟩) n cap, v2]).run Try.prog w = .ok (.slice (some ⟨g', 0, none⟩) (n + b.length) cap') w' ∧
      w'.ownsRow B 5 1 (.slice (some ⟨g', 0, none⟩) (n + b.length) cap') (n + b.length) (xs ++ u8V b) ∧ w.grownBy w' (some g) ∧ (g' = g ∨ w.heap.size ≤ g') := by
  obtain ⟨ao, cp, rfl, -, -, hc⟩ := hv
  cases ao with
  | none =>
    have hb : b = [] := by
      apply Decidable.byContradiction
      intro hne
      obtain ⟨g2, off, h0, _⟩ := hc (by unfold u8V; simpa using hne)
      cases h0
    subst hb
    obtain ⟨i, hi0, -, -, -⟩ := info_parts infoU8
    have hnc : n ≤ cap := by
      obtain ⟨-, ⟨h, -⟩ | ⟨g', cap', cur, hv, -, -, h1, -⟩⟩ := hown
      · cases h
      · cases hv; exact h1
    refine ⟨g, cap, w, ?_, by simpa [u8V] using hown, ⟨rfl, rfl, rfl, Nat.le_refl _, fun _ _ _ => rfl⟩, .inl rfl⟩
    exact run_append_nothing w 48 48 ty 5 i Try.underlying48 hi0 _ n cap hnc _ (Src.ofNil w Try.underlying48 cp)
  | some ad =>
    have hcell : ∀ j u, (u8V b)[j]? = some u → w.cell? (ad.add j) = some u := by
      intro j u hj
      have hjl := (List.getElem?_eq_some_iff.1 hj).1
      obtain ⟨g2, off, h0, _, _, h3⟩ := hc (by intro e; rw [e] at hjl; simp at hjl)
      cases h0
      have := h3 j hjl
      rw [List.getD_eq_getElem?_getD, hj] at this
      simpa [Addr.add_lit] using this
    obtain ⟨g', cap', w', hr, ho, hg, h4, -⟩ := app_at (P := Try.prog) w B 48 ty 5 (.int .u8 0) 1 1 Try.underlying48 infoU8 rfl (by decide) hown ad b.length cp (u8V b) (by rw [u8V_len]; omega) hcell (u8V_one b) (by unfold maxLen; omega) (by omega) hB
    exact ⟨g', cap', w', hr, ho, hg, h4.imp id (fun e => by omega)⟩
theorem wpList_appB {w : World} {ops : Array Oper} {rest : List Oper} {o : Oper} {a : Act} {Q : Exit → Act → World → Prop} (hgd : o.guard = none) (s x : Operand) (ho : o.op = .call { callee := .builtin .append, args := #[s, x], argTypes := #[48, 48] })
    (B : Nat) {g n cap : Nat} {xs : List Value} (hs : a.eval s = .slice (some ⟨g, 0, none⟩) n cap) (hown : w.ownsRow B 5 1 (.slice (some ⟨g, 0, none⟩) n cap) n xs) {v2 : Value} {b : Bts} (hx : a.eval x = v2) (hv : BsR w v2 b) (hsmall : n + b.length ≤ 1000000000) (hB : B ≤ w.heap.size)
    (hk : ∀ g' cap' w', w'.ownsRow B 5 1 (.slice (some ⟨g', 0, none⟩) (n + b.length) cap') (n + b.length) (xs ++ u8V b) → w.grownBy w' (some g) → (g' = g ∨ w.heap.size ≤ g') → wpList Try.prog ops Q rest (a.put o.dst (.slice (some ⟨g', 0, none⟩) (n + b.length) cap')) w') : wpList Try.prog ops Q (o :: rest) a w := by
  refine wpList_plain hgd fun K hK => ?_
  obtain ⟨g', cap', w', hr, h1, h2, h3⟩ := appB w B hown hv hsmall hB o.type
  unfold Oper.wp execOp
  simp only [ho, resolve, invoke, builtin, Sem.run_bind, Sem.run_pure, Result.andThen_ok, List.map_toArray, List.map_cons, List.map_nil, hs, hx, hr]
  exact hK _ _ (hk g' cap' w' h1 h2 h3)
/-- A row of one's own that is not empty lies in a block. -/
theorem owns_some {w : World} {B n : Nat} {e : TypeId} {size : Nat} {v : Value} {xs : List Value} (h : w.ownsRow B e size v n xs) (hn : 0 < n) : ∃ g cap, v = .slice (some ⟨g, 0, none⟩) n cap := by
  obtain ⟨-, ⟨-, h⟩ | ⟨g, cap, cur, h, -⟩⟩ := h
  · omega
  · exact ⟨g, cap, h⟩
@[local go_sem] theorem eql_nilB (a : Option Addr) (n c : Nat) (w : World) : (binOp .eql 48 (.slice a n c) (.slice none 0 0)).run Try.prog w = .ok (.bool a.isNone) w := Lib.run_eql_slice_nil w 48 5 a n c 0 0 Try.underlying48

set_option maxHeartbeats 2000000 in
set_option maxRecDepth 100000 in
theorem CloneB_any (b : Bts) (v : Value) (w : World) (h : BsR w v b) (hb : b.length ≤ 100000000) :
    Calls Try.prog 58 #[v] w fun r w' => (∃ v', r = .returned v' ∧ w'.ownsRow w.heap.size 5 1 v' b.length (u8V b)) ∧ Below w.heap.size w w' := by
  have HV := hid h
  obtain ⟨ao, cap, rfl, hcap, hmax, hc⟩ := h
  unfold maxLen at hmax
  obtain ⟨n, hn⟩ : ∃ n, b.length = n := ⟨_, rfl⟩
  have HN := hid hn
  cases ao with
  | none =>
    have hb0 : b = [] := by
      apply Decidable.byContradiction
      intro hne
      obtain ⟨g2, off, h0, _⟩ := hc (by unfold u8V; simpa using hne)
      cases h0
    subst hb0
    have hn0 : n = 0 := hn.symm
    subst hn0
    clear hc hn hb HV HN
    go_enter Try.func58, Try.ntmps58
    go_wp2
    go_ret
    exact ⟨⟨_, rfl, World.ownsRow_nil _ _ _ _⟩, Below.refl _ _⟩
  | some ad =>
    rw [hn] at HV hb hcap ⊢
    have kE := Blk.new w #[] 5
    have bE := alloc_below w (.cells #[] 5)
    have HO0 := hid (owns_empty (base := w.heap.size) 1 kE (Nat.le_refl _))
    have HVE := hid (HV.out.below bE)
    have hsE : w.heap.size ≤ (w.alloc (.cells #[] 5)).heap.size := by simp
    have HBE := hid bE
    clear hc hn kE bE
    go_enter Try.func58, Try.ntmps58
    go_wp2_with (at_builtin; refine wpList_appB rfl (.tmp 5) (.tmp 6) rfl w.heap.size rfl HO0.out rfl HVE.out (by rw [HN.out]; omega) hsE ?_; intro g5 c5 w5 ho5 hg5 _)
    rw [Nat.zero_add] at ho5
    have hbb := HBE.out.grown hg5 hsE (fun k hk => by cases hk; exact Nat.le_refl _)
    go_ret
    refine ⟨⟨_, rfl, ?_⟩, hbb⟩
    rw [← HN.out]
    exact ho5

/-- Bytes that do not lie in the row that is written. -/
def BsO (w : World) (v vp : Value) (p : Bts) : Prop := SlS (fun g => v.ownBlock ≠ some g) w vp p.length (u8V p)
theorem BsO.bs {w : World} {v vp : Value} {p : Bts} (h : BsO w v vp p) : BsR w vp p := h.sl
theorem BsO.grw {w w' : World} {v v' vp : Value} {p : Bts} (h : BsO w v vp p) (k : GrwO w w' v v') : BsO w' v' vp p := by
  have h1 : SlS (fun g => v.ownBlock ≠ some g ∧ g < w.heap.size) w vp p.length (u8V p) := SlS.mono h (fun b hb h => ⟨h, hb⟩)
  have h2 := SlS.keep (S' := fun g => v.ownBlock ≠ some g) h1 (k.keep (fun g hg h => h hg)) (fun b _ hb => hb.1)
  refine SlS.mono h2 (fun b _ hb => ?_)
  intro e
  rcases k.o with h3 | ⟨g, h3, h4⟩
  · exact hb.1 (by rw [← h3]; exact e)
  · rw [h3] at e
    have := Option.some.inj e
    have := hb.2
    omega
theorem BsO.below {w w' : World} {v vp : Value} {p : Bts} (h : BsO w v vp p) (k : Below w.heap.size w w') : BsO w' v vp p := SlS.keep h (Keep.of_below (S := fun _ => True) k) (fun _ _ _ => trivial)
theorem GrwO.of_some {w w' : World} {g g' n c n' c' : Nat} (h : w.grownBy w' (some g)) (k : g' = g ∨ w.heap.size ≤ g') : GrwO w w' (.slice (some ⟨g, 0, none⟩) n c) (.slice (some ⟨g', 0, none⟩) n' c') :=
  ⟨h, by rcases k with rfl | k; exact .inl rfl; exact .inr ⟨g', rfl, k⟩⟩
theorem GrwO.same {w : World} {g n c n' c' : Nat} : GrwO w w (.slice (some ⟨g, 0, none⟩) n c) (.slice (some ⟨g, 0, none⟩) n' c') := ⟨⟨rfl, rfl, rfl, Nat.le_refl _, fun _ _ _ => rfl⟩, .inl rfl⟩

set_option maxHeartbeats 4000000 in
set_option maxRecDepth 100000 in
theorem frame_any (p l : Bts) (B L : Nat) (v vp : Value) (w : World) (hL : L + p.length + 100 ≤ 90000000) (hB : B ≤ w.heap.size) (h : w.ownsRow B 5 1 v L (u8V l)) (hp : BsO w v vp p) :
    Calls Try.prog 55 #[v, vp] w fun r w' => (∃ v', r = .returned v' ∧ w'.ownsRow B 5 1 v' (L + p.length + 8) (u8V (l ++ frm p)) ∧ GrwO w w' v v') ∧ Below B w w' := by
  have P1 := hid (putNumber_any p.length 4 (by omega) B L l v w (by omega) hB h)
  have CK := hid (fun w h => checksum_any p vp w h)
  have HP := hid hp
  obtain ⟨ap, cp, rfl, hcp, hmp, -⟩ := id hp
  unfold maxLen at hmp
  obtain ⟨n, hn⟩ : ∃ n, p.length = n := ⟨_, rfl⟩
  have HN := hid hn
  have hcl := crc_lt p
  rw [hn] at hL hcp P1 HP CK ⊢
  clear hn h hp
  go_enter Try.func55, Try.ntmps55
  go_wp2_with fail
  refine P1.out.mono ?_
  rintro r w1 ⟨⟨v1, rfl, ho1, hg1⟩, hb1⟩
  have HP1 := hid (HP.out.grw hg1)
  obtain ⟨g1, c1, rfl⟩ := owns_some ho1 (by omega)
  have HO1 := hid ho1
  have HG1 := hid hg1
  have HB1 := hid hb1
  have hs1 := Nat.le_trans hB hb1.size
  clear P1 ho1 hg1 hb1 HP
  go_wp2_with (at_builtin; refine wpList_appB rfl (.tmp 8) (.tmp 9) rfl B rfl HO1.out rfl HP1.out.bs (by rw [HN.out]; omega) hs1 ?_; intro g2 c2 w2 ho2 hg2 hk2; have HP2 := hid (HP1.out.grw (GrwO.of_some (n := L + 4) (c := c1) (n' := L + 4 + n) (c' := c2) hg2 hk2)))
  have hs2 : B ≤ w2.heap.size := Nat.le_trans hs1 hg2.size
  have hgw : GrwO w1 w2 (.slice (some ⟨g1, 0, none⟩) (L + 4) c1) (.slice (some ⟨g2, 0, none⟩) (L + 4 + p.length) c2) := GrwO.of_some hg2 hk2
  have HG2 := hid (HG1.out.trans hgw)
  have hb2 : Below B w1 w2 := (Below.refl B w1).grown hg2 hs1 (fun k hk => by cases hk; exact (HO1.out.lt g1 rfl).1)
  have HB2 := hid (HB1.out.trans hb2)
  rw [← u8V_append] at ho2
  have P2 := hid (putNumber_any (crc p) 4 (by omega) B (L + 4 + p.length) _ _ w2 (by rw [HN.out]; omega) hs2 ho2)
  clear HP1 HO1 HG1 HB1 hg2 hk2 hgw hb2 ho2
  refine (CK.out _ HP2.out.bs).mono ?_
  rintro r w3 ⟨rfl, rfl⟩
  go_wp2_with fail
  refine P2.out.mono ?_
  rintro r w3 ⟨⟨v3, rfl, ho3, hg3⟩, hb3⟩
  have HO3 := hid ho3
  have HG3 := hid (HG2.out.trans hg3)
  have HB3 := hid (HB2.out.trans hb3)
  clear CK HP2 P2 HG2 HB2 hb3 ho3 hg3
  go_wp2
  go_ret
  refine ⟨⟨_, rfl, ?_, HG3.out⟩, HB3.out⟩
  have h9 := HO3.out
  rw [HN.out] at h9
  have e : l ++ putN n 4 ++ p ++ putN (crc p) 4 = l ++ frm p := by unfold frm; rw [HN.out]; simp [List.append_assoc]
  rw [e] at h9
  have e2 : L + 4 + n + 4 = L + n + 8 := by omega
  rw [e2] at h9
  exact h9

theorem BsR.off {w : World} {v vp : Value} {p : Bts} (h : BsR w vp p) (hv : v.ownBlock = none) : BsO w v vp p := SlS.of_sl h (fun b _ _ => by rw [hv]; exact fun e => by cases e)
/-- frame(nil, p). -/
theorem frame_new (p : Bts) (vp : Value) (w : World) (hL : p.length ≤ 80000000) (hp : BsR w vp p) :
    Calls Try.prog 55 #[.slice none 0 0, vp] w fun r w' => (∃ v', r = .returned v' ∧ w'.ownsRow w.heap.size 5 1 v' (p.length + 8) (u8V (frm p))) ∧ Below w.heap.size w w' := by
  refine (frame_any p [] w.heap.size 0 (.slice none 0 0) vp w (by omega) (Nat.le_refl _) (World.ownsRow_nil _ _ _ _) (hp.off rfl)).mono ?_
  rintro r w' ⟨⟨v', h1, h2, -⟩, h3⟩
  rw [Nat.zero_add, List.nil_append] at h2
  exact ⟨⟨v', h1, h2⟩, h3⟩
theorem bs_of_owns {w : World} {B n : Nat} {v : Value} {b : Bts} (h : w.ownsRow B 5 1 v n (u8V b)) (hn : b.length = n) : BsR w v b := by
  subst hn
  exact SlR.mono (SlR.of_owns h) (Nat.zero_le _)

set_option maxHeartbeats 2000000 in
theorem Frame_any (p : Bts) (vp : Value) (w : World) (hL : p.length ≤ 65536) (hp : BsR w vp p) :
    Calls Try.prog 60 #[vp] w fun r w' => (∃ v', r = .returned (.tuple #[v', .int .i64 0]) ∧ BsR w' v' (frm p)) ∧ Below w.heap.size w w' := by
  have FR := hid (frame_new p vp w (by omega) hp)
  obtain ⟨ap, cp, rfl, hcp, hmp, -⟩ := hp
  unfold maxLen at hmp
  have hl2 : ¬ (65536 : Int) < (p.length : Int) := by omega
  obtain ⟨n, hn⟩ : ∃ n, p.length = n := ⟨_, rfl⟩
  have HN := hid hn
  rw [hn] at hL hcp FR hl2 ⊢
  clear hn
  go_enter Try.func60, Try.ntmps60
  go_wp2_with fail
  refine FR.out.mono ?_
  rintro r w1 ⟨⟨v', rfl, ho⟩, hb⟩
  have HO := hid (bs_of_owns ho (by rw [frm_length, HN.out]))
  have HB := hid hb
  clear FR ho hb
  go_wp2
  go_ret2
  exact ⟨⟨_, rfl, HO.out⟩, HB.out⟩

theorem frm_a : frm [97] = [0, 0, 0, 1, 97, 232, 183, 190, 67] := by
  unfold frm
  rw [crc_a]
  rfl
theorem blk_bs {w : World} {g : Nat} {cs : Array Value} {t : TypeId} {b : Bts} (h : Blk w g cs t) (hcs : cs = (u8V b).toArray) (hl : b.length ≤ 100000) : BsR w (.slice (some ⟨g, 0, none⟩) b.length b.length) b := by
  refine ⟨_, _, rfl, Nat.le_refl _, by unfold maxLen; omega, fun _ => ⟨g, 0, rfl, Nat.zero_le _, h.lt, fun j hj => ?_⟩⟩
  rw [Nat.zero_add, h.cell j, hcs]
  rw [List.getD_eq_getElem?_getD, List.getElem?_eq_getElem hj]
  simp [List.getElem?_eq_getElem hj]

set_option maxHeartbeats 4000000 in
set_option maxRecDepth 100000 in
theorem stored_any (w : World) : Calls Try.prog 26 #[] w fun r w' => r = .returned (.bool true) ∧ Below w.heap.size w w' := by
  have kA := Blk.new w #[.int .u8 97] 5
  have bA := alloc_below w (.cells #[.int .u8 97] 5)
  have HA := hid (blk_bs (b := [97]) kA rfl (by decide))
  have HBA := hid bA
  have FA := hid (Frame_any [97] _ _ (by decide) HA.out)
  rw [frm_a] at FA
  have EQ := hid (fun v1 v2 w h1 h2 => Equal_any [0, 0, 0, 1, 97, 232, 183, 190, 67] [0, 0, 0, 1, 97, 232, 183, 190, 67] v1 v2 w h1 h2)
  have hd : decide (([0, 0, 0, 1, 97, 232, 183, 190, 67] : Bts) = [0, 0, 0, 1, 97, 232, 183, 190, 67]) = true := by decide
  rw [hd] at EQ
  clear kA bA HA hd
  go_enter Try.func26, Try.ntmps26
  go_wp2_with fail
  refine FA.out.mono ?_
  rintro r w1 ⟨⟨v', rfl, hv⟩, hb⟩
  have kB := Blk.new w1 #[.int .u8 0, .int .u8 0, .int .u8 0, .int .u8 1, .int .u8 97, .int .u8 232, .int .u8 183, .int .u8 190, .int .u8 67] 5
  have bB := alloc_below w1 (.cells #[.int .u8 0, .int .u8 0, .int .u8 0, .int .u8 1, .int .u8 97, .int .u8 232, .int .u8 183, .int .u8 190, .int .u8 67] 5)
  have HBv := hid (blk_bs (b := [0, 0, 0, 1, 97, 232, 183, 190, 67]) kB rfl (by decide))
  have HV := hid (hv.below bB)
  have hb1 := HBA.out.trans (hb.mono HBA.out.size)
  have HB2 := hid (hb1.trans (bB.mono hb1.size))
  clear FA HBA hv hb kB bB hb1
  go_wp2_with fail
  refine (EQ.out _ _ _ HV.out HBv.out).mono ?_
  rintro r w2 ⟨rfl, rfl⟩
  clear EQ HV HBv
  go_wp2
  go_ret
  exact ⟨rfl, HB2.out⟩

end Go.Proofs.Ytcpefolhohakmaa
