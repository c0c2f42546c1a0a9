/- Walks of the journal's reading: parse. -/
import Derived.Test.YtcpefolhohakmaaT6
namespace Go.Proofs.Ytcpefolhohakmaa
open Go.RowKit
attribute [local irreducible] seqS seqST walkV walkJ

/-- A row of records that may be appended to. -/
def RcR (lo : Nat) (w : World) (v : Value) (vs : List Value) : Prop :=
  (v = .slice none 0 0 ∧ vs = []) ∨ ∃ g off cap cur, v = .slice (some ⟨g, off, none⟩) vs.length cap ∧ lo ≤ g ∧ Blk w g cur 48 ∧ off + cap ≤ cur.size ∧ vs.length ≤ cap ∧ cap ≤ maxLen ∧ ∀ j u, vs[j]? = some u → cur[off + j]? = some u
theorem RcR.below {lo : Nat} {w w' : World} {v : Value} {vs : List Value} (h : RcR lo w v vs) (k : Below w.heap.size w w') : RcR lo w' v vs := by
  rcases h with h | ⟨g, off, cap, cur, h1, h2, h3, h4⟩
  · exact .inl h
  · exact .inr ⟨g, off, cap, cur, h1, h2, h3.below k, h4⟩
theorem RcR.keep {lo : Nat} {S : Nat → Prop} {w w' : World} {v : Value} {vs : List Value} (h : RcR lo w v vs) (k : Keep S w w') (hs : ∀ g, v.ownBlock = some g → S g) : RcR lo w' v vs := by
  rcases h with h | ⟨g, off, cap, cur, h1, h2, h3, h4⟩
  · exact .inl h
  · exact .inr ⟨g, off, cap, cur, h1, h2, k.blk h3 (hs g (by rw [h1]; rfl)), h4⟩
theorem RcR.mono {lo lo' : Nat} {w : World} {v : Value} {vs : List Value} (h : RcR lo w v vs) (hl : lo' ≤ lo) : RcR lo' w v vs := by
  rcases h with h | ⟨g, off, cap, cur, h1, h2, h3⟩
  · exact .inl h
  · exact .inr ⟨g, off, cap, cur, h1, Nat.le_trans hl h2, h3⟩
/-- The row behind its first two. -/
theorem RcR.of_owns {B : Nat} {w : World} {g cap n : Nat} {vs : List Value} (h : w.ownsRow B 48 1 (.slice (some ⟨g, 0, none⟩) (n + 2) cap) (n + 2) vs) : RcR B w (.slice (if cap = 2 then some ⟨g, 0, none⟩ else some ⟨g, 2, none⟩) n (cap - 2)) (vs.drop 2) := by
  obtain ⟨hl, ⟨h1, -⟩ | ⟨g', cap', cur, h1, h2, h3, h4, h5, h6, h7⟩⟩ := h
  · cases h1
  cases h1
  have hvl : (vs.drop 2).length = n := by rw [List.length_drop]; omega
  have key : ∀ j u, (vs.drop 2)[j]? = some u → cur[2 + j]? = some u := by
    intro j u hj
    rw [List.getElem?_drop, ← h7, List.getElem?_take] at hj
    split at hj
    · rw [← Array.getElem?_toList]; exact hj
    · cases hj
  by_cases e : cap = 2
  · rw [if_pos e]
    have hn : n = 0 := by omega
    subst hn
    have hnil : vs.drop 2 = [] := List.length_eq_zero_iff.1 hvl
    refine .inr ⟨g, 0, cap - 2, cur, by rw [hvl], h2, h3, by omega, by omega, by omega, fun j u hj => ?_⟩
    rw [hnil] at hj; cases hj
  · rw [if_neg e]
    exact .inr ⟨g, 2, cap - 2, cur, by rw [hvl], h2, h3, by omega, by omega, by omega, key⟩
theorem RcR.sl {lo : Nat} {w : World} {v : Value} {vs : List Value} (h : RcR lo w v vs) : SlR 0 w v vs.length vs := by
  rcases h with ⟨rfl, rfl⟩ | ⟨g, off, cap, cur, rfl, h2, h3, h4, h5, h6, h7⟩
  · exact SlR.nil _ _
  · refine ⟨_, cap, rfl, h5, h6, fun _ => ⟨g, off, rfl, Nat.zero_le _, h3.lt, fun j hj => ?_⟩⟩
    rw [h3.cell, h7 j _ (getD_some hj)]
instance instKeepT (S : Nat → Prop) (W : World) : Nonempty (SubT (Keep S) W) := ⟨⟨W, Keep.refl S W⟩⟩
def cntV (g : Int) (vs vr : Value) : Value := .agg #[.int .i64 g, vs, vr]

theorem results_ctt {P : Program} {fn : Func} {p u z : Tmp} {ty : TypeId} (h : fn.results = #[.cell p ty, .tmp u, .tmp z]) (tmps : Array Value) (w : World) (g : Nat) (t : TypeId) (cs : Array Value) (fr : Nat × Nat) (d : TypeDesc)
    (hp : tmps.getD p undef = .pointer (some ⟨g, 0, none⟩)) (hg : w.heap[g]? = some (.cells cs t fr))
    (hu : P.underlying ty = some d) (hd : (match d with | .struct _ | .array _ _ => true | _ => false) = true) (hi : (P.info? ty).map (·.size) = some cs.size) :
    (results fn tmps).run P w = .ok (.tuple #[.agg cs, tmps.getD u undef, tmps.getD z undef]) w := by
  have hp' : tmps[p]?.getD undef = .pointer (some ⟨g, 0, none⟩) := by simpa using hp
  simp [results, h, hp', asAddr, run_loadVar_row w g t ty cs fr d hg hu hd hi]

set_option maxHeartbeats 4000000 in
set_option maxRecDepth 100000 in
theorem parse_no (b : Bts) (hN : NoA b) (v : Value) (w : World) (h : BsR w v b) (hb : b.length ≤ 2000000) :
    Calls Try.prog 71 #[v] w fun r w' => r = .returned (.tuple #[cntV 0 (.slice none 0 0) (.slice none 0 0), .bool false, .bool false]) ∧ Below w.heap.size w w' := by
  obtain ⟨ps, t, hl, hf⟩ := hN
  have FR := hid (fun W (k : Below w.heap.size w W) => Frames_any ps t b hf v W (h.below k) hb)
  clear hf h
  go_enter Try.func71, Try.ntmps71
  go_wp2_with fail
  have kR := Blk.new w #[.int .i64 0, .slice none 0 0, .slice none 0 0] 113
  have bR := alloc_below w (.cells #[.int .i64 0, .slice none 0 0, .slice none 0 0] 113)
  refine (FR.out _ bR).mono ?_
  rintro r w1 ⟨⟨v', rfl, vs, ho, -⟩, hb1⟩
  have hb2 := bR.trans (hb1.mono bR.size)
  have kR1 : Blk w1 w.heap.size _ _ := kR.below hb1
  have HB2 := hid hb2
  have KR := hid kR1
  have x0 := kR1.look 0 rfl
  have x1 := kR1.look 1 rfl
  have x2 := kR1.look 2 rfl
  have f0 := kR1.frozen 0
  have f1 := kR1.frozen 1
  have f2 := kR1.frozen 2
  have l0 := kR1.lt
  obtain ⟨a1, c1, rfl, -⟩ := SlR.of_owns ho
  obtain ⟨n, hn⟩ : ∃ n, ps.length = n := ⟨_, rfl⟩
  rw [hn] at hl ⊢
  have hl2 : (n : Int) < 2 := by omega
  clear hn ho hb1 hb2 kR1 kR bR FR
  obtain ⟨gr, hgr⟩ : ∃ g, w.heap.size = g := ⟨_, rfl⟩
  have HGR := hid hgr
  rw [hgr] at x0 x1 x2 f0 f1 f2 l0 KR HB2 ⊢
  clear hgr
  -- x1 x2 f0 f1 f2 l0 KR HB2 ⊢
  have KR3 := hid (((KR.out.set 0 (.int .i64 0)).set 1 (.slice none 0 0)).set 2 (.slice none 0 0))
  have HB3 := hid (((HB2.out.setCell (p := ⟨gr, 0, none⟩) (Nat.le_refl _) (.int .i64 0)).setCell (p := ⟨gr, 1, none⟩) (Nat.le_refl _) (.slice none 0 0)).setCell (p := ⟨gr, 2, none⟩) (Nat.le_refl _) (.slice none 0 0))
  go_wp2
  refine bodyPost_ret (results_ctt rfl _ _ gr 113 _ _ _ rfl KR3.out Try.underlying113 rfl (by kernel_rfl)) rfl ?_
  rw [HGR.out]
  exact ⟨rfl, HB3.out⟩

set_option maxHeartbeats 4000000 in
set_option maxRecDepth 100000 in
theorem parse_are (g : Nat) (s : Bts) (rs : List Bts) (t b : Bts) (hA : Are b g s rs t) (hg1 : 1 ≤ g) (hg2 : g ≤ 4611686018427387904) (v : Value) (w : World) (h : BsR w v b) (hb : b.length ≤ 2000000) :
    Calls Try.prog 71 #[v] w fun r w' => (∃ vs vr, r = .returned (.tuple #[cntV (g : Int) vs vr, .bool true, .bool (decide (0 < t.length))]) ∧ w'.ownsRow w.heap.size 5 1 vs s.length (u8V s) ∧ ∃ rvs, RcR w.heap.size w' vr rvs ∧ PaysO w.heap.size w' rvs rs) ∧ Below w.heap.size w w' := by
  obtain ⟨k, hk, hf⟩ := hA
  have hrl : rs.length ≤ 2000000 := by
    have h1 := frms_len (lay g k s rs)
    have h2 := congrArg List.length hf.1
    rw [List.length_append] at h2
    have h3 : (lay g k s rs).length = rs.length + 2 := rfl
    omega
  have hll : (lay g k s rs).length = rs.length + 2 := rfl
  have FR := hid (fun W (k : Below w.heap.size w W) => Frames_any _ t b hf v W (h.below k) hb)
  rw [hll] at FR
  clear hf h
  go_enter Try.func71, Try.ntmps71
  go_wp2_with fail
  have kR := Blk.new w #[.int .i64 0, .slice none 0 0, .slice none 0 0] 113
  have bR := alloc_below w (.cells #[.int .i64 0, .slice none 0 0, .slice none 0 0] 113)
  refine (FR.out _ bR).mono ?_
  rintro r w1 ⟨⟨v', rfl, vs, ho, hp⟩, hb1⟩
  have hb2 := bR.trans (hb1.mono bR.size)
  have kR1 : Blk w1 w.heap.size _ _ := kR.below hb1
  have hsr : w.heap.size ≤ (w.alloc (.cells #[.int .i64 0, .slice none 0 0, .slice none 0 0] 113)).heap.size := bR.size
  have HB2 := hid hb2
  have KR := hid kR1
  have HO := hid (owns_low ho hsr)
  have hp0 := owns_low (hp.2 0 (by rw [hll]; omega)) hsr
  have hp1 := owns_low (hp.2 1 (by rw [hll]; omega)) hsr
  have hvl : vs.length = rs.length + 2 := hp.1
  have HPR : Hid (PaysO w.heap.size w1 (vs.drop 2) rs) := hid ⟨by rw [List.length_drop, hvl]; omega, fun i hi => by
    have h2 := owns_low (hp.2 (i + 2) (by rw [hll]; omega)) hsr
    have e1 : (lay g k s rs).getD (i + 2) [] = rs.getD i [] := rfl
    have e2 : (vs.drop 2).getD i undef = vs.getD (i + 2) undef := by simp [List.getD_eq_getElem?_getD, List.getElem?_drop, Nat.add_comm]
    rw [e1] at h2
    rw [e2]
    exact h2⟩
  have e0 : (lay g k s rs).getD 0 [] = hdr g k := rfl
  have e1 : (lay g k s rs).getD 1 [] = s := rfl
  rw [e0, hdr_length] at hp0
  rw [e1] at hp1
  obtain ⟨g0, c0, hv0⟩ := owns_some hp0 (by omega)
  obtain ⟨a1, c1, hv1, -⟩ := SlR.of_owns hp1
  rw [hv0] at hp0
  rw [hv1] at hp1
  obtain ⟨gp, cp, rfl⟩ := owns_some ho (by omega)
  have x0 := ho.cells (g := gp) rfl 0 _ (getD_some (by rw [hvl]; omega))
  have x1 := ho.cells (g := gp) rfl 1 _ (getD_some (by rw [hvl]; omega))
  rw [hv0] at x0
  rw [hv1] at x1
  rw [Addr.add_lit, Nat.zero_add] at x0 x1
  have hbh : BsR w1 (.slice (some ⟨g0, 0, none⟩) 12 c0) (hdr g k) := bs_of_owns hp0 (hdr_length g k)
  obtain ⟨ao', cap', hc0e, hc0, hc0m, -⟩ := id hbh
  cases hc0e
  rw [hdr_length] at hc0
  obtain ⟨gz, oz, hze, -, z0⟩ := u8_cell hbh (i := 0) (by rw [hdr_length]; omega)
  cases hze
  have htop := hdr_top k hg2
  have hkl : k < 4294967296 := by omega
  have N8 := hid (fun W (q : Below w1.heap.size w1 W) => getNumber_any ((hdr g k).take 8) _ W ((hbh.upto 8 (by rw [hdr_length]; omega)).below q) (by rw [hdr_gen k (by omega)]; omega))
  have e48 : ((hdr g k).drop 8).take 4 = (hdr g k).drop 8 := List.take_of_length_le (by rw [List.length_drop, hdr_length]; omega)
  have N4 := hid (fun W (q : Below w1.heap.size w1 W) => getNumber_any ((hdr g k).drop 8) _ W (by have := (hbh.at 8 4 (by rw [hdr_length]; omega) (by omega)).below q; rw [e48] at this; exact this) (by rw [hdr_num g (by omega)]; omega))
  rw [hdr_gen k (by omega)] at N8
  rw [hdr_num g (by omega)] at N4
  have hRC := RcR.of_owns HO.out
  have HRC := hid hRC
  have HS := hid hp1
  obtain ⟨n, hn⟩ : ∃ n, rs.length = n := ⟨_, rfl⟩
  have HN := hid hn
  obtain ⟨TL, hT⟩ : ∃ n, t.length = n := ⟨_, rfl⟩
  have HTL := hid hT
  obtain ⟨c, hc⟩ : ∃ n, ((hdr g k).getD 0 0).toNat = n := ⟨_, rfl⟩
  rw [hc] at z0 htop
  rw [hn] at hk hrl HO HRC ⊢
  rw [hT]
  have hcp : n + 2 ≤ cp := by
    obtain ⟨-, ⟨h1, -⟩ | ⟨g', cap', cur, h1, h2, h3, h4, -⟩⟩ := HO.out
    · cases h1
    · cases h1; exact h4
  obtain ⟨gr, hgr⟩ : ∃ g, w.heap.size = g := ⟨_, rfl⟩
  have HGR := hid hgr
  have lp := (ho.lt gp rfl).2
  have l0' := (hp0.lt g0 rfl).2
  rw [hgr] at HB2 KR HO HPR HRC HS ⊢
  have hgpr := owns_blk_neT HO.out KR.out (by decide) gp rfl
  clear hc hT hn hgr hRC hp1 hp0 hbh e48 e0 e1 hv0 hv1 ho hvl hsr kR1 hb2 hp hb1 bR kR FR hll
  have hn2 : ¬ ((n : Int) + 2 < 2) := by omega
  have hw : w1.drew.heap.size = w1.heap.size := rfl
  go_wp2_with fail
  have zx := fun y : SubT (Below w1.heap.size) w1.drew => (((Below.refl w1.heap.size w1).drew.trans y.b).cell (p := ⟨gp, 0, none⟩) lp).trans x0
  have hc8 : ¬ c0 = 8 := by omega
  have h8c : (8 : Int) ≤ (c0 : Int) := by omega
  refine wp_walkJ (T := Below (w1.heap.size)) (belowV_pre _) (.rd 0 (.rd 1 (.rd 2 (.rd 3 (.rd 5 (.rd 6 (.rd 7 (.rd 8 (.mv 4 (.bt 9 (.rd 10 (.rd 11 (.inv []))))))))))))) (by kernel_rfl) rfl (by kernel_rfl) (by kernel_rfl) ?_
  iterate 8 (refine walkJ_rd rfl (fun K hK => ?_); go_simp; refine hK _ ?_; clear hK K)
  (refine walkJ_mv rfl (fun K hK => ?_); go_simp; refine (N8.out _ (Below.refl _ _).drew).mono ?_; rintro r w2 ⟨rfl, rfl⟩; refine ⟨_, rfl, hK _ _ (Below.refl _ _) ?_⟩; clear hK K)
  (refine walkJ_bt rfl (fun K hK => ?_); go_simp; refine (N4.out _ (Below.refl _ _).drew).mono ?_; rintro r w2 ⟨rfl, rfl⟩; refine ⟨_, rfl, hK _ _ ?_⟩; clear hK K)
  iterate 2 (refine walkJ_rd rfl (fun K hK => ?_); go_simp; refine hK _ ?_; clear hK K)
  refine walkJ_nil ?_
  clear zx N8 N4 hc8 h8c
  have hd := (Below.refl w1.heap.size w1).drew
  have y0 := (hd.cell (p := ⟨gp, 0, none⟩) lp).trans x0
  have y1 := (hd.cell (p := ⟨gp, 1, none⟩) lp).trans x1
  have yz := (hd.cell (p := ⟨g0, 0 + 0, none⟩) l0').trans z0
  have HB3 := hid (HB2.out.drew)
  have KR3 := hid (KR.out.below hd)
  have HS3 := hid (owns_below HS.out hd)
  have HRC3 := hid (HRC.out.below hd)
  have HPR3 := hid (HPR.out.below hd)
  clear x0 x1 z0 hd HB2 KR HS HRC HPR HO hw
  replace lp : gp < w1.drew.heap.size := lp
  replace l0' : g0 < w1.drew.heap.size := l0'
  generalize w1.drew = w2 at y0 y1 yz lp l0' HB3 KR3 HS3 HRC3 HPR3 ⊢
  have hg3 : ¬ (g : Int) < 1 := by omega
  have hg4 : ¬ (4611686018427387904 : Int) < (g : Int) := by omega
  have hc3 : ¬ (64 : Int) < (c : Int) := by omega
  have hnk : ¬ (n : Int) + 2 < 2 + (k : Int) := by omega
  go_wp2_with fail
  have zx := fun y : SubT (Keep (· ≠ gr)) w2.drew => (((Keep.drew (· ≠ gr) w2).trans y.b).cell (p := ⟨gp, 1, none⟩) lp hgpr).trans y1
  have KR4 := hid (KR3.out.drew)
  have fr := KR4.out.frozen
  have lr := KR4.out.lt
  have x0 := KR4.out.look 0 rfl
  have x1 := KR4.out.look 1 rfl
  have x2 := KR4.out.look 2 rfl
  have f0 := fr 0
  have f1 := fr 1
  have f2 := fr 2
  clear fr
  by_cases hcp2 : cp = 2
  case pos =>
    have e0 : cp - 2 = 0 := by omega
    rw [if_pos hcp2, e0] at HRC3
    obtain ⟨vr, hvr⟩ : ∃ vr, Value.slice (some ⟨gp, 0, none⟩) n 0 = vr := ⟨_, rfl⟩
    rw [hvr] at HRC3
    have HVR := hid hvr
    clear hvr e0
    have hn1 : (1 : Int) < (n : Int) + 2 := by omega
    have hn2c : (n : Int) + 2 ≤ (cp : Int) := by omega
    have h2c : (2 : Int) ≤ (cp : Int) := by omega
    refine wp_walkJ (T := Keep (· ≠ gr)) (keep_pre _) (.rd 0 (.rd 1 (.rd 2 (.rd 3 (.rd 4 (.rd 5 (.rd 6 (.rd 7 (.rd 8 (.mv 9 (.rd 10 (.rd 11 (.inv []))))))))))))) (by kernel_rfl) rfl (by kernel_rfl) (by kernel_rfl) ?_
    iterate 9 (refine walkJ_rd rfl (fun K hK => ?_); go_simp; refine hK _ ?_; clear hK K)
    clear zx
    have hd := (Below.refl w2.heap.size w2).drew
    have HB4 := hid (HB3.out.drew)
    have HS4 := hid (owns_below HS3.out hd)
    have HRC4 := hid (HRC3.out.below hd)
    have HPR4 := hid (HPR3.out.below hd)
    clear hd HB3 HS3 HRC3 HPR3 KR3 y0 y1 yz
    replace lp : gp < w2.drew.heap.size := lp
    generalize w2.drew = W at HB4 HS4 HRC4 HPR4 KR4 x0 x1 x2 f0 f1 f2 lr ⊢
    (refine walkJ_mv rfl (fun K hK => ?_); go_simp; rw [HVR.out]; refine hK _ _ (((Keep.set W (p := ⟨gr, 0, none⟩) (fun h => h rfl) _).trans (Keep.set _ (p := ⟨gr, 1, none⟩) (fun h => h rfl) _)).trans (Keep.set _ (p := ⟨gr, 2, none⟩) (fun h => h rfl) _)) ?_; clear hK K)
    have hk5 : Keep (· ≠ gr) W (((W.setCell ⟨gr, 0, none⟩ (.int .i64 (g : Int))).setCell ⟨gr, 1, none⟩ (.slice a1 s.length c1)).setCell ⟨gr, 2, none⟩ vr) := ((Keep.set W (p := ⟨gr, 0, none⟩) (fun h => h rfl) _).trans (Keep.set _ (p := ⟨gr, 1, none⟩) (fun h => h rfl) _)).trans (Keep.set _ (p := ⟨gr, 2, none⟩) (fun h => h rfl) _)
    have HS5 := hid (hk5.owns HS4.out (owns_blk_neT HS4.out KR4.out (by decide)))
    have HPR5 := hid (HPR4.out.keep hk5 (fun i hi => owns_blk_neT (HPR4.out.2 i hi) KR4.out (by decide)))
    have HRC5 := hid (HRC4.out.keep hk5 (fun x hx => by rw [← HVR.out] at hx; cases hx; exact hgpr))
    have KR5 := hid (((KR4.out.set 0 (.int .i64 (g : Int))).set 1 (.slice a1 s.length c1)).set 2 vr)
    have HB5 := hid (((HB4.out.setCell (p := ⟨gr, 0, none⟩) (Nat.le_refl _) (.int .i64 (g : Int))).setCell (p := ⟨gr, 1, none⟩) (Nat.le_refl _) (.slice a1 s.length c1)).setCell (p := ⟨gr, 2, none⟩) (Nat.le_refl _) vr)
    clear hk5 HS4 HPR4 HRC4 KR4 HB4 x0 x1 x2 f0 f1 f2 lr
    generalize ((W.setCell ⟨gr, 0, none⟩ (.int .i64 (g : Int))).setCell ⟨gr, 1, none⟩ (.slice a1 s.length c1)).setCell ⟨gr, 2, none⟩ vr = W5 at HS5 HPR5 HRC5 KR5 HB5 ⊢
    iterate 2 (refine walkJ_rd rfl (fun K hK => ?_); go_simp; refine hK _ ?_; clear hK K)
    refine walkJ_nil ?_
    have hd := (Below.refl W5.heap.size W5).drew
    go_wp2
    refine bodyPost_ret (results_ctt rfl _ _ gr 113 _ _ _ rfl KR5.out Try.underlying113 rfl (by kernel_rfl)) rfl ?_
    rw [HGR.out]
    exact ⟨⟨_, _, by rw [HTL.out]; rfl, HS5.out, _, HRC5.out, HPR5.out⟩, HB5.out⟩
  case neg =>
    rw [if_neg hcp2] at HRC3
    obtain ⟨vr, hvr⟩ : ∃ vr, Value.slice (some ⟨gp, 2, none⟩) n (cp - 2) = vr := ⟨_, rfl⟩
    rw [hvr] at HRC3
    have HVR := hid hvr
    clear hvr
    have hn1 : (1 : Int) < (n : Int) + 2 := by omega
    have hn2c : (n : Int) + 2 ≤ (cp : Int) := by omega
    have h2c : (2 : Int) ≤ (cp : Int) := by omega
    refine wp_walkJ (T := Keep (· ≠ gr)) (keep_pre _) (.rd 0 (.rd 1 (.rd 2 (.rd 3 (.rd 4 (.rd 5 (.rd 6 (.rd 7 (.rd 8 (.mv 9 (.rd 10 (.rd 11 (.inv []))))))))))))) (by kernel_rfl) rfl (by kernel_rfl) (by kernel_rfl) ?_
    iterate 9 (refine walkJ_rd rfl (fun K hK => ?_); go_simp; refine hK _ ?_; clear hK K)
    clear zx
    have hd := (Below.refl w2.heap.size w2).drew
    have HB4 := hid (HB3.out.drew)
    have HS4 := hid (owns_below HS3.out hd)
    have HRC4 := hid (HRC3.out.below hd)
    have HPR4 := hid (HPR3.out.below hd)
    clear hd HB3 HS3 HRC3 HPR3 KR3 y0 y1 yz
    replace lp : gp < w2.drew.heap.size := lp
    generalize w2.drew = W at HB4 HS4 HRC4 HPR4 KR4 x0 x1 x2 f0 f1 f2 lr ⊢
    (refine walkJ_mv rfl (fun K hK => ?_); go_simp; rw [HVR.out]; refine hK _ _ (((Keep.set W (p := ⟨gr, 0, none⟩) (fun h => h rfl) _).trans (Keep.set _ (p := ⟨gr, 1, none⟩) (fun h => h rfl) _)).trans (Keep.set _ (p := ⟨gr, 2, none⟩) (fun h => h rfl) _)) ?_; clear hK K)
    have hk5 : Keep (· ≠ gr) W (((W.setCell ⟨gr, 0, none⟩ (.int .i64 (g : Int))).setCell ⟨gr, 1, none⟩ (.slice a1 s.length c1)).setCell ⟨gr, 2, none⟩ vr) := ((Keep.set W (p := ⟨gr, 0, none⟩) (fun h => h rfl) _).trans (Keep.set _ (p := ⟨gr, 1, none⟩) (fun h => h rfl) _)).trans (Keep.set _ (p := ⟨gr, 2, none⟩) (fun h => h rfl) _)
    have HS5 := hid (hk5.owns HS4.out (owns_blk_neT HS4.out KR4.out (by decide)))
    have HPR5 := hid (HPR4.out.keep hk5 (fun i hi => owns_blk_neT (HPR4.out.2 i hi) KR4.out (by decide)))
    have HRC5 := hid (HRC4.out.keep hk5 (fun x hx => by rw [← HVR.out] at hx; cases hx; exact hgpr))
    have KR5 := hid (((KR4.out.set 0 (.int .i64 (g : Int))).set 1 (.slice a1 s.length c1)).set 2 vr)
    have HB5 := hid (((HB4.out.setCell (p := ⟨gr, 0, none⟩) (Nat.le_refl _) (.int .i64 (g : Int))).setCell (p := ⟨gr, 1, none⟩) (Nat.le_refl _) (.slice a1 s.length c1)).setCell (p := ⟨gr, 2, none⟩) (Nat.le_refl _) vr)
    clear hk5 HS4 HPR4 HRC4 KR4 HB4 x0 x1 x2 f0 f1 f2 lr
    generalize ((W.setCell ⟨gr, 0, none⟩ (.int .i64 (g : Int))).setCell ⟨gr, 1, none⟩ (.slice a1 s.length c1)).setCell ⟨gr, 2, none⟩ vr = W5 at HS5 HPR5 HRC5 KR5 HB5 ⊢
    iterate 2 (refine walkJ_rd rfl (fun K hK => ?_); go_simp; refine hK _ ?_; clear hK K)
    refine walkJ_nil ?_
    have hd := (Below.refl W5.heap.size W5).drew
    go_wp2
    refine bodyPost_ret (results_ctt rfl _ _ gr 113 _ _ _ rfl KR5.out Try.underlying113 rfl (by kernel_rfl)) rfl ?_
    rw [HGR.out]
    exact ⟨⟨_, _, by rw [HTL.out]; rfl, HS5.out, _, HRC5.out, HPR5.out⟩, HB5.out⟩

end Go.Proofs.Ytcpefolhohakmaa
