/- Walks of the journal: Add. -/
import Derived.Test.YtcpefolhohakmaaU1
namespace Go.Proofs.Ytcpefolhohakmaa
open Go.RowKit
attribute [local irreducible] seqS seqST walkV walkJ

theorem DkR.nDS {w : World} {gd : Nat} {v : Nat → Value} {d : Dk} (h : DkR w gd v d) {g : Nat} {cs : Array Value} {t : TypeId} (k : Blk w g cs t) (h1 : 89 ≠ t) (h2 : 5 ≠ t) : ¬ DS gd v g := by
  rintro (e | e | e)
  · exact blk_ne h.blk k h1 e.symm
  · exact owns_blk_neT (h.own 0 (by decide)) k h2 _ e rfl
  · exact owns_blk_neT (h.own 1 (by decide)) k h2 _ e rfl
theorem DkR.lt {w : World} {gd : Nat} {v : Nat → Value} {d : Dk} (h : DkR w gd v d) {b : Nat} (hb : DS gd v b) : b < w.heap.size := by
  rcases hb with e | e | e
  · rw [e]; exact h.blk.lt
  · exact ((h.own 0 (by decide)).lt _ e).2
  · exact ((h.own 1 (by decide)).lt _ e).2
theorem RcR.blk {lo : Nat} {w : World} {v : Value} {vs : List Value} (h : RcR lo w v vs) {g : Nat} (hg : v.ownBlock = some g) : ∃ cur, Blk w g cur 48 := by
  rcases h with ⟨rfl, -⟩ | ⟨g', off, cap, cur, rfl, -, h3, -⟩
  · cases hg
  · cases hg; exact ⟨cur, h3⟩
/-- What a call on a journal leaves of the rest. -/
structure LoG (w w' : World) (gl gd : Nat) (v v' : Nat → Value) (vr vr' : Value) : Prop where
  keep : Keep (fun b => ¬ DS gd v b ∧ b ≠ gl ∧ vr.ownBlock ≠ some b) w w'
  new : ∀ b, DS gd v' b → DS gd v b ∨ w.heap.size ≤ b
  row : vr'.ownBlock = vr.ownBlock ∨ ∀ b, vr'.ownBlock = some b → w.heap.size ≤ b
theorem LoG.of_dk {w w' : World} {gl gd : Nat} {v v' : Nat → Value} {vr : Value} (h : DkG w w' gd v v') : LoG w w' gl gd v v' vr vr := ⟨h.keep.mono (fun _ _ hb => hb.1), h.new, .inl rfl⟩
theorem LoG.trans {a b c : World} {gl gd : Nat} {v v' v2 : Nat → Value} {vr vr' vr2 : Value} (h : LoG a b gl gd v v' vr vr') (k : LoG b c gl gd v' v2 vr' vr2) : LoG a c gl gd v v2 vr vr2 where
  keep := ⟨k.keep.os.trans h.keep.os, k.keep.tape.trans h.keep.tape, k.keep.output.trans h.keep.output, Nat.le_trans h.keep.size k.keep.size, fun i hi hn => by
    refine (k.keep.block i (Nat.lt_of_lt_of_le hi h.keep.size) ⟨fun hd => ?_, hn.2.1, fun e => ?_⟩).trans (h.keep.block i hi hn)
    · rcases h.new i hd with h1 | h1
      · exact hn.1 h1
      · omega
    · rcases h.row with h1 | h1
      · exact hn.2.2 (by rw [← h1]; exact e)
      · have := h1 i e; omega⟩
  new b hb := by
    rcases k.new b hb with h1 | h1
    · exact h.new b h1
    · exact .inr (Nat.le_trans h.keep.size h1)
  row := by
    rcases k.row with h1 | h1
    · rw [h1]; exact h.row
    · exact .inr (fun b hb => Nat.le_trans h.keep.size (h1 b hb))
theorem LoG.of_own {w w' : World} {gl gd : Nat} {v : Nat → Value} {vr : Value} (k : Keep (· ≠ gl) w w') : LoG w w' gl gd v v vr vr := ⟨k.mono (fun _ _ hb => hb.2.1), fun _ h => .inl h, .inl rfl⟩
theorem LgB.keep {w w' : World} {gl gd : Nat} {g at' : Int} {vs vr : Value} {down : Bool} {S : Nat → Prop} (h : LgB w gl gd g at' vs vr down) (k : Keep S w w') (hs : S gl) : LgB w' gl gd g at' vs vr down := k.blk h hs
theorem DkR.keep {w w' : World} {gd : Nat} {v : Nat → Value} {d : Dk} {S : Nat → Prop} (h : DkR w gd v d) (k : Keep S w w') (hs : ∀ b, DS gd v b → S b) : DkR w' gd v d :=
  ⟨k.blk h.blk (hs _ (.inl rfl)), fun n hn => k.owns (h.own n hn) (fun g hg => hs g (by
    obtain rfl | rfl : n = 0 ∨ n = 1 := by omega
    · exact .inr (.inl hg)
    · exact .inr (.inr hg))), h.ne, h.safe, h.len, h.most, h.left⟩

def adE (m : Nat) (p : Bts) (d : Dk) : Int := if appE m (frm p) d = 0 then pwE (spB (appD m (frm p) d)) else appE m (frm p) d
def adD (m : Nat) (p : Bts) (d : Dk) : Dk := if appE m (frm p) d = 0 then syncD m (appD m (frm p) d) else appD m (frm p) d

theorem gives_appR {o : Oper} {a : Act} {w : World} {K : Value → World → Prop} (s x : Operand) (ty : TypeId) (ho : o.op = .call { callee := .builtin .append, args := #[s, x], argTypes := #[92, 92] }) (hty : o.type = ty)
    {lo : Nat} {v : Value} {vs : List Value} (hs : a.eval s = v) (h : RcR lo w v vs) {H : Nat} {u : Value} (hx : a.eval x = .slice (some ⟨H, 0, none⟩) 1 1) (hn : Blk w H #[u] 48) (h1 : u.oneCell' = true) (hlo : lo ≤ w.heap.size) (hl : vs.length ≤ 1000000)
    (hk : ∀ v' w', RcR lo w' v' (vs ++ [u]) → w.grownBy w' v.ownBlock → (v'.ownBlock = v.ownBlock ∨ ∃ g', v'.ownBlock = some g' ∧ w.heap.size ≤ g') → K v' w') : gives Try.prog o a w K := by
  obtain ⟨v', w', hr, h2, h3, h4⟩ := h.app hn h1 hlo hl ty
  exact gives_append2 s x _ ho hty hs hx hr (hk v' w' h2 h3 h4)

set_option maxHeartbeats 4000000 in
set_option maxRecDepth 100000 in
theorem Add_any (gl gd m : Nat) (g : Int) (vs vr : Value) (rvs : List Value) (v : Nat → Value) (d : Dk) (p : Bts) (vp : Value) (lo : Nat) (w : World) (h : DkR w gd v d) (hL : LgB w gl gd g (m : Int) vs vr false) (hm : m < 2) (hr : RcR lo w vr rvs) (hlo : lo ≤ w.heap.size) (hn : rvs.length ≤ 1000000)
    (hp : SlS (fun b => ¬ DS gd v b) w vp p.length (u8V p)) (hl : p.length ≤ 65536) :
    Calls Try.prog 23 #[.pointer (some ⟨gl, 0, none⟩), vp] w fun r w' => r = .returned (.int .i64 (adE m p d)) ∧ ∃ v' vr', DkR w' gd v' (adD m p d) ∧ LgB w' gl gd g (m : Int) vs vr' (adE m p d == 14) ∧ LoG w w' gl gd v v' vr vr' ∧ ∃ rvs', RcR lo w' vr' rvs' ∧ rvs'.length ≤ rvs.length + 1 := by
  have RE := hid (ready_any gl gd g m vs vr p vp w hL hp.sl hl)
  have HD := hid h
  have HL := hid hL
  have HR := hid hr
  have HP := hid hp
  have HAE : Hid (adE m p d = if appE m (frm p) d = 0 then pwE (spB (appD m (frm p) d)) else appE m (frm p) d) := hid rfl
  have HAD : Hid (adD m p d = if appE m (frm p) d = 0 then syncD m (appD m (frm p) d) else appD m (frm p) d) := hid rfl
  have HNR : Hid (gl < w.heap.size ∧ ¬ DS gd v gl ∧ vr.ownBlock ≠ some gl ∧ ∀ b, vr.ownBlock = some b → ¬ DS gd v b) := hid ⟨Blk.lt hL, h.nDS hL (by decide) (by decide), fun e => hr.ne_blk hL (by decide) gl e rfl, fun b e => by
    obtain ⟨cur, k⟩ := hr.blk e
    exact h.nDS k (by decide) (by decide)⟩
  obtain ⟨re, hre⟩ : ∃ z, adE m p d = z := ⟨_, rfl⟩
  obtain ⟨rd, hrd⟩ : ∃ z, adD m p d = z := ⟨_, rfl⟩
  rw [hre] at HAE ⊢
  rw [hrd] at HAD ⊢
  obtain ⟨ap, cp, rfl, hcp, hmp, -⟩ := id hp
  unfold maxLen at hmp
  obtain ⟨n, hnn⟩ : ∃ n, p.length = n := ⟨_, rfl⟩
  have HN := hid hnn
  rw [hnn] at hl hcp RE HP ⊢
  clear h hL hr hp hre hrd hnn
  go_enter Try.func23, Try.ntmps23
  go_wp2_with fail
  refine RE.out.mono ?_
  rintro r w1 ⟨rfl, rfl⟩
  clear RE
  go_wp2_with fail
  have zd := fun y : SubT (Below w.heap.size) w.drew => (HL.out.below ((Below.refl w.heap.size w).drew.trans y.b)).cD
  have za := fun y : SubT (Below w.heap.size) w.drew => (HL.out.below ((Below.refl w.heap.size w).drew.trans y.b)).cA
  refine wp_walkJ (T := Below (w.heap.size)) (belowV_pre _) (.rd 0 (.rd 1 (.rd 2 (.rd 3 (.rd 4 (.rd 5 (.rd 6 (.rd 7 (.rd 8 (.mv 9 (.bt 10 (.rd 11 (.inv []))))))))))))) (by kernel_rfl) rfl (by kernel_rfl) (by kernel_rfl) ?_
  iterate 9 (refine walkJ_rd rfl (fun K hK => ?_); go_simp; refine hK _ ?_; clear hK K)
  clear zd za
  have hd0 := (Below.refl w.heap.size w).drew
  have HD1 := hid (HD.out.below hd0)
  have HL1 := hid (HL.out.below hd0)
  have HR1 := hid (HR.out.below hd0)
  have HP1 := hid (SlS.keep HP.out (Keep.of_below (S := fun _ => True) hd0) (fun _ _ _ => trivial))
  have HG1 : Hid (DkG w w.drew gd v v) := hid (DkG.of_below hd0)
  have hsz0 : w.heap.size = w.drew.heap.size := rfl
  clear hd0 HD HL HR HP
  generalize w.drew = w1 at HD1 HL1 HR1 HP1 HG1 hsz0 ⊢
  have hpr1 : BsR w1 (.slice ap n cp) p := by have := HP1.out.sl; rw [← HN.out] at this ⊢; exact this
  have FR := hid (frame_new p _ w1 (by rw [HN.out]; omega) hpr1)
  (refine walkJ_mv rfl (fun K hK => ?_); go_simp; refine FR.out.mono ?_; rintro r w2 ⟨⟨v2, rfl, ho2⟩, hb2⟩; refine ⟨_, rfl, hK _ _ (by rw [hsz0]; exact hb2) ?_⟩; clear hK K)
  have HD2 := hid (HD1.out.below hb2)
  have HL2 := hid (HL1.out.below hb2)
  have HR2 := hid (HR1.out.below hb2)
  have HP2 := hid (SlS.keep HP1.out (Keep.of_below (S := fun _ => True) hb2) (fun _ _ _ => trivial))
  have HG2 := hid (HG1.out.trans (DkG.of_below hb2))
  have hgd1 := HD1.out.blk.lt
  have HX2 : Hid (SlS (fun b => b ≠ gd) w2 v2 (frm p).length (u8V (frm p))) := hid (by
    have h9 := SlR.of_owns ho2
    rw [← frm_length] at h9
    exact SlS.of_sl h9 (fun b hb _ e => by omega))
  have AP := hid (Append_any gd m v d (frm p) v2 w2 HD2.out hm HX2.out)
  clear FR HD1 HL1 HR1 HP1 HG1 hpr1 hb2 ho2 HX2 hgd1
  obtain ⟨ae, hae⟩ : ∃ z, appE m (frm p) d = z := ⟨_, rfl⟩
  obtain ⟨d3, hd3⟩ : ∃ z, appD m (frm p) d = z := ⟨_, rfl⟩
  rw [hae] at AP HAE HAD
  rw [hd3] at AP HAE HAD
  clear hae hd3
  (refine walkJ_bt rfl (fun K hK => ?_); go_simp; refine AP.out.mono ?_; rintro r w3 ⟨rfl, v3, hd3, hg3⟩; refine ⟨_, rfl, hK _ _ ?_⟩; clear hK K)
  have HD3 := hid hd3
  have HL3 := hid (HL2.out.keep hg3.keep HNR.out.2.1)
  have HR3 := hid (HR2.out.keep hg3.keep HNR.out.2.2.2)
  have HP3 := hid (SlS.keep HP2.out hg3.keep (fun _ _ h => h))
  have HG3 := hid (HG2.out.trans hg3)
  clear AP HD2 HL2 HR2 HP2 HG2 hd3 hg3
  iterate 1 (refine walkJ_rd rfl (fun K hK => ?_); go_simp; refine hK _ ?_; clear hK K)
  refine walkJ_nil ?_
  by_cases h0 : ae = 0
  case neg =>
    rw [if_neg h0] at HAE HAD
    have h1 : (ae == 0) = false := by rw [beq_eq_false_iff_ne]; exact h0
    have ME := hid (met_any gl gd g m vs vr ae w3 HL3.out)
    clear h0
    go_wp2_with fail
    refine ME.out.mono ?_
    rintro r w4 ⟨rfl, hl4, hk4⟩
    have HL4 := hid hl4
    have HD4 := hid (HD3.out.keep hk4 (fun b hb e => by
      rw [e] at hb
      exact HD3.out.nDS HL3.out (by decide) (by decide) hb))
    have HR4 := hid (HR3.out.keep hk4 (fun b hb e => by rw [e] at hb; exact HNR.out.2.2.1 hb))
    have HG4 := hid ((LoG.of_dk (gl := gl) (vr := vr) HG3.out).trans (LoG.of_own hk4))
    clear ME hl4 hk4
    go_wp2
    go_ret
    exact ⟨ret_int HAE.out.symm, v3, vr, by rw [HAD.out]; exact HD4.out, by rw [HAE.out]; exact HL4.out, HG4.out, rvs, HR4.out, Nat.le_succ _⟩
  case pos =>
    rw [if_pos h0] at HAE HAD
    subst h0
    go_wp2_with fail
    have zd := fun y : SubT (Below w3.heap.size) w3.drew => (HL3.out.below ((Below.refl w3.heap.size w3).drew.trans y.b)).cD
    have za := fun y : SubT (Below w3.heap.size) w3.drew => (HL3.out.below ((Below.refl w3.heap.size w3).drew.trans y.b)).cA
    refine wp_walkJ (T := Below (w3.heap.size)) (belowV_pre _) (.rd 0 (.rd 1 (.rd 2 (.rd 3 (.rd 4 (.rd 5 (.rd 6 (.rd 7 (.bt 8 (.rd 9 (.inv []))))))))))) (by kernel_rfl) rfl (by kernel_rfl) (by kernel_rfl) ?_
    iterate 8 (refine walkJ_rd rfl (fun K hK => ?_); go_simp; refine hK _ ?_; clear hK K)
    clear zd za
    have hd0 := (Below.refl w3.heap.size w3).drew
    have HD4 := hid (HD3.out.below hd0)
    have HL4 := hid (HL3.out.below hd0)
    have HR4 := hid (HR3.out.below hd0)
    have HP4 := hid (SlS.keep HP3.out (Keep.of_below (S := fun _ => True) hd0) (fun _ _ _ => trivial))
    have HG4 := hid (HG3.out.trans (DkG.of_below hd0))
    clear hd0 HD3 HL3 HR3 HP3 HG3
    generalize w3.drew = w4 at HD4 HL4 HR4 HP4 HG4 ⊢
    have SY := hid (Sync_any gd m v3 d3 w4 HD4.out hm)
    obtain ⟨sb, hsb⟩ : ∃ z, spB d3 = z := ⟨_, rfl⟩
    rw [hsb] at SY HAE
    obtain ⟨d5, hd5⟩ : ∃ z, syncD m d3 = z := ⟨_, rfl⟩
    rw [hd5] at SY HAD
    clear hsb hd5
    (refine walkJ_bt rfl (fun K hK => ?_); go_simp; refine SY.out.mono ?_; rintro r w5 ⟨rfl, hd5, hk5⟩; refine ⟨_, rfl, hK _ _ ?_⟩; clear hK K)
    have HD5 := hid hd5
    have hglgd : gl ≠ gd := fun e => HD4.out.nDS HL4.out (by decide) (by decide) (.inl e)
    have HL5 := hid (HL4.out.keep hk5 hglgd)
    have HR5 := hid (HR4.out.keep hk5 (fun b hb e => by
      obtain ⟨cur, k⟩ := HR4.out.blk hb
      exact HD4.out.nDS k (by decide) (by decide) (.inl e)))
    have HP5 := hid (SlS.keep HP4.out hk5 (fun b _ h e => h (.inl e)))
    have HG5 := hid (HG4.out.trans (DkG.of_own hk5))
    clear SY HD4 HL4 HR4 HP4 HG4 hd5 hk5 hglgd
    iterate 1 (refine walkJ_rd rfl (fun K hK => ?_); go_simp; refine hK _ ?_; clear hK K)
    refine walkJ_nil ?_
    cases sb with
    | false =>
      have ME := hid (met_any gl gd g m vs vr 14 w5 HL5.out)
      unfold pwE
      go_wp2_with fail
      refine ME.out.mono ?_
      rintro r w6 ⟨rfl, hl6, hk6⟩
      have HL6 := hid hl6
      have HD6 := hid (HD5.out.keep hk6 (fun b hb e => by
        rw [e] at hb
        exact HD5.out.nDS HL5.out (by decide) (by decide) hb))
      have HR6 := hid (HR5.out.keep hk6 (fun b hb e => by rw [e] at hb; exact HNR.out.2.2.1 hb))
      have HG6 := hid ((LoG.of_dk (gl := gl) (vr := vr) HG5.out).trans (LoG.of_own hk6))
      have he : Hid (re = 14) := hid (by rw [HAE.out]; rfl)
      clear ME hl6 hk6
      go_wp2
      go_ret
      exact ⟨ret_int he.out.symm, v3, vr, by rw [HAD.out]; exact HD6.out, by rw [he.out]; exact HL6.out, HG6.out, rvs, HR6.out, Nat.le_succ _⟩
    | true =>
      have he : Hid (re = 0) := hid (by rw [HAE.out]; rfl)
      unfold pwE
      clear hcp HAE
      obtain ⟨ar, cr, rfl, -, -, -⟩ := HR5.out.sl
      have hlt5 := Blk.lt HL5.out
      have hglr := HNR.out.2.2.1
      obtain ⟨nr, hnr⟩ : ∃ z, rvs.length = z := ⟨_, rfl⟩
      rw [hnr] at HL5 HR5 hglr hn
      have HRL := hid hnr
      clear hnr
      go_wp2_with fail
      have zr := fun y : SubT (Keep (fun b => Value.ownBlock (.slice ar nr cr) ≠ some b)) w5.drew => (((Keep.drew (fun b => Value.ownBlock (.slice ar nr cr) ≠ some b) w5).trans y.b).cell (p := ⟨gl, 2, none⟩) hlt5 hglr).trans HL5.out.cR
      refine wp_walkJ (T := Keep (fun b => Value.ownBlock (.slice ar nr cr) ≠ some b)) (keep_pre _) (.rd 0 (.rd 1 (.rd 2 (.rd 3 (.rd 4 (.rd 5 (.rd 6 (.mv 7 (.mv 8 (.mv 9 (.rd 10 (.rd 11 (.rd 12 (.bt 13 (.inv []))))))))))))))) (by kernel_rfl) rfl (by kernel_rfl) (by kernel_rfl) ?_
      iterate 7 (refine walkJ_rd rfl (fun K hK => ?_); go_simp; refine hK _ ?_; clear hK K)
      clear zr
      have hd0 := (Below.refl w5.heap.size w5).drew
      have HD6 := hid (HD5.out.below hd0)
      have HL6 := hid (HL5.out.below hd0)
      have HR6 := hid (HR5.out.below hd0)
      have HP6 := hid (SlS.keep HP5.out (Keep.of_below (S := fun _ => True) hd0) (fun _ _ _ => trivial))
      have HG6 := hid (HG5.out.trans (DkG.of_below hd0))
      clear hd0 HD5 HL5 HR5 HP5 HG5 hlt5
      generalize w5.drew = w6 at HD6 HL6 HR6 HP6 HG6 ⊢
      have hpr6 : BsR w6 (.slice ap n cp) p := by have := HP6.out.sl; rw [← HN.out] at this ⊢; exact this
      have CL := hid (CloneB_any p _ w6 hpr6 (by rw [HN.out]; omega))
      rw [HN.out] at CL
      (refine walkJ_mv rfl (fun K hK => ?_); go_simp; refine CL.out.mono ?_; rintro r w7 ⟨⟨v7, rfl, ho7⟩, hb7⟩; refine ⟨_, rfl, hK _ _ (Keep.of_below hb7) ?_⟩; clear hK K)
      obtain ⟨a7, c7, rfl, -⟩ := SlR.of_owns ho7
      have kN := Blk.new w7 #[.slice a7 n c7] 48
      have bN := alloc_below w7 (.cells #[.slice a7 n c7] 48)
      have hb8 := hb7.trans (bN.mono hb7.size)
      have HD8 := hid (HD6.out.below hb8)
      have HL8 := hid (HL6.out.below hb8)
      have HR8 := hid (HR6.out.below hb8)
      have HG8 := hid (HG6.out.trans (DkG.of_below hb8))
      have hsz8 : w6.heap.size ≤ (w7.alloc (.cells #[.slice a7 n c7] 48)).heap.size := hb8.size
      have hlo8 : lo ≤ (w7.alloc (.cells #[.slice a7 n c7] 48)).heap.size := Nat.le_trans hlo HG8.out.keep.size
      (refine walkJ_mv rfl (fun K hK => ?_); go_simp; refine hK _ _ (Keep.alloc _ _ _) ?_; clear hK K)
      clear CL hb7 ho7 bN hb8 HD6 HL6 HR6 HP6 HG6 hpr6 hsz8
      generalize w7.heap.size = H at kN ⊢
      generalize w7.alloc (.cells #[.slice a7 n c7] 48) = w8 at kN HD8 HL8 HR8 HG8 hlo8 ⊢
      refine walkJ_mv rfl (fun K hK => ⟨rfl, gives_appR (.tmp 49) (.tmp 52) _ rfl rfl rfl HR8.out rfl kN rfl hlo8 (by rw [HRL.out]; exact hn) (fun v9 w9 hr9 hg9 ho9 => hK _ _ (Keep.grown hg9 (fun k hk h => h hk)) ?_)⟩)
      clear hK K kN hlo8
      obtain ⟨a9, c9, rfl, -, -, -⟩ := hr9.sl
      have hk9 : Keep (fun b => Value.ownBlock (.slice ar nr cr) ≠ some b) w8 w9 := Keep.grown hg9 (fun k hk h => h hk)
      have HD9 := hid (HD8.out.keep hk9 (fun b hb e => by
        obtain ⟨cur, k⟩ := HR8.out.blk e
        exact HD8.out.nDS k (by decide) (by decide) hb))
      have HL9 := hid (HL8.out.keep hk9 hglr)
      have HR9 := hid hr9
      have HO9 := hid ho9
      have HK9 := hid hk9
      obtain ⟨n9, hn9⟩ : ∃ z, (rvs ++ [Value.slice a7 n c7]).length = z := ⟨_, rfl⟩
      have hn9' : n9 ≤ rvs.length + 1 := by rw [← hn9]; simp
      rw [hn9] at HR9 HO9 ⊢
      have HN9 := hid (⟨hn9, hn9'⟩ : (rvs ++ [Value.slice a7 n c7]).length = n9 ∧ n9 ≤ rvs.length + 1)
      clear hr9 hg9 ho9 hk9 hn9 hn9' HD8 HL8 HR8
      iterate 3 (refine walkJ_rd rfl (fun K hK => ?_); go_simp; refine hK _ ?_; clear hK K)
      have x2 := HL9.out.cR
      have f2 := Blk.frozen HL9.out 2
      have l2 := Blk.lt HL9.out
      (refine walkJ_bt rfl (fun K hK => ?_); go_simp; refine hK _ _ ?_; clear hK K)
      refine walkJ_nil ?_
      clear x2 f2 l2
      have hk10 := Keep.set (S := (· ≠ gl)) w9 (p := ⟨gl, 2, none⟩) (fun h => h rfl) (.slice a9 n9 c9)
      have HL10 : Hid (LgB (w9.setCell ⟨gl, 2, none⟩ (.slice a9 n9 c9)) gl gd g (m : Int) vs (.slice a9 n9 c9) false) := hid (Blk.set HL9.out 2 (.slice a9 n9 c9))
      have HD10 := hid (HD9.out.keep hk10 (fun b hb e => by
        rw [e] at hb
        exact HD9.out.nDS HL9.out (by decide) (by decide) hb))
      have HR10 := hid (HR9.out.keep hk10 (fun b hb e => by rw [e] at hb; exact HR9.out.ne_blk HL9.out (by decide) gl hb rfl))
      have HG10 : Hid (LoG w (w9.setCell ⟨gl, 2, none⟩ (.slice a9 n9 c9)) gl gd v v3 (.slice ar nr cr) (.slice a9 n9 c9)) := hid ((LoG.of_dk HG8.out).trans ⟨(HK9.out.mono (fun b _ hb => hb.2.2)).trans (hk10.mono (fun b _ hb => hb.2.1)), fun b hb => .inl hb, by
        rcases HO9.out with e | ⟨g', e, hg'⟩
        · exact .inl e
        · right
          intro b hb
          rw [e] at hb
          cases hb
          exact hg'⟩)
      clear hk10 HD9 HL9 HR9 HO9 HK9 HG8
      generalize w9.setCell ⟨gl, 2, none⟩ (.slice a9 n9 c9) = W at HL10 HD10 HR10 HG10 ⊢
      go_wp2
      go_ret
      exact ⟨ret_int he.out.symm, v3, _, by rw [HAD.out]; exact HD10.out, by rw [he.out]; exact HL10.out, by have h9 := HG10.out; rw [← HRL.out] at h9; exact h9, _, HR10.out, by rw [HN9.out.1]; exact HN9.out.2⟩

end Go.Proofs.Ytcpefolhohakmaa
