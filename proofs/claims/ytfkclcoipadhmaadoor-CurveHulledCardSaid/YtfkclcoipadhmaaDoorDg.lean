/- append within a region that draws its order; walk of curve.Slopes. -/
import Derived.Test.YtfkclcoipadhmaaDoorDf
namespace Go.Proofs.YtfkclcoipadhmaaDoor
open Go.RowKit
attribute [local irreducible] seqS seqST walkV walkJ

theorem infoFrac : (Tryd.prog.info? 32).map (fun i => (i.zero, i.size, i.bytes)) = some (some (frV 0 0), 2, 16) := by kernel_rfl
theorem cells_news {w : World} {H : Nat} {news : List Value} {te : TypeId} (h : Blk w H news.toArray te) : ∀ j u, news[j]? = some u → w.cell? ((⟨H, 0, none⟩ : Addr).add j) = some u := by
  intro j u hj
  have := h.cell j
  rw [List.getElem?_toArray, hj] at this
  by_cases h0 : j = 0
  · subst h0
    simpa [Addr.add] using this
  · simpa [Addr.add, h0] using this
/-- append of one element that lies in a row of its own. -/
theorem gives_app {P : Program} {o : Oper} {a : Act} {w : World} {K : Value → World → Prop} (s x : Operand) (t ty : TypeId) (ho : o.op = .call { callee := .builtin .append, args := #[s, x], argTypes := #[t, t] }) (hty : o.type = ty)
    (base : Nat) (e : TypeId) (z : Value) (size bytes : Nat) (ht : P.underlying t = some (.slice e)) (hi : (P.info? e).map (fun i => (i.zero, i.size, i.bytes)) = some (some z, size, bytes))
    (hzs : z.cells.size = size) (hsz : 0 < size) {v : Value} {n : Nat} {xs : List Value} (hs : a.eval s = v) (hown : w.ownsRow base e size v n xs)
    (news : List Value) (H : Nat) {te : TypeId} (hk : Blk w H news.toArray te) (hx : a.eval x = .slice (some ⟨H, 0, none⟩) 1 1) (hl : news.length = size) (h1 : ∀ u ∈ news, u.oneCell' = true)
    (h63 : n + 1 ≤ maxLen) (hbytes : (n + 1) * bytes ≤ 140737488355328) (hbase : base ≤ w.heap.size)
    (h : ∀ g cap w', w'.ownsRow base e size (.slice (some ⟨g, 0, none⟩) (n + 1) cap) (n + 1) (xs ++ news) → w.grownBy w' v.ownBlock → base ≤ g → K (.slice (some ⟨g, 0, none⟩) (n + 1) cap) w') : gives P o a w K := by
  obtain ⟨i, hi0, hz, hsize, hby⟩ := info_parts hi
  obtain ⟨v', w', hr, h2, h3, h4, h5⟩ := run_append_own_at (P := P) w base t ty e i z size bytes ht hi0 hz hsize hby hzs hsz v n xs hown ⟨H, 0, none⟩ 1 1 news (by omega) (cells_news hk) h1 h63 hbytes hbase
  have h0 := h2
  obtain ⟨hl', ⟨rfl, hn⟩ | ⟨g', cap', cur, rfl, hg, hh, _⟩⟩ := h2
  · omega
  · exact gives_append2 s x t ho hty hs hx hr (h g' cap' w' h0 h3 hg)

theorem owns_calT {g : Nat} {W W' : World} {B0 : Nat} {e : TypeId} {size : Nat} {v : Value} {n : Nat} {xs : List Value} (k : CalT g W W') (h : W.ownsRow B0 e size v n xs) (hg : g < B0) : W'.ownsRow B0 e size v n xs := by
  refine h.kept (row := some g) k ?_
  cases hv : v.ownBlock with
  | none => exact .inl rfl
  | some k =>
    right
    intro e
    have h2 := (h.lt k hv).1
    have := Option.some.inj e
    omega
/-- What Slopes hands back. -/
def slpE (c : List P4) : Int := if RV c then (match slsO (toQ c) (c.length - 1) with | some _ => 0 | none => 5) else 2
def slpL (c : List P4) : List Rat := if RV c then (slsO (toQ c) (c.length - 1)).getD [] else []
theorem slsO_len {c : List Pt} : ∀ {k : Nat} {l : List Rat}, slsO c k = some l → l.length = k
  | 0, l, h => by cases h; rfl
  | k + 1, l, h => by
    unfold slsO at h
    cases h1 : slsO c k with
    | none => rw [h1] at h; cases h
    | some l' =>
      rw [h1] at h
      cases h2 : slO (c.getD k (0, 0)) (c.getD (k + 1) (0, 0)) with
      | none => rw [h2] at h; cases h
      | some s => rw [h2] at h; cases h; rw [List.length_append, slsO_len h1]; rfl
theorem slsO_step {c : List Pt} {k : Nat} {ok : Bool} {l : List Rat} (h : ok = (slsO c k).isSome) (h1 : ok = true → slsO c k = some l) :
    calK ok (slO (c.getD k (0, 0)) (c.getD (k + 1) (0, 0))) = (slsO c (k + 1)).isSome ∧ (calK ok (slO (c.getD k (0, 0)) (c.getD (k + 1) (0, 0))) = true → slsO c (k + 1) = some (l ++ [calV ok (slO (c.getD k (0, 0)) (c.getD (k + 1) (0, 0)))])) := by
  have e : slsO c (k + 1) = (slsO c k).bind fun l => (slO (c.getD k (0, 0)) (c.getD (k + 1) (0, 0))).map fun s => l ++ [s] := rfl
  rw [e]
  cases ok with
  | false =>
    have : slsO c k = none := by
      cases hs : slsO c k with
      | none => rfl
      | some l => rw [hs] at h; cases h
    rw [this]
    exact ⟨rfl, fun h => by cases h⟩
  | true =>
    rw [h1 rfl]
    cases slO (c.getD k (0, 0)) (c.getD (k + 1) (0, 0)) with
    | none => exact ⟨rfl, fun h => by cases h⟩
    | some s => exact ⟨rfl, fun _ => rfl⟩

set_option maxHeartbeats 8000000 in
set_option maxRecDepth 100000 in
theorem Slopes_any (c : List P4) (v : Value) (w : World) (h : P4R 0 w v c) (hz : Z0 w) :
    Calls Tryd.prog 16 #[v] w fun r w' => (∃ vl, r = .returned (.tuple #[vl, .int .i64 (slpE c)]) ∧ QsR w.heap.size w' vl (slpL c)) ∧ Below w.heap.size w w' := by
  obtain ⟨ao, cap, rfl, hcap, hmax, hc⟩ := id h
  unfold maxLen at hmax
  have VA := hid (cValid_any c (.slice ao c.length cap) w h hz)
  obtain ⟨E, hE⟩ : ∃ E, slpE c = E := ⟨_, rfl⟩
  obtain ⟨R, hR⟩ : ∃ R, slpL c = R := ⟨_, rfl⟩
  rw [hE, hR]
  have HE := hid hE
  have HR := hid hR
  clear hE hR hc
  obtain ⟨L, hL⟩ : ∃ L, c.length = L := ⟨_, rfl⟩
  rw [hL] at VA hcap h ⊢
  have HL := hid hL
  clear hL
  go_enter Tryd.func16, Tryd.ntmps16
  go_wp2_with fail
  refine VA.out.mono ?_
  rintro r w1 ⟨rfl, hb1⟩
  by_cases hrv : RV c
  case neg =>
    rw [decide_eq_false hrv]
    have e1 : E = 2 := by rw [← HE.out]; exact if_neg hrv
    have e2 : R = [] := by rw [← HR.out]; exact if_neg hrv
    subst e1 e2
    go_wp2
    go_ret2
    exact ⟨⟨_, rfl, SlR.nil _ _⟩, hb1⟩
  rw [decide_eq_true hrv]
  have hq := (P4R.toQ (h : P4R 0 w (.slice ao L cap) c) hrv).below hb1
  have hz1 := hz.below hb1
  have e1 : slpE c = match slsO (toQ c) (c.length - 1) with | some _ => 0 | none => 5 := if_pos hrv
  have e2 : slpL c = (slsO (toQ c) (c.length - 1)).getD [] := if_pos hrv
  have hcv := rv_cv hrv
  have hlen := toQ_len c
  rw [HL.out] at hlen e1 e2
  generalize toQ c = C at hq e1 e2 hcv hlen
  have CVC := hid hcv
  have HCL := hid hlen
  have HE2 := hid (HE.out.symm.trans e1)
  have HR2 := hid (HR.out.symm.trans e2)
  have hL2 : 2 ≤ L := by have := hcv.two; omega
  have hL48 : L ≤ 48 := by have := hcv.most; omega
  obtain ⟨ao2, cap2, he2, -, -, hcc⟩ := hq
  obtain ⟨rfl, -⟩ : ao2 = ao ∧ True := by
    injection he2 with g1 g2 g3
    exact ⟨g1.symm, trivial⟩
  obtain ⟨b, off, rfl, hb, -, -, -, -⟩ := p_cell hcc (show 0 < C.length by omega)
  have HCC := hid hcc
  have hget : ∀ (i : Nat) (W : World), i < L → Below w1.heap.size w1 W → W.cell? ⟨b, off + i * 4, none⟩ = some (.int .i64 (C.getD i (0, 0)).1.num) ∧ W.cell? ⟨b, off + i * 4 + 1, none⟩ = some (.int .i64 ((C.getD i (0, 0)).1.den : Int)) ∧ W.cell? ⟨b, off + i * 4 + 2, none⟩ = some (.int .i64 (C.getD i (0, 0)).2.num) ∧ W.cell? ⟨b, off + i * 4 + 3, none⟩ = some (.int .i64 ((C.getD i (0, 0)).2.den : Int)) := by
    intro i W hi hbW
    obtain ⟨b', off', he, hb', x0, x1, x2, x3⟩ := p_cell HCC.out (show i < C.length by rw [HCL.out]; exact hi)
    cases he
    exact ⟨(hbW.cell (p := ⟨b, off + i * 4, none⟩) hb').trans x0, (hbW.cell (p := ⟨b, off + i * 4 + 1, none⟩) hb').trans x1, (hbW.cell (p := ⟨b, off + i * 4 + 2, none⟩) hb').trans x2, (hbW.cell (p := ⟨b, off + i * 4 + 3, none⟩) hb').trans x3⟩
  have HGET := hid hget
  have wL : IntKind.i64.wrap ((L : Int) - 1) = ((L - 1 : Nat) : Int) := by rw [IntWalk.i64_left]; unfold wrap64; omega
  clear e1 e2 hcv hlen he2 hcc hget hrv VA HE HR
  go_wp2_with fail
  have k4 := Blk.new w1 #[.int .i64 0] 68
  have ba := alloc_below w1 (.cells #[.int .i64 0] 68)
  have hz2 := hz1.below ba
  obtain ⟨w2, hw2⟩ : ∃ w2, w1.alloc (.cells #[.int .i64 0] 68) = w2 := ⟨_, rfl⟩
  obtain ⟨g, hg⟩ : ∃ g, w1.heap.size = g := ⟨_, rfl⟩
  have HB1 := hid hb1
  rw [hw2] at k4 ba hz2 ⊢
  rw [hg] at k4 ba hb ⊢
  have hs2 : g + 1 ≤ w2.heap.size := k4.lt
  have HG := hid hg
  have HZ1 := hid hz1
  have HGT : Hid (∀ (i : Nat) (W : World), i < L → Below g w1 W → W.cell? ⟨b, off + i * 4, none⟩ = some (.int .i64 (C.getD i (0, 0)).1.num) ∧ W.cell? ⟨b, off + i * 4 + 1, none⟩ = some (.int .i64 ((C.getD i (0, 0)).1.den : Int)) ∧ W.cell? ⟨b, off + i * 4 + 2, none⟩ = some (.int .i64 (C.getD i (0, 0)).2.num) ∧ W.cell? ⟨b, off + i * 4 + 3, none⟩ = some (.int .i64 ((C.getD i (0, 0)).2.den : Int))) := by
    have := HGET.out
    rw [hg] at this
    exact hid this
  clear hw2 hg hz1 hb1 HGET HCC
  go_loopw [5, 13] (fun y x wr => ∃ i : Nat, x = .int .i64 i ∧ i ≤ L - 1 ∧ (∃ ok l, ok = (slsO C i).isSome ∧ (ok = true → slsO C i = some l) ∧ l.length = i ∧ Hid (wr.ownsRow (g + 1) 32 2 y i (frsC l)) ∧ Hid (CalB wr g ok)) ∧ Below g w1 wr ∧ w2.heap.size ≤ wr.heap.size) (fun _ x _ => L - 1 - (intOf x).toNat)
  case atStart => exact ⟨0, rfl, Nat.zero_le _, ⟨true, [], rfl, fun _ => rfl, rfl, hid (World.ownsRow_nil _ _ _ _), hid k4⟩, ba, Nat.le_refl _⟩
  case round =>
    obtain ⟨i, rfl, hi, ⟨ok, l, hok, hokl, hll, HO, HK⟩, hbel, hsz⟩ := hrel
    have hzr : Z0 wr := HZ1.out.below (by rw [HG.out]; exact hbel)
    by_cases hiL : i < L - 1
    · have hi2 : (i : Int) < ((L - 1 : Nat) : Int) := by omega
      have hiL2 : (i : Int) < (L : Int) := by omega
      have hiL3 : i < L := by omega
      have hi1L : i + 1 < L := by omega
      have hi1L2 : (i : Int) + 1 < (L : Int) := by omega
      have hi1p : 0 ≤ (i : Int) + 1 := by omega
      have wI : IntKind.i64.wrap ((i : Int) + 1) = ((i + 1 : Nat) : Int) := by rw [IntWalk.i64_left]; unfold wrap64; omega
      have hst := slsO_step hok hokl
      have hP := CVC.out.fit i (by rw [HCL.out]; exact hiL3)
      have hQ := CVC.out.fit (i + 1) (by rw [HCL.out]; exact hi1L)
      have hri := CVC.out.rise i (by rw [HCL.out]; exact hi1L)
      have gP := fun W hb => HGT.out i W hiL3 hb
      have gQ := fun W hb => HGT.out (i + 1) W hi1L hb
      obtain ⟨P, hPe⟩ : ∃ P, C.getD i (0, 0) = P := ⟨_, rfl⟩
      obtain ⟨Q, hQe⟩ : ∃ P, C.getD (i + 1) (0, 0) = P := ⟨_, rfl⟩
      rw [hPe, hQe] at hst hri
      rw [hPe] at hP gP
      rw [hQe] at hQ gQ
      have SL := hid (fun w hz hk => slope_any P Q hP hQ (fun e => by rw [e] at hri; exact absurd hri.1 Rat.lt_irrefl) g ok w hz hk)
      obtain ⟨k3, hk3⟩ : ∃ o, calK ok (slO P Q) = o := ⟨_, rfl⟩
      obtain ⟨v3, hv3⟩ : ∃ o, calV ok (slO P Q) = o := ⟨_, rfl⟩
      rw [hk3, hv3] at SL hst
      unfold frQ ptQ at SL
      have HST := hid hst
      have HGP := hid gP
      have HGQ := hid gQ
      have HLL := hid hll
      clear hst hP hQ hri hPe hQe hk3 hv3 gP gQ hok hokl hll
      go_wp2_with fail
      have hd : CalT g wr wr.drew := CalT.of_below (Below.refl wr.heap.size wr).drew
      have hgr : g ≤ wr.heap.size := Nat.le_trans (by omega) hsz
      have bx := fun x : SubT (CalT g) wr.drew => CalT.below hbel ((calT_pre g).trans hd x.b) (Nat.le_refl _) hgr
      have z0 := fun x : SubT (CalT g) wr.drew => (HGP.out x.w (bx x)).1
      have z1 := fun x : SubT (CalT g) wr.drew => (HGP.out x.w (bx x)).2.1
      have z2 := fun x : SubT (CalT g) wr.drew => (HGP.out x.w (bx x)).2.2.1
      have z3 := fun x : SubT (CalT g) wr.drew => (HGP.out x.w (bx x)).2.2.2
      have z4 := fun x : SubT (CalT g) wr.drew => (HGQ.out x.w (bx x)).1
      have z5 := fun x : SubT (CalT g) wr.drew => (HGQ.out x.w (bx x)).2.1
      have z6 := fun x : SubT (CalT g) wr.drew => (HGQ.out x.w (bx x)).2.2.1
      have z7 := fun x : SubT (CalT g) wr.drew => (HGQ.out x.w (bx x)).2.2.2
      clear bx
      refine wp_walkJ (T := CalT g) (calT_pre g) (.rd 0 (.rd 1 (.rd 2 (.rd 3 (.rd 4 (.rd 5 (.rd 6 (.rd 7 (.rd 8 (.rd 9 (.mv 10 (.mv 11 (.bt 12 (.rd 13 (.inv []))))))))))))))) (by kernel_rfl) rfl (by kernel_rfl) (by kernel_rfl) ?_
      iterate 10 (refine walkJ_rd rfl (fun K hK => ?_); go_simp; refine hK _ ?_; clear hK K)
      clear z0 z1 z2 z3 z4 z5 z6 z7
      have hkd : CalB wr.drew g ok := CalB.below HK.out (Below.refl wr.heap.size wr).drew
      have hzd := hzr.below (Below.refl wr.heap.size wr).drew
      (refine walkJ_mv rfl (fun K hK => ?_); go_simp; refine (SL.out _ hzd hkd).mono ?_; rintro e w3 ⟨rfl, hk3, ht3⟩; refine ⟨_, rfl, hK _ _ ht3 ?_⟩; clear hK K)
      have tw3 := (calT_pre g).trans hd ht3
      have ho3 := owns_calT tw3 HO.out (Nat.lt_succ_self g)
      have hb3 := CalT.below hbel tw3 (Nat.le_refl _) hgr
      have hs3 := Nat.le_trans hsz tw3.size
      (refine walkJ_mv rfl (fun K hK => ?_); go_simp; refine hK _ _ (CalT.of_below (alloc_below _ _)) ?_; clear hK K)
      have kN := Blk.new w3 [Value.int .i64 v3.num, Value.int .i64 (v3.den : Int)].toArray 32
      have ba3 := alloc_below w3 (.cells [Value.int .i64 v3.num, Value.int .i64 (v3.den : Int)].toArray 32)
      have ho4 := owns_below ho3 ba3
      have hk4 := CalB.below hk3 ba3
      have hb4 := hb3.trans (ba3.mono (by omega))
      have hs4 := Nat.le_trans hs3 ba3.size
      refine walkJ_bt rfl (fun K hK => ⟨rfl, gives_app (.tmp 16) (.tmp 27) 23 23 rfl rfl (g + 1) 32 (frV 0 0) 2 16 Tryd.underlying23 infoFrac rfl (by decide) rfl ho4 [Value.int .i64 v3.num, Value.int .i64 (v3.den : Int)] w3.heap.size kN rfl rfl (by simp [Value.oneCell']) (by unfold maxLen; omega) (by omega) (by omega) (fun g5 cap5 w5 ho5 hgr5 hbg5 => hK _ _ ?_)⟩)
      clear hK K
      iterate 1 (refine walkJ_rd rfl (fun K hK => ?_); go_simp; refine hK _ ?_; clear hK K)
      refine walkJ_nil ?_
      have hown : ∀ k, u5.ownBlock = some k → g + 1 ≤ k := fun k hk => (ho4.lt k hk).1
      have hk5 : CalB w5 g k3 := (World.grownBy.block hgr5 g hk4.lt (fun e => by have := hown g e.symm; omega)).trans hk4
      have hb5 : Below g w1 w5 := hb4.grown hgr5 (by omega) (fun j hj => by have := hown j hj; omega)
      have hs5 := Nat.le_trans hs4 hgr5.size
      rw [← show frsC (l ++ [v3]) = frsC l ++ [Value.int .i64 v3.num, Value.int .i64 (v3.den : Int)] from frsC_append l [v3]] at ho5
      have HO5 := hid ho5
      have HK5 := hid hk5
      clear ho5 hk5 hgr5 ho4 hk4 hb4 ho3 hb3 hk3 ht3 tw3 kN ba3 hd hkd hzd
      go_wp2
      go_roundw
      case rel => exact ⟨i + 1, by go_num, by omega, ⟨k3, l ++ [v3], HST.out.1, HST.out.2, by rw [List.length_append, HLL.out]; rfl, HO5, HK5⟩, hb5, hs5⟩
      case measure => simp [intOf]; omega
    · obtain rfl : i = L - 1 := by omega
      have hi2 : ¬ ((L - 1 : Nat) : Int) < ((L - 1 : Nat) : Int) := by omega
      obtain ⟨ao3, c3, rfl, -⟩ := id (SlR.of_owns HO.out)
      have hBw : Below w.heap.size w wr := HB1.out.trans ((show Below w1.heap.size w1 wr by rw [HG.out]; exact hbel).mono HB1.out.size)
      have hwg : w.heap.size ≤ g := by rw [← HG.out]; exact HB1.out.size
      have hr := SlR.mono (SlR.of_owns HO.out) (show w.heap.size ≤ g + 1 by omega)
      have c0 := HK.out.look 0 rfl
      cases ok with
      | true =>
        have hs := hokl rfl
        have e1 : E = 0 := by rw [HE2.out, hs]
        have e2 : R = l := by rw [HR2.out, hs]; rfl
        subst e1 e2
        have HRR := hid hr
        have HLL := hid hll
        clear hok hokl hs hr hll HE2 HR2
        go_wp2
        go_ret2
        refine ⟨⟨_, rfl, ?_⟩, hBw⟩
        unfold QsR
        rw [HLL.out]
        exact HRR.out
      | false =>
        have hs : slsO C (L - 1) = none := by
          cases hs : slsO C (L - 1) with
          | none => rfl
          | some l' => rw [hs] at hok; cases hok
        have e1 : E = 5 := by rw [HE2.out, hs]
        have e2 : R = [] := by rw [HR2.out, hs]; rfl
        subst e1 e2
        clear hok hokl hs hr hll HE2 HR2
        go_wp2_with fail
        have hd := (Below.refl wr.heap.size wr).drew
        have z0 := fun x : SubT (Below wr.heap.size) wr.drew => (Blk.below HK.out (hd.trans x.b)).look 0 rfl
        refine wp_walkJ (T := Below (wr.heap.size)) (belowV_pre _) (.rd 0 (.rd 1 (.rd 2 (.rd 3 (.inv []))))) (by kernel_rfl) rfl (by kernel_rfl) (by kernel_rfl) ?_
        iterate 4 (refine walkJ_rd rfl (fun K hK => ?_); go_simp; refine hK _ ?_; clear hK K)
        refine walkJ_nil ?_
        go_wp2
        go_ret2
        exact ⟨⟨_, rfl, SlR.nil _ _⟩, hBw.trans (hd.mono hBw.size)⟩

end Go.Proofs.YtfkclcoipadhmaaDoor
