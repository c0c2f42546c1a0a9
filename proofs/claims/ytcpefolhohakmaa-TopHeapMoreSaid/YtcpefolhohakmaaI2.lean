/- Walk of shrink. -/
import Derived.Test.YtcpefolhohakmaaI1
namespace Go.Proofs.Ytcpefolhohakmaa
open Go.RowKit
attribute [local irreducible] seqS seqST walkV walkJ

/-- How many of the first n. -/
def cntB (p : Nat → Bool) : Nat → Nat
  | 0 => 0
  | k + 1 => cntB p k + if p k then 1 else 0
theorem cntB_le (p : Nat → Bool) (k : Nat) : cntB p k ≤ k := by
  induction k with
  | zero => exact Nat.le_refl _
  | succ k ih => unfold cntB; split <;> omega
/-- What has newly become even below k. -/
def newQ (J : Nat → Bool) (bs : Nat → Nat) (ev : Nat → Bool) : Nat → List Nat
  | 0 => []
  | k + 1 => newQ J bs ev k ++ if J (bs k) && !ev k then [k] else []
theorem newQ_mem (J : Nat → Bool) (bs : Nat → Nat) (ev : Nat → Bool) (k x : Nat) : x ∈ newQ J bs ev k ↔ x < k ∧ J (bs x) = true ∧ ev x = false := by
  induction k with
  | zero => simp [newQ]
  | succ k ih =>
    unfold newQ
    rw [List.mem_append, ih]
    by_cases h : J (bs k) = true ∧ ev k = false
    · rw [if_pos (by simp [h.1, h.2]), List.mem_singleton]
      constructor
      · rintro (⟨h1, h2⟩ | rfl)
        · exact ⟨by omega, h2⟩
        · exact ⟨by omega, h⟩
      · rintro ⟨h1, h2⟩
        by_cases e : x = k
        · exact .inr e
        · exact .inl ⟨by omega, h2⟩
    · rw [if_neg (by intro h2; simp at h2; exact h h2)]
      constructor
      · rintro (⟨h1, h2⟩ | h1)
        · exact ⟨by omega, h2⟩
        · cases h1
      · rintro ⟨h1, h2⟩
        refine .inl ⟨?_, h2⟩
        by_cases e : x = k
        · subst e; exact absurd h2 h
        · omega
theorem newQ_len (J : Nat → Bool) (bs : Nat → Nat) (ev : Nat → Bool) (k : Nat) : (newQ J bs ev k).length + cntB ev k = cntB (fun i => ev i || J (bs i)) k := by
  induction k with
  | zero => rfl
  | succ k ih =>
    unfold newQ cntB
    rw [List.length_append]
    cases J (bs k) <;> cases ev k <;> simp <;> omega
theorem newQ_le (J : Nat → Bool) (bs : Nat → Nat) (ev : Nat → Bool) (k : Nat) : (newQ J bs ev k).length ≤ k := by
  have := newQ_len J bs ev k
  have := cntB_le (fun i => ev i || J (bs i)) k
  omega
/-- The answers of shrink's first statement. -/
structure ShI (B : Nat) (w0 : World) (c n : Nat) (l : Nat → Bool) (V : Nat → Value) (w : World) : Prop where
  b : Below B w0 w
  c3 : l 3 = true → V 3 = .int .i64 (c : Int)
  c11 : l 11 = true → ∃ gi, V 11 = slV gi n ∧ B ≤ gi ∧ Blk w gi (arr n fun _ => .bool false) 4
  c12 : l 12 = true → V 12 = .int .i64 (c : Int)
  c13 : l 13 = true → V 13 = V 11

/-- Blocks that may hold the queue. -/
def QP (B gf gb ge : Nat) (g : Nat) : Prop := B ≤ g ∧ g ≠ gf ∧ g ≠ gb ∧ g ≠ ge
def QP2 (B gf gb ge gi : Nat) (g : Nat) : Prop := QP B gf gb ge g ∧ g ≠ gi
theorem SeR.qgrown {w w' : World} {gs gg gm gf gb ge g B : Nat} {gv qv : Value} {n : Nat} {m f : Mt} {bs : Nat → Nat} {ev : Nat → Bool} (h : SeR w gs gg gm gf gb ge gv qv n m f bs ev) (k : w.grownBy w' (some g)) (hg : QP B gf gb ge g)
    (hb : gs < B ∧ gg < B ∧ gm < B ∧ B ≤ gf ∧ B ≤ gb ∧ B ≤ ge) : SeR w' gs gg gm gf gb ge gv qv n m f bs ev := by
  obtain ⟨h1, h2, h3, h4⟩ := hg
  have hk : Keep (fun x => x ≠ g) w w' := Keep.grown k (fun j hj h => h (Option.some.inj hj).symm)
  exact h.keep hk (by omega) (by omega) (by omega) (fun e => h2 e.symm) (fun e => h3 e.symm) (fun e => h4 e.symm)
theorem SeR.setQ {w : World} {gs gg gm gf gb ge : Nat} {gv qv : Value} {n : Nat} {m f : Mt} {bs : Nat → Nat} {ev : Nat → Bool} (h : SeR w gs gg gm gf gb ge gv qv n m f bs ev) (h1 : gg ≠ gs) (h2 : gm ≠ gs) (h3 : gf ≠ gs) (h4 : gb ≠ gs) (h5 : ge ≠ gs) (u : Value) : SeR (w.setCell ⟨gs, 5, none⟩ u) gs gg gm gf gb ge gv u n m f bs ev :=
  ⟨h.s.set 5 u, h.g.other h1 u, h.m.other h2 u, h.f.other h3 u, h.b.other h4 u, h.e.other h5 u⟩
/-- What shrink leaves. -/
structure ShP (adj : Nat → Nat → Prop) (gs gg gm gf gb ge B : Nat) (gv : Value) (n r : Nat) (m f : Mt) (bs : Nat → Nat) (ev : Nat → Bool) (lev : Nat → Nat) (q : List Nat) (v u : Nat) (w0 w' : World) : Prop where
  out : ∃ f' bs' ev' qv' q', SeR w' gs gg gm gf gb ge gv qv' n m f' bs' ev' ∧ QuR w' (QP B gf gb ge) qv' q' ∧ SI n adj m r f' bs' ev' lev ∧ (∀ x, ev x = true → ev' x = true) ∧ (∀ x, f x ≠ none → f' x ≠ none) ∧ (∀ x y, bs x = bs y → bs' x = bs' y) ∧
    (∀ x ∈ q, x ∈ q') ∧ (∀ x ∈ q', x ∈ q ∨ ev' x = true) ∧ (∀ x, ev' x = true → ev x = true ∨ x ∈ q') ∧ bs' v = bs' u ∧ q'.length + cntB ev n = q.length + cntB ev' n ∧ cntB ev n ≤ cntB ev' n
  keep : Keep (fun k => k < B ∧ k ≠ gs) w0 w'

/-- The bases and the even vertices, as the loop goes. -/
def bsK (J : Nat → Bool) (c : Nat) (bs : Nat → Nat) (k : Nat) : Nat → Nat := fun i => if i < k ∧ J (bs i) = true then c else bs i
def evK (J : Nat → Bool) (bs : Nat → Nat) (ev : Nat → Bool) (k : Nat) : Nat → Bool := fun i => ev i || (decide (i < k) && J (bs i))
theorem cntB_congr {p p' : Nat → Bool} {k : Nat} (h : ∀ i, i < k → p i = p' i) : cntB p k = cntB p' k := by
  induction k with
  | zero => rfl
  | succ k ih => unfold cntB; rw [ih (fun i hi => h i (by omega)), h k (by omega)]
theorem cntB_evK (J : Nat → Bool) (bs : Nat → Nat) (ev : Nat → Bool) (n : Nat) : cntB (evK J bs ev n) n = cntB (fun i => ev i || J (bs i)) n :=
  cntB_congr fun i hi => by unfold evK; simp [hi]
theorem sd_head {m f : Mt} {bs : Nat → Nat} {ev : Nat → Bool} {lev : Nat → Nat} {b v : Nat} {L Y T : List Nat} (s : Sd m f bs ev lev b v L Y T) (hbb : bs b = b) : ∃ t T', T = t :: T' ∧ bs t = b ∧ ev t = true := by
  have h := s.sg.last
  rcases List.mem_append.1 h with h | h
  · exact absurd hbb (s.yy b h).2.1
  · cases T with
    | nil => cases h
    | cons t T' => exact ⟨t, T', rfl, (s.tt t (by simp)).2, (s.tt t (by simp)).1⟩
section
variable {n : Nat} {adj : Nat → Nat → Prop} {m : Mt} {r : Nat} {f : Mt} {bs : Nat → Nat} {ev : Nat → Bool} {lev : Nat → Nat}
theorem SI.cross (h : SI n adj m r f bs ev lev) (hM : Mat adj m) {b v u : Nat} {L K Y T W U : List Nat} (sv : Sd m f bs ev lev b v L Y T) (sw : Sd m f bs ev lev b u K W U)
    (hLK : ∀ x ∈ L, x ∉ K) : ∀ s ∈ W ++ U, ∀ o, m s = some o → o ∉ Y := by
  intro s hs o ho hoY
  have hYe : ∀ y ∈ Y, ev y = true := fun y hy => (sv.yy y hy).1
  have hWe : ∀ y ∈ W, ev y = true := fun y hy => (sw.yy y hy).1
  have hWm : ∀ y ∈ W, ev y = true ∧ bs y ∈ W := fun y hy => ⟨(sw.yy y hy).1, (sw.yy y hy).2.2.2⟩
  rcases List.mem_append.1 hs with hs | hs
  · have hz := h.inz_mate hM hWm (inz_self hs) ho
    rcases h.inz hWe hz with ⟨_, x, hx, e⟩ | ⟨e, _⟩
    · exact hLK _ (sv.yy o hoY).2.2.1 (by rw [e]; exact (sw.yy x hx).2.2.1)
    · rw [hYe o hoY] at e; cases e
  · obtain ⟨q1, q2⟩ := sw.tt s hs
    rcases h.mate_ev q1 ho with ⟨_, q3, _⟩ | ⟨q3, _⟩
    · exact (sv.yy o hoY).2.1 (by rw [q3, q2])
    · rw [hYe o hoY] at q3; cases q3
theorem shrink_end (h : SI n adj m r f bs ev lev) (G : Gr n adj) (hM : Mat adj m) {b v u : Nat} {L K Y T W U : List Nat} (sv : Sd m f bs ev lev b v L Y T) (sw : Sd m f bs ev lev b u K W U)
    (hLK : ∀ x ∈ L, x ∉ K) (hb : ev b = true) (hbb : bs b = b) (hv : ev v = true) (hu : ev u = true) (hvu : adj v u) {F : Mt} {J : Nat → Bool} (hF : F = markF m (markF m f u Y) v W) (hJ : J = markI m bs (markI m bs (fun _ => false) Y) W) :
    SI n adj m r F (bsK J b bs n) (evK J bs ev n) lev ∧ bsK J b bs n v = b ∧ bsK J b bs n u = b ∧ (∀ x, ev x = true → evK J bs ev n x = true) ∧ (∀ x, f x ≠ none → F x ≠ none) ∧ (∀ x y, bs x = bs y → bsK J b bs n x = bsK J b bs n y) ∧ (∀ x, J (bs x) = true → x < n) := by
  have hYe : ∀ y ∈ Y, ev y = true := fun y hy => (sv.yy y hy).1
  have hWe : ∀ y ∈ W, ev y = true := fun y hy => (sw.yy y hy).1
  have hJi : ∀ i, J (bs i) = true ↔ InZ m bs Y i ∨ InZ m bs W i := by
    intro i
    rw [hJ, markI_iff m bs W _ (h.mates sw), markI_iff m bs Y _ (h.mates sv)]
    unfold InZ
    simp
  have hlt : ∀ i, InZ m bs Y i ∨ InZ m bs W i → i < n := fun i hi => hi.elim (h.inz_lt G hM hYe) (h.inz_lt G hM hWe)
  have hdj : ∀ y ∈ Y, y ∉ W := fun y hy hw => hLK _ (sv.yy y hy).2.2.1 (sw.yy y hw).2.2.1
  have k1 : Mk F m u Y := by
    rw [hF]
    exact (markF_mk m Y f u sv.sim.left.nd).congr Y u (fun y hy => markF_out m W _ v y (hdj y hy))
  have k2 : Mk F m v W := by rw [hF]; exact markF_mk m W _ v sw.sim.left.nd
  have k3 : ∀ o, o ∉ Y → o ∉ W → F o = f o := fun o p q => by rw [hF, markF_out m W _ v o q, markF_out m Y _ u o p]
  obtain ⟨a1, a2, a3, a4, a5, a6⟩ := h.shrink G hM sv sw hLK hb hbb hv hu hvu (bs' := bsK J b bs n) (ev' := evK J bs ev n) k1 k2 k3
    (fun i hi => by
      have h1 := (hJi i).2 hi
      have h2 := hlt i hi
      unfold bsK evK
      rw [if_pos ⟨h2, h1⟩]
      exact ⟨rfl, by simp [h1, h2]⟩)
    (fun i hi => by
      have h1 : J (bs i) = false := by
        cases e : J (bs i) with
        | false => rfl
        | true => exact absurd ((hJi i).1 e) hi
      unfold bsK evK
      rw [if_neg (by rw [h1]; simp)]
      exact ⟨rfl, by simp [h1]⟩)
  exact ⟨a1, a2, a3, a4, a5, a6, fun x hx => hlt x ((hJi x).1 hx)⟩
end

set_option maxHeartbeats 8000000 in
set_option maxRecDepth 100000 in
theorem shrink_any {adj : Nat → Nat → Prop} {n : Nat} {m f : Mt} {bs : Nat → Nat} {ev : Nat → Bool} (G : Gr n adj) (hM : Mat adj m) {r : Nat} {lev : Nat → Nat} {gs gg gm gf gb ge B : Nat} {gv qv : Value} (hS : SI n adj m r f bs ev lev) (hn : n ≤ 1000)
    {v u : Nat} (hv : ev v = true) (hu : ev u = true) (hvu : adj v u) {q : List Nat} (hq : q.length ≤ 1000) (w : World) (h : SeR w gs gg gm gf gb ge gv qv n m f bs ev) (hQ : QuR w (QP B gf gb ge) qv q) (hBs : gs < B ∧ gg < B ∧ gm < B ∧ B ≤ gf ∧ B ≤ gb ∧ B ≤ ge) (hfb : gf ≠ gb) :
    Calls Try.prog 89 #[.pointer (some ⟨gs, 0, none⟩), .int .i64 (v : Int), .int .i64 (u : Int)] w fun e w' => e = .returned (.tuple #[]) ∧ ShP adj gs gg gm gf gb ge B gv n r m f bs ev lev q v u w w' := by
  have hMl : ∀ i j, m i = some j → j < n := fun i j e => (G.lt _ _ (hM.adj _ _ e)).2
  have hBl : ∀ i, i < n → bs i < n := fun i hi => by
    cases e : ev i with
    | true => exact hS.lt _ (hS.bev i e).1
    | false => rw [hS.bod i e]; exact hi
  obtain ⟨a1, a2⟩ := hS.bev v hv
  obtain ⟨b1, b2⟩ := hS.bev u hu
  obtain ⟨L, hL, -⟩ := hS.bp _ _ (Nat.le_refl _) a1 a2
  obtain ⟨K, hK, -⟩ := hS.bp _ _ (Nat.le_refl _) b1 b2
  obtain ⟨K1, c, K2, rfl, hcL, hK1⟩ := first_split (P := fun x => x ∈ L) K ⟨r, hK.last, hL.last⟩
  obtain ⟨L1, Y, T, W, U, sv, sw, hLK, hc1, hc2⟩ := hS.sides hM hv hu hL hK hcL hK1
  have LC := hid (fun w h => lca_any (gs := gs) (gg := gg) (gm := gm) (gf := gf) (gb := gb) (ge := ge) (gv := gv) (qv := qv) hS hn hMl hv hu hL hK hcL hK1 w h)
  obtain ⟨F1, hF1⟩ : ∃ F, markF m f u Y = F := ⟨_, rfl⟩
  obtain ⟨F, hF⟩ : ∃ F, markF m F1 v W = F := ⟨_, rfl⟩
  obtain ⟨J1, hJ1⟩ : ∃ F, markI m bs (fun _ => false) Y = F := ⟨_, rfl⟩
  obtain ⟨J, hJ⟩ : ∃ F, markI m bs J1 W = F := ⟨_, rfl⟩
  have HEND := hid (shrink_end hS G hM sv sw hLK hc1 hc2 hv hu hvu (F := F) (J := J) (by rw [hF1, hF]) (by rw [hJ1, hJ]))
  have hsg2 : Seg F1 m c u (W ++ U) := sw.sg.congr fun s hs o ho _ => by
    rw [← hF1]; exact markF_out m Y f u o (hS.cross hM sv sw hLK s hs o ho)
  obtain ⟨t1, T1, e1, e2, e3⟩ := sd_head sv hc2
  obtain ⟨t2, T2, e4, e5, e6⟩ := sd_head sw hc2
  have MA := hid (fun gi w (h : SeR w gs gg gm gf gb ge gv qv n m f bs ev) hI d => mark_any (gi := gi) (I := fun _ => false) (c := u) hMl hBl sv.sg sv.sim (fun y hy => ⟨(sv.yy y hy).2.1, hS.lt y (sv.yy y hy).1⟩) ⟨t1, T1, e1, e2, hS.lt _ e3⟩ w h hI d)
  have MB := hid (fun gi w (h : SeR w gs gg gm gf gb ge gv qv n m F1 bs ev) hI d => mark_any (gi := gi) (I := J1) (c := v) hMl hBl hsg2 sw.sim (fun y hy => ⟨(sw.yy y hy).2.1, hS.lt y (sw.yy y hy).1⟩) ⟨t2, T2, e4, e5, hS.lt _ e6⟩ w h hI d)
  rw [hF1, hJ1] at MA
  rw [hF, hJ] at MB
  have HBL := hid hBl
  have HE := hid h
  have HQU := hid hQ
  have HBS := hid hBs
  have HFB := hid hfb
  have hcn := hS.lt c hc1
  clear hMl hBl a1 a2 b1 b2 hL hK hcL hK1 sv sw hLK hc1 hc2 hF1 hF hJ1 hJ hsg2 e1 e2 e3 e4 e5 e6 h hQ hBs hfb
  go_enter Try.func89, Try.ntmps89
  go_wp2_with fail
  have hER := fun y : SubT (Below w.heap.size) w.drew => HE.out.below ((Below.refl w.heap.size w).drew.trans y.b)
  have z0 := fun y => (hER y).s.look 0 rfl
  have z1 := fun y => (hER y).g.look 0 rfl
  clear hER
  refine wp_walkJ (T := Below (w.heap.size)) (belowV_pre _) (.rd 0 (.rd 1 (.rd 2 (.rd 4 (.rd 5 (.rd 6 (.rd 7 (.rd 8 (.rd 9 (.rd 10 (.inv [3, 11, 12, 13]))))))))))) (by kernel_rfl) rfl (by kernel_rfl) (by kernel_rfl) ?_
  iterate 10 (refine walkJ_rd rfl (fun K hK => ?_); go_simp; refine hK _ ?_; clear hK K)
  clear z0 z1
  have hd0 := (Below.refl w.heap.size w).drew
  have HER0 := hid (HE.out.below hd0)
  have HQ0 := hid (HQU.out.below hd0)
  obtain ⟨Wd, hWd⟩ : ∃ Wd, w.drew = Wd := ⟨_, rfl⟩
  have hs9 : w.heap.size = Wd.heap.size := by rw [← hWd]; rfl
  rw [hWd] at hd0 HER0 HQ0 ⊢
  have HS9 := hid hs9
  clear hs9 hWd
  refine walkJ_inv (ShI w.heap.size Wd c n) [(3, 12), (11, 20), (12, 6), (13, 7)] (by kernel_rfl) ?_ ?_ ?_
  · exact ⟨Below.refl _ _, fun h => (by cases h), fun h => (by cases h), fun h => (by cases h), fun h => (by cases h)⟩
  · refine stepsI_cons [] [12, 13] [] rfl (by kernel_rfl) (by kernel_rfl) (by kernel_rfl) (fun K l V x hx hl hds hn hI hK => ?_) ?_
    · go_simp
      have hsx : w.heap.size ≤ x.heap.size := by rw [HS9.out]; exact hx.size
      refine (LC.out _ (HER0.out.below (below_eq hI.b HS9.out))).mono ?_
      rintro e w9 ⟨rfl, hb9⟩
      refine ⟨_, rfl, hK _ _ (hb9.mono hsx) ?_⟩
      exact ⟨hI.b.trans (hb9.mono hsx), fun _ => rfl, fun h => (by obtain ⟨gi, p1, p2, p3⟩ := hI.c11 h; exact ⟨gi, p1, p2, p3.below hb9⟩), fun h => hI.c12 h, fun h => hI.c13 h⟩
    refine stepsI_cons [] [13] [] rfl (by kernel_rfl) (by kernel_rfl) (by kernel_rfl) (fun K l V x hx hl hds hn hI hK => ?_) ?_
    · have hsx : w.heap.size ≤ x.heap.size := by rw [HS9.out]; exact hx.size
      have hb9 := alloc_below x (.cells (arr n fun _ => .bool false) 4)
      refine ⟨rfl, gives_mka (.tmp 19) (.tmp 19) 80 rfl 4 (.bool false) 1 Try.underlying80 infoBool rfl _ _ n rfl rfl (by omega) (by omega) (hK _ _ (hb9.mono hsx) ?_)⟩
      exact ⟨hI.b.trans (hb9.mono hsx), fun h => hI.c3 h, fun _ => ⟨_, rfl, hsx, Blk.new x _ _⟩, fun h => hI.c12 h, fun h => absurd (show l 13 = true from h) (by rw [hds.1]; simp)⟩
    refine stepsI_cons [3] [13] [(3, 12)] rfl (by kernel_rfl) (by kernel_rfl) (by kernel_rfl) (fun K l V x hx hl hds hn hI hK => ?_) ?_
    · simp only [putsP, hI.c3 hl.1]
      go_simp
      refine hK _ _ (Below.refl _ _) ?_
      exact ⟨hI.b, fun h => hI.c3 h, fun h => hI.c11 h, fun _ => rfl, fun h => hI.c13 h⟩
    refine stepsI_cons [3, 11, 12] [] [(3, 12), (11, 20), (12, 6)] rfl (by kernel_rfl) (by kernel_rfl) (by kernel_rfl) (fun K l V x hx hl hds hn hI hK => ?_) ?_
    · obtain ⟨gi, p1, p2, p3⟩ := hI.c11 hl.2.1
      simp only [putsP, hI.c3 hl.1, p1, hI.c12 hl.2.2.1]
      go_simp
      refine hK _ _ (Below.refl _ _) ?_
      exact ⟨hI.b, fun h => hI.c3 h, fun h => hI.c11 h, fun h => hI.c12 h, fun _ => p1.symm⟩
    exact stepsI_nil
  intro V W2 hW2 hI
  obtain ⟨gi, p1, p2, p3⟩ := hI.c11 rfl
  have qc3 := hI.c3 rfl
  have qc12 := hI.c12 rfl
  have qc13 := (hI.c13 rfl).trans p1
  have hbI := hd0.trans hI.b
  have HER1 := hid (HE.out.below hbI)
  have HQ1 := hid (HQU.out.below hbI)
  have HI1 := hid p3
  have DST : Hid (Dst gs gg gm gf gb ge gi) := hid (by
    obtain ⟨h1, h2, h3, h4, h5, h6⟩ := HBS.out
    have n1 := HE.out.s.lt
    have n2 := HE.out.g.lt
    have n3 := HE.out.m.lt
    have n4 := HE.out.f.lt
    have n5 := HE.out.b.lt
    have n6 := HE.out.e.lt
    exact ⟨by omega, by omega, by omega, HFB.out, blk_ne HE.out.f HE.out.e (by decide), by omega, by omega, by omega, by omega, by omega, by omega⟩)
  have hgB : w.heap.size ≤ gi := p2
  have hwB : Hid (∀ k, k < B ∧ k ≠ gs → k ≠ gf ∧ k ≠ gi ∨ w.heap.size ≤ k) := hid fun k hk => by
    have := HBS.out
    by_cases h : w.heap.size ≤ k
    · exact .inr h
    · left; omega
  clear hI hW2 HS9 hd0 HER0 HQ0 LC p2 p3
  simp only [putsP, p1, qc3, qc12, qc13]
  go_simp
  clear p1 qc3 qc12 qc13
  go_wp2_with fail
  refine (MA.out gi _ HER1.out HI1.out DST.out).mono ?_
  rintro r2 w3 ⟨rfl, hE3, hI3, hk3⟩
  have HER3 := hid hE3
  have HI3 := hid hI3
  clear MA HER1 HI1 hE3 hI3
  go_wp2_with fail
  refine (MB.out gi _ HER3.out HI3.out DST.out).mono ?_
  rintro r2 w4 ⟨rfl, hE4, hI4, hk4⟩
  have HER4 := hid hE4
  have HI4 := hid hI4
  have HK4 : Hid (Keep (fun k => k ≠ gf ∧ k ≠ gi) W2 w4) := hid (hk3.trans hk4)
  clear MB HER3 HI3 hE4 hI4 hk3 hk4
  have HQ4 : Hid (QuR w4 (QP2 B gf gb ge gi) qv q) := hid (by
    obtain ⟨gq, off, cap, cur, h1, h2, h3, h4⟩ := HQU.out
    have hlt := h3.lt
    exact ⟨gq, off, cap, cur, h1, ⟨h2, by omega⟩, HK4.out.blk (h3.below hbI) ⟨h2.2.1, by omega⟩, h4⟩)
  have HKW : Keep (fun k => k < B ∧ k ≠ gs) w w4 := by
    have h4 := HK4.out
    refine ⟨h4.os.trans hbI.os, h4.tape.trans hbI.tape, h4.output.trans hbI.output, Nat.le_trans hbI.size h4.size, fun k hk hk2 => (h4.block k (Nat.lt_of_lt_of_le hk hbI.size) ?_).trans (hbI.block k hk)⟩
    have := HBS.out
    exact ⟨by omega, by omega⟩
  have HE0 : Hid (SeR w4 gs gg gm gf gb ge gv qv n m F (bsK J c bs 0) (evK J bs ev 0)) := hid (by
    have e1 : bsK J c bs 0 = bs := funext fun i => by unfold bsK; rw [if_neg (by omega)]
    have e2 : evK J bs ev 0 = ev := funext fun i => by unfold evK; simp
    rw [e1, e2]; exact HER4.out)
  have HQ5 : Hid (QuR w4 (QP2 B gf gb ge gi) qv (q ++ newQ J bs ev 0)) := hid (by simpa [newQ] using HQ4.out)
  have a0 := HE0.out.s.look 0 rfl
  have a1 := HE0.out.g.look 0 rfl
  clear HER4 HQ4 HK4 HQ1 hbI hwB
  go_wp2_with fail
  clear a0 a1
  go_loopw [40] (fun z wr => ∃ (k : Nat) (qv' : Value), z = .int .i64 (k : Int) ∧ k ≤ n ∧ Hid (SeR wr gs gg gm gf gb ge gv qv' n m F (bsK J c bs k) (evK J bs ev k)) ∧ Hid (QuR wr (QP2 B gf gb ge gi) qv' (q ++ newQ J bs ev k)) ∧ Hid (Blk wr gi (arr n fun i => .bool (J i)) 4) ∧ Keep (fun k => k < B ∧ k ≠ gs) w wr) (fun z _ => n - (intOf z).toNat)
  case atStart => exact ⟨0, qv, rfl, Nat.zero_le _, HE0, HQ5, HI4, HKW⟩
  case round =>
    obtain ⟨k, qv', rfl, hk, HER, HQR, HIR, hkp⟩ := hrel
    by_cases hkn : k < n
    case neg =>
      obtain rfl : n = k := by omega
      have hk2 : ¬ (n : Int) < (n : Int) := by omega
      have hmc : (fun i => ev i || J (bs i)) = evK J bs ev n ∨ True := .inr trivial
      clear hmc
      go_wp2
      go_end0
      obtain ⟨t1, t2, t3, t4, t5, t6, t7⟩ := HEND.out
      refine ⟨rfl, ⟨F, _, _, qv', _, HER.out, HQR.out.mono (fun g _ hg => hg.1), t1, t4, t5, t6, fun x hx => by simp [hx], fun x hx => ?_, fun x hx => ?_, by rw [t2, t3], ?_, ?_⟩, hkp⟩
      · rcases List.mem_append.1 hx with hx | hx
        · exact .inl hx
        · obtain ⟨u1, u2, _⟩ := (newQ_mem J bs ev n x).1 hx
          right
          unfold evK
          simp [u1, u2]
      · unfold evK at hx
        cases hev : ev x with
        | true => exact .inl rfl
        | false =>
          rw [hev] at hx
          simp at hx
          exact .inr (List.mem_append.2 (.inr ((newQ_mem J bs ev n x).2 ⟨hx.1, hx.2, hev⟩)))
      · have e := newQ_len J bs ev n
        have e2 := cntB_evK J bs ev n
        rw [List.length_append, e2]; omega
      · have e := newQ_len J bs ev n
        have e2 := cntB_evK J bs ev n
        rw [e2]; omega
    case pos =>
      have hk2 : (k : Int) < (n : Int) := by omega
      have hbk := HBL.out k hkn
      have e1 : bsK J c bs k k = bs k := by unfold bsK; rw [if_neg (by omega)]
      have e2 : evK J bs ev k k = ev k := by unfold evK; simp
      have a3 := HER.out.s.look 3 rfl
      have ab := HER.out.b.arr_look hkn
      have ai := HIR.out.arr_look hbk
      rw [e1] at ab
      have hb2 : (bs k : Int) < (n : Int) := by omega
      obtain ⟨p, hp⟩ : ∃ p, bs k = p := ⟨_, rfl⟩
      rw [hp] at ab ai hb2
      have HP := hid hp
      have E2 := hid e2
      have HNL := hid (newQ_le J bs ev k)
      clear hp e1 e2
      cases hJp : J p with
      | false =>
        rw [hJp] at ai
        have e3 : bsK J c bs (k + 1) = bsK J c bs k := funext fun i => by
          unfold bsK
          by_cases e : i = k
          · subst e; rw [HP.out, hJp, if_neg (by simp), if_neg (by simp)]
          · have : (i < k + 1 ∧ J (bs i) = true) ↔ (i < k ∧ J (bs i) = true) := by constructor <;> (rintro ⟨h1, h2⟩; exact ⟨by omega, h2⟩)
            simp only [this]
        have e4 : evK J bs ev (k + 1) = evK J bs ev k := funext fun i => by
          unfold evK
          by_cases e : i = k
          · subst e; rw [HP.out, hJp]; simp
          · have : decide (i < k + 1) = decide (i < k) := by rw [decide_eq_decide]; omega
            rw [this]
        have e5 : newQ J bs ev (k + 1) = newQ J bs ev k := by
          show newQ J bs ev k ++ _ = _
          rw [HP.out, hJp]; simp
        have HER2 : Hid (SeR wr gs gg gm gf gb ge gv qv' n m F (bsK J c bs (k + 1)) (evK J bs ev (k + 1))) := hid (by rw [e3, e4]; exact HER.out)
        have HQ2 : Hid (QuR wr (QP2 B gf gb ge gi) qv' (q ++ newQ J bs ev (k + 1))) := hid (by rw [e5]; exact HQR.out)
        clear e3 e4 e5 HER HQR hJp
        go_wp2
        go_roundw
        case rel => exact ⟨k + 1, qv', by go_num, by omega, HER2, HQ2, HIR, hkp⟩
        case measure => simp [intOf]; omega
      | true =>
        rw [hJp] at ai
        have e3 : arr n (fun j => if j = k then Value.int .i64 (c : Int) else .int .i64 (bsK J c bs k j : Int)) = arr n (fun j => .int .i64 (bsK J c bs (k + 1) j : Int)) := arr_congr fun i hi => by
          unfold bsK
          by_cases e : i = k
          · subst e; rw [if_pos rfl, if_pos ⟨by omega, by rw [HP.out]; exact hJp⟩]
          · rw [if_neg e]
            have : (i < k + 1 ∧ J (bs i) = true) ↔ (i < k ∧ J (bs i) = true) := by constructor <;> (rintro ⟨h1, h2⟩; exact ⟨by omega, h2⟩)
            simp only [this]
        have DD := DST.out
        have fb := HER.out.b.frozen k
        have lb := HER.out.b.lt
        have hgbs : gb ≠ gs := by have := HBS.out; omega
        have hgbg : gb ≠ gg := by have := HBS.out; omega
        have hgbm : gb ≠ gm := by have := HBS.out; omega
        have hgbe : gb ≠ ge := blk_ne HER.out.b HER.out.e (by decide)
        have hges : ge ≠ gs := by have := HBS.out; omega
        have hgeg : ge ≠ gg := by have := HBS.out; omega
        have hgem : ge ≠ gm := by have := HBS.out; omega
        have hgef : ge ≠ gf := fun h => DD.f5 h.symm
        have kb1 := HER.out.b.arr_set k (.int .i64 (c : Int))
        rw [e3] at kb1
        have HE1 : Hid (SeR (wr.setCell ⟨gb, k, none⟩ (.int .i64 (c : Int))) gs gg gm gf gb ge gv qv' n m F (bsK J c bs (k + 1)) (evK J bs ev k)) := hid
          ⟨HER.out.s.other hgbs.symm _, HER.out.g.other hgbg.symm _, HER.out.m.other hgbm.symm _, HER.out.f.other DD.f4 _, kb1, HER.out.e.other hgbe.symm _⟩
        have HI1 := hid (HIR.out.other (p := ⟨gb, k, none⟩) DD.i4 (.int .i64 (c : Int)))
        have hkp1 := hkp.trans (Keep.set wr (p := ⟨gb, k, none⟩) (fun h => by have := HBS.out; have h9 := h.1; show False; have h10 : gb < B := h9; omega) (.int .i64 (c : Int)))
        have HQ1 := hid (HQR.out.keep (S := fun g => g ≠ gb) (Keep.set wr (p := ⟨gb, k, none⟩) (fun h => h rfl) (.int .i64 (c : Int))) (fun g hg => hg.1.2.2.1))
        have a4 := HE1.out.s.look 4 rfl
        have ae := HE1.out.e.arr_look hkn
        rw [E2.out] at ae
        clear e3 kb1
        cases hek : ev k with
        | true =>
          rw [hek] at ae
          have e4 : evK J bs ev (k + 1) = evK J bs ev k := funext fun i => by
            unfold evK
            by_cases e : i = k
            · subst e; rw [hek]; simp
            · have : decide (i < k + 1) = decide (i < k) := by rw [decide_eq_decide]; omega
              rw [this]
          have e5 : newQ J bs ev (k + 1) = newQ J bs ev k := by
            show newQ J bs ev k ++ _ = _
            rw [hek]; simp
          have HER2 : Hid (SeR (wr.setCell ⟨gb, k, none⟩ (.int .i64 (c : Int))) gs gg gm gf gb ge gv qv' n m F (bsK J c bs (k + 1)) (evK J bs ev (k + 1))) := hid (by rw [e4]; exact HE1.out)
          have HQ2 : Hid (QuR (wr.setCell ⟨gb, k, none⟩ (.int .i64 (c : Int))) (QP2 B gf gb ge gi) qv' (q ++ newQ J bs ev (k + 1))) := hid (by rw [e5]; exact HQ1.out)
          clear e4 e5 HER HQR hJp HE1 HQ1 hek HIR hkp DD
          go_wp2
          go_roundw
          case rel => exact ⟨k + 1, qv', by go_num, by omega, HER2, HQ2, HI1, hkp1⟩
          case measure => simp [intOf]; omega
        | false =>
          rw [hek] at ae
          have fe := HE1.out.e.frozen k
          have le := HE1.out.e.lt
          have e4 : arr n (fun j => if j = k then Value.bool true else .bool (evK J bs ev k j)) = arr n (fun j => .bool (evK J bs ev (k + 1) j)) := arr_congr fun i hi => by
            unfold evK
            by_cases e : i = k
            · subst e; rw [if_pos rfl, HP.out, hJp]; simp
            · rw [if_neg e]
              have : decide (i < k + 1) = decide (i < k) := by rw [decide_eq_decide]; omega
              rw [this]
          have e5 : newQ J bs ev (k + 1) = newQ J bs ev k ++ [k] := by
            show newQ J bs ev k ++ _ = _
            rw [hek, HP.out, hJp]; simp
          have ke2 := HE1.out.e.arr_set k (.bool true)
          rw [e4] at ke2
          have HE2 : Hid (SeR ((wr.setCell ⟨gb, k, none⟩ (.int .i64 (c : Int))).setCell ⟨ge, k, none⟩ (.bool true)) gs gg gm gf gb ge gv qv' n m F (bsK J c bs (k + 1)) (evK J bs ev (k + 1))) := hid
            ⟨HE1.out.s.other hges.symm _, HE1.out.g.other hgeg.symm _, HE1.out.m.other hgem.symm _, HE1.out.f.other hgef.symm _, HE1.out.b.other hgbe _, ke2⟩
          have HI2 := hid (HI1.out.other (p := ⟨ge, k, none⟩) DD.i5 (.bool true))
          have hkp2 := hkp1.trans (Keep.set (wr.setCell ⟨gb, k, none⟩ (.int .i64 (c : Int))) (p := ⟨ge, k, none⟩) (fun h => by have := HBS.out; have h9 := h.1; have h10 : ge < B := h9; omega) (.bool true))
          have HQ2 := hid (HQ1.out.keep (S := fun g => g ≠ ge) (Keep.set (wr.setCell ⟨gb, k, none⟩ (.int .i64 (c : Int))) (p := ⟨ge, k, none⟩) (fun h => h rfl) (.bool true)) (fun g hg => hg.1.2.2.2))
          have a5 := HE2.out.s.look 5 rfl
          have HE5 := hid e5
          clear e4 e5 ke2 HER HQR hJp HE1 HQ1 hek HIR hkp HI1 hkp1
          obtain ⟨W2, hW2⟩ : ∃ W2, (wr.setCell ⟨gb, k, none⟩ (.int .i64 (c : Int))).setCell ⟨ge, k, none⟩ (.bool true) = W2 := ⟨_, rfl⟩
          have HN2 := hid (Blk.new ((wr.setCell ⟨gb, k, none⟩ (.int .i64 (c : Int))).setCell ⟨ge, k, none⟩ (.bool true)) #[.int .i64 (k : Int)] 3)
          have HB2 := hid (alloc_below ((wr.setCell ⟨gb, k, none⟩ (.int .i64 (c : Int))).setCell ⟨ge, k, none⟩ (.bool true)) (.cells #[.int .i64 (k : Int)] 3))
          have hsz : ((wr.setCell ⟨gb, k, none⟩ (.int .i64 (c : Int))).setCell ⟨ge, k, none⟩ (.bool true)).heap.size = wr.heap.size := by simp [World.setCell]
          rw [hsz] at HN2
          have HSZ := hid hsz
          have HQ3 := hid (HQ2.out.below HB2.out)
          have HE3 := hid (HE2.out.below HB2.out)
          have HKA := hid (hkp2.trans (Keep.of_below HB2.out))
          have HIA := hid (HI2.out.below HB2.out)
          have HLQ : Hid ((q ++ newQ J bs ev k).length ≤ 100000) := hid (by rw [List.length_append]; have := HNL.out; omega)
          have HPP : Hid (∀ g, (((wr.setCell ⟨gb, k, none⟩ (.int .i64 (c : Int))).setCell ⟨ge, k, none⟩ (.bool true)).alloc (.cells #[.int .i64 (k : Int)] 3)).heap.size ≤ g → QP2 B gf gb ge gi g) := hid (fun g hg => by
            have n1 := HE3.out.f.lt
            have n2 := HE3.out.b.lt
            have n3 := HE3.out.e.lt
            have n4 := HIA.out.lt
            have := HBS.out
            exact ⟨⟨by omega, by omega, by omega, by omega⟩, by omega⟩)
          clear hW2 hsz HQ2 HE2 HI2 hkp2 DD HB2
          go_wp2_with (first
            | (at_builtin; refine wpList_appQ rfl (.tmp 78) (.tmp 80) rfl rfl HQ3.out rfl HN2.out HPP.out HLQ.out ?_; intro v5 w5 g5 hq5 hg5 hp5; obtain ⟨g6, o6, c6, cur6, rfl, h6⟩ := id hq5; obtain ⟨L5, hL5⟩ : ∃ L, (q ++ newQ J bs ev k ++ [k]).length = L := ⟨_, rfl⟩; rw [hL5] at hq5 ⊢; clear hL5; have HE6 := hid (SeR.qgrown HE3.out hg5 hp5.1 HBS.out); have x6 := HE6.out.s.look 5 rfl; have f6 := HE6.out.s.frozen 5; have l6 := HE6.out.s.lt; have HQ6 := hid hq5; clear hq5))
          have hk5 : Keep (fun x => x ≠ g5) (((wr.setCell ⟨gb, k, none⟩ (.int .i64 (c : Int))).setCell ⟨ge, k, none⟩ (.bool true)).alloc (.cells #[.int .i64 (k : Int)] 3)) w5 := Keep.grown hg5 (fun j hj h => h (Option.some.inj hj).symm)
          have HI6 := hid (hk5.blk HIA.out (fun e => hp5.2 e.symm))
          have hbs := HBS.out
          have HK6 := hid (HKA.out.trans (hk5.mono (S' := fun k => k < B ∧ k ≠ gs) (fun x _ hx e => by have := hp5.1.1; omega)))
          have HE7 := hid (HE6.out.setQ (blk_ne HE6.out.g HE6.out.s (by decide)) (blk_ne HE6.out.m HE6.out.s (by decide)) (by omega) (by omega) (by omega) (.slice (some ⟨g6, o6, none⟩) L5 c6))
          have hgi : gi ≠ gs := DST.out.i1
          go_roundw
          case rel =>
            refine ⟨k + 1, .slice (some ⟨g6, o6, none⟩) L5 c6, by go_num, by omega, HE7, hid ?_, hid (HI6.out.other (p := ⟨gs, 5, none⟩) hgi _), HK6.out.trans (Keep.set w5 (p := ⟨gs, 5, none⟩) (fun h => h.2 rfl) _)⟩
            rw [HE5.out, ← List.append_assoc]
            exact HQ6.out.keep (S := fun g => g ≠ gs) (Keep.set w5 (p := ⟨gs, 5, none⟩) (fun h => h rfl) _) (fun g hg => by have := hg.1.1; omega)
          case measure => simp [intOf]; omega

end Go.Proofs.Ytcpefolhohakmaa
