/- The loops of matching: each exposed glove is searched from, and the way that a search finds is turned over. -/
import Derived.Test.YtcpefolhohakmaaI5
namespace Go.Proofs.Ytcpefolhohakmaa
open Go.RowKit
attribute [local irreducible] seqS seqST walkV walkJ

theorem Alt.lt {n : Nat} {adj : Nat → Nat → Prop} {m : Mt} (G : Gr n adj) : ∀ {l : List Nat} {s : Nat} {t : List Nat}, Alt adj m l → l = s :: t → s < n → ∀ x ∈ l, x < n := by
  intro l s t h
  induction h generalizing s t with
  | one r _ =>
    intro e hs x hx
    obtain ⟨rfl, -⟩ := List.cons.inj e
    rw [List.mem_singleton.1 hx]
    exact hs
  | cons a o b l' _ hab _ ih =>
    intro e hs x hx
    obtain ⟨rfl, -⟩ := List.cons.inj e
    rcases List.mem_cons.1 hx with rfl | hx
    · exact hs
    · exact ih rfl (G.lt _ _ hab).2 x hx
/-- What the turning of a way keeps. -/
structure AgI (n : Nat) (f m : Mt) (root : Nat) (M c : Mt) (v s : Nat) (l : List Nat) : Prop where
  vn : v < n
  fv : f v = some s
  seg : Seg f m root s (s :: l)
  eq : ∀ x ∈ s :: l, c x = m x
  sim : Sim m (s :: l)
  nv : v ∉ s :: l
  fin : augP c v (s :: l) = M
  lt : ∀ x ∈ s :: l, x < n
  ml : ∀ x o, m x = some o → o < n
  rx : m root = none
theorem AgI.step {n : Nat} {f m M c : Mt} {root v s : Nat} {l : List Nat} (h : AgI n f m root M c v s l) :
    (c s = none ∧ upd (upd c v (some s)) s (some v) = M) ∨ ∃ o t l', l = t :: l' ∧ c s = some o ∧ AgI n f m root M (upd (upd c v (some s)) s (some v)) o t l' := by
  have h0 := h.eq s (by simp)
  have hf := h.fin
  unfold augP at hf
  cases hm : m s with
  | none =>
    rw [hm] at h0
    rw [h0] at hf
    exact .inl ⟨h0, hf⟩
  | some o =>
    rw [hm] at h0
    rw [h0] at hf
    refine .inr ?_
    have hs := h.seg
    generalize hL : s :: l = L at hs
    cases hs with
    | one =>
      have := h.rx
      rw [hm] at this
      cases this
    | cons _ o' t l2 hso hot hl2 =>
      rw [hm] at hso
      obtain rfl := Option.some.inj hso
      obtain ⟨-, rfl⟩ := List.cons.inj hL
      obtain ⟨l', rfl⟩ := hl2.head
      have hsl := (List.nodup_cons.1 h.sim.nd).1
      refine ⟨o, t, l', rfl, h0, h.ml _ _ hm, hot, hl2, fun x hx => ?_, h.sim.tail, fun hx => h.sim.no s (by simp) o (by simp [List.mem_cons.1 hx]) hm, hf, fun x hx => h.lt x (by simp [List.mem_cons.1 hx]), h.ml, h.rx⟩
      have e1 : x ≠ s := fun e => hsl (e ▸ hx)
      have e2 : x ≠ v := fun e => h.nv (by rw [← e]; exact List.mem_cons_of_mem _ hx)
      rw [upd_ne _ _ e1, upd_ne _ _ e2]
      exact h.eq x (List.mem_cons_of_mem _ hx)

theorem AgI.start {n : Nat} {adj : Nat → Nat → Prop} (G : Gr n adj) {m f : Mt} (hM : Mat adj m) {root v s : Nat} {l : List Nat} (hmr : m root = none) (hv : v < n) (hmv : m v = none) (hfv : f v = some s) (hadj : adj v s) (hseg : Seg f m root s l) (halt : Alt adj m l) (hsim : Sim m l) (hvl : v ∉ l)
    (hE : ∀ r, r < root → m r = none → EvM n adj m r) : ∃ M l', AgI n f m root M m v s l' ∧ Mat adj M ∧ ∀ r, r < root + 1 → M r = none → EvM n adj M r := by
  obtain ⟨l', rfl⟩ := hseg.head
  obtain ⟨h1, h2, h3, h4⟩ := augP_ok (n := n) G (s :: l') v m m hM hmv (fun _ _ => rfl) s l' rfl hadj halt hsim hvl
  refine ⟨augP m v (s :: l'), l', ⟨hv, hfv, hseg, fun _ _ => rfl, hsim, hvl, rfl, halt.lt G rfl (G.lt _ _ hadj).2, fun x o h => (G.lt _ _ (hM.adj _ _ h)).2, hmr⟩, h1, fun r hr hn => ?_⟩
  obtain ⟨e1, e2, e3⟩ := h4 r hn
  have e4 : r ≠ root := fun e => e3 (e ▸ hseg.last)
  exact evM_keep G hM hmv hadj halt hsim hvl (hE r (by omega) e1)
/-- A graph of older blocks behind new ones. -/
theorem GrR.below_lt {S S' : Nat → Prop} {w w' : World} {p : Value} {n : Nat} {nb : Nat → List Nat} (h : GrR S w p n nb) (k : Below w.heap.size w w') (hs : ∀ b, b < w.heap.size → S b → S' b) : GrR S' w' p n nb :=
  ((h.mono (S' := fun b => b < w.heap.size ∧ S b) (fun _ hb h => ⟨hb, h⟩)).keep (Keep.of_below (S := fun _ => True) k) (fun _ _ _ => trivial)).mono (fun b _ h => hs b h.1 h.2)

/-- The first statement of matching: the graph without one glove, the empty matching, the search. -/
structure MtI (B n : Nat) (nb : Nat → List Nat) (w0 : World) (l : Nat → Bool) (V : Nat → Value) (w : World) : Prop where
  k : Below B w0 w
  a2 : l 2 = true → GrR (fun b => (l 7 = true → V 7 ≠ slV b n) ∧ (l 9 = true → V 9 ≠ .pointer (some ⟨b, 0, none⟩))) w (V 2) n nb
  a7 : l 7 = true → ∃ g, V 7 = slV g n ∧ B ≤ g ∧ Blk w g (arr n fun _ => .int .i64 0) 3
  a8 : l 8 = true → V 8 = .agg #[V 2, V 7, .slice none 0 0, .slice none 0 0, .slice none 0 0, .slice none 0 0]
  a9 : l 9 = true → ∃ g, V 9 = .pointer (some ⟨g, 0, none⟩) ∧ B ≤ g ∧ Blk w g #[V 2, V 7, .slice none 0 0, .slice none 0 0, .slice none 0 0, .slice none 0 0] 133
  a10 : l 10 = true → V 10 = V 9

/-- What matching hands back: a matching of which each exposed glove has a certificate. -/
structure MtcR (ad : Nat → Nat → Bool) (n B : Nat) (r : Ending) (w' : World) : Prop where
  out : ∃ (gm : Nat) (m : Mt), r = .returned (slV gm n) ∧ B ≤ gm ∧ Blk w' gm (arr n fun i => oI (m i)) 3 ∧ Mat (fun i j => ad i j = true) m ∧ ∀ r, r < n → m r = none → EvM n (fun i j => ad i j = true) m r

set_option maxHeartbeats 8000000 in
set_option maxRecDepth 100000 in
theorem matching_gen {ad : Nat → Nat → Bool} {n : Nat} (G : Gr n (fun i j => ad i j = true)) {g0 : Nat} {gv0 but : Value} (hn1 : n ≤ 400) (w : World) (hg0 : Blk w g0 #[.int .i64 (n : Int), gv0] 78)
    (HL : ∀ x, Below w.heap.size w x → Calls Try.prog 65 #[.pointer (some ⟨g0, 0, none⟩), but] x fun r w' => (∃ p', r = .returned p' ∧ GrR (fun b => b < w.heap.size ∨ x.heap.size ≤ b) w' p' n (fun i => nbT ad i n)) ∧ Below x.heap.size x w') :
    Calls Try.prog 32 #[.pointer (some ⟨g0, 0, none⟩), but] w fun r w' => MtcR ad n w.heap.size r w' ∧ Below w.heap.size w w' := by
  have HLS := hid HL
  clear HL
  go_enter Try.func32, Try.ntmps32
  go_wp2_with fail
  have z0 := fun y : SubT (Below w.heap.size) w.drew => (hg0.drew.below' y.b hg0.lt).look 0 rfl
  refine wp_walkJ (T := Below (w.heap.size)) (belowV_pre _) (.rd 0 (.rd 1 (.rd 3 (.rd 4 (.rd 5 (.rd 6 (.inv [2, 7, 8, 9, 10]))))))) (by kernel_rfl) rfl (by kernel_rfl) (by kernel_rfl) ?_
  iterate 6 (refine walkJ_rd rfl (fun K hK => ?_); go_simp; refine hK _ ?_; clear hK K)
  clear z0
  have hkd := (Below.refl w.heap.size w).drew
  obtain ⟨Wd, hWd⟩ : ∃ Wd, w.drew = Wd := ⟨_, rfl⟩
  obtain ⟨B, hB⟩ : ∃ B, w.heap.size = B := ⟨_, rfl⟩
  have hs9 : B = Wd.heap.size := by rw [← hB, ← hWd]; rfl
  rw [hWd] at hkd ⊢
  rw [hB] at hkd HLS ⊢
  have HB := hid hB
  have HS9 := hid hs9
  have HKD := hid hkd
  clear hs9 hWd hB hkd hg0
  refine walkJ_inv (MtI B n (fun i => nbT ad i n) Wd) [(2, 13), (7, 18), (8, 19), (9, 20), (10, 5)] (by kernel_rfl) ?_ ?_ ?_
  · exact ⟨Below.refl _ _, fun h => (by cases h), fun h => (by cases h), fun h => (by cases h), fun h => (by cases h), fun h => (by cases h)⟩
  · refine stepsI_cons [] [8, 9, 10] [] rfl (by kernel_rfl) (by kernel_rfl) (by kernel_rfl) (fun K l V x hx hl hds hn hI hK => ?_) ?_
    · have hsx : B ≤ x.heap.size := by rw [HS9.out]; exact hx.size
      go_simp
      refine (HLS.out x (HKD.out.trans hx)).mono ?_
      rintro r w9 ⟨⟨p9, rfl, kg9⟩, hbl9⟩
      have hb9 := hbl9.mono hsx
      refine ⟨_, rfl, hK _ _ hb9 ?_⟩
      exact ⟨hI.k.trans hb9, fun _ => kg9.mono fun b _ hb => ⟨fun h7 e => (by
        obtain ⟨g, p1, p2, p3⟩ := hI.a7 h7
        have e2 := p1.symm.trans e
        injection e2 with e3; injection e3 with e4; injection e4 with e5
        have := p3.lt
        rcases hb with hb | hb <;> omega), fun h9 => absurd (show l 9 = true from h9) (by rw [hds.2.1]; simp)⟩, fun h => (by obtain ⟨g, p1, p2, p3⟩ := hI.a7 h; exact ⟨g, p1, p2, p3.below hbl9⟩), fun h => absurd (show l 8 = true from h) (by rw [hds.1]; simp), fun h => absurd (show l 9 = true from h) (by rw [hds.2.1]; simp), fun h => hI.a10 h⟩
    refine stepsI_cons [] [8, 9, 10] [] rfl (by kernel_rfl) (by kernel_rfl) (by kernel_rfl) (fun K l V x hx hl hds hn hI hK => ?_) ?_
    · have hsx : B ≤ x.heap.size := by rw [HS9.out]; exact hx.size
      have hb0 := alloc_below x (.cells (arr n fun _ => .int .i64 0) 3)
      have hb9 := hb0.mono hsx
      refine ⟨rfl, gives_mka _ _ 37 rfl 3 (.int .i64 0) 8 Try.underlying37 infoInt rfl _ _ n rfl rfl (by omega) (by omega) (hK _ _ hb9 ?_)⟩
      exact ⟨hI.k.trans hb9, fun h => GrR.below_lt (hI.a2 h) hb0 (fun b hb _ => ⟨fun _ e => (by injection e with e3; injection e3 with e4; injection e4 with e5; omega), fun h9 => absurd (show l 9 = true from h9) (by rw [hds.2.1]; simp)⟩), fun _ => ⟨_, rfl, hsx, Blk.new x _ _⟩, fun h => absurd (show l 8 = true from h) (by rw [hds.1]; simp), fun h => absurd (show l 9 = true from h) (by rw [hds.2.1]; simp), fun h => hI.a10 h⟩
    refine stepsI_cons [2, 7] [9, 10] [(2, 13), (7, 18)] rfl (by kernel_rfl) (by kernel_rfl) (by kernel_rfl) (fun K l V x hx hl hds hn hI hK => ?_) ?_
    · have hsx : B ≤ x.heap.size := by rw [HS9.out]; exact hx.size
      have hb9 := Below.refl B x
      obtain ⟨gg, gw, vs, q1, -⟩ := hI.a2 hl.1
      obtain ⟨gm, q2, -⟩ := hI.a7 hl.2.1
      unfold slV at q2
      simp only [putsP, q1, q2]
      go_simp
      refine hK _ _ hb9 ?_
      exact ⟨hI.k.trans hb9, fun h => (hI.a2 h), fun h => hI.a7 h, fun _ => (by show _ = Value.agg #[V 2, V 7, _, _, _, _]; rw [q1, q2]; rfl), fun h => absurd (show l 9 = true from h) (by rw [hds.1]; simp), fun h => hI.a10 h⟩
    refine stepsI_cons [2, 7, 8] [10] [(2, 13), (7, 18), (8, 19)] rfl (by kernel_rfl) (by kernel_rfl) (by kernel_rfl) (fun K l V x hx hl hds hn hI hK => ?_) ?_
    · have hsx : B ≤ x.heap.size := by rw [HS9.out]; exact hx.size
      have hb0 := alloc_below x (.cells #[V 2, V 7, .slice none 0 0, .slice none 0 0, .slice none 0 0, .slice none 0 0] 133)
      have hb9 := hb0.mono hsx
      simp only [putsP, hI.a8 hl.2.2.1]
      go_simp
      refine hK _ _ hb9 ?_
      exact ⟨hI.k.trans hb9, fun h => GrR.below_lt (hI.a2 h) hb0 (fun b hb h2 => ⟨h2.1, fun _ e => (by injection e with e3; injection e3 with e4; injection e4 with e5; omega)⟩), fun h => (by obtain ⟨g, p1, p2, p3⟩ := hI.a7 h; exact ⟨g, p1, p2, p3.below hb0⟩), fun h => hI.a8 h, fun _ => ⟨_, rfl, hsx, Blk.new x _ _⟩, fun h => absurd (show l 10 = true from h) (by rw [hds.1]; simp)⟩
    refine stepsI_cons [2, 7, 8, 9] [] [(2, 13), (7, 18), (8, 19), (9, 20)] rfl (by kernel_rfl) (by kernel_rfl) (by kernel_rfl) (fun K l V x hx hl hds hn hI hK => ?_) ?_
    · have hsx : B ≤ x.heap.size := by rw [HS9.out]; exact hx.size
      have hb9 := Below.refl B x
      obtain ⟨gs, q1, -⟩ := hI.a9 hl.2.2.2.1
      simp only [putsP, q1]
      go_simp
      refine hK _ _ hb9 ?_
      exact ⟨hI.k.trans hb9, fun h => hI.a2 h, fun h => hI.a7 h, fun h => hI.a8 h, fun h => hI.a9 h, fun _ => q1.symm⟩
    exact stepsI_nil
  intro V W2 hW2 hI
  obtain ⟨gg, gw, vs, p2, hgs, hgm, kg, kw, hrows⟩ := hI.a2 rfl
  obtain ⟨gm, p7, hm1, km⟩ := hI.a7 rfl
  obtain ⟨gs, p9, hs1, ks⟩ := hI.a9 rfl
  have p8 := hI.a8 rfl
  have p10 := (hI.a10 rfl).trans p9
  have HGG : Hid (gg ≠ gs) := hid fun e => (hgs.2 rfl) (by rw [p9, e])
  have HROW : Hid (RowsR (fun b => b ≠ gs ∧ b ≠ gm) W2 (slV gw n) n (fun i => nbT ad i n)) := hid ⟨gw, vs, rfl, ⟨fun e => hgm.2 rfl (by rw [p9, e]), fun e => hgm.1 rfl (by rw [p7, e])⟩, kw, fun i hi => SlS.mono (hrows i hi) (fun b _ hb => ⟨fun e => hb.2 rfl (by rw [p9, e]), fun e => hb.1 rfl (by rw [p7, e])⟩)⟩
  rw [p2, p7] at ks
  have HGM : Hid (gm ≠ gs) := hid (blk_ne km ks (by decide))
  have HKB := hid (HKD.out.trans hI.k)
  have HM1 := hid hm1
  have HS1 := hid hs1
  clear hI hW2 HS9 HKD hgs hgm kw hrows HLS
  simp only [putsP, p2, p7, p8, p9, p10]
  go_simp
  clear p2 p7 p8 p9 p10
  have a1 := ks.look 1 rfl
  unfold slV at a1
  go_wp2_with fail
  clear a1
  go_loopw [26] (fun z wr => ∃ k : Nat, z = .int .i64 (k : Int) ∧ k ≤ n ∧ Hid (Blk wr gm (arr n fun i => .int .i64 (if i < k then -1 else 0)) 3) ∧ Keep (· ≠ gm) W2 wr) (fun z _ => n - (intOf z).toNat)
  case atStart => exact ⟨0, rfl, Nat.zero_le _, hid (by simpa using km), Keep.refl _ _⟩
  case round =>
    obtain ⟨k, rfl, hk, HW, hkp⟩ := hrel
    by_cases hkn : k < n
    case pos =>
      have hk2 : (k : Int) < (n : Int) := by omega
      have kS2 := hkp.blk ks (by show gs ≠ gm; exact HGM.out.symm)
      have a2 := kS2.look 1 rfl
      unfold slV at a2
      have x0 := HW.out.arr_look hkn
      have f0 := HW.out.frozen k
      have hlt := HW.out.lt
      have kW2 := HW.out.arr_set k (.int .i64 (-1))
      have e : arr n (fun j => if j = k then Value.int .i64 (-1) else .int .i64 (if j < k then -1 else 0)) = arr n (fun i => .int .i64 (if i < k + 1 then -1 else 0)) := arr_congr fun i hi => by
        by_cases h1 : i = k
        · subst h1; rw [if_pos rfl, if_pos (by omega)]
        · rw [if_neg h1]
          by_cases h2 : i < k
          · rw [if_pos h2, if_pos (by omega)]
          · rw [if_neg h2, if_neg (by omega)]
      rw [e] at kW2
      have HW2 := hid kW2
      have hkp2 := hkp.trans (Keep.set wr (p := ⟨gm, k, none⟩) (fun h => h rfl) (.int .i64 (-1)))
      clear kW2 e HW hkp kS2
      go_wp2
      go_roundw
      case rel => exact ⟨k + 1, by go_num, by omega, HW2, hkp2⟩
      case measure => simp [intOf]; omega
    case neg =>
      obtain rfl : n = k := by omega
      have hk2 : ¬ (n : Int) < (n : Int) := by omega
      have km3 : Blk wr gm (arr n fun i => oI ((fun _ => none : Mt) i)) 3 := by
        have := HW.out
        rw [arr_congr (f' := fun i => oI ((fun _ => none : Mt) i)) (fun i hi => by rw [if_pos hi]; rfl)] at this
        exact this
      have HM0 := hid km3
      have HS0 : Hid (∃ x2 x3 x4 x5, Blk wr gs #[.pointer (some ⟨gg, 0, none⟩), slV gm n, x2, x3, x4, x5] 133) := hid ⟨_, _, _, _, hkp.blk ks (by show gs ≠ gm; exact HGM.out.symm)⟩
      have HG0 := hid (hkp.blk kg (by show gg ≠ gm; exact blk_ne kg km (by decide)))
      have HR0 := hid (HROW.out.keep hkp (fun b _ hb => hb.2))
      have HK0 : Hid (Keep (· < B) w wr) := hid ((Keep.of_below' HKB.out (fun _ _ h => h)).trans (hkp.mono (fun b _ hb => by have := HM1.out; have h9 : b < B := hb; show b ≠ gm; omega)))
      have HMT0 : Hid (Mat (fun i j => ad i j = true) (fun _ => none)) := hid ⟨fun _ _ h => (by cases h), fun _ _ h => (by cases h)⟩
      have a1 := (HS0.out.choose_spec.choose_spec.choose_spec.choose_spec).look 1 rfl
      unfold slV at a1
      clear HW hkp ks kg km hk hkn hk2 km3 HROW hm1 hs1 HKB
      go_wp2_with fail
      clear a1
      go_loopw [41] (fun z wr => ∃ (k : Nat) (m : Mt), z = .int .i64 (k : Int) ∧ k ≤ n ∧ Hid (∃ x2 x3 x4 x5, Blk wr gs #[.pointer (some ⟨gg, 0, none⟩), slV gm n, x2, x3, x4, x5] 133) ∧ Hid (Blk wr gm (arr n fun i => oI (m i)) 3) ∧ Hid (Blk wr gg #[.int .i64 (n : Int), .slice (some ⟨gw, 0, none⟩) n n] 78) ∧ Hid (RowsR (fun b => b ≠ gs ∧ b ≠ gm) wr (slV gw n) n (fun i => nbT ad i n)) ∧ Hid (Mat (fun i j => ad i j = true) m) ∧ Hid (∀ r, r < k → m r = none → EvM n (fun i j => ad i j = true) m r) ∧ Hid (Keep (· < B) w wr)) (fun z _ => n - (intOf z).toNat)
      case atStart => exact ⟨0, _, rfl, Nat.zero_le _, HS0, HM0, HG0, HR0, HMT0, hid (fun r h => absurd h (Nat.not_lt_zero _)), HK0⟩
      case round =>
        obtain ⟨k, m, rfl, hk, HS, HM, HG, HR, HMT, HEV, HK⟩ := hrel
        clear HS0 HM0 HG0 HR0 HMT0 HK0
        obtain ⟨x2, x3, x4, x5, ks⟩ := HS.out
        have a1 := ks.look 1 rfl
        unfold slV at a1
        by_cases hkn : k < n
        case neg =>
          obtain rfl : n = k := by omega
          have hk2 : ¬ (n : Int) < (n : Int) := by omega
          have HB2 : Hid (Below B w wr) := hid (HK.out.below (by rw [HB.out]; exact Nat.le_refl _) (fun _ h => h))
          clear hkn
          go_wp2
          go_ret
          exact ⟨⟨gm, m, rfl, by rw [HB.out]; exact HM1.out, HM.out, HMT.out, HEV.out⟩, by rw [HB.out]; exact HB2.out⟩
        case pos =>
          have hk2 : (k : Int) < (n : Int) := by omega
          have am := HM.out.arr_look hkn
          cases hmk : m k with
          | some x =>
            rw [hmk] at am
            unfold oI oZ at am
            have hx0 : (0 : Int) ≤ (x : Int) := Int.natCast_nonneg _
            have HEV2 : Hid (∀ r, r < k + 1 → m r = none → EvM n (fun i j => ad i j = true) m r) := hid fun r hr hn => by
              by_cases e : r = k
              · rw [e, hmk] at hn; cases hn
              · exact HEV.out r (by omega) hn
            clear hmk ks HEV
            go_wp2
            go_roundw
            case rel => exact ⟨k + 1, m, by go_num, by omega, HS, HM, HG, HR, HMT, HEV2, HK⟩
            case measure => simp [intOf]; omega
          | none =>
            have HMK := hid hmk
            rw [hmk] at am
            unfold oI oZ at am
            have RU := hid (run_any G HMT.out hn1 hkn hmk wr ks HG.out HM.out (by
              obtain ⟨gw', vs, h1, h2, h3, h4⟩ := HR.out
              exact ⟨gw', vs, h1, h2.1, h3, fun i hi => SlS.mono (h4 i hi) (fun b _ hb => hb.1)⟩))
            have HGSM := hid (blk_ne HM.out ks (by decide))
            clear hmk ks
            go_wp2_with fail
            clear a1 am
            refine RU.out.mono ?_
            rintro r9 w9 hP
            have HP := hid hP
            have HK9 : Hid (Keep (· < B) w w9) := hid (HK.out.trans (hP.keep.mono (fun b _ hb => by have := HS1.out; have h9 : b < B := hb; show b ≠ gs; omega)))
            have HR9 := hid (HR.out.keep hP.keep (fun b _ hb => hb.1))
            obtain ⟨gf, gb, ge, qv, f, bs, ev, HER, hge, harm⟩ := hP.out
            have HGF : Hid (gf ≠ gs ∧ gf ≠ gm ∧ gf ≠ gg) := hid (by
              have h1 := HG.out.lt
              have h2 := HM.out.lt
              obtain ⟨_, _, _, _, ks⟩ := HS.out
              have h3 := ks.lt
              exact ⟨by omega, by omega, by omega⟩)
            have HE9 := hid HER
            have HST : Hid (∃ (M : Mt) (z : Value) (K0 : Nat), r9 = .returned z ∧ Mat (fun i j => ad i j = true) M ∧ (∀ r, r < k + 1 → M r = none → EvM n (fun i j => ad i j = true) M r) ∧ ((z = .int .i64 (-1) ∧ K0 = 0 ∧ m = M) ∨ ∃ v s l, z = .int .i64 ((v : Nat) : Int) ∧ K0 = l.length + 1 ∧ AgI n f m k M m v s l)) := hid (by
              rcases harm with ⟨h1, h2⟩ | ⟨v, s, l, h1, h2, h3, h4, h5, h6, h7, h8, h9⟩
              · exact ⟨m, _, 0, h1, HMT.out, fun r hr hn => (by
                  by_cases e : r = k
                  · rw [e]; exact h2
                  · exact HEV.out r (by omega) hn), .inl ⟨rfl, rfl, rfl⟩⟩
              · obtain ⟨M, l', g1, g2, g3⟩ := AgI.start G HMT.out HMK.out h2 h3 h4 h5 h6 h7 h8 h9 HEV.out
                exact ⟨M, _, _, h1, g2, g3, .inr ⟨v, s, l', rfl, rfl, g1⟩⟩)
            obtain ⟨M, z, K0, rfl, hMM, hME, harm2⟩ := HST.out
            have HMM := hid hMM
            have HME := hid hME
            have HA2 := hid harm2
            clear HST harm hge hP HP RU HK HR HEV HS HM HG HMT HMK HER harm2 hMM hME
            go_wp2_with fail
            go_loopg [8, 9, 10] K0 (fun kk z8 _ _ wr => ∃ c : Mt, Hid (Blk wr gs #[.pointer (some ⟨gg, 0, none⟩), slV gm n, slV gf n, slV gb n, slV ge n, qv] 133) ∧ Hid (Blk wr gf (arr n fun i => oI (f i)) 3) ∧ Hid (Blk wr gm (arr n fun i => oI (c i)) 3) ∧ Hid (Blk wr gg #[.int .i64 (n : Int), .slice (some ⟨gw, 0, none⟩) n n] 78) ∧ Hid (RowsR (fun b => b ≠ gs ∧ b ≠ gm) wr (slV gw n) n (fun i => nbT ad i n)) ∧ Hid (Keep (· < B) w wr) ∧ Hid ((z8 = .int .i64 (-1) ∧ kk = 0 ∧ c = M) ∨ ∃ v s l, z8 = .int .i64 ((v : Nat) : Int) ∧ kk = l.length + 1 ∧ AgI n f m k M c v s l))
            case atStart => exact ⟨m, hid HE9.out.s, hid HE9.out.f, hid HE9.out.m, hid HE9.out.g, HR9, HK9, HA2⟩
            case round =>
              obtain ⟨c, HS, HF, HC, HG, HR, HK, HA⟩ := hrel
              clear HE9 HR9 HK9 HA2
              rcases HA.out with ⟨rfl, -, e⟩ | ⟨v, s, l, rfl, hkk, hag⟩
              · have e2 := hid e
                clear HA e
                go_wp2
                go_roundw
                case rel => exact ⟨k + 1, M, by go_num, by omega, hid ⟨_, _, _, _, HS.out⟩, by rw [← e2.out]; exact HC, HG, HR, HMM, HME, HK⟩
                case measure => simp [intOf]; omega
              · have hvn := hag.vn
                have hsn := hag.lt s (by simp)
                have hvs : v ≠ s := fun e => hag.nv (by rw [e]; simp)
                have hfv := hag.fv
                have HAG := hid hag
                have HKK := hid hkk
                have hv2 : (v : Int) < (n : Int) := by omega
                have hs2 : (s : Int) < (n : Int) := by omega
                have hv0 : (0 : Int) ≤ (v : Int) := Int.natCast_nonneg _
                have hs0 : (0 : Int) ≤ (s : Int) := Int.natCast_nonneg _
                have a2 := HS.out.look 2 rfl
                have a1 := HS.out.look 1 rfl
                unfold slV at a1 a2
                have xf := HF.out.arr_look hvn
                rw [hfv] at xf
                have xm := HC.out.arr_look hsn
                unfold oI oZ at xf
                unfold oI at xm
                obtain ⟨z9, hz9⟩ : ∃ z, oZ (c s) = z := ⟨_, rfl⟩
                rw [hz9] at xm
                have HZ9 := hid hz9
                have HVS := hid hvs
                clear HA hag hkk hfv hz9 hvs
                go_wp2_with fail
                clear a1 a2 xf xm
                have HWD := hid (Keep.drew (fun g => g ≠ gm) wr)
                have z1 := fun y : SubT (Keep (fun g => g ≠ gm)) wr.drew => ((HWD.out.trans y.b).blk HS.out HGM.out.symm).look 1 rfl
                unfold slV at z1
                refine wp_walkJ (T := Keep (fun g => g ≠ gm)) (keep_pre _) (.rd 0 (.rd 1 (.rd 2 (.rd 3 (.rd 4 (.rd 5 (.rd 6 (.rd 7 (.rd 8 (.rd 9 (.rd 10 (.rd 11 (.rd 12 (.mv 13 (.rd 14 (.bt 15 (.inv []))))))))))))))))) (by kernel_rfl) rfl (by kernel_rfl) (by kernel_rfl) ?_
                iterate 13 (refine walkJ_rd rfl (fun K hK => ?_); go_simp; refine hK _ ?_; clear hK K)
                clear z1
                have HS2 := hid (HWD.out.blk HS.out HGM.out.symm)
                have HF2 := hid (HWD.out.blk HF.out HGF.out.2.1)
                have HC2 := hid HC.out.drew
                have HG2 := hid (HWD.out.blk HG.out (blk_ne HG.out HC.out (by decide)))
                have HR2 := hid (HR.out.keep HWD.out (fun b _ hb => hb.2))
                have HK2 := hid (HK.out.trans (Keep.drew _ wr))
                clear HS HF HC HG HR HK HWD
                generalize wr.drew = W at HS2 HF2 HC2 HG2 HR2 HK2 ⊢
                have x0 := HC2.out.arr_look hvn
                have f0 := HC2.out.frozen v
                have l0 := HC2.out.lt
                (refine walkJ_mv rfl (fun K hK => ?_); go_simp; refine hK _ _ (Keep.set W (p := ⟨gm, v, none⟩) (fun h => h rfl) (.int .i64 (s : Int))) ?_; clear hK K)
                have HKS := hid (Keep.set (S := fun g => g ≠ gm) W (p := ⟨gm, v, none⟩) (fun h => h rfl) (.int .i64 (s : Int)))
                have HS3 := hid (HKS.out.blk HS2.out HGM.out.symm)
                have HF3 := hid (HKS.out.blk HF2.out HGF.out.2.1)
                have HC3 : Hid (Blk (W.setCell ⟨gm, v, none⟩ (.int .i64 (s : Int))) gm (arr n fun i => oI (upd c v (some s) i)) 3) := hid (by have := HC2.out.arr_set v (oI (some s)); rw [arr_mt_set] at this; exact this)
                have HG3 := hid (HKS.out.blk HG2.out (blk_ne HG2.out HC2.out (by decide)))
                have HR3 := hid (HR2.out.keep HKS.out (fun b _ hb => hb.2))
                have HK3 := hid (HK2.out.trans (HKS.out.mono (fun b _ hb => by have := HM1.out; have h9 : b < B := hb; show b ≠ gm; omega)))
                clear HS2 HF2 HC2 HG2 HR2 HK2 HKS x0 f0 l0
                generalize W.setCell ⟨gm, v, none⟩ (.int .i64 (s : Int)) = W4 at HS3 HF3 HC3 HG3 HR3 HK3 ⊢
                have x0 := HC3.out.arr_look hsn
                have f0 := HC3.out.frozen s
                have l0 := HC3.out.lt
                iterate 1 (refine walkJ_rd rfl (fun K hK => ?_); go_simp; refine hK _ ?_; clear hK K)
                (refine walkJ_bt rfl (fun K hK => ?_); go_simp; refine hK _ _ ?_; clear hK K)
                refine walkJ_nil ?_
                have HKS := hid (Keep.set (S := fun g => g ≠ gm) W4 (p := ⟨gm, s, none⟩) (fun h => h rfl) (.int .i64 (v : Int)))
                have HS4 := hid (HKS.out.blk HS3.out HGM.out.symm)
                have HF4 := hid (HKS.out.blk HF3.out HGF.out.2.1)
                have HC4 : Hid (Blk (W4.setCell ⟨gm, s, none⟩ (.int .i64 (v : Int))) gm (arr n fun i => oI (upd (upd c v (some s)) s (some v) i)) 3) := hid (by have := HC3.out.arr_set s (oI (some v)); rw [arr_mt_set] at this; exact this)
                have HG4 := hid (HKS.out.blk HG3.out (blk_ne HG3.out HC3.out (by decide)))
                have HR4 := hid (HR3.out.keep HKS.out (fun b _ hb => hb.2))
                have HK4 := hid (HK3.out.trans (HKS.out.mono (fun b _ hb => by have := HM1.out; have h9 : b < B := hb; show b ≠ gm; omega)))
                clear HS3 HF3 HC3 HG3 HR3 HK3 HKS x0 f0 l0
                generalize W4.setCell ⟨gm, s, none⟩ (.int .i64 (v : Int)) = W5 at HS4 HF4 HC4 HG4 HR4 HK4 ⊢
                have HNX : Hid (∃ k', k' < gk ∧ ((Value.int .i64 z9 = .int .i64 (-1) ∧ k' = 0 ∧ upd (upd c v (some s)) s (some v) = M) ∨ ∃ v' s' l', Value.int .i64 z9 = .int .i64 ((v' : Nat) : Int) ∧ k' = l'.length + 1 ∧ AgI n f m k M (upd (upd c v (some s)) s (some v)) v' s' l')) := hid (by
                  rcases HAG.out.step with ⟨h1, h2⟩ | ⟨o, t, l', h1, h2, h3⟩
                  · refine ⟨0, by rw [HKK.out]; omega, .inl ⟨?_, rfl, h2⟩⟩
                    rw [← HZ9.out, h1]; rfl
                  · refine ⟨l'.length + 1, by rw [HKK.out, h1]; simp, .inr ⟨o, t, l', ?_, rfl, h3⟩⟩
                    rw [← HZ9.out, h2]; rfl)
                obtain ⟨k', hk1, harm⟩ := HNX.out
                have HK1 := hid hk1
                have HAR := hid harm
                clear HNX hk1 harm HKK HAG
                go_wp2
                go_roundg k'
                case measure => exact HK1.out
                case rel => exact ⟨_, HS4, HF4, HC4, HG4, HR4, HK4, HAR⟩

end Go.Proofs.Ytcpefolhohakmaa
