/- Walks of the journal's reading: Frames. -/
import Derived.Test.YtcpefolhohakmaaT5
namespace Go.Proofs.Ytcpefolhohakmaa
open Go.RowKit
attribute [local irreducible] seqS seqST walkV walkJ

/-- A part of bytes. -/
theorem BsR.part {w : World} {ao : Option Addr} {n cap : Nat} {b : Bts} (h : BsR w (.slice ao n cap) b) (lo k : Nat) (hk : lo + k ≤ b.length) :
    BsR w (.slice (if cap = lo then ao else ao.map (·.add lo)) k (cap - lo)) ((b.drop lo).take k) := by
  obtain ⟨ao', cap', e, h1, h2, hc⟩ := h
  cases e
  have hl : ((b.drop lo).take k).length = k := by rw [List.length_take, List.length_drop]; omega
  have hl2 : (u8V ((b.drop lo).take k)).length = k := by rw [u8V_len, hl]
  refine ⟨_, _, by rw [hl], by rw [hl]; omega, by omega, fun hx => ?_⟩
  have hk0 : 0 < k := by
    rcases Nat.eq_zero_or_pos k with e | e
    · subst e; exact absurd (List.length_eq_zero_iff.1 hl2) hx
    · exact e
  obtain ⟨g, off, rfl, h3, h4, h5⟩ := hc (fun e => by
    have h0 : b.length = 0 := by rw [← u8V_len, e]; rfl
    omega)
  rw [if_neg (by omega)]
  refine ⟨g, off + lo, by simp [Addr.add_lit], h3, h4, fun j hj => ?_⟩
  rw [hl2] at hj
  rw [show off + lo + j = off + (lo + j) by omega, h5 (lo + j) (by rw [u8V_len]; omega)]
  rw [List.getD_eq_getElem?_getD, List.getD_eq_getElem?_getD, u8V_get (by omega), u8V_get (by rw [hl]; exact hj)]
  congr 3
  rw [List.getD_eq_getElem?_getD, List.getD_eq_getElem?_getD, List.getElem?_take, if_pos hj, List.getElem?_drop]
theorem BsR.upto {w : World} {ao : Option Addr} {n cap : Nat} {b : Bts} (h : BsR w (.slice ao n cap) b) (k : Nat) (hk : k ≤ b.length) : BsR w (.slice ao k cap) (b.take k) := by
  obtain ⟨ao', cap', e, h1, h2, hc⟩ := h
  cases e
  have hl : (b.take k).length = k := by rw [List.length_take]; omega
  refine ⟨_, _, by rw [hl], by rw [hl]; omega, h2, fun hx => ?_⟩
  obtain ⟨g, off, rfl, h3, h4, h5⟩ := hc (fun e => by
    have h0 : b.length = 0 := by rw [← u8V_len, e]; rfl
    exact hx (List.length_eq_zero_iff.1 (by rw [u8V_len, hl]; omega)))
  refine ⟨g, off, rfl, h3, h4, fun j hj => ?_⟩
  rw [u8V_len, hl] at hj
  rw [h5 j (by rw [u8V_len]; omega), List.getD_eq_getElem?_getD, List.getD_eq_getElem?_getD, u8V_get (by omega), u8V_get (by rw [hl]; exact hj)]
  congr 3
  rw [List.getD_eq_getElem?_getD, List.getD_eq_getElem?_getD, List.getElem?_take, if_pos hj]
theorem BsR.at {w : World} {g off n cap : Nat} {b : Bts} (h : BsR w (.slice (some ⟨g, off, none⟩) n cap) b) (lo k : Nat) (hk : lo + k ≤ b.length) (hc : lo < cap) :
    BsR w (.slice (some ⟨g, off + lo, none⟩) k (cap - lo)) ((b.drop lo).take k) := by
  have := h.part lo k hk
  rw [if_neg (by omega)] at this
  simpa [Addr.add_lit] using this
theorem BsR.some {w : World} {v : Value} {b : Bts} (h : BsR w v b) (hb : 0 < b.length) : ∃ g off cap, v = .slice (some ⟨g, off, none⟩) b.length cap ∧ b.length ≤ cap ∧ cap ≤ maxLen := by
  obtain ⟨ao, cap, rfl, h1, h2, hc⟩ := h
  obtain ⟨g, off, rfl, -⟩ := hc (fun e => by
    have h0 : b.length = 0 := by rw [← u8V_len, e]; rfl
    omega)
  exact ⟨g, off, cap, rfl, h1, h2⟩
theorem frms_len (ps : List Bts) : 8 * ps.length ≤ (frms ps).length := by
  induction ps with
  | nil => simp
  | cons p ps ih => rw [frms_cons, List.length_append, frm_length, List.length_cons]; omega
theorem owns_low {w : World} {S B : Nat} {e : TypeId} {size : Nat} {v : Value} {n : Nat} {xs : List Value} (h : w.ownsRow B e size v n xs) (hS : S ≤ B) : w.ownsRow S e size v n xs := by
  obtain ⟨h1, h2 | ⟨g, cap, cur, rfl, hg, hr⟩⟩ := h
  · exact ⟨h1, .inl h2⟩
  · exact ⟨h1, .inr ⟨g, cap, cur, rfl, Nat.le_trans hS hg, hr⟩⟩
theorem owns_ne2 {w : World} {B B' n n' : Nat} {e e' : TypeId} {s s' : Nat} {v v' : Value} {xs xs' : List Value} (h : w.ownsRow B e s v n xs) (h' : w.ownsRow B' e' s' v' n' xs') (he : e ≠ e') : ∀ g, v.ownBlock = some g → v'.ownBlock ≠ some g := by
  intro g hg hg'
  obtain ⟨-, ⟨rfl, -⟩ | ⟨g1, c1, cur, rfl, -, hh, -⟩⟩ := h
  · cases hg
  obtain ⟨-, ⟨rfl, -⟩ | ⟨g2, c2, cur2, rfl, -, hh2, -⟩⟩ := h'
  · cases hg'
  cases hg
  cases hg'
  rw [hh] at hh2
  cases hh2
  exact he rfl
/-- Payloads that the call owns. -/
def PaysO (lo : Nat) (w : World) (vs : List Value) (ps : List Bts) : Prop := vs.length = ps.length ∧ ∀ i, i < ps.length → w.ownsRow lo 5 1 (vs.getD i undef) (ps.getD i []).length (u8V (ps.getD i []))
theorem infoBs : (Try.prog.info? 48).map (fun i => (i.zero, i.size, i.bytes)) = some (some (.slice none 0 0), 1, 24) := by kernel_rfl
theorem PaysO.snoc {lo : Nat} {w : World} {vs : List Value} {ps : List Bts} (h : PaysO lo w vs ps) {v : Value} {p : Bts} (hv : w.ownsRow lo 5 1 v p.length (u8V p)) : PaysO lo w (vs ++ [v]) (ps ++ [p]) := by
  refine ⟨by simp [h.1], fun i hi => ?_⟩
  by_cases e : i < ps.length
  · have e2 := h.1
    rw [List.getD_eq_getElem?_getD, List.getD_eq_getElem?_getD, List.getElem?_append_left (by omega), List.getElem?_append_left e]
    have := h.2 i e
    rw [List.getD_eq_getElem?_getD, List.getD_eq_getElem?_getD] at this
    exact this
  · have e2 := h.1
    have : i = ps.length := by rw [List.length_append] at hi; simp at hi; omega
    subst this
    rw [List.getD_eq_getElem?_getD, List.getD_eq_getElem?_getD, List.getElem?_append_right (by omega), List.getElem?_append_right (Nat.le_refl _), e2]
    simpa using hv
theorem PaysO.keep {lo : Nat} {S : Nat → Prop} {w w' : World} {vs : List Value} {ps : List Bts} (h : PaysO lo w vs ps) (k : Keep S w w') (hs : ∀ i, i < ps.length → ∀ g, (vs.getD i undef).ownBlock = some g → S g) : PaysO lo w' vs ps :=
  ⟨h.1, fun i hi => k.owns (h.2 i hi) (hs i hi)⟩
theorem PaysO.below {lo : Nat} {w w' : World} {vs : List Value} {ps : List Bts} (h : PaysO lo w vs ps) (k : Below w.heap.size w w') : PaysO lo w' vs ps := ⟨h.1, fun i hi => owns_below (h.2 i hi) k⟩

set_option maxHeartbeats 4000000 in
set_option maxRecDepth 100000 in
theorem Frames_any (ps : List Bts) (t b : Bts) (hf : Frd b ps t) (v : Value) (w : World) (h : BsR w v b) (hb : b.length ≤ 2000000) :
    Calls Try.prog 90 #[v] w fun r w' => (∃ v', r = .returned (.tuple #[v', .int .i64 (t.length : Int)]) ∧ ∃ vs, w'.ownsRow w.heap.size 48 1 v' ps.length vs ∧ PaysO w.heap.size w' vs ps) ∧ Below w.heap.size w w' := by
  have HV := hid h
  have HF := hid hf
  have hb2 : (frms ps ++ t).length ≤ 2000000 := by rw [← hf.1]; exact hb
  have hpl : ps.length ≤ 2000000 := by
    have := frms_len ps
    rw [List.length_append] at hb2
    omega
  have HBL := hid hb2
  rw [hf.1] at HV
  clear h hf hb hb2
  go_enter Try.func90, Try.ntmps90
  go_wp2_with fail
  go_loopw [0, 2, 4, 5] (fun y p _ _ wr => ∃ k : Nat, k ≤ ps.length ∧ Hid (BsR w y (frms (ps.drop k) ++ t)) ∧ Hid (Below w.heap.size w wr) ∧ ∃ vs : List Value, Hid (wr.ownsRow w.heap.size 48 1 p k vs) ∧ Hid (PaysO w.heap.size wr vs (ps.take k))) (fun y _ _ _ _ => match y with | .slice _ n _ => n | _ => 0)
  case atStart => exact ⟨0, Nat.zero_le _, by simpa using HV, hid (Below.refl _ _), [], hid (World.ownsRow_nil _ _ _ _), hid ⟨rfl, fun i hi => absurd hi (by simp)⟩⟩
  case round =>
    obtain ⟨k, hk, HY, HB, vs, HO, HP⟩ := hrel
    by_cases hkl : k < ps.length
    case pos =>
      obtain ⟨q, hq⟩ : ∃ q, ps.drop k = q := ⟨_, rfl⟩
      cases q with
      | nil => rw [List.drop_eq_nil_iff] at hq; omega
      | cons p q =>
      rw [hq, frms_cons, List.append_assoc] at HY
      have hpo : PayOk p := HF.out.2.1 p (List.mem_of_mem_drop (i := k) (by rw [hq]; simp))
      have hlen : (frm p ++ (frms q ++ t)).length ≤ 2000000 := by
        have := HBL.out
        rw [← List.take_append_drop k ps, hq, frms_append, frms_cons] at this
        simp only [List.length_append] at this ⊢
        omega
      have hdr : Hid (ps.drop (k + 1) = q ∧ ps.take (k + 1) = ps.take k ++ [p]) := hid (by
        have h1 : ps[k]? = some p := by
          have := congrArg (·[0]?) hq
          simpa using this
        refine ⟨?_, ?_⟩
        · have := congrArg (·.drop 1) hq
          simpa [List.drop_drop, Nat.add_comm] using this
        · rw [List.take_add_one, h1]; rfl)
      have HHQ := hid hq
      clear hq
      obtain ⟨Y, hY⟩ : ∃ Y, frm p ++ (frms q ++ t) = Y := ⟨_, rfl⟩
      have hg4 : getN (Y.take 4) = p.length := by rw [← hY]; exact frm_get4 hpo _
      have hpay : (Y.drop 4).take p.length = p := by rw [← hY]; exact frm_pay _ _
      have hcrc : (Y.drop (4 + p.length)).take 4 = putN (crc p) 4 := by rw [← hY]; exact frm_crc _ _
      have hrest : Y.drop (8 + p.length) = frms q ++ t := by rw [← hY]; exact frm_rest _ _
      have hYl : p.length + 8 ≤ Y.length := by rw [← hY, List.length_append, frm_length]; omega
      rw [hY] at HY hlen
      clear hY
      unfold PayOk at hpo
      obtain ⟨g, off, cy, rfl, hcy, hmy⟩ := HY.out.some (by omega)
      unfold maxLen at hmy
      have HYr := hid (HY.out.below (Below.refl _ _))
      have B4 := hid (HY.out.upto 4 (by omega))
      have BP := hid (HY.out.at 4 p.length (by omega) (by omega))
      have BC := hid (HY.out.at (4 + p.length) 4 (by omega) (by omega))
      rw [hpay] at BP
      rw [hcrc] at BC
      have G4 := hid (fun W (k : Below w.heap.size w W) => getNumber_any (Y.take 4) _ W (B4.out.below k) (by rw [hg4]; omega))
      rw [hg4] at G4
      have hcl := crc_lt p
      have GC := hid (fun W (k : Below w.heap.size w W) => getNumber_any (putN (crc p) 4) _ W (BC.out.below k) (by rw [getN_put (by omega)]; omega))
      rw [getN_put (by omega)] at GC
      have CK := hid (fun W (k : Below w.heap.size w W) => checksum_any p _ W (BP.out.below k))
      have CL := hid (fun W (k : Below w.heap.size w W) => CloneB_any p _ W (BP.out.below k) (by omega))
      obtain ⟨L, hL⟩ : ∃ L, p.length = L := ⟨_, rfl⟩
      obtain ⟨N, hN⟩ : ∃ L, Y.length = L := ⟨_, rfl⟩
      have HL := hid hL
      have HN := hid hN
      have HRS := hid hrest
      rw [hL] at hpo hYl G4 GC CK CL
      rw [hN] at hlen hcy hYl ⊢
      clear hg4 hpay hcrc hrest hL hN
      have h8 : (8 : Int) ≤ (N : Int) := by omega
      have h65 : ¬ (65536 : Int) < (L : Int) := by omega
      have hN8 : ¬ (N : Int) - 8 < (L : Int) := by omega
      go_wp2_with fail
      refine (G4.out _ HB.out).mono ?_
      rintro r w1 ⟨rfl, rfl⟩
      go_wp2_with fail
      have e4 : 8 + L - (4 + L) = 4 := by omega
      have e5 : 4 + L - 4 = L := by omega
      rw [e4, e5]
      refine (GC.out _ HB.out).mono ?_
      rintro r w1 ⟨rfl, rfl⟩
      go_wp2_with fail
      refine (CK.out _ HB.out).mono ?_
      rintro r w1 ⟨rfl, rfl⟩
      go_wp2_with fail
      refine (CL.out _ HB.out).mono ?_
      rintro r w1 ⟨⟨v1, rfl, ho1⟩, hb1⟩
      obtain ⟨a1, c1, rfl, -⟩ := SlR.of_owns ho1
      have hsz := HB.out.size
      have hs1 : w.heap.size ≤ w1.heap.size := Nat.le_trans hsz hb1.size
      have HB1 := hid (HB.out.trans (hb1.mono hsz))
      have HP1 := hid (HP.out.below hb1)
      have HO1 := hid (owns_below HO.out hb1)
      have HC1 := hid (owns_low ho1 hsz)
      clear G4 GC CK CL hb1 ho1 HP HO HB hsz
      go_wp2_with (at_builtin; refine wpList_appO rfl (.tmp 35) (.tmp 38) _ rfl w.heap.size 48 (.slice none 0 0) 1 24 Try.underlying92 infoBs rfl (by decide) 48 _ _ _ rfl HO1.out [.slice a1 L c1] _ rfl rfl rfl (by simp [Value.oneCell']) (by unfold maxLen; omega) (by omega) hs1 ?_; intro g5 c5 w5 ho5 hb5 hg5 hbg hl5 hor)
      have HB5 := hid (HB1.out.trans hb5)
      have HO5 := hid ho5
      have hk5 : Keep (fun x => Value.ownBlock u2 ≠ some x) w1 w5 := Keep.grown hg5 (fun x hx h => h hx)
      have HP5 : Hid (PaysO w.heap.size w5 (vs ++ [.slice a1 L c1]) (ps.take (k + 1))) := hid (by
        rw [hdr.out.2]
        have h9 := hk5.owns HC1.out (fun x hx e => owns_ne2 HO1.out HC1.out (by decide) x e hx)
        rw [← HL.out] at h9 ⊢
        exact PaysO.snoc (HP1.out.keep hk5 (fun i hi x hx e => owns_ne2 HO1.out (HP1.out.2 i hi) (by decide) x e hx)) h9)
      clear HB1 HO1 HP1 HC1 hg5 hbg hl5 hor hk5 ho5 hb5 hs1
      have hrl : Hid ((Y.drop (8 + L)).take (N - (8 + L)) = frms (ps.drop (k + 1)) ++ t) := hid (by
        rw [List.take_of_length_le (by rw [List.length_drop, HN.out]; exact Nat.le_refl _), hdr.out.1, ← HRS.out, HL.out])
      by_cases hcq : cy = 8 + L
      · have HYN := hid (HYr.out.part (8 + L) (N - (8 + L)) (by rw [HN.out]; omega))
        have e0 : cy - (8 + L) = 0 := by omega
        rw [hrl.out, if_pos hcq, e0] at HYN
        go_wp2_with fail
        go_roundw
        case rel => exact ⟨k + 1, by omega, HYN, _, HO5, HP5⟩
        case measure => omega
      · have HYN := hid (HYr.out.at (8 + L) (N - (8 + L)) (by rw [HN.out]; omega) (by omega))
        rw [hrl.out] at HYN
        go_wp2_with fail
        go_roundw
        case rel => exact ⟨k + 1, by omega, HYN, _, HO5, HP5⟩
        case measure => omega
    case neg =>
      obtain rfl : k = ps.length := by omega
      have hd0 : ps.drop ps.length = [] := List.drop_length
      rw [hd0, frms_nil, List.nil_append] at HY
      have HO9 := HO
      have HP9 : Hid (PaysO w.heap.size wr vs ps) := hid (by have := HP.out; rwa [List.take_length] at this)
      have htl : t.length ≤ 2000000 := by have := HBL.out; rw [List.length_append] at this; omega
      obtain ⟨ay, cy, rfl, hcy, hmy, -⟩ := id HY.out
      unfold maxLen at hmy
      obtain ⟨N, hN⟩ : ∃ L, t.length = L := ⟨_, rfl⟩
      have HNT := hid hN
      by_cases h8 : t.length < 8
      · rw [hN] at h8 hcy ⊢
        have h82 : ¬ (8 : Int) ≤ (N : Int) := by omega
        clear hN
        go_wp2
        go_ret2
        exact ⟨⟨u2, (by rw [HNT.out]; rfl), _, HO9.out, HP9.out⟩, HB.out⟩
      · have hst : t.length < getN (t.take 4) + 8 := (torn_stop HF.out.2.2).resolve_left h8
        have B4 := hid (HY.out.upto 4 (by omega))
        have h4 : getN (t.take 4) < 4294967296 := by
          have := getN_lt (t.take 4)
          rw [List.length_take, show min 4 t.length = 4 by omega] at this
          simpa using this
        have G4 := hid (fun W (k : Below w.heap.size w W) => getNumber_any (t.take 4) _ W (B4.out.below k) (by omega))
        obtain ⟨M, hM⟩ : ∃ L, getN (t.take 4) = L := ⟨_, rfl⟩
        rw [hM] at G4 hst h4
        rw [hN] at h8 hst htl hcy ⊢
        have h82 : (8 : Int) ≤ (N : Int) := by omega
        have hN8 : (N : Int) - 8 < (M : Int) := by omega
        clear hN hM
        go_wp2_with fail
        refine (G4.out _ HB.out).mono ?_
        rintro r w1 ⟨rfl, rfl⟩
        go_wp2
        all_goals (go_ret2; exact ⟨⟨u2, (by rw [HNT.out]; rfl), _, HO9.out, HP9.out⟩, HB.out⟩)

end Go.Proofs.Ytcpefolhohakmaa
