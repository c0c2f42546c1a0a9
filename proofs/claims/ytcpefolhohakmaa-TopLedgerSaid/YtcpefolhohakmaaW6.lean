/- For the law's walk: each call, said of the law's whole state. -/
import Derived.Test.YtcpefolhohakmaaW5
namespace Go.Proofs.Ytcpefolhohakmaa
open Go.RowKit
attribute [local irreducible] seqS seqST walkV walkJ

/-- The head of the law's loop: the disk has been crashed; its journal holds the posts of S or of M. -/
structure Hd (lo : Nat) (w : World) (gd : Nat) (y z : Value) (i : Nat) : Prop where
  ex : ∃ (v : Nat → Value) (d : Dk) (S M : List (List Tr)) (cs cm : List Int), DkR w gd v d ∧ (∀ b, DS gd v b → lo ≤ b) ∧ HdD d (encB S) (encB M) (100 * i) ∧ run S = some cs ∧ run M = some cm ∧ S.length ≤ 13 * i ∧ M.length ≤ 13 * i ∧ SuR lo w gd v y (encB S) ∧ SuR lo w gd v z (encB M)
theorem encB_nil : encB [] = [] := rfl
theorem hd_start {lo : Nat} {w : World} {gd most : Nat} {v : Nat → Value} (h : DkR w gd v (newD most)) (hgd : lo ≤ gd) (hv : ∀ n, (v n).ownBlock = none) : Hd lo w gd (.slice none 0 0) (.slice none 0 0) 0 := by
  refine ⟨v, newD most, [], [], zeroC, zeroC, h, fun b hb => ?_, ?_, run_nil, run_nil, Nat.zero_le _, Nat.zero_le _, ?_, ?_⟩
  · rcases hb with e | e | e
    · omega
    · rw [hv 0] at e; cases e
    · rw [hv 1] at e; cases e
  · rw [encB_nil]; exact new_plain most _
  · rw [encB_nil]; exact SuR.nil _ _ _ _
  · rw [encB_nil]; exact SuR.nil _ _ _ _
theorem Hd.below {lo : Nat} {w w' : World} {gd : Nat} {y z : Value} {i : Nat} (h : Hd lo w gd y z i) (k : Below w.heap.size w w') : Hd lo w' gd y z i := by
  obtain ⟨v, d, S, M, cs, cm, h1, h2, h3, h4, h5, h6, h7, h8, h9⟩ := h.ex
  exact ⟨v, d, S, M, cs, cm, h1.below k, h2, h3, h4, h5, h6, h7, h8.below k, h9.below k⟩

/-- The variable of a round, if there is one. -/
def RV (w : World) (gr : Nat) : Option (Array Value) → Prop
  | none => True
  | some cs => Blk w gr cs 51
theorem RV.below {w w' : World} {gr : Nat} {rc : Option (Array Value)} (h : RV w gr rc) (k : Below w.heap.size w w') : RV w' gr rc := by
  cases rc with
  | none => trivial
  | some cs => exact Blk.below h k
theorem RV.keep {w w' : World} {gr : Nat} {rc : Option (Array Value)} {S : Nat → Prop} (h : RV w gr rc) (k : Keep S w w') (hs : ∀ cs, Blk w gr cs 51 → S gr) : RV w' gr rc := by
  cases rc with
  | none => trivial
  | some cs => exact k.blk h (hs cs h)
/-- Within a round: the journal holds the posts jps, the book those of bps; y, z, q are bytes that the law holds. -/
structure LwI (lo : Nat) (w : World) (gd gl gb gr : Nat) (rc : Option (Array Value)) (y : Value) (x : Bts) (z : Value) (x' : Bts) (q : Value) (xq : Bts) (jps bps : List (List Tr)) (n N G : Nat) : Prop where
  ex : ∃ (v : Nat → Value) (d : Dk) (m g k : Nat) (s : Bts) (rs : List Bts) (vs vr : Value) (rvs : List Value) (c : List Int) (ch : Nat → Int) (vp : Value) (pvs : List Value),
    DkR w gd v d ∧ (∀ b, DS gd v b → lo ≤ b) ∧ StD d m g k s rs jps G ∧ LgB w gl gd (g : Int) (m : Int) vs vr false ∧ RcR lo w vr rvs ∧ rvs.length ≤ 131072 + n ∧ BkR lo w gb c ch vp pvs bps ∧ run bps = some c ∧ SuR lo w gd v y x ∧ SuR lo w gd v z x' ∧ SuR lo w gd v q xq
  glo : lo ≤ gl
  rv : RV w gr rc
  run : ∃ cj, Go.Proofs.Ytcpefolhohakmaa.run jps = some cj
  jl : jps.length ≤ N
  bl : bps.length ≤ N
/-- Behind the journal's last call of a round: a crash may come. -/
structure RdI (lo : Nat) (w : World) (gd gb gr : Nat) (rc : Option (Array Value)) (y : Value) (x : Bts) (z : Value) (x' : Bts) (X Y bps : List (List Tr)) (N G : Nat) : Prop where
  ex : ∃ (v : Nat → Value) (d : Dk) (c : List Int) (ch : Nat → Int) (vp : Value) (pvs : List Value),
    DkR w gd v d ∧ (∀ b, DS gd v b → lo ≤ b) ∧ RdyD d (encB X) (encB Y) G ∧ BkR lo w gb c ch vp pvs bps ∧ run bps = some c ∧ SuR lo w gd v y x ∧ SuR lo w gd v z x'
  rv : RV w gr rc
  runX : ∃ c, run X = some c
  runY : ∃ c, run Y = some c
  xl : X.length ≤ N
  yl : Y.length ≤ N
  bl : bps.length ≤ N
section
variable {lo : Nat} {w w' : World} {gd gl gb gr : Nat} {rc : Option (Array Value)} {y z q : Value} {x x' xq : Bts} {jps bps : List (List Tr)} {n N G : Nat}
theorem LwI.below (h : LwI lo w gd gl gb gr rc y x z x' q xq jps bps n N G) (k : Below w.heap.size w w') : LwI lo w' gd gl gb gr rc y x z x' q xq jps bps n N G := by
  obtain ⟨v, d, m, g, kk, s, rs, vs, vr, rvs, c, ch, vp, pvs, h1, h2, h3, h4, h5, h6, h7, h8, h9, h10, h11⟩ := h.ex
  exact ⟨⟨v, d, m, g, kk, s, rs, vs, vr, rvs, c, ch, vp, pvs, h1.below k, h2, h3, h4.below k, h5.below k, h6, h7.below k, h8, h9.below k, h10.below k, h11.below k⟩, h.glo, h.rv.below k, h.run, h.jl, h.bl⟩
/-- New bytes are held. -/
theorem LwI.hold {q' : Value} {X : Bts} (h : LwI lo w gd gl gb gr rc y x z x' q xq jps bps n N G) (k : Below w.heap.size w w') (ho : w'.ownsRow w.heap.size 5 1 q' X.length (u8V X)) (hlo : lo ≤ w.heap.size) : LwI lo w' gd gl gb gr rc y x z x' q' X jps bps n N G := by
  obtain ⟨v, d, m, g, kk, s, rs, vs, vr, rvs, c, ch, vp, pvs, h1, h2, h3, h4, h5, h6, h7, h8, h9, h10, h11⟩ := h.ex
  exact ⟨⟨v, d, m, g, kk, s, rs, vs, vr, rvs, c, ch, vp, pvs, h1.below k, h2, h3, h4.below k, h5.below k, h6, h7.below k, h8, h9.below k, h10.below k, .new h1 ho hlo⟩, h.glo, h.rv.below k, h.run, h.jl, h.bl⟩
theorem LwI.sure (h : LwI lo w gd gl gb gr rc y x z x' q xq jps bps n N G) : LwI lo w gd gl gb gr rc q xq q xq q xq jps bps n N G := by
  obtain ⟨v, d, m, g, kk, s, rs, vs, vr, rvs, c, ch, vp, pvs, h1, h2, h3, h4, h5, h6, h7, h8, h9, h10, h11⟩ := h.ex
  exact ⟨⟨v, d, m, g, kk, s, rs, vs, vr, rvs, c, ch, vp, pvs, h1, h2, h3, h4, h5, h6, h7, h8, h11, h11, h11⟩, h.glo, h.rv, h.run, h.jl, h.bl⟩
theorem LwI.bsq (h : LwI lo w gd gl gb gr rc y x z x' q xq jps bps n N G) : BsR w q xq := by
  obtain ⟨v, d, m, g, kk, s, rs, vs, vr, rvs, c, ch, vp, pvs, h1, h2, h3, h4, h5, h6, h7, h8, h9, h10, h11⟩ := h.ex
  exact h11.bs
theorem LwI.bsy (h : LwI lo w gd gl gb gr rc y x z x' q xq jps bps n N G) : BsR w y x := by
  obtain ⟨v, d, m, g, kk, s, rs, vs, vr, rvs, c, ch, vp, pvs, h1, h2, h3, h4, h5, h6, h7, h8, h9, h10, h11⟩ := h.ex
  exact h9.bs
theorem LwI.bsz (h : LwI lo w gd gl gb gr rc y x z x' q xq jps bps n N G) : BsR w z x' := by
  obtain ⟨v, d, m, g, kk, s, rs, vs, vr, rvs, c, ch, vp, pvs, h1, h2, h3, h4, h5, h6, h7, h8, h9, h10, h11⟩ := h.ex
  exact h10.bs
theorem LwI.row (h : LwI lo w gd gl gb gr rc y x z x' q xq jps bps n N G) (hx : 0 < xq.length) : ∃ g cap, q = .slice (some ⟨g, 0, none⟩) xq.length cap ∧ xq.length ≤ cap ∧ cap ≤ maxLen := by
  obtain ⟨v, d, m, g, kk, s, rs, vs, vr, rvs, c, ch, vp, pvs, h1, h2, h3, h4, h5, h6, h7, h8, h9, h10, h11⟩ := h.ex
  obtain ⟨g, cap, e⟩ := owns_some h11.1 hx
  obtain ⟨ao, cap', e2, h12, h13, -⟩ := SlR.of_owns h11.1
  rw [e] at e2
  cases e2
  exact ⟨g, cap, e, h12, h13⟩
theorem LwI.mono (h : LwI lo w gd gl gb gr rc y x z x' q xq jps bps n N G) {n' N' G' : Nat} (h1 : n ≤ n') (h2 : N ≤ N') (h3 : G ≤ G') : LwI lo w gd gl gb gr rc y x z x' q xq jps bps n' N' G' := by
  obtain ⟨v, d, m, g, kk, s, rs, vs, vr, rvs, c, ch, vp, pvs, k1, k2, k3, k4, k5, k6, k7, k8, k9, k10, k11⟩ := h.ex
  exact ⟨⟨v, d, m, g, kk, s, rs, vs, vr, rvs, c, ch, vp, pvs, k1, k2, ⟨k3.on, k3.hm, k3.run, k3.tx, Nat.le_trans k3.g h3⟩, k4, k5, by omega, k7, k8, k9, k10, k11⟩, h.glo, h.rv, h.run, Nat.le_trans h.jl h2, Nat.le_trans h.bl h2⟩
/-- The end of a round that was not broken off. -/
theorem LwI.rd (h : LwI lo w gd gl gb gr rc y x z x' q xq jps bps n N G) : RdI lo w gd gb gr rc y x z x' jps jps bps N G := by
  obtain ⟨v, d, m, g, kk, s, rs, vs, vr, rvs, c, ch, vp, pvs, h1, h2, h3, h4, h5, h6, h7, h8, h9, h10, h11⟩ := h.ex
  exact ⟨⟨v, d, c, ch, vp, pvs, h1, h2, h3.ready _, h7, h8, h9, h10⟩, h.rv, h.run, h.run, h.jl, h.jl, h.bl⟩
theorem lw_save (h : LwI lo w gd gl gb gr rc y x z x' q xq jps bps n N G) (hN : N ≤ 600) (hlo : lo ≤ w.heap.size) :
    Calls Try.prog 18 #[.pointer (some ⟨gb, 0, none⟩)] w fun r w' => (∃ v', r = .returned v' ∧ LwI lo w' gd gl gb gr rc y x z x' v' (encB bps) jps bps n N G) ∧ Below w.heap.size w w' := by
  obtain ⟨v, d, m, g, kk, s, rs, vs, vr, rvs, c, ch, vp, pvs, h1, h2, h3, h4, h5, h6, h7, h8, h9, h10, h11⟩ := h.ex
  refine (save_of h7 h8 (by have := h.bl; omega)).mono ?_
  rintro r w1 ⟨⟨v', rfl, ho⟩, hb⟩
  exact ⟨⟨v', rfl, h.hold hb ho hlo⟩, hb⟩
theorem lw_whole (h : LwI lo w gd gl gb gr rc y x z x' q xq jps bps n N G) :
    Calls Try.prog 19 #[.pointer (some ⟨gb, 0, none⟩)] w fun r w' => r = .returned (.bool true) ∧ LwI lo w' gd gl gb gr rc y x z x' q xq jps bps n N G ∧ Below w.heap.size w w' := by
  obtain ⟨v, d, m, g, kk, s, rs, vs, vr, rvs, c, ch, vp, pvs, h1, h2, h3, h4, h5, h6, h7, h8, h9, h10, h11⟩ := h.ex
  refine (whole0_any gb c ch vp w h7.blk (run_cnts h8)).mono ?_
  rintro r w1 ⟨rfl, hb⟩
  exact ⟨rfl, h.below hb, hb⟩
theorem lw_fuse (h : LwI lo w gd gl gb gr rc y x z x' q xq jps bps n N G) (k : Nat) (hk : k ≤ 1000) (hlo : lo ≤ w.heap.size) :
    Calls Try.prog 20 #[.pointer (some ⟨gd, 0, none⟩), .int .i64 (k : Int)] w fun r w' => r = .returned (.tuple #[]) ∧ LwI lo w' gd gl gb gr rc y x z x' q xq jps bps n N G ∧ Below lo w w' := by
  obtain ⟨v, d, m, g, kk, s, rs, vs, vr, rvs, c, ch, vp, pvs, h1, h2, h3, h4, h5, h6, h7, h8, h9, h10, h11⟩ := h.ex
  refine (Fuse_any gd k v d w h1 hk).mono ?_
  rintro r w1 ⟨rfl, hd, hk1⟩
  have hg : DkG w w1 gd v v := DkG.of_own hk1
  refine ⟨rfl, ⟨⟨v, fuD k d, m, g, kk, s, rs, vs, vr, rvs, c, ch, vp, pvs, hd, h2, h3.of rfl rfl h3.on, h4.keep hg.keep (h1.nDS h4 (by decide) (by decide)), h5.keep hg.keep (fun b e => ?_), h6, h7.dkg h1 hg, h8, h9.dkg hg, h10.dkg hg, h11.dkg hg⟩, h.glo, h.rv.keep hg.keep (fun cs k => h1.nDS k (by decide) (by decide)), h.run, h.jl, h.bl⟩, hg.bel h2 hlo⟩
  obtain ⟨cur, k⟩ := h5.blk e
  exact h1.nDS k (by decide) (by decide)
theorem lw_post {l : List Tr} {tv : Value} {B : Nat} (h : LwI lo w gd gl gb gr rc y x z x' q xq jps bps n N G) (ht : w.ownsRow B 103 4 tv l.length (trsC l)) (hN : N ≤ 600) (hlo : lo ≤ w.heap.size) :
    Calls Try.prog 21 #[.pointer (some ⟨gb, 0, none⟩), tv] w fun r w' => ((l.length ≤ 16 ∧ (∃ k : Int, r = .returned (.tuple #[.int .i64 k, .int .i64 0])) ∧ LwI lo w' gd gl gb gr rc y x z x' q xq jps (bps ++ [l]) n (N + 1) G) ∨ (∃ e, e ≠ 0 ∧ r = .returned (.tuple #[.int .i64 0, .int .i64 e]) ∧ LwI lo w' gd gl gb gr rc y x z x' q xq jps bps n N G)) ∧ Below lo w w' := by
  obtain ⟨v, d, m, g, kk, s, rs, vs, vr, rvs, c, ch, vp, pvs, h1, h2, h3, h4, h5, h6, h7, h8, h9, h10, h11⟩ := h.ex
  have hsl := sls_of_owns (S := fun b => b ≠ gb ∧ vp.ownBlock ≠ some b) ht (fun b hb => ⟨owns_blk_neT ht h7.blk (by decide) b hb, fun e => owns_ne2 ht h7.posts (by decide) b hb e⟩)
  refine (Post_any gb c ch vp pvs bps l tv lo w h7.blk (run_cnts h8) h7.posts h7.trs hlo (by have := h.bl; omega) hsl).mono ?_
  rintro r w1 (⟨hpk, rfl, ch', vp', vs', hb, hp, htr, hg⟩ | ⟨hno, e, he, rfl, hb⟩)
  · refine ⟨.inl ⟨hpk.1.2.1, ⟨_, rfl⟩, ⟨⟨v, d, m, g, kk, s, rs, vs, vr, rvs, putL c l, ch', vp', vs', h1.bk h7 hg, h2, h3, h4.bk h7 hg, h5.bk h7 hg, h6, ⟨hb, by rw [List.length_append]; exact hp, htr, h7.lo⟩, run_snoc h8 hpk, h9.bk h7 hg, h10.bk h7 hg, h11.bk h7 hg⟩, h.glo, h.rv.keep hg.keep (fun cs k => ⟨blk_ne k h7.blk (by decide), fun e => owns_blk_neT h7.posts k (by decide) gr e rfl⟩), h.run, by have := h.jl; omega, by rw [List.length_append]; have := h.bl; simp; omega⟩⟩, hg.bel h7 hlo⟩
  · exact ⟨.inr ⟨e, he, rfl, h.below hb⟩, hb.mono hlo⟩
theorem sls_at {S : Nat → Prop} {g off k cap : Nat} {b : Bts} (h : BsR w (.slice (some ⟨g, off, none⟩) k cap) b) (hS : S g) : SlS S w (.slice (some ⟨g, off, none⟩) b.length cap) b.length (u8V b) := by
  obtain ⟨ao, cap', e, h1, h2, h3⟩ := h
  cases e
  refine ⟨_, _, rfl, h1, h2, fun hx => ?_⟩
  obtain ⟨b', off', e, -, h4, h5⟩ := h3 hx
  cases e
  exact ⟨g, off, rfl, hS, h4, h5⟩
theorem lw_add {l : List Tr} {g cap : Nat} (h : LwI lo w gd gl gb gr rc y x z x' (.slice (some ⟨g, 0, none⟩) xq.length cap) xq jps bps n N G) (hb : bps = jps ++ [l]) (hxq : xq = encB bps) (hl : l.length ≤ 16) (hn : n ≤ 1000) (hlo : lo ≤ w.heap.size) :
    Calls Try.prog 23 #[.pointer (some ⟨gl, 0, none⟩), .slice (some ⟨g, (encB jps).length, none⟩) (xq.length - (encB jps).length) (cap - (encB jps).length)] w fun r w' => (∃ e, r = .returned (.int .i64 e) ∧ ((e = 0 ∧ LwI lo w' gd gl gb gr rc y x z x' (.slice (some ⟨g, 0, none⟩) xq.length cap) xq bps bps (n + 1) N G) ∨ (e ≠ 0 ∧ RdI lo w' gd gb gr rc y x z x' jps bps bps N G))) ∧ Below lo w w' := by
  obtain ⟨v, d, m, gg, kk, s, rs, vs, vr, rvs, c, ch, vp, pvs, h1, h2, h3, h4, h5, h6, h7, h8, h9, h10, h11⟩ := h.ex
  have hx2 : xq = encB jps ++ encP l := by rw [hxq, hb, encB_snoc]
  have hpl : (encP l).length ≤ 97 := by rw [encP_length]; omega
  have hp0 : 0 < (encP l).length := by rw [encP_length]; omega
  have hxl : xq.length = (encB jps).length + (encP l).length := by rw [hx2, List.length_append]
  have hcap : xq.length ≤ cap := by
    obtain ⟨ao, cap', e, h12, -⟩ := SlR.of_owns h11.1
    cases e; exact h12
  have hbs := h11.bs.at (encB jps).length (encP l).length (by omega) (by omega)
  have hdr : (xq.drop (encB jps).length).take (encP l).length = encP l := by rw [hx2, List.drop_left, List.take_of_length_le (Nat.le_refl _)]
  rw [hdr, Nat.zero_add] at hbs
  have hsl := sls_at (S := fun b => ¬ DS gd v b) hbs (h11.2 g rfl)
  have hk : xq.length - (encB jps).length = (encP l).length := by omega
  rw [hk]
  refine (Add_any gl gd m gg vs vr rvs v d (encP l) _ lo w h1 h4 h3.hm h5 hlo (by omega) hsl (by omega)).mono ?_
  rintro r w1 ⟨rfl, v', vr', hd, hL, hg, rvs', hr, hrl⟩
  have hlow := hg.low h2 hlo
  have hbel := hg.bel h2 h.glo h5 hlo
  have hB := h7.log h1 h4 h5 hg
  have hY := h9.log h4 h5 hg
  have hZ := h10.log h4 h5 hg
  have hQ := h11.log h4 h5 hg
  have hRV := h.rv.keep hg.keep (fun cs k => ⟨h1.nDS k (by decide) (by decide), blk_ne k h4 (by decide), fun e => h5.ne_blk k (by decide) gr e rfl⟩)
  obtain ⟨p1, p2⟩ := add_plain h3 l hl
  refine ⟨⟨_, rfl, ?_⟩, hbel⟩
  by_cases he : adE m (encP l) d = 0
  · left
    have h3' := p1 he
    rw [he] at hL
    rw [← hb] at h3'
    exact ⟨he, ⟨v', _, m, gg, kk, s, _, vs, vr', rvs', c, ch, vp, pvs, hd, hlow, h3', hL, hr, by omega, hB, h8, hY, hZ, hQ⟩, h.glo, hRV, ⟨c, h8⟩, h.bl, h.bl⟩
  · right
    have h3' := p2 he
    rw [← hb] at h3'
    exact ⟨he, ⟨v', _, c, ch, vp, pvs, hd, hlow, h3', hB, h8, hY, hZ⟩, hRV, h.run, ⟨c, h8⟩, h.jl, h.bl, h.bl⟩
theorem lw_rewrite {ps : List (List Tr)} (h : LwI lo w gd gl gb gr rc y x z x' q (encB ps) ps ps n N G) (hN : N ≤ 600) (hG : G ≤ 1000000) (hlo : lo ≤ w.heap.size) :
    Calls Try.prog 24 #[.pointer (some ⟨gl, 0, none⟩), q] w fun r w' => (∃ e, r = .returned (.int .i64 e) ∧ ((e ≠ 14 ∧ LwI lo w' gd gl gb gr rc y x z x' q (encB ps) ps ps n N (G + 1)) ∨ (e = 14 ∧ RdI lo w' gd gb gr rc y x z x' ps ps ps N (G + 1)))) ∧ Below lo w w' := by
  obtain ⟨v, d, m, g, kk, s, rs, vs, vr, rvs, c, ch, vp, pvs, h1, h2, h3, h4, h5, h6, h7, h8, h9, h10, h11⟩ := h.ex
  have hel := save_len h8 (by have := h.bl; omega)
  have hg9 := h3.g
  refine (Rewrite_any gl gd m g vs vr v d (encB ps) q w h1 h4 h3.hm (by omega) h11.bs (by omega)).mono ?_
  rintro r w1 ⟨rfl, v', hd, hor⟩
  have h3m : StD d m g kk s rs ps (G + 1) := ⟨h3.on, h3.hm, h3.run, h3.tx, by omega⟩
  obtain ⟨p1, p2, p3⟩ := rew_plain h3m (by omega) (by unfold PayOk; omega)
  obtain ⟨e, he⟩ : ∃ e, wrE (1 - m) (rwF g (encB ps)) d = e := ⟨_, rfl⟩
  obtain ⟨d', hd'⟩ : ∃ e, wrD (1 - m) (rwF g (encB ps)) d = e := ⟨_, rfl⟩
  rw [he, hd'] at p1 p2 p3
  rw [he] at hor ⊢
  rw [hd'] at hd
  rcases hor with ⟨hne, hL, hg, hkk⟩ | ⟨h0, ⟨vs', hL⟩, hg⟩
  · have hlow := hg.low h2 hlo
    have hbel := hg.bel h2 h.glo h5 hlo
    have hB := h7.log h1 h4 h5 hg
    have hY := h9.log h4 h5 hg
    have hZ := h10.log h4 h5 hg
    have hQ := h11.log h4 h5 hg
    have hRV := h.rv.keep hg.keep (fun cs k => ⟨h1.nDS k (by decide) (by decide), blk_ne k h4 (by decide), fun e => h5.ne_blk k (by decide) gr e rfl⟩)
    refine ⟨⟨e, rfl, ?_⟩, hbel⟩
    by_cases h14 : e = 14
    · exact .inr ⟨h14, ⟨v', d', c, ch, vp, pvs, hd, hlow, p3 h14, hB, h8, hY, hZ⟩, hRV, h.run, h.run, h.jl, h.jl, h.bl⟩
    · have hf : (e == 14) = false := by rw [beq_eq_false_iff_ne]; exact h14
      rw [hf] at hL
      refine .inl ⟨h14, ⟨v', d', m, g, kk, s, rs, vs, vr, rvs, c, ch, vp, pvs, hd, hlow, p2 hne h14, hL, h5.keep hkk (fun b e => ?_), h6, hB, h8, hY, hZ, hQ⟩, h.glo, hRV, h.run, h.jl, h.bl⟩
      obtain ⟨cur, k2⟩ := h5.blk e
      exact ⟨h1.nDS k2 (by decide) (by decide), h5.ne_blk h4 (by decide) b e⟩
  · have hlow := hg.low h2 hlo
    have hbel := hg.bel h2 h.glo h5 hlo
    have hB := h7.log h1 h4 h5 hg
    have hY := h9.log h4 h5 hg
    have hZ := h10.log h4 h5 hg
    have hQ := h11.log h4 h5 hg
    have hRV := h.rv.keep hg.keep (fun cs k => ⟨h1.nDS k (by decide) (by decide), blk_ne k h4 (by decide), fun e => h5.ne_blk k (by decide) gr e rfl⟩)
    exact ⟨⟨e, rfl, .inl ⟨by omega, ⟨v', d', 1 - m, g + 1, 0, encB ps, [], vs', .slice none 0 0, [], c, ch, vp, pvs, hd, hlow, p1 h0, hL, .inl ⟨rfl, rfl⟩, Nat.zero_le _, hB, h8, hY, hZ, hQ⟩, h.glo, hRV, h.run, h.jl, h.bl⟩⟩, hbel⟩
theorem rd_save {X Y : List (List Tr)} (h : RdI lo w gd gb gr rc y x z x' X Y bps N G) (hN : N ≤ 600) (hlo : lo ≤ w.heap.size) :
    Calls Try.prog 18 #[.pointer (some ⟨gb, 0, none⟩)] w fun r w' => (∃ v', r = .returned v' ∧ RdI lo w' gd gb gr rc y x v' (encB bps) X Y bps N G) ∧ Below w.heap.size w w' := by
  obtain ⟨v, d, c, ch, vp, pvs, h1, h2, h3, h7, h8, h9, h10⟩ := h.ex
  refine (save_of h7 h8 (by have := h.bl; omega)).mono ?_
  rintro r w1 ⟨⟨v', rfl, ho⟩, hb⟩
  exact ⟨⟨v', rfl, ⟨v, d, c, ch, vp, pvs, h1.below hb, h2, h3, h7.below hb, h8, h9.below hb, .new h1 ho hlo⟩, h.rv.below hb, h.runX, h.runY, h.xl, h.yl, h.bl⟩, hb⟩
theorem rd_crash {X Y : List (List Tr)} {i : Nat} (h : RdI lo w gd gb gr rc y (encB X) z (encB Y) X Y bps N G) (hG : G ≤ 100 * (i + 1)) (hN : N ≤ 13 * (i + 1)) (hlo : lo ≤ w.heap.size) (k0 k1 : Int) :
    Calls Try.prog 25 #[.pointer (some ⟨gd, 0, none⟩), .int .i64 k0, .int .i64 k1] w fun r w' => r = .returned (.tuple #[]) ∧ Hd lo w' gd y z (i + 1) ∧ Below lo w w' := by
  obtain ⟨v, d, c, ch, vp, pvs, h1, h2, h3, h7, h8, h9, h10⟩ := h.ex
  obtain ⟨cx, hcx⟩ := h.runX
  obtain ⟨cy, hcy⟩ := h.runY
  refine (Crash_any gd k0 k1 v d w h1).mono ?_
  rintro r w1 ⟨rfl, v', hd, hg⟩
  exact ⟨rfl, ⟨v', _, X, Y, cx, cy, hd, hg.low h2 hlo, crash_plain (h3.mono hG) h1.safe k0 k1, hcx, hcy, Nat.le_trans h.xl hN, Nat.le_trans h.yl hN, h9.dkg hg, h10.dkg hg⟩, hg.bel h2 hlo⟩
theorem loaded_hd {i : Nat} (h : Hd lo w gd y z i) (hrv : RV w gr rc) (hlo : lo ≤ w.heap.size) (hi : i ≤ 6) :
    Calls Try.prog 16 #[.pointer (some ⟨gd, 0, none⟩)] w fun r w' => (∃ gb gl T S M, r = .returned (.tuple #[.pointer (some ⟨gb, 0, none⟩), .pointer (some ⟨gl, 0, none⟩), .bool true]) ∧ (T = S ∨ T = M) ∧ LwI lo w' gd gl gb gr rc y (encB S) z (encB M) (.slice none 0 0) [] T T 0 (13 * i) (100 * i + 1)) ∧ Below lo w w' := by
  obtain ⟨v, d, S, M, cs, cm, h1, h2, h3, h4, h5, h6, h7, h8, h9⟩ := h.ex
  obtain ⟨T, ct, hT, hr, hrun, hTl⟩ : ∃ T ct, (T = S ∨ T = M) ∧ Rest (d.b 0) (d.b 1) (encB T) (100 * i) ∧ run T = some ct ∧ T.length ≤ 13 * i := by
    rcases h3.rest with h | h
    · exact ⟨S, cs, .inl rfl, h, h4, h6⟩
    · exact ⟨M, cm, .inr rfl, h, h5, h7⟩
  obtain ⟨o, ho, op, k, hop, hst, htx, hrl⟩ := open_plain (ps := T) rfl (by omega) h3.on h3.safe hr
  have hl0 := h1.len 0 (by decide)
  have hl1 := h1.len 1 (by decide)
  have hmo := h1.most.2
  refine (loaded_any gd v d o w h1 h3.on h3.fu ho op hop T ct hrun htx (by omega) (by omega)).mono ?_
  rintro r w1 ⟨gb, v', vs, vr, ch, vp, pvs, rfl, hd, hg, hL, hB, rvs, hR, hRl⟩
  have hlow : ∀ b, DS gd v' b → lo ≤ b := hg.low h2 hlo
  refine ⟨⟨gb, w.heap.size, T, S, M, rfl, hT, ⟨v', op.d, op.m, op.g, k, op.s, op.rs, vs, vr, rvs, ct, ch, vp, pvs, hd, hlow, hst, hL, hR.mono hlo, ?_, ⟨hB.blk, owns_low hB.posts hlo, ⟨hB.trs.1, fun j hj => owns_low (hB.trs.2 j hj) hlo⟩, Nat.le_trans hlo hB.lo⟩, hrun, h8.dkg hg, h9.dkg hg, SuR.nil _ _ _ _⟩, hlo, hrv.keep hg.keep (fun cs k => h1.nDS k (by decide) (by decide)), ⟨ct, hrun⟩, hTl, hTl⟩, hg.bel h2 hlo⟩
  rw [hRl]
  have := hst.records
  have := hd.len op.m hst.hm
  have := hd.most.2
  omega

end
end Go.Proofs.Ytcpefolhohakmaa
