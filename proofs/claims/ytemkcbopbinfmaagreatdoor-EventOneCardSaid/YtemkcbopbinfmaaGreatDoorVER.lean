/- Contracts: the statements EventOne and EventBack. -/
import Derived.Test.YtemkcbopbinfmaaGreatDoorVEQ
set_option linter.all false
namespace Go.VK
open Go Go.Proofs
set_option maxRecDepth 100000
set_option linter.unusedSimpArgs false
set_option linter.unusedVariables false

abbrev E16 : List Lay := [.agg EL16]
def Ce.of (x : TT (flat E16)) : Ce := ⟨x.1, x.2.1, ⟨x.2.2.1, x.2.2.2.1, x.2.2.2.2.1, x.2.2.2.2.2.1, x.2.2.2.2.2.2.1, x.2.2.2.2.2.2.2.1, x.2.2.2.2.2.2.2.2.1⟩,
  ⟨x.2.2.2.2.2.2.2.2.2.1, x.2.2.2.2.2.2.2.2.2.2.1, x.2.2.2.2.2.2.2.2.2.2.2.1, x.2.2.2.2.2.2.2.2.2.2.2.2.1, x.2.2.2.2.2.2.2.2.2.2.2.2.2.1, x.2.2.2.2.2.2.2.2.2.2.2.2.2.2.1, x.2.2.2.2.2.2.2.2.2.2.2.2.2.2.2.1⟩⟩

theorem unc16_i {K : Cur (flat E16) (Heap → Prop)} {c : Ce} {h : Heap}
    (k : K c.k c.coll c.key.k c.key.b c.key.i c.key.t c.key.bs c.key.ls c.key.fs c.doc.k c.doc.b c.doc.i c.doc.t c.doc.bs c.doc.ls c.doc.fs h) : unc (flat E16) K c.t16 h := k
theorem unc17_i {K : Cur (flat EVL) (Heap → Prop)} {c : Ce} {e : Int} {h : Heap}
    (k : K c.k c.coll c.key.k c.key.b c.key.i c.key.t c.key.bs c.key.ls c.key.fs c.doc.k c.doc.b c.doc.i c.doc.t c.doc.bs c.doc.ls c.doc.fs e h) : unc (flat EVL) K (c.tt e) h := k

/-- sample -/
theorem spec54 {h : Heap} : SPEC P 54 [] E16 h h.size fun x h' => ∃ c : Ce, x = c.t16 ∧ RE h'.size h' sampleE c := by
  refine SPEC_of_k noNG Tryz.func54 (pl := pl54) (ps := []) () (by kernel_rfl) (q54 (fun _ _ => False) h) (by kernel_rfl) ?_
  unfold q54
  refine ALLOC_r (.refl h.size h) (Nat.le_refl _) fun b0 h1 hb0 hs1 g1 _ hc0 => ?_
  refine ALLOC_r g1 (by omega) fun b1 h2 hb1 hs2 g2 _ hc1 => ?_
  refine PUTN_r g2 (by omega) (by simp [oneC]) fun h3 hs3 g3 _ => ?_
  refine ALLOC_r g3 (by omega) fun b6 h4 hb6 hs4 g4 _ hc6 => ?_
  refine PUTN_r g4 (by omega) (by simp [oneC]) fun h5 hs5 g5 k5 => ?_
  have c5 := (k5 b6 (by omega)).trans hc6
  have ck := LDN_known c5
  refine ⟨g5, ⟨1, ⟨#[97]⟩, ⟨3, false, 1, ByteArray.empty, NIL, NIL, NIL⟩, ⟨7, false, 0, ByteArray.empty, NIL, NIL, ⟨some ⟨b6, 0, none⟩, 1, 1⟩⟩⟩, rfl, rfl, by decide, ⟨rfl, by decide⟩, ?_, ?_⟩
  · exact RVS.rv _ _ (RVS.flat (S := fun _ => True) (k := 3) (b := false) (i := 1) (t := []) (bs := []) (by decide) (by decide) (by decide) TX.nil RB.none_ nofun)
  · refine ⟨⟨rfl, by decide, rfl, rfl, by decide, by decide⟩, TX.nil, RB.none_, ⟨SH.nil, trivial⟩, ⟨rfl, Nat.le_refl _, by show 1 < 2 ^ 63; decide, fun _ => rfl, fun a e _ => by cases e; show b6 < _; omega⟩, ?_⟩
    refine ⟨⟨⟨b6, 0, none⟩, ⟨#[95, 105, 100]⟩, ⟨3, false, 1, ByteArray.empty, NIL, NIL, NIL⟩, rfl, by show b6 < _; omega, ck 0 (by simp), ⟨rfl, by decide⟩, fun j hj => ?_, ?_⟩, trivial⟩
    · have := ck (1 + j) (by simp at hj ⊢; omega)
      rw [← add_add] at this
      rw [show ((⟨b6, 0, none⟩ : Addr).add (0 * 8)) = ⟨b6, 0, none⟩ from rfl, this, Nat.add_comm]
      rfl
    · exact RVS.rv _ _ (RVS.flat (S := fun _ => True) (k := 3) (b := false) (i := 1) (t := []) (bs := []) (by decide) (by decide) (by decide) TX.nil RB.none_ nofun)

theorem RE.mono {n m : Nat} {h : Heap} {e : Ev} {c : Ce} (r : RE n h e c) (hm : n ≤ m) : RE m h e c := ⟨r.k, r.small, r.coll, RV.mono hm _ _ r.key, RV.mono hm _ _ r.doc⟩

theorem wt_sample : wt sampleE.key ≤ 2 ^ 30 ∧ wt sampleE.doc ≤ 2 ^ 30 := by
  constructor <;> simp [sampleE, oneV, wt, wtL, wtF, idT]

theorem ok_one : okV oneV := ⟨by decide, by decide, by decide, trivial, trivial⟩
theorem ok_sample : okV sampleE.key ∧ okV sampleE.doc := ⟨ok_one, by decide, by decide, by decide, trivial, ok_one, trivial⟩

theorem sample_rb {h : Heap} {b t : Nat} (hb : b < h.size) (hc : h[b]? = some (.cells [Value.int .u8 1, .int .u8 1, .int .u8 97, .int .u8 2, .int .u8 4, .int .u8 2, .int .u8 8, .int .u8 1, .int .u8 3, .int .u8 95, .int .u8 105, .int .u8 100, .int .u8 4, .int .u8 2].toArray t (0, 0))) :
    RB h.size h (outB sampleE) ⟨some ⟨b, 0, none⟩, 14, 14⟩ := by
  rw [sample_out]
  refine ⟨rfl, Nat.le_refl _, by show 14 < 2 ^ 63; decide, fun _ => ⟨⟨b, 0, none⟩, rfl, hb, fun i hi => ?_⟩, fun a e _ => by cases e; exact hb⟩
  have := LDN_known hc i (by simpa using hi)
  rw [this]
  have hi : i < 14 := by simpa using hi
  match i, hi with
  | 0, _ => rfl
  | 1, _ => rfl
  | 2, _ => rfl
  | 3, _ => rfl
  | 4, _ => rfl
  | 5, _ => rfl
  | 6, _ => rfl
  | 7, _ => rfl
  | 8, _ => rfl
  | 9, _ => rfl
  | 10, _ => rfl
  | 11, _ => rfl
  | 12, _ => rfl
  | 13, _ => rfl

set_option maxHeartbeats 1000000 in
/-- known -/
theorem spec21 {h : Heap} (h2 : 2 ≤ h.size) (hT : Tabs h) : SPEC P 21 [] [.one .bl] h h.size fun x _ => x.1 = true := by
  refine SPEC_of_k noNG Tryz.func21 (pl := pl21) (ps := []) () (by kernel_rfl) (q21 (fun _ _ => False) h) (by kernel_rfl) ?_
  unfold q21
  refine CALL_r (spec54 (h := h)) (by simp) ?_
  rintro x h1 hs1 g1 ⟨c, rfl, r⟩
  refine unc16_i ?_
  refine CALL_r (spec9 (n := h1.size) (e := sampleE) (c := c) (Nat.le_refl _) (by omega) (hT.pre g1 h2) r wt_sample.1 wt_sample.2 (by decide)) (by simp) ?_
  rintro ⟨s, z, ⟨⟩⟩ h3 hs3 g3 ⟨hz, hb, _⟩
  refine unc2_i (s1 := .sl) (s2 := .nt .u16) ?_
  simp only at hz hb
  have hb := hb sample_ev
  have hz0 : z = 0 := by rw [hz, sample_ev]; rfl
  clear hz
  subst hz0
  have g03 : Pre h.size h h3 := g1.then g3 (by omega)
  refine CALL_r (spec10 (n := h3.size) (Nat.le_refl _) (by omega) (hT.pre g03 h2) hb.rb) (by simp) ?_
  rintro x h4 hs4 g4 ⟨q1, _⟩
  have hd : eDec (outB sampleE) = some sampleE := eDec_out sample_ev ok_sample.1 ok_sample.2 (by have := wt_sample.1; omega) (by have := wt_sample.2; omega) (by decide)
  obtain ⟨c4, rfl, eo⟩ := q1 _ hd
  refine unc17_i ?_
  have g04 : Pre h.size h h4 := g03.then g4 (by omega)
  refine ALLOC_r g04 (by omega) fun b3 h5 hb3 hs5 g5 g45 _ => ?_
  refine PUTN_r g5 (by omega) (by simp [oneC, Sl.v]) fun h6 hs6 g6 k6 => ?_
  have g46 : Pre h4.size h4 h6 := ⟨by omega, fun b hb => by rw [k6 _ (by omega), g45.same _ hb]⟩
  intro k7 hk7
  refine DRAW_r (n := h6.size) (kb1 (by omega)) ?_
  refine COND_r (fun _ => ?_) (fun h => absurd h (by decide))
  refine COND_r (fun _ => ?_) (fun h => absurd h (by decide))
  refine CALL_r (spec54 (h := h6)) (kb1 (by omega)) ?_
  rintro x h9 hs9 g9 ⟨c9, rfl, r9⟩
  refine unc16_i ?_
  refine SS_r g9 ?_
  refine CALL_r (spec20 (n := h9.size) (Nat.le_refl _) ((eo.re.pre g46 (Nat.le_refl _)).pre g9 (by omega) |>.mono (by omega)) r9) (kb1 (by omega)) ?_
  rintro ⟨x, ⟨⟩⟩ h10 hs10 g10 hx
  simp only at hx
  have g910 : Pre h6.size h6 h10 := g9.then g10 (by omega)
  refine SS_r g910 ?_
  have hx : x = true := hx.2 (by first | exact rfl | exact trivial)
  subst hx
  refine COND_r (fun _ => ?_) (fun h => by cases h)
  refine ALLOC_r (.refl h10.size h10) (Nat.le_refl _) fun b28 h11 hb28 hs11 g11 _ hc28 => ?_
  have g611 : Pre h6.size h6 h11 := g910.then g11 (by omega)
  refine SS_r g611 ?_
  have rb2 : RB h11.size h11 (outB sampleE) ⟨some ⟨b28, 0, none⟩, 14, 14⟩ := sample_rb (by omega) hc28
  have g311 : Pre h3.size h3 h11 := g4.trans (g46.then g611 (by omega) |>.mono hs4)
  have rb1 := (hb.rb.pre g311 (Nat.le_refl _)).mono (m := h11.size) (by omega)
  clear hd
  generalize outB sampleE = BB at rb1 rb2
  have h1b : b3 < h11.size := by omega
  have c19 := spec19 (n := h11.size) rb1 rb2
  refine CALL_r c19 (kb1 h1b) ?_
  rintro ⟨x, ⟨⟩⟩ h12 hs12 g12 ⟨rfl, hx⟩
  refine SS_r g611 ?_
  have hx : x = true := hx.2 rfl
  subst hx
  exact hk7 (true, ()) h12 ⟨g6.then g611 (by omega), rfl⟩

theorem wtE_ok {e : Ev} (h : wtE e ≤ 20000) : wt e.key ≤ 2 ^ 30 ∧ wt e.doc ≤ 2 ^ 30 ∧ e.coll.length ≤ 2 ^ 40 := by
  unfold wtE at h
  have := tx_len e.coll
  omega

set_option maxHeartbeats 2000000 in
/-- EventOne -/
theorem spec5 {n : Nat} {h : Heap} {a b : Ev} {ca cb : Ce} (hn : n ≤ h.size) (h2 : 2 ≤ h.size) (hT : Tabs h) (ra : RE n h a ca) (rb : RE n h b cb) :
    SPEC P 5 [ca.v, cb.v] [.one .bl] h h.size fun x _ => x.1 = true := by
  refine SPEC_of_k noNG Tryz.func5 (pl := pl5) (ps := [.agg EL16, .agg EL16])
    (ca.k, ca.coll, ca.key.k, ca.key.b, ca.key.i, ca.key.t, ca.key.bs, ca.key.ls, ca.key.fs, ca.doc.k, ca.doc.b, ca.doc.i, ca.doc.t, ca.doc.bs, ca.doc.ls, ca.doc.fs,
     cb.k, cb.coll, cb.key.k, cb.key.b, cb.key.i, cb.key.t, cb.key.bs, cb.key.ls, cb.key.fs, cb.doc.k, cb.doc.b, cb.doc.i, cb.doc.t, cb.doc.bs, cb.doc.ls, cb.doc.fs, ()) (by kernel_rfl)
    (q5 (fun _ _ => False) ca.k ca.coll ca.key.k ca.key.b ca.key.i ca.key.t ca.key.bs ca.key.ls ca.key.fs ca.doc.k ca.doc.b ca.doc.i ca.doc.t ca.doc.bs ca.doc.ls ca.doc.fs
     cb.k cb.coll cb.key.k cb.key.b cb.key.i cb.key.t cb.key.bs cb.key.ls cb.key.fs cb.doc.k cb.doc.b cb.doc.i cb.doc.t cb.doc.bs cb.doc.ls cb.doc.fs h) (by kernel_rfl) ?_
  unfold q5
  refine ALLOC_r (.refl h.size h) (Nat.le_refl _) fun b2 h1 hb2 hs1 g1 _ _ => ?_
  refine ALLOC_r g1 (by omega) fun b3 h3 hb3 hs3 g3 _ _ => ?_
  have kb : ∀ {m : Nat}, h3.size ≤ m → ∀ b ∈ [b2, b3], b < m := fun hm => kb2 (by omega) (by omega)
  intro k3 hk3
  have yes : ∀ X, Pre h.size h X → h3.size ≤ X.size → k3 true X := fun X gX hX => by
    refine hk3 (true, ()) X (COND_r (fun _ => ?_) (fun h => by cases h))
    refine CALL_r (spec21 (by have := gX.sz; omega) (hT.pre gX h2)) (kb hX) ?_
    rintro ⟨x, ⟨⟩⟩ Y hsY gY hx
    exact ⟨gX.then gY gX.sz, hx⟩
  refine CALL_r (spec6 (n := n) (by omega) (ra.pre g3 hn)) (kb (Nat.le_refl _)) ?_
  rintro ⟨x, ⟨⟩⟩ h5 hs5 g5 hx
  simp only at hx
  have g05 : Pre h.size h h5 := g3.then g5 (by omega)
  refine COND_r (fun hc => yes h5 g05 (by omega)) (fun hc => ?_)
  have wa := hx hc
  refine CALL_r (spec6 (n := n) (by omega) (rb.pre g05 hn)) (kb hs5) ?_
  rintro ⟨x, ⟨⟩⟩ h6 hs6 g6 hx
  simp only at hx
  have g06 : Pre h.size h h6 := g05.then g6 (by omega)
  refine COND_r (fun hc => yes h6 g06 (by omega)) (fun hc => ?_)
  have wb := hx hc
  refine CALL_r (spec21 (by omega) (hT.pre g06 h2)) (kb (by omega)) ?_
  rintro ⟨x, ⟨⟩⟩ h7 hs7 g7 hx
  simp only at hx
  subst hx
  have g07 : Pre h.size h h7 := g06.then g7 (by omega)
  refine hk3 (false, ()) h7 ?_
  refine COND_r (fun h => by cases h) (fun _ => ?_)
  obtain ⟨wa1, wa2, wa3⟩ := wtE_ok wa
  obtain ⟨wb1, wb2, wb3⟩ := wtE_ok wb
  refine CALL_r (spec9 (n := n) (e := a) (c := ca) (by omega) (by omega) (hT.pre g07 h2) (ra.pre g07 hn) wa1 wa2 wa3) (kb (by omega)) ?_
  rintro ⟨sx, ex, ⟨⟩⟩ h9 hs9 g9 ⟨hex, hbx, _⟩
  refine unc2_i (s1 := .sl) (s2 := .nt .u16) ?_
  simp only at hex hbx
  subst hex
  have g09 : Pre h.size h h9 := g07.then g9 (by omega)
  refine CALL_r (spec9 (n := n) (e := b) (c := cb) (by omega) (by omega) (hT.pre g09 h2) (rb.pre g09 hn) wb1 wb2 wb3) (kb (by omega)) ?_
  rintro ⟨sy, ey, ⟨⟩⟩ h10 hs10 g10 ⟨hey, hby, _⟩
  refine unc2_i (s1 := .sl) (s2 := .nt .u16) ?_
  simp only at hey hby
  subst hey
  have g010 : Pre h.size h h10 := g09.then g10 (by omega)
  intro k11 hk11
  refine DRAW_r (n := h10.size) (kb (by omega)) ?_
  have done : ∀ X, Pre h.size h X → k11 true X := fun X gX => hk11 (true, ()) X ⟨gX, rfl⟩
  refine COND_r (fun _ => SS_r (.refl _ _) (SS_r (.refl _ _) (done h10 g010))) (fun hc => ?_)
  have hea : evE a = 0 := by
    have : ((evE a : Nat) : Int) = 0 := by simpa using hc
    omega
  refine COND_r (fun _ => SS_r (.refl _ _) (SS_r (.refl _ _) (done h10 g010))) (fun hc => ?_)
  have heb : evE b = 0 := by
    have : ((evE b : Nat) : Int) = 0 := by simpa using hc
    omega
  have bx := hbx hea
  have bY := hby heb
  refine CALL_r (spec19 (n := h10.size) ((bx.rb.pre g10 (Nat.le_refl _)).mono hs10) bY.rb) (kb (by omega)) ?_
  rintro ⟨x, ⟨⟩⟩ h14 hs14 g14 ⟨rfl, hx⟩
  simp only at hx
  refine SS_r (.refl _ _) ?_
  refine CALL_r (spec20 (n := n) (by omega) (ra.pre g010 hn) (rb.pre g010 hn)) (kb (by omega)) ?_
  rintro ⟨y, ⟨⟩⟩ h15 hs15 g15 hy
  simp only at hy
  refine SS_r g15 ?_
  have law : outB a = outB b ↔ a = b := by
    refine ⟨fun h => ?_, fun h => by rw [h]⟩
    have h1 := eDec_out hea (RV.ok _ _ ra.key) (RV.ok _ _ ra.doc) (by omega) (by omega) ra.coll.small
    have h2 := eDec_out heb (RV.ok _ _ rb.key) (RV.ok _ _ rb.doc) (by omega) (by omega) rb.coll.small
    rw [h] at h1
    exact Option.some.inj (h1.symm.trans h2)
  have e : x = y := by
    have := hx.trans (law.trans hy.symm)
    cases x <;> cases y <;> simp_all
  subst e
  refine hk11 ((x == x), ()) h15 ⟨g010.then g15 (by omega), ?_⟩
  show (x == x) = true
  cases x <;> rfl

theorem zeroEv_re {n : Nat} {h : Heap} : RE n h ⟨0, [], zeroV, zeroV⟩ ZE := ⟨rfl, by decide, TX.nil, RV.zero, RV.zero⟩

set_option maxHeartbeats 2000000 in
/-- EventBack -/
theorem spec4 {n : Nat} {h : Heap} {e : Ev} {c : Ce} {b : List UInt8} {s : Sl} (hn : n ≤ h.size) (h2 : 2 ≤ h.size) (hT : Tabs h) (r : RE n h e c) (rb : RB n h b s) :
    SPEC P 4 [c.v, s.v] [.one .bl] h h.size fun x _ => x.1 = true := by
  refine SPEC_of_k noNG Tryz.func4 (pl := pl4) (ps := [.agg EL16, .one .sl])
    (c.k, c.coll, c.key.k, c.key.b, c.key.i, c.key.t, c.key.bs, c.key.ls, c.key.fs, c.doc.k, c.doc.b, c.doc.i, c.doc.t, c.doc.bs, c.doc.ls, c.doc.fs, s, ()) (by kernel_rfl)
    (q4 (fun _ _ => False) c.k c.coll c.key.k c.key.b c.key.i c.key.t c.key.bs c.key.ls c.key.fs c.doc.k c.doc.b c.doc.i c.doc.t c.doc.bs c.doc.ls c.doc.fs s h) (by kernel_rfl) ?_
  unfold q4
  refine ALLOC_r (.refl h.size h) (Nat.le_refl _) fun b2 h1 hb2 hs1 g1 _ _ => ?_
  intro k2 hk2
  have yes : ∀ X, Pre h.size h X → k2 true X := fun X gX => hk2 (true, ()) X (COND_r (fun _ => ⟨gX, rfl⟩) (fun h => by cases h))
  refine CALL_r (spec6 (n := n) (by omega) (r.pre g1 hn)) (kb1 (by omega)) ?_
  rintro ⟨x, ⟨⟩⟩ h4 hs4 g4 hx
  simp only at hx
  have g04 : Pre h.size h h4 := g1.then g4 (by omega)
  refine COND_r (fun hc => yes h4 g04) (fun hc => ?_)
  have wa := hx hc
  obtain ⟨wa1, wa2, wa3⟩ := wtE_ok wa
  cases hd : decide ((s.len : Int) > 20000) with
  | true => exact yes h4 g04
  | false =>
  refine hk2 (false, ()) h4 (COND_r (fun h => by cases h) (fun _ => ?_))
  refine CALL_r (spec9 (n := n) (e := e) (c := c) (by omega) (by omega) (hT.pre g04 h2) (r.pre g04 hn) wa1 wa2 wa3) (kb1 (by omega)) ?_
  rintro ⟨sx, f, ⟨⟩⟩ h5 hs5 g5 ⟨hf, hbx, _⟩
  refine unc2_i (s1 := .sl) (s2 := .nt .u16) ?_
  simp only at hf hbx
  subst hf
  have g05 : Pre h.size h h5 := g04.then g5 (by omega)
  refine CALL_r (spec10 (n := n) (by omega) (by omega) (hT.pre g05 h2) (rb.pre g05 hn)) (kb1 (by omega)) ?_
  rintro y h6 hs6 g6 ⟨q1, q2⟩
  have g06 : Pre h.size h h6 := g05.then g6 (by omega)
  -- what was read, as cells
  obtain ⟨cy, g, rfl, hy⟩ : ∃ (cy : Ce) (g : Int), y = cy.tt g ∧ ((∃ ey, eDec b = some ey ∧ g = 0 ∧ EO h5.size h6.size h6 ey cy) ∨ (eDec b = none ∧ g = 210 ∧ cy = ZE)) := by
    cases hE : eDec b with
    | none => exact ⟨ZE, 210, q2 hE, .inr ⟨rfl, rfl, rfl⟩⟩
    | some ey =>
      obtain ⟨cy, h1, h2⟩ := q1 ey hE
      exact ⟨cy, 0, h1, .inl ⟨ey, rfl, rfl, h2⟩⟩
  clear q1 q2
  refine unc17_i ?_
  refine ALLOC_r g06 (by omega) fun b7 h7 hb7 hs7 g7 g67 _ => ?_
  refine PUTN_r g7 (by omega) (by simp [oneC, Sl.v]) fun h8 hs8 g8 k8 => ?_
  have g68 : Pre h6.size h6 h8 := ⟨by omega, fun b hb => by rw [k8 _ (by omega), g67.same _ hb]⟩
  refine CALL_r (spec21 (by omega) (hT.pre g8 h2)) (kb2 (by omega) (by omega)) ?_
  rintro ⟨x, ⟨⟩⟩ h9 hs9 g9 hx
  simp only at hx
  subst hx
  have g09 : Pre h.size h h9 := g8.then g9 (by omega)
  have g69 : Pre h6.size h6 h9 := g68.then g9 (by omega)
  have g59 : Pre h5.size h5 h9 := g6.trans (g69.mono hs6)
  refine COND_r (fun h => by cases h) (fun _ => ?_)
  intro k10 hk10
  -- the second half
  have second : ∀ X, Pre h9.size h9 X → k10 X := fun X gX => by
    have hsX := gX.sz
    have g0X : Pre h.size h X := g09.then gX (by omega)
    have g6X : Pre h6.size h6 X := g69.then gX (by omega)
    have g5X : Pre h5.size h5 X := g59.then gX (by omega)
    refine hk10 () X ?_
    rcases hy with ⟨ey, hE, rfl, eo⟩ | ⟨hE, rfl, rfl⟩
    · refine COND_r (fun h => absurd h (by decide)) (fun _ => ?_)
      obtain ⟨v1, v2⟩ := eDec_inv hE
      have hm : mayP ey := by
        unfold evE at v1
        split at v1
        · assumption
        · omega
      have hlen : (outB ey).length ≤ 8192 := by
        unfold evE at v1
        rw [if_pos hm] at v1
        split at v1
        · omega
        · omega
      have hws : wt ey.key ≤ 2 ^ 30 ∧ wt ey.doc ≤ 2 ^ 30 ∧ ey.coll.length ≤ 2 ^ 40 := by
        have hcl : ey.coll.length ≤ 8192 := by unfold outB at hlen; simp only [List.length_append] at hlen; omega
        have := eDec_wt hE
        omega
      refine CALL_r (spec9 (n := h6.size) (e := ey) (c := cy) (by omega) (by omega) (hT.pre g0X h2) (eo.re.pre g6X (Nat.le_refl _)) hws.1 hws.2.1 hws.2.2) (kb1 (by omega)) ?_
      rintro ⟨sz, ez, ⟨⟩⟩ Y hsY gY ⟨hez, hbz, _⟩
      refine unc2_i (s1 := .sl) (s2 := .nt .u16) ?_
      simp only at hez hbz
      subst hez
      have g0Y : Pre h.size h Y := g0X.then gY (by omega)
      intro k23 hk23
      rw [v1]
      have bz := hbz v1
      refine COND_r (fun _ => ?_) (fun h => absurd h (by decide))
      refine CALL_r (spec19 (n := Y.size) bz.rb ((rb.pre g0Y hn).mono (by omega))) (kb1 (by omega)) ?_
      rintro ⟨x, ⟨⟩⟩ W hsW gW ⟨rfl, hx⟩
      simp only at hx
      exact hk23 (x, ()) W ⟨g0Y, hx.2 v2⟩
    · refine COND_r (fun _ => ?_) (fun h => absurd h (by decide))
      intro k18 hk18
      refine CALL_r (spec20 (n := X.size) (e1 := ⟨0, [], zeroV, zeroV⟩) (e2 := ⟨0, [], zeroV, zeroV⟩) (c1 := ZE) (c2 := ZE) (Nat.le_refl _) zeroEv_re zeroEv_re) (kb1 (by omega)) ?_
      rintro ⟨x, ⟨⟩⟩ Y hsY gY hx
      simp only at hx
      have hx : x = true := hx.2 (by first | exact rfl | exact trivial)
      subst hx
      have g0Y : Pre h.size h Y := g0X.then gY (by omega)
      have g5Y : Pre h5.size h5 Y := g5X.then gY (by omega)
      refine COND_r (fun _ => ?_) (fun h => by cases h)
      refine COND_r (fun _ => hk18 (true, ()) Y ⟨g0Y, rfl⟩) (fun hc => ?_)
      have he0 : evE e = 0 := by
        have : ((evE e : Nat) : Int) = 0 := by simpa using hc
        omega
      have bx := hbx he0
      refine CALL_r (spec19 (n := Y.size) ((bx.rb.pre g5Y (Nat.le_refl _)).mono (by omega)) ((rb.pre g0Y hn).mono (by omega))) (kb1 (by omega)) ?_
      rintro ⟨x, ⟨⟩⟩ W hsW gW ⟨rfl, hx⟩
      simp only at hx
      refine hk18 ((!x), ()) W ⟨g0Y, ?_⟩
      show (!x) = true
      cases x with
      | false => rfl
      | true =>
        have hob := hx.1 rfl
        have := eDec_out he0 (RV.ok _ _ r.key) (RV.ok _ _ r.doc) (by omega) (by omega) r.coll.small
        rw [hob, hE] at this; cases this
  refine COND_r (fun hc => ?_) (fun hc => second h9 (.refl _ _))
  have he0 : evE e = 0 := by
    have : ((evE e : Nat) : Int) = 0 := by simpa using hc
    omega
  have bx := hbx he0
  have hdec := eDec_out he0 (RV.ok _ _ r.key) (RV.ok _ _ r.doc) (by omega) (by omega) r.coll.small
  refine CALL_r (spec10 (n := h9.size) (Nat.le_refl _) (by omega) (hT.pre g09 h2) ((bx.rb.pre g59 (Nat.le_refl _)).mono (by omega))) (kb2 (by omega) (by omega)) ?_
  rintro z h12 hs12 g12 ⟨q1, _⟩
  obtain ⟨cz, rfl, ez⟩ := q1 e hdec
  refine unc17_i ?_
  have g012 : Pre h.size h h12 := g09.then g12 (by omega)
  refine ALLOC_r g012 (by omega) fun b9 h13 hb9 hs13 g13 g123 _ => ?_
  refine PUTN_r g13 (by omega) (by simp [oneC, Sl.v]) fun h14 hs14 g14 k14 => ?_
  have g1214 : Pre h12.size h12 h14 := ⟨by omega, fun b hb => by rw [k14 _ (by omega), g123.same _ hb]⟩
  intro k15 hk15
  refine COND_r (fun h => absurd h (by decide)) (fun _ => ?_)
  refine CALL_r (spec20 (n := h14.size) (e1 := e) (e2 := e) (c1 := cz) (c2 := c) (Nat.le_refl _) ((ez.re.pre g1214 (Nat.le_refl _)).mono (by omega)) ((r.pre g14 hn).mono (by omega))) (kb3 (by omega) (by omega) (by omega)) ?_
  rintro ⟨x, ⟨⟩⟩ h17 hs17 g17 hx
  simp only at hx
  have hx : x = true := hx.2 (by first | exact rfl | exact trivial)
  subst hx
  refine hk15 (false, ()) h17 (COND_r (fun h => by cases h) (fun _ => second h17 (g12.trans ((g1214.then g17 (by omega)).mono hs12))))

end Go.VK
