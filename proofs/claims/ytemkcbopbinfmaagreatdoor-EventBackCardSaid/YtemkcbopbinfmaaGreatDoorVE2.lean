/- Contracts: events; how much there is in a value. -/
import Derived.Test.YtemkcbopbinfmaaGreatDoorVE1
set_option linter.all false
namespace Go.VK
open Go Go.Proofs
set_option maxRecDepth 100000
set_option linter.unusedVariables false

structure Ev where
  k : Nat
  coll : List UInt8
  key : V
  doc : V

structure Ce where
  k : Int
  coll : ByteArray
  key : Cv
  doc : Cv

abbrev Ce.cells (c : Ce) : List Value := .int .u8 c.k :: .string c.coll :: (c.key.cells ++ c.doc.cells)
abbrev Ce.v (c : Ce) : Value := .agg #[.int .u8 c.k, .string c.coll, .int .u8 c.key.k, .bool c.key.b, .int .i64 c.key.i, .string c.key.t, c.key.bs.v, c.key.ls.v, c.key.fs.v,
  .int .u8 c.doc.k, .bool c.doc.b, .int .i64 c.doc.i, .string c.doc.t, c.doc.bs.v, c.doc.ls.v, c.doc.fs.v]

structure RE (n : Nat) (h : Heap) (e : Ev) (c : Ce) : Prop where
  k : c.k = (e.k : Int)
  small : e.k < 256
  coll : TX e.coll c.coll
  key : RV n h e.key c.key
  doc : RV n h e.doc c.doc

theorem RE.pre {n m : Nat} {h h' : Heap} {e : Ev} {c : Ce} (r : RE n h e c) (g : Pre m h h') (hm : n ≤ m) : RE n h' e c := ⟨r.k, r.small, r.coll, RV.pre g hm _ _ r.key, RV.pre g hm _ _ r.doc⟩

/-- SameEvent -/
theorem spec20 {n : Nat} {h : Heap} {e1 e2 : Ev} {c1 c2 : Ce} (hn : n ≤ h.size) (r1 : RE n h e1 c1) (r2 : RE n h e2 c2) :
    SPEC P 20 [c1.v, c2.v] [.one .bl] h h.size fun x _ => (x.1 = true ↔ e1 = e2) := by
  refine SPEC_of noNG Tryz.func20 (pl := pl20) (ps := [.agg [.nt .u8, .tx, .nt .u8, .bl, .nt .i64, .tx, .sl, .sl, .sl, .nt .u8, .bl, .nt .i64, .tx, .sl, .sl, .sl], .agg [.nt .u8, .tx, .nt .u8, .bl, .nt .i64, .tx, .sl, .sl, .sl, .nt .u8, .bl, .nt .i64, .tx, .sl, .sl, .sl]])
    (c1.k, c1.coll, c1.key.k, c1.key.b, c1.key.i, c1.key.t, c1.key.bs, c1.key.ls, c1.key.fs, c1.doc.k, c1.doc.b, c1.doc.i, c1.doc.t, c1.doc.bs, c1.doc.ls, c1.doc.fs,
     c2.k, c2.coll, c2.key.k, c2.key.b, c2.key.i, c2.key.t, c2.key.bs, c2.key.ls, c2.key.fs, c2.doc.k, c2.doc.b, c2.doc.i, c2.doc.t, c2.doc.bs, c2.doc.ls, c2.doc.fs, ()) (by kernel_rfl)
    (q20 (fun _ _ => False) c1.k c1.coll c1.key.k c1.key.b c1.key.i c1.key.t c1.key.bs c1.key.ls c1.key.fs c1.doc.k c1.doc.b c1.doc.i c1.doc.t c1.doc.bs c1.doc.ls c1.doc.fs
     c2.k c2.coll c2.key.k c2.key.b c2.key.i c2.key.t c2.key.bs c2.key.ls c2.key.fs c2.doc.k c2.doc.b c2.doc.i c2.doc.t c2.doc.bs c2.doc.ls c2.doc.fs h) (fun Q h => by rw [q20_eq] at h; exact h) ?_
  unfold q20
  refine ALLOC_r (.refl h.size h) (Nat.le_refl _) fun b2 h1 hb2 hs1 g1 _ _ => ?_
  refine ALLOC_r g1 (by omega) fun b3 h2 hb3 hs2 g2 _ _ => ?_
  intro kk hk
  obtain ⟨k1, t1, key1, doc1⟩ := e1
  obtain ⟨k2, t2, key2, doc2⟩ := e2
  have a1 := r1.k
  have a2 := r2.k
  simp only at a1 a2
  refine COND_r (fun hc1 => ?_) (fun hc => hk (false, ()) h2 ⟨g2, ?_⟩)
  · refine COND_r (fun hc2 => ?_) (fun hc => hk (false, ()) h2 ⟨g2, ?_⟩)
    · have z1 : k1 = k2 := by have : c1.k = c2.k := by simpa using hc1
                              omega
      have z2 : t1 = t2 := by rw [txt_eq r1.coll r2.coll] at hc2; simpa using hc2
      refine CALL_r (spec53 _ _ _ _ h2 (by omega) (RV.pre g2 hn _ _ r1.key) (RV.pre g2 hn _ _ r2.key)) (by simp; omega) ?_
      rintro ⟨x, _⟩ h5 hs5 g5 hx
      simp only at hx
      have g52 : Pre h.size h h5 := g2.then g5 (by omega)
      refine COND_r (fun hc3 => ?_) (fun hc => hk (false, ()) h5 ⟨g52, ?_⟩)
      · refine CALL_r (spec53 _ _ _ _ h5 (by omega) (RV.pre g52 hn _ _ r1.doc) (RV.pre g52 hn _ _ r2.doc)) (by simp; omega) ?_
        rintro ⟨y, _⟩ h6 hs6 g6 hy
        simp only at hy
        refine hk (y, ()) h6 ⟨g52.then g6 (by omega), ?_⟩
        simp only
        rw [hy]
        have := hx.1 hc3
        simp [*]
      · simp only
        refine ⟨nofun, fun e => ?_⟩
        cases e
        rw [hx.2 rfl] at hc; cases hc
    · simp only
      refine ⟨nofun, fun e => ?_⟩
      cases e
      rw [txt_eq r1.coll r2.coll] at hc; simp at hc
  · simp only
    refine ⟨nofun, fun e => ?_⟩
    cases e
    rw [a1, a2] at hc; simp at hc

mutual
def wt : V → Nat
  | .mk _ _ _ t bs l f => 1 + t.length / 64 + bs.length / 64 + wtL l + wtF f
def wtL : List V → Nat
  | [] => 0
  | v :: r => wt v + wtL r
def wtF : List (List UInt8 × V) → Nat
  | [] => 0
  | (n, v) :: r => n.length / 64 + wt v + wtF r
end

theorem wtL_take : ∀ (l : List V) (i : Nat) (hi : i < l.length), wtL (l.take (i + 1)) = wtL (l.take i) + wt l[i]
  | v :: r, 0, _ => by simp [wtL]
  | v :: r, i + 1, hi => by
    have := wtL_take r i (by simpa using hi)
    simp only [List.take_succ_cons, wtL, List.getElem_cons_succ]
    omega
theorem wtF_take : ∀ (l : List (List UInt8 × V)) (i : Nat) (hi : i < l.length), wtF (l.take (i + 1)) = wtF (l.take i) + (l[i].1.length / 64 + wt l[i].2)
  | (n, v) :: r, 0, _ => by simp [wtF]
  | (n, v) :: r, i + 1, hi => by
    have := wtF_take r i (by simpa using hi)
    simp only [List.take_succ_cons, wtF, List.getElem_cons_succ]
    omega

theorem tdiv64 (a : Nat) : Int.tdiv (a : Int) 64 = ((a / 64 : Nat) : Int) := by
  rw [Int.tdiv_eq_ediv_of_nonneg (by omega)]; omega

theorem TX.size {t : List UInt8} {s : ByteArray} (h : TX t s) : s.size = t.length := by
  rw [← h.eq, Array.length_toList]; rfl

theorem le20 (r : Nat) : decide ((r : Int) ≤ 20000) = true ↔ r ≤ 20000 := by
  rw [decide_eq_true_iff]; omega

/-- weight -/
theorem spec23 {n : Nat} (v : V) : ∀ (c : Cv) (w : Nat) (h : Heap), n ≤ h.size → RV n h v c → w ≤ 2 ^ 60 →
    SPEC P 23 [c.v, .int .i64 w] [.one (.nt .i64)] h h.size fun x _ => ∃ r : Nat, x.1 = (r : Int) ∧ (r ≤ w + 2 ^ 58 ∨ r ≤ 2 ^ 59) ∧ (r ≤ 20000 → r = w + wt v) := by
  obtain ⟨k, b, i, t, bs, l, f⟩ := v
  intro c w h hn r1 hw
  have ihl : ∀ v ∈ l, ∀ (c : Cv) (w : Nat) (h : Heap), n ≤ h.size → RV n h v c → w ≤ 2 ^ 60 →
    SPEC P 23 [c.v, .int .i64 w] [.one (.nt .i64)] h h.size fun x _ => ∃ r : Nat, x.1 = (r : Int) ∧ (r ≤ w + 2 ^ 58 ∨ r ≤ 2 ^ 59) ∧ (r ≤ 20000 → r = w + wt v) := fun v hv => spec23 v
  have ihf : ∀ v ∈ f, ∀ (c : Cv) (w : Nat) (h : Heap), n ≤ h.size → RV n h v.2 c → w ≤ 2 ^ 60 →
    SPEC P 23 [c.v, .int .i64 w] [.one (.nt .i64)] h h.size fun x _ => ∃ r : Nat, x.1 = (r : Int) ∧ (r ≤ w + 2 ^ 58 ∨ r ≤ 2 ^ 59) ∧ (r ≤ 20000 → r = w + wt v.2) := fun v hv => spec23 v.2
  obtain ⟨⟨a1, a2, a3, a4, a5, a6⟩, a7, a8, ⟨a9, a10⟩, a11, a12⟩ := r1
  refine SPEC_of noNG Tryz.func23 (pl := pl23) (ps := [.agg [.nt .u8, .bl, .nt .i64, .tx, .sl, .sl, .sl], .one (.nt .i64)])
    (c.k, c.b, c.i, c.t, c.bs, c.ls, c.fs, (w : Int), ()) (by kernel_rfl)
    (q23 (fun _ _ => False) c.k c.b c.i c.t c.bs c.ls c.fs (w : Int) h) (fun Q h => by rw [q23_eq] at h; exact h) ?_
  unfold q23
  refine ALLOC_r (.refl h.size h) (Nat.le_refl _) fun b2 h1 hb2 hs1 g1 _ _ => ?_
  refine DIVI_r (by decide) (DIVI_r (by decide) ?_)
  have e1 := a7.size
  have e2 := a8.len
  have e3 := a7.small
  have e4 := a8.small
  have e5 := a8.cap
  have e6 := a9.len
  have e7 := a9.cap
  have e8 := a9.small
  have f6 := a11.len
  have f7 := a11.cap
  have f8 := a11.small
  have ew : IntKind.wrap .i64 (IntKind.wrap .i64 (IntKind.wrap .i64 ((w : Int) + 1) + IntKind.wrap .i64 (Int.tdiv (c.t.size : Int) 64)) + IntKind.wrap .i64 (Int.tdiv (c.bs.len : Int) 64)) = ((w + 1 + t.length / 64 + bs.length / 64 : Nat) : Int) := by
    have hA : 64 * (t.length / 64) ≤ t.length := Nat.mul_div_le _ _
    have hB : 64 * (bs.length / 64) ≤ bs.length := Nat.mul_div_le _ _
    rw [tdiv64, tdiv64, e1, e2]
    generalize t.length / 64 = A at hA ⊢
    generalize bs.length / 64 = B at hB ⊢
    have w1 : IntKind.wrap .i64 ((w : Int) + 1) = (w : Int) + 1 := wrap_small (by omega) (by omega)
    have w2 : IntKind.wrap .i64 (A : Int) = A := wrap_small (by omega) (by omega)
    have w3 : IntKind.wrap .i64 (B : Int) = B := wrap_small (by omega) (by omega)
    have w4 : IntKind.wrap .i64 ((w : Int) + 1 + A) = (w : Int) + 1 + A := wrap_small (by omega) (by omega)
    have w5 : IntKind.wrap .i64 ((w : Int) + 1 + A + B) = (w : Int) + 1 + A + B := wrap_small (by omega) (by omega)
    rw [w1, w2, w4, w3, w5]
    omega
  rw [ew]
  refine LOOP_acc (s := .nt .i64) (N := l.length) (fun j x h' => Pre h.size h h' ∧ h1.size ≤ h'.size ∧ ∃ r : Nat, x = (r : Int) ∧ (r ≤ w + 2 ^ 58 ∨ r ≤ 2 ^ 59) ∧ (r ≤ 20000 → r = w + 1 + t.length / 64 + bs.length / 64 + wtL (l.take j))) (by omega)
    ⟨g1, Nat.le_refl _, _, rfl, by omega, fun _ => by simp [wtL]⟩ ?_
  rintro j x h3 hj ⟨g3, hs3, r, rfl, hr1, hr2⟩ nx hnx
  intro k4 hk4
  have body : ∀ bb : Bool, (bb = true ↔ (j < l.length ∧ r ≤ 20000)) → k4 bb h3 := fun bb hbb => ?_
  case _ =>
    refine COND_r (fun hc => body _ ?_) (fun hc => body _ ?_)
    · have := ltI hc
      rw [le20]; omega
    · have := geI hc
      exact ⟨nofun, fun e => by omega⟩
  refine hk4 (bb, ()) h3 ?_
  refine COND_r (fun hc => ?_) (fun hc => ?_)
  · obtain ⟨hj1, hr3⟩ := hbb.1 hc
    refine (RL.pre g3 hn _ _ _ a10).ix a9 rfl hj1 (fun h'' e => by rw [e]; exact .refl _ _) fun c1 q1 => ?_
    refine CALL_r (ihl _ (List.getElem_mem hj1) c1 r h3 (by omega) q1 (by omega)) (by simp; omega) ?_
    rintro ⟨y, _⟩ h6 hs6 g6 ⟨r', hy, hr4, hr5⟩
    simp only at hy
    subst hy
    refine hnx _ _ hj1 ⟨g3.then g6 (by omega), by omega, r', rfl, by omega, fun hle => ?_⟩
    rw [wtL_take l j hj1]
    have := hr5 hle
    have := hr2 hr3
    omega
  · refine LOOP_acc (s := .nt .i64) (N := f.length) (fun j x h' => Pre h.size h h' ∧ h1.size ≤ h'.size ∧ ∃ r : Nat, x = (r : Int) ∧ (r ≤ w + 2 ^ 58 ∨ r ≤ 2 ^ 59) ∧ (r ≤ 20000 → r = w + 1 + t.length / 64 + bs.length / 64 + wtL l + wtF (f.take j))) (by omega)
      ⟨g3, hs3, r, rfl, hr1, fun hle => ?_⟩ ?_
    · have hjl : ¬ (j < l.length ∧ r ≤ 20000) := fun e => by rw [hbb.2 e] at hc; cases hc
      have : l.take j = l := List.take_of_length_le (by omega)
      rw [this] at hr2
      simp [wtF]; exact hr2 hle
    rintro j2 x h8 hj2 ⟨g8, hs8, r, rfl, hr1, hr2⟩ nx hnx
    intro k9 hk9
    have body : ∀ bb : Bool, (bb = true ↔ (j2 < f.length ∧ r ≤ 20000)) → k9 bb h8 := fun bb hbb => ?_
    case _ =>
      refine COND_r (fun hc => body _ ?_) (fun hc => body _ ?_)
      · have := ltI hc
        rw [le20]; omega
      · have := geI hc
        exact ⟨nofun, fun e => by omega⟩
    refine hk9 (bb, ()) h8 ?_
    refine COND_r (fun hc => ?_) (fun hc => ?_)
    · obtain ⟨hj1, hr3⟩ := hbb.1 hc
      refine DRAW_r (n := h8.size) (by simp; omega) ?_
      obtain ⟨a0, s0, c0, z1, z2, z3, z4, z5, z6⟩ := (RF.pre g8 hn _ _ _ a12).get j2 hj1
      rw [Nat.zero_add] at z3 z5
      refine IXA_r z1 rfl (by omega) ?_
      refine LDN_V (n := h8.size) z5 (by rw [add_block, add_block]; omega) (fun h' e => e) ?_
      refine IXA_r z1 rfl (by omega) ?_
      refine ⟨s0, fun h' e => by rw [e.cell (by rw [add_block, add_block]; omega)]; exact z3, ?_⟩
      refine DIVI_r (by decide) ?_
      have y1 := z4.size
      have y2 := z4.small
      rw [tdiv64, wrap_small (x := ((s0.size / 64 : Nat) : Int)) (by omega) (by omega), wrap_small (by omega) (by omega)]
      have ec : ((r : Int) + ((s0.size / 64 : Nat) : Int)) = ((r + s0.size / 64 : Nat) : Int) := by omega
      rw [ec]
      refine CALL_r (ihf _ (List.getElem_mem hj1) c0 (r + s0.size / 64) h8 (by omega) z6 (by omega)) (by simp; omega) ?_
      rintro ⟨y, _⟩ h6 hs6 g6 ⟨r', hy, hr4, hr5⟩
      simp only at hy
      subst hy
      refine SS_r g6 (hnx _ _ hj1 ⟨g8.then g6 (by omega), by omega, r', rfl, by omega, fun hle => ?_⟩)
      rw [wtF_take f j2 hj1]
      have := hr5 hle
      have := hr2 hr3
      rw [← y1]
      omega
    · refine ⟨g8, r, rfl, hr1, fun hle => ?_⟩
      have hjl : ¬ (j2 < f.length ∧ r ≤ 20000) := fun e => by rw [hbb.2 e] at hc; cases hc
      have : f.take j2 = f := List.take_of_length_le (by omega)
      rw [this] at hr2
      rw [wt, hr2 hle]; omega
termination_by SizeOf.sizeOf v
decreasing_by
  all_goals simp_wf
  · have := List.sizeOf_lt_of_mem hv; omega
  · have := List.sizeOf_lt_of_mem hv
    have : SizeOf.sizeOf v.2 < SizeOf.sizeOf v := by cases v; simp; omega
    omega

def wtE (e : Ev) : Nat := e.coll.length / 64 + wt e.doc + wt e.key

/-- much -/
theorem spec6 {n : Nat} {h : Heap} {e : Ev} {c : Ce} (hn : n ≤ h.size) (r : RE n h e c) :
    SPEC P 6 [c.v] [.one .bl] h h.size fun x _ => (x.1 = false → wtE e ≤ 20000) := by
  refine SPEC_of noNG Tryz.func6 (pl := pl6) (ps := [.agg [.nt .u8, .tx, .nt .u8, .bl, .nt .i64, .tx, .sl, .sl, .sl, .nt .u8, .bl, .nt .i64, .tx, .sl, .sl, .sl]])
    (c.k, c.coll, c.key.k, c.key.b, c.key.i, c.key.t, c.key.bs, c.key.ls, c.key.fs, c.doc.k, c.doc.b, c.doc.i, c.doc.t, c.doc.bs, c.doc.ls, c.doc.fs, ()) (by kernel_rfl)
    (q6 (fun _ _ => False) c.k c.coll c.key.k c.key.b c.key.i c.key.t c.key.bs c.key.ls c.key.fs c.doc.k c.doc.b c.doc.i c.doc.t c.doc.bs c.doc.ls c.doc.fs h) (fun Q h => by rw [q6_eq] at h; exact h) ?_
  unfold q6
  refine ALLOC_r (.refl h.size h) (Nat.le_refl _) fun b2 h1 hb2 hs1 g1 _ _ => ?_
  refine DRAW_r (n := h1.size) (by simp; omega) (DIVI_r (by decide) ?_)
  have e1 := r.coll.size
  have e2 := r.coll.small
  have hA : 64 * (e.coll.length / 64) ≤ e.coll.length := Nat.mul_div_le _ _
  rw [tdiv64, e1, wrap_small (by omega) (by omega)]
  refine CALL_r (spec23 _ _ _ h1 (by omega) (RV.pre g1 hn _ _ r.doc) (by omega)) (by simp; omega) ?_
  rintro ⟨x, _⟩ h3 hs3 g3 ⟨r1, hx, hr1, hr2⟩
  simp only at hx
  subst hx
  have g13 : Pre h.size h h3 := g1.then g3 (by omega)
  refine SS_r g3 ?_
  refine CALL_r (spec23 _ _ r1 h3 (by omega) (RV.pre g13 hn _ _ r.key) (by omega)) (by simp; omega) ?_
  rintro ⟨y, _⟩ h4 hs4 g4 ⟨r2, hy, hr3, hr4⟩
  simp only at hy
  subst hy
  refine SS_r (g3.then g4 (by omega)) ⟨g13.then g4 (by omega), fun hf => ?_⟩
  have h5 : r2 ≤ 20000 := by
    have : ¬ ((r2 : Int) > 20000) := by simpa using hf
    omega
  have h6 := hr4 h5
  have h7 := hr2 (by omega)
  unfold wtE
  omega

end Go.VK
