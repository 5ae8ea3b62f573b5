/- Contracts: value.Clone. -/
import Derived.Test.YtemkcbopbinfmaaGreatDoorVEA
set_option linter.all false
namespace Go.VK
open Go Go.Proofs
set_option maxRecDepth 100000
set_option linter.unusedSimpArgs false
set_option linter.unusedVariables false

theorem RL.rows {n : Nat} {h : Heap} {a0 : Addr} : ∀ {l : List V} {i : Nat}, RL n h l (some a0) i → ∃ cs : List Cv, cs.length = l.length ∧ ∀ j (hj : j < l.length) (hc : j < cs.length), CELLS h (a0.add ((i + j) * 7)) cs[j].cells ∧ RV n h l[j] cs[j]
  | [], _, _ => ⟨[], rfl, fun j hj => by simp at hj⟩
  | v :: r, i, ⟨⟨a1, c, e, _, h1, h2⟩, h3⟩ => by
    cases e
    obtain ⟨cs, q1, q2⟩ := RL.rows h3
    refine ⟨c :: cs, by simp [q1], fun j hj hc => ?_⟩
    cases j with
    | zero => exact ⟨h1, h2⟩
    | succ j =>
      have := q2 j (by simpa using hj) (by simpa using hc)
      rw [Nat.add_assoc, Nat.add_comm 1 j] at this
      exact this

structure Fw where
  nm : ByteArray
  c : Cv
abbrev Fw.cells (x : Fw) : List Value := .string x.nm :: x.c.cells

theorem RF.rows {n : Nat} {h : Heap} {a0 : Addr} : ∀ {l : List (List UInt8 × V)} {i : Nat}, RF n h l (some a0) i → ∃ cs : List Fw, cs.length = l.length ∧ ∀ j (hj : j < l.length) (hc : j < cs.length), CELLS h (a0.add ((i + j) * 8)) cs[j].cells ∧ TX l[j].1 cs[j].nm ∧ RV n h l[j].2 cs[j].c
  | [], _, _ => ⟨[], rfl, fun j hj => by simp at hj⟩
  | (nm, v) :: r, i, ⟨⟨a1, s, c, e, _, h1, ht, h2, h4⟩, h3⟩ => by
    cases e
    obtain ⟨cs, q1, q2⟩ := RF.rows h3
    refine ⟨⟨s, c⟩ :: cs, by simp [q1], fun j hj hc => ?_⟩
    cases j with
    | zero =>
      refine ⟨fun j hj => ?_, ht, h4⟩
      cases j with
      | zero => exact h1
      | succ j =>
        have := h2 j (by simp at hj ⊢; omega)
        rw [add_add, Nat.add_comm] at this
        exact this
    | succ j =>
      have := q2 j (by simpa using hj) (by simpa using hc)
      rw [Nat.add_assoc, Nat.add_comm 1 j] at this
      exact this

/-- A slice of elements that is new; its block stands between lo and hi. -/
structure NS (lo hi : Nat) (h : Heap) (k N : Nat) (s : Sl) : Prop where
  len : s.len = N
  cap : s.len ≤ s.cap
  small : s.cap < 2 ^ 63
  some_ : N ≠ 0 → s.a.isSome = true
  blk : ∀ a, s.a = some a → lo ≤ a.block ∧ a.block < hi
  room : ∀ a, s.a = some a → ∀ i, i < N * k → (cell h (a.add i)).isSome = true ∧ frz h (a.add i) = false

theorem NS.os {lo hi k N : Nat} {h : Heap} {s : Sl} (r : NS lo hi h k N s) : OS lo hi h k N ⟨s.a, s.len, s.len⟩ :=
  ⟨r.len, r.len, by have := r.len; have := r.cap; have := r.small; omega, r.some_, r.blk, r.room⟩

theorem NS.none_ {lo hi k N : Nat} {h : Heap} (h0 : N = 0) : NS lo hi h k N ⟨none, 0, 0⟩ := ⟨h0.symm, Nat.le_refl _, by show 0 < 2 ^ 63; decide, fun h => absurd h0 h, nofun, nofun⟩

/-- Clone of a list of values -/
theorem spec152 {n : Nat} {h : Heap} {l : List V} {s : Sl} (hn : n ≤ h.size) (r : RL n h l s.a 0) (sh : SH n l.length s) (hl : l.length ≤ 2 ^ 40) :
    SPEC P 152 [s.v] [.one .sl] h h.size fun x h' => NS h.size h'.size h' 7 l.length x.1 ∧ ∀ a, x.1.a = some a → ∀ i (hi : i < l.length), ∃ c, CELLS h' (a.add (i * 7)) (Cv.cells c) ∧ RV n h l[i] c := by
  refine SPEC_of noNG Tryz.func152 (pl := pl152) (ps := [.one .sl]) (s, ()) (by kernel_rfl) (q152 (fun _ _ => False) s h) (fun Q h => by rw [q152_eq] at h; exact h) ?_
  unfold q152
  have e1 := sh.len
  refine COND_r (fun hc => ⟨.refl _ _, ?_⟩) (fun hc => ?_)
  · have ha : s.a = none := by simpa using hc
    have h0 : l.length = 0 := by
      rcases Nat.eq_zero_or_pos l.length with h0 | h0
      · exact h0
      · have := sh.some_ (by omega); rw [ha] at this; cases this
    exact ⟨.none_ h0, nofun⟩
  · obtain ⟨a0, ha⟩ : ∃ a0, s.a = some a0 := by cases hs : s.a with
      | none => rw [hs] at hc; cases hc
      | some a => exact ⟨a, rfl⟩
    refine ALLOC_r (.refl h.size h) (Nat.le_refl _) fun b h1 hb hs1 g1 _ _ => ?_
    rw [ha] at r
    have hab : 0 < l.length → a0.block < n := fun h0 => sh.blk a0 ha (by have := sh.len; have := sh.cap; omega)
    obtain ⟨cs, q1, q2⟩ := RL.rows r
    have hr : ∀ r ∈ cs.map Cv.cells, r.length = 7 := fun r hr => by obtain ⟨c, _, rfl⟩ := List.mem_map.1 hr; rfl
    refine APPEND_rows (rows := cs.map Cv.cells) (by decide) (by decide) (by simp [e1, q1]) hr (fun a ha' i hi => ?_) (fun e => by rw [ha] at e; cases e) (by omega) (fun h0 => ?_) (fun h0 c hc hc2 => ?_)
    · obtain rfl := Option.some.inj (ha.symm.trans ha')
      have hi : i < cs.length := by simpa using hi
      have hab := hab (by omega)
      have := (q2 i (by omega) hi).1.pre g1 (by rw [add_block]; omega)
      rw [Nat.zero_add] at this
      simpa using this
    · have h0 : l.length = 0 := by
        have : cs.length = 0 := by simpa using h0
        omega
      refine ⟨g1, ⟨h0.symm, Nat.le_refl _, by show 0 < 2 ^ 63; decide, fun e => absurd h0 e, fun a e => ?_, fun a e i hi => by rw [h0] at hi; simp at hi⟩, fun a e i hi => by omega⟩
      cases e
      show h.size ≤ b ∧ b < h1.size
      omega
    · have hfl := flatten_len hr
      have g2 : Pre h1.size h1 (h1.push (.cells ((cs.map Cv.cells).flatten ++ zeroes [.int .u8 0, .bool false, .int .i64 0, .string ByteArray.empty, .slice none 0 0, .slice none 0 0, .slice none 0 0] (c - s.len)).toArray 27 (0, 0))) := (Pre.refl _ _).push (Nat.le_refl _) _
      have rd : ∀ i, i < l.length * 7 → cell (h1.push (.cells ((cs.map Cv.cells).flatten ++ zeroes [.int .u8 0, .bool false, .int .i64 0, .string ByteArray.empty, .slice none 0 0, .slice none 0 0, .slice none 0 0] (c - s.len)).toArray 27 (0, 0))) ((⟨h1.size, 0, none⟩ : Addr).add i) = (cs.map Cv.cells).flatten[i]? := fun i hi => by
        rw [cell_pushed, List.getElem?_append_left (by rw [hfl]; simp [q1]; exact hi)]
      refine ⟨g1.then g2 (by omega), ⟨e1, hc, hc2, fun _ => rfl, fun a e => ?_, fun a e i hi => ?_⟩, fun a e i hi => ?_⟩
      · cases e
        simp; omega
      · cases e
        rw [rd i hi]
        exact ⟨by rw [List.getElem?_eq_getElem (by rw [hfl]; simp [q1]; exact hi)]; rfl, frz_pushed⟩
      · cases e
        have hi2 : i < cs.length := by omega
        refine ⟨cs[i], fun j hj => ?_, (q2 i hi hi2).2⟩
        have hj : j < 7 := hj
        rw [add_add, rd _ (by omega), flatten_get hr i j (by simpa using hi2) hj]
        simp

/-- Clip of a list of values -/
theorem spec151 {h : Heap} {s : Sl} (hc : s.len ≤ s.cap) : SPEC P 151 [s.v] [.one .sl] h h.size fun x h' => h' = h ∧ x.1 = ⟨s.a, s.len, s.len⟩ := by
  refine SPEC_of noNG Tryz.func151 (pl := pl151) (ps := [.one .sl]) (s, ()) (by kernel_rfl) (q151 (fun _ _ => False) s h) (fun Q h => by rw [q151_eq] at h; exact h) ?_
  unfold q151
  exact SLI_clip (k := 7) hc ⟨.refl _ _, rfl, rfl⟩

/-- Clip of fields -/
theorem spec153 {h : Heap} {s : Sl} (hc : s.len ≤ s.cap) : SPEC P 153 [s.v] [.one .sl] h h.size fun x h' => h' = h ∧ x.1 = ⟨s.a, s.len, s.len⟩ := by
  refine SPEC_of noNG Tryz.func153 (pl := pl153) (ps := [.one .sl]) (s, ()) (by kernel_rfl) (q153 (fun _ _ => False) s h) (fun Q h => by rw [q153_eq] at h; exact h) ?_
  unfold q153
  exact SLI_clip (k := 8) hc ⟨.refl _ _, rfl, rfl⟩

/-- Clone of fields -/
theorem spec154 {n : Nat} {h : Heap} {l : List (List UInt8 × V)} {s : Sl} (hn : n ≤ h.size) (r : RF n h l s.a 0) (sh : SH n l.length s) (hl : l.length ≤ 2 ^ 40) :
    SPEC P 154 [s.v] [.one .sl] h h.size fun x h' => NS h.size h'.size h' 8 l.length x.1 ∧ ∀ a, x.1.a = some a → ∀ i (hi : i < l.length), ∃ c : Fw, CELLS h' (a.add (i * 8)) c.cells ∧ TX l[i].1 c.nm ∧ RV n h l[i].2 c.c := by
  refine SPEC_of noNG Tryz.func154 (pl := pl154) (ps := [.one .sl]) (s, ()) (by kernel_rfl) (q154 (fun _ _ => False) s h) (fun Q h => by rw [q154_eq] at h; exact h) ?_
  unfold q154
  have e1 := sh.len
  refine COND_r (fun hc => ⟨.refl _ _, ?_⟩) (fun hc => ?_)
  · have ha : s.a = none := by simpa using hc
    have h0 : l.length = 0 := by
      rcases Nat.eq_zero_or_pos l.length with h0 | h0
      · exact h0
      · have := sh.some_ (by omega); rw [ha] at this; cases this
    exact ⟨.none_ h0, nofun⟩
  · obtain ⟨a0, ha⟩ : ∃ a0, s.a = some a0 := by cases hs : s.a with
      | none => rw [hs] at hc; cases hc
      | some a => exact ⟨a, rfl⟩
    refine ALLOC_r (.refl h.size h) (Nat.le_refl _) fun b h1 hb hs1 g1 _ _ => ?_
    rw [ha] at r
    have hab : 0 < l.length → a0.block < n := fun h0 => sh.blk a0 ha (by have := sh.len; have := sh.cap; omega)
    obtain ⟨cs, q1, q2⟩ := RF.rows r
    have hr : ∀ r ∈ cs.map Fw.cells, r.length = 8 := fun r hr => by obtain ⟨c, _, rfl⟩ := List.mem_map.1 hr; rfl
    refine APPEND_rows (rows := cs.map Fw.cells) (by decide) (by decide) (by simp [e1, q1]) hr (fun a ha' i hi => ?_) (fun e => by rw [ha] at e; cases e) (by omega) (fun h0 => ?_) (fun h0 c hc hc2 => ?_)
    · obtain rfl := Option.some.inj (ha.symm.trans ha')
      have hi : i < cs.length := by simpa using hi
      have hab := hab (by omega)
      have := (q2 i (by omega) hi).1.pre g1 (by rw [add_block]; omega)
      rw [Nat.zero_add] at this
      simpa using this
    · have h0 : l.length = 0 := by
        have : cs.length = 0 := by simpa using h0
        omega
      refine ⟨g1, ⟨h0.symm, Nat.le_refl _, by show 0 < 2 ^ 63; decide, fun e => absurd h0 e, fun a e => ?_, fun a e i hi => by rw [h0] at hi; simp at hi⟩, fun a e i hi => by omega⟩
      cases e
      show h.size ≤ b ∧ b < h1.size
      omega
    · have hfl := flatten_len hr
      have g2 : Pre h1.size h1 (h1.push (.cells ((cs.map Fw.cells).flatten ++ zeroes [.string ByteArray.empty, .int .u8 0, .bool false, .int .i64 0, .string ByteArray.empty, .slice none 0 0, .slice none 0 0, .slice none 0 0] (c - s.len)).toArray 132 (0, 0))) := (Pre.refl _ _).push (Nat.le_refl _) _
      have rd : ∀ i, i < l.length * 8 → cell (h1.push (.cells ((cs.map Fw.cells).flatten ++ zeroes [.string ByteArray.empty, .int .u8 0, .bool false, .int .i64 0, .string ByteArray.empty, .slice none 0 0, .slice none 0 0, .slice none 0 0] (c - s.len)).toArray 132 (0, 0))) ((⟨h1.size, 0, none⟩ : Addr).add i) = (cs.map Fw.cells).flatten[i]? := fun i hi => by
        rw [cell_pushed, List.getElem?_append_left (by rw [hfl]; simp [q1]; exact hi)]
      refine ⟨g1.then g2 (by omega), ⟨e1, hc, hc2, fun _ => rfl, fun a e => ?_, fun a e i hi => ?_⟩, fun a e i hi => ?_⟩
      · cases e
        simp; omega
      · cases e
        rw [rd i hi]
        exact ⟨by rw [List.getElem?_eq_getElem (by rw [hfl]; simp [q1]; exact hi)]; rfl, frz_pushed⟩
      · cases e
        have hi2 : i < cs.length := by omega
        have q := q2 i hi hi2
        refine ⟨cs[i], fun j hj => ?_, q.2.1, q.2.2⟩
        have hj : j < 8 := hj
        rw [add_add, rd _ (by omega), flatten_get hr i j (by simpa using hi2) hj]
        simp

theorem unc1s_i {K : Cur (flat [.one .sl]) (Heap → Prop)} {a : Sl} {h : Heap} (k : K a h) : unc (flat [.one .sl]) K (a, ()) h := k

theorem BUF.os {n : Nat} {h : Heap} {B : List UInt8} {s : Sl} (r : BUF n h B s) : OS n h.size h 1 B.length ⟨s.a, s.len, s.len⟩ :=
  ⟨r.len, r.len, by have := r.len; have := r.cap; have := r.small; omega, fun h0 => by
    cases ha : s.a with
    | none => have := r.none_ ha; have := r.len; have := r.cap; omega
    | some a => rfl, r.blk, fun a ha i hi => r.room a ha i (by have := r.len; have := r.cap; omega)⟩

theorem OV.lo {lo lo' hi : Nat} {h : Heap} (hl : lo' ≤ lo) : ∀ {v : V} {c : Cv}, OV lo hi h v c → OV lo' hi h v c
  | .mk k b i t bs l f, c, ⟨y1, y2, m1, m2, m3, m4, y3, ⟨y4, y5⟩, y6⟩ => ⟨y1, y2, m1, m2, m3, m4, ⟨by omega, by omega⟩, ⟨⟨y4.len, y4.cap, y4.small, y4.some_, fun a ha => ⟨by have := (y4.blk a ha).1; omega, (y4.blk a ha).2⟩, y4.room⟩, y5⟩, y6⟩

abbrev VT : List Lay := [.agg [.nt .u8, .bl, .nt .i64, .tx, .sl, .sl, .sl]]
def Cv.of (x : TT (flat VT)) : Cv := ⟨x.1, x.2.1, x.2.2.1, x.2.2.2.1, x.2.2.2.2.1, x.2.2.2.2.2.1, x.2.2.2.2.2.2.1⟩

theorem wtL_len (l : List V) : l.length ≤ wtL l := by
  induction l with
  | nil => simp
  | cons v r ih => have := wt_pos v; simp only [wtL, List.length_cons]; omega
theorem wtF_len (l : List (List UInt8 × V)) : l.length ≤ wtF l := by
  induction l with
  | nil => simp
  | cons v r ih => obtain ⟨nm, v⟩ := v; have := wt_pos v; simp only [wtF, List.length_cons]; omega

theorem OL.none_ {lo hi : Nat} {h : Heap} {l : List V} {a : Option Addr} {i : Nat} (hl : l.length = 0) (hh : lo ≤ hi) : OL lo hi h l a i := by
  cases l with
  | nil => exact hh
  | cons v r => simp at hl
theorem OF.none_ {lo hi : Nat} {h : Heap} {l : List (List UInt8 × V)} {a : Option Addr} {i : Nat} (hl : l.length = 0) (hh : lo ≤ hi) : OF lo hi h l a i := by
  cases l with
  | nil => exact hh
  | cons v r => simp at hl

theorem take_succ_get {α : Type} {l : List α} {j : Nat} (hj : j < l.length) : l.take (j + 1) = l.take j ++ [l[j]] := by rw [List.take_add_one, List.getElem?_eq_getElem hj]; rfl

set_option maxHeartbeats 2000000 in
/-- Clone -/
theorem spec128 {n : Nat} (v : V) : ∀ (c : Cv) (h : Heap), n ≤ h.size → RV n h v c → wt v ≤ 2 ^ 40 → SPEC P 128 [c.v] VT h h.size fun x h' => OV h.size h'.size h' v (Cv.of x) := by
  obtain ⟨k, b, i, t, bs, l, f⟩ := v
  intro c h hn rv hw
  have ihl : ∀ v ∈ l, ∀ (c : Cv) (h : Heap), n ≤ h.size → RV n h v c → wt v ≤ 2 ^ 40 → SPEC P 128 [c.v] VT h h.size fun x h' => OV h.size h'.size h' v (Cv.of x) := fun v hv => spec128 v
  have ihf : ∀ v ∈ f, ∀ (c : Cv) (h : Heap), n ≤ h.size → RV n h v.2 c → wt v.2 ≤ 2 ^ 40 → SPEC P 128 [c.v] VT h h.size fun x h' => OV h.size h'.size h' v.2 (Cv.of x) := fun v hv => spec128 v.2
  obtain ⟨a16, a7, a8, ⟨a9, a10⟩, a11, a12⟩ := rv
  simp only [wt] at hw
  have lw := wtL_len l
  have fw := wtF_len f
  have hB : 64 * (bs.length / 64) + bs.length % 64 = bs.length := Nat.div_add_mod _ _
  have hB2 := Nat.mod_lt bs.length (show 64 > 0 by decide)
  refine SPEC_of noNG Tryz.func128 (pl := pl128) (ps := VT) (c.k, c.b, c.i, c.t, c.bs, c.ls, c.fs, ()) (by kernel_rfl)
    (q128 (fun _ _ => False) c.k c.b c.i c.t c.bs c.ls c.fs h) (fun Q h => by rw [q128_eq] at h; exact h) ?_
  unfold q128
  refine ALLOC_r (.refl h.size h) (Nat.le_refl _) fun b1 h1 hb1 hs1 g1 _ _ => ?_
  refine ALLOC_r g1 (by omega) fun b2 h2 hb2 hs2 g2 _ _ => ?_
  refine CALL_r (spec89 (a8.pre g2 hn) (by omega) (by omega)) (kb2 (by omega) (by omega)) ?_
  rintro ⟨v9, ⟨⟩⟩ h3 hs3 g3 q3
  refine CALL_r (spec88 q3.cap) (kb2 (by omega) (by omega)) ?_
  rintro ⟨v10, ⟨⟩⟩ h4 hs4 g4 ⟨rfl, e10⟩
  simp only at e10 q3
  refine unc1s_i ?_
  have o10 := q3.os
  have r10 := q3.clip.rb
  rw [← e10] at o10 r10
  have g03 : Pre h.size h h4 := g2.then g3 (by omega)
  refine PUTN_r g03 (by omega) (by simp [oneC, Sl.v]) fun h5 hs5 g5 k5 => ?_
  refine CALL_r (spec152 (n := n) (by omega) (RL.pre g5 hn _ _ _ a10) a9 (by omega)) (kb2 (by omega) (by omega)) ?_
  rintro ⟨v14, ⟨⟩⟩ h6 hs6 g6 ⟨n14, c14⟩
  refine CALL_r (spec151 n14.cap) (kb2 (by omega) (by omega)) ?_
  rintro ⟨v15, ⟨⟩⟩ h7 hs7 g7 ⟨rfl, e15⟩
  simp only at e15 n14 c14
  refine unc1s_i ?_
  have o15 := n14.os
  rw [← e15] at o15
  have a15 : v15.a = v14.a := by rw [e15]
  rw [← a15] at c14
  have g06 : Pre h.size h h7 := g5.then g6 (by omega)
  refine PUTN_r g06 (by omega) (by simp [oneC, Sl.v]) fun h8 hs8 g8 k8 => ?_
  refine CALL_r (spec154 (n := n) (by omega) (RF.pre g8 hn _ _ _ a12) a11 (by omega)) (kb2 (by omega) (by omega)) ?_
  rintro ⟨v19, ⟨⟩⟩ h9 hs9 g9 ⟨n19, c19⟩
  refine CALL_r (spec153 n19.cap) (kb2 (by omega) (by omega)) ?_
  rintro ⟨v20, ⟨⟩⟩ h10 hs10 g10 ⟨rfl, e20⟩
  simp only at e20 n19 c19
  refine unc1s_i ?_
  have o20 := n19.os
  rw [← e20] at o20
  have a20 : v20.a = v19.a := by rw [e20]
  rw [← a20] at c19
  have g09 : Pre h.size h h10 := g8.then g9 (by omega)
  refine PUTN_r g09 (by omega) (by simp [oneC, Sl.v]) fun h11 hs11 g11 k11 => ?_
  have keep5 : ∀ b, h2.size ≤ b → b < h4.size → h11[b]? = h4[b]? := fun b x y => by rw [k11 _ (by omega), g9.same _ (by omega), k8 _ (by omega), g6.same _ (by omega), k5 _ (by omega)]
  have keep6 : ∀ b, h5.size ≤ b → b < h7.size → h11[b]? = h7[b]? := fun b x y => by rw [k11 _ (by omega), g9.same _ (by omega), k8 _ (by omega)]
  have keep9 : ∀ b, h8.size ≤ b → b < h10.size → h11[b]? = h10[b]? := fun b x y => by rw [k11 _ (by omega)]
  have b15 := o15.blk
  have b20 := o20.blk
  have l15 := o15.len
  have l20 := o20.len
  -- the list's own cells, at each time
  refine LOOP_up (N := l.length) (fun j X => Pre h.size h X ∧ h11.size ≤ X.size ∧ (∀ b, h2.size ≤ b → b < h11.size → (∀ a, v15.a = some a → b ≠ a.block) → X[b]? = h11[b]?) ∧
      (∀ a, v15.a = some a → (∀ i, i < l.length * 7 → (cell X (a.add i)).isSome = true ∧ frz X (a.add i) = false) ∧ ∀ i (hi : i < l.length), j ≤ i → ∃ c, CELLS X (a.add (i * 7)) (Cv.cells c) ∧ RV n h5 l[i] c) ∧ OL h11.size X.size X (l.take j) v15.a 0) (by omega)
    ⟨g11, Nat.le_refl _, fun _ _ _ _ => rfl, fun a ha => ⟨fun i hi => ?_, fun i hi _ => ?_⟩, Nat.le_refl _⟩ ?_
  · have e := keep6 _ (b15 a ha).1 (b15 a ha).2
    have := o15.room a ha i hi
    unfold cell frz at this ⊢
    rw [add_block] at this ⊢
    rw [e]; exact this
  · obtain ⟨c, q1, q2⟩ := c14 a ha i hi
    exact ⟨c, q1.keep fun j _ => cell_same (by rw [add_block, add_block]; exact keep6 _ (b15 a ha).1 (b15 a ha).2), q2⟩
  rintro j X hj ⟨gX, hsX, kX, cX, oX⟩ nx hnx
  refine COND_r (fun hc => ?_) (fun hc => ?_)
  · have hj1 := ltI hc
    rw [l15] at hj1
    obtain ⟨a0, ha0⟩ := Option.isSome_iff_exists.1 (o15.some_ (by omega))
    have hab := b15 a0 ha0
    obtain ⟨rm, el⟩ := cX a0 ha0
    obtain ⟨cj, q1, q2⟩ := el j hj1 (Nat.le_refl _)
    refine IXA_r ha0 rfl (by omega) (LDN_V (n := X.size) q1 (by rw [add_block]; omega) (fun h' e => by rw [e]; exact .refl _ _) ?_)
    refine ALLOC_r (.refl X.size X) (Nat.le_refl _) fun b4 h14 hb4 hs14 g14 _ _ => ?_
    refine PUTN_r g14 (by omega) (by simp [oneC, Sl.v]) fun h15 hs15 g15 _ => ?_
    have gX5 : Pre n h5 h15 := ⟨by omega, fun b hb => by rw [g15.same _ (by omega), gX.same _ (by omega), g5.same _ (by omega)]⟩
    refine DRAW_r (n := h15.size) (kb3 (by omega) (by omega) (by omega)) ?_
    have hwj := wtL_mem (List.getElem_mem hj1)
    refine CALL_r (ihl _ (List.getElem_mem hj1) cj h15 (by omega) (RV.pre gX5 (Nat.le_refl _) _ _ q2) (by omega)) (kb3 (by omega) (by omega) (by omega)) ?_
    rintro ⟨y1, y2, y3, y4, y5, y6, y7, ⟨⟩⟩ h17 hs17 g17 ov
    refine unc7_i ?_
    refine SS_r g17 ?_
    generalize hcv : Cv.of (y1, y2, y3, y4, y5, y6, y7, ()) = cv at ov
    have hcv2 : [Value.int .u8 y1, .bool y2, .int .i64 y3, .string y4, y5.v, y6.v, y7.v] = cv.cells := by rw [← hcv]; rfl
    have gX17 : Pre X.size X h17 := g15.then g17 (by omega)
    refine IXA_r ha0 rfl (by omega) ?_
    rw [hcv2]
    refine STN_r (fun q hq => ?_) (by simp [oneC, Sl.v]) (kb3 (by rw [add_block]; omega) (by rw [add_block]; omega) (by rw [add_block]; omega)) fun h18 s1 s2 s3 s4 s5 s6 => ?_
    · have hq : q < 7 := hq
      rw [add_add, gX17.cell (by rw [add_block]; omega), gX17.frz (by rw [add_block]; omega)]
      exact rm _ (by omega)
    · rw [add_block] at s2
      simp only [add_add, Nat.zero_add] at s4
      simp only [add_off, Nat.add_zero] at s5
      refine hnx _ hj1 ⟨⟨by omega, fun b hb => by rw [s2 _ (by omega), gX17.same _ (by omega)]; exact gX.same _ hb⟩, by omega, fun b x y z => by rw [s2 _ (z a0 ha0), gX17.same _ (by omega)]; exact kX b x y z, fun a ha => ?_, ?_⟩
      · obtain rfl := Option.some.inj (ha0.symm.trans ha)
        refine ⟨fun i hi => ⟨s6 _ ?_, by rw [s3, gX17.frz (by rw [add_block]; omega)]; exact (rm i hi).2⟩, fun i hi hij => ?_⟩
        · rw [gX17.cell (by rw [add_block]; omega)]; exact (rm i hi).1
        · obtain ⟨ci, q3, q4⟩ := el i hi (by omega)
          refine ⟨ci, q3.keep fun m hm => ?_, q4⟩
          have hm : m < 7 := hm
          rw [s5 _ (.inr (by rw [add_off, add_off]; show _ + 7 ≤ _; omega)), gX17.cell (by rw [add_block, add_block]; omega)]
      · have e := take_succ_get hj1
        rw [e, ha0]
        rw [ha0] at oX
        have lt : (l.take j).length = j := by simp; omega
        refine OL.snoc (hi := X.size) (c := cv) (by omega) _ _ _ (OL.keepTo _ _ _ _ (fun b x y => by rw [s2 _ (by omega), gX17.same _ (by omega)]) (fun q hq => ?_) oX) ?_ ?_
        · rw [lt] at hq
          rw [s5 _ (.inl (by rw [add_off]; omega)), gX17.cell (by rw [add_block]; omega)]
        · rw [lt, Nat.zero_add]
          intro m hm
          rw [add_add]
          exact s4 m hm
        · rw [s1]
          exact (OV.keep (fun b x y => s2 _ (by omega)) _ _ ov).lo (by omega)
  · have hj1 := geI hc
    have hjl : l.take j = l := List.take_of_length_le (by omega)
    rw [hjl] at oX
    clear hjl hnx hc hj hj1
    have keep1 : ∀ b, h8.size ≤ b → b < h11.size → X[b]? = h11[b]? := fun b x y => kX b (by omega) y fun a ha => by have := b15 a ha; omega
    refine LOOP_up (N := f.length) (fun j Y => Pre h.size h Y ∧ X.size ≤ Y.size ∧ (∀ b, h2.size ≤ b → b < X.size → (∀ a, v20.a = some a → b ≠ a.block) → Y[b]? = X[b]?) ∧
      (∀ a, v20.a = some a → (∀ i, i < f.length * 8 → (cell Y (a.add i)).isSome = true ∧ frz Y (a.add i) = false) ∧ ∀ i (hi : i < f.length), j ≤ i → ∃ c : Fw, CELLS Y (a.add (i * 8)) c.cells ∧ TX f[i].1 c.nm ∧ RV n h8 f[i].2 c.c) ∧ OF X.size Y.size Y (f.take j) v20.a 0) (by omega)
      ⟨gX, Nat.le_refl _, fun _ _ _ _ => rfl, fun a ha => ⟨fun i hi => ?_, fun i hi _ => ?_⟩, Nat.le_refl _⟩ ?_
    · have e := (keep1 _ (b20 a ha).1 (by have := b20 a ha; omega)).trans (keep9 _ (b20 a ha).1 (b20 a ha).2)
      have := o20.room a ha i hi
      unfold cell frz at this ⊢
      rw [add_block] at this ⊢
      rw [e]; exact this
    · obtain ⟨c, q1, q2, q3⟩ := c19 a ha i hi
      exact ⟨c, q1.keep fun j _ => cell_same (by rw [add_block, add_block]; exact (keep1 _ (b20 a ha).1 (by have := b20 a ha; omega)).trans (keep9 _ (b20 a ha).1 (b20 a ha).2)), q2, q3⟩
    rintro j Y hj ⟨gY, hsY, kY, cY, oY⟩ nx hnx
    refine COND_r (fun hc => ?_) (fun hc => ?_)
    · have hj1 := ltI hc
      rw [l20] at hj1
      obtain ⟨a0, ha0⟩ := Option.isSome_iff_exists.1 (o20.some_ (by omega))
      have hab := b20 a0 ha0
      obtain ⟨rm, el⟩ := cY a0 ha0
      obtain ⟨⟨nm, cj⟩, q1, qt, q2⟩ := el j hj1 (Nat.le_refl _)
      refine IXA_r ha0 rfl (by omega) (LDN_F (n := Y.size) q1 (by rw [add_block]; omega) (fun h' e => by rw [e]; exact .refl _ _) ?_)
      refine ALLOC_r (.refl Y.size Y) (Nat.le_refl _) fun b4 h14 hb4 hs14 g14 _ _ => ?_
      refine PUTN_r g14 (by omega) (by simp [oneC, Sl.v]) fun h15 hs15 g15 _ => ?_
      have gX5 : Pre n h8 h15 := ⟨by omega, fun b hb => by rw [g15.same _ (by omega), gY.same _ (by omega), g8.same _ (by omega)]⟩
      refine DRAW_r (n := h15.size) (kb3 (by omega) (by omega) (by omega)) ?_
      have hwj := wtF_mem (List.getElem_mem hj1)
      refine CALL_r (ihf _ (List.getElem_mem hj1) cj h15 (by omega) (RV.pre gX5 (Nat.le_refl _) _ _ q2) (by omega)) (kb3 (by omega) (by omega) (by omega)) ?_
      rintro ⟨y1, y2, y3, y4, y5, y6, y7, ⟨⟩⟩ h17 hs17 g17 ov
      refine unc7_i ?_
      refine SS_r g17 ?_
      generalize hcv : Cv.of (y1, y2, y3, y4, y5, y6, y7, ()) = cv at ov
      have hcv2 : [Value.int .u8 y1, .bool y2, .int .i64 y3, .string y4, y5.v, y6.v, y7.v] = cv.cells := by rw [← hcv]; rfl
      have gX17 : Pre Y.size Y h17 := g15.then g17 (by omega)
      refine IXA_r ha0 rfl (by omega) ?_
      rw [hcv2]
      refine STN_r (fun q hq => ?_) (by simp [oneC, Sl.v]) (kb3 (by rw [add_block, add_block]; omega) (by rw [add_block, add_block]; omega) (by rw [add_block, add_block]; omega)) fun h18 s1 s2 s3 s4 s5 s6 => ?_
      · have hq : q < 7 := hq
        rw [add_add, add_add, gX17.cell (by rw [add_block]; omega), gX17.frz (by rw [add_block]; omega)]
        exact rm _ (by omega)
      · rw [add_block, add_block] at s2
        simp only [add_add, Nat.zero_add] at s4
        simp only [add_off, Nat.add_zero] at s5
        refine hnx _ hj1 ⟨⟨by omega, fun b hb => by rw [s2 _ (by omega), gX17.same _ (by omega)]; exact gY.same _ hb⟩, by omega, fun b x y z => by rw [s2 _ (z a0 ha0), gX17.same _ (by omega)]; exact kY b x y z, fun a ha => ?_, ?_⟩
        · obtain rfl := Option.some.inj (ha0.symm.trans ha)
          refine ⟨fun i hi => ⟨s6 _ ?_, by rw [s3, gX17.frz (by rw [add_block]; omega)]; exact (rm i hi).2⟩, fun i hi hij => ?_⟩
          · rw [gX17.cell (by rw [add_block]; omega)]; exact (rm i hi).1
          · obtain ⟨ci, q3, q4⟩ := el i hi (by omega)
            refine ⟨ci, q3.keep fun m hm => ?_, q4⟩
            have hm : m < 8 := hm
            rw [s5 _ (.inr (by rw [add_off, add_off]; show _ + 7 ≤ _; omega)), gX17.cell (by rw [add_block, add_block]; omega)]
        · have e := take_succ_get hj1
          rw [e, ha0]
          rw [ha0] at oY
          have lt : (f.take j).length = j := by simp; omega
          refine OF.snoc (hi := Y.size) (c := cv) (s := nm) (by omega) _ _ _ (OF.keepTo _ _ _ _ (fun b x y => by rw [s2 _ (by omega), gX17.same _ (by omega)]) (fun q hq => ?_) oY) ?_ qt ?_ ?_
          · rw [lt] at hq
            rw [s5 _ (.inl (by rw [add_off]; omega)), gX17.cell (by rw [add_block]; omega)]
          · rw [lt, Nat.zero_add, s5 _ (.inl (by rw [add_off]; omega)), gX17.cell (by rw [add_block]; omega)]
            exact q1 0 (by simp)
          · rw [lt, Nat.zero_add]
            intro m hm
            rw [add_add, add_add, ← Nat.add_assoc]
            exact s4 m hm
          · rw [s1]
            exact (OV.keep (fun b x y => s2 _ (by omega)) _ _ ov).lo (by omega)
    · have hj1 := geI hc
      have hjl : f.take j = f := List.take_of_length_le (by omega)
      rw [hjl] at oY
      refine PUTN_r gY (by omega) (by simp [oneC, Sl.v]) fun h26 hs26 g26 k26 => ⟨g26, ?_⟩
      have kk : ∀ b, h2.size ≤ b → b < h11.size → (∀ a, v15.a = some a → b ≠ a.block) → (∀ a, v20.a = some a → b ≠ a.block) → h26[b]? = h11[b]? := fun b x y z w => by rw [k26 _ (by omega), kY b x (by omega) w, kX b x y z]
      refine ⟨a16, a7, h5.size, h8.size, h11.size, X.size, ⟨by omega, by omega, by omega, by omega, by omega⟩, ⟨⟨o10.len, o10.cap, o10.small, o10.some_, fun a ha => by have := o10.blk a ha; omega, fun a ha i hi => ?_⟩, ?_⟩, ⟨⟨o15.len, o15.cap, o15.small, o15.some_, fun a ha => by have := o15.blk a ha; omega, fun a ha i hi => ?_⟩, ?_⟩, ⟨o20.len, o20.cap, o20.small, o20.some_, fun a ha => by have := o20.blk a ha; omega, fun a ha i hi => ?_⟩, ?_⟩
      · have hb := o10.blk a ha
        have e : h26[a.block]? = h4[a.block]? := (kk _ hb.1 (by omega) (fun a' ha' => by have := b15 a' ha'; omega) (fun a' ha' => by have := b20 a' ha'; omega)).trans (keep5 _ hb.1 hb.2)
        have := o10.room a ha i hi
        unfold cell frz at this ⊢
        rw [add_block] at this ⊢
        rw [e]; exact this
      · refine (r10.same fun a ha _ => ?_).mono (by omega)
        have hb := o10.blk a ha
        exact (kk _ hb.1 (by omega) (fun a' ha' => by have := b15 a' ha'; omega) (fun a' ha' => by have := b20 a' ha'; omega)).trans (keep5 _ hb.1 hb.2)
      · have hb := b15 a ha
        have e : h26[a.block]? = X[a.block]? := by rw [k26 _ (by omega), kY _ (by omega) (by omega) fun a' ha' => by have := b20 a' ha'; omega]
        have := (cX a ha).1 i hi
        unfold cell frz at this ⊢
        rw [add_block] at this ⊢
        rw [e]; exact this
      · refine OL.keep (fun b x y => ?_) (fun a0 ha q => cell_same ?_) l () _ oX
        · rw [k26 _ (by omega), kY _ (by omega) (by omega) fun a' ha' => by have := b20 a' ha'; omega]
        · have hb := b15 a0 ha
          rw [add_block, k26 _ (by omega), kY _ (by omega) (by omega) fun a' ha' => by have := b20 a' ha'; omega]
      · have hb := b20 a ha
        have e : h26[a.block]? = Y[a.block]? := k26 _ (by omega)
        have := (cY a ha).1 i hi
        unfold cell frz at this ⊢
        rw [add_block] at this ⊢
        rw [e]; exact this
      · rw [hs26]
        refine OF.keep (fun b x y => k26 _ (by omega)) (fun a0 ha q => cell_same ?_) f () _ oY
        have hb := b20 a0 ha
        rw [add_block]; exact k26 _ (by omega)
termination_by SizeOf.sizeOf v
decreasing_by
  all_goals simp_wf
  · have := List.sizeOf_lt_of_mem hv; omega
  · have := List.sizeOf_lt_of_mem hv
    have : SizeOf.sizeOf v.2 < SizeOf.sizeOf v := by cases v; simp; omega
    omega

end Go.VK
