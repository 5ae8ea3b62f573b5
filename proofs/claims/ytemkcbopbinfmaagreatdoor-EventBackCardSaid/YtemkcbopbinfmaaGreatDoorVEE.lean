/- Contracts: key.One; value.Same; value.Get. -/
import Derived.Test.YtemkcbopbinfmaaGreatDoorVED
set_option linter.all false
namespace Go.VK
open Go Go.Proofs
set_option maxRecDepth 100000
set_option linter.unusedSimpArgs false
set_option linter.unusedVariables false

theorem esc_len (l : List UInt8) : (esc l).length ≤ 2 * l.length := by
  induction l with
  | nil => simp [esc]
  | cons c r ih => simp only [esc, List.length_append, List.length_cons]; split <;> simp <;> omega

mutual
theorem kenc_len : ∀ (v : V), (kenc v).length ≤ 200 * wt v
  | .mk k b i t bs l f => by
    have h1 := kencL_len l
    have h2 := esc_len t
    have h3 := esc_len bs
    have ht := Nat.div_add_mod t.length 64
    have ht2 := Nat.mod_lt t.length (show 64 > 0 by decide)
    have hb := Nat.div_add_mod bs.length 64
    have hb2 := Nat.mod_lt bs.length (show 64 > 0 by decide)
    simp only [kenc, wt]
    repeat' split
    all_goals (try simp only [List.length_cons, List.length_append, List.length_nil, be8, List.length_map])
    all_goals omega
theorem kencL_len : ∀ (l : List V), (kencL l).length ≤ 200 * wtL l
  | [] => by simp [kencL]
  | v :: r => by
    have h1 := kenc_len v
    have h2 := kencL_len r
    simp only [kencL, wtL, List.length_append]; omega
end

/-- What is wrong with a value as a key. -/
def oneE (v : V) : Nat := if chk v ≠ 0 then 40 else if keyedB v = false then 41 else if 160 < (kenc v).length then 42 else 0

theorem ALLOCb {n : Nat} {h0 : Heap} {cs : List Value} {t : Nat} {h : Heap} {K : Nat → Heap → Prop} (g : Pre n h0 h) (hn : n ≤ h.size)
    (k : ∀ b h1, b = h.size → h1.size = h.size + 1 → Pre n h0 h1 → Pre h.size h h1 → h1[b]? = some (.cells cs.toArray t (0, 0)) → K b h1) : ALLOC cs t h K := ALLOC_r g hn k

/-- One, rising -/
theorem spec80 {n : Nat} {h : Heap} {v : V} {c : Cv} (hn : n ≤ h.size) (h2 : 2 ≤ h.size) (hT : Tabs h) (rv : RV n h v c) (hw : wt v ≤ 2 ^ 30) :
    SPEC P 80 [c.v, .bool false] [.one .sl, .one (.nt .u16)] h h.size fun x h' => x.2.1 = ((oneE v : Nat) : Int) ∧ (oneE v = 0 → BUF h.size h' (kenc v) x.1) := by
  refine SPEC_of noNG Tryz.func80 (pl := pl80) (ps := [.agg [.nt .u8, .bl, .nt .i64, .tx, .sl, .sl, .sl], .one .bl]) (c.k, c.b, c.i, c.t, c.bs, c.ls, c.fs, false, ()) (by kernel_rfl)
    (q80 (fun _ _ => False) c.k c.b c.i c.t c.bs c.ls c.fs false h) (fun Q h => by rw [q80_eq] at h; exact h) ?_
  unfold q80
  refine ALLOC_r (.refl h.size h) (Nat.le_refl _) fun b2 h1 hb2 hs1 g1 _ _ => ?_
  refine CALL_r (spec84 (n := n) (by omega) (by omega) (hT.pre g1 h2) (RV.pre g1 hn _ _ rv) (by omega)) (kb1 (by omega)) ?_
  rintro ⟨e, ⟨⟩⟩ X hsX gX hx
  simp only at hx
  subst hx
  have g1X : Pre h.size h X := g1.then gX (by omega)
  refine COND_r (fun hc => ⟨g1X, ?_⟩) (fun hc => ?_)
  · have hc : chk v ≠ 0 := by
      have : ¬ ((chk v : Nat) : Int) = 0 := by simpa using hc
      omega
    have : oneE v = 40 := by simp [oneE, hc]
    rw [this]
    exact ⟨rfl, fun e => by omega⟩
  have hk : chk v = 0 := by
    have : ((chk v : Nat) : Int) = 0 := by simpa using hc
    omega
  refine CALL_r (spec116 (n := n) (by omega) (RV.pre g1X hn _ _ rv) (by omega)) (kb1 (by omega)) ?_
  rintro ⟨e, ⟨⟩⟩ Y hsY gY hx
  simp only at hx
  subst hx
  have g1Y : Pre h.size h Y := g1X.then gY (by omega)
  refine COND_r (fun hc => ⟨g1Y, ?_⟩) (fun hc => ?_)
  · have hc : keyedB v = false := by simpa using hc
    have : oneE v = 41 := by simp [oneE, hk, hc]
    rw [this]
    exact ⟨rfl, fun e => by omega⟩
  have hkb : keyedB v = true := by simpa using hc
  refine ALLOC_r g1Y (by omega) fun b6 h4 hb6 hs4 g4 _ hc6 => ?_
  intro k5 hk5
  refine COND_r (fun hc => by cases hc) (fun _ => ?_)
  refine hk5 (putF ⟨b6, 0, none⟩, ()) h4 ?_
  refine unc1_i (s1 := .oq) ?_
  have r4 : RW (fun b => b = b6) h4 [] ⟨b6, 0, none⟩ := by
    refine ⟨rfl, by show b6 < _; omega, ?_, ⟨none, 0, 0⟩, ?_, ⟨rfl, Nat.le_refl _, by decide, fun _ => rfl, nofun, nofun, nofun⟩, nofun⟩
    · unfold frz; simp only [hc6]; rfl
    · unfold cell; simp only [hc6]; rfl
  have hlen := kenc_len v
  refine CALLO_r (spec119 h.size ⟨b6, 0, none⟩ v _ h4 [] c (fun i hi e => by omega) (by omega) r4 (RV.mono hn _ _ (RV.pre g4 hn _ _ rv)) (by simp; omega)) (kb1 ⟨by omega, by omega⟩) ?_
  rintro _ h9 hs9 g9 r9
  have g09 : Pre h.size h h9 := g4.trans (g9.pre (fun i hi e => by omega) (by omega))
  obtain ⟨s, hs, hbuf, hblk⟩ := r9.buf
  have hbuf2 : BUF h.size h9 (kenc v) s := ⟨hbuf.len, hbuf.cap, hbuf.small, hbuf.none_, fun a ha => ⟨by have := (hblk a ha).2; exact this.elim (fun e => by omega) (fun e => by omega), (hbuf.blk a ha).2⟩, hbuf.cells, hbuf.room⟩
  have hsl := hbuf.len
  simp only [List.nil_append] at hsl
  refine ⟨s, fun h'' e => by rw [e]; exact hs, ?_⟩
  refine COND_r (fun hc => ⟨g09, ?_⟩) (fun hc => ?_)
  · have hc : (s.len : Int) > 160 := by simpa using hc
    have : oneE v = 42 := by simp only [oneE, hk, hkb]; simp; omega
    rw [this]
    exact ⟨rfl, fun e => by omega⟩
  · have hc : ¬ (s.len : Int) > 160 := by simpa using hc
    have h0 : oneE v = 0 := by simp only [oneE, hk, hkb]; simp; omega
    refine ⟨s, fun h'' e => by rw [e]; exact hs, ?_⟩
    refine CALL_r (spec88 hbuf2.cap) (kb1 (by omega)) ?_
    rintro ⟨s2, ⟨⟩⟩ h10 hs10 g10 ⟨rfl, e⟩
    simp only at e
    subst e
    rw [h0]
    exact ⟨g09, rfl, fun _ => hbuf2.clip⟩

theorem HV_of2 {P : Program} {f : FuncId} {first cap : Array Value} {args : List Value} {h : Heap} {m : Nat} {Q : TT (flat [.one .bl]) → Heap → Prop} {T : Bool → Prop} (hb : ((P.funcs[f]?).any (·.body.isSome)) = true)
    (c : SPEC P f (first.toList ++ args ++ cap.toList) [.one .bl] h m Q) (k : ∀ b h', Q (b, ()) h' → T b) : HV P (.func (.func f) first cap) args h fun e h' => ∃ b, e = .returned (.bool b) ∧ Pre m h h' ∧ T b :=
  (HV_of hb c).mono fun e h' ⟨b, h1, h2, h3⟩ => ⟨b, h1, h2, k b h' h3⟩

theorem BA_eq {a b : ByteArray} : (a.toList == b.toList) = decide (a.data.toList = b.data.toList) := by
  rw [toList_eq, toList_eq]
  by_cases h : a.data.toList = b.data.toList
  · rw [h]; simp
  · rw [decide_eq_false h, beq_eq_false_iff_ne.2 h]

/-- bytes.Equal -/
theorem spec121 {n : Nat} {h : Heap} {l1 l2 : List UInt8} {s1 s2 : Sl} (r1 : RB n h l1 s1) (r2 : RB n h l2 s2) : SPEC P 121 [s1.v, s2.v] [.one .bl] h h.size fun x h' => h' = h ∧ x.1 = decide (l1 = l2) := by
  refine SPEC_of noNG Tryz.func121 (pl := pl121) (ps := [.one .sl, .one .sl]) (s1, s2, ()) (by kernel_rfl) (q121 (fun _ _ => False) s1 s2 h) (fun Q h => by rw [q121_eq] at h; exact h) ?_
  unfold q121
  refine BTS_r r1 fun x hx => BTS_r r2 fun y hy => ⟨.refl _ _, rfl, ?_⟩
  show (x.toList == y.toList) = _
  rw [BA_eq, hx, hy]

/-- EqualFunc over values, with Same -/
theorem spec122 {n : Nat} {h : Heap} {l1 l2 : List V} {s1 s2 : Sl} (hn : n ≤ h.size)
    (ih : ∀ v ∈ l1, ∀ (w : V) (c1 c2 : Cv) (h : Heap), n ≤ h.size → RV n h v c1 → RV n h w c2 → SPEC P 82 [c1.v, c2.v] [.one .bl] h h.size fun x _ => (x.1 = true ↔ v = w))
    (r1 : RL n h l1 s1.a 0) (sh1 : SH n l1.length s1) (r2 : RL n h l2 s2.a 0) (sh2 : SH n l2.length s2) :
    SPEC P 122 [s1.v, s2.v, .func (.func 82) #[] #[]] [.one .bl] h h.size fun x _ => (x.1 = true ↔ l1 = l2) := by
  refine SPEC_of noNG Tryz.func122 (pl := pl122) (ps := [.one .sl, .one .sl, .one .oq]) (s1, s2, .func (.func 82) #[] #[], ()) (by kernel_rfl) (q122 (fun _ _ => False) s1 s2 (.func (.func 82) #[] #[]) h) (fun Q h => by rw [q122_eq] at h; exact h) ?_
  unfold q122
  have e1 := sh1.len
  have e2 := sh2.len
  refine COND_r (fun hc => ⟨.refl _ _, ?_⟩) (fun hc => ?_)
  · have hne := lenI_ne hc
    exact ⟨nofun, fun e => absurd (by rw [e1, e2, e]) hne⟩
  · have heq : l1.length = l2.length := by have := lenI_eq hc; omega
    have hsm := sh1.small
    have hcap := sh1.cap
    refine LOOP_up (N := l1.length) (fun i h' => Pre h.size h h' ∧ l1.take i = l2.take i) (by omega) ⟨.refl _ _, by simp⟩ ?_
    rintro i h' hi ⟨g, ht⟩ nx hnx
    have hs := g.sz
    refine COND_r (fun hc => ?_) (fun hc => ?_)
    · have hi1 := ltI hc
      rw [e1] at hi1
      have hi2 : i < l2.length := by omega
      refine (RL.pre g hn _ _ _ r1).ix sh1 rfl hi1 (fun h'' e => by rw [e]; exact .refl _ _) fun c1 q1 => ?_
      refine ALLOC_r g (by omega) fun b8 h3 hb8 hs3 g3 g3' _ => ?_
      refine PUTN_r g3 (by omega) (by simp [oneC, Sl.v]) fun h4 hs4 g4 k4 => ?_
      refine (RL.pre g4 hn _ _ _ r2).ix sh2 rfl hi2 (fun h'' e => by rw [e]; exact .refl _ _) fun c2 q2 => ?_
      refine ALLOC_r g4 (by omega) fun b9 h5 hb9 hs5 g5 g5' _ => ?_
      refine PUTN_r g5 (by omega) (by simp [oneC, Sl.v]) fun h6 hs6 g6 k6 => ?_
      have p1 : Pre n h' h6 := ⟨by omega, fun b hb => by rw [k6 _ (by omega), g5'.same _ (by omega), k4 _ (by omega), g3'.same _ (by omega)]⟩
      have p2 : Pre n h4 h6 := ⟨by omega, fun b hb => by rw [k6 _ (by omega), g5'.same _ (by omega)]⟩
      refine CALLV_p (HV_of2 (T := fun b => (b = true ↔ l1[i] = l2[i])) (by kernel_rfl) (ih _ (List.getElem_mem hi1) _ c1 c2 h6 (by omega) (RV.pre p1 (Nat.le_refl _) _ _ q1) (RV.pre p2 (Nat.le_refl _) _ _ q2)) fun b h' hq => hq) (kb2 (by omega) (by omega)) ?_
      intro x h7 g7 hx
      have g57 : Pre h.size h h7 := g6.then g7 (by omega)
      refine COND_r (fun hc => ⟨g57, ?_⟩) (fun hc => hnx _ hi1 ⟨g57, take_step hi1 hi2 ht ?_⟩)
      · have : ¬ x = true := by simpa using hc
        exact ⟨nofun, fun e => absurd e (ne_at hi1 hi2 fun e => this (hx.2 e))⟩
      · have : x = true := by simpa using hc
        exact hx.1 this
    · have hi1 := geI hc
      exact ⟨g, fun _ => take_all (by omega) heq ht, fun _ => rfl⟩

/-- Same's way with fields -/
theorem spec124 {n : Nat} {h : Heap} {v w : V} {t1 t2 : List UInt8} {s1 s2 : ByteArray} {c1 c2 : Cv} (hn : n ≤ h.size) (h1 : TX t1 s1) (h2 : TX t2 s2)
    (ih : ∀ (h : Heap), n ≤ h.size → RV n h v c1 → RV n h w c2 → SPEC P 82 [c1.v, c2.v] [.one .bl] h h.size fun x _ => (x.1 = true ↔ v = w)) (r1 : RV n h v c1) (r2 : RV n h w c2) :
    SPEC P 124 [.agg (.string s1 :: c1.cells).toArray, .agg (.string s2 :: c2.cells).toArray] [.one .bl] h h.size fun x _ => (x.1 = true ↔ (t1, v) = (t2, w)) := by
  refine SPEC_of noNG Tryz.func124 (pl := pl124) (ps := [.agg [.tx, .nt .u8, .bl, .nt .i64, .tx, .sl, .sl, .sl], .agg [.tx, .nt .u8, .bl, .nt .i64, .tx, .sl, .sl, .sl]])
    (s1, c1.k, c1.b, c1.i, c1.t, c1.bs, c1.ls, c1.fs, s2, c2.k, c2.b, c2.i, c2.t, c2.bs, c2.ls, c2.fs, ()) (by kernel_rfl)
    (q124 (fun _ _ => False) s1 c1.k c1.b c1.i c1.t c1.bs c1.ls c1.fs s2 c2.k c2.b c2.i c2.t c2.bs c2.ls c2.fs h) (fun Q h => by rw [q124_eq] at h; exact h) ?_
  unfold q124
  refine ALLOC_r (.refl h.size h) (Nat.le_refl _) fun b2 h1' hb2 hs1 g1 _ _ => ?_
  refine ALLOC_r g1 (by omega) fun b3 h2' hb3 hs2 g2 _ _ => ?_
  intro k hk
  refine COND_r (fun hc => ?_) (fun hc => hk (false, ()) h2' ⟨g2, ?_⟩)
  · have e : t1 = t2 := by rw [txt_eq h1 h2] at hc; simpa using hc
    refine CALL_r (ih h2' (by omega) (RV.pre g2 hn _ _ r1) (RV.pre g2 hn _ _ r2)) (by simp; omega) ?_
    rintro ⟨x, _⟩ h5 hs5 g5 hx
    refine hk (x, ()) h5 ⟨g2.then g5 (by omega), ?_⟩
    simp only at hx ⊢
    rw [hx, e]; simp
  · have e : t1 ≠ t2 := by rw [txt_eq h1 h2] at hc; simpa using hc
    simp [e]

/-- EqualFunc over fields, with Same -/
theorem spec123 {n : Nat} {h : Heap} {l1 l2 : List (List UInt8 × V)} {s1 s2 : Sl} (hn : n ≤ h.size)
    (ih : ∀ v ∈ l1, ∀ (w : V) (c1 c2 : Cv) (h : Heap), n ≤ h.size → RV n h v.2 c1 → RV n h w c2 → SPEC P 82 [c1.v, c2.v] [.one .bl] h h.size fun x _ => (x.1 = true ↔ v.2 = w))
    (r1 : RF n h l1 s1.a 0) (sh1 : SH n l1.length s1) (r2 : RF n h l2 s2.a 0) (sh2 : SH n l2.length s2) :
    SPEC P 123 [s1.v, s2.v, .func (.func 124) #[] #[]] [.one .bl] h h.size fun x _ => (x.1 = true ↔ l1 = l2) := by
  refine SPEC_of noNG Tryz.func123 (pl := pl123) (ps := [.one .sl, .one .sl, .one .oq]) (s1, s2, .func (.func 124) #[] #[], ()) (by kernel_rfl) (q123 (fun _ _ => False) s1 s2 (.func (.func 124) #[] #[]) h) (fun Q h => by rw [q123_eq] at h; exact h) ?_
  unfold q123
  have e1 := sh1.len
  have e2 := sh2.len
  refine COND_r (fun hc => ⟨.refl _ _, ?_⟩) (fun hc => ?_)
  · have hne := lenI_ne hc
    exact ⟨nofun, fun e => absurd (by rw [e1, e2, e]) hne⟩
  · have heq : l1.length = l2.length := by have := lenI_eq hc; omega
    have hsm := sh1.small
    have hcap := sh1.cap
    refine LOOP_up (N := l1.length) (fun i h' => Pre h.size h h' ∧ l1.take i = l2.take i) (by omega) ⟨.refl _ _, by simp⟩ ?_
    rintro i h' hi ⟨g, ht⟩ nx hnx
    have hs := g.sz
    refine COND_r (fun hc => ?_) (fun hc => ?_)
    · have hi1 := ltI hc
      rw [e1] at hi1
      have hi2 : i < l2.length := by omega
      refine (RF.pre g hn _ _ _ r1).ix sh1 rfl hi1 (fun h'' e => by rw [e]; exact .refl _ _) fun n1 c1 t1 q1 => ?_
      refine ALLOC_r g (by omega) fun b8 h3 hb8 hs3 g3 g3' _ => ?_
      refine PUTN_r g3 (by omega) (by simp [oneC, Sl.v]) fun h4 hs4 g4 k4 => ?_
      refine (RF.pre g4 hn _ _ _ r2).ix sh2 rfl hi2 (fun h'' e => by rw [e]; exact .refl _ _) fun n2 c2 t2 q2 => ?_
      refine ALLOC_r g4 (by omega) fun b9 h5 hb9 hs5 g5 g5' _ => ?_
      refine PUTN_r g5 (by omega) (by simp [oneC, Sl.v]) fun h6 hs6 g6 k6 => ?_
      have p1 : Pre n h' h6 := ⟨by omega, fun b hb => by rw [k6 _ (by omega), g5'.same _ (by omega), k4 _ (by omega), g3'.same _ (by omega)]⟩
      have p2 : Pre n h4 h6 := ⟨by omega, fun b hb => by rw [k6 _ (by omega), g5'.same _ (by omega)]⟩
      refine CALLV_p (HV_of2 (T := fun b => (b = true ↔ l1[i] = l2[i])) (by kernel_rfl) (spec124 (n := n) (by omega) t1 t2 (fun h hn a b => ih _ (List.getElem_mem hi1) _ c1 c2 h hn a b) (RV.pre p1 (Nat.le_refl _) _ _ q1) (RV.pre p2 (Nat.le_refl _) _ _ q2)) fun b h' hq => hq) (kb2 (by omega) (by omega)) ?_
      intro x h7 g7 hx
      have g57 : Pre h.size h h7 := g6.then g7 (by omega)
      refine COND_r (fun hc => ⟨g57, ?_⟩) (fun hc => hnx _ hi1 ⟨g57, take_step hi1 hi2 ht ?_⟩)
      · have : ¬ x = true := by simpa using hc
        exact ⟨nofun, fun e => absurd e (ne_at hi1 hi2 fun e => this (hx.2 e))⟩
      · have : x = true := by simpa using hc
        exact hx.1 this
    · have hi1 := geI hc
      exact ⟨g, fun _ => take_all (by omega) heq ht, fun _ => rfl⟩

/-- Same -/
theorem spec82 {n : Nat} (v : V) : ∀ (w : V) (c1 c2 : Cv) (h : Heap), n ≤ h.size → RV n h v c1 → RV n h w c2 →
    SPEC P 82 [c1.v, c2.v] [.one .bl] h h.size fun x _ => (x.1 = true ↔ v = w) := by
  obtain ⟨k, b, i, t, bs, l, f⟩ := v
  intro w c1 c2 h hn r1 r2
  obtain ⟨k', b', i', t', bs', l', f'⟩ := w
  have ihl : ∀ v ∈ l, ∀ (w : V) (c1 c2 : Cv) (h : Heap), n ≤ h.size → RV n h v c1 → RV n h w c2 → SPEC P 82 [c1.v, c2.v] [.one .bl] h h.size fun x _ => (x.1 = true ↔ v = w) :=
    fun v hv => spec82 v
  have ihf : ∀ v ∈ f, ∀ (w : V) (c1 c2 : Cv) (h : Heap), n ≤ h.size → RV n h v.2 c1 → RV n h w c2 → SPEC P 82 [c1.v, c2.v] [.one .bl] h h.size fun x _ => (x.1 = true ↔ v.2 = w) :=
    fun v hv => spec82 v.2
  obtain ⟨⟨a1, a2, a3, a4, a5, a6⟩, a7, a8, ⟨a9, a10⟩, a11, a12⟩ := r1
  obtain ⟨⟨d1, d2, d3, d4, d5, d6⟩, d7, d8, ⟨d9, d10⟩, d11, d12⟩ := r2
  refine SPEC_of noNG Tryz.func82 (pl := pl82) (ps := [.agg [.nt .u8, .bl, .nt .i64, .tx, .sl, .sl, .sl], .agg [.nt .u8, .bl, .nt .i64, .tx, .sl, .sl, .sl]])
    (c1.k, c1.b, c1.i, c1.t, c1.bs, c1.ls, c1.fs, c2.k, c2.b, c2.i, c2.t, c2.bs, c2.ls, c2.fs, ()) (by kernel_rfl)
    (q82 (fun _ _ => False) c1.k c1.b c1.i c1.t c1.bs c1.ls c1.fs c2.k c2.b c2.i c2.t c2.bs c2.ls c2.fs h) (fun Q h => by rw [q82_eq] at h; exact h) ?_
  unfold q82
  refine ALLOC_r (.refl h.size h) (Nat.le_refl _) fun b2 h1 hb2 hs1 g1 _ _ => ?_
  refine ALLOC_r g1 (by omega) fun b3 h2 hb3 hs2 g2 _ _ => ?_
  intro kk hk
  have no : ∀ X, Pre h.size h X → V.mk k b i t bs l f ≠ V.mk k' b' i' t' bs' l' f' → kk false X := fun X gX hne => hk (false, ()) X ⟨gX, nofun, fun e => absurd e hne⟩
  refine COND_r (fun hc1 => ?_) (fun hc => no h2 g2 fun e => ?_)
  rotate_left
  · cases e; rw [a1, d1] at hc; simp at hc
  refine COND_r (fun hc2 => ?_) (fun hc => no h2 g2 fun e => ?_)
  rotate_left
  · cases e; rw [a3, d3] at hc; simp at hc
  refine COND_r (fun hc3 => ?_) (fun hc => no h2 g2 fun e => ?_)
  rotate_left
  · cases e; rw [a4, d4] at hc; simp at hc
  refine COND_r (fun hc4 => ?_) (fun hc => no h2 g2 fun e => ?_)
  rotate_left
  · cases e; rw [txt_eq a7 d7] at hc; simp at hc
  rw [txt_eq a7 d7] at hc4
  have z1 : k = k' := by have : c1.k = c2.k := by simpa using hc1
                         omega
  have z2 : b = b' := by have : c1.b = c2.b := by simpa using hc2
                         rw [← a3, ← d3]; exact this
  have z3 : i = i' := by have : c1.i = c2.i := by simpa using hc3
                         omega
  have z4 : t = t' := by simpa using hc4
  refine CALL_r (spec121 (a8.pre g2 hn) (d8.pre g2 hn)) (kb2 (by omega) (by omega)) ?_
  rintro ⟨x, _⟩ h5 hs5 g5 ⟨rfl, hx⟩
  simp only at hx
  subst hx
  refine COND_r (fun hc5 => ?_) (fun hc => no h5 g2 fun e => ?_)
  rotate_left
  · cases e; simp at hc
  have z5 : bs = bs' := by simpa using hc5
  refine CALL_r (spec122 (by omega) ihl (RL.pre g2 hn _ _ _ a10) a9 (RL.pre g2 hn _ _ _ d10) d9) (kb2 (by omega) (by omega)) ?_
  rintro ⟨y, _⟩ h6 hs6 g6 hy
  simp only at hy
  have g62 : Pre h.size h h6 := g2.then g6 (by omega)
  refine COND_r (fun hc6 => ?_) (fun hc => no h6 g62 fun e => ?_)
  rotate_left
  · cases e
    rw [hy.2 rfl] at hc; cases hc
  refine CALL_r (spec123 (by omega) ihf (RF.pre g62 hn _ _ _ a12) a11 (RF.pre g62 hn _ _ _ d12) d11) (kb2 (by omega) (by omega)) ?_
  rintro ⟨z, _⟩ h7 hs7 g7 hz
  simp only at hz
  refine hk (z, ()) h7 ⟨g62.then g7 (by omega), ?_⟩
  simp only
  rw [hz]
  have := hy.1 hc6
  simp [*]
termination_by SizeOf.sizeOf v
decreasing_by
  all_goals simp_wf
  · have := List.sizeOf_lt_of_mem hv; omega
  · have := List.sizeOf_lt_of_mem hv
    have : SizeOf.sizeOf v.2 < SizeOf.sizeOf v := by cases v; simp; omega
    omega

/-- of -/
theorem spec125 {h : Heap} {c : Cv} : SPEC P 125 [c.v] [.one .oq] h h.size fun x _ => (c.k = 7 → x.1 = .iface 208 c.fs.v) ∧ (c.k ≠ 7 → (∀ u, x.1 ≠ .iface 208 u) ∧ (x.1 = .nilIface ∨ ∃ t u, x.1 = .iface t u)) := by
  refine SPEC_of_k noNG Tryz.func125 (pl := pl125) (ps := VT) (c.k, c.b, c.i, c.t, c.bs, c.ls, c.fs, ()) (by kernel_rfl)
    (q125 (fun _ _ => False) c.k c.b c.i c.t c.bs c.ls c.fs h) (by kernel_rfl) ?_
  unfold q125
  refine ALLOC_r (.refl h.size h) (Nat.le_refl _) fun b2 h1 hb2 hs1 g1 _ _ => ?_
  have no : ∀ {m : Int}, (c.k == m) = true → m ≠ 7 → c.k ≠ 7 := by
    intro m h1 h2
    have : c.k = m := by simpa using h1
    omega
  refine COND_r (fun hc => ⟨g1, fun e => absurd e (no hc (by decide)), fun _ => ⟨fun u e => by injection e with e1 e2; exact absurd e1 (by decide), .inr ⟨_, _, rfl⟩⟩⟩) (fun _ => ?_)
  refine COND_r (fun hc => ⟨g1, fun e => absurd e (no hc (by decide)), fun _ => ⟨fun u e => by injection e with e1 e2; exact absurd e1 (by decide), .inr ⟨_, _, rfl⟩⟩⟩) (fun _ => ?_)
  refine COND_r (fun hc => ⟨g1, fun e => absurd e (no hc (by decide)), fun _ => ⟨fun u e => by injection e with e1 e2; exact absurd e1 (by decide), .inr ⟨_, _, rfl⟩⟩⟩) (fun _ => ?_)
  refine COND_r (fun hc => ⟨g1, fun e => absurd e (no hc (by decide)), fun _ => ⟨fun u e => by injection e with e1 e2; exact absurd e1 (by decide), .inr ⟨_, _, rfl⟩⟩⟩) (fun _ => ?_)
  refine COND_r (fun hc => ⟨g1, fun e => absurd e (no hc (by decide)), fun _ => ⟨fun u e => by injection e with e1 e2; exact absurd e1 (by decide), .inr ⟨_, _, rfl⟩⟩⟩) (fun _ => ?_)
  refine COND_r (fun hc => ⟨g1, fun e => absurd e (no hc (by decide)), fun _ => ⟨fun u e => by injection e with e1 e2; exact absurd e1 (by decide), .inr ⟨_, _, rfl⟩⟩⟩) (fun _ => ?_)
  refine COND_r (fun hc => ⟨g1, fun _ => rfl, fun e => absurd (by simpa using hc) e⟩) (fun hc => ⟨g1, (fun e => absurd hc (by rw [e]; decide)), fun _ => ⟨(fun u e => by cases e), .inl rfl⟩⟩)

/-- A document's field. -/
def getV : V → List UInt8 → Option V
  | .mk k _ _ _ _ _ f, nm => if k = 7 then (f.find? fun x => decide (x.1 = nm)).map (·.2) else none

/-- IndexFunc over a document's fields -/
theorem spec126 {n : Nat} {h : Heap} {l : List (List UInt8 × V)} {s : Sl} {y : Value} {p : List UInt8 × V → Bool} (hn : n ≤ h.size) (r : RF n h l s.a 0) (sh : SH n l.length s)
    (hy : ∀ v ∈ l, ∀ (nm : ByteArray) (c : Cv) (h' : Heap), Pre h.size h h' → TX v.1 nm → RV n h' v.2 c → HV P y [.agg (.string nm :: c.cells).toArray] h' fun e h'' => ∃ b, e = .returned (.bool b) ∧ Pre h'.size h' h'' ∧ b = p v) :
    SPEC P 126 [s.v, y] [.one (.nt .i64)] h h.size fun x _ => x.1 = ixN (l.findIdx? p) := by
  refine SPEC_of noNG Tryz.func126 (pl := pl126) (ps := [.one .sl, .one .oq]) (s, y, ()) (by kernel_rfl) (q126 (fun _ _ => False) s y h) (fun Q h => by rw [q126_eq] at h; exact h) ?_
  unfold q126
  have e1 := sh.len
  have e2 := sh.cap
  have e3 := sh.small
  refine LOOP_up (N := l.length) (fun j h' => Pre h.size h h' ∧ ∀ i (hi : i < l.length), i < j → p l[i] = false) (by omega) ⟨.refl _ _, fun i hi hj => by omega⟩ ?_
  rintro j h' hj ⟨g, hp⟩ nx hnx
  have hs := g.sz
  refine COND_r (fun hc => ?_) (fun hc => ?_)
  · have hj1 := ltI hc
    rw [e1] at hj1
    refine (RF.pre g hn _ _ _ r).ix sh rfl hj1 (fun h'' e => by rw [e]; exact .refl _ _) fun nm c t q => ?_
    refine CALLV_p (hy _ (List.getElem_mem hj1) nm c h' g t q) (by simp) ?_
    intro b h2 g2 hb
    have g02 : Pre h.size h h2 := g.then g2 (by omega)
    refine COND_r (fun hc => ⟨g02, ?_⟩) (fun hc => hnx _ hj1 ⟨g02, fun i hi hij => ?_⟩)
    · have hc : b = true := hc
      rw [findIdx_here hj1 (fun i hi => hp i (by omega) hi) (by rw [← hb, hc])]; rfl
    · have hc2 : b = false := hc
      rcases Nat.lt_or_eq_of_le (Nat.le_of_lt_succ hij) with h | h
      · exact hp i hi h
      · subst h; rw [← hb, hc2]
  · have hj1 := geI hc
    exact ⟨g, by rw [findIdx_none fun i hi => hp i hi (by omega)]; rfl⟩

theorem find_ix {α : Type} {l : List α} {p : α → Bool} : (l.findIdx? p = none → l.find? p = none) ∧ ∀ i, l.findIdx? p = some i → ∃ hi : i < l.length, l.find? p = some l[i] := by
  refine ⟨fun h => ?_, fun i h => ?_⟩
  · rw [List.findIdx?_eq_none_iff] at h
    rw [List.find?_eq_none]
    intro x hx; rw [h x hx]; decide
  · obtain ⟨hi, h1, h2⟩ := List.findIdx?_eq_some_iff_getElem.1 h
    exact ⟨hi, List.find?_eq_some_iff_getElem.2 ⟨h1, i, hi, rfl, fun j hj => by simpa using h2 j hj⟩⟩

theorem unc1s_p {K : Cur (flat [.one .sl]) Prop} {a : Sl} (k : K a) : unc (flat [.one .sl]) K (a, ()) := k

/-- Get -/
theorem spec83 {n : Nat} {h : Heap} {v : V} {c : Cv} {nm : List UInt8} {s : ByteArray} (hn : n ≤ h.size) (rv : RV n h v c) (ht : TX nm s) (hw : wt v ≤ 2 ^ 40) :
    SPEC P 83 [c.v, .string s] [.agg [.nt .u8, .bl, .nt .i64, .tx, .sl, .sl, .sl], .one .bl] h h.size fun x h' => x.2.2.2.2.2.2.2.1 = (getV v nm).isSome ∧
      ∀ w, getV v nm = some w → OV h.size h'.size h' w ⟨x.1, x.2.1, x.2.2.1, x.2.2.2.1, x.2.2.2.2.1, x.2.2.2.2.2.1, x.2.2.2.2.2.2.1⟩ := by
  obtain ⟨k, b, i, t, bs, l, f⟩ := v
  refine SPEC_of noNG Tryz.func83 (pl := pl83) (ps := [.agg [.nt .u8, .bl, .nt .i64, .tx, .sl, .sl, .sl], .one .tx]) (c.k, c.b, c.i, c.t, c.bs, c.ls, c.fs, s, ()) (by kernel_rfl)
    (q83 (fun _ _ => False) c.k c.b c.i c.t c.bs c.ls c.fs s h) (fun Q h => by rw [q83_eq] at h; exact h) ?_
  unfold q83
  have rv0 := rv
  obtain ⟨⟨a1, a2, a3, a4, a5, a6⟩, a7, a8, ⟨a9, a10⟩, a11, a12⟩ := rv
  refine ALLOC_r (.refl h.size h) (Nat.le_refl _) fun b2 h1 hb2 hs1 g1 _ _ => ?_
  refine ALLOC_r g1 (by omega) fun b3 h2 hb3 hs2 g2 _ hc3 => ?_
  refine ALLOC_r g2 (by omega) fun b4 h3 hb4 hs3 g3 g3' hc4 => ?_
  refine CALL_r (spec125 (h := h3)) (kb3 (by omega) (by omega) (by omega)) ?_
  rintro ⟨u, ⟨⟩⟩ h4 hs4 g4 ⟨q1, q2⟩
  refine unc1o_i ?_
  simp only at q1 q2
  have g04 : Pre h.size h h4 := g3.then g4 (by omega)
  by_cases hk : k = 7
  · have hk7 : c.k = 7 := by omega
    have hu := q1 hk7
    subst hu
    refine ⟨fun u e => ?_, fun e => absurd rfl (e _)⟩
    injection e with _ e
    subst e
    refine ⟨(c.fs, ()), rfl, ?_⟩
    refine unc1s_p ?_
    have e3 : h4[b3]? = some (.cells #[.string s] 9 (0, 0)) := by rw [g4.same _ (by omega), g3'.same _ (by omega)]; exact hc3
    have c127 : ∀ v ∈ f, ∀ (nm' : ByteArray) (c : Cv) (h' : Heap), Pre h4.size h4 h' → TX v.1 nm' → RV n h' v.2 c → HV P (.func (.func 127) #[] #[.pointer (some ⟨b3, 0, none⟩)]) [.agg (.string nm' :: c.cells).toArray] h' fun e h'' => ∃ b, e = .returned (.bool b) ∧ Pre h'.size h' h'' ∧ b = decide (v.1 = nm) := by
      intro v hv nm' c h' g ht' rv
      have hs := g.sz
      refine HV_of (Q := fun x _ => x.1 = decide (v.1 = nm)) (by kernel_rfl) ?_
      refine SPEC_of noNG Tryz.func127 (pl := pl127) (ps := [.agg [.tx, .nt .u8, .bl, .nt .i64, .tx, .sl, .sl, .sl], .one .ad]) (nm', c.k, c.b, c.i, c.t, c.bs, c.ls, c.fs, ⟨b3, 0, none⟩, ()) (by kernel_rfl)
        (q127 (fun _ _ => False) nm' c.k c.b c.i c.t c.bs c.ls c.fs ⟨b3, 0, none⟩ h') (fun Q h => by rw [q127_eq] at h; exact h) ?_
      unfold q127
      refine ALLOC_r (.refl h'.size h') (Nat.le_refl _) fun b5 h5 hb5 hs5 g5 _ _ => ?_
      refine LD1 (s := .tx) (x := s) (t := 9) (f := (0, 0)) (by rw [g5.same _ (by omega), g.same _ (by omega)]; exact e3) (fun h'' e => by rw [e]) ⟨g5, ?_⟩
      exact txt_eq ht' ht
    refine CALL_r (spec126 (n := n) (p := fun x => decide (x.1 = nm)) (by omega) (RF.pre g04 hn _ _ _ a12) a11 c127) (kb2 (by omega) (by omega)) ?_
    rintro ⟨x, ⟨⟩⟩ h5 hs5 g5 hx
    simp only at hx
    subst hx
    have g05 : Pre h.size h h5 := g04.then g5 (by omega)
    have hf := find_ix (l := f) (p := fun x => decide (x.1 = nm))
    cases hfi : f.findIdx? (fun x => decide (x.1 = nm)) with
    | none =>
      have hg : getV (.mk k b i t bs l f) nm = none := by simp [getV, hk, hf.1 hfi]
      refine COND_r (fun hc => ?_) (fun hc => ?_)
      · refine PUTN_r g05 (by omega) (by simp [oneC]) fun h6 hs6 g6 _ => ⟨g6, ?_⟩
        rw [hg]
        exact ⟨rfl, nofun⟩
      · exact absurd hc (by simp [ixN])
    | some j =>
      obtain ⟨hj, hfj⟩ := hf.2 j hfi
      have hg : getV (.mk k b i t bs l f) nm = some f[j].2 := by simp [getV, hk, hfj]
      refine COND_r (fun hc => absurd (of_decide_eq_true hc) (by show ¬ ((j : Int) < 0); omega)) (fun hc => ?_)
      obtain ⟨a0, sn, cj, z1, z2, z3, z4, z5, z6⟩ := (RF.pre g05 hn _ _ _ a12).get j hj
      rw [Nat.zero_add] at z3 z5
      refine IXA_r (j := j) z1 rfl (by rw [a11.len]; exact hj) (LDN_V (n := h5.size) z5 (by rw [add_block, add_block]; omega) (fun h'' e => by rw [e]; exact .refl _ _) ?_)
      have hwj := wtF_mem (List.getElem_mem hj)
      simp only [wt] at hw
      refine CALL_r (spec128 f[j].2 cj h5 (by omega) z6 (by omega)) (kb2 (by omega) (by omega)) ?_
      rintro ⟨y1, y2, y3, y4, y5, y6, y7, ⟨⟩⟩ h7 hs7 g7 ov
      refine unc7_i ?_
      refine PUTN_r (g05.then g7 (by omega)) (by omega) (by simp [oneC, Sl.v]) fun h8 hs8 g8 k8 => ⟨g8, ?_⟩
      rw [hg]
      refine ⟨rfl, fun w e => ?_⟩
      cases e
      have := (OV.keep (fun b x y => k8 b (by omega)) _ _ ov).lo (lo' := h.size) (by omega)
      rw [← hs8] at this
      exact this
  · have hk7 : c.k ≠ 7 := by omega
    obtain ⟨q3, q4⟩ := q2 hk7
    refine ⟨fun u e => absurd e (q3 u), fun _ => ⟨q4, ?_⟩⟩
    refine PUTN_r g04 (by omega) (by simp [oneC]) fun h6 hs6 g6 _ => ⟨g6, ?_⟩
    have hg : getV (.mk k b i t bs l f) nm = none := by simp [getV, hk]
    rw [hg]
    exact ⟨rfl, nofun⟩

end Go.VK
