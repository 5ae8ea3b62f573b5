/- Contracts: an event's bytes (doc.Encode, event.Encode). -/
import Derived.Test.YtemkcbopbinfmaaGreatDoorVEF
set_option linter.all false
namespace Go.VK
open Go Go.Proofs
set_option maxRecDepth 100000
set_option linter.unusedSimpArgs false
set_option linter.unusedVariables false

mutual
/-- All numbers are of 64 bits. -/
def okV : V → Prop
  | .mk k _ i _ _ l f => k < 256 ∧ -9223372036854775808 ≤ i ∧ i < 9223372036854775808 ∧ okL l ∧ okF f
def okL : List V → Prop
  | [] => True
  | v :: r => okV v ∧ okL r
def okF : List (List UInt8 × V) → Prop
  | [] => True
  | (_, v) :: r => okV v ∧ okF r
end

mutual
theorem RV.ok {n : Nat} {h : Heap} : ∀ (v : V) (c : Cv), RV n h v c → okV v
  | .mk k b i t bs l f, c, ⟨h1, h2, h3, ⟨h4, h5⟩, h6, h7⟩ => ⟨h1.2.1, h1.2.2.2.2.1, h1.2.2.2.2.2, RL.ok l _ _ h5, RF.ok f _ _ h7⟩
theorem RL.ok {n : Nat} {h : Heap} : ∀ (l : List V) (a : Option Addr) (i : Nat), RL n h l a i → okL l
  | [], _, _, _ => trivial
  | v :: r, a, i, ⟨⟨a0, c, h1, h2, h3, h4⟩, h5⟩ => ⟨RV.ok v c h4, RL.ok r a (i + 1) h5⟩
theorem RF.ok {n : Nat} {h : Heap} : ∀ (l : List (List UInt8 × V)) (a : Option Addr) (i : Nat), RF n h l a i → okF l
  | [], _, _, _ => trivial
  | (nm, v) :: r, a, i, ⟨⟨a0, s, c, h1, h2, h3, h4, h5, h6⟩, h7⟩ => ⟨RV.ok v c h6, RF.ok r a (i + 1) h7⟩
end

theorem zz_lt {i : Int} (h1 : -9223372036854775808 ≤ i) (h2 : i < 9223372036854775808) : zz i < 2 ^ 64 := by
  unfold zz; split <;> omega

theorem tx_len (l : List UInt8) : l.length ≤ 64 * (l.length / 64) + 63 := by
  have ht := Nat.div_add_mod l.length 64
  have ht2 := Nat.mod_lt l.length (show 64 > 0 by decide)
  omega

mutual
theorem enc_len : ∀ (v : V), okV v → wt v ≤ 2 ^ 40 → (enc v).length + 100 ≤ 200 * wt v
  | .mk k b i t bs l f, ⟨_, o1, o2, o3, o4⟩, hw => by
    simp only [wt] at hw
    have h1 := encL_len l o3 (by omega)
    have h2 := encF_len f o4 (by omega)
    have ht := tx_len t
    have hb := tx_len bs
    have l1 := wtL_len l
    have l2 := wtF_len f
    have v1 := vint_len64 (zz_lt o1 o2)
    have v2 := vint_len64 (n := t.length) (by omega)
    have v3 := vint_len64 (n := bs.length) (by omega)
    have v4 := vint_len64 (n := l.length) (by omega)
    have v5 := vint_len64 (n := f.length) (by omega)
    simp only [enc, wt]
    repeat' split
    all_goals (try simp only [List.length_cons, List.length_append, List.length_nil])
    all_goals omega
theorem encL_len : ∀ (l : List V), okL l → wtL l ≤ 2 ^ 40 → (encL l).length ≤ 200 * wtL l
  | [], _, _ => by simp [encL]
  | v :: r, ⟨o1, o2⟩, hw => by
    simp only [wtL] at hw
    have h1 := enc_len v o1 (by omega)
    have h2 := encL_len r o2 (by omega)
    simp only [encL, wtL, List.length_append]; omega
theorem encF_len : ∀ (l : List (List UInt8 × V)), okF l → wtF l ≤ 2 ^ 40 → (encF l).length ≤ 200 * wtF l
  | [], _, _ => by simp [encF]
  | (n, v) :: r, ⟨o1, o2⟩, hw => by
    simp only [wtF] at hw
    have h1 := enc_len v o1 (by omega)
    have h2 := encF_len r o2 (by omega)
    have h3 := tx_len n
    have h4 := vint_len64 (n := n.length) (by omega)
    simp only [encF, wtF, List.length_append]; omega
end

theorem BUF.lo {n m : Nat} {h : Heap} {B : List UInt8} {s : Sl} (r : BUF n h B s) (hm : m ≤ n) : BUF m h B s := ⟨r.len, r.cap, r.small, r.none_, fun a ha => ⟨Nat.le_trans hm (r.blk a ha).1, (r.blk a ha).2⟩, r.cells, r.room⟩

/-- What is wrong with a value's bytes. -/
def docE (v : V) : Nat := if chk v ≠ 0 then chk v else if 8192 < (enc v).length then 51 else 0

/-- doc.Encode -/
theorem spec87 {n : Nat} {h : Heap} {v : V} {c : Cv} (hn : n ≤ h.size) (h2 : 2 ≤ h.size) (hT : Tabs h) (rv : RV n h v c) (hw : wt v ≤ 2 ^ 30) :
    SPEC P 87 [c.v] [.one .sl, .one (.nt .u16)] h h.size fun x h' => x.2.1 = ((docE v : Nat) : Int) ∧ (docE v = 0 → BUF h.size h' (enc v) x.1) ∧ (docE v ≠ 0 → x.1 = ⟨none, 0, 0⟩) := by
  refine SPEC_of noNG Tryz.func87 (pl := pl87) (ps := VT) (c.k, c.b, c.i, c.t, c.bs, c.ls, c.fs, ()) (by kernel_rfl)
    (q87 (fun _ _ => False) c.k c.b c.i c.t c.bs c.ls c.fs h) (fun Q h => by rw [q87_eq] at h; exact h) ?_
  unfold q87
  refine ALLOC_r (.refl h.size h) (Nat.le_refl _) fun b1 h1 hb1 hs1 g1 _ _ => ?_
  refine CALL_r (spec84 (n := n) (by omega) (by omega) (hT.pre g1 h2) (RV.pre g1 hn _ _ rv) (by omega)) (kb1 (by omega)) ?_
  rintro ⟨e, ⟨⟩⟩ X hsX gX hx
  simp only at hx
  subst hx
  have g : Pre h.size h X := g1.then gX (by omega)
  refine COND_r (fun hc => ⟨g, ?_⟩) (fun hc => ?_)
  · have hc : chk v ≠ 0 := by
      have : ¬ ((chk v : Nat) : Int) = 0 := by simpa using hc
      omega
    have e : docE v = chk v := by simp [docE, hc]
    rw [e]
    exact ⟨rfl, fun h => absurd h hc, fun _ => rfl⟩
  have hk : chk v = 0 := by
    have : ((chk v : Nat) : Int) = 0 := by simpa using hc
    omega
  have hlen := enc_len v (RV.ok _ _ rv) (by omega)
  refine CALLO_r (spec26 (h := X)) (kb1 ⟨by omega, fun e => e⟩) ?_
  rintro ⟨p0, ⟨⟩⟩ h3 hs3 g3 ⟨p, e, hpb, r3⟩
  simp only at e
  subst e
  refine unc1_i (s1 := .pt) ?_
  have gX3 : Pre X.size X h3 := g3.pre (fun _ _ h => h) (Nat.le_refl _)
  have g03 : Pre h.size h h3 := g.then gX3 (by omega)
  refine CALLO_r (spec132 X.size p v _ h3 [] c (fun i hi e => by have e : X.size ≤ i := e; omega) (by omega) r3 (RV.mono (by omega) _ _ (RV.pre g03 hn _ _ rv)) (by simp; omega)) (kb1 ⟨by omega, fun e => by have e : X.size ≤ b1 := e; omega⟩) ?_
  rintro _ h4 hs4 g4 r4
  have gX4 : Pre X.size X h4 := gX3.trans (g4.pre (fun i hi e => by have e : X.size ≤ i := e; omega) (by omega))
  have g04 : Pre h.size h h4 := g.then gX4 (by omega)
  refine CALL_r (spec31 r4) (kb1 (by omega)) ?_
  rintro ⟨z, ⟨⟩⟩ h5 hs5 g5 ⟨rfl, hz⟩
  simp only at hz
  subst hz
  simp only [List.nil_append] at r4 ⊢
  refine COND_r (fun hc => ⟨g04, ?_⟩) (fun hc => ?_)
  · have hc : ((enc v).length : Int) > 8192 := by simpa using hc
    have e : docE v = 51 := by simp only [docE, hk]; simp; omega
    rw [e]
    exact ⟨rfl, fun h => by omega, fun _ => rfl⟩
  · have hc : ¬ ((enc v).length : Int) > 8192 := by simpa using hc
    have e : docE v = 0 := by simp only [docE, hk]; simp; omega
    refine CALL_r (spec32 r4 (by omega)) (kb1 (by omega)) ?_
    rintro ⟨s, ⟨⟩⟩ h6 hs6 g6 hb
    simp only at hb
    rw [e]
    exact ⟨g04.then g6 (by omega), rfl, fun _ => hb.lo (by omega), fun h => absurd rfl h⟩

def wideB (v : V) : List UInt8 := if docE v = 0 then enc v else List.replicate 8193 0

/-- wide -/
theorem spec29 {n : Nat} {h : Heap} {v : V} {c : Cv} (hn : n ≤ h.size) (h2 : 2 ≤ h.size) (hT : Tabs h) (rv : RV n h v c) (hw : wt v ≤ 2 ^ 30) :
    SPEC P 29 [c.v] [.one .sl] h h.size fun x h' => BUF h.size h' (wideB v) x.1 := by
  refine SPEC_of noNG Tryz.func29 (pl := pl29) (ps := VT) (c.k, c.b, c.i, c.t, c.bs, c.ls, c.fs, ()) (by kernel_rfl)
    (q29 (fun _ _ => False) c.k c.b c.i c.t c.bs c.ls c.fs h) (fun Q h => by rw [q29_eq] at h; exact h) ?_
  unfold q29
  refine ALLOC_r (.refl h.size h) (Nat.le_refl _) fun b1 h1 hb1 hs1 g1 _ _ => ?_
  refine CALL_r (spec87 (n := n) (by omega) (by omega) (hT.pre g1 h2) (RV.pre g1 hn _ _ rv) (by omega)) (kb1 (by omega)) ?_
  rintro ⟨s, e, ⟨⟩⟩ X hsX gX ⟨hx, hb, _⟩
  simp only at hx hb
  subst hx
  have g : Pre h.size h X := g1.then gX (by omega)
  refine COND_r (fun hc => ⟨g, ?_⟩) (fun hc => ?_)
  · have hc : docE v = 0 := by
      have : ((docE v : Nat) : Int) = 0 := by simpa using hc
      omega
    have e : wideB v = enc v := by simp [wideB, hc]
    show BUF h.size X (wideB v) s
    rw [e]
    exact (hb hc).lo (by omega)
  · have hc : docE v ≠ 0 := by
      have : ¬ ((docE v : Nat) : Int) = 0 := by simpa using hc
      omega
    have e : wideB v = List.replicate 8193 0 := by simp [wideB, hc]
    refine ⟨by decide, by decide, by decide, by decide, g.push (by omega) _, ?_⟩
    show BUF h.size _ (wideB v) _
    rw [e]
    have hz : zeroes [Value.int .u8 0] 8193 = u8s (List.replicate 8193 0) ++ List.replicate (8193 - 8193) (Value.int .u8 0) := by
      unfold zeroes u8s
      rw [List.map_replicate]
      generalize 8193 = N
      induction N with
      | zero => simp
      | succ N ih => simp [List.replicate_succ] at ih ⊢
    have := BUF.fresh (n := h.size) (h := X) (B := List.replicate 8193 (0 : UInt8)) (t := 5) (len := 8193) (c := 8193) (by omega) (by simp) (Nat.le_refl _) (by decide)
    rw [← hz] at this
    exact this

def outB (e : Ev) : List UInt8 := [UInt8.ofNat e.k] ++ (vint e.coll.length ++ e.coll) ++ (vint (wideB e.key).length ++ wideB e.key) ++ (if e.k = 1 then wideB e.doc else [])

open Classical in
/-- What is wrong with an event's bytes. -/
noncomputable def evE (e : Ev) : Nat := if mayP e then (if 8192 < (outB e).length then 51 else 0) else 210

/-- event.Encode -/
theorem spec9 {n : Nat} {h : Heap} {e : Ev} {c : Ce} (hn : n ≤ h.size) (h2 : 2 ≤ h.size) (hT : Tabs h) (r : RE n h e c) (hw : wt e.key ≤ 2 ^ 30) (hw2 : wt e.doc ≤ 2 ^ 30) (hw3 : e.coll.length ≤ 2 ^ 40) :
    SPEC P 9 [c.v] [.one .sl, .one (.nt .u16)] h h.size fun x h' => x.2.1 = ((evE e : Nat) : Int) ∧ (evE e = 0 → BUF h.size h' (outB e) x.1) ∧ (evE e ≠ 0 → x.1 = ⟨none, 0, 0⟩) := by
  refine SPEC_of noNG Tryz.func9 (pl := pl9) (ps := [.agg EL16])
    (c.k, c.coll, c.key.k, c.key.b, c.key.i, c.key.t, c.key.bs, c.key.ls, c.key.fs, c.doc.k, c.doc.b, c.doc.i, c.doc.t, c.doc.bs, c.doc.ls, c.doc.fs, ()) (by kernel_rfl)
    (q9 (fun _ _ => False) c.k c.coll c.key.k c.key.b c.key.i c.key.t c.key.bs c.key.ls c.key.fs c.doc.k c.doc.b c.doc.i c.doc.t c.doc.bs c.doc.ls c.doc.fs h) (fun Q h => by rw [q9_eq] at h; exact h) ?_
  unfold q9
  refine ALLOC_r (.refl h.size h) (Nat.le_refl _) fun b1 h1 hb1 hs1 g1 _ _ => ?_
  have r1 := r.pre g1 hn
  refine CALL_r (spec25 (n := n) (by omega) (by omega) (hT.pre g1 h2) r1 hw hw2) (kb1 (by omega)) ?_
  rintro ⟨x, ⟨⟩⟩ X hsX gX hx
  simp only at hx
  have g : Pre h.size h X := g1.then gX (by omega)
  refine COND_r (fun hc => ⟨g, ?_⟩) (fun hc => ?_)
  · have hc : x = false := by simpa using hc
    have hm : ¬ mayP e := fun m => by rw [hx.2 m] at hc; cases hc
    have ee : evE e = 210 := by unfold evE; rw [if_neg hm]
    rw [ee]
    exact ⟨rfl, fun h => by omega, fun _ => rfl⟩
  have hm : mayP e := hx.1 (by simpa using hc)
  have k1 : ∀ (Y : Heap), X.size ≤ Y.size → ∀ b ∈ [b1], b < Y.size ∧ ¬ X.size ≤ b := fun Y hY => kb1 ⟨by omega, by omega⟩
  have kU : ∀ (Y Z : Heap), X.size ≤ Y.size → X.size ≤ Z.size → ∀ b ∈ [b1], b < Y.size ∧ ¬ Up (fun b => X.size ≤ b) Z.size b := fun Y Z hY hZ => kb1 ⟨by omega, fun e => e.elim (fun e => by have e : X.size ≤ b1 := e; omega) (fun e => by omega)⟩
  have fl : ∀ {Z : Heap}, X.size ≤ Z.size → ∀ i, Up (fun b => X.size ≤ b) Z.size i → X.size ≤ i := fun hZ i e => e.elim id fun e => by omega
  have kw := enc_len e.key (RV.ok _ _ r.key) (by omega)
  have dw := enc_len e.doc (RV.ok _ _ r.doc) (by omega)
  have hwk : (wideB e.key).length ≤ 2 ^ 42 := by unfold wideB; split; omega; simp
  have hwd : (wideB e.doc).length ≤ 2 ^ 42 := by unfold wideB; split; omega; simp
  refine CALLO_r (spec26 (h := X)) (kb1 ⟨by omega, fun e => e⟩) ?_
  rintro ⟨p0, ⟨⟩⟩ h3 hs3 g3 ⟨p, ep, hpb, r3⟩
  simp only at ep
  subst ep
  refine unc1_i (s1 := .pt) ?_
  have gX3 : Pre X.size X h3 := g3.pre (fun _ _ h => h) (Nat.le_refl _)
  have st : ∀ {Y Z : Heap}, Pre X.size X Y → Chg (fun b => X.size ≤ b) Y Z → Pre X.size X Z := fun a b => a.trans (b.pre (fun i hi e => by have e : X.size ≤ i := e; omega) a.sz)
  have eku : c.k = ((UInt8.ofNat e.k).toNat : Int) := by
    have := r.small
    rw [r.k, UInt8.toNat_ofNat']; omega
  have hk27 := spec27 (c := UInt8.ofNat e.k) r3 (by simp)
  rw [← eku] at hk27
  refine CALLO_r hk27 (k1 h3 (by omega)) ?_
  rintro _ h4 hs4 g4 r4
  have r4 := r4.mono (fl (by omega))
  have gX4 := st gX3 g4
  refine CALLO_r (spec28 r4 r.coll (by simp; omega)) (k1 h4 (by omega)) ?_
  rintro _ h5 hs5 g5 r5
  have r5 := r5.mono (fl (by omega))
  have gX5 := st gX4 g5
  have v1 := vint_len64 (n := e.coll.length) (by omega)
  have v2 := vint_len64 (n := (wideB e.key).length) (by omega)
  have g05 : Pre h.size h h5 := g.then gX5 (by omega)
  refine CALL_r (spec29 (n := n) (by omega) (by omega) (hT.pre g05 h2) (RV.pre g05 hn _ _ r.key) hw) (kb1 (by omega)) ?_
  rintro ⟨v20, ⟨⟩⟩ h6 hs6 g6 b6
  refine unc1s_i ?_
  simp only at b6
  have gX6 : Pre X.size X h6 := gX5.then g6 (by omega)
  have r6 : RW (fun b => X.size ≤ b ∧ b < h5.size) h6 _ p := r5.cut.keep (X := fun _ => False) (.of_pre g6) fun _ _ h => h
  refine BTS_r b6.rb fun x21 hx21 => ?_
  have cut : ∀ {Y : Heap} {i : Nat}, X.size ≤ Y.size → (X.size ≤ i ∧ i < Y.size) → X.size ≤ i := fun _ a => a.1
  have stc : ∀ {Y Z W : Heap}, Pre X.size X Y → Chg (fun b => X.size ≤ b ∧ b < W.size) Y Z → Pre X.size X Z := fun a b => a.trans (b.pre (fun i hi e => by omega) a.sz)
  refine CALLO_r (spec28 (t := wideB e.key) r6 ⟨hx21, by omega⟩ (by simp; omega)) (kb1 ⟨by omega, by omega⟩) ?_
  rintro _ h7 hs7 g7 r7
  have gX7 := stc gX6 g7
  have r7 : RW (fun b => X.size ≤ b) h7 ([UInt8.ofNat e.k] ++ (vint e.coll.length ++ e.coll) ++ (vint (wideB e.key).length ++ wideB e.key)) p := by
    have := r7.mono (O' := fun b => X.size ≤ b) fun i hi => hi.elim (fun e => e.1) (fun e => by omega)
    simpa using this
  intro k8 hk8
  have fin : ∀ (Y : Heap), Pre X.size X Y → RW (fun b => X.size ≤ b) Y (outB e) p → k8 Y := fun Y gY rY => by
    refine hk8 () Y ?_
    have gY' : Pre h.size h Y := g.then gY (by omega)
    refine CALL_r (spec31 rY) (by simp) ?_
    rintro ⟨z, ⟨⟩⟩ Y2 hsY2 gY2 ⟨rfl, hz⟩
    simp only at hz
    subst hz
    refine COND_r (fun hc => ⟨gY', ?_⟩) (fun hc => ?_)
    · have hc : ((outB e).length : Int) > 8192 := by simpa using hc
      have ee : evE e = 51 := by unfold evE; rw [if_pos hm, if_pos (by omega)]
      rw [ee]
      exact ⟨rfl, fun h => by omega, fun _ => rfl⟩
    · have hc : ¬ ((outB e).length : Int) > 8192 := by simpa using hc
      have ee : evE e = 0 := by unfold evE; rw [if_pos hm, if_neg (by omega)]
      refine CALL_r (spec32 rY (by omega)) (by simp) ?_
      rintro ⟨s, ⟨⟩⟩ Y3 hsY3 gY3 hb
      simp only at hb
      rw [ee]
      exact ⟨gY'.then gY3 (by have := gY'.sz; omega), rfl, fun _ => hb.lo (by have := gY'.sz; omega), fun h => absurd rfl h⟩
  have ck1 : (c.k == 1) = (e.k == 1) := by rw [r.k]; exact ckN e.k 1
  refine COND_r (fun hc => ?_) (fun hc => ?_)
  · have hk : e.k = 1 := by rw [ck1] at hc; simpa using hc
    have g07 : Pre h.size h h7 := g.then gX7 (by omega)
    refine CALL_r (spec29 (n := n) (by omega) (by omega) (hT.pre g07 h2) (RV.pre g07 hn _ _ r.doc) hw2) (kb1 (by omega)) ?_
    rintro ⟨v29, ⟨⟩⟩ h8 hs8 g8 b8
    refine unc1s_i ?_
    simp only at b8
    have gX8 : Pre X.size X h8 := gX7.then g8 (by omega)
    have r8 : RW (fun b => X.size ≤ b ∧ b < h7.size) h8 _ p := r7.cut.keep (X := fun _ => False) (.of_pre g8) fun _ _ h => h
    refine CALLO_r (spec30 r8 b8.rb (by simp; omega)) (kb1 ⟨by omega, by omega⟩) ?_
    rintro _ h9 hs9 g9 r9
    refine fin h9 (stc gX8 g9) ?_
    have := r9.mono (O' := fun b => X.size ≤ b) fun i hi => hi.elim (fun e => e.1) (fun e => by omega)
    have eo : outB e = [UInt8.ofNat e.k] ++ (vint e.coll.length ++ e.coll) ++ (vint (wideB e.key).length ++ wideB e.key) ++ wideB e.doc := by unfold outB; rw [if_pos hk]
    rw [eo]
    exact this
  · have hk : e.k ≠ 1 := by rw [ck1] at hc; simpa using hc
    refine fin h7 gX7 ?_
    have eo : outB e = [UInt8.ofNat e.k] ++ (vint e.coll.length ++ e.coll) ++ (vint (wideB e.key).length ++ wideB e.key) := by unfold outB; rw [if_neg hk, List.append_nil]
    rw [eo]
    exact r7

end Go.VK
