/- Contracts: an event's bytes (event.Encode). -/
import Derived.Test.YtemkcbopbinfmaaGreatDoorVEE
set_option linter.all false
namespace Go.VK
open Go Go.Proofs
set_option maxRecDepth 100000
set_option linter.unusedSimpArgs false
set_option linter.unusedVariables false

/-! ### A collection's name -/
def cletB (pos c : Nat) : Bool := (97 ≤ c && c ≤ 122) || (pos != 0 && (c == 95 || c == 45 || (48 ≤ c && c ≤ 57)))
def cnameGo (s : ByteArray) : Nat → Nat → Bool
  | 0, _ => true
  | n + 1, pos => if pos < s.size then cletB pos (Utf8.decode s pos).1 && cnameGo s n (pos + (Utf8.decode s pos).2) else true
def cnameT (t : List UInt8) : Bool := cnameGo ⟨t.toArray⟩ t.length 0 && (!t.isEmpty && decide (t.length ≤ 32))

/-- catalog.isName -/
theorem spec148 {h : Heap} {t : List UInt8} {s : ByteArray} (ht : TX t s) : SPEC P 148 [.string s] [.one .bl] h h.size fun x _ => x.1 = cnameT t := by
  refine SPEC_of noNG Tryz.func148 (pl := pl148) (ps := [.one .tx]) (s, ()) (by kernel_rfl) (q148 (fun _ _ => False) s h) (fun Q h => by rw [q148_eq] at h; exact h) ?_
  unfold q148
  have es := ht.mk_eq
  have hsz := ht.size
  show ITER s h _
  refine ⟨fun _ X => Pre h.size h X ∧ ∃ pos n, X[h.size]? = some (.stringIter s pos) ∧ s.size ≤ pos + n ∧ cnameGo s s.size 0 = cnameGo s n pos, fun _ X => match X[h.size]? with
    | some (.stringIter s pos) => s.size - pos
    | _ => 0, ⟨(Pre.refl _ _).push (Nat.le_refl _) _, 0, s.size, by simp, by omega, rfl⟩, ?_⟩
  rintro _ X ⟨gX, pos, n, hX, hn, hgo⟩
  refine ⟨s, pos, hX, fun hp => ?_, fun hp => ?_⟩
  · have e1 : cnameGo s n pos = true := by cases n <;> simp [cnameGo, hp]
    have hgo2 : cnameGo s t.length 0 = true := by rw [← hsz, hgo, e1]
    rw [es] at hgo2
    intro k5 hk5
    have em : (s.toList == ByteArray.empty.toList) = t.isEmpty := by
      rw [toList_eq, toList_eq, ht.eq]; cases t <;> rfl
    refine COND_r (fun hc => ?_) (fun hc => ?_)
    · rw [em] at hc
      refine hk5 (decide ((s.size : Int) ≤ 32), ()) X ⟨gX, ?_⟩
      show decide ((s.size : Int) ≤ 32) = _
      unfold cnameT
      rw [hgo2, hc, Bool.true_and, Bool.true_and]
      exact decide_eq_decide.2 (by omega)
    · rw [em] at hc
      refine hk5 (false, ()) X ⟨gX, ?_⟩
      unfold cnameT
      rw [hc]; simp
  · have hw := Lib.decode_width_pos s pos hp
    obtain ⟨m, rfl⟩ : ∃ m, n = m + 1 := ⟨n - 1, by omega⟩
    have hXs : h.size < X.size := by
      rcases Nat.lt_or_ge h.size X.size with x | x
      · exact x
      · rw [Array.getElem?_eq_none x] at hX; cases hX
    have gY : Pre h.size h (X.setIfInBounds h.size (.stringIter s (pos + (Utf8.decode s pos).2))) := gX.set (Nat.le_refl _) _
    intro k7 hk7
    have step : ∀ b : Bool, b = !cletB pos (Utf8.decode s pos).1 → COND b ((cur (flat [.one .bl]) fun x h' => Pre h.size h h' ∧ x.1 = cnameT t : Cur (flat [.one .bl]) (Heap → Prop)) false (X.setIfInBounds h.size (.stringIter s (pos + (Utf8.decode s pos).2))))
        ((fun h' => (Pre h.size h h' ∧ ∃ pos n, h'[h.size]? = some (.stringIter s pos) ∧ s.size ≤ pos + n ∧ cnameGo s s.size 0 = cnameGo s n pos) ∧ (match h'[h.size]? with
    | some (.stringIter s pos) => s.size - pos
    | _ => 0) < (match X[h.size]? with
    | some (.stringIter s pos) => s.size - pos
    | _ => 0)) (X.setIfInBounds h.size (.stringIter s (pos + (Utf8.decode s pos).2)))) := fun b hb => by
      refine COND_r (fun hc => ⟨gY, ?_⟩) (fun hc => ⟨⟨gY, _, m, by rw [Array.getElem?_setIfInBounds_self_of_lt hXs], by omega, ?_⟩, ?_⟩)
      · rw [hc] at hb
        have hf : cletB pos (Utf8.decode s pos).1 = false := by
          cases h : cletB pos (Utf8.decode s pos).1
          · rfl
          · rw [h] at hb; cases hb
        rw [cnameGo, if_pos hp, hf, Bool.false_and] at hgo
        have hgo2 : cnameGo s t.length 0 = false := by rw [← hsz, hgo]
        rw [es] at hgo2
        show false = cnameT t
        unfold cnameT
        rw [hgo2]; rfl
      · rw [hc] at hb
        have hf : cletB pos (Utf8.decode s pos).1 = true := by
          cases h : cletB pos (Utf8.decode s pos).1
          · rw [h] at hb; cases hb
          · rfl
        rw [hgo, cnameGo, if_pos hp, hf]; simp
      · rw [Array.getElem?_setIfInBounds_self_of_lt hXs, hX]
        simp only
        omega
    generalize (Utf8.decode s pos).1 = C at step hk7
    have le : ∀ a b : Nat, decide ((a : Int) ≤ (b : Int)) = decide (a ≤ b) := fun a b => decide_eq_decide.2 (by omega)
    suffices J7 : k7 (decide (97 ≤ C) && decide (C ≤ 122)) (X.setIfInBounds h.size (.stringIter s (pos + (Utf8.decode s pos).2))) by
      have e1 : decide ((97 : Int) ≤ (C : Int)) = decide (97 ≤ C) := le 97 C
      have e2 : decide ((C : Int) ≤ 122) = decide (C ≤ 122) := le C 122
      simp only [e1, e2]
      revert J7
      cases decide (97 ≤ C) <;> simp only [COND_true, COND_false, Bool.true_and, Bool.false_and] <;> exact fun h => h
    refine hk7 (_, ()) _ ?_
    intro k9 hk9
    suffices J9 : k9 (!cletB pos C) (X.setIfInBounds h.size (.stringIter s (pos + (Utf8.decode s pos).2))) by
      have e0 : ((pos : Int) == 0) = (pos == 0) := ckN pos 0
      have e1 : ((C : Int) == 95) = (C == 95) := ckN C 95
      have e2 : ((C : Int) == 45) = (C == 45) := ckN C 45
      have e1' : ((C : Int) != 95) = !(C == 95) := by rw [bne, e1]
      have e2' : ((C : Int) != 45) = !(C == 45) := by rw [bne, e2]
      have e3 : decide ((C : Int) < 48) = !decide (48 ≤ C) := by rw [← decide_not]; exact decide_eq_decide.2 (by omega)
      have e4 : decide ((C : Int) > 57) = !decide (C ≤ 57) := by rw [← decide_not]; exact decide_eq_decide.2 (by omega)
      show COND (!(decide (97 ≤ C) && decide (C ≤ 122))) _ _
      simp only [e0, e1', e2', e3, e4]
      unfold cletB at J9
      revert J9
      have en : (pos != 0) = !(pos == 0) := rfl
      rw [en]
      generalize (decide (97 ≤ C) && decide (C ≤ 122)) = A
      cases A <;> cases (pos == 0) <;> cases (C == 95) <;> cases (C == 45) <;> cases decide (48 ≤ C) <;> cases decide (C ≤ 57) <;>
        simp only [COND_true, COND_false, Bool.or_true, Bool.or_false, Bool.and_true, Bool.and_false, Bool.false_or, Bool.true_or, Bool.true_and, Bool.false_and, Bool.not_true, Bool.not_false] <;> exact fun h => h
    exact hk9 (_, ()) _ (step _ rfl)

/-- catalog.Check, of a bare name -/
theorem spec120 {h : Heap} {t : List UInt8} {s : ByteArray} (ht : TX t s) : SPEC P 120 [.agg #[.string s, .int .u32 1, .string ByteArray.empty, .slice none 0 0]] [.one (.nt .u16)] h h.size fun x _ => x.1 = if cnameT t then 0 else 190 := by
  refine SPEC_of noNG Tryz.func120 (pl := pl120) (ps := [.agg [.tx, .nt .u32, .tx, .sl]]) (s, 1, ByteArray.empty, ⟨none, 0, 0⟩, ()) (by kernel_rfl) (q120 (fun _ _ => False) s 1 ByteArray.empty ⟨none, 0, 0⟩ h) (fun Q h => by rw [q120_eq] at h; exact h) ?_
  unfold q120
  refine ALLOC_r (.refl h.size h) (Nat.le_refl _) fun b1 h1 hb1 hs1 g1 _ _ => ?_
  refine CALL_r (spec148 ht) (kb1 (by omega)) ?_
  rintro ⟨x, ⟨⟩⟩ X hsX gX hx
  simp only at hx
  subst hx
  have g : Pre h.size h X := g1.then gX (by omega)
  refine COND_r (fun hc => ⟨g, ?_⟩) (fun hc => ?_)
  · have hc : cnameT t = false := by simpa using hc
    rw [hc]; rfl
  have hc : cnameT t = true := by simpa using hc
  intro k3 hk3
  refine COND_r (fun h => absurd h (by decide)) (fun _ => ?_)
  refine COND_r (fun h => absurd h (by simp)) (fun _ => ?_)
  refine hk3 (false, ()) X ?_
  refine COND_r (fun h => absurd h (by decide)) (fun _ => ?_)
  refine COND_r (fun h => absurd h (by decide)) (fun _ => ?_)
  refine ⟨fun x Y => x.2.1 = 0 ∧ Y = X, fun _ _ => 0, ⟨rfl, rfl⟩, ?_⟩
  rintro ⟨x3, x35, ⟨⟩⟩ Y ⟨e1, rfl⟩
  simp only at e1
  subst e1
  refine COND_r (fun h => absurd h (by show ¬ decide ((0 : Int) < 0) = true; decide)) (fun _ => ⟨g, ?_⟩)
  rw [hc]; rfl

/-- event.isName -/
theorem spec81 {h : Heap} {t : List UInt8} {s : ByteArray} (ht : TX t s) : SPEC P 81 [.string s] [.one .bl] h h.size fun x _ => x.1 = cnameT t := by
  refine SPEC_of noNG Tryz.func81 (pl := pl81) (ps := [.one .tx]) (s, ()) (by kernel_rfl) (q81 (fun _ _ => False) s h) (fun Q h => by rw [q81_eq] at h; exact h) ?_
  unfold q81
  refine CALL_r (spec120 ht) (by simp) ?_
  rintro ⟨x, ⟨⟩⟩ X hsX gX hx
  simp only at hx
  subst hx
  refine ⟨gX, ?_⟩
  show ((if cnameT t then (0 : Int) else 190) == 0) = cnameT t
  cases cnameT t <;> rfl

/-! ### May an event be? -/
def zeroV : V := .mk 0 false 0 [] [] [] []
def idT : List UInt8 := [95, 105, 100]

def mayP (e : Ev) : Prop := oneE e.key = 0 ∧ (kenc e.key).length ≤ 60 ∧ cnameT e.coll = true ∧ ((e.k = 2 ∧ e.doc = zeroV) ∨ (e.k = 1 ∧ getV e.doc idT = some e.key ∧ chk e.doc = 0))

theorem RV.zero {n : Nat} {h : Heap} : RV n h zeroV ⟨0, false, 0, ByteArray.empty, ⟨none, 0, 0⟩, ⟨none, 0, 0⟩, ⟨none, 0, 0⟩⟩ :=
  ⟨⟨rfl, by decide, rfl, rfl, by decide, by decide⟩, ⟨rfl, by decide⟩, ⟨rfl, Nat.le_refl _, by decide, fun h => absurd rfl h, nofun⟩, ⟨⟨rfl, Nat.le_refl _, by decide, fun h => absurd rfl h, nofun⟩, trivial⟩, ⟨rfl, Nat.le_refl _, by decide, fun h => absurd rfl h, nofun⟩, trivial⟩

abbrev EL16 : List Sh := [.nt .u8, .tx, .nt .u8, .bl, .nt .i64, .tx, .sl, .sl, .sl, .nt .u8, .bl, .nt .i64, .tx, .sl, .sl, .sl]

theorem unc8_i {K : Cur (flat [.agg [.nt .u8, .bl, .nt .i64, .tx, .sl, .sl, .sl], .one .bl]) (Heap → Prop)} {a : Int} {b : Bool} {i : Int} {t : ByteArray} {x y z : Sl} {w : Bool} {h : Heap} (k : K a b i t x y z w h) :
    unc (flat [.agg [.nt .u8, .bl, .nt .i64, .tx, .sl, .sl, .sl], .one .bl]) K (a, b, i, t, x, y, z, w, ()) h := k

set_option maxHeartbeats 1000000 in
/-- may -/
theorem spec25 {n : Nat} {h : Heap} {e : Ev} {c : Ce} (hn : n ≤ h.size) (h2 : 2 ≤ h.size) (hT : Tabs h) (r : RE n h e c) (hw : wt e.key ≤ 2 ^ 30) (hw2 : wt e.doc ≤ 2 ^ 30) :
    SPEC P 25 [c.v] [.one .bl] h h.size fun x _ => (x.1 = true ↔ mayP e) := by
  refine SPEC_of noNG Tryz.func25 (pl := pl25) (ps := [.agg EL16])
    (c.k, c.coll, c.key.k, c.key.b, c.key.i, c.key.t, c.key.bs, c.key.ls, c.key.fs, c.doc.k, c.doc.b, c.doc.i, c.doc.t, c.doc.bs, c.doc.ls, c.doc.fs, ()) (by kernel_rfl)
    (q25 (fun _ _ => False) c.k c.coll c.key.k c.key.b c.key.i c.key.t c.key.bs c.key.ls c.key.fs c.doc.k c.doc.b c.doc.i c.doc.t c.doc.bs c.doc.ls c.doc.fs h) (fun Q h => by rw [q25_eq] at h; exact h) ?_
  unfold q25
  refine ALLOC_r (.refl h.size h) (Nat.le_refl _) fun b1 h1 hb1 hs1 g1 _ _ => ?_
  refine CALL_r (spec80 (n := n) (by omega) (by omega) (hT.pre g1 h2) (RV.pre g1 hn _ _ r.key) hw) (kb1 (by omega)) ?_
  rintro ⟨v10, e10, ⟨⟩⟩ X hsX gX ⟨hx, hbuf⟩
  refine unc2_i (s1 := .sl) (s2 := .nt .u16) ?_
  simp only at hx hbuf
  subst hx
  have g : Pre h.size h X := g1.then gX (by omega)
  have ck : ∀ m : Nat, (c.k == (m : Int)) = (e.k == m) := fun m => by rw [r.k]; exact ckN e.k m
  intro k3 hk3
  have no : ∀ Y, Pre h.size h Y → ¬ (oneE e.key = 0 ∧ (kenc e.key).length ≤ 60 ∧ cnameT e.coll = true) → k3 true Y := fun Y gY hne =>
    hk3 (true, ()) Y (COND_r (fun _ => ⟨gY, nofun, fun m => absurd ⟨m.1, m.2.1, m.2.2.1⟩ hne⟩) (fun h => by cases h))
  refine COND_r (fun hc => no X g fun m => ?_) (fun hc => ?_)
  · have : ¬ ((oneE e.key : Nat) : Int) = 0 := by simpa using hc
    omega
  have h0 : oneE e.key = 0 := by
    have : ((oneE e.key : Nat) : Int) = 0 := by simpa using hc
    omega
  have hb := hbuf h0
  have hlen := hb.len
  refine COND_r (fun hc => no X g fun m => ?_) (fun hc => ?_)
  · have : (v10.len : Int) > 60 := by simpa using hc
    omega
  have h60 : (kenc e.key).length ≤ 60 := by
    have : ¬ (v10.len : Int) > 60 := by simpa using hc
    omega
  refine CALL_r (spec81 r.coll) (kb1 (by omega)) ?_
  rintro ⟨x, ⟨⟩⟩ Y hsY gY hx
  simp only at hx
  subst hx
  have gY' : Pre h.size h Y := g.then gY (by omega)
  cases hcn : cnameT e.coll with
  | false => exact no Y gY' fun m => by rw [m.2.2] at hcn; cases hcn
  | true =>
    refine hk3 (false, ()) Y ?_
    refine COND_r (fun h => by cases h) (fun _ => ?_)
    have c2 : (c.k == 2) = (e.k == 2) := ck 2
    have c1 : (c.k == 1) = (e.k == 1) := ck 1
    refine COND_r (fun hc => ?_) (fun hc => ?_)
    · have hk : e.k = 2 := by rw [c2] at hc; simpa using hc
      refine CALL_r (spec82 (n := n) e.doc zeroV c.doc ⟨0, false, 0, ByteArray.empty, ⟨none, 0, 0⟩, ⟨none, 0, 0⟩, ⟨none, 0, 0⟩⟩ Y (by omega) (RV.pre gY' hn _ _ r.doc) RV.zero) (kb1 (by omega)) ?_
      rintro ⟨x, ⟨⟩⟩ Z hsZ gZ hx
      simp only at hx
      refine ⟨gY'.then gZ (by omega), ?_⟩
      show x = true ↔ _
      rw [hx]
      exact ⟨fun hd => ⟨h0, h60, hcn, .inl ⟨hk, hd⟩⟩, fun m => m.2.2.2.elim (fun m => m.2) (fun m => by omega)⟩
    have hk2 : e.k ≠ 2 := by rw [c2] at hc; simpa using hc
    refine COND_r (fun hc => ?_) (fun hc => ⟨gY', ?_⟩)
    · have hk : e.k = 1 := by rw [c1] at hc; simpa using hc
      refine CALL_r (spec83 (n := n) (nm := idT) (by omega) (RV.pre gY' hn _ _ r.doc) ⟨rfl, by decide⟩ (by omega)) (kb1 (by omega)) ?_
      rintro ⟨y1, y2, y3, y4, y5, y6, y7, y8, ⟨⟩⟩ Z hsZ gZ ⟨hx, hov⟩
      refine unc8_i ?_
      simp only at hx hov
      subst hx
      have gZ' : Pre h.size h Z := gY'.then gZ (by omega)
      refine ALLOC_r gZ' (by omega) fun b5 h8 hb5 hs8 g8 g8' _ => ?_
      refine PUTN_r g8 (by omega) (by simp [oneC, Sl.v]) fun h9 hs9 g9 k9 => ?_
      intro k10 hk10
      have no : ∀ Y, Pre h.size h Y → ¬ (getV e.doc idT = some e.key ∧ chk e.doc = 0) → k10 false Y := fun Y gY hne =>
        hk10 (false, ()) Y ⟨gY, nofun, fun m => m.2.2.2.elim (fun m => by omega) (fun m => absurd m.2 hne)⟩
      refine COND_r (fun hc => ?_) (fun hc => no h9 g9 fun m => by rw [m.1] at hc; cases hc)
      cases hget : getV e.doc idT with
      | none => rw [hget] at hc; cases hc
      | some w =>
        have ov : OV Y.size Z.size Z w ⟨y1, y2, y3, y4, y5, y6, y7⟩ := hov w hget
        have gZ9 : Pre Z.size Z h9 := ⟨by omega, fun b hb => by rw [k9 _ (by omega), g8'.same _ hb]⟩
        have rw9 : RV Z.size h9 w ⟨y1, y2, y3, y4, y5, y6, y7⟩ := RV.pre gZ9 (Nat.le_refl _) _ _ (OV.rv _ _ ov)
        generalize hcv : (⟨y1, y2, y3, y4, y5, y6, y7⟩ : Cv) = cv at rw9
        have hcv2 : (Value.agg #[Value.int .u8 y1, .bool y2, .int .i64 y3, .string y4, y5.v, y6.v, y7.v]) = cv.v := by rw [← hcv]
        rw [hcv2]
        refine CALL_r (spec82 (n := Z.size) w e.key cv c.key h9 (by omega) rw9 (RV.mono (by omega) _ _ (RV.pre g9 hn _ _ r.key))) (kb2 (by omega) (by omega)) ?_
        rintro ⟨x, ⟨⟩⟩ h12 hs12 g12 hx
        simp only at hx
        have g12' : Pre h.size h h12 := g9.then g12 (by omega)
        refine COND_r (fun hc => ?_) (fun hc => no h12 g12' fun m => ?_)
        · have hwk : w = e.key := hx.1 hc
          refine CALL_r (spec84 (n := n) (by omega) (by omega) (hT.pre g12' h2) (RV.pre g12' hn _ _ r.doc) (by omega)) (kb2 (by omega) (by omega)) ?_
          rintro ⟨z, ⟨⟩⟩ h13 hs13 g13 hz
          simp only at hz
          subst hz
          refine hk10 (((chk e.doc : Nat) : Int) == 0, ()) h13 ⟨g12'.then g13 (by omega), ?_⟩
          show (((chk e.doc : Nat) : Int) == 0) = true ↔ _
          have : (((chk e.doc : Nat) : Int) == 0) = true ↔ chk e.doc = 0 := by simp
          rw [this]
          exact ⟨fun hd => ⟨h0, h60, hcn, .inr ⟨hk, by rw [hget, hwk], hd⟩⟩, fun m => m.2.2.2.elim (fun m => by omega) (fun m => m.2.2)⟩
        · have hc : x = false := hc
          have := m.1
          rw [hget] at this
          have := hx.2 (Option.some.inj this)
          rw [this] at hc; cases hc
    · have hk1 : e.k ≠ 1 := by rw [c1] at hc; simpa using hc
      exact ⟨nofun, fun m => m.2.2.2.elim (fun m => absurd m.1 hk2) (fun m => absurd m.1 hk1)⟩

end Go.VK
