/- Contracts: an event out of bytes (event.Decode). -/
import Derived.Test.YtemkcbopbinfmaaGreatDoorVEO
set_option linter.all false
namespace Go.VK
open Go Go.Proofs
set_option maxRecDepth 100000
set_option linter.unusedSimpArgs false
set_option linter.unusedVariables false

theorem LDN_gen : ∀ (l : List Sh) (x : TT l) {a : Addr} {i : Nat} {S : Heap → Prop} {K : Cur l Prop}, (∀ j v, (vals l x)[j]? = some v → ∀ h', S h' → cell h' (a.add (i + j)) = some v) → unc l K x → LDN l a i S K
  | [], _, _, _, _, _, _, k => k
  | s :: l, x, a, i, S, K, hc, k => ⟨x.1, hc 0 _ rfl, LDN_gen l x.2 (fun j v hv h' hh => by
      have := hc (j + 1) v hv h' hh
      have e : i + 1 + j = i + (j + 1) := by omega
      rw [e]; exact this) k⟩

/-- Several cells of a known block are written. -/
theorem STNm {b t off : Nat} {bs : List Nat} : ∀ {vs : List Value} {i : Nat} {cs : List Value} {h : Heap} {K : Heap → Prop}, h[b]? = some (.cells cs.toArray t (0, 0)) → off + i + vs.length ≤ cs.length → (∀ v ∈ vs, oneC v = true) → (∀ x ∈ bs, b ≠ x) →
    (∀ h1, h1.size = h.size → (∀ c, c ≠ b → h1[c]? = h[c]?) → h1[b]? = some (.cells (splice cs (off + i) vs).toArray t (0, 0)) → K h1) → STN ⟨b, off, none⟩ vs i h bs K
  | [], i, cs, h, K, hb, _, _, _, k => k h rfl (fun _ _ => rfl) (by rw [splice_nil]; exact hb)
  | v :: vs, i, cs, h, K, hb, hl, hv, hbs, k => by
    simp only [List.length_cons] at hl
    have e : (⟨b, off, none⟩ : Addr).add i = ⟨b, off + i, none⟩ := addr_add_new _ _ _
    have hc : (cell h ⟨b, off + i, none⟩).isSome = true := by rw [cell_known hb]; simp; omega
    have hf : frz h ⟨b, off + i, none⟩ = false := by simp [frz, hb]
    refine ⟨hv v (by simp), by rw [e]; exact hc, by rw [e]; exact hf, by rw [e]; exact OFF_of fun x hx => hbs x hx, ?_⟩
    rw [e]
    refine STNm (cs := cs.set (off + i) v) (put_known hb _ _) (by simp; omega) (fun u hu => hv u (by simp [hu])) hbs fun h1 q1 q2 q3 => k h1 (by rw [q1, put_size]) (fun c hcb => (q2 c hcb).trans (put_ne fun e => hcb e.symm)) ?_
    rw [q3, ← splice_cons (by omega)]
    rfl

abbrev EVL : List Lay := [.agg EL16, .one (.nt .u16)]

def Ce.tt (c : Ce) (e : Int) : TT (flat EVL) :=
  (c.k, c.coll, c.key.k, c.key.b, c.key.i, c.key.t, c.key.bs, c.key.ls, c.key.fs, c.doc.k, c.doc.b, c.doc.i, c.doc.t, c.doc.bs, c.doc.ls, c.doc.fs, e, ())
def Ce.t16 (c : Ce) : TT EL16 :=
  (c.k, c.coll, c.key.k, c.key.b, c.key.i, c.key.t, c.key.bs, c.key.ls, c.key.fs, c.doc.k, c.doc.b, c.doc.i, c.doc.t, c.doc.bs, c.doc.ls, c.doc.fs, ())

abbrev ZC : Cv := ⟨0, false, 0, ByteArray.empty, NIL, NIL, NIL⟩
abbrev ZE : Ce := ⟨0, ByteArray.empty, ZC, ZC⟩

theorem LDN_E {h : Heap} {b t : Nat} {c : Ce} (hb : h[b]? = some (.cells c.cells.toArray t (0, 0))) {K : Cur EL16 Prop} (k : unc EL16 K c.t16) : LDN EL16 ⟨b, 0, none⟩ 0 (EQ h) K := by
  refine LDN_gen EL16 c.t16 (fun j v hv h' e => ?_) k
  rw [e, Nat.zero_add]
  have := LDN_known hb j (by
    rcases Nat.lt_or_ge j c.cells.length with h1 | h1
    · exact h1
    · have e : vals EL16 c.t16 = c.cells := rfl
      rw [e, List.getElem?_eq_none h1] at hv; cases hv)
  rw [this]; exact hv

/-- It gives up: it recovers. -/
theorem dec_pan {Q : Cur (flat EVL) (Heap → Prop)} {h X : Heap} {b2 b3 : Nat} {c : Ce} {x : Value} (hb2 : h.size ≤ b2) (hb3 : h.size ≤ b3) (hne : b2 ≠ b3) (g : Pre h.size h X) (k2 : X[b2]? = some (.cells c.cells.toArray 29 (0, 0))) (k3 : X[b3]? = some (.cells #[x] 34 (0, 0)))
    (kq : ∀ h', Pre h.size h h' → unc _ Q (Ce.tt ZE 210) h') :
    LEAVE P (fun _ _ => False) (fun h => LDN EL16 ⟨b2, 0, none⟩ 0 (EQ h) fun r2_0 r2_1 r2_2 r2_3 r2_4 r2_5 r2_6 r2_7 r2_8 r2_9 r2_10 r2_11 r2_12 r2_13 r2_14 r2_15 =>
      LD (.nt .u16) ⟨b3, 0, none⟩ (EQ h) fun r3 => Q r2_0 r2_1 r2_2 r2_3 r2_4 r2_5 r2_6 r2_7 r2_8 r2_9 r2_10 r2_11 r2_12 r2_13 r2_14 r2_15 r3 h)
      [.fn 33 [] [.pointer (some ⟨b2, 0, none⟩), .pointer (some ⟨b3, 0, none⟩)]] (.panicking [BAD]) X := by
  refine LEAVE_pan k2 (by simp) k3 hne fun h' hs ho h2 h3 => ?_
  refine LDN_E (c := ZE) h2 ?_
  exact LD1 (s := .nt .u16) (x := (210 : Int)) h3 (fun _ e => by rw [e]) (kq h' ⟨by have := g.sz; omega, fun b hb => by rw [ho b (by have := g.sz; omega) (by omega) (by omega)]; exact g.same b hb⟩)

open Classical in
noncomputable def finE (e : Ev) : Option Ev := if mayP e then some e else none

/-- The event that bytes are. -/
noncomputable def eDec (b : List UInt8) : Option Ev := if 8192 < b.length then none else
  (u8P (some b)).bind fun x => (ptxt x.2).bind fun y => (ptxt y.2).bind fun z => (dDec z.1).bind fun key =>
    if x.1 = 1 then (dDec z.2).bind fun doc => finE ⟨1, y.1, key, doc⟩ else if z.2 = [] then finE ⟨x.1.toNat, y.1, key, zeroV⟩ else none

theorem OV.zero {lo hi : Nat} {h : Heap} (hh : lo ≤ hi) : OV lo hi h zeroV ZC :=
  ⟨⟨rfl, by decide, rfl, rfl, by decide, by decide⟩, TX.nil, lo, lo, lo, lo, ⟨Nat.le_refl _, Nat.le_refl _, Nat.le_refl _, Nat.le_refl _, hh⟩, ⟨⟨rfl, rfl, by decide, fun h => absurd rfl h, nofun, nofun⟩, RB.none_⟩, ⟨⟨rfl, rfl, by decide, fun h => absurd rfl h, nofun, nofun⟩, Nat.le_refl _⟩, ⟨rfl, rfl, by decide, fun h => absurd rfl h, nofun, nofun⟩, hh⟩

/-- What comes out of event.Decode, when it is one. -/
structure EO (lo hi : Nat) (h : Heap) (e : Ev) (c : Ce) : Prop where
  k : c.k = (e.k : Int)
  small : e.k < 256
  coll : TX e.coll c.coll
  own : ∃ m, lo ≤ m ∧ m ≤ hi ∧ OV lo m h e.key c.key ∧ OV m hi h e.doc c.doc

theorem EO.re {lo hi : Nat} {h : Heap} {e : Ev} {c : Ce} (r : EO lo hi h e c) : RE hi h e c :=
  let ⟨_, _, h2, h3, h4⟩ := r.own
  ⟨r.k, r.small, r.coll, RV.mono h2 _ _ (OV.rv _ _ h3), OV.rv _ _ h4⟩

set_option maxHeartbeats 2000000 in
/-- event.Decode -/
theorem spec10 {n : Nat} {h : Heap} {b : List UInt8} {s : Sl} (hn : n ≤ h.size) (h2 : 2 ≤ h.size) (hT : Tabs h) (rb : RB n h b s) :
    SPEC P 10 [s.v] EVL h h.size fun x h' => (∀ e, eDec b = some e → ∃ c : Ce, x = c.tt 0 ∧ EO h.size h'.size h' e c) ∧ (eDec b = none → x = Ce.tt ZE 210) := by
  refine SPEC_of_k noNG Tryz.func10 (pl := pl10) (ps := [.one .sl]) (s, ()) (by kernel_rfl) (q10 (fun _ _ => False) s h) (by kernel_rfl) ?_
  unfold q10
  have bl := rb.len
  refine ALLOC_r (.refl h.size h) (Nat.le_refl _) fun b2 h1 hb2 hs1 g1 _ hc2 => ?_
  refine ALLOC_r g1 (by omega) fun b3 h2' hb3 hs2 g2 g12 hc3 => ?_
  have k2 : h2'[b2]? = some (.cells (Ce.cells ZE).toArray 29 (0, 0)) := (g12.same _ (by omega)).trans hc2
  have pan : ∀ {X : Heap} {c : Ce} {x : Value}, Pre h.size h X → X[b2]? = some (.cells c.cells.toArray 29 (0, 0)) → X[b3]? = some (.cells #[x] 34 (0, 0)) → eDec b = none → _ := fun {X c x} gX q2 q3 hd =>
    dec_pan (Q := cur (flat EVL) fun x h' => Pre h.size h h' ∧ (∀ e, eDec b = some e → ∃ c : Ce, x = c.tt 0 ∧ EO h.size h'.size h' e c) ∧ (eDec b = none → x = Ce.tt ZE 210)) (by omega) (by omega) (by omega) gX q2 q3 fun h' g' => by
      rw [unc_cur]
      exact ⟨g', (fun e he => by rw [hd] at he; cases he), fun _ => rfl⟩
  refine must_r (fun hc => ?_) (fun hc => pan g2 k2 hc3 ?_)
  rotate_left
  · have : ¬ (s.len : Int) ≤ 8192 := by simpa using hc
    unfold eDec; rw [if_pos (by omega)]
  have hbl : ¬ 8192 < b.length := by
    have : (s.len : Int) ≤ 8192 := by simpa using hc
    omega
  have dd : eDec b = (u8P (some b)).bind fun x => (ptxt x.2).bind fun y => (ptxt y.2).bind fun z => (dDec z.1).bind fun key =>
    if x.1 = 1 then (dDec z.2).bind fun doc => finE ⟨1, y.1, key, doc⟩ else if z.2 = [] then finE ⟨x.1.toNat, y.1, key, zeroV⟩ else none := by unfold eDec; rw [if_neg hbl]
  refine CALL.mono (Z := fun _ _ => False) (spec35 (rb.pre g2 hn) (by omega) (by omega)) ?_ (fun _ _ h => h.elim)
  rintro ⟨p0, ⟨⟩⟩ h4 hx
  obtain ⟨g4, q, m, e, hm, rq⟩ : Pre h2'.size h2' h4 ∧ ∃ p m, p0 = some p ∧ h2'.size ≤ m ∧ RRD h2'.size m h4 b (some b) p := hx
  subst e
  refine ⟨trivial, unc1_i (s1 := .pt) ?_⟩
  have hs4 := g4.sz
  have hq1 := rq.ge
  have g04 : Pre h.size h h4 := g2.then g4 (by omega)
  have k2_4 := (g4.same b2 (by omega)).trans k2
  have k3_4 := (g4.same b3 (by omega)).trans hc3
  -- the kind
  refine CALLO_r (spec36 rq) (by simp) ?_
  rintro ⟨kd, ⟨⟩⟩ h5 hs5 g5 ⟨r5, hkd⟩
  refine unc1_i (s1 := .nt .u8) ?_
  simp only at hkd
  have st : ∀ {X Y : Heap}, Pre h.size h X → h4.size ≤ X.size → Chg (fun b => b = q.block) X Y → Pre h.size h Y := fun a b' c => a.trans (c.pre (fun i hi e => by omega) (by omega))
  have g05 := st g04 (Nat.le_refl _) g5
  have k2_5 := (g5.same b2 (by omega) (by omega)).trans k2_4
  have k3_5 := (g5.same b3 (by omega) (by omega)).trans k3_4
  -- the collection
  refine CALLO_r (spec37 r5) (by simp) ?_
  rintro ⟨cl, ⟨⟩⟩ h6 hs6 g6 ⟨r6, hcl⟩
  refine unc1_i (s1 := .tx) ?_
  simp only at hcl
  have g06 := st g05 (by omega) g6
  have k2_6 := (g6.same b2 (by omega) (by omega)).trans k2_5
  have k3_6 := (g6.same b3 (by omega) (by omega)).trans k3_5
  refine STNk (cs := Ce.cells ZE) k2_6 rfl rfl (by simp) fun h7 hs7 o7 k2_7 => ?_
  refine STNk k2_7 rfl rfl (by simp) fun h8 hs8 o8 k2_8 => ?_
  have k2_8 : h8[b2]? = some (.cells (Ce.cells ⟨kd, cl, ZC, ZC⟩).toArray 29 (0, 0)) := k2_8
  have o68 : ∀ c, c ≠ b2 → h8[c]? = h6[c]? := fun c hc => (o8 c hc).trans (o7 c hc)
  have k3_8 := (o68 b3 (by omega)).trans k3_6
  have g08 : Pre h.size h h8 := ⟨by have := g06.sz; omega, fun b hb => by rw [o68 b (by omega)]; exact g06.same b hb⟩
  have r6lt := r6.lt
  have r8 := r6.keep (h' := h8) (by omega) (fun b _ hb => o68 b (by omega)) (o68 _ (by omega))
  -- the key's bytes
  refine CALLO_r (spec37 r8) (by simp) ?_
  rintro ⟨kt, ⟨⟩⟩ h9 hs9 g9 ⟨r9, hkt⟩
  refine unc1_i (s1 := .tx) ?_
  simp only at hkt
  have g09 := st g08 (by omega) g9
  have k2_9 := (g9.same b2 (by omega) (by omega)).trans k2_8
  have k3_9 := (g9.same b3 (by omega) (by omega)).trans k3_8
  refine CALL_r (spec38 r9) (by simp) ?_
  rintro ⟨er, wh, ⟨⟩⟩ h10 hs10 g10 ⟨rfl, her⟩
  refine unc2_i (s1 := .nt .u16) (s2 := .nt .i64) ?_
  simp only at her
  -- what has been read
  generalize hs3 : ((txtP ((txtP ((u8P (some b)).map Prod.snd)).map Prod.snd)).map Prod.snd) = s3 at her r9
  have hnone : s3 = none → eDec b = none := fun e => by
    rw [dd]
    rw [e] at hs3
    cases h1 : u8P (some b) with
    | none => rfl
    | some x =>
      rw [h1] at hs3
      have hs3 : ((txtP ((ptxt x.2).map Prod.snd)).map Prod.snd) = none := hs3
      simp only [Option.bind_some]
      cases h2 : ptxt x.2 with
      | none => rfl
      | some y =>
        rw [h2] at hs3
        have hs3 : ((ptxt y.2).map Prod.snd) = none := hs3
        simp only [Option.bind_some]
        cases h3 : ptxt y.2 with
        | none => rfl
        | some z => rw [h3] at hs3; cases hs3
  have hsome : ∀ r2, s3 = some r2 → ∃ kc r0 coll r1 ktl, u8P (some b) = some (kc, r0) ∧ ptxt r0 = some (coll, r1) ∧ ptxt r1 = some (ktl, r2) := fun r2 e => by
    rw [e] at hs3
    cases h1 : u8P (some b) with
    | none => rw [h1] at hs3; cases hs3
    | some x =>
      rw [h1] at hs3
      have hs3 : ((txtP ((ptxt x.2).map Prod.snd)).map Prod.snd) = some r2 := hs3
      cases h2 : ptxt x.2 with
      | none => rw [h2] at hs3; cases hs3
      | some y =>
        rw [h2] at hs3
        have hs3 : ((ptxt y.2).map Prod.snd) = some r2 := hs3
        cases h3 : ptxt y.2 with
        | none => rw [h3] at hs3; cases hs3
        | some z => rw [h3] at hs3; cases hs3; exact ⟨x.1, x.2, y.1, y.2, z.1, rfl, h2, h3⟩
  refine must_r (fun hc => ?_) (fun hc => pan g09 k2_9 k3_9 (hnone ?_))
  rotate_left
  · cases hx : s3 with
    | none => rfl
    | some r => rw [hx] at her; have := her.2 rfl; rw [this] at hc; cases hc
  have her0 : er = 0 := by simpa using hc
  obtain ⟨r2, hr2⟩ : ∃ r2, s3 = some r2 := Option.isSome_iff_exists.1 (her.1 her0)
  obtain ⟨kc, r0, coll, r1, ktl, e1, e2, e3⟩ := hsome r2 hr2
  rw [hr2] at r9
  have hkd : kd = (kc.toNat : Int) := by rw [hkd, e1]; rfl
  have hcl : TX coll cl := by
    rw [e1] at hcl
    have : TX (((ptxt r0).map Prod.fst).getD []) cl := hcl
    rw [e2] at this; exact this
  have hkt : TX ktl kt := by
    rw [e1] at hkt
    have h1 : TX (((txtP ((ptxt r0).map Prod.snd)).map Prod.fst).getD []) kt := hkt
    rw [e2] at h1
    have h2 : TX (((ptxt r1).map Prod.fst).getD []) kt := h1
    rw [e3] at h2; exact h2
  have dd : eDec b = (dDec ktl).bind fun key => if kc = 1 then (dDec r2).bind fun doc => finE ⟨1, coll, key, doc⟩ else if r2 = [] then finE ⟨kc.toNat, coll, key, zeroV⟩ else none := by
    rw [dd, e1]
    simp only [Option.bind_some]
    rw [e2]
    simp only [Option.bind_some]
    rw [e3]; rfl
  clear hs3 hnone hsome her pan
  have pan : ∀ {X : Heap} {c : Ce} {x : Value}, Pre h.size h X → X[b2]? = some (.cells c.cells.toArray 29 (0, 0)) → X[b3]? = some (.cells #[x] 34 (0, 0)) → eDec b = none → _ := fun {X c x} gX q2 q3 hd =>
    dec_pan (Q := cur (flat EVL) fun x h' => Pre h.size h h' ∧ (∀ e, eDec b = some e → ∃ c : Ce, x = c.tt 0 ∧ EO h.size h'.size h' e c) ∧ (eDec b = none → x = Ce.tt ZE 210)) (by omega) (by omega) (by omega) gX q2 q3 fun h' g' => by
      rw [unc_cur]
      exact ⟨g', (fun e he => by rw [hd] at he; cases he), fun _ => rfl⟩
  -- the key
  have hvs := hkt.size
  have hvm := hkt.small
  refine ⟨by omega, fun cp hcp hcp2 => ?_⟩
  rw [bytesV_eq hkt.eq, hvs]
  have rb12 : RB (h10.size + 1) (h10.push (.cells (u8s ktl ++ List.replicate (cp - ktl.length) (Value.int .u8 0)).toArray 5 (cp, cp + 1))) ktl ⟨some ⟨h10.size, 0, none⟩, ktl.length, cp⟩ :=
    ⟨rfl, by show ktl.length ≤ cp; omega, hcp2, fun _ => ⟨⟨h10.size, 0, none⟩, rfl, by show h10.size < _; omega, fun i hi => by
      rw [cell_pushed, List.getElem?_append_left (by simp [u8s]; omega)]
      simp [u8s]⟩, fun a e _ => by cases e; show h10.size < _; omega⟩
  have g12 : Pre h10.size h10 (h10.push (.cells (u8s ktl ++ List.replicate (cp - ktl.length) (Value.int .u8 0)).toArray 5 (cp, cp + 1))) := (Pre.refl _ _).push (Nat.le_refl _) _
  have hs12 : (h10.push (.cells (u8s ktl ++ List.replicate (cp - ktl.length) (Value.int .u8 0)).toArray 5 (cp, cp + 1))).size = h10.size + 1 := by simp
  generalize h10.push (.cells (u8s ktl ++ List.replicate (cp - ktl.length) (Value.int .u8 0)).toArray 5 (cp, cp + 1)) = h12 at rb12 g12 hs12 ⊢
  have g012 : Pre h.size h h12 := g09.then g12 (by have := g09.sz; omega)
  have r9lt := r9.lt
  refine whole_r (n := h12.size) (Nat.le_refl _) (by omega) (hT.pre g012 h2) (rb12.mono (by omega)) (fun key x h13 g13 hdk okey => ?_) (fun h13 g13 hdk => pan (g012.then g13 (by omega)) ((g13.same b2 (by omega)).trans ((g12.same b2 (by omega)).trans k2_9)) ((g13.same b3 (by omega)).trans ((g12.same b3 (by omega)).trans k3_9)) (by rw [dd, hdk]; rfl))
  obtain ⟨y1, y2, y3, y4, y5, y6, y7, ⟨⟩⟩ := x
  refine unc7_i ?_
  generalize hcv : Cv.of (y1, y2, y3, y4, y5, y6, y7, ()) = ck at okey
  have hcv2 : [Value.int .u8 y1, .bool y2, .int .i64 y3, .string y4, y5.v, y6.v, y7.v] = ck.cells := by rw [← hcv]; rfl
  rw [hcv2]
  have hs13 := g13.sz
  have g013 : Pre h.size h h13 := g012.then g13 (by omega)
  have k2_13 := (g13.same b2 (by omega)).trans ((g12.same b2 (by omega)).trans k2_9)
  have k3_13 := (g13.same b3 (by omega)).trans ((g12.same b3 (by omega)).trans k3_9)
  have dd2 : eDec b = if kc = 1 then (dDec r2).bind fun doc => finE ⟨1, coll, key, doc⟩ else if r2 = [] then finE ⟨kc.toNat, coll, key, zeroV⟩ else none := by rw [dd, hdk]; rfl
  have wk := dDec_wt hdk
  refine STNm k2_13 (by simp) (by simp [oneC, Sl.v]) (by simp) fun h14 hs14 o14 k2_14 => ?_
  have k2_14 : h14[b2]? = some (.cells (Ce.cells ⟨kd, cl, ck, ZC⟩).toArray 29 (0, 0)) := k2_14
  have k3_14 := (o14 b3 (by omega)).trans k3_13
  have g014 : Pre h.size h h14 := ⟨by have := g013.sz; omega, fun b hb => by rw [o14 b (by omega)]; exact g013.same b hb⟩
  have r14 : RRD h2'.size m h14 b (some r2) q := r9.keep (by omega) (fun b _ hb => by rw [o14 b (by omega), g13.same b (by omega), g12.same b (by omega)]) (by rw [o14 _ (by omega), g13.same _ (by omega), g12.same _ (by omega)])
  have okey14 : OV h12.size h14.size h14 key ck := by rw [hs14]; exact OV.keep (fun b x y => o14 b (by omega)) _ _ okey
  -- the end
  intro k15 hk15
  have fin : ∀ (X : Heap) (sX : Option (List UInt8)) (c : Ce) (e : Ev) (mm : Nat), Pre h.size h X → h14.size ≤ X.size → X[b2]? = some (.cells c.cells.toArray 29 (0, 0)) → X[b3]? = some (.cells #[.int .u16 0] 34 (0, 0)) → RRD h2'.size m X b sX q →
      (eDec b = if sX = some [] then finE e else none) → wt e.key ≤ 2 ^ 30 → wt e.doc ≤ 2 ^ 30 → c.k = (e.k : Int) → e.k < 256 → TX e.coll c.coll → h12.size ≤ mm → mm ≤ X.size → OV h12.size mm X e.key c.key → OV mm X.size X e.doc c.doc → k15 X := fun X sX c e mm gX hsX q2 q3 rX hE w1 w2 a1 a2 a3 m1 m2 o1 o2 => by
    refine hk15 () X ?_
    intro k21 hk21
    refine CALL_r (spec42 rX) (by simp) ?_
    rintro ⟨z, ⟨⟩⟩ X2 hsX2 gX2 ⟨rfl, hz⟩
    simp only at hz
    refine COND_r (fun hc => ?_) (fun hc => ?_)
    · have hz0 : z = 0 := by simpa using hc
      rw [if_pos (hz.1 hz0)] at hE
      have re : RE X2.size X2 e c := ⟨a1, a2, a3, RV.mono m2 _ _ (OV.rv _ _ o1), OV.rv _ _ o2⟩
      refine LDN_E (c := c) q2 ?_
      refine CALL_r (spec25 (e := e) (c := c) (Nat.le_refl _) (by omega) (hT.pre gX h2) re w1 w2) (by simp) ?_
      rintro ⟨w, ⟨⟩⟩ Y hsY gY hw
      simp only at hw
      have gY' : Pre h.size h Y := gX.then gY (by omega)
      have q2Y := (gY.same b2 (by omega)).trans q2
      have q3Y := (gY.same b3 (by omega)).trans q3
      refine must_r (fun hc => ?_) (fun hc => pan gY' q2Y q3Y ?_)
      rotate_left
      · have hm : ¬ mayP e := fun m => by have := hw.2 m; rw [this] at hc; cases hc
        rw [hE]; unfold finE; rw [if_neg hm]
      have hm : mayP e := hw.1 hc
      have hE2 : eDec b = some e := by rw [hE]; unfold finE; rw [if_pos hm]
      refine hk21 () Y ?_
      refine LDN_E (c := c) q2Y ?_
      refine STNm q2Y (by simp) (by simp [oneC, Sl.v]) (by simp) fun Z hsZ oZ q2Z => ?_
      have q2Z : Z[b2]? = some (.cells c.cells.toArray 29 (0, 0)) := by rw [q2Z]; rfl
      refine STN1 (h := Z) (b := b3) (old := .int .u16 0) (t := 34) (by rw [oZ _ (by omega)]; exact q3Y) rfl (by simp) fun W hsW oW q3W => ?_
      refine LEAVE_ret fun U hsU oU => ?_
      refine LDN_E (c := c) (by rw [oU _ (by omega), oW _ (by omega)]; exact q2Z) ?_
      refine LD1 (s := .nt .u16) (x := (0 : Int)) (t := 34) (f := (0, 0)) (by rw [oU _ (by omega)]; exact q3W) (fun _ e => by rw [e]) ?_
      have oYU : ∀ b, b < Y.size → b ≠ b2 → b ≠ b3 → U[b]? = Y[b]? := fun b x y z => by rw [oU b (by omega), oW b z, oZ b y]
      refine ⟨⟨by have := gY'.sz; omega, fun b hb => by rw [oYU b (by have := gY'.sz; omega) (by omega) (by omega)]; exact gY'.same b hb⟩, fun e' he => ?_, fun he => by rw [hE2] at he; cases he⟩
      rw [hE2] at he
      cases he
      have keep : ∀ b, h12.size ≤ b → b < X2.size → U[b]? = X2[b]? := fun b x y => by rw [oYU b (by omega) (by omega) (by omega), gY.same b y]
      exact ⟨c, rfl, a1, a2, a3, mm, by have := g012.sz; omega, by omega, (OV.keep (fun b x y => keep b x (by omega)) _ _ o1).lo (by have := g012.sz; omega), OV.hi (by omega) (OV.keep (fun b x y => keep b (by omega) y) _ _ o2)⟩
    · have hz0 : ¬ z = 0 := by simpa using hc
      rw [if_neg fun e => hz0 (hz.2 e)] at hE
      exact must_r (fun h => by cases h) (fun _ => pan gX q2 q3 hE)
  refine LDk (s := .nt .u8) (x := kd) k2_14 rfl (fun _ e => by rw [e]) ?_
  have ekd : (kd == 1) = (kc == 1) := by rw [hkd]; exact u8eq kc 1 (by decide)
  rw [ekd]
  refine COND_r (fun hc => ?_) (fun hc => ?_)
  · have hk1 : kc = 1 := by simpa using hc
    subst hk1
    have dd3 : eDec b = (dDec r2).bind fun doc => finE ⟨1, coll, key, doc⟩ := by rw [dd2]; rfl
    have hsm := r14.small
    refine CALL_r (spec41 r14) (by simp) ?_
    rintro ⟨lf, ⟨⟩⟩ h17 hs17 g17 ⟨rfl, hlf⟩
    refine unc1_i (s1 := .nt .i64) ?_
    simp only at hlf
    subst hlf
    refine CALLO_r (spec40 (k := r2.length) r14 (by omega)) (by simp) ?_
    rintro ⟨raw, ⟨⟩⟩ h18 hs18 g18 ⟨r18, b18⟩
    refine unc1s_i ?_
    have etk : takeP (some r2) r2.length = some (r2, []) := by simp [takeP]
    rw [etk] at r18 b18
    have r18 : RRD h2'.size m h18 b (some []) q := r18
    have b18 : BUF h17.size h18 r2 raw := b18
    have g018 : Pre h.size h h18 := st g014 (by omega) g18
    have k2_18 := (g18.same b2 (by omega) (by omega)).trans k2_14
    have k3_18 := (g18.same b3 (by omega) (by omega)).trans k3_14
    refine whole_r (n := h18.size) (Nat.le_refl _) (by omega) (hT.pre g018 h2) b18.rb (fun doc x h19 g19 hdd odoc => ?_) (fun h19 g19 hdd => pan (g018.then g19 (by have := g018.sz; omega)) ((g19.same b2 (by omega)).trans k2_18) ((g19.same b3 (by omega)).trans k3_18) (by rw [dd3, hdd]; rfl))
    obtain ⟨y1, y2, y3, y4, y5, y6, y7, ⟨⟩⟩ := x
    refine unc7_i ?_
    generalize hcv : Cv.of (y1, y2, y3, y4, y5, y6, y7, ()) = cd at odoc
    have hcv2 : [Value.int .u8 y1, .bool y2, .int .i64 y3, .string y4, y5.v, y6.v, y7.v] = cd.cells := by rw [← hcv]; rfl
    rw [hcv2]
    have hs19 := g19.sz
    have g019 : Pre h.size h h19 := g018.then g19 (by have := g018.sz; omega)
    have wd := dDec_wt hdd
    refine STNm ((g19.same b2 (by omega)).trans k2_18) (by simp) (by simp [oneC, Sl.v]) (by simp) fun h20 hs20 o20 k2_20 => ?_
    have k2_20 : h20[b2]? = some (.cells (Ce.cells ⟨kd, cl, ck, cd⟩).toArray 29 (0, 0)) := k2_20
    refine fin h20 (some []) ⟨kd, cl, ck, cd⟩ ⟨1, coll, key, doc⟩ h17.size ⟨by have := g019.sz; omega, fun b hb => by rw [o20 b (by omega)]; exact g019.same b hb⟩ (by omega) k2_20 ((o20 b3 (by omega)).trans ((g19.same b3 (by omega)).trans k3_18))
      (r18.keep (by omega) (fun b _ hb => by rw [o20 b (by omega), g19.same b (by omega)]) (by rw [o20 _ (by omega), g19.same _ (by omega)])) ?_ (by show wt key ≤ _; omega) (by show wt doc ≤ _; omega) hkd (by show (1 : Nat) < 256; decide) hcl (by omega) (by omega) ?_ ?_
    · rw [if_pos rfl, dd3, hdd]; rfl
    · exact OV.keep (fun b x y => by rw [o20 b (by omega), g19.same b (by omega), g18.same b y (by omega)]) _ _ okey14
    · rw [hs20]
      exact (OV.keep (fun b x y => o20 b (by omega)) _ _ odoc).lo (by omega)
  · have hk1 : ¬ kc = 1 := by simpa using hc
    refine fin h14 (some r2) ⟨kd, cl, ck, ZC⟩ ⟨kc.toNat, coll, key, zeroV⟩ h14.size g014 (Nat.le_refl _) k2_14 k3_14 r14 ?_ (by show wt key ≤ _; omega) (by show wt zeroV ≤ _; decide) hkd kc.toNat_lt hcl (by omega) (Nat.le_refl _) okey14 (OV.zero (Nat.le_refl _))
    rw [dd2, if_neg hk1]
    by_cases h : r2 = []
    · subst h; rfl
    · rw [if_neg h, if_neg fun e => h (Option.some.inj e)]

end Go.VK
