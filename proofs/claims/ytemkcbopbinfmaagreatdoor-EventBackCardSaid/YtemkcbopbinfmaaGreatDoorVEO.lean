/- Contracts: an event out of bytes (doc.Decode, event.Decode). -/
import Derived.Test.YtemkcbopbinfmaaGreatDoorVEN
set_option linter.all false
namespace Go.VK
open Go Go.Proofs
set_option maxRecDepth 100000
set_option linter.unusedSimpArgs false
set_option linter.unusedVariables false

theorem CALL_of_k {P : Program} (hP : NoNG P) {f : FuncId} {fn : Func} (hf : P.funcs[f]? = some fn) {pl : Plan} {ps : List Lay} {h : Heap} {Z : List PanicEntry → Heap → Prop} {R : List Lay} {K : Cur (flat R) (Heap → Prop)} (x : TT (flat ps))
    (hR : fn.resultTypes.toList.map (layOf P) = R) {q : Prop} (hq : q = unc _ (WPF P Z fn pl ps h (hR ▸ K)) x) (hh : q) : CALL P Z f (parts ps (vals _ x)) R h [] K := by
  subst hR
  exact WPF_ok hP hf x (cast hq hh)

abbrev BAD : PanicEntry := ⟨.iface 85 (.agg #[]), false, false⟩

/-- must -/
theorem must_r {Z : List PanicEntry → Heap → Prop} {b : Bool} {h : Heap} {bs : List Nat} {K : Heap → Prop} (k1 : b = true → K h) (k2 : b = false → Z [BAD] h) : CALL P Z 34 [.bool b] [] h bs K := by
  have c : CALL P (fun c h' => c = [BAD] ∧ h' = h ∧ b = false) 34 [.bool b] [] h [] (fun h' => h' = h ∧ b = true) := by
    refine CALL_of_k noNG Tryz.func34 (pl := pl34) (ps := [.one .bl]) (b, ()) (by kernel_rfl) (q := q34 (fun c h' => c = [BAD] ∧ h' = h ∧ b = false) b h (fun h' => h' = h ∧ b = true)) (by kernel_rfl) ?_
    unfold q34
    exact COND_r (fun hc => ⟨rfl, rfl, by simpa using hc⟩) (fun hc => ⟨rfl, by simpa using hc⟩)
  refine CALL.mono c (fun x h' hx => ?_) (fun c h' hz => ?_)
  · obtain ⟨rfl, hb⟩ := hx
    exact ⟨KEEP_of fun _ _ => rfl, k1 hb⟩
  · obtain ⟨rfl, rfl, hb⟩ := hz
    exact k2 hb

theorem plist_wtL {d : Nat} (hf : ∀ r v r', pval d r = some (v, r') → wt v + r'.length ≤ r.length) : ∀ (n : Nat) (r : List UInt8) (l : List V) (r' : List UInt8), plist (pval d) n r = some (l, r') → wtL l + r'.length ≤ r.length
  | 0, r, l, r', h => by simp only [plist] at h; cases h; simp [wtL]
  | n + 1, r, l, r', h => by
    simp only [plist] at h
    cases hv : pval d r with
    | none => rw [hv] at h; cases h
    | some x =>
      obtain ⟨v, r1⟩ := x
      rw [hv] at h
      simp only [Option.bind_some] at h
      cases hp : plist (pval d) n r1 with
      | none => rw [hp] at h; cases h
      | some y =>
        obtain ⟨l1, r2⟩ := y
        rw [hp] at h
        cases h
        have := hf _ _ _ hv
        have := plist_wtL hf n r1 l1 r2 hp
        show wt v + wtL l1 + r2.length ≤ r.length
        omega
theorem plist_wtF {d : Nat} (hf : ∀ r v r', pval d r = some (v, r') → wt v + r'.length ≤ r.length) : ∀ (n : Nat) (r : List UInt8) (l : List (List UInt8 × V)) (r' : List UInt8), plist (pfld (pval d)) n r = some (l, r') → wtF l + r'.length ≤ r.length
  | 0, r, l, r', h => by simp only [plist] at h; cases h; simp [wtF]
  | n + 1, r, l, r', h => by
    simp only [plist] at h
    cases hv : pfld (pval d) r with
    | none => rw [hv] at h; cases h
    | some x =>
      obtain ⟨⟨nm, v⟩, r1⟩ := x
      rw [hv] at h
      simp only [Option.bind_some] at h
      cases hp : plist (pfld (pval d)) n r1 with
      | none => rw [hp] at h; cases h
      | some y =>
        obtain ⟨l1, r2⟩ := y
        rw [hp] at h
        cases h
        have h9 := plist_wtF hf n r1 l1 r2 hp
        unfold pfld at hv
        cases ht : ptxt r with
        | none => rw [ht] at hv; cases hv
        | some z =>
          obtain ⟨nm', r3⟩ := z
          rw [ht] at hv
          simp only [Option.bind_some] at hv
          cases hv2 : pval d r3 with
          | none => rw [hv2] at hv; cases hv
          | some z2 =>
            obtain ⟨v2, r4⟩ := z2
            rw [hv2] at hv
            cases hv
            have := ptxt_len ht
            have := hf _ _ _ hv2
            have : nm.length / 64 ≤ nm.length := Nat.div_le_self _ _
            have h9' : wtF l1 + r2.length ≤ r4.length := h9
            show nm.length / 64 + wt v2 + wtF l1 + r2.length ≤ r.length
            omega

theorem pval_wt : ∀ (d : Nat) (r : List UInt8) (v : V) (r' : List UInt8), pval d r = some (v, r') → wt v + r'.length ≤ r.length
  | 0, _, _, _, h => by cases h
  | d + 1, [], _, _, h => by cases h
  | d + 1, tag :: r, v, r', h => by
    simp only [pval] at h
    have dv : ∀ x : Nat, x / 64 ≤ x := fun x => Nat.div_le_self _ _
    split at h
    · cases h; simp [wt, wtL, wtF]; omega
    split at h
    · cases h; simp [wt, wtL, wtF]; omega
    split at h
    · cases hp : pvar r with
      | none => rw [hp] at h; cases h
      | some x => obtain ⟨w, r1⟩ := x; rw [hp] at h; cases h; have := pvGo_len _ _ _ _ _ hp; simp [wt, wtL, wtF]; omega
    split at h
    · cases hp : ptxt r with
      | none => rw [hp] at h; cases h
      | some x => obtain ⟨w, r1⟩ := x; rw [hp] at h; cases h; have := ptxt_len hp; have := dv w.length; simp [wt, wtL, wtF]; omega
    split at h
    · cases hp : ptxt r with
      | none => rw [hp] at h; cases h
      | some x => obtain ⟨w, r1⟩ := x; rw [hp] at h; cases h; have := ptxt_len hp; have := dv w.length; simp [wt, wtL, wtF]; omega
    split at h
    · cases hp : pvar r with
      | none => rw [hp] at h; cases h
      | some x =>
        obtain ⟨w, r1⟩ := x
        rw [hp] at h
        have := pvGo_len _ _ _ _ _ hp
        simp only [Option.bind_some] at h
        cases hl : plist (pval d) w r1 with
        | none => rw [hl] at h; cases h
        | some y => obtain ⟨l, r2⟩ := y; rw [hl] at h; cases h; have := plist_wtL (pval_wt d) _ _ _ _ hl; simp [wt, wtL, wtF]; omega
    split at h
    · cases hp : pvar r with
      | none => rw [hp] at h; cases h
      | some x =>
        obtain ⟨w, r1⟩ := x
        rw [hp] at h
        have := pvGo_len _ _ _ _ _ hp
        simp only [Option.bind_some] at h
        cases hl : plist (pfld (pval d)) w r1 with
        | none => rw [hl] at h; cases h
        | some y => obtain ⟨l, r2⟩ := y; rw [hl] at h; cases h; have := plist_wtF (pval_wt d) _ _ _ _ hl; simp [wt, wtL, wtF]; omega
    · cases h

/-- doc.Decode -/
def dDec (b : List UInt8) : Option V := if 8192 < b.length then none else match pval 9 b with
  | some (v, []) => if chk v = 0 then some v else none
  | _ => none

theorem dDec_wt {b : List UInt8} {v : V} (h : dDec b = some v) : wt v ≤ 8192 := by
  unfold dDec at h
  split at h
  · cases h
  · rename_i hl
    split at h
    · rename_i v' hp
      split at h
      · cases h
        have := pval_wt _ _ _ _ hp
        simp at this; omega
      · cases h
    · cases h

theorem spec94 {n : Nat} {h : Heap} {b : List UInt8} {s : Sl} (hn : n ≤ h.size) (h2 : 2 ≤ h.size) (hT : Tabs h) (rb : RB n h b s) :
    SPEC P 94 [s.v] [.agg [.nt .u8, .bl, .nt .i64, .tx, .sl, .sl, .sl], .one (.nt .u16)] h h.size fun x h' =>
      (∀ v, dDec b = some v → x.2.2.2.2.2.2.2.1 = 0 ∧ OV h.size h'.size h' v ⟨x.1, x.2.1, x.2.2.1, x.2.2.2.1, x.2.2.2.2.1, x.2.2.2.2.2.1, x.2.2.2.2.2.2.1⟩) ∧
      (dDec b = none → x = (0, false, 0, ByteArray.empty, NIL, NIL, NIL, 50, ())) := by
  refine SPEC_of_k noNG Tryz.func94 (pl := pl94) (ps := [.one .sl]) (s, ()) (by kernel_rfl) (q94 (fun _ _ => False) s h) (by kernel_rfl) ?_
  unfold q94
  have bl := rb.len
  refine ALLOC_r (.refl h.size h) (Nat.le_refl _) fun b2 h1 hb2 hs1 g1 _ hc2 => ?_
  refine COND_r (fun hc => ?_) (fun hc => ?_)
  · have hc : (s.len : Int) > 8192 := by simpa using hc
    have hd : dDec b = none := by unfold dDec; rw [if_pos (by omega)]
    refine PUTN_r g1 (by omega) (by simp [oneC]) fun h3 hs3 g3 _ => ⟨g3, (fun v e => by rw [hd] at e; cases e), fun _ => rfl⟩
  have hc : ¬ (s.len : Int) > 8192 := by simpa using hc
  have hbl : ¬ 8192 < b.length := by omega
  refine CALL_r (spec35 (rb.pre g1 hn) (by omega) (by omega)) (kb1 (by omega)) ?_
  rintro ⟨p0, ⟨⟩⟩ h3 hs3 g3 ⟨q, m, e, hm, rq⟩
  simp only at e
  subst e
  refine unc1_i (s1 := .pt) ?_
  have g03 : Pre h.size h h3 := g1.then g3 (by omega)
  have hq1 := rq.ge
  have hq2 := rq.lt
  refine ALLOC_r g03 (by omega) fun b13 h4 hb13 hs4 g4 g34 hc13 => ?_
  have hcell := LDN_known hc13
  have dr : DRD h1.size m h4 b (some b) ⟨b13, 0, none⟩ q := by
    refine ⟨by show m ≤ b13; omega, by show b13 < _; omega, by show b13 ≠ _; omega, ?_, false, some b, hcell 0 (by simp), hcell 1 (by simp), rq.keep (by omega) (fun b _ hb => g34.same b (by omega)) (g34.same _ hq2), nofun, fun _ => rfl⟩
    unfold frz; rw [add_block]; simp only [hc13]; simp
  refine CALLO_r (spec134 9 (some b) h4 (by decide) dr) (kb1 ⟨by omega, fun e => e.elim (fun e => by have e : b2 = b13 := e; omega) (fun e => by omega)⟩) ?_
  rintro ⟨y1, y2, y3, y4, y5, y6, y7, ⟨⟩⟩ h5 hs5 g5 ⟨r5, hv5⟩
  refine unc7_i ?_
  generalize hcv : Cv.of (y1, y2, y3, y4, y5, y6, y7, ()) = cv at hv5
  have hcv2 : [Value.int .u8 y1, .bool y2, .int .i64 y3, .string y4, y5.v, y6.v, y7.v] = cv.cells := by rw [← hcv]; rfl
  have hcv3 : (Value.agg #[Value.int .u8 y1, .bool y2, .int .i64 y3, .string y4, y5.v, y6.v, y7.v]) = cv.v := by rw [← hcv]; rfl
  rw [hcv2]
  have hpb : (some b).bind (pval 9) = pval 9 b := rfl
  rw [hpb] at r5 hv5
  have g05 : Pre h.size h h5 := g4.trans (g5.pre (fun i hi e => e.elim (fun e => by have e : i = b13 := e; omega) (fun e => by omega)) (by omega))
  refine ALLOC_r g05 (by omega) fun b5 h6 hb5 hs6 g6 g56 hc5 => ?_
  refine PUTN_r g6 (by omega) (by simp [oneC, Sl.v]) fun h7 hs7 g7 k7 => ?_
  have r7 : DRD h1.size m h7 b ((pval 9 b).map Prod.snd) ⟨b13, 0, none⟩ q := r5.keep (by omega) fun b hb => by rw [k7 _ (by omega), g56.same _ hb]
  obtain ⟨bad, st', c0, c1, rr, e1, e2⟩ := r7.ex
  have kb25 : ∀ {m : Nat}, h7.size ≤ m → ∀ b ∈ [b2, b5], b < m := fun hm => kb2 (by omega) (by omega)
  have out : ∀ X, Pre h.size h X → dDec b = none → PUTN b2 [.int .u8 0, .bool false, .int .i64 0, .string ByteArray.empty, .slice none 0 0, .slice none 0 0, .slice none 0 0] 0 X fun h12 =>
      (cur (flat [.agg [.nt .u8, .bl, .nt .i64, .tx, .sl, .sl, .sl], .one (.nt .u16)]) fun x h' => Pre h.size h h' ∧ (∀ v, dDec b = some v → x.2.2.2.2.2.2.2.1 = 0 ∧ OV h.size h'.size h' v ⟨x.1, x.2.1, x.2.2.1, x.2.2.2.1, x.2.2.2.2.1, x.2.2.2.2.2.1, x.2.2.2.2.2.2.1⟩) ∧
      (dDec b = none → x = (0, false, 0, ByteArray.empty, NIL, NIL, NIL, 50, ())) : Cur (flat [.agg [.nt .u8, .bl, .nt .i64, .tx, .sl, .sl, .sl], .one (.nt .u16)]) (Heap → Prop)) 0 false 0 ByteArray.empty NIL NIL NIL 50 h12 := fun X gX hd =>
    PUTN_r gX (by omega) (by simp [oneC]) fun h3 hs3 g3 _ => ⟨g3, (fun v e => by rw [hd] at e; cases e), fun _ => rfl⟩
  have dd : dDec b = match pval 9 b with
    | some (v, []) => if chk v = 0 then some v else none
    | _ => none := by unfold dDec; rw [if_neg hbl]
  intro k8 hk8
  have no : ∀ X, Pre h.size h X → dDec b = none → k8 true X := fun X gX hd => hk8 (true, ()) X (COND_r (fun _ => out X gX hd) (fun h => by cases h))
  refine LDc (s := .bl) (x := bad) c1 ?_
  refine COND_r (fun hc => no h7 g7 ?_) (fun hc => ?_)
  · have : (pval 9 b).map Prod.snd = none := e1 hc
    rw [dd]
    cases hp : pval 9 b with
    | none => rfl
    | some x => rw [hp] at this; cases this
  have est := e2 hc
  refine LDc (s := .pt) (x := some q) c0 ?_
  refine CALL_r (spec42 rr) (kb25 (Nat.le_refl _)) ?_
  rintro ⟨z, ⟨⟩⟩ X hsX gX ⟨rfl, hz⟩
  simp only at hz
  rw [← est] at hz
  refine COND_r (fun hc2 => no X g7 ?_) (fun hc2 => ?_)
  · have hz0 : ¬ z = 0 := by simpa using hc2
    rw [dd]
    cases hp : pval 9 b with
    | none => rfl
    | some x =>
      obtain ⟨v, r⟩ := x
      cases r with
      | nil => rw [hp] at hz; exact absurd (hz.2 rfl) hz0
      | cons c r => rfl
  have hz0 : z = 0 := by simpa using hc2
  have hps := hz.1 hz0
  obtain ⟨v, hp⟩ : ∃ v, pval 9 b = some (v, []) := by
    cases hp : pval 9 b with
    | none => rw [hp] at hps; cases hps
    | some x => obtain ⟨v, r⟩ := x; rw [hp] at hps; cases hps; exact ⟨v, rfl⟩
  have hwt := pval_wt _ _ _ _ hp
  simp only [List.length_nil, Nat.add_zero] at hwt
  have rvs := hv5 v [] hp
  have gX5 : Pre h5.size h5 X := ⟨by omega, fun b hb => by rw [k7 _ (by omega), g56.same _ hb]⟩
  have rv7 : RV h5.size X v cv := RV.pre gX5 (Nat.le_refl _) _ _ (RVS.rv _ _ rvs)
  refine CALL_r (spec84 (n := h5.size) (by omega) (by omega) (hT.pre g7 h2) rv7 (by omega)) (kb25 (Nat.le_refl _)) ?_
  rintro ⟨w, ⟨⟩⟩ Y hsY gY hw
  simp only at hw
  subst hw
  have gY' : Pre h.size h Y := g7.then gY (by omega)
  have dd2 : dDec b = if chk v = 0 then some v else none := by rw [dd, hp]
  by_cases hk : chk v = 0
  · refine hk8 (((chk v : Nat) : Int) != 0, ()) Y ?_
    refine COND_r (fun hc => absurd hc (by simp [hk])) (fun _ => ?_)
    refine CALL_r (spec128 v cv Y (by omega) (RV.pre gY (by omega) _ _ rv7) (by omega)) (kb25 hsY) ?_
    rintro ⟨y1, y2, y3, y4, y5, y6, y7, ⟨⟩⟩ W hsW gW ov
    refine unc7_i ?_
    have gW' : Pre h.size h W := gY'.then gW (by omega)
    refine PUTN_r gW' (by omega) (by simp [oneC, Sl.v]) fun U usz gU kU => ⟨gU, fun v' e => ?_, fun e => by rw [dd2, if_pos hk] at e; cases e⟩
    rw [dd2, if_pos hk] at e
    cases e
    refine ⟨rfl, ?_⟩
    have := (OV.keep (fun b x y => kU b (by omega)) _ _ ov).lo (lo' := h.size) (by omega)
    rw [← usz] at this
    exact this
  · have hd : dDec b = none := by rw [dd2, if_neg hk]
    have e : (((chk v : Nat) : Int) != 0) = true := by simp; omega
    show k8 (((chk v : Nat) : Int) != 0) Y
    rw [e]
    exact no Y gY' hd

theorem unc8e_i {K : Cur (flat [.agg [.nt .u8, .bl, .nt .i64, .tx, .sl, .sl, .sl], .one (.nt .u16)]) (Heap → Prop)} {a : Int} {b : Bool} {i : Int} {t : ByteArray} {x y z : Sl} {w : Int} {h : Heap} (k : K a b i t x y z w h) :
    unc (flat [.agg [.nt .u8, .bl, .nt .i64, .tx, .sl, .sl, .sl], .one (.nt .u16)]) K (a, b, i, t, x, y, z, w, ()) h := k

mutual
theorem OV.hi {lo hi hi' : Nat} {h : Heap} (hh : hi ≤ hi') : ∀ {v : V} {c : Cv}, OV lo hi h v c → OV lo hi' h v c
  | .mk k b i t bs l f, c, ⟨h1, h2, m1, m2, m3, m4, ⟨q1, q2, q3, q4, q5⟩, ⟨h0, h3⟩, ⟨h4, h5⟩, h6, h7⟩ =>
    ⟨h1, h2, m1, m2, m3, m4, ⟨q1, q2, q3, q4, by omega⟩, ⟨h0, h3.mono hh⟩, ⟨h4, h5⟩, h6, OF.hi hh f () _ h7⟩
theorem OF.hi {lo hi hi' : Nat} {h : Heap} (hh : hi ≤ hi') : {a : Option Addr} → ∀ (l : List (List UInt8 × V)) (_ : Unit) (i : Nat), OF lo hi h l a i → OF lo hi' h l a i
  | _, [], _, _, x => Nat.le_trans x hh
  | _, (nm, v) :: r, _, i, ⟨m, q1, q2, h1, h6⟩ => ⟨m, q1, by omega, h1, OF.hi hh r () (i + 1) h6⟩
end

/-- whole -/
theorem whole_r {Z : List PanicEntry → Heap → Prop} {n : Nat} {h : Heap} {b : List UInt8} {s : Sl} {K : Cur (flat VT) (Heap → Prop)} (hn : n ≤ h.size) (h2 : 2 ≤ h.size) (hT : Tabs h) (rb : RB n h b s)
    (k1 : ∀ v x h', Pre h.size h h' → dDec b = some v → OV h.size h'.size h' v (Cv.of x) → unc _ K x h') (k2 : ∀ h', Pre h.size h h' → dDec b = none → Z [BAD] h') : CALL P Z 39 [s.v] VT h [] K := by
  refine CALL_of_k noNG Tryz.func39 (pl := pl39) (ps := [.one .sl]) (s, ()) (by kernel_rfl) (q := q39 Z s h K) (by kernel_rfl) ?_
  unfold q39
  refine ALLOC_r (.refl h.size h) (Nat.le_refl _) fun b2 h1 hb2 hs1 g1 _ hc2 => ?_
  refine CALL_r (spec94 (n := n) (by omega) (by omega) (hT.pre g1 h2) (rb.pre g1 hn)) (kb1 (by omega)) ?_
  rintro ⟨y1, y2, y3, y4, y5, y6, y7, y8, ⟨⟩⟩ X hsX gX ⟨q1, q2⟩
  refine unc8e_i ?_
  simp only at q1
  have g : Pre h.size h X := g1.then gX (by omega)
  refine ALLOC_r g (by omega) fun b3 h3 hb3 hs3 g3 g3' _ => ?_
  refine PUTN_r g3 (by omega) (by simp [oneC, Sl.v]) fun h4 hs4 g4 k4 => ?_
  cases hd : dDec b with
  | none =>
    have := q2 hd
    have e8 : y8 = 50 := congrArg (fun x : TT (flat [.agg [.nt .u8, .bl, .nt .i64, .tx, .sl, .sl, .sl], .one (.nt .u16)]) => x.2.2.2.2.2.2.2.1) this
    subst e8
    exact must_r (fun h => by cases h) (fun _ => k2 h4 g4 hd)
  | some v =>
    obtain ⟨e8, ov⟩ := q1 v hd
    subst e8
    refine must_r (fun _ => ?_) (fun h => by cases h)
    refine PUTN_r g4 (by omega) (by simp [oneC, Sl.v]) fun h6 hs6 g6 k6 => ?_
    refine k1 v (y1, y2, y3, y4, y5, y6, y7, ()) h6 g6 hd ?_
    have := (OV.keep (h' := h6) (fun b x y => by rw [k6 _ (by omega), k4 _ (by omega), g3'.same _ y]) _ _ ov).lo (lo' := h.size) (by omega)
    refine OV.hi (by omega) this

end Go.VK
