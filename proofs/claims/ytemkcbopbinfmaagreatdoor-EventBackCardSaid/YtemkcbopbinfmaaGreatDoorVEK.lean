/- Contracts: a reader's functions. -/
import Derived.Test.YtemkcbopbinfmaaGreatDoorVEJ
set_option linter.all false
namespace Go.VK
open Go Go.Proofs
set_option maxRecDepth 100000
set_option linter.unusedSimpArgs false
set_option linter.unusedVariables false

theorem SPECO_of_k {P : Program} (hP : NoNG P) {f : FuncId} {fn : Func} (hf : P.funcs[f]? = some fn) {pl : Plan} {ps : List Lay} {h : Heap} {O : Nat → Prop} {R : List Lay} {Q : TT (flat R) → Heap → Prop} (x : TT (flat ps))
    (hR : fn.resultTypes.toList.map (layOf P) = R) (q : Cur (flat R) (Heap → Prop) → Prop)
    (hq : (fun Q => q Q) = fun Q : Cur (flat R) (Heap → Prop) => unc _ (WPF P (fun _ _ => False) fn pl ps h (hR ▸ Q)) x)
    (hh : q (cur _ fun x h' => Chg O h h' ∧ Q x h')) : SPECO P f (parts ps (vals _ x)) R h O Q :=
  SPECO_of hP hf x hR q (fun Q h => cast (congrFun hq Q) h) hh

theorem unc3_i {s1 s2 s3 : Sh} {K : Cur [s1, s2, s3] (Heap → Prop)} {a : s1.T} {b : s2.T} {c : s3.T} {h : Heap} (k : K a b c h) : unc [s1, s2, s3] K (a, b, c, ()) h := k

theorem pvGo_lt : ∀ (b : List UInt8) (i acc v : Nat) (r : List UInt8), pvGo i acc b = some (v, r) → i ≤ 9 → acc < 2 ^ (7 * i) → v < 2 ^ 64
  | [], _, _, _, _, h, _, _ => by cases h
  | c :: b, i, acc, v, r, h, hi, ha => by
    simp only [pvGo] at h
    split at h
    · cases h
    · rename_i hc
      have h9 : i = 9 → c = 1 := fun h => by
        by_cases h2 : c = 1
        · exact h2
        · exact absurd (.inl ⟨h, h2⟩) hc
      split at h
      · rename_i h128
        cases h
        exact pv_64 ha h128 hi fun e => by rw [h9 e]; rfl
      · rename_i h128
        have hlt := c.toNat_lt
        have hi8 : i < 9 := by
          rcases Nat.lt_or_eq_of_le hi with h | h
          · exact h
          · exfalso; apply h128; rw [h9 h]; decide
        exact pvGo_lt b _ _ v r h (by omega) (pv_sum ha (by omega))

theorem pvar_lt {b : List UInt8} {v : Nat} {r : List UInt8} (h : pvar b = some (v, r)) : v < 2 ^ 64 := pvGo_lt b 0 0 v r h (by decide) (by decide)

theorem pvGo_drop : ∀ (b : List UInt8) (i acc v : Nat) (r : List UInt8), pvGo i acc b = some (v, r) → r = b.drop (b.length - r.length)
  | [], _, _, _, _, h => by cases h
  | c :: b, i, acc, v, r, h => by
    simp only [pvGo] at h
    split at h
    · cases h
    · split at h
      · cases h; simp
      · have h1 := pvGo_drop b _ _ v r h
        have h2 := pvGo_len b _ _ v r h
        have e : (c :: b).length - r.length = (b.length - r.length) + 1 := by simp; omega
        rw [e, List.drop_succ_cons]; exact h1

def vintP (st : Option (List UInt8)) : Option (Nat × List UInt8) := st.bind pvar

/-- Varint -/
theorem spec92 {lo n : Nat} {h : Heap} {B : List UInt8} {st : Option (List UInt8)} {p : Addr} (r : RRD lo n h B st p) :
    SPECO P 92 [.pointer (some p)] [.one (.nt .u64)] h (fun b => b = p.block) fun x h' => RRD lo n h' B ((vintP st).map Prod.snd) p ∧ x.1 = ((((vintP st).map Prod.fst).getD 0 : Nat) : Int) := by
  refine SPECO_of_k noNG Tryz.func92 (pl := pl92) (ps := [.one .pt]) (some p, ()) (by kernel_rfl) (q92 (fun _ _ => False) (some p) h) (by kernel_rfl) ?_
  unfold q92
  have r0 := r
  obtain ⟨s, at_, err, wh, c0, c1, c2, c3, f, ⟨rb, rlo⟩, r1, r2, r3, r4, r5⟩ := r.ex
  have bl := rb.len
  have bc := rb.cap
  have bs := rb.small
  have hpl := r0.lt
  refine ⟨p, rfl, LDc (s := .nt .u16) c2 ?_⟩
  refine COND_r (fun hc => ?_) (fun hc => ?_)
  · have he : err ≠ 0 := by
      have : ¬ (err : Int) = 0 := by simpa using hc
      omega
    have hst : st = none := by
      cases st with
      | none => rfl
      | some rest => exact absurd (r4 rest rfl).1 he
    subst hst
    exact ⟨.refl _ _, r0, rfl⟩
  have he : err = 0 := by
    have : (err : Int) = 0 := by simpa using hc
    omega
  obtain ⟨rest, hst⟩ : ∃ rest, st = some rest := by
    cases st with
    | none => exact absurd he (r5 rfl)
    | some rest => exact ⟨rest, rfl⟩
  subst hst
  have hrest := (r4 rest rfl).2
  have hrl : rest.length = B.length - at_ := by rw [hrest]; simp
  have S1 : ∀ (k : Nat) (sh : Sh) (v : sh.T), cell h (p.add k) = some (sh.v v) → ∀ h', Pre h.size h h' → cell h' (p.add k) = some (sh.v v) := fun k sh v hc h' g => by rw [g.cell (by rw [add_block]; exact hpl)]; exact hc
  refine DRAW_r (n := h.size) (by simp) ?_
  refine ⟨p, rfl, s, S1 0 .sl s c0, p, rfl, at_, S1 1 (.nt .i64) at_ c1, ?_⟩
  refine ⟨by omega, by omega, ?_⟩
  -- the bytes that are left
  have rbl : RB n h rest ⟨if s.cap = ((at_ : Int)).toNat then s.a else s.a.map (·.add (((at_ : Int)).toNat * 1)), s.len - ((at_ : Int)).toNat, s.cap - ((at_ : Int)).toNat⟩ := by
    refine ⟨?_, ?_, ?_, fun hne => ?_, fun a ha hcp => ?_⟩
    · show s.len - ((at_ : Int)).toNat = _; omega
    · show s.len - ((at_ : Int)).toNat ≤ s.cap - ((at_ : Int)).toNat; omega
    · show s.cap - _ < _; omega
    · have hr0 : 0 < rest.length := List.length_pos_iff.2 hne
      have hBl : 0 < B.length := by omega
      obtain ⟨a, h1', h2, h3⟩ := rb.at_ (by intro e; rw [e] at hBl; simp at hBl)
      refine ⟨a.add at_, ?_, by rw [add_block]; exact h2, fun i hi => ?_⟩
      · show (if s.cap = ((at_ : Int)).toNat then s.a else s.a.map fun x => x.add (((at_ : Int)).toNat * 1)) = _
        rw [if_neg (by omega), h1']
        simp
      · rw [add_add, h3 _ (by omega), hrest, List.getElem?_drop]
    · have ha : (if s.cap = ((at_ : Int)).toNat then s.a else s.a.map fun x => x.add (((at_ : Int)).toNat * 1)) = some a := ha
      split at ha
      · exact rb.blk a ha (by have hcp : 0 < s.cap - ((at_ : Int)).toNat := hcp; omega)
      · cases hs : s.a with
        | none => rw [hs] at ha; cases ha
        | some a1 =>
          rw [hs] at ha
          simp only [Option.map_some, Option.some.injEq] at ha
          rw [← ha, add_block]
          exact rb.blk a1 hs (by have hcp : 0 < s.cap - ((at_ : Int)).toNat := hcp; omega)
  refine CALL_r (spec133 rbl) (by simp) ?_
  rintro ⟨v, k, e, ⟨⟩⟩ h2 hs2 g2 ⟨rfl, q1, q2⟩
  refine unc3_i (s1 := .nt .u64) (s2 := .nt .i64) (s3 := .nt .u16) ?_
  simp only at q1 q2
  refine SS_r (.refl _ _) ?_
  have hvp : vintP (some rest) = pvar rest := rfl
  rw [hvp]
  cases hp : pvar rest with
  | none =>
    obtain ⟨e', he1, he2, rfl⟩ := q2 hp
    refine COND_r (fun hc => ?_) (fun hc => ?_)
    · refine CALLO_r (spec93 r0 he1 he2) (by simp) ?_
      rintro _ h1 hs1 g1 rr
      exact ⟨g1, rr, rfl⟩
    · exact absurd hc (by simp; omega)
  | some vr =>
    obtain ⟨w, r'⟩ := vr
    obtain ⟨hw, rfl, rfl, rfl⟩ := q1 w r' hp
    have hlen := pvGo_len _ _ _ _ _ hp
    refine COND_r (fun hc => absurd hc (by decide)) (fun _ => ?_)
    refine ⟨p, rfl, LDc (s := .nt .i64) c1 ⟨p, rfl, ?_⟩⟩
    have ew : IntKind.wrap .i64 ((at_ : Int) + ((rest.length - r'.length : Nat) : Int)) = ((at_ + (rest.length - r'.length) : Nat) : Int) := by rw [wrap_small (by omega) (by omega)]; omega
    rw [ew]
    refine STNc (by rw [c1]; rfl) (f 1 (by decide)) rfl (by simp) fun h1 q1 q2 q3 q4 q5 => ?_
    refine ⟨⟨by omega, fun b hb ho => q2 b ho⟩, ⟨r0.ge, by have := r0.lt; omega, s, at_ + (rest.length - r'.length), err, wh, by rw [q5 0 (by decide)]; exact c0, q4, by rw [q5 2 (by decide)]; exact c2, by rw [q5 3 (by decide)]; exact c3, fun j hj => by rw [q3]; exact f j hj,
      ⟨rb.same fun a ha hcp => q2 _ (by have := rb.blk a ha hcp; have := r0.ge; omega), rlo⟩, by omega, r2, r3, fun rest' e => ⟨he, ?_⟩, nofun⟩, rfl⟩
    cases e
    have hd := pvGo_drop _ _ _ _ _ hp
    rw [← List.drop_drop, ← hrest]
    exact hd

/-- A text, out of bytes. -/
def ptxt (b : List UInt8) : Option (List UInt8 × List UInt8) := (pvar b).bind fun x => if x.1 ≤ x.2.length then some (x.2.take x.1, x.2.drop x.1) else none
def txtP (st : Option (List UInt8)) : Option (List UInt8 × List UInt8) := st.bind ptxt

theorem RRD.small {lo n : Nat} {h : Heap} {B rest : List UInt8} {p : Addr} (r : RRD lo n h B (some rest) p) : rest.length ≤ 2 ^ 30 := by
  obtain ⟨s, at_, err, wh, c0, c1, c2, c3, f, ⟨rb, rlo⟩, r1, r2, r3, r4, r5⟩ := r.ex
  have := (r4 rest rfl).2
  rw [this, List.length_drop]; omega

/-- Text -/
theorem spec37 {lo n : Nat} {h : Heap} {B : List UInt8} {st : Option (List UInt8)} {p : Addr} (r : RRD lo n h B st p) :
    SPECO P 37 [.pointer (some p)] [.one .tx] h (fun b => b = p.block) fun x h' => RRD lo n h' B ((txtP st).map Prod.snd) p ∧ TX (((txtP st).map Prod.fst).getD []) x.1 := by
  refine SPECO_of_k noNG Tryz.func37 (pl := pl37) (ps := [.one .pt]) (some p, ()) (by kernel_rfl) (q37 (fun _ _ => False) (some p) h) (by kernel_rfl) ?_
  unfold q37
  obtain ⟨s0, at0, err0, wh0, d0, d1, d2, d3, ff, ⟨rb0, rlo0⟩, t1, t2, t3, t4, t5⟩ := r.ex
  refine ⟨p, rfl, LDc (s := .nt .i64) d1 ?_⟩
  refine CALLO_r (spec92 r) (by simp) ?_
  rintro ⟨v, ⟨⟩⟩ h1 hs1 g1 ⟨rr, hv⟩
  refine unc1_i (s1 := .nt .u64) ?_
  simp only at hv
  subst hv
  obtain ⟨s, at_, err, wh, c0, c1, c2, c3, f, ⟨rb, rlo⟩, r1, r2, r3, r4, r5⟩ := rr.ex
  have bl := rb.len
  have bc := rb.cap
  have bs := rb.small
  refine ⟨p, rfl, LDc (s := .sl) c0 ⟨p, rfl, LDc (s := .nt .i64) c1 ?_⟩⟩
  have ew : IntKind.wrap .u64 (IntKind.wrap .i64 ((s.len : Int) - (at_ : Int))) = ((B.length - at_ : Nat) : Int) := by
    rw [wrap_small (by omega) (by omega), IntKind.wrap_u64]; omega
  rw [ew]
  cases hvp : vintP st with
  | none =>
    have ht : txtP st = none := by
      cases st with
      | none => rfl
      | some rest => show ptxt rest = none; have : pvar rest = none := hvp; simp [ptxt, this]
    rw [hvp] at rr
    simp only [Option.map_none, Option.getD_none] at rr ⊢
    rw [ht]
    refine COND_r (fun hc => ?_) (fun hc => ?_)
    · have : ((0 : Nat) : Int) > ((B.length - at_ : Nat) : Int) := by simpa using hc
      omega
    · have ew0 : IntKind.wrap .i64 ((0 : Nat) : Int) = ((0 : Nat) : Int) := by decide
      rw [ew0]
      refine CALLO_r (spec91 (k := 0) rr (by decide)) (by simp) ?_
      rintro ⟨x, ⟨⟩⟩ h4 hs4 g4 ⟨rr4, rb4⟩
      refine unc1s_i ?_
      simp only at rb4
      refine BTS_r rb4 fun y hy => ⟨g1.then (g4.mono fun i hi ho => .inl ho), rr4, ⟨hy, by simp [takeP]⟩⟩
  | some vr =>
    obtain ⟨w, r'⟩ := vr
    obtain ⟨rest, rfl, hpv⟩ : ∃ rest, st = some rest ∧ pvar rest = some (w, r') := by
      cases st with
      | none => cases hvp
      | some rest => exact ⟨rest, rfl, hvp⟩
    rw [hvp] at rr r4
    simp only [Option.map_some, Option.getD_some] at rr r4 ⊢
    have hr' := (r4 r' rfl).2
    have hrl : r'.length = B.length - at_ := by rw [hr']; simp
    have hlen := pvGo_len _ _ _ _ _ hpv
    have hw := pvar_lt hpv
    refine COND_r (fun hc => ?_) (fun hc => ?_)
    · have hc : (w : Int) > ((B.length - at_ : Nat) : Int) := by simpa using hc
      have ht : txtP (some rest) = none := by
        show ptxt rest = none
        simp only [ptxt, hpv, Option.bind_some]
        rw [if_neg (by omega)]
      rw [ht]
      -- the place is put back
      refine ⟨p, rfl, ?_⟩
      refine STNc (by rw [c1]; rfl) (f 1 (by decide)) rfl (by simp) fun h2 q1 q2 q3 q4 q5 => ?_
      have he := (r4 r' rfl).1
      have rr2 : RRD lo n h2 B (some (B.drop at0)) p := ⟨rr.ge, by have := rr.lt; omega, s, at0, err, wh, by rw [q5 0 (by decide)]; exact c0, q4, by rw [q5 2 (by decide)]; exact c2, by rw [q5 3 (by decide)]; exact c3, fun j hj => by rw [q3]; exact f j hj,
        ⟨rb.same fun a ha hcp => q2 _ (by have := rb.blk a ha hcp; have := rr.ge; omega), rlo⟩, t1, r2, r3, fun rest' e => ⟨he, by cases e; rfl⟩, nofun⟩
      refine CALLO_r (spec93 (e := 20) rr2 (by decide) (by decide)) (by simp) ?_
      rintro _ h3 hs3 g3 rr3
      refine ⟨⟨by omega, fun b hb ho => ?_⟩, rr3, ⟨rfl, by decide⟩⟩
      rw [g3.same b (by omega) ho, q2 b ho, g1.same b hb ho]
    · have hc : ¬ (w : Int) > ((B.length - at_ : Nat) : Int) := by simpa using hc
      have hwl : w ≤ r'.length := by omega
      have ht : txtP (some rest) = some (r'.take w, r'.drop w) := by
        show ptxt rest = _
        simp only [ptxt, hpv, Option.bind_some]
        rw [if_pos hwl]
      rw [ht]
      have ew0 : IntKind.wrap .i64 (w : Int) = (w : Int) := wrap_small (by omega) (by omega)
      rw [ew0]
      refine CALLO_r (spec91 (k := w) rr (by omega)) (by simp) ?_
      rintro ⟨x, ⟨⟩⟩ h4 hs4 g4 ⟨rr4, rb4⟩
      refine unc1s_i ?_
      simp only at rb4
      have et : takeP (some r') w = some (r'.take w, r'.drop w) := by simp [takeP, hwl]
      rw [et] at rr4 rb4
      refine BTS_r rb4 fun y hy => ⟨g1.then (g4.mono fun i hi ho => .inl ho), rr4, ⟨hy, ?_⟩⟩
      simp only [Option.map_some, Option.getD_some, List.length_take]
      omega

/-- Err -/
theorem spec38 {lo n : Nat} {h : Heap} {B : List UInt8} {st : Option (List UInt8)} {p : Addr} (r : RRD lo n h B st p) :
    SPEC P 38 [.pointer (some p)] [.one (.nt .u16), .one (.nt .i64)] h h.size fun x h' => h' = h ∧ (x.1 = 0 ↔ st.isSome = true) := by
  refine SPEC_of_k noNG Tryz.func38 (pl := pl38) (ps := [.one .pt]) (some p, ()) (by kernel_rfl) (q38 (fun _ _ => False) (some p) h) (by kernel_rfl) ?_
  unfold q38
  obtain ⟨s, at_, err, wh, c0, c1, c2, c3, f, ⟨rb, rlo⟩, r1, r2, r3, r4, r5⟩ := r.ex
  refine ⟨p, rfl, LDc (s := .nt .u16) c2 ⟨p, rfl, LDc (s := .nt .i64) c3 ⟨.refl _ _, rfl, ?_⟩⟩⟩
  show (err : Int) = 0 ↔ _
  cases st with
  | none => have := r5 rfl; simp; omega
  | some rest => have := (r4 rest rfl).1; simp; omega

/-- Left -/
theorem spec41 {lo n : Nat} {h : Heap} {B rest : List UInt8} {p : Addr} (r : RRD lo n h B (some rest) p) :
    SPEC P 41 [.pointer (some p)] [.one (.nt .i64)] h h.size fun x h' => h' = h ∧ x.1 = (rest.length : Int) := by
  refine SPEC_of_k noNG Tryz.func41 (pl := pl41) (ps := [.one .pt]) (some p, ()) (by kernel_rfl) (q41 (fun _ _ => False) (some p) h) (by kernel_rfl) ?_
  unfold q41
  obtain ⟨s, at_, err, wh, c0, c1, c2, c3, f, ⟨rb, rlo⟩, r1, r2, r3, r4, r5⟩ := r.ex
  refine ⟨p, rfl, LDc (s := .sl) c0 ⟨p, rfl, LDc (s := .nt .i64) c1 ⟨.refl _ _, rfl, ?_⟩⟩⟩
  have bl := rb.len
  have bc := rb.cap
  have bs := rb.small
  have := (r4 rest rfl).2
  show IntKind.wrap .i64 ((s.len : Int) - (at_ : Int)) = _
  rw [wrap_small (by omega) (by omega), this, List.length_drop]
  omega

/-- End -/
theorem spec42 {lo n : Nat} {h : Heap} {B : List UInt8} {st : Option (List UInt8)} {p : Addr} (r : RRD lo n h B st p) :
    SPEC P 42 [.pointer (some p)] [.one (.nt .u16)] h h.size fun x h' => h' = h ∧ (x.1 = 0 ↔ st = some []) := by
  refine SPEC_of_k noNG Tryz.func42 (pl := pl42) (ps := [.one .pt]) (some p, ()) (by kernel_rfl) (q42 (fun _ _ => False) (some p) h) (by kernel_rfl) ?_
  unfold q42
  obtain ⟨s, at_, err, wh, c0, c1, c2, c3, f, ⟨rb, rlo⟩, r1, r2, r3, r4, r5⟩ := r.ex
  have bl := rb.len
  intro k1 hk1
  refine ⟨p, rfl, LDc (s := .nt .u16) c2 ?_⟩
  refine COND_r (fun hc => ?_) (fun hc => ?_)
  · have he : err = 0 := by
      have : (err : Int) = 0 := by simpa using hc
      omega
    obtain ⟨rest, rfl⟩ : ∃ rest, st = some rest := by
      cases st with
      | none => exact absurd he (r5 rfl)
      | some rest => exact ⟨rest, rfl⟩
    have hr := (r4 rest rfl).2
    have hrl : rest.length = B.length - at_ := by rw [hr]; simp
    refine ⟨p, rfl, LDc (s := .nt .i64) c1 ⟨p, rfl, LDc (s := .sl) c0 ?_⟩⟩
    refine hk1 (decide ((at_ : Int) < (s.len : Int)), ()) h ?_
    refine COND_r (fun hc => ⟨.refl _ _, rfl, ?_⟩) (fun hc => ⟨p, rfl, LDc (s := .nt .u16) c2 ⟨.refl _ _, rfl, ?_⟩⟩)
    · have hc := ltI hc
      show (21 : Int) = 0 ↔ _
      refine ⟨fun h => absurd h (by decide), fun h => ?_⟩
      cases h
      simp at hrl; omega
    · have hc := geI hc
      have : rest = [] := List.eq_nil_of_length_eq_zero (by omega)
      subst this
      show (err : Int) = 0 ↔ _
      simp [he]
  · have he : err ≠ 0 := by
      have : ¬ (err : Int) = 0 := by simpa using hc
      omega
    refine hk1 (false, ()) h ?_
    refine COND_r (fun h => by cases h) (fun _ => ⟨p, rfl, LDc (s := .nt .u16) c2 ⟨.refl _ _, rfl, ?_⟩⟩)
    show (err : Int) = 0 ↔ _
    refine ⟨fun h => by omega, fun h => absurd (r4 [] h).1 he⟩

/-- Raw -/
theorem spec40 {lo n : Nat} {h : Heap} {B : List UInt8} {st : Option (List UInt8)} {p : Addr} {k : Nat} (r : RRD lo n h B st p) (hk : k < 2 ^ 62) :
    SPECO P 40 [.pointer (some p), .int .i64 k] [.one .sl] h (fun b => b = p.block) fun x h' => RRD lo n h' B ((takeP st k).map Prod.snd) p ∧ BUF h.size h' (((takeP st k).map Prod.fst).getD []) x.1 := by
  refine SPECO_of_k noNG Tryz.func40 (pl := pl40) (ps := [.one .pt, .one (.nt .i64)]) (some p, (k : Int), ()) (by kernel_rfl) (q40 (fun _ _ => False) (some p) (k : Int) h) (by kernel_rfl) ?_
  unfold q40
  refine CALLO_r (spec91 (k := k) r hk) (by simp) ?_
  rintro ⟨x, ⟨⟩⟩ h1 hs1 g1 ⟨r1, rb⟩
  refine unc1s_i ?_
  simp only at rb
  have hge := r.ge
  have hlt := r.lt
  have hsm : (((takeP st k).map Prod.fst).getD []).length ≤ 2 ^ 46 := by
    cases st with
    | none => simp [takeP]
    | some rest =>
      have := r.small
      simp only [takeP, Option.bind_some]
      split <;> simp; omega
  refine CALL_r (spec89 rb (by omega) hsm) (by simp) ?_
  rintro ⟨y, ⟨⟩⟩ h2 hs2 g2 b2
  refine unc1s_i ?_
  simp only at b2
  refine CALL_r (spec88 b2.cap) (by simp) ?_
  rintro ⟨z, ⟨⟩⟩ h3 hs3 g3 ⟨rfl, e⟩
  simp only at e
  subst e
  exact ⟨g1.then (.of_pre g2), r1.keep g2.sz (fun b _ hb => g2.same b (by omega)) (g2.same _ (by omega)), b2.clip.lo hs1⟩

/-- Read -/
theorem spec35 {n : Nat} {h : Heap} {B : List UInt8} {s : Sl} (rb : RB n h B s) (hn : n ≤ h.size) (hB : B.length ≤ 2 ^ 30) :
    SPEC P 35 [s.v] [.one .pt] h h.size fun x h' => ∃ p m, x.1 = some p ∧ h.size ≤ m ∧ RRD h.size m h' B (some B) p := by
  refine SPEC_of_k noNG Tryz.func35 (pl := pl35) (ps := [.one .sl]) (s, ()) (by kernel_rfl) (q35 (fun _ _ => False) s h) (by kernel_rfl) ?_
  unfold q35
  refine CALL_r (spec89 rb hn (by omega)) (by simp) ?_
  rintro ⟨y, ⟨⟩⟩ h1 hs1 g1 b1
  refine unc1s_i ?_
  simp only at b1
  refine ALLOC_r g1 (by omega) fun b6 h2 hb6 hs2 g2 g12 hc => ?_
  have hcell := LDN_known hc
  refine ⟨g2, ⟨b6, 0, none⟩, h1.size, rfl, hs1, ⟨by show h1.size ≤ b6; omega, by show b6 < _; omega, y, 0, 0, 0, hcell 0 (by simp), hcell 1 (by simp), hcell 2 (by simp), hcell 3 (by simp), fun j hj => ?_, ⟨b1.rb.pre g12 (Nat.le_refl _), fun a ha => (b1.blk a ha).1⟩, Nat.zero_le _, hB, by decide, fun rest e => ⟨rfl, by cases e; rfl⟩, nofun⟩⟩
  unfold frz; rw [add_block]; simp only [hc]; simp

/-- A number of either sign. -/
def zag (n : Nat) : Int := if n % 2 = 0 then (n / 2 : Nat) else -((n / 2 : Nat) : Int) - 1

theorem zag_val (v : Nat) (hv : v < 2 ^ 64) : ixor .i64 (IntKind.wrap .i64 (ishr .u64 (v : Int) 1)) (IntKind.wrap .i64 (0 - IntKind.wrap .i64 (iand .u64 (v : Int) 1))) = zag v := by
  have e1 : ishr .u64 (v : Int) 1 = ((v / 2 : Nat) : Int) := by
    have := ishrN v 1 (by decide)
    simpa using this
  have e2 : iand .u64 (v : Int) 1 = ((v % 2 : Nat) : Int) := by
    unfold iand
    rw [IntKind.wrap_u64]
    have : (BitVec.ofInt IntKind.u64.bits (v : Int) &&& BitVec.ofInt IntKind.u64.bits 1).toNat = v % 2 := by
      show (BitVec.ofInt 64 (v : Int) &&& BitVec.ofInt 64 1).toNat = _
      rw [BitVec.toNat_and]
      have a1 : (BitVec.ofInt 64 (v : Int)).toNat = v := by simp; omega
      have a2 : (BitVec.ofInt 64 1).toNat = 1 := by decide
      rw [a1, a2, Nat.and_one_is_mod]
    rw [this]; omega
  rw [e1, e2, wrap_small (x := ((v / 2 : Nat) : Int)) (by omega) (by omega), wrap_small (x := ((v % 2 : Nat) : Int)) (by omega) (by omega), wrap_small (by omega) (by omega)]
  unfold zag
  have hw : v / 2 < 2 ^ 63 := by omega
  generalize v / 2 = w at hw
  have two : v % 2 = 0 ∨ v % 2 = 1 := by omega
  rcases two with h | h
  · rw [h, if_pos rfl]
    unfold ixor
    have : (BitVec.ofInt IntKind.i64.bits (w : Int) ^^^ BitVec.ofInt IntKind.i64.bits (0 - ((0 : Nat) : Int))).toNat = w := by
      show (BitVec.ofInt 64 (w : Int) ^^^ BitVec.ofInt 64 0).toNat = w
      have e : BitVec.ofInt 64 0 = 0#64 := by decide
      rw [e, BitVec.xor_zero]
      simp; omega
    rw [this, wrap_small (by omega) (by omega)]
  · rw [h, if_neg (by decide)]
    unfold ixor
    have : (BitVec.ofInt IntKind.i64.bits (w : Int) ^^^ BitVec.ofInt IntKind.i64.bits (0 - ((1 : Nat) : Int))).toNat = 18446744073709551615 - w := by
      show (BitVec.ofInt 64 (w : Int) ^^^ BitVec.ofInt 64 (-1)).toNat = _
      have e : BitVec.ofInt 64 (-1) = BitVec.allOnes 64 := by decide
      rw [e, BitVec.xor_allOnes, BitVec.toNat_not]
      simp; omega
    rw [this, IntKind.wrap_i64]
    omega

/-- Signed -/
theorem spec171 {lo n : Nat} {h : Heap} {B : List UInt8} {st : Option (List UInt8)} {p : Addr} (r : RRD lo n h B st p) :
    SPECO P 171 [.pointer (some p)] [.one (.nt .i64)] h (fun b => b = p.block) fun x h' => RRD lo n h' B ((vintP st).map Prod.snd) p ∧ x.1 = zag (((vintP st).map Prod.fst).getD 0) := by
  refine SPECO_of_k noNG Tryz.func171 (pl := pl171) (ps := [.one .pt]) (some p, ()) (by kernel_rfl) (q171 (fun _ _ => False) (some p) h) (by kernel_rfl) ?_
  unfold q171
  refine CALLO_r (spec92 r) (by simp) ?_
  rintro ⟨v, ⟨⟩⟩ h1 hs1 g1 ⟨rr, hv⟩
  refine unc1_i (s1 := .nt .u64) ?_
  simp only at hv
  subst hv
  refine ⟨by decide, g1, rr, zag_val _ ?_⟩
  cases st with
  | none => show (0 : Nat) < _; decide
  | some rest =>
    show (((pvar rest).map Prod.fst).getD 0) < _
    cases hp : pvar rest with
    | none => show (0 : Nat) < _; decide
    | some x => exact pvar_lt hp

end Go.VK
