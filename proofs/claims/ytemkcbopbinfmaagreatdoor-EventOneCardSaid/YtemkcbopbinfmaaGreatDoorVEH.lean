/- Contracts: a reader of bytes (code.Reader). -/
import Derived.Test.YtemkcbopbinfmaaGreatDoorVEG
set_option linter.all false
namespace Go.VK
open Go Go.Proofs
set_option maxRecDepth 100000
set_option linter.unusedSimpArgs false
set_option linter.unusedVariables false

/-- A reader: what is left to be read; none: an error was met. The bytes stand in blocks below n, the reader itself not. -/
structure RRD (lo n : Nat) (h : Heap) (B : List UInt8) (st : Option (List UInt8)) (p : Addr) : Prop where
  ge : n ≤ p.block
  lt : p.block < h.size
  ex : ∃ (s : Sl) (at_ err : Nat) (wh : Int), cell h (p.add 0) = some s.v ∧ cell h (p.add 1) = some (.int .i64 at_) ∧ cell h (p.add 2) = some (.int .u16 err) ∧ cell h (p.add 3) = some (.int .i64 wh) ∧
    (∀ j, j < 4 → frz h (p.add j) = false) ∧ (RB n h B s ∧ ∀ a, s.a = some a → lo ≤ a.block) ∧ at_ ≤ B.length ∧ B.length ≤ 2 ^ 30 ∧ err < 65536 ∧ (∀ rest, st = some rest → err = 0 ∧ rest = B.drop at_) ∧ (st = none → err ≠ 0)

theorem RRD.keep {lo n : Nat} {h h' : Heap} {B : List UInt8} {st : Option (List UInt8)} {p : Addr} (r : RRD lo n h B st p) (hs : h.size ≤ h'.size) (hk : ∀ b, lo ≤ b → b < n → h'[b]? = h[b]?) (hp : h'[p.block]? = h[p.block]?) : RRD lo n h' B st p := by
  obtain ⟨s, at_, err, wh, c0, c1, c2, c3, f, ⟨rb, rlo⟩, r1, r2, r3, r4, r5⟩ := r.ex
  have ec : ∀ i, cell h' (p.add i) = cell h (p.add i) := fun i => by unfold cell; rw [add_block, hp]
  have ef : ∀ i, frz h' (p.add i) = frz h (p.add i) := fun i => by unfold frz; rw [add_block, hp]
  exact ⟨r.ge, Nat.lt_of_lt_of_le r.lt hs, s, at_, err, wh, by rw [ec]; exact c0, by rw [ec]; exact c1, by rw [ec]; exact c2, by rw [ec]; exact c3, fun j hj => by rw [ef]; exact f j hj, ⟨rb.same fun a ha hcp => hk _ (rlo a ha) (rb.blk a ha hcp), rlo⟩, r1, r2, r3, r4, r5⟩

/-- One cell of a reader is written. -/
theorem STNc {h : Heap} {p : Addr} {k : Nat} {v : Value} {bs : List Nat} {K : Heap → Prop} (hc : (cell h (p.add k)).isSome = true) (hf : frz h (p.add k) = false) (hv : oneC v = true) (hbs : ∀ b ∈ bs, p.block ≠ b)
    (kk : ∀ h1, h1.size = h.size → (∀ b, b ≠ p.block → h1[b]? = h[b]?) → (∀ a, frz h1 a = frz h a) → cell h1 (p.add k) = some v → (∀ j, j ≠ k → cell h1 (p.add j) = cell h (p.add j)) → K h1) : STN (p.add k) [v] 0 h bs K := by
  refine STN_r (fun j hj => ?_) (fun x hx => ?_) (fun b hb => by rw [add_block]; exact hbs b hb) fun h1 q1 q2 q3 q4 q5 q6 => kk h1 q1 (fun b hb => q2 b (by rw [add_block]; exact hb)) q3 ?_ fun j hj => q5 _ ?_
  · have : j = 0 := by simp at hj; omega
    subst this
    rw [Nat.add_zero]
    exact ⟨hc, hf⟩
  · rw [List.mem_singleton.1 hx]; exact hv
  · exact q4 0 (by simp)
  · rw [add_off, add_off]; simp; omega

theorem LDc {h : Heap} {a : Addr} {s : Sh} {x : s.T} (hc : cell h a = some (s.v x)) {K : s.T → Prop} (k : K x) : LD s a (EQ h) K := ⟨x, fun h' e => by rw [e]; exact hc, k⟩

/-- fail -/
theorem spec93 {lo n : Nat} {h : Heap} {B : List UInt8} {st : Option (List UInt8)} {p : Addr} {e : Nat} (r : RRD lo n h B st p) (he : e ≠ 0) (he2 : e < 65536) :
    SPECO P 93 [.pointer (some p), .int .u16 e] [] h (fun b => b = p.block) fun _ h' => RRD lo n h' B none p := by
  refine SPECO_of noNG Tryz.func93 (pl := pl93) (ps := [.one .pt, .one (.nt .u16)]) (some p, (e : Int), ()) (by kernel_rfl) (q93 (fun _ _ => False) (some p) (e : Int) h) (fun Q h => by rw [q93_eq] at h; exact h) ?_
  unfold q93
  obtain ⟨s, at_, err, wh, c0, c1, c2, c3, f, ⟨rb, rlo⟩, r1, r2, r3, r4, r5⟩ := r.ex
  refine ⟨p, rfl, LDc (s := .nt .u16) c2 ?_⟩
  refine COND_r (fun hc => ?_) (fun hc => ⟨.refl _ _, r.ge, r.lt, s, at_, err, wh, c0, c1, c2, c3, f, ⟨rb, rlo⟩, r1, r2, r3, nofun, fun _ => ?_⟩)
  · refine ⟨p, rfl, LDc (s := .nt .i64) c1 ⟨p, rfl, ?_⟩⟩
    refine STNc (by rw [c2]; rfl) (f 2 (by decide)) rfl (by simp) fun h1 q1 q2 q3 q4 q5 => ⟨p, rfl, ?_⟩
    refine STNc (by rw [q5 3 (by decide), c3]; rfl) (by rw [q3]; exact f 3 (by decide)) rfl (by simp) fun h2 p1 p2 p3 p4 p5 => ?_
    refine ⟨⟨by omega, fun b hb ho => by rw [p2 b ho, q2 b ho]⟩, r.ge, by have := r.lt; omega, s, at_, e, at_, by rw [p5 0 (by decide), q5 0 (by decide)]; exact c0, by rw [p5 1 (by decide), q5 1 (by decide)]; exact c1, by rw [p5 2 (by decide)]; exact q4, p4,
      fun j hj => by rw [p3, q3]; exact f j hj, ⟨rb.same fun a ha hcp => ?_, rlo⟩, r1, r2, he2, nofun, fun _ => he⟩
    have := rb.blk a ha hcp
    have := r.ge
    rw [p2 _ (by omega), q2 _ (by omega)]
  · have : ¬ (err : Int) = 0 := by simpa using hc
    omega

def takeP (st : Option (List UInt8)) (k : Nat) : Option (List UInt8 × List UInt8) := st.bind fun rest => if k ≤ rest.length then some (rest.take k, rest.drop k) else none

theorem RB.none_ {n : Nat} {h : Heap} : RB n h [] ⟨none, 0, 0⟩ := ⟨rfl, Nat.le_refl _, by decide, fun e => absurd rfl e, nofun⟩

/-- take -/
theorem spec91 {lo n : Nat} {h : Heap} {B : List UInt8} {st : Option (List UInt8)} {p : Addr} {k : Nat} (r : RRD lo n h B st p) (hk : k < 2 ^ 62) :
    SPECO P 91 [.pointer (some p), .int .i64 k] [.one .sl] h (fun b => b = p.block) fun x h' => RRD lo n h' B ((takeP st k).map Prod.snd) p ∧ RB n h' (((takeP st k).map Prod.fst).getD []) x.1 := by
  refine SPECO_of noNG Tryz.func91 (pl := pl91) (ps := [.one .pt, .one (.nt .i64)]) (some p, (k : Int), ()) (by kernel_rfl) (q91 (fun _ _ => False) (some p) (k : Int) h) (fun Q h => by rw [q91_eq] at h; exact h) ?_
  unfold q91
  have r0 := r
  obtain ⟨s, at_, err, wh, c0, c1, c2, c3, f, ⟨rb, rlo⟩, r1, r2, r3, r4, r5⟩ := r.ex
  have bl := rb.len
  have bc := rb.cap
  have bs := rb.small
  refine ⟨p, rfl, LDc (s := .nt .u16) c2 ?_⟩
  refine COND_r (fun hc => ?_) (fun hc => ?_)
  · have he : err ≠ 0 := by
      have : ¬ (err : Int) = 0 := by simpa using hc
      omega
    have hst : st = none := by
      cases st with
      | none => rfl
      | some rest => exact absurd (r4 rest rfl).1 he
    subst hst
    exact ⟨.refl _ _, r0, RB.none_⟩
  have he : err = 0 := by
    have : (err : Int) = 0 := by simpa using hc
    omega
  obtain ⟨rest, hst⟩ : ∃ rest, st = some rest := by
    cases st with
    | none => exact absurd he (r5 rfl)
    | some rest => exact ⟨rest, rfl⟩
  subst hst
  have hrest := (r4 rest rfl).2
  have hrl : rest.length = B.length - at_ := by rw [hrest]; simp
  refine COND_r (fun hc => ?_) (fun _ => ?_)
  · have : (k : Int) < 0 := by simpa using hc
    omega
  refine ⟨p, rfl, LDc (s := .sl) c0 ⟨p, rfl, LDc (s := .nt .i64) c1 ?_⟩⟩
  have ew : IntKind.wrap .i64 ((s.len : Int) - (at_ : Int)) = ((B.length - at_ : Nat) : Int) := by rw [wrap_small (by omega) (by omega)]; omega
  rw [ew]
  refine COND_r (fun hc => ?_) (fun hc => ?_)
  · have hc : (k : Int) > ((B.length - at_ : Nat) : Int) := by simpa using hc
    have ht : takeP (some rest) k = none := by simp [takeP]; omega
    refine CALLO_r (spec93 (e := 20) r0 (by decide) (by decide)) (by simp) ?_
    rintro _ h1 hs1 g1 rr
    rw [ht]
    exact ⟨g1, rr, RB.none_⟩
  · have hc : ¬ (k : Int) > ((B.length - at_ : Nat) : Int) := by simpa using hc
    have hkl : k ≤ rest.length := by omega
    have ht : takeP (some rest) k = some (rest.take k, rest.drop k) := by simp [takeP, hkl]
    refine ⟨p, rfl, LDc (s := .sl) c0 ⟨p, rfl, LDc (s := .nt .i64) c1 ⟨p, rfl, LDc (s := .nt .i64) c1 ?_⟩⟩⟩
    have ew2 : IntKind.wrap .i64 ((at_ : Int) + (k : Int)) = ((at_ + k : Nat) : Int) := by rw [wrap_small (by omega) (by omega)]; omega
    rw [ew2]
    refine ⟨by omega, by omega, by omega, by omega, ?_⟩
    refine ⟨p, rfl, LDc (s := .nt .i64) c1 ⟨p, rfl, ?_⟩⟩
    rw [ew2]
    refine STNc (by rw [c1]; rfl) (f 1 (by decide)) rfl (by simp) fun h1 q1 q2 q3 q4 q5 => ?_
    have rb1 : RB n h1 B s := rb.same fun a ha hcp => q2 _ (by have := rb.blk a ha hcp; have := r0.ge; omega)
    rw [ht]
    refine ⟨⟨by omega, fun b hb ho => q2 b ho⟩, ⟨r0.ge, by have := r0.lt; omega, s, at_ + k, err, wh, by rw [q5 0 (by decide)]; exact c0, q4, by rw [q5 2 (by decide)]; exact c2, by rw [q5 3 (by decide)]; exact c3, fun j hj => by rw [q3]; exact f j hj, ⟨rb1, rlo⟩, by omega, r2, r3,
      fun rest' e => ⟨he, ?_⟩, nofun⟩, ?_⟩
    · cases e
      rw [hrest, List.drop_drop]
    · refine ⟨?_, ?_, ?_, fun hne => ?_, fun a ha hcp => ?_⟩
      · show (((at_ + k : Nat) : Int)).toNat - ((at_ : Int)).toNat = _
        simp; omega
      · show (((at_ + k : Nat) : Int)).toNat - ((at_ : Int)).toNat ≤ s.cap - ((at_ : Int)).toNat
        omega
      · show s.cap - _ < _
        omega
      · have hk0 : 0 < k := by
          rcases Nat.eq_zero_or_pos k with h | h
          · subst h; exact absurd (by simp) hne
          · exact h
        have hBl : 0 < B.length := by omega
        obtain ⟨a, h1', h2, h3⟩ := rb1.at_ (by intro e; rw [e] at hBl; simp at hBl)
        refine ⟨a.add at_, ?_, by rw [add_block]; exact h2, fun i hi => ?_⟩
        · show (if s.cap = ((at_ : Int)).toNat then s.a else s.a.map fun x => x.add (((at_ : Int)).toNat * 1)) = _
          rw [if_neg (by omega), h1']
          simp
        · have hi : i < k := by simp at hi; omega
          rw [add_add, h3 _ (by omega)]
          simp only [Option.map_some, Option.getD_some, hrest]
          rw [List.getElem?_take_of_lt hi, List.getElem?_drop]
      · have ha : (if s.cap = ((at_ : Int)).toNat then s.a else s.a.map fun x => x.add (((at_ : Int)).toNat * 1)) = some a := ha
        split at ha
        · exact rb1.blk a ha (by have hcp : 0 < s.cap - ((at_ : Int)).toNat := hcp; omega)
        · cases hs : s.a with
          | none => rw [hs] at ha; cases ha
          | some a1 =>
            rw [hs] at ha
            simp only [Option.map_some, Option.some.injEq] at ha
            rw [← ha, add_block]
            exact rb1.blk a1 hs (by have hcp : 0 < s.cap - ((at_ : Int)).toNat := hcp; omega)

theorem CALLV_rr {P : Program} {Z : List PanicEntry → Heap → Prop} {f : FuncId} {first cap : Array Value} {args : List Value} {R : List Lay} {h : Heap} {bs : List Nat} {K : Cur (flat R) (Heap → Prop)} {O : Nat → Prop} {Q : TT (flat R) → Heap → Prop}
    (hb : ((P.funcs[f]?).any (·.body.isSome)) = true) (c : SPECO P f (first.toList ++ args ++ cap.toList) R h O Q) (hk : ∀ b ∈ bs, b < h.size ∧ ¬ O b) (k : ∀ x h', h.size ≤ h'.size → Chg O h h' → Q x h' → unc _ K x h') :
    CALLV P Z (.func (.func f) first cap) args R h bs K := CALLV_r hb c hk k

def u8P (st : Option (List UInt8)) : Option (UInt8 × List UInt8) := st.bind fun
  | [] => none
  | c :: r => some (c, r)

/-- U8 -/
theorem spec36 {lo n : Nat} {h : Heap} {B : List UInt8} {st : Option (List UInt8)} {p : Addr} (r : RRD lo n h B st p) :
    SPECO P 36 [.pointer (some p)] [.one (.nt .u8)] h (fun b => b = p.block) fun x h' => RRD lo n h' B ((u8P st).map Prod.snd) p ∧ x.1 = (((u8P st).map Prod.fst).getD 0).toNat := by
  have w : SPECO P 90 [.int .i64 1, .func (.func 91) #[.pointer (some p)] #[]] [.one (.nt .u64)] h (fun b => b = p.block) fun x h' => RRD lo n h' B ((u8P st).map Prod.snd) p ∧ x.1 = (((u8P st).map Prod.fst).getD 0).toNat := by
    refine SPECO_of noNG Tryz.func90 (pl := pl90) (ps := [.one (.nt .i64), .one .oq]) (1, .func (.func 91) #[.pointer (some p)] #[], ()) (by kernel_rfl) (q90 (fun _ _ => False) 1 (.func (.func 91) #[.pointer (some p)] #[]) h) (fun Q h => by rw [q90_eq] at h; exact h) ?_
    unfold q90
    refine CALLV_r (R := [.one .sl]) (O := fun b => b = p.block) (Q := fun x h' => RRD lo n h' B ((takeP st 1).map Prod.snd) p ∧ RB n h' (((takeP st 1).map Prod.fst).getD []) x.1) (by kernel_rfl) (spec91 (k := 1) r (by decide)) (by simp) ?_
    rintro ⟨s, ⟨⟩⟩ h1 hs1 g1 ⟨r1, rb⟩
    refine unc1s_i ?_
    simp only at rb
    have hlen := rb.len
    -- what the bytes are
    have key : (∃ c rest, st = some (c :: rest) ∧ takeP st 1 = some ([c], rest) ∧ u8P st = some (c, rest)) ∨ (takeP st 1 = none ∧ u8P st = none) := by
      cases st with
      | none => exact .inr ⟨rfl, rfl⟩
      | some rest =>
        cases rest with
        | nil => exact .inr ⟨rfl, rfl⟩
        | cons c rest => exact .inl ⟨c, rest, rfl, by simp [takeP], rfl⟩
    rcases key with ⟨c, rest, hst, e1, e2⟩ | ⟨e1, e2⟩
    · rw [e1] at r1 rb hlen
      rw [e2]
      simp only [Option.map_some, Option.getD_some, List.length_cons, List.length_nil] at r1 rb hlen ⊢
      refine ⟨fun x h' => (x = ((0 : Int), (0 : Int), ()) ∨ x = ((c.toNat : Int), (1 : Int), ())) ∧ h' = h1, fun x _ => (1 - x.2.1).toNat, ⟨.inl rfl, rfl⟩, ?_⟩
      rintro ⟨x4, x11, ⟨⟩⟩ h' ⟨hx, rfl⟩
      rcases hx with hx | hx
      · cases hx
        refine COND_r (fun _ => ?_) (fun hc => by simp [hlen] at hc)
        refine rb.ix (i := 0) rfl (by simp) (fun h'' e => by rw [e]; exact .refl _ _) ?_
        refine ⟨by decide, ⟨.inr ?_, rfl⟩, ?_⟩
        · have e1 : ior .u64 (ishl .u64 0 8) (IntKind.wrap .u64 (c.toNat : Int)) = (c.toNat : Int) := by
            have key : ∀ x : Fin 256, ior .u64 (ishl .u64 0 8) (IntKind.wrap .u64 (x.val : Int)) = (x.val : Int) := by decide
            exact key ⟨c.toNat, c.toNat_lt⟩
          have e2 : IntKind.wrap .i64 (0 + 1) = 1 := by decide
          show (ior .u64 (ishl .u64 0 8) (IntKind.wrap .u64 (c.toNat : Int)), IntKind.wrap .i64 (0 + 1), ()) = _
          rw [e1, e2]
        · show (1 - IntKind.wrap .i64 (0 + 1)).toNat < ((1 : Int) - 0).toNat
          decide
      · cases hx
        refine COND_r (fun hc => by simp [hlen] at hc) (fun _ => ⟨g1, r1, rfl⟩)
    · rw [e1] at r1 rb hlen
      rw [e2]
      simp only [Option.map_none, Option.getD_none, List.length_nil] at r1 rb hlen ⊢
      refine ⟨fun x h' => x = ((0 : Int), (0 : Int), ()) ∧ h' = h1, fun x _ => 0, ⟨rfl, rfl⟩, ?_⟩
      rintro ⟨x4, x11, ⟨⟩⟩ h' ⟨hx, rfl⟩
      cases hx
      exact COND_r (fun hc => by simp [hlen] at hc) (fun _ => ⟨g1, r1, rfl⟩)
  refine SPECO_of noNG Tryz.func36 (pl := pl36) (ps := [.one .pt]) (some p, ()) (by kernel_rfl) (q36 (fun _ _ => False) (some p) h) (fun Q h => by rw [q36_eq] at h; exact h) ?_
  unfold q36
  refine CALLO_r w (by simp) ?_
  rintro ⟨x, ⟨⟩⟩ h1 hs1 g1 ⟨r1, hx⟩
  simp only at hx
  subst hx
  refine ⟨g1, r1, ?_⟩
  show IntKind.wrap .u8 _ = _
  rw [u8_wrap, UInt8.ofNat_toNat]

end Go.VK
