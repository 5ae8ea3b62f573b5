/- Contracts: a writer's functions. -/
import Derived.Test.YtemkcbopbinfmaaGreatDoorVE2
import Derived.Test.YtemkcbopbinfmaaGreatDoorVMC
import Derived.Laws.Bits64
set_option linter.all false
namespace Go.VK
open Go Go.Proofs
set_option maxRecDepth 100000
set_option linter.unusedVariables false

/-- A number in as few bytes as it takes. -/
def vint (n : Nat) : List UInt8 := if n < 128 then [UInt8.ofNat n] else UInt8.ofNat (n % 128 + 128) :: vint (n / 128)
termination_by n

theorem vint_len : ∀ (k n : Nat), n < 128 ^ (k + 1) → (vint n).length ≤ k + 1
  | 0, n, h => by
    unfold vint
    rw [if_pos (by omega)]; simp
  | k + 1, n, h => by
    unfold vint
    split
    · simp
    · have := vint_len k (n / 128) (by rw [Nat.div_lt_iff_lt_mul (by decide)]; rw [Nat.pow_succ] at h; exact h)
      simp; omega

theorem vint_len64 {n : Nat} (h : n < 2 ^ 64) : (vint n).length ≤ 10 := vint_len 9 n (by omega)

/-- New -/
theorem spec26 {h : Heap} : SPECO P 26 [] [.one .pt] h (fun _ => False) fun x h' => ∃ p, x.1 = some p ∧ p.block = h.size ∧ RW (fun b => h.size ≤ b) h' [] p := by
  refine SPECO_of noNG Tryz.func26 (pl := pl26) (ps := []) () (by kernel_rfl) (q26 (fun _ _ => False) h) (fun Q h => by rw [q26_eq] at h; exact h) ?_
  unfold q26
  refine ALLOC_r (.refl h.size h) (Nat.le_refl _) fun b2 h1 hb2 hs1 g1 _ hc => ?_
  refine ⟨.of_pre g1, ⟨b2, 0, none⟩, rfl, hb2, ?_⟩
  refine ⟨by show h.size ≤ b2; omega, by show b2 < h1.size; omega, ?_, ⟨none, 0, 0⟩, ?_, ⟨rfl, Nat.le_refl _, by decide, fun _ => rfl, nofun, nofun, nofun⟩, nofun⟩
  · unfold frz; rw [hc]; rfl
  · unfold cell; rw [hc]; rfl

/-- A slot's one byte is appended. -/
theorem RDC_one {h : Heap} {b : Nat} {t : Nat} {x : UInt8} (hc : h[b]? = some (.cells #[Value.int .u8 x.toNat] t (0, 0))) : RDC h (some ⟨b, 0, none⟩) (u8s [x]) := by
  intro i hi
  have : i = 0 := by simp [u8s] at hi; omega
  subst this
  show cell h ⟨b, 0, none⟩ = _
  unfold cell; rw [hc]; rfl

theorem u8_wrap (n : Nat) : IntKind.wrap .u8 (n : Int) = ((UInt8.ofNat n).toNat : Int) := by
  rw [IntKind.wrap_u8, UInt8.toNat_ofNat']; omega

theorem ior128 (n : Nat) : ior .u8 (IntKind.wrap .u8 (n : Int)) 128 = ((UInt8.ofNat (n % 128 + 128)).toNat : Int) := by
  have key : ∀ x : Fin 256, ior .u8 (x.val : Int) 128 = ((x.val % 128 + 128 : Nat) : Int) := by decide
  have e : IntKind.wrap .u8 (n : Int) = ((n % 256 : Nat) : Int) := by rw [IntKind.wrap_u8]; omega
  rw [e, key ⟨n % 256, by omega⟩]
  rw [UInt8.toNat_ofNat']
  show ((n % 256 % 128 + 128 : Nat) : Int) = _
  omega

theorem ishr7 (n : Nat) : ishr .u64 (n : Int) 7 = ((n / 128 : Nat) : Int) := by
  show (n : Int).fdiv (2 ^ (min 7 64)) = _
  rw [Int.fdiv_eq_ediv_of_nonneg _ (by decide)]
  have : (2 : Int) ^ (min 7 64) = 128 := by decide
  rw [this]; omega

/-- Varint -/
theorem spec86 {O : Nat → Prop} {h : Heap} {B : List UInt8} {p : Addr} {n : Nat} (r : RW O h B p) (hn : n < 2 ^ 64) (hB : B.length + 10 ≤ 2 ^ 46) :
    SPECO P 86 [.pointer (some p), .int .u64 n] [] h O fun _ h' => RW (Up O h.size) h' (B ++ vint n) p := by
  refine SPECO_of noNG Tryz.func86 (pl := pl86) (ps := [.one .pt, .one (.nt .u64)]) (some p, (n : Int), ()) (by kernel_rfl) (q86 (fun _ _ => False) (some p) (n : Int) h) (fun Q h => by rw [q86_eq] at h; exact h) ?_
  unfold q86
  refine ⟨fun x h' => ∃ (m : Nat) (D : List UInt8), x.1 = (m : Int) ∧ Chg O h h' ∧ RW (Up O h.size) h' (B ++ D) p ∧ D ++ vint m = vint n, fun x _ => x.1.toNat, ⟨n, [], rfl, .refl _ _, by rw [List.append_nil]; exact r.mono fun i hi => .inl hi, rfl⟩, ?_⟩
  rintro ⟨x, _⟩ h' ⟨m, D, hx, g, r', hD⟩
  simp only at hx
  subst hx
  have lD : D.length + (vint m).length ≤ 10 := by have := vint_len64 hn; rw [← hD] at this; simpa using this
  obtain ⟨s, hs, hbuf, hblk⟩ := r'.buf
  have hsz := g.sz
  -- one byte more
  have one : ∀ (c : UInt8) (K : Heap → Prop), (B ++ D).length + 1 ≤ 2 ^ 46 → (∀ h2, Chg O h h2 → RW (Up O h.size) h2 (B ++ (D ++ [c])) p → K h2) → LD .sl (p.add 0) (EQ h') fun v => ALLOC [.int .u8 c.toNat] 5 h' fun b h3 => APPEND 1 1 5 [.int .u8 0] v.a v.len v.cap (some ⟨b, 0, none⟩) 1 h3 [] fun v17 h4 =>
      NN (some p) fun a18 => STN (a18.add 0) [v17.v] 0 h4 [] fun h5 => K h5 := fun c K hl k => by
    refine ⟨s, fun h'' e => by rw [e]; exact hs, ?_⟩
    refine ALLOC_r (.refl h'.size h') (Nat.le_refl _) fun b h3 hb hs3 g3 _ hc => ?_
    have r3 : RW (Up O h.size) h3 (B ++ D) p := r'.keep (X := fun _ => False) (.of_pre g3) fun _ _ h => h
    have hs3' : cell h3 p = some s.v := by rw [g3.cell r'.lt]; exact hs
    have hb3 : BUF 0 h3 (B ++ D) s := hbuf.keep (by omega) fun a ha => g3.same _ (hbuf.blk a ha).2
    refine APPEND_r (C := [c]) hb3 (RDC_one hc) rfl (by simp) (Nat.zero_le _) (by simpa using hl) fun s' h4 hs4 hk4 hb4 hn4 => ?_
    refine ⟨p, rfl, ?_⟩
    refine r3.step hs3' hblk hs4 hk4 hb4 (fun a ha => (hn4 a ha).imp id fun e => by omega) (by simp) fun h5 g5 hs5 r5 => ?_
    refine k h5 ((Chg.then g (Chg.of_pre g3)).then (g5.mono fun i hi ho => ?_)) ?_
    · exact ho.elim .inl .inr
    · rw [← List.append_assoc]
      exact r5.mono fun i hi => hi.elim id fun h => .inr (by omega)
  refine COND_r (fun hc => ?_) (fun hc => ?_)
  · have hm : 128 ≤ m := by have : (m : Int) ≥ 128 := by simpa using hc
                            omega
    refine ⟨p, rfl, ?_⟩
    rw [ior128, ishr7]
    have hv : vint m = UInt8.ofNat (m % 128 + 128) :: vint (m / 128) := by rw [vint, if_neg (by omega)]
    refine one _ (fun h5 => SHI 7 _) (by rw [hv] at lD; simp at lD ⊢; omega) fun h5 g5 r5 => ⟨by decide, ⟨⟨m / 128, _, rfl, g5, r5, ?_⟩, ?_⟩⟩
    · rw [← hD, hv]; simp
    · simp only; omega
  · have hm : m < 128 := by have : ¬ (m : Int) ≥ 128 := by simpa using hc
                            omega
    refine ⟨p, rfl, ?_⟩
    rw [u8_wrap]
    have hv : vint m = [UInt8.ofNat m] := by rw [vint, if_pos hm]
    refine one _ _ (by rw [hv] at lD; simp at lD ⊢; omega) fun h5 g5 r5 => ⟨g5, ?_⟩
    rw [← hD, hv]
    exact r5

/-- Text -/
theorem spec28 {O : Nat → Prop} {h : Heap} {B : List UInt8} {p : Addr} {t : List UInt8} {x : ByteArray} (r : RW O h B p) (ht : TX t x) (hB : B.length + 10 + t.length ≤ 2 ^ 46) :
    SPECO P 28 [.pointer (some p), .string x] [] h O fun _ h' => RW (Up O h.size) h' (B ++ (vint t.length ++ t)) p := by
  refine SPECO_of noNG Tryz.func28 (pl := pl28) (ps := [.one .pt, .one .tx]) (some p, x, ()) (by kernel_rfl) (q28 (fun _ _ => False) (some p) x h) (fun Q h => by rw [q28_eq] at h; exact h) ?_
  unfold q28
  have e1 := ht.size
  have e2 := ht.small
  have e3 : IntKind.wrap .u64 (x.size : Int) = ((t.length : Nat) : Int) := by rw [IntKind.wrap_u64, e1]; omega
  rw [e3]
  have hl := vint_len64 (n := t.length) (by omega)
  refine CALLO_r (spec86 (n := t.length) r (by omega) (by omega)) (by simp) ?_
  rintro _ h1 hs1 g1 r1
  obtain ⟨s, hs, hbuf, hblk⟩ := r1.buf
  refine ⟨p, rfl, s, fun h'' e => by rw [e]; exact hs, ?_⟩
  refine APPSTR_r (C := t) hbuf ht.eq (by simp) (Nat.zero_le _) (by simp; omega) fun s' h4 hs4 hk4 hb4 hn4 => ⟨p, rfl, ?_⟩
  refine r1.step hs hblk hs4 hk4 hb4 (fun a ha => (hn4 a ha).imp id fun e => by omega) (by simp) fun h5 g5 hs5 r5 => ?_
  refine ⟨g1.then g5, ?_⟩
  rw [← List.append_assoc]
  exact r5.mono fun i hi => hi.elim id fun h => .inr (by omega)

/-- Raw -/
theorem spec30 {O : Nat → Prop} {h : Heap} {B C : List UInt8} {p : Addr} {x : Sl} {n : Nat} (r : RW O h B p) (hx : RB n h C x) (hB : B.length + C.length ≤ 2 ^ 46) :
    SPECO P 30 [.pointer (some p), x.v] [] h O fun _ h' => RW (Up O h.size) h' (B ++ C) p := by
  refine SPECO_of noNG Tryz.func30 (pl := pl30) (ps := [.one .pt, .one .sl]) (some p, x, ()) (by kernel_rfl) (q30 (fun _ _ => False) (some p) x h) (fun Q h => by rw [q30_eq] at h; exact h) ?_
  unfold q30
  obtain ⟨s, hs, hbuf, hblk⟩ := r.buf
  refine ⟨p, rfl, s, fun h'' e => by rw [e]; exact hs, ?_⟩
  refine APPEND_r (C := C) hbuf hx.rdc hx.len (by simp) (Nat.zero_le _) hB fun s' h4 hs4 hk4 hb4 hn4 => ⟨p, rfl, ?_⟩
  refine r.step hs hblk hs4 hk4 hb4 (fun a ha => (hn4 a ha).imp id fun e => by omega) (by simp) fun h5 g5 hs5 r5 => ⟨g5, r5⟩

/-- Len -/
theorem spec31 {O : Nat → Prop} {h : Heap} {B : List UInt8} {p : Addr} (r : RW O h B p) :
    SPEC P 31 [.pointer (some p)] [.one (.nt .i64)] h h.size fun x h' => h' = h ∧ x.1 = (B.length : Int) := by
  refine SPEC_of noNG Tryz.func31 (pl := pl31) (ps := [.one .pt]) (some p, ()) (by kernel_rfl) (q31 (fun _ _ => False) (some p) h) (fun Q h => by rw [q31_eq] at h; exact h) ?_
  unfold q31
  obtain ⟨s, hs, hbuf, hblk⟩ := r.buf
  exact ⟨p, rfl, s, fun h'' e => by rw [e]; exact hs, .refl _ _, rfl, by rw [hbuf.len]⟩

/-- Clone of bytes -/
theorem spec89 {n : Nat} {h : Heap} {B : List UInt8} {s : Sl} (r : RB n h B s) (hn : n ≤ h.size) (hB : B.length ≤ 2 ^ 46) :
    SPEC P 89 [s.v] [.one .sl] h h.size fun x h' => BUF h.size h' B x.1 := by
  refine SPEC_of noNG Tryz.func89 (pl := pl89) (ps := [.one .sl]) (s, ()) (by kernel_rfl) (q89 (fun _ _ => False) s h) (fun Q h => by rw [q89_eq] at h; exact h) ?_
  unfold q89
  refine COND_r (fun hc => ⟨.refl _ _, ?_⟩) (fun hc => ?_)
  · have ha : s.a = none := by simpa using hc
    have hB0 : B = [] := by
      cases B with
      | nil => rfl
      | cons b B => obtain ⟨a, h1, _⟩ := r.at_ (by simp); rw [ha] at h1; cases h1
    subst hB0
    exact ⟨rfl, Nat.le_refl _, by decide, fun _ => rfl, nofun, nofun, nofun⟩
  · refine ALLOC_r (.refl h.size h) (Nat.le_refl _) fun b h1 hb hs1 g1 _ hcell => ?_
    have b0 : BUF h.size h1 [] ⟨some ⟨b, 0, none⟩, 0, 0⟩ := ⟨rfl, Nat.le_refl _, by show 0 < 2 ^ 63; decide, fun _ => rfl, fun a e => by cases e; simp; omega, fun a e i hi => by simp at hi, fun a e i hi => by simp at hi⟩
    refine APPEND_r (s := ⟨some ⟨b, 0, none⟩, 0, 0⟩) (C := B) b0 (r.pre g1 hn).rdc r.len (by simp) (by omega) (by simpa using hB) fun s' h4 hs4 hk4 hb4 hn4 => ?_
    refine ⟨⟨by omega, fun i hi => ?_⟩, hb4⟩
    rw [hk4 i (by omega) (fun a e => by cases e; simp; omega)]
    exact g1.same i hi

theorem SLI_clip {s : Sl} {k : Nat} {K : Sl → Prop} (hc : s.len ≤ s.cap) (kk : K ⟨s.a, s.len, s.len⟩) : SLI k s.a s.len s.cap none (some (s.len : Int)) (some (s.len : Int)) K := by
  refine ⟨by omega, by omega, by omega, by simp, ?_⟩
  show K _
  have e : (if s.len = 0 then s.a else s.a.map (fun x => x.add 0)) = s.a := by
    split
    · rfl
    · cases s.a <;> rfl
  simpa [e] using kk

/-- Clip of bytes -/
theorem spec88 {h : Heap} {s : Sl} (hc : s.len ≤ s.cap) :
    SPEC P 88 [s.v] [.one .sl] h h.size fun x h' => h' = h ∧ x.1 = ⟨s.a, s.len, s.len⟩ := by
  refine SPEC_of noNG Tryz.func88 (pl := pl88) (ps := [.one .sl]) (s, ()) (by kernel_rfl) (q88 (fun _ _ => False) s h) (fun Q h => by rw [q88_eq] at h; exact h) ?_
  unfold q88
  exact SLI_clip hc ⟨.refl _ _, rfl, rfl⟩

theorem BUF.clip {n : Nat} {h : Heap} {B : List UInt8} {s : Sl} (r : BUF n h B s) : BUF n h B ⟨s.a, s.len, s.len⟩ :=
  ⟨r.len, Nat.le_refl _, Nat.lt_of_le_of_lt r.cap r.small, fun e => by have := r.none_ e; have := r.cap; show s.len = 0; omega, r.blk, r.cells, fun a ha i hi => r.room a ha i (Nat.lt_of_lt_of_le hi r.cap)⟩

/-- Bytes -/
theorem spec32 {O : Nat → Prop} {h : Heap} {B : List UInt8} {p : Addr} (r : RW O h B p) (hB : B.length ≤ 2 ^ 46) :
    SPEC P 32 [.pointer (some p)] [.one .sl] h h.size fun x h' => BUF h.size h' B x.1 := by
  refine SPEC_of noNG Tryz.func32 (pl := pl32) (ps := [.one .pt]) (some p, ()) (by kernel_rfl) (q32 (fun _ _ => False) (some p) h) (fun Q h => by rw [q32_eq] at h; exact h) ?_
  unfold q32
  obtain ⟨s, hs, hbuf, hblk⟩ := r.buf
  refine ⟨p, rfl, s, fun h'' e => by rw [e]; exact hs, ?_⟩
  refine CALL_r (spec89 hbuf.rb (Nat.le_refl _) hB) (by simp) ?_
  rintro ⟨s1, _⟩ h1 hs1 g1 b1
  refine CALL_r (spec88 b1.cap) (by simp) ?_
  rintro ⟨s2, _⟩ h2 hs2 g2 ⟨rfl, e⟩
  simp only at e
  subst e
  exact ⟨g1, b1.clip⟩

/-- U8, out of 'fixed' -/
theorem spec27 {O : Nat → Prop} {h : Heap} {B : List UInt8} {p : Addr} {c : UInt8} (r : RW O h B p) (hB : B.length + 1 ≤ 2 ^ 46) :
    SPECO P 27 [.pointer (some p), .int .u8 c.toNat] [] h O fun _ h' => RW (Up O h.size) h' (B ++ [c]) p := by
  have fixed : SPECO P 85 [.pointer (some p), .int .u64 c.toNat, .int .i64 1] [] h O fun _ h' => RW (Up O h.size) h' (B ++ [c]) p := by
    refine SPECO_of noNG Tryz.func85 (pl := pl85) (ps := [.one .pt, .one (.nt .u64), .one (.nt .i64)]) (some p, (c.toNat : Int), 1, ()) (by kernel_rfl) (q85 (fun _ _ => False) (some p) (c.toNat : Int) 1 h) (fun Q h => by rw [q85_eq] at h; exact h) ?_
    unfold q85
    refine ⟨fun x h' => Chg O h h' ∧ ((x.1 = 0 ∧ h' = h) ∨ (x.1 = -1 ∧ RW (Up O h.size) h' (B ++ [c]) p)), fun x _ => (x.1 + 1).toNat, ⟨.refl _ _, .inl ⟨by decide, rfl⟩⟩, ?_⟩
    rintro ⟨x, ⟨⟩⟩ h' ⟨g, hx⟩
    simp only at hx
    refine COND_r (fun hc => ?_) (fun hc => ?_)
    · rcases hx with ⟨rfl, rfl⟩ | ⟨rfl, _⟩
      · obtain ⟨s, hs, hbuf, hblk⟩ := r.buf
        refine ⟨fun h2 => h2[p.block]? = h'[p.block]?, rfl, fun _ _ => trivial, p, rfl, s, fun h2 e => ?_, ?_⟩
        · have := hs; unfold cell at this ⊢
          rw [show (p.add 0).block = p.block from rfl, e]; exact this
        · refine ⟨by decide, ?_⟩
          have e1 : IntKind.wrap .i64 (8 * 0) = 0 := by decide
          have e2 : ishr .u64 (c.toNat : Int) 0 = (c.toNat : Int) := by
            show (c.toNat : Int).fdiv (2 ^ (min 0 64)) = _
            simp
          rw [e1, e2, u8_wrap, UInt8.ofNat_toNat]
          refine ALLOC_r (.refl h'.size h') (Nat.le_refl _) fun b h3 hb hs3 g3 _ hc => SS_r (g3.same _ r.lt) ?_
          have r3 : RW O h3 B p := r.keep (X := fun _ => False) (.of_pre g3) fun _ _ h => h
          have hs3' : cell h3 p = some s.v := by rw [g3.cell r.lt]; exact hs
          have hb3 : BUF 0 h3 B s := hbuf.keep (by omega) fun a ha => g3.same _ (hbuf.blk a ha).2
          refine APPEND_r (C := [c]) hb3 (RDC_one hc) rfl (by simp) (Nat.zero_le _) (by simpa using hB) fun s' h4 hs4 hk4 hb4 hn4 => SS_r ?_ ⟨p, rfl, ?_⟩
          · rw [hk4 _ r3.lt fun a ha e => (hblk a ha).1 e.symm]; exact g3.same _ r.lt
          · refine r3.step hs3' hblk hs4 hk4 hb4 (fun a ha => (hn4 a ha).imp id fun e => by omega) (by simp) fun h5 g5 hs5 r5 => ?_
            refine ⟨⟨(Chg.of_pre g3).then (g5.mono fun i hi ho => .inl ho), .inr ⟨by decide, r5.mono fun i hi => hi.elim .inl fun h => .inr (by omega)⟩⟩, ?_⟩
            show ((IntKind.wrap .i64 (0 - 1)) + 1).toNat < ((0 : Int) + 1).toNat
            decide
      · exact absurd hc (by decide)
    · rcases hx with ⟨rfl, _⟩ | ⟨_, hr⟩
      · exact absurd hc (by decide)
      · exact ⟨g, hr⟩
  refine SPECO_of noNG Tryz.func27 (pl := pl27) (ps := [.one .pt, .one (.nt .u8)]) (some p, (c.toNat : Int), ()) (by kernel_rfl) (q27 (fun _ _ => False) (some p) (c.toNat : Int) h) (fun Q h => by rw [q27_eq] at h; exact h) ?_
  unfold q27
  have e : IntKind.wrap .u64 (c.toNat : Int) = (c.toNat : Int) := by rw [IntKind.wrap_u64]; have := c.toNat_lt; omega
  rw [e]
  refine CALLO_r fixed (by simp) ?_
  exact fun _ h' _ g r' => ⟨g, r'⟩

end Go.VK
