/- Contracts: a value as a key (key.write, key.One). -/
import Derived.Test.YtemkcbopbinfmaaGreatDoorVEC
set_option linter.all false
namespace Go.VK
open Go Go.Proofs
set_option maxRecDepth 100000
set_option linter.unusedSimpArgs false
set_option linter.unusedVariables false

theorem unc2_i {s1 s2 : Sh} {K : Cur [s1, s2] (Heap → Prop)} {a : s1.T} {b : s2.T} {h : Heap} (k : K a b h) : unc [s1, s2] K (a, b, ()) h := k
theorem unc1_i {s1 : Sh} {K : Cur [s1] (Heap → Prop)} {a : s1.T} {h : Heap} (k : K a h) : unc [s1] K (a, ()) h := k

theorem xor63 (i : Int) (h1 : -9223372036854775808 ≤ i) (h2 : i < 9223372036854775808) : ixor .u64 (IntKind.wrap .u64 i) 9223372036854775808 = (((i + 9223372036854775808).toNat : Nat) : Int) := by
  have key : ∀ x : Nat, x < 2 ^ 64 → ixor .u64 (x : Int) 9223372036854775808 = (((x ^^^ 2 ^ 63 : Nat)) : Int) := fun x hx => by
    unfold ixor
    rw [IntKind.wrap_u64]
    have : (BitVec.ofInt IntKind.u64.bits (x : Int) ^^^ BitVec.ofInt IntKind.u64.bits 9223372036854775808).toNat = x ^^^ 2 ^ 63 := by
      show (BitVec.ofInt 64 (x : Int) ^^^ BitVec.ofInt 64 9223372036854775808).toNat = _
      have e : BitVec.ofInt 64 9223372036854775808 = BitVec.ofNat 64 (2 ^ 63) := by decide
      rw [BitVec.toNat_xor, e]
      have e1 : (BitVec.ofInt 64 (x : Int)).toNat = x := by simp; omega
      have e2 : (BitVec.ofNat 64 (2 ^ 63)).toNat = 2 ^ 63 := by decide
      rw [e1, e2]
    rw [this]
    have : x ^^^ 2 ^ 63 < 2 ^ 64 := Nat.xor_lt_two_pow hx (by decide)
    omega
  have ew : IntKind.wrap .u64 i = (((i % 18446744073709551616).toNat : Nat) : Int) := by rw [IntKind.wrap_u64]; omega
  rw [ew, key _ (by omega)]
  generalize hx : (i % 18446744073709551616).toNat = x
  have hx2 : x < 2 ^ 64 := by omega
  have d1 : (x ^^^ 2 ^ 63) % 2 ^ 63 = x % 2 ^ 63 := by rw [Nat.xor_mod_two_pow] <;> simp
  have d2 : (x ^^^ 2 ^ 63) / 2 ^ 63 = (x / 2 ^ 63) ^^^ 1 := by rw [Nat.xor_div_two_pow] <;> simp
  have d3 := Nat.div_add_mod (x ^^^ 2 ^ 63) (2 ^ 63)
  have d4 := Nat.div_add_mod x (2 ^ 63)
  have d5 : x / 2 ^ 63 = 0 ∨ x / 2 ^ 63 = 1 := by omega
  rcases d5 with d | d
  · rw [d] at d2
    have e : (0 : Nat) ^^^ 1 = 1 := by decide
    rw [e] at d2
    omega
  · rw [d] at d2
    have e : (1 : Nat) ^^^ 1 = 0 := by decide
    rw [e] at d2
    omega

/-- Eight bytes, the highest first. -/
def be8 (n : Nat) : List UInt8 := [56, 48, 40, 32, 24, 16, 8, 0].map fun s => UInt8.ofNat (n / 2 ^ s)
/-- Bytes, each zero followed by 255. -/
def esc : List UInt8 → List UInt8
  | [] => []
  | c :: r => (if c = 0 then [0, 255] else [c]) ++ esc r

mutual
/-- A value as a key. -/
def kenc : V → List UInt8
  | .mk k b i t bs l f =>
    if k = 1 then [16] else if k = 2 then [if b then 33 else 32] else if k = 3 then 48 :: be8 (i + 9223372036854775808).toNat else if k = 4 then 64 :: (esc t ++ [0, 1])
    else if k = 5 then 80 :: (esc bs ++ [0, 1]) else if k = 6 then 96 :: (kencL l ++ [1]) else []
def kencL : List V → List UInt8
  | [] => []
  | v :: r => kenc v ++ kencL r
end

theorem kencL_take : ∀ (l : List V) (i : Nat) (hi : i < l.length), kencL (l.take (i + 1)) = kencL (l.take i) ++ kenc l[i]
  | v :: r, 0, _ => by simp [kencL]
  | v :: r, i + 1, hi => by
    have := kencL_take r i (by simpa using hi)
    simp only [List.take_succ_cons, kencL, List.getElem_cons_succ, this, List.append_assoc]
theorem kencL_le : ∀ (l : List V) (i : Nat) (hi : i < l.length), (kencL (l.take i)).length + (kenc l[i]).length ≤ (kencL l).length
  | v :: r, 0, _ => by simp [kencL]
  | v :: r, i + 1, hi => by
    have := kencL_le r i (by simpa using hi)
    simp only [List.take_succ_cons, kencL, List.getElem_cons_succ, List.length_append]; omega
theorem esc_take : ∀ (l : List UInt8) (i : Nat) (hi : i < l.length), esc (l.take (i + 1)) = esc (l.take i) ++ (if l[i] = 0 then [0, 255] else [l[i]])
  | v :: r, 0, _ => by simp [esc]
  | v :: r, i + 1, hi => by
    have := esc_take r i (by simpa using hi)
    simp only [List.take_succ_cons, esc, List.getElem_cons_succ, this, List.append_assoc]
theorem esc_le : ∀ (l : List UInt8) (i : Nat), (esc (l.take i)).length ≤ (esc l).length
  | [], i => by simp
  | v :: r, 0 => by simp [esc]
  | v :: r, i + 1 => by
    have := esc_le r i
    simp only [List.take_succ_cons, esc, List.length_append]; omega

abbrev putF (p : Addr) : Value := .func (.func 117) #[] #[.pointer (some p)]

/-- One$1: a byte is put. -/
theorem spec117 {O : Nat → Prop} {h : Heap} {B : List UInt8} {p : Addr} {x : UInt8} (r : RW O h B p) (hB : B.length + 1 ≤ 2 ^ 46) :
    SPECO P 117 [.int .u8 x.toNat, .pointer (some p)] [] h O fun _ h' => RW (Up O h.size) h' (B ++ [x]) p := by
  refine SPECO_of noNG Tryz.func117 (pl := pl117) (ps := [.one (.nt .u8), .one .ad]) ((x.toNat : Int), p, ()) (by kernel_rfl) (q117 (fun _ _ => False) (x.toNat : Int) p h) (fun Q h => by rw [q117_eq] at h; exact h) ?_
  unfold q117
  obtain ⟨s, hs, hbuf, hblk⟩ := r.buf
  refine ⟨s, fun h'' e => by rw [e]; exact hs, ?_⟩
  refine ALLOC_r (.refl h.size h) (Nat.le_refl _) fun b h3 hb hs3 g3 _ hc => ?_
  have r3 : RW O h3 B p := r.keep (X := fun _ => False) (.of_pre g3) fun _ _ h => h
  have hs3' : cell h3 p = some s.v := by rw [g3.cell r.lt]; exact hs
  have hb3 : BUF 0 h3 B s := hbuf.keep (by omega) fun a ha => g3.same _ (hbuf.blk a ha).2
  refine APPEND_r (C := [x]) hb3 (RDC_one hc) rfl (by simp) (Nat.zero_le _) (by simpa using hB) fun s' h4 hs4 hk4 hb4 hn4 => ?_
  refine r3.step hs3' hblk hs4 hk4 hb4 (fun a ha => (hn4 a ha).imp id fun e => by omega) (by simp) fun h5 g5 hs5 r5 => ?_
  exact ⟨(Chg.of_pre g3).then (g5.mono fun i hi ho => .inl ho), r5.mono fun i hi => hi.elim .inl fun h => .inr (by omega)⟩

/-- What is asked of a key's writing. -/
def KWrites (n : Nat) (p : Addr) (v : V) : Prop := ∀ (O : Nat → Prop) (h : Heap) (B : List UInt8) (c : Cv), (∀ i, i < n → ¬ O i) → n ≤ h.size → RW O h B p → RV n h v c → B.length + (kenc v).length + 10 ≤ 2 ^ 46 →
  SPECO P 119 [c.v, putF p] [] h O fun _ h' => RW (Up O h.size) h' (B ++ kenc v) p

theorem ishrN (x s : Nat) (hs : s ≤ 63) : ishr .u64 (x : Int) (s : Int) = ((x / 2 ^ s : Nat) : Int) := by
  show (x : Int).fdiv (2 ^ (min ((s : Int).toNat) 64)) = _
  have e : min ((s : Int).toNat) 64 = s := by omega
  rw [e, Int.fdiv_eq_ediv_of_nonneg _ (by
    have : (0 : Int) < 2 ^ s := Int.pow_pos (by decide)
    omega)]
  have : ((2 : Int) ^ s) = ((2 ^ s : Nat) : Int) := by simp
  rw [this]
  exact (Int.natCast_ediv _ _).symm

/-- key.write -/
theorem spec119 (n : Nat) (p : Addr) (v : V) : KWrites n p v := by
  obtain ⟨k, b, i, t, bs, l, f⟩ := v
  intro O h B c hO hn r rv hB
  have ihl : ∀ v ∈ l, KWrites n p v := fun v hv => spec119 n p v
  obtain ⟨⟨a1, a2, a3, a4, a5, a6⟩, a7, a8, ⟨a9, a10⟩, a11, a12⟩ := rv
  refine SPECO_of noNG Tryz.func119 (pl := pl119) (ps := [.agg [.nt .u8, .bl, .nt .i64, .tx, .sl, .sl, .sl], .one .oq]) (c.k, c.b, c.i, c.t, c.bs, c.ls, c.fs, putF p, ()) (by kernel_rfl)
    (q119 (fun _ _ => False) c.k c.b c.i c.t c.bs c.ls c.fs (putF p) h) (fun Q h => by rw [q119_eq] at h; exact h) ?_
  unfold q119
  refine ALLOC_r (.refl h.size h) (Nat.le_refl _) fun b2 h2 hb2 hs2 g2 _ hc2 => ?_
  have r2 := r.cut.keep (X := fun _ => False) (.of_pre g2) fun _ _ h => h
  generalize hOO : (fun b => O b ∧ b < h.size) = O2 at r2
  have hO2 : ∀ i, O2 i → O i ∧ i < h.size := fun i hi => by rw [← hOO] at hi; exact hi
  have hn2 : ∀ i, i < n → ¬ O2 i := fun i hi e => hO i hi (hO2 i e).1
  have pre2 : ∀ {X : Heap}, Chg O2 h2 X → Pre n h2 X := fun g => g.pre hn2 (by omega)
  have up : ∀ {X : Heap}, Chg O2 h2 X → Chg O h X := fun g => (Chg.of_pre g2).then (g.mono fun i hi ho => .inl (hO2 i ho).1)
  refine BTS_r (n := n) (a8.pre g2 hn) fun v14 hv14 => ?_
  intro kk hk
  have fin : ∀ (X : Heap) (C : List UInt8), kenc (.mk k b i t bs l f) = C → Chg O2 h2 X → RW (Up O2 h2.size) X (B ++ C) p → kk X := fun X C e g r' => by
    refine hk () X ⟨up g, ?_⟩
    rw [e]
    exact r'.mono fun i hi => hi.elim (fun e => .inl (hO2 i e).1) fun e => .inr (by omega)
  have two : ∀ {X Y : Heap}, Chg O2 h2 X → Chg (Up O2 h2.size) X Y → Chg O2 h2 Y := fun g g' => g.then g'
  have flat2 : ∀ {X : Heap}, h2.size ≤ X.size → ∀ i, Up (Up O2 h2.size) X.size i → Up O2 h2.size i := fun hx i hi => hi.elim id fun e => .inr (by omega)
  have kb0 : ∀ b ∈ [b2], b < h2.size ∧ ¬ O2 b := kb1 ⟨by omega, fun e => by have := (hO2 _ e).2; omega⟩
  have kb : ∀ {X : Heap}, Chg O2 h2 X → ∀ b ∈ [b2], b < X.size ∧ ¬ Up O2 h2.size b := fun {X} g => kb1 ⟨by have := g.sz; omega, fun e => e.elim (fun e => by have := (hO2 _ e).2; omega) (fun e => by omega)⟩
  have eqk : ∀ m : Nat, ((c.k == (m : Int)) = true → k = m) ∧ ((c.k == (m : Int)) = false → k ≠ m) := fun m => by
    rw [a1]
    constructor
    · intro h; have : (k : Int) = m := by simpa using h
      omega
    · intro h; have : ¬ (k : Int) = m := by simpa using h
      omega
  -- one byte
  have one : ∀ {O' : Nat → Prop} {X : Heap} {C : List UInt8} {x : UInt8} {bs : List Nat} {K : Heap → Prop}, RW O' X C p → C.length + 1 ≤ 2 ^ 46 → (∀ b ∈ bs, b < X.size ∧ ¬ O' b) → (∀ Y, X.size ≤ Y.size → Chg O' X Y → RW (Up O' X.size) Y (C ++ [x]) p → K Y) →
      CALLV P (fun _ _ => False) (putF p) [.int .u8 x.toNat] [] X bs K := fun {O' X C x bs K} r' hl hb k =>
    CALLV_r (R := []) (Q := fun _ Y => RW (Up O' X.size) Y (C ++ [x]) p) (by kernel_rfl) (spec117 r' hl) hb fun _ Y hY gY rY => k Y hY gY rY
  have lenB : B.length + 10 ≤ 2 ^ 46 := by omega
  intro k4 hk4
  -- a text's bytes
  have txt : ∀ (tag : UInt8) (u : List UInt8) (x : ByteArray), kenc (.mk k b i t bs l f) = tag :: (esc u ++ [0, 1]) → x.data.toList = u → u.length < 2 ^ 63 → k4 (tag.toNat : Int) x h2 := fun tag u x he hx hu => by
    refine hk4 (tag.toNat, x, ()) h2 ?_
    refine unc2_i (s1 := .nt .u8) (s2 := .tx) ?_
    rw [he] at hB
    simp only [List.length_cons, List.length_append, List.length_nil] at hB
    refine one r2 (by omega) (by simp) fun X hsX gX rX => ?_
    have hxs : x.size = u.length := by rw [← hx, Array.length_toList]; rfl
    refine ⟨by omega, fun cp hcp hcp2 => ?_⟩
    have rX2 := rX.cut
    have rc : ∀ i, i < u.length → cell (X.push (.cells (bytesV x ++ List.replicate (cp - x.size) (Value.int .u8 0)).toArray 5 (cp, cp + 1))) ((⟨X.size, 0, none⟩ : Addr).add i) = (u[i]?).map fun b => Value.int .u8 b.toNat := fun i hi => by
      rw [cell_pushed, List.getElem?_append_left (by rw [bytesV_eq hx]; simp [u8s]; omega), bytesV_eq hx]
      simp [u8s]
    have rX3 := rX2.push (.cells (bytesV x ++ List.replicate (cp - x.size) (Value.int .u8 0)).toArray 5 (cp, cp + 1))
    have hsz : (X.push (.cells (bytesV x ++ List.replicate (cp - x.size) (Value.int .u8 0)).toArray 5 (cp, cp + 1))).size = X.size + 1 := by simp
    have gXp : Chg O2 h2 (X.push (.cells (bytesV x ++ List.replicate (cp - x.size) (Value.int .u8 0)).toArray 5 (cp, cp + 1))) := gX.push _
    generalize X.push (.cells (bytesV x ++ List.replicate (cp - x.size) (Value.int .u8 0)).toArray 5 (cp, cp + 1)) = H at rc rX3 hsz gXp ⊢
    refine LOOP_up (N := u.length) (fun j Y => Chg O2 h2 Y ∧ H.size ≤ Y.size ∧ Y[X.size]? = H[X.size]? ∧ ∃ O', ¬ O' X.size ∧ (∀ i, O' i → Up O2 h2.size i) ∧ RW O' Y (B ++ (tag :: esc (u.take j))) p) (by omega)
      ⟨gXp, Nat.le_refl _, rfl, fun b => Up O2 h2.size b ∧ b < X.size, fun e => by have : X.size < X.size := e.2; omega, fun i e => And.left e, by simpa [esc] using rX3⟩ ?_
    rintro j Y hj ⟨gY, hsY, kY, O', o1, o2, rY⟩ nx hnx
    refine COND_r (fun hc => ?_) (fun hc => ?_)
    · have hj1 : j < u.length := by have := ltI hc; have e : (⟨some ⟨X.size, 0, none⟩, x.size, cp⟩ : Sl).len = x.size := rfl; rw [e] at this; omega
      intro k24 hk24
      refine IXA_r (a0 := ⟨X.size, 0, none⟩) (j := j) rfl rfl (by show j < x.size; omega) ?_
      have hl2 := esc_le u j
      have hl3 := esc_le u (j + 1)
      have et := esc_take u j hj1
      have hl4 : (esc (u.take (j + 1))).length = (esc (u.take j)).length + (if u[j] = 0 then [0, 255] else [u[j]]).length := by rw [et, List.length_append]
      have hone : 1 ≤ (if u[j] = 0 then [0, 255] else [u[j]]).length := by split <;> simp
      refine ⟨(u[j].toNat : Int), fun h' e => ?_, ?_⟩
      · have e : h' = Y := e
        subst e
        have := rc j hj1
        rw [Nat.mul_one, cell_same (h := H) (by rw [add_block]; exact kY), this]
        simp [hj1, Sh.v]
      refine one rY (by simp; omega) (by simp) fun Z hsZ gZ rZ => ?_
      have goal : ∀ (W : Heap), Chg O2 h2 W → H.size ≤ W.size → W[X.size]? = H[X.size]? → (∃ O', ¬ O' X.size ∧ (∀ i, O' i → Up O2 h2.size i) ∧ RW O' W (B ++ (tag :: esc (u.take (j + 1)))) p) → k24 W := fun W w1 w2 w3 w4 =>
        hk24 () W (hnx _ hj1 ⟨w1, w2, w3, w4⟩)
      have cZ : Chg O2 h2 Z := gY.then (gZ.mono fun i hi ho => o2 i ho)
      have oZ : ¬ Up O' Y.size X.size := fun e => e.elim o1 fun e => by omega
      have oZ2 : ∀ i, Up O' Y.size i → Up O2 h2.size i := fun i e => e.elim (o2 i) fun e => .inr (by have := gY.sz; omega)
      have kZ : Z[X.size]? = H[X.size]? := (gZ.same _ (by omega) o1).trans kY
      refine COND_r (fun hc2 => ?_) (fun hc2 => ?_)
      · have hz : u[j] = 0 := by
          have : (u[j].toNat : Int) = 0 := by simpa using hc2
          exact UInt8.toNat_inj.1 (by have : u[j].toNat = 0 := by omega
                                      simpa using this)
        rw [if_pos hz] at et hl4
        simp only [List.length_cons, List.length_nil] at hl4
        refine one (x := 255) rZ (by simp; omega) (by simp) fun W hsW gW rW => ?_
        refine goal W (cZ.then (gW.mono fun i hi ho => oZ2 i ho)) (by omega) ((gW.same _ (by omega) oZ).trans kZ) ⟨Up (Up O' Y.size) Z.size, fun e => e.elim oZ fun e => by omega, fun i e => e.elim (oZ2 i) fun e => .inr (by have := cZ.sz; omega), ?_⟩
        rw [et, hz] at *
        simpa using rW
      · have hz : ¬ u[j] = 0 := by
          have : ¬ (u[j].toNat : Int) = 0 := by simpa using hc2
          intro e; rw [e] at this; simp at this
        rw [if_neg hz] at et
        refine goal Z cZ (by omega) kZ ⟨_, oZ, oZ2, ?_⟩
        rw [et]
        simpa using rZ
    · have hj1 := geI hc
      have hj2 : j = u.length := by
        have e : (⟨some ⟨X.size, 0, none⟩, x.size, cp⟩ : Sl).len = x.size := rfl
        rw [e] at hj1; omega
      rw [hj2, List.take_length] at rY
      refine one (x := 0) rY (by simp; omega) (by simp) fun Z hsZ gZ rZ => ?_
      refine one (x := 1) rZ (by simp; omega) (by simp) fun W hsW gW rW => ?_
      have cZ : Chg O2 h2 Z := gY.then (gZ.mono fun i hi ho => o2 i ho)
      have oZ2 : ∀ i, Up O' Y.size i → Up O2 h2.size i := fun i e => e.elim (o2 i) fun e => .inr (by have := gY.sz; omega)
      refine fin W _ he (cZ.then (gW.mono fun i hi ho => oZ2 i ho)) ?_
      have := rW.mono (O' := Up O2 h2.size) fun i (e : Up (Up O' Y.size) Z.size i) => e.elim (oZ2 i) fun e => .inr (by have := cZ.sz; omega)
      simpa using this
  refine COND_r (fun hc => ?_) (fun hn1 => ?_)
  · have hk := (eqk 1).1 hc
    exact one (x := 16) r2 (by omega) kb0 fun X hsX gX rX => fin X [16] (by simp [kenc, hk]) gX rX
  have hk1 := (eqk 1).2 hn1
  refine COND_r (fun hc => ?_) (fun hn1 => ?_)
  · have hk := (eqk 2).1 hc
    refine COND_r (fun hb => ?_) (fun hb => ?_)
    · exact one (x := 33) r2 (by omega) kb0 fun X hsX gX rX => fin X [33] (by rw [a3] at hb; simp [kenc, hk, hb]) gX rX
    · exact one (x := 32) r2 (by omega) kb0 fun X hsX gX rX => fin X [32] (by rw [a3] at hb; simp [kenc, hk, hb]) gX rX
  have hk2 := (eqk 2).2 hn1
  refine COND_r (fun hc => ?_) (fun hn1 => ?_)
  · have hk := (eqk 3).1 hc
    have he : kenc (.mk k b i t bs l f) = 48 :: be8 (i + 9223372036854775808).toNat := by simp [kenc, hk]
    refine one (x := 48) r2 (by omega) kb0 fun X hsX gX rX => ?_
    rw [a4, xor63 i a5 a6]
    generalize (i + 9223372036854775808).toNat = N at he
    refine ⟨fun x Y => ∃ j : Nat, j ≤ 8 ∧ x.1 = 56 - 8 * (j : Int) ∧ Chg O2 h2 Y ∧ RW (Up O2 h2.size) Y (B ++ (48 :: (be8 N).take j)) p, fun x _ => (x.1 + 8).toNat, ⟨0, by omega, by decide, gX, by simpa using rX⟩, ?_⟩
    rintro ⟨x, ⟨⟩⟩ Y ⟨j, hj8, hx, gY, rY⟩
    simp only at hx
    subst hx
    refine COND_r (fun hc => ?_) (fun hc => ?_)
    · have hc : (56 - 8 * (j : Int)) ≥ 0 := by simpa using hc
      have hj1 : j < 8 := by omega
      obtain ⟨s, hs⟩ : ∃ s : Nat, s = 56 - 8 * j := ⟨_, rfl⟩
      have hxs : (56 - 8 * (j : Int)) = (s : Int) := by omega
      refine ⟨hc, ?_⟩
      rw [hxs, ishrN N s (by omega), u8_wrap]
      have hlt : ((be8 N).take j).length ≤ 8 := by simp; omega
      refine one rY (by simp at hlt ⊢; omega) (by simp) fun Z hsZ gZ rZ => ?_
      have hw : IntKind.wrap .i64 ((s : Int) - 8) = (s : Int) - 8 := wrap_small (by omega) (by omega)
      rw [hw]
      have ht : (be8 N).take (j + 1) = (be8 N).take j ++ [UInt8.ofNat (N / 2 ^ s)] := by
        subst hs
        have : ∀ j, j < 8 → (be8 N).take (j + 1) = (be8 N).take j ++ [UInt8.ofNat (N / 2 ^ (56 - 8 * j))] := by
          intro j hj
          have e : (be8 N)[j]? = some (UInt8.ofNat (N / 2 ^ (56 - 8 * j))) := by
            unfold be8
            match j, hj with
            | 0, _ => rfl
            | 1, _ => rfl
            | 2, _ => rfl
            | 3, _ => rfl
            | 4, _ => rfl
            | 5, _ => rfl
            | 6, _ => rfl
            | 7, _ => rfl
          rw [List.take_add_one, e]; rfl
        exact this j hj1
      refine ⟨⟨j + 1, by omega, by show (s : Int) - 8 = _; omega, two gY gZ, ?_⟩, ?_⟩
      · rw [ht]
        have := rZ.mono (flat2 gY.sz)
        simpa using this
      · show ((s : Int) - 8 + 8).toNat < ((s : Int) + 8).toNat
        omega
    · have hc : ¬ (56 - 8 * (j : Int)) ≥ 0 := by simpa using hc
      have hj8' : j = 8 := by omega
      refine fin Y _ he gY ?_
      rw [hj8'] at rY
      exact rY
  have hk3 := (eqk 3).2 hn1
  refine COND_r (fun hc => ?_) (fun hn1 => ?_)
  · have hk := (eqk 4).1 hc
    exact txt 64 t c.t (by simp [kenc, hk]) a7.eq a7.small
  have hk4' := (eqk 4).2 hn1
  refine COND_r (fun hc => ?_) (fun hn1 => ?_)
  · have hk := (eqk 5).1 hc
    exact txt 80 bs v14 (by simp [kenc, hk]) hv14 (by have := a8.len; have := a8.cap; have := a8.small; omega)
  have hk5 := (eqk 5).2 hn1
  refine COND_r (fun hc => ?_) (fun hn1 => ?_)
  · have hk := (eqk 6).1 hc
    have he : kenc (.mk k b i t bs l f) = 96 :: (kencL l ++ [1]) := by simp [kenc, hk]
    rw [he] at hB
    simp only [List.length_cons, List.length_append, List.length_nil] at hB
    have e6 := a9.len
    have e7 := a9.cap
    have e8 := a9.small
    refine one (x := 96) r2 (by omega) kb0 fun X hsX gX rX => ?_
    refine LOOP_up (N := l.length) (fun j Y => Chg O2 h2 Y ∧ RW (Up O2 h2.size) Y (B ++ (96 :: kencL (l.take j))) p) (by omega) ⟨gX, by simpa [kencL] using rX⟩ ?_
    rintro j h3 hj ⟨g3, r3⟩ nx hnx
    have hs3 := g3.sz
    refine COND_r (fun hc => ?_) (fun hc => ?_)
    · have hj1 := ltI hc
      rw [e6] at hj1
      refine (RL.pre (pre2 g3) (Nat.le_refl _) _ _ _ (RL.pre g2 hn _ _ _ a10)).ix a9 rfl hj1 (fun h'' e => by rw [e]; exact .refl _ _) fun c1 q1 => ?_
      refine ALLOC_r (.refl h3.size h3) (Nat.le_refl _) fun b7 h4 hb7 hs4 g4 _ _ => ?_
      refine PUTN_r g4 (by omega) (by simp [oneC, Sl.v]) fun h5 hs5 g5 _ => ?_
      have r5 := r3.cut.keep (X := fun _ => False) (.of_pre g5) fun _ _ h => h
      have hle := kencL_le l j hj1
      refine CALLO_r (ihl _ (List.getElem_mem hj1) _ h5 _ c1 (fun i hi e => e.1.elim (hn2 i hi) (fun e => by omega)) (by omega) r5 (RV.pre g5 (by omega) _ _ q1) (by simp; omega)) (kb1 ⟨by omega, fun e => by omega⟩) ?_
      intro _ h6 hs6 g6 r6
      refine hnx _ hj1 ⟨(g3.then (.of_pre g5)).then (g6.mono fun i hi ho => ?_), ?_⟩
      · exact ho.1.imp id fun e => e
      · rw [kencL_take l j hj1]
        have := r6.mono (O' := Up O2 h2.size) fun i hi => hi.elim (fun e => e.1) fun e => .inr (by omega)
        simpa using this
    · have hj1 := geI hc
      have hjl : l.take j = l := List.take_of_length_le (by omega)
      rw [hjl] at r3
      refine one (x := 1) r3 (by simp; omega) (by simp) fun Z hsZ gZ rZ => ?_
      refine fin Z _ he (two g3 gZ) ?_
      have := rZ.mono (flat2 g3.sz)
      simpa using this
  have hk6 := (eqk 6).2 hn1
  refine fin h2 [] (by simp [kenc, *]) (.refl _ _) ?_
  simpa using r2.mono fun i hi => .inl hi
termination_by SizeOf.sizeOf v
decreasing_by
  all_goals simp_wf
  · have := List.sizeOf_lt_of_mem hv; omega

end Go.VK
