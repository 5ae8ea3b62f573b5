/- Contracts: a value's bytes (doc.write). -/
import Derived.Test.YtemkcbopbinfmaaGreatDoorVE3
set_option linter.all false
namespace Go.VK
open Go Go.Proofs
set_option maxRecDepth 100000
set_option linter.unusedVariables false

/-- A number of either sign, as one of none. -/
def zz (i : Int) : Nat := if 0 ≤ i then (2 * i).toNat else (-2 * i - 1).toNat

theorem ishr63 (i : Int) (h1 : -9223372036854775808 ≤ i) (h2 : i < 9223372036854775808) : ishr .i64 i 63 = if 0 ≤ i then 0 else -1 := by
  show i.fdiv (2 ^ (min 63 64)) = _
  rw [Int.fdiv_eq_ediv_of_nonneg _ (by decide)]
  have : (2 : Int) ^ (min 63 64) = 9223372036854775808 := by decide
  rw [this]
  split <;> omega

theorem ixor0 (x : Nat) (h : x < 2 ^ 64) : ixor .u64 (x : Int) 0 = (x : Int) := by
  unfold ixor
  rw [IntKind.wrap_u64]
  have : (BitVec.ofInt IntKind.u64.bits (x : Int) ^^^ BitVec.ofInt IntKind.u64.bits 0).toNat = x := by
    show (BitVec.ofInt 64 (x : Int) ^^^ BitVec.ofInt 64 0).toNat = x
    have e : BitVec.ofInt 64 0 = 0#64 := by decide
    rw [e, BitVec.xor_zero]
    simp
    omega
  rw [this]; omega

theorem ixorAll (x : Nat) (h : x < 2 ^ 64) : ixor .u64 (x : Int) 18446744073709551615 = ((18446744073709551615 - x : Nat) : Int) := by
  unfold ixor
  rw [IntKind.wrap_u64]
  have : (BitVec.ofInt IntKind.u64.bits (x : Int) ^^^ BitVec.ofInt IntKind.u64.bits 18446744073709551615).toNat = 18446744073709551615 - x := by
    show (BitVec.ofInt 64 (x : Int) ^^^ BitVec.ofInt 64 18446744073709551615).toNat = _
    have e : BitVec.ofInt 64 18446744073709551615 = BitVec.allOnes 64 := by decide
    rw [e, BitVec.xor_allOnes, BitVec.toNat_not]
    simp
    omega
  rw [this]; omega

theorem zz_val (i : Int) (h1 : -9223372036854775808 ≤ i) (h2 : i < 9223372036854775808) :
    ixor .u64 (ishl .u64 (IntKind.wrap .u64 i) 1) (IntKind.wrap .u64 (ishr .i64 i 63)) = ((zz i : Nat) : Int) := by
  have e1 : ishl .u64 (IntKind.wrap .u64 i) 1 = (((2 * i) % 18446744073709551616).toNat : Int) := by
    show IntKind.wrap .u64 (IntKind.wrap .u64 i * 2 ^ (min 1 64)) = _
    rw [IntKind.wrap_u64, IntKind.wrap_u64]
    have : (2 : Int) ^ (min 1 64) = 2 := by decide
    rw [this]; omega
  rw [e1, ishr63 i h1 h2]
  unfold zz
  split
  · have e2 : IntKind.wrap .u64 0 = 0 := by decide
    rw [e2, ixor0 _ (by omega)]
    omega
  · have e2 : IntKind.wrap .u64 (-1) = 18446744073709551615 := by decide
    rw [e2, ixorAll _ (by omega)]
    omega

/-- Signed -/
theorem spec165 {O : Nat → Prop} {h : Heap} {B : List UInt8} {p : Addr} {i : Int} (r : RW O h B p) (h1 : -9223372036854775808 ≤ i) (h2 : i < 9223372036854775808) (hB : B.length + 10 ≤ 2 ^ 46) :
    SPECO P 165 [.pointer (some p), .int .i64 i] [] h O fun _ h' => RW (Up O h.size) h' (B ++ vint (zz i)) p := by
  refine SPECO_of noNG Tryz.func165 (pl := pl165) (ps := [.one .pt, .one (.nt .i64)]) (some p, i, ()) (by kernel_rfl) (q165 (fun _ _ => False) (some p) i h) (fun Q h => by rw [q165_eq] at h; exact h) ?_
  unfold q165
  refine ⟨by decide, by decide, ?_⟩
  rw [zz_val i h1 h2]
  refine CALLO_r (spec86 r (by unfold zz; split <;> omega) hB) (by simp) ?_
  exact fun _ h' _ g r' => ⟨g, r'⟩

mutual
/-- A value's bytes. -/
def enc : V → List UInt8
  | .mk k b i t bs l f =>
    if k = 1 then [1] else if k = 2 then [if b then 3 else 2] else if k = 3 then 4 :: vint (zz i) else if k = 4 then 5 :: (vint t.length ++ t)
    else if k = 5 then 6 :: (vint bs.length ++ bs) else if k = 6 then 7 :: (vint l.length ++ encL l) else if k = 7 then 8 :: (vint f.length ++ encF f) else []
def encL : List V → List UInt8
  | [] => []
  | v :: r => enc v ++ encL r
def encF : List (List UInt8 × V) → List UInt8
  | [] => []
  | (n, v) :: r => vint n.length ++ n ++ enc v ++ encF r
end

theorem CALLV_r {P : Program} {Z : List PanicEntry → Heap → Prop} {f : FuncId} {first cap : Array Value} {args : List Value} {R : List Lay} {h : Heap} {bs : List Nat} {K : Cur (flat R) (Heap → Prop)} {O : Nat → Prop} {Q : TT (flat R) → Heap → Prop}
    (hb : ((P.funcs[f]?).any (·.body.isSome)) = true) (c : SPECO P f (first.toList ++ args ++ cap.toList) R h O Q) (hk : ∀ b ∈ bs, b < h.size ∧ ¬ O b) (k : ∀ x h', h.size ≤ h'.size → Chg O h h' → Q x h' → unc _ K x h') :
    CALLV P Z (.func (.func f) first cap) args R h bs K :=
  .inl ⟨f, first, cap, rfl, hb, fun w hw => (c w hw).mono fun e w' ⟨h1, h2, h3, h4⟩ => ⟨h1, h2, h3, by
    cases e with
    | returned v =>
      obtain ⟨x, e, _, hx⟩ := h4
      rw [unc_cur] at hx
      exact ⟨x, e, hx.1.keep hk, k x _ hx.1.sz hx.1 hx.2⟩
    | panicked c => exact h4.elim
    | outgrown => exact h4⟩⟩

theorem RW.cut {O : Nat → Prop} {h : Heap} {B : List UInt8} {p : Addr} (r : RW O h B p) : RW (fun b => O b ∧ b < h.size) h B p :=
  ⟨⟨r.own, r.lt⟩, r.lt, r.frz, let ⟨s, h1, h2, h3⟩ := r.buf; ⟨s, h1, h2, fun a ha => ⟨(h3 a ha).1, (h3 a ha).2, (h2.blk a ha).2⟩⟩⟩

theorem BTS_r {n : Nat} {h : Heap} {l : List UInt8} {s : Sl} (r : RB n h l s) {K : ByteArray → Prop} (k : ∀ x : ByteArray, x.data.toList = l → K x) : BTS s.a s.len (EQ h) K := by
  unfold BTS
  split
  · rename_i ha
    refine k _ ?_
    cases l with
    | nil => rfl
    | cons b l => obtain ⟨a, h1, _⟩ := r.at_ (by simp); rw [ha] at h1; cases h1
  · rename_i a ha
    refine ⟨l.map fun b => (b.toNat : Int), by simp [r.len], ?_, k _ ?_⟩
    · intro h' e i hi
      rw [e]
      have hi : i < l.length := by simpa using hi
      obtain ⟨a', h1, _, h3⟩ := r.at_ (by intro e; subst e; simp at hi)
      obtain rfl := Option.some.inj (ha.symm.trans h1)
      rw [h3 i hi]; simp [hi]
    · simp [List.map_map]
      have : (fun b : UInt8 => UInt8.ofNat ((b.toNat : Int)).toNat) = id := by funext b; simp
      exact List.map_congr_left (g := id) (fun b _ => by simp) |>.trans (List.map_id _)

/-- What is asked of a value's writing. -/
def Writes (n : Nat) (p : Addr) (v : V) : Prop := ∀ (O : Nat → Prop) (h : Heap) (B : List UInt8) (c : Cv), (∀ i, i < n → ¬ O i) → n ≤ h.size → RW O h B p → RV n h v c → B.length + 100 * (enc v).length + 200 ≤ 2 ^ 46 →
  SPECO P 132 [.pointer (some p), c.v] [] h O fun _ h' => RW (Up O h.size) h' (B ++ enc v) p

theorem Chg.cell {O : Nat → Prop} {h h' : Heap} (g : Chg O h h') {a : Addr} (hb : a.block < h.size) (ho : ¬ O a.block) : Go.VK.cell h' a = Go.VK.cell h a := by
  unfold Go.VK.cell; rw [g.same _ hb ho]

/-- doc.write's way with a list's element -/
theorem spec167 {n : Nat} {p q : Addr} {v : V} (ih : Writes n p v) {O : Nat → Prop} {h : Heap} {B : List UInt8} {c : Cv} (hO : ∀ i, i < n → ¬ O i) (hn : n ≤ h.size) (r : RW O h B p) (rv : RV n h v c) (hB : B.length + 100 * (enc v).length + 200 ≤ 2 ^ 46)
    (hq : cell h q = some (.pointer (some p))) : SPECO P 167 [c.v, .pointer (some q)] [] h O fun _ h' => RW (Up O h.size) h' (B ++ enc v) p := by
  refine SPECO_of noNG Tryz.func167 (pl := pl167) (ps := [.agg [.nt .u8, .bl, .nt .i64, .tx, .sl, .sl, .sl], .one .ad]) (c.k, c.b, c.i, c.t, c.bs, c.ls, c.fs, q, ()) (by kernel_rfl)
    (q167 (fun _ _ => False) c.k c.b c.i c.t c.bs c.ls c.fs q h) (fun Q h => by rw [q167_eq] at h; exact h) ?_
  unfold q167
  refine ALLOC_r (.refl h.size h) (Nat.le_refl _) fun b2 h1 hb2 hs1 g1 _ _ => ?_
  refine ⟨some p, fun h' e => by rw [e, g1.cell (cell_block hq)]; exact hq, ?_⟩
  have r1 : RW _ h1 B p := (r.keep (X := fun _ => False) (.of_pre g1) fun _ _ h => h).mono fun i hi => hi
  have r2 := r.cut.keep (X := fun _ => False) (.of_pre g1) fun _ _ h => h
  refine CALLO_r (ih _ h1 B c (fun i hi e => hO i hi e.1) (by omega) r2 (RV.pre g1 hn _ _ rv) hB) (by simp; omega) ?_
  intro _ h2 hs2 g2 r3
  exact ⟨(Chg.of_pre g1).then (g2.mono fun i hi ho => .inl ho.1), r3.mono fun i hi => hi.elim (fun e => .inl e.1) fun e => .inr (by omega)⟩

/-- doc.write's way with a field -/
theorem spec169 {n : Nat} {p q : Addr} {v : V} (ih : Writes n p v) {O : Nat → Prop} {h : Heap} {B t : List UInt8} {x : ByteArray} {c : Cv} (hO : ∀ i, i < n → ¬ O i) (hn : n ≤ h.size) (r : RW O h B p) (ht : TX t x) (rv : RV n h v c)
    (hB : B.length + 100 * ((vint t.length).length + t.length + (enc v).length) + 200 ≤ 2 ^ 46) (hq : cell h q = some (.pointer (some p))) (hqO : ¬ O q.block) :
    SPECO P 169 [.agg (.string x :: c.cells).toArray, .pointer (some q)] [] h O fun _ h' => RW (Up O h.size) h' (B ++ (vint t.length ++ t ++ enc v)) p := by
  refine SPECO_of noNG Tryz.func169 (pl := pl169) (ps := [.agg [.tx, .nt .u8, .bl, .nt .i64, .tx, .sl, .sl, .sl], .one .ad]) (x, c.k, c.b, c.i, c.t, c.bs, c.ls, c.fs, q, ()) (by kernel_rfl)
    (q169 (fun _ _ => False) x c.k c.b c.i c.t c.bs c.ls c.fs q h) (fun Q h => by rw [q169_eq] at h; exact h) ?_
  unfold q169
  have hqb := cell_block hq
  have e2 := ht.small
  have hl := vint_len64 (n := t.length) (by omega)
  refine ALLOC_r (.refl h.size h) (Nat.le_refl _) fun b2 h1 hb2 hs1 g1 _ _ => ?_
  refine ⟨some p, fun h' e => by rw [e, g1.cell hqb]; exact hq, ?_⟩
  have r2 := r.cut.keep (X := fun _ => False) (.of_pre g1) fun _ _ h => h
  refine CALLO_r (spec28 r2 ht (by omega)) (by simp; omega) ?_
  intro _ h2 hs2 g2 r3
  have g12 : Chg O h h2 := (Chg.of_pre g1).then (g2.mono fun i hi ho => .inl ho.1)
  refine ⟨some p, fun h' e => by rw [e, g12.cell hqb hqO]; exact hq, ?_⟩
  have r4 : RW (fun b => Up O h.size b ∧ b ≠ b2) h2 (B ++ (vint t.length ++ t)) p := r3.mono fun i hi => hi.elim (fun e => ⟨.inl e.1, by omega⟩) fun e => ⟨.inr (by omega), by omega⟩
  refine CALLO_r (ih _ h2 _ c (fun i hi e => e.1.elim (hO i hi) (fun e => by omega)) (by omega) r4 (RV.pre (g12.pre hO hn) (Nat.le_refl _) _ _ rv) (by simp; omega)) (by simp; omega) ?_
  intro _ h3 hs3 g3 r5
  refine ⟨g12.then (g3.mono fun i hi ho => ho.1), ?_⟩
  have e : B ++ (vint t.length ++ t) ++ enc v = B ++ (vint t.length ++ t ++ enc v) := by simp
  rw [e] at r5
  exact r5.mono fun i hi => hi.elim (fun e => e.1) fun e => .inr (by omega)

theorem encL_take : ∀ (l : List V) (i : Nat) (hi : i < l.length), encL (l.take (i + 1)) = encL (l.take i) ++ enc l[i]
  | v :: r, 0, _ => by simp [encL]
  | v :: r, i + 1, hi => by
    have := encL_take r i (by simpa using hi)
    simp only [List.take_succ_cons, encL, List.getElem_cons_succ, this, List.append_assoc]
theorem encF_take : ∀ (l : List (List UInt8 × V)) (i : Nat) (hi : i < l.length), encF (l.take (i + 1)) = encF (l.take i) ++ (vint l[i].1.length ++ l[i].1 ++ enc l[i].2)
  | (n, v) :: r, 0, _ => by simp [encF]
  | (n, v) :: r, i + 1, hi => by
    have := encF_take r i (by simpa using hi)
    simp only [List.take_succ_cons, encF, List.getElem_cons_succ, this, List.append_assoc]

theorem encL_le : ∀ (l : List V) (i : Nat) (hi : i < l.length), (encL (l.take i)).length + (enc l[i]).length ≤ (encL l).length
  | v :: r, 0, _ => by simp [encL]
  | v :: r, i + 1, hi => by
    have := encL_le r i (by simpa using hi)
    simp only [List.take_succ_cons, encL, List.getElem_cons_succ, List.length_append]; omega
theorem encF_le : ∀ (l : List (List UInt8 × V)) (i : Nat) (hi : i < l.length), (encF (l.take i)).length + (vint l[i].1.length ++ l[i].1 ++ enc l[i].2).length ≤ (encF l).length
  | (n, v) :: r, 0, _ => by simp [encF]
  | (n, v) :: r, i + 1, hi => by
    have := encF_le r i (by simpa using hi)
    simp only [List.take_succ_cons, encF, List.getElem_cons_succ, List.length_append] at this ⊢; omega

/-- many, of a list -/
theorem spec166 {n : Nat} {p q : Addr} {l : List V} (ih : ∀ v ∈ l, Writes n p v) {O : Nat → Prop} {h : Heap} {B : List UInt8} {s : Sl} (hO : ∀ i, i < n → ¬ O i) (hn : n ≤ h.size) (r : RW O h B p) (rl : RL n h l s.a 0) (sh : SH n l.length s)
    (hB : B.length + 100 * ((vint l.length).length + (encL l).length) + 200 ≤ 2 ^ 46) (hq : cell h q = some (.pointer (some p))) (hqO : ¬ O q.block) :
    SPECO P 166 [.pointer (some p), s.v, .func (.func 167) #[] #[.pointer (some q)]] [] h O fun _ h' => RW (Up O h.size) h' (B ++ (vint l.length ++ encL l)) p := by
  refine SPECO_of noNG Tryz.func166 (pl := pl166) (ps := [.one .pt, .one .sl, .one .oq]) (some p, s, .func (.func 167) #[] #[.pointer (some q)], ()) (by kernel_rfl)
    (q166 (fun _ _ => False) (some p) s (.func (.func 167) #[] #[.pointer (some q)]) h) (fun Q h => by rw [q166_eq] at h; exact h) ?_
  unfold q166
  have e1 := sh.len
  have e2 := sh.cap
  have e3 := sh.small
  have hqb := cell_block hq
  have e4 : IntKind.wrap .u64 (s.len : Int) = ((l.length : Nat) : Int) := by rw [IntKind.wrap_u64, e1]; omega
  rw [e4]
  have hl := vint_len64 (n := l.length) (by omega)
  refine CALLO_r (spec86 r (by omega) (by omega)) (by simp) ?_
  intro _ h1 hs1 g1 r1
  refine LOOP_up (N := l.length) (fun j h' => Chg O h h' ∧ RW (Up O h.size) h' (B ++ (vint l.length ++ encL (l.take j))) p) (by omega) ⟨g1, by simpa [encL] using r1⟩ ?_
  rintro j h3 hj ⟨g3, r3⟩ nx hnx
  have hs3 := g3.sz
  refine COND_r (fun hc => ?_) (fun hc => ?_)
  · have hj1 := ltI hc
    rw [e1] at hj1
    have g3p : Pre n h h3 := g3.pre hO hn
    refine (RL.pre g3p (Nat.le_refl _) _ _ _ rl).ix sh rfl hj1 (fun h'' e => by rw [e]; exact .refl _ _) fun c q1 => ?_
    refine ALLOC_r (.refl h3.size h3) (Nat.le_refl _) fun b7 h4 hb7 hs4 g4 _ _ => ?_
    refine PUTN_r g4 (by omega) (by simp [oneC, Sl.v]) fun h5 hs5 g5 _ => ?_
    have r5 := r3.cut.keep (X := fun _ => False) (.of_pre g5) fun _ _ h => h
    have hle := encL_le l j hj1
    refine CALLV_r (O := fun b => Up O h.size b ∧ b < h3.size) (by kernel_rfl) (spec167 (n := n) (q := q) (ih _ (List.getElem_mem hj1)) (fun i hi e => e.1.elim (hO i hi) (fun e => by omega)) (by omega) r5 (RV.pre g5 (by omega) _ _ q1) (by simp; omega) ?_) (by simp; omega) ?_
    · rw [g5.cell (by omega), g3.cell hqb hqO]; exact hq
    · intro _ h6 hs6 g6 r6
      refine hnx _ hj1 ⟨(g3.then (.of_pre g5)).then (g6.mono fun i hi ho => ?_), ?_⟩
      · exact ho.1.imp id fun e => e
      · rw [encL_take l j hj1]
        have e : B ++ (vint l.length ++ encL (l.take j)) ++ enc l[j] = B ++ (vint l.length ++ (encL (l.take j) ++ enc l[j])) := by simp
        rw [e] at r6
        exact r6.mono fun i hi => hi.elim (fun e => e.1) fun e => .inr (by omega)
  · have hj1 := geI hc
    have : l.take j = l := List.take_of_length_le (by omega)
    rw [this] at r3
    exact ⟨g3, r3⟩

/-- many, of a document -/
theorem spec168 {n : Nat} {p q : Addr} {l : List (List UInt8 × V)} (ih : ∀ v ∈ l, Writes n p v.2) {O : Nat → Prop} {h : Heap} {B : List UInt8} {s : Sl} (hO : ∀ i, i < n → ¬ O i) (hn : n ≤ h.size) (r : RW O h B p) (rl : RF n h l s.a 0) (sh : SH n l.length s)
    (hB : B.length + 100 * ((vint l.length).length + (encF l).length) + 200 ≤ 2 ^ 46) (hq : cell h q = some (.pointer (some p))) (hqO : ¬ O q.block) :
    SPECO P 168 [.pointer (some p), s.v, .func (.func 169) #[] #[.pointer (some q)]] [] h O fun _ h' => RW (Up O h.size) h' (B ++ (vint l.length ++ encF l)) p := by
  refine SPECO_of noNG Tryz.func168 (pl := pl168) (ps := [.one .pt, .one .sl, .one .oq]) (some p, s, .func (.func 169) #[] #[.pointer (some q)], ()) (by kernel_rfl)
    (q168 (fun _ _ => False) (some p) s (.func (.func 169) #[] #[.pointer (some q)]) h) (fun Q h => by rw [q168_eq] at h; exact h) ?_
  unfold q168
  have e1 := sh.len
  have e2 := sh.cap
  have e3 := sh.small
  have hqb := cell_block hq
  have e4 : IntKind.wrap .u64 (s.len : Int) = ((l.length : Nat) : Int) := by rw [IntKind.wrap_u64, e1]; omega
  rw [e4]
  have hl := vint_len64 (n := l.length) (by omega)
  refine CALLO_r (spec86 r (by omega) (by omega)) (by simp) ?_
  intro _ h1 hs1 g1 r1
  refine LOOP_up (N := l.length) (fun j h' => Chg O h h' ∧ RW (Up O h.size) h' (B ++ (vint l.length ++ encF (l.take j))) p) (by omega) ⟨g1, by simpa [encF] using r1⟩ ?_
  rintro j h3 hj ⟨g3, r3⟩ nx hnx
  have hs3 := g3.sz
  refine COND_r (fun hc => ?_) (fun hc => ?_)
  · have hj1 := ltI hc
    rw [e1] at hj1
    have g3p : Pre n h h3 := g3.pre hO hn
    refine (RF.pre g3p (Nat.le_refl _) _ _ _ rl).ix sh rfl hj1 (fun h'' e => by rw [e]; exact .refl _ _) fun nm c t1 q1 => ?_
    refine ALLOC_r (.refl h3.size h3) (Nat.le_refl _) fun b7 h4 hb7 hs4 g4 _ _ => ?_
    refine PUTN_r g4 (by omega) (by simp [oneC, Sl.v]) fun h5 hs5 g5 _ => ?_
    have r5 := r3.cut.keep (X := fun _ => False) (.of_pre g5) fun _ _ h => h
    have hle := encF_le l j hj1
    simp only [List.length_append] at hle
    refine CALLV_r (O := fun b => Up O h.size b ∧ b < h3.size) (by kernel_rfl) (spec169 (n := n) (q := q) (ih _ (List.getElem_mem hj1)) (fun i hi e => e.1.elim (hO i hi) (fun e => by omega)) (by omega) r5 t1 (RV.pre g5 (by omega) _ _ q1) (by simp; omega) ?_ ?_) (by simp; omega) ?_
    · rw [g5.cell (by omega), g3.cell hqb hqO]; exact hq
    · exact fun e => e.1.elim hqO (fun e => by omega)
    · intro _ h6 hs6 g6 r6
      refine hnx _ hj1 ⟨(g3.then (.of_pre g5)).then (g6.mono fun i hi ho => ?_), ?_⟩
      · exact ho.1.imp id fun e => e
      · rw [encF_take l j hj1]
        have e : B ++ (vint l.length ++ encF (l.take j)) ++ (vint l[j].1.length ++ l[j].1 ++ enc l[j].2) = B ++ (vint l.length ++ (encF (l.take j) ++ (vint l[j].1.length ++ l[j].1 ++ enc l[j].2))) := by simp
        rw [e] at r6
        exact r6.mono fun i hi => hi.elim (fun e => e.1) fun e => .inr (by omega)
  · have hj1 := geI hc
    have : l.take j = l := List.take_of_length_le (by omega)
    rw [this] at r3
    exact ⟨g3, r3⟩

/-- doc.write -/
theorem spec132 (n : Nat) (p : Addr) (v : V) : Writes n p v := by
  obtain ⟨k, b, i, t, bs, l, f⟩ := v
  intro O h B c hO hn r rv hB
  have ihl : ∀ v ∈ l, Writes n p v := fun v hv => spec132 n p v
  have ihf : ∀ v ∈ f, Writes n p v.2 := fun v hv => spec132 n p v.2
  obtain ⟨⟨a1, a2, a3, a4, a5, a6⟩, a7, a8, ⟨a9, a10⟩, a11, a12⟩ := rv
  refine SPECO_of noNG Tryz.func132 (pl := pl132) (ps := [.one .pt, .agg [.nt .u8, .bl, .nt .i64, .tx, .sl, .sl, .sl]]) (some p, c.k, c.b, c.i, c.t, c.bs, c.ls, c.fs, ()) (by kernel_rfl)
    (q132 (fun _ _ => False) (some p) c.k c.b c.i c.t c.bs c.ls c.fs h) (fun Q h => by rw [q132_eq] at h; exact h) ?_
  unfold q132
  refine ALLOC_r (.refl h.size h) (Nat.le_refl _) fun b2 h1 hb2 hs1 g1 _ hc2 => ?_
  refine ALLOC_r g1 (by omega) fun b3 h2 hb3 hs2 g2 g12 _ => ?_
  have r2 := r.cut.keep (X := fun _ => False) (.of_pre g2) fun _ _ h => h
  generalize hOO : (fun b => O b ∧ b < h.size) = O2 at r2
  have hO2 : ∀ i, O2 i → O i ∧ i < h.size := fun i hi => by rw [← hOO] at hi; exact hi
  have hn2 : ∀ i, i < n → ¬ O2 i := fun i hi e => hO i hi (hO2 i e).1
  have kb2 : ∀ b ∈ [b2, b3], b < h2.size ∧ ¬ O2 b := fun b hb => ⟨by simp at hb; omega, fun e => by have := (hO2 b e).2; simp at hb; omega⟩
  have hq : cell h2 ⟨b2, 0, none⟩ = some (.pointer (some p)) := by
    rw [g12.cell (by show b2 < h1.size; omega)]
    unfold cell; rw [hc2]; rfl
  have pre2 : ∀ {X : Heap}, Chg O2 h2 X → Pre n h2 X := fun g => g.pre hn2 (by omega)
  have up : ∀ {X : Heap}, Chg O2 h2 X → Chg O h X := fun g => (Chg.of_pre g2).then (g.mono fun i hi ho => .inl (hO2 i ho).1)
  intro k3 hk3
  -- the end, with what has been written
  have fin : ∀ (X : Heap) (C : List UInt8), enc (.mk k b i t bs l f) = C → Chg O2 h2 X → RW (Up O2 h2.size) X (B ++ C) p → k3 X := fun X C e g r' => by
    refine hk3 () X ⟨up g, ?_⟩
    rw [e]
    exact r'.mono fun i hi => hi.elim (fun e => .inl (hO2 i e).1) fun e => .inr (by omega)
  have two : ∀ {X Y : Heap}, Chg O2 h2 X → Chg (Up O2 h2.size) X Y → Chg O2 h2 Y := fun g g' => g.then g'
  have flat2 : ∀ {X : Heap}, h2.size ≤ X.size → ∀ i, Up (Up O2 h2.size) X.size i → Up O2 h2.size i := fun hx i hi => hi.elim id fun e => .inr (by omega)
  have kb : ∀ {X : Heap}, Chg O2 h2 X → ∀ b ∈ [b2, b3], b < X.size ∧ ¬ Up O2 h2.size b := fun {X} g b hb => ⟨Nat.lt_of_lt_of_le (kb2 b hb).1 g.sz, fun e => e.elim (kb2 b hb).2 fun e => by have := (kb2 b hb).1; omega⟩
  have eqk : ∀ m : Nat, ((c.k == (m : Int)) = true → k = m) ∧ ((c.k == (m : Int)) = false → k ≠ m) := fun m => by
    rw [a1]
    constructor
    · intro h; have : (k : Int) = m := by simpa using h
      omega
    · intro h; have : ¬ (k : Int) = m := by simpa using h
      omega
  have lenB : B.length + 200 ≤ 2 ^ 46 := by omega
  refine COND_r (fun hc => ?_) (fun hn1 => ?_)
  · have hk := (eqk 1).1 hc
    refine CALLO_r (spec27 (c := 1) r2 (by omega)) kb2 fun _ X hsX gX rX => fin X [1] (by simp [enc, hk]) gX rX
  have hk1 := (eqk 1).2 hn1
  refine COND_r (fun hc => ?_) (fun hn1 => ?_)
  · have hk := (eqk 2).1 hc
    intro k6 hk6
    have tag : ∀ x : UInt8, enc (.mk k b i t bs l f) = [x] → k6 (x.toNat : Int) h2 := fun x hx => by
      refine hk6 (x.toNat, ()) h2 ?_
      refine CALLO_r (spec27 (c := x) r2 (by omega)) (fun b hb => kb2 b (by simp at hb ⊢; exact .inl hb)) fun _ X hsX gX rX => fin X [x] hx gX rX
    refine COND_r (fun hb => tag 3 ?_) (fun hb => tag 2 ?_)
    · rw [a3] at hb; simp [enc, hk, hb]
    · rw [a3] at hb; simp [enc, hk, hb]
  have hk2 := (eqk 2).2 hn1
  refine COND_r (fun hc => ?_) (fun hn1 => ?_)
  · have hk := (eqk 3).1 hc
    refine CALLO_r (spec27 (c := 4) r2 (by omega)) kb2 fun _ X hsX gX rX => ?_
    have hz : zz i < 2 ^ 64 := by unfold zz; split <;> omega
    refine CALLO_r (spec165 (i := c.i) rX (by omega) (by omega) (by simp; omega)) (kb gX) fun _ Y hsY gY rY => ?_
    refine fin Y (4 :: vint (zz i)) (by simp [enc, hk]) (two gX gY) ?_
    rw [a4] at rY
    simpa using rY.mono (flat2 gX.sz)
  have hk3' := (eqk 3).2 hn1
  refine COND_r (fun hc => ?_) (fun hn1 => ?_)
  · have hk := (eqk 4).1 hc
    have he : enc (.mk k b i t bs l f) = 5 :: (vint t.length ++ t) := by simp [enc, hk]
    rw [he] at hB
    simp only [List.length_cons, List.length_append] at hB
    refine CALLO_r (spec27 (c := 5) r2 (by omega)) kb2 fun _ X hsX gX rX => ?_
    refine CALLO_r (spec28 rX a7 (by simp; omega)) (kb gX) fun _ Y hsY gY rY => ?_
    refine fin Y _ he (two gX gY) ?_
    simpa using rY.mono (flat2 gX.sz)
  have hk4 := (eqk 4).2 hn1
  refine COND_r (fun hc => ?_) (fun hn1 => ?_)
  · have hk := (eqk 5).1 hc
    have he : enc (.mk k b i t bs l f) = 6 :: (vint bs.length ++ bs) := by simp [enc, hk]
    rw [he] at hB
    simp only [List.length_cons, List.length_append] at hB
    refine CALLO_r (spec27 (c := 6) r2 (by omega)) kb2 fun _ X hsX gX rX => ?_
    show BTS c.bs.a c.bs.len (EQ X) (fun v41 => CALL P (fun _ _ => False) 28 [Value.pointer (some p), Value.string v41] [] X [b2, b3] fun h14 => k3 h14)
    refine BTS_r ((a8.pre g2 hn).pre (pre2 gX) (Nat.le_refl _)) fun x hx => ?_
    have hsm := a8.small
    have hcp := a8.cap
    have hln := a8.len
    refine CALLO_r (spec28 rX ⟨hx, by omega⟩ (by simp; omega)) (kb gX) fun _ Y hsY gY rY => ?_
    refine fin Y _ he (two gX gY) ?_
    simpa using rY.mono (flat2 gX.sz)
  have hk5 := (eqk 5).2 hn1
  refine COND_r (fun hc => ?_) (fun hn1 => ?_)
  · have hk := (eqk 6).1 hc
    have he : enc (.mk k b i t bs l f) = 7 :: (vint l.length ++ encL l) := by simp [enc, hk]
    rw [he] at hB
    simp only [List.length_cons, List.length_append] at hB
    refine CALLO_r (spec27 (c := 7) r2 (by omega)) kb2 fun _ X hsX gX rX => ?_
    refine CALLO_r (spec166 (q := ⟨b2, 0, none⟩) ihl (fun i hi e => e.elim (hn2 i hi) (fun e => by omega)) (by omega) rX (RL.pre (pre2 gX) (Nat.le_refl _) _ _ _ (RL.pre g2 hn _ _ _ a10)) a9 (by simp; omega) ?_ (kb gX b2 (by simp)).2) (fun b hb => kb gX b (by simp at hb ⊢; exact .inr hb)) fun _ Y hsY gY rY => ?_
    · rw [gX.cell (kb2 b2 (by simp)).1 (kb2 b2 (by simp)).2]; exact hq
    · refine fin Y _ he (two gX gY) ?_
      simpa using rY.mono (flat2 gX.sz)
  have hk6 := (eqk 6).2 hn1
  refine COND_r (fun hc => ?_) (fun hn1 => ?_)
  · have hk := (eqk 7).1 hc
    have he : enc (.mk k b i t bs l f) = 8 :: (vint f.length ++ encF f) := by simp [enc, hk]
    rw [he] at hB
    simp only [List.length_cons, List.length_append] at hB
    refine CALLO_r (spec27 (c := 8) r2 (by omega)) kb2 fun _ X hsX gX rX => ?_
    refine CALLO_r (spec168 (q := ⟨b2, 0, none⟩) ihf (fun i hi e => e.elim (hn2 i hi) (fun e => by omega)) (by omega) rX (RF.pre (pre2 gX) (Nat.le_refl _) _ _ _ (RF.pre g2 hn _ _ _ a12)) a11 (by simp; omega) ?_ (kb gX b2 (by simp)).2) (fun b hb => kb gX b (by simp at hb ⊢; exact .inr hb)) fun _ Y hsY gY rY => ?_
    · rw [gX.cell (kb2 b2 (by simp)).1 (kb2 b2 (by simp)).2]; exact hq
    · refine fin Y _ he (two gX gY) ?_
      simpa using rY.mono (flat2 gX.sz)
  have hk7 := (eqk 7).2 hn1
  refine fin h2 [] (by simp [enc, *]) (.refl _ _) ?_
  simpa using r2.mono fun i hi => .inl hi
termination_by SizeOf.sizeOf v
decreasing_by
  all_goals simp_wf
  · have := List.sizeOf_lt_of_mem hv; omega
  · have := List.sizeOf_lt_of_mem hv
    have : SizeOf.sizeOf v.2 < SizeOf.sizeOf v := by cases v; simp; omega
    omega

end Go.VK
