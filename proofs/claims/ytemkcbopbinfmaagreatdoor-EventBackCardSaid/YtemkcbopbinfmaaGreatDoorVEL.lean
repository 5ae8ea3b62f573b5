/- Contracts: a value out of bytes (doc.reader). -/
import Derived.Test.YtemkcbopbinfmaaGreatDoorVEK
set_option linter.all false
namespace Go.VK
open Go Go.Proofs
set_option maxRecDepth 100000
set_option linter.unusedSimpArgs false
set_option linter.unusedVariables false

theorem SPEC.o {P : Program} {f : FuncId} {args : List Value} {R : List Lay} {h : Heap} {Q : TT (flat R) → Heap → Prop} (c : SPEC P f args R h h.size Q) (O : Nat → Prop) : SPECO P f args R h O Q :=
  CALL.mono c (fun x h' hx => by rw [unc_cur] at hx ⊢; exact ⟨trivial, .of_pre hx.1, hx.2⟩) (fun _ _ h => h)

/-! ### Rows that are appended -/
structure BR (lo : Nat) (h : Heap) (k : Nat) (rows : List (List Value)) (s : Sl) : Prop where
  len : s.len = rows.length
  cap : s.len ≤ s.cap
  small : s.cap < 2 ^ 63
  none_ : s.a = none → s.cap = 0
  blk : ∀ a, s.a = some a → lo ≤ a.block ∧ a.block < h.size
  rl : ∀ r ∈ rows, r.length = k
  cells : ∀ a, s.a = some a → ∀ i (hi : i < rows.length), CELLS h (a.add (i * k)) rows[i]
  room : ∀ a, s.a = some a → ∀ i, i < s.cap * k → (cell h (a.add i)).isSome = true ∧ frz h (a.add i) = false

theorem BR.keep {lo : Nat} {h h' : Heap} {k : Nat} {rows : List (List Value)} {s : Sl} (r : BR lo h k rows s) (hs : h.size ≤ h'.size) (hk : ∀ a, s.a = some a → h'[a.block]? = h[a.block]?) : BR lo h' k rows s :=
  ⟨r.len, r.cap, r.small, r.none_, fun a ha => ⟨(r.blk a ha).1, Nat.lt_of_lt_of_le (r.blk a ha).2 hs⟩, r.rl, fun a ha i hi => (r.cells a ha i hi).sel (by rw [add_block]; exact hk a ha), fun a ha i hi => by
    have := r.room a ha i hi
    have e := hk a ha
    unfold cell frz at this ⊢
    rw [add_block] at this ⊢
    rw [e]; exact this⟩

theorem BR.nil {lo : Nat} {h : Heap} {k : Nat} : BR lo h k [] ⟨none, 0, 0⟩ := ⟨rfl, Nat.le_refl _, by decide, fun _ => rfl, nofun, nofun, nofun, nofun⟩

theorem nextcap40 {need cap : Nat} (h : cap < need) (hn : need ≤ 2 ^ 32) : Builtin.nextslicecap need cap ≤ 2 ^ 40 := by
  unfold Builtin.nextslicecap
  split
  · omega
  · split
    · omega
    · exact growBy_up need (2 ^ 40) (fun c hc => by omega) 4 cap (by omega)

theorem APPENDR_r {lo : Nat} {h : Heap} {k bytes t b : Nat} {zero : List Value} {rows : List (List Value)} {x : List Value} {s : Sl} {K : Sl → Heap → Prop} (r : BR lo h k rows s) (hk : 0 < k) (hb : 0 < bytes) (hb2 : bytes ≤ 128) (hz : zero.length = k)
    (hx : CELLS h ⟨b, 0, none⟩ x) (hxl : x.length = k) (hx1 : ∀ v ∈ x, oneC v = true) (hlo : lo ≤ h.size) (hsz : rows.length + 1 ≤ 2 ^ 32)
    (kk : ∀ s' h1, h.size ≤ h1.size → (∀ b, b < h.size → (∀ a, s.a = some a → b ≠ a.block) → h1[b]? = h[b]?) → BR lo h1 k (rows ++ [x]) s' → (∀ a, s'.a = some a → s.a = some a ∨ a.block = h.size) → K s' h1) :
    APPEND k bytes t zero s.a s.len s.cap (some ⟨b, 0, none⟩) 1 h [] K := by
  have hfl := flatten_len r.rl
  have hlen := r.len
  have hrl2 : ∀ y ∈ rows ++ [x], y.length = k := fun y hy => by
    rcases List.mem_append.1 hy with hy | hy
    · exact r.rl y hy
    · rw [List.mem_singleton.1 hy]; exact hxl
  have hfl2 := flatten_len hrl2
  refine ⟨x, fun _ => by rw [hxl, Nat.one_mul], fun i hi => hx i hi, ?_⟩
  rcases Nat.lt_or_ge s.cap (s.len + 1) with hlt | hge
  · refine .inr ⟨hlt, hb, ?_, rows.flatten, fun _ => by rw [hfl, hlen], ?_, fun c hc hc2 => ?_⟩
    · have h1 := nextcap40 (need := s.len + 1) (cap := s.cap) hlt (by omega)
      have h2 : Builtin.nextslicecap (s.len + 1) s.cap * bytes ≤ 2 ^ 40 * 128 := Nat.mul_le_mul h1 hb2
      exact Nat.le_trans h2 (by decide)
    · unfold RDC
      split
      · rename_i ha
        have := r.none_ ha
        have := r.cap
        have : rows = [] := List.eq_nil_of_length_eq_zero (by omega)
        subst this; rfl
      · rename_i a ha
        intro i hi
        rw [hfl] at hi
        exact rows_cell hk r.rl (fun i hi => r.cells a ha i hi) i hi
    · have e : rows.flatten ++ x = (rows ++ [x]).flatten := by simp
      rw [e]
      have hl2 : (rows ++ [x]).flatten.length = (s.len + 1) * k := by rw [hfl2]; simp [hlen]
      have rd : ∀ i, i < (s.len + 1) * k → cell (h.push (.cells ((rows ++ [x]).flatten ++ zeroes zero (c - (s.len + 1))).toArray t (0, 0))) ((⟨h.size, 0, none⟩ : Addr).add i) = (rows ++ [x]).flatten[i]? := fun i hi => by
        rw [cell_pushed, List.getElem?_append_left (by rw [hl2]; exact hi)]
      have hzl : (zeroes zero (c - (s.len + 1))).length = (c - (s.len + 1)) * k := by
        unfold zeroes
        rw [flatten_len (k := k) fun y hy => by rw [List.eq_of_mem_replicate hy]; exact hz, List.length_replicate]
      refine kk _ _ (by simp) (fun b hb _ => push_old hb) ⟨by simp [hlen], hc, hc2, nofun, fun a ha => ?_, hrl2, fun a ha i hi => ?_, fun a ha i hi => ?_⟩ (fun a ha => by cases ha; exact .inr rfl)
      · cases ha; simp; omega
      · cases ha
        intro j hj
        have hj : j < k := by rw [hrl2 _ (List.getElem_mem hi)] at hj; exact hj
        have hi' : i < s.len + 1 := by simp at hi; omega
        have hij : i * k + j < (s.len + 1) * k := by
          have : (i + 1) * k ≤ (s.len + 1) * k := Nat.mul_le_mul_right _ hi'
          rw [Nat.succ_mul] at this; omega
        rw [add_add, rd _ hij, flatten_get hrl2 i j hi hj]
      · cases ha
        refine ⟨?_, frz_pushed⟩
        have hi : i < c * k := hi
        rw [cell_pushed, List.getElem?_eq_getElem (by
          rw [List.length_append, hl2, hzl, ← Nat.add_mul]
          have : s.len + 1 + (c - (s.len + 1)) = c := by omega
          rw [this]; exact hi)]
        rfl
  · refine .inl ⟨hge, ?_⟩
    cases ha : s.a with
    | none => have := r.none_ ha; omega
    | some a0 =>
      have rm := r.room a0 ha
      have hlk : s.len * k + k ≤ s.cap * k := by rw [← Nat.succ_mul]; exact Nat.mul_le_mul_right _ hge
      show STN (a0.add (s.len * k)) x 0 h [] _
      refine STN_r (fun j hj => ?_) hx1 (by simp) fun h1 q1 q2 q3 q4 q5 q6 => ?_
      · rw [add_add]
        exact rm _ (by omega)
      · rw [add_block] at q2
        refine kk ⟨some a0, s.len + 1, s.cap⟩ h1 (by omega) (fun b _ hb => q2 b (hb a0 ha)) ⟨by simp [hlen], hge, r.small, nofun, fun a e => ?_, hrl2, fun a e i hi => ?_, fun a e i hi => ?_⟩ (fun a e => .inl (ha ▸ e))
        · cases e; rw [q1]; exact r.blk a0 ha
        · cases e
          intro j hj
          have hj2 : j < k := by rw [hrl2 _ (List.getElem_mem hi)] at hj; exact hj
          rcases Nat.lt_or_ge i rows.length with h2 | h2
          · have hij : i * k + j < s.len * k := by
              have : (i + 1) * k ≤ s.len * k := Nat.mul_le_mul_right _ (by omega)
              rw [Nat.succ_mul] at this; omega
            rw [add_add, q5 _ (by rw [add_off, add_off]; omega)]
            have := r.cells a0 ha i h2 j (by rw [r.rl _ (List.getElem_mem h2)]; exact hj2)
            rw [add_add] at this
            rw [this, List.getElem_append_left h2]
          · have hi2 : i = rows.length := by simp at hi; omega
            subst hi2
            have := q4 j (by rw [hxl]; exact hj2)
            rw [add_add, hlen] at this
            rw [add_add]
            have e0 : rows.length * k + (0 + j) = rows.length * k + j := by omega
            rw [e0] at this
            rw [this]; simp
        · cases e
          rw [q3]
          exact ⟨q6 _ (rm i hi).1, (rm i hi).2⟩

/-! ### The parser -/
def plist {α : Type} (f : List UInt8 → Option (α × List UInt8)) : Nat → List UInt8 → Option (List α × List UInt8)
  | 0, r => some ([], r)
  | n + 1, r => (f r).bind fun x => (plist f n x.2).map fun y => (x.1 :: y.1, y.2)
def pfld (f : List UInt8 → Option (V × List UInt8)) (r : List UInt8) : Option ((List UInt8 × V) × List UInt8) := (ptxt r).bind fun x => (f x.2).map fun y => ((x.1, y.1), y.2)

/-- A value, out of bytes; so deep at most. -/
def pval : Nat → List UInt8 → Option (V × List UInt8)
  | 0, _ => none
  | _ + 1, [] => none
  | d + 1, tag :: r => if tag = 1 then some (.mk 1 false 0 [] [] [] [], r) else if tag = 2 ∨ tag = 3 then some (.mk 2 (tag == 3) 0 [] [] [] [], r)
    else if tag = 4 then (pvar r).map fun x => (.mk 3 false (zag x.1) [] [] [] [], x.2) else if tag = 5 then (ptxt r).map fun x => (.mk 4 false 0 x.1 [] [] [], x.2)
    else if tag = 6 then (ptxt r).map fun x => (.mk 5 false 0 [] x.1 [] [], x.2) else if tag = 7 then (pvar r).bind fun x => (plist (pval d) x.1 x.2).map fun y => (.mk 6 false 0 [] [] y.1 [], y.2)
    else if tag = 8 then (pvar r).bind fun x => (plist (pfld (pval d)) x.1 x.2).map fun y => (.mk 7 false 0 [] [] [] y.1, y.2) else none

theorem ptxt_len {b : List UInt8} {t r : List UInt8} (h : ptxt b = some (t, r)) : t.length + r.length < b.length := by
  unfold ptxt at h
  cases hp : pvar b with
  | none => rw [hp] at h; cases h
  | some x =>
    obtain ⟨w, r'⟩ := x
    have hl := pvGo_len _ _ _ _ _ hp
    rw [hp] at h
    simp only [Option.bind_some] at h
    split at h
    · cases h; simp; omega
    · cases h

theorem plist_len {α : Type} {f : List UInt8 → Option (α × List UInt8)} (hf : ∀ r v r', f r = some (v, r') → r'.length < r.length) : ∀ (n : Nat) (r : List UInt8) (l : List α) (r' : List UInt8), plist f n r = some (l, r') → r'.length ≤ r.length
  | 0, r, l, r', h => by simp only [plist] at h; cases h; exact Nat.le_refl _
  | n + 1, r, l, r', h => by
    simp only [plist] at h
    cases hv : f r with
    | none => rw [hv] at h; cases h
    | some x =>
      obtain ⟨v, r1⟩ := x
      rw [hv] at h
      simp only [Option.bind_some] at h
      cases hp : plist f n r1 with
      | none => rw [hp] at h; cases h
      | some y =>
        obtain ⟨l1, r2⟩ := y
        rw [hp] at h
        cases h
        have := hf _ _ _ hv
        have := plist_len hf n r1 l1 r2 hp
        show r2.length ≤ r.length
        omega

theorem pval_len : ∀ (d : Nat) (r : List UInt8) (v : V) (r' : List UInt8), pval d r = some (v, r') → r'.length < r.length
  | 0, _, _, _, h => by cases h
  | d + 1, [], _, _, h => by cases h
  | d + 1, tag :: r, v, r', h => by
    simp only [pval] at h
    split at h
    · cases h; simp
    split at h
    · cases h; simp
    split at h
    · cases hp : pvar r with
      | none => rw [hp] at h; cases h
      | some x => obtain ⟨w, r1⟩ := x; rw [hp] at h; cases h; have := pvGo_len _ _ _ _ _ hp; simp; omega
    split at h
    · cases hp : ptxt r with
      | none => rw [hp] at h; cases h
      | some x => obtain ⟨w, r1⟩ := x; rw [hp] at h; cases h; have := ptxt_len hp; simp; omega
    split at h
    · cases hp : ptxt r with
      | none => rw [hp] at h; cases h
      | some x => obtain ⟨w, r1⟩ := x; rw [hp] at h; cases h; have := ptxt_len hp; simp; omega
    split at h
    · cases hp : pvar r with
      | none => rw [hp] at h; cases h
      | some x =>
        obtain ⟨w, r1⟩ := x
        rw [hp] at h
        have := pvGo_len _ _ _ _ _ hp
        simp only [Option.bind_some] at h
        cases hl : plist (pval d) w r1 with
        | none => rw [hl] at h; cases h
        | some y => obtain ⟨l, r2⟩ := y; rw [hl] at h; cases h; have := plist_len (pval_len d) _ _ _ _ hl; simp; omega
    split at h
    · cases hp : pvar r with
      | none => rw [hp] at h; cases h
      | some x =>
        obtain ⟨w, r1⟩ := x
        rw [hp] at h
        have := pvGo_len _ _ _ _ _ hp
        simp only [Option.bind_some] at h
        cases hl : plist (pfld (pval d)) w r1 with
        | none => rw [hl] at h; cases h
        | some y =>
          obtain ⟨l, r2⟩ := y
          rw [hl] at h
          cases h
          have := plist_len (f := pfld (pval d)) (fun r v r' h => by
            unfold pfld at h
            cases ht : ptxt r with
            | none => rw [ht] at h; cases h
            | some z =>
              obtain ⟨nm, r3⟩ := z
              rw [ht] at h
              simp only [Option.bind_some] at h
              cases hv : pval d r3 with
              | none => rw [hv] at h; cases h
              | some z2 => obtain ⟨v2, r4⟩ := z2; rw [hv] at h; cases h; have := ptxt_len ht; have := pval_len d _ _ _ hv; show r4.length < _; omega) _ _ _ _ hl
          simp; omega
    · cases h

theorem pfld_len {d : Nat} {r : List UInt8} {v : List UInt8 × V} {r' : List UInt8} (h : pfld (pval d) r = some (v, r')) : r'.length < r.length := by
  unfold pfld at h
  cases ht : ptxt r with
  | none => rw [ht] at h; cases h
  | some z =>
    obtain ⟨nm, r3⟩ := z
    rw [ht] at h
    simp only [Option.bind_some] at h
    cases hv : pval d r3 with
    | none => rw [hv] at h; cases h
    | some z2 => obtain ⟨v2, r4⟩ := z2; rw [hv] at h; cases h; have := ptxt_len ht; have := pval_len d _ _ _ hv; show r4.length < _; omega

/-! ### The reader of values -/
structure DRD (lo n : Nat) (h : Heap) (B : List UInt8) (st : Option (List UInt8)) (p q : Addr) : Prop where
  ge : n ≤ p.block
  lt : p.block < h.size
  ne : p.block ≠ q.block
  frz : frz h (p.add 1) = false
  ex : ∃ (bad : Bool) (st' : Option (List UInt8)), cell h (p.add 0) = some (.pointer (some q)) ∧ cell h (p.add 1) = some (.bool bad) ∧ RRD lo n h B st' q ∧ (bad = true → st = none) ∧ (bad = false → st = st')

theorem DRD.step {lo n : Nat} {h : Heap} {B : List UInt8} {st : Option (List UInt8)} {p q : Addr} (r : DRD lo n h B st p q) : ∃ st', cell h (p.add 0) = some (.pointer (some q)) ∧ RRD lo n h B st' q ∧ (∀ rest, st = some rest → st' = some rest) ∧
    ∀ (h' : Heap) (F : Option (List UInt8) → Option (List UInt8)), F none = none → RRD lo n h' B (F st') q → h.size ≤ h'.size → h'[p.block]? = h[p.block]? → DRD lo n h' B (F st) p q := by
  obtain ⟨bad, st', c0, c1, rr, e1, e2⟩ := r.ex
  refine ⟨st', c0, rr, fun rest hr => ?_, fun h' F hF r' hs hp => ⟨r.ge, Nat.lt_of_lt_of_le r.lt hs, r.ne, ?_, bad, F st', ?_, ?_, r', fun hb => by rw [e1 hb]; exact hF, fun hb => by rw [e2 hb]⟩⟩
  · cases bad with
    | true => rw [e1 rfl] at hr; cases hr
    | false => rw [← e2 rfl]; exact hr
  · have := r.frz; unfold Go.VK.frz at this ⊢; rw [add_block] at this ⊢; rw [hp]; exact this
  · exact (cell_same (h := h) (h' := h') (by rw [add_block]; exact hp)).trans c0
  · exact (cell_same (h := h) (h' := h') (by rw [add_block]; exact hp)).trans c1

theorem DRD.keep {lo n : Nat} {h h' : Heap} {B : List UInt8} {st : Option (List UInt8)} {p q : Addr} (r : DRD lo n h B st p q) (hs : h.size ≤ h'.size) (hk : ∀ b, b < h.size → h'[b]? = h[b]?) : DRD lo n h' B st p q := by
  obtain ⟨st', c0, rr, _, k⟩ := r.step
  have hn := rr.lt
  have hg := rr.ge
  exact k h' id rfl (rr.keep hs (fun b _ hb => hk b (by omega)) (hk _ hn)) hs (hk _ r.lt)

/-- wrong -/
theorem spec170 {lo n : Nat} {h : Heap} {B : List UInt8} {st : Option (List UInt8)} {p q : Addr} (r : DRD lo n h B st p q) :
    SPEC P 170 [.pointer (some p)] [.one .bl] h h.size fun x h' => h' = h ∧ (x.1 = true ↔ st = none) := by
  refine SPEC_of_k noNG Tryz.func170 (pl := pl170) (ps := [.one .pt]) (some p, ()) (by kernel_rfl) (q170 (fun _ _ => False) (some p) h) (by kernel_rfl) ?_
  unfold q170
  obtain ⟨bad, st', c0, c1, rr, e1, e2⟩ := r.ex
  refine ⟨p, rfl, LDc (s := .pt) (x := some q) c0 ?_⟩
  refine CALL_r (spec38 rr) (by simp) ?_
  rintro ⟨x, y, ⟨⟩⟩ h1 hs1 g1 ⟨rfl, hx⟩
  refine unc2_i (s1 := .nt .u16) (s2 := .nt .i64) ?_
  simp only at hx
  intro k2 hk2
  refine ⟨p, rfl, LDc (s := .bl) c1 ?_⟩
  refine COND_r (fun hc => hk2 (true, ()) h1 ⟨.refl _ _, rfl, ?_⟩) (fun hc => hk2 (x != 0, ()) h1 ⟨.refl _ _, rfl, ?_⟩)
  · exact ⟨fun _ => e1 hc, fun _ => rfl⟩
  · have e := e2 hc
    show (x != 0) = true ↔ _
    rw [e]
    have : (x != 0) = true ↔ ¬ (x = 0) := by
      rw [bne_iff_ne]
    rw [this, hx]
    cases st' <;> simp

end Go.VK
