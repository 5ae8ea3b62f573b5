/- Contracts: a value out of bytes (doc.reader.value). -/
import Derived.Test.YtemkcbopbinfmaaGreatDoorVEL
set_option linter.all false
namespace Go.VK
open Go Go.Proofs
set_option maxRecDepth 100000
set_option linter.unusedSimpArgs false
set_option linter.unusedVariables false

mutual
theorem RVS.imp {S S' : Nat → Prop} {n : Nat} {h : Heap} (g : ∀ b, b < n → S b → S' b) : ∀ (v : V) (c : Cv), RVS S n h v c → RVS S' n h v c
  | .mk k b i t bs l f, c, ⟨h1, h2, ⟨h3, h8⟩, ⟨h4, h5⟩, h6, h7⟩ => ⟨h1, h2, ⟨h3, fun a ha hc => g _ (h3.blk a ha hc) (h8 a ha hc)⟩, ⟨h4, RLS.imp g l _ _ h5⟩, h6, RFS.imp g f _ _ h7⟩
theorem RLS.imp {S S' : Nat → Prop} {n : Nat} {h : Heap} (g : ∀ b, b < n → S b → S' b) : ∀ (l : List V) (a : Option Addr) (i : Nat), RLS S n h l a i → RLS S' n h l a i
  | [], _, _, _ => trivial
  | v :: r, a, i, ⟨⟨a0, c, h1, h2, h6, h3, h4⟩, h5⟩ => ⟨⟨a0, c, h1, h2, g _ h2 h6, h3, RVS.imp g v c h4⟩, RLS.imp g r a (i + 1) h5⟩
theorem RFS.imp {S S' : Nat → Prop} {n : Nat} {h : Heap} (g : ∀ b, b < n → S b → S' b) : ∀ (l : List (List UInt8 × V)) (a : Option Addr) (i : Nat), RFS S n h l a i → RFS S' n h l a i
  | [], _, _, _ => trivial
  | (nm, v) :: r, a, i, ⟨⟨a0, s, c, h1, h2, h8, h3, h4, h5, h6⟩, h7⟩ => ⟨⟨a0, s, c, h1, h2, g _ h2 h8, h3, h4, h5, RVS.imp g v c h6⟩, RFS.imp g r a (i + 1) h7⟩
end

theorem PUTk {h : Heap} {b t i : Nat} {cs vs : List Value} {K : Heap → Prop} (hb : h[b]? = some (.cells cs.toArray t (0, 0))) (hl : i + vs.length ≤ cs.length) (hv : ∀ v ∈ vs, oneC v = true)
    (k : ∀ h1, h1.size = h.size → (∀ c, c ≠ b → h1[c]? = h[c]?) → h1[b]? = some (.cells (splice cs i vs).toArray t (0, 0)) → K h1) : PUTN b vs i h K :=
  PUTN_k (n := 0) (.refl 0 h) (Nat.zero_le _) hb hl hv fun h1 q1 _ q3 q4 => k h1 q1 q3 q4

theorem STNk {h : Heap} {b t i : Nat} {cs : List Value} {old v : Value} {bs : List Nat} {K : Heap → Prop} (hb : h[b]? = some (.cells cs.toArray t (0, 0))) (ho : cs[i]? = some old) (hv : oneC v = true) (hbs : ∀ x ∈ bs, b ≠ x)
    (k : ∀ h1, h1.size = h.size → (∀ c, c ≠ b → h1[c]? = h[c]?) → h1[b]? = some (.cells (cs.set i v).toArray t (0, 0)) → K h1) : STN ⟨b, i, none⟩ [v] 0 h bs K := by
  have hc : cell h ⟨b, i, none⟩ = some old := by unfold cell; simp only [hb]; simp [ho]
  have hf : frz h ⟨b, i, none⟩ = false := by unfold frz; simp only [hb]; simp
  refine ⟨hv, by show (cell h ⟨b, i, none⟩).isSome = true; rw [hc]; rfl, hf, OFF_of fun x hx => hbs x hx, ?_⟩
  show K (put h ⟨b, i, none⟩ v)
  exact k _ (put_size _ _ _) (fun c hcb => put_ne fun e => hcb e.symm) (put_known hb i v)

theorem LDk {h : Heap} {b t i : Nat} {f : Nat × Nat} {cs : List Value} {s : Sh} {x : s.T} (hb : h[b]? = some (.cells cs.toArray t f)) (hi : cs[i]? = some (s.v x)) {S : Heap → Prop} (hS : ∀ h', S h' → h'[b]? = h[b]?) {K : s.T → Prop} (k : K x) : LD s ⟨b, i, none⟩ S K :=
  ⟨x, fun h' e => by unfold cell; simp only [hS h' e, hb]; simp [hi], k⟩

/-- A row of a list: the value that it is. -/
def rowV (S : Nat → Prop) (h : Heap) (v : V) (r : List Value) : Prop := ∃ c : Cv, r = c.cells ∧ RVS S h.size h v c
def rowF (S : Nat → Prop) (h : Heap) (v : List UInt8 × V) (r : List Value) : Prop := ∃ (nm : ByteArray) (c : Cv), r = .string nm :: c.cells ∧ TX v.1 nm ∧ RVS S h.size h v.2 c

def allR {α β : Type} (R : α → β → Prop) : List α → List β → Prop
  | [], [] => True
  | a :: l, b :: m => R a b ∧ allR R l m
  | _, _ => False

theorem allR.imp {α β : Type} {R R' : α → β → Prop} (g : ∀ a b, R a b → R' a b) : ∀ {l : List α} {m : List β}, allR R l m → allR R' l m
  | [], [], _ => trivial
  | a :: l, b :: m, ⟨h1, h2⟩ => ⟨g a b h1, allR.imp g h2⟩
theorem allR.snoc {α β : Type} {R : α → β → Prop} {a : α} {b : β} (h : R a b) : ∀ {l : List α} {m : List β}, allR R l m → allR R (l ++ [a]) (m ++ [b])
  | [], [], _ => ⟨h, trivial⟩
  | x :: l, y :: m, ⟨h1, h2⟩ => ⟨h1, allR.snoc h h2⟩
theorem allR.len {α β : Type} {R : α → β → Prop} : ∀ {l : List α} {m : List β}, allR R l m → l.length = m.length
  | [], [], _ => rfl
  | x :: l, y :: m, ⟨h1, h2⟩ => by simp [allR.len h2]

theorem rowsL {S : Nat → Prop} {n lo : Nat} {h : Heap} {a0 : Addr} (hb : a0.block < h.size) (hS : S a0.block) : ∀ {vs : List V} {rows : List (List Value)} {i : Nat}, allR (rowV S h) vs rows → (∀ j (hj : j < rows.length), CELLS h (a0.add ((i + j) * 7)) rows[j]) → RLS S h.size h vs (some a0) i
  | [], [], _, _, _ => trivial
  | v :: vs, r :: rows, i, ⟨⟨c, e, h1⟩, h2⟩, hc => ⟨⟨a0, c, rfl, hb, hS, by have := hc 0 (by simp); rw [Nat.add_zero] at this; simpa [e] using this, h1⟩, rowsL (n := n) (lo := lo) hb hS h2 fun j hj => by
      have := hc (j + 1) (by simp; omega)
      have e : i + 1 + j = i + (j + 1) := by omega
      rw [e]; simpa using this⟩
theorem rowsF {S : Nat → Prop} {n lo : Nat} {h : Heap} {a0 : Addr} (hb : a0.block < h.size) (hS : S a0.block) : ∀ {vs : List (List UInt8 × V)} {rows : List (List Value)} {i : Nat}, allR (rowF S h) vs rows → (∀ j (hj : j < rows.length), CELLS h (a0.add ((i + j) * 8)) rows[j]) → RFS S h.size h vs (some a0) i
  | [], [], _, _, _ => trivial
  | (nm, v) :: vs, r :: rows, i, ⟨⟨s, c, e, h0, h1⟩, h2⟩, hc => ⟨⟨a0, s, c, rfl, hb, hS, by
      have := hc 0 (by simp) 0 (by simp [e])
      rw [Nat.add_zero, add_add, Nat.add_zero] at this
      simpa [e] using this, h0, fun j hj => by
      have := hc 0 (by simp) (j + 1) (by simp at hj; simp [e]; omega)
      rw [Nat.add_zero] at this
      rw [add_add, add_add]
      have e2 : (i * 8) + (j + 1) = i * 8 + (1 + j) := by omega
      rw [add_add, e2] at this
      simpa [e] using this, h1⟩, rowsF (n := n) (lo := lo) hb hS h2 fun j hj => by
      have := hc (j + 1) (by simp; omega)
      have e : i + 1 + j = i + (j + 1) := by omega
      rw [e]; simpa using this⟩

theorem DRD.keepx {lo n x : Nat} {h h' : Heap} {B : List UInt8} {st : Option (List UInt8)} {p q : Addr} (r : DRD lo n h B st p q) (hx : n ≤ x) (hp : p.block ≠ x) (hq : q.block ≠ x) (hs : h.size ≤ h'.size) (hk : ∀ b, b < h.size → b ≠ x → h'[b]? = h[b]?) : DRD lo n h' B st p q := by
  obtain ⟨st', c0, rr, _, k⟩ := r.step
  have hn := rr.lt
  have hg := rr.ge
  exact k h' id rfl (rr.keep hs (fun b _ hb => hk b (by omega) (by omega)) (hk _ hn hq)) hs (hk _ r.lt hp)

theorem u8eq (c : UInt8) (m : Nat) (hm : m < 256) : ((c.toNat : Int) == (m : Int)) = (c == UInt8.ofNat m) := by
  by_cases h : c = UInt8.ofNat m
  · subst h
    have : (UInt8.ofNat m).toNat = m := by rw [UInt8.toNat_ofNat']; omega
    rw [this]; simp
  · rw [beq_eq_false_iff_ne.2 h, beq_eq_false_iff_ne.2]
    intro e
    apply h
    apply UInt8.toNat_inj.1
    rw [UInt8.toNat_ofNat']; omega

theorem SH.nil {n : Nat} : SH n 0 ⟨none, 0, 0⟩ := ⟨rfl, Nat.le_refl _, by decide, fun h => absurd rfl h, nofun⟩

theorem RVS.flat {S : Nat → Prop} {n : Nat} {h : Heap} {k : Nat} {b : Bool} {i : Int} {t bs : List UInt8} {x : ByteArray} {s : Sl} (hk : k < 256) (h1 : -9223372036854775808 ≤ i) (h2 : i < 9223372036854775808) (ht : TX t x) (rb : RB n h bs s) (hs : ∀ a, s.a = some a → S a.block) :
    RVS S n h (.mk k b i t bs [] []) ⟨k, b, i, x, s, ⟨none, 0, 0⟩, ⟨none, 0, 0⟩⟩ :=
  ⟨⟨rfl, hk, rfl, rfl, h1, h2⟩, ht, ⟨rb, fun a ha _ => hs a ha⟩, ⟨SH.nil, trivial⟩, SH.nil, trivial⟩

theorem TX.nil : TX [] ByteArray.empty := ⟨rfl, by decide⟩

theorem zag_range {v : Nat} (hv : v < 2 ^ 64) : -9223372036854775808 ≤ zag v ∧ zag v < 9223372036854775808 := by
  unfold zag; split <;> omega

abbrev NIL : Sl := ⟨none, 0, 0⟩

theorem BR.sh {lo k : Nat} {h : Heap} {rows : List (List Value)} {s : Sl} {N : Nat} (r : BR lo h k rows s) (hN : rows.length = N) : SH h.size N s :=
  ⟨by rw [r.len, hN], r.cap, r.small, fun h0 => by
    cases ha : s.a with
    | none => have := r.none_ ha; have := r.cap; have := r.len; omega
    | some a => rfl, fun a ha _ => (r.blk a ha).2⟩

set_option maxHeartbeats 4000000 in
/-- doc.reader.value -/
theorem spec134 {lo n : Nat} {p q : Addr} {B : List UInt8} : ∀ (d : Nat) (st : Option (List UInt8)) (h : Heap), d ≤ 9 → DRD lo n h B st p q →
    SPECO P 134 [.pointer (some p), .int .i64 d] VT h (fun b => b = p.block ∨ b = q.block) fun x h' => DRD lo n h' B ((st.bind (pval d)).map Prod.snd) p q ∧
      ∀ v r, st.bind (pval d) = some (v, r) → RVS (fun b => h.size < b ∧ b < h'.size) h'.size h' v (Cv.of x) := by
  intro d
  induction d using Nat.strongRecOn with
  | _ d ih =>
  intro st h hd r
  refine SPECO_of_k noNG Tryz.func134 (pl := pl134) (ps := [.one .pt, .one (.nt .i64)]) (some p, (d : Int), ()) (by kernel_rfl) (q134 (fun _ _ => False) (some p) (d : Int) h) (by kernel_rfl) ?_
  unfold q134
  have hp := r.lt
  have hng := r.ge
  have hq : q.block < h.size := by obtain ⟨_, _, rr0, _⟩ := r.step; exact rr0.lt
  refine ALLOC_r (.refl h.size h) (Nat.le_refl _) fun b4 h1 hb4 hs1 g1 _ hc4 => ?_
  have gC1 : Chg (fun b => b = p.block ∨ b = q.block) h h1 := .of_pre g1
  have r1 := r.keep (by omega) (fun b hb => g1.same b hb)
  obtain ⟨st', c0, rr, good, step⟩ := r1.step
  refine ⟨p, rfl, LDc (s := .pt) (x := some q) c0 ?_⟩
  refine CALLO_r (spec36 rr) (kb1 ⟨by omega, by omega⟩) ?_
  rintro ⟨tag, ⟨⟩⟩ h2 hs2 g2 ⟨rr2, htag⟩
  refine unc1_i (s1 := .nt .u8) ?_
  have r2 : DRD lo n h2 B ((u8P st).map Prod.snd) p q := step h2 (fun s => (u8P s).map Prod.snd) rfl rr2 hs2 (g2.same _ (by omega) r.ne)
  have b4_2 : h2[b4]? = some (.cells (Cv.cells ⟨0, false, 0, ByteArray.empty, NIL, NIL, NIL⟩).toArray 27 (0, 0)) := (g2.same _ (by omega) (by omega)).trans hc4
  have gC2 : Chg (fun b => b = p.block ∨ b = q.block) h h2 := gC1.then (g2.mono fun i _ ho => .inl (.inr ho))
  -- it is none
  have badW : ∀ (X : Heap) (stX : Option (List UInt8)) (cv : Cv), Chg (fun b => b = p.block ∨ b = q.block) h X → h1.size ≤ X.size → X[b4]? = some (.cells cv.cells.toArray 27 (0, 0)) → DRD lo n X B stX p q → st.bind (pval d) = none →
      NN (some p) fun a120 => STN (a120.add 1) [.bool true] 0 X [b4] fun h6 => PUTN b4 [.int .u8 0, .bool false, .int .i64 0, .string ByteArray.empty, .slice none 0 0, .slice none 0 0, .slice none 0 0] 0 h6 fun h7 =>
        (cur (flat VT) fun x h' => Chg (fun b => b = p.block ∨ b = q.block) h h' ∧ DRD lo n h' B ((st.bind (pval d)).map Prod.snd) p q ∧ ∀ v r, st.bind (pval d) = some (v, r) → RVS (fun b => h.size < b ∧ b < h'.size) h'.size h' v (Cv.of x) : Cur (flat VT) (Heap → Prop)) 0 false 0 ByteArray.empty NIL NIL NIL h7 := by
    intro X stX cv gX hsX hbX rX hres
    obtain ⟨bad, stI, c0, c1, rrX, e1, e2⟩ := rX.ex
    refine ⟨p, rfl, STNc (by rw [c1]; rfl) rX.frz rfl (kb1 (by omega)) fun h6 q1 q2 q3 q4 q5 => ?_⟩
    refine PUTk (cs := cv.cells) (t := 27) (by rw [q2 _ (by omega)]; exact hbX) (by simp) (by simp [oneC]) fun h7 p1 p2 p3 => ?_
    refine ⟨⟨by omega, fun b hb ho => by rw [p2 _ (by omega), q2 _ (fun e => ho (.inl e)), gX.same b hb ho]⟩, ?_, fun v r hr => by rw [hres] at hr; cases hr⟩
    rw [hres]
    have c0' : ∀ j v, cell h6 (p.add j) = some v → cell h7 (p.add j) = some v := fun j v e => by rw [← e]; exact cell_same (by rw [add_block]; exact p2 _ (by omega))
    refine ⟨hng, by omega, r.ne, ?_, true, stI, c0' 0 _ (by rw [q5 0 (by decide)]; exact c0), c0' 1 _ q4, rrX.keep (by omega) (fun b _ hb => by rw [p2 _ (by omega), q2 _ (by omega)]) (by rw [p2 _ (by omega), q2 _ (fun e => r.ne e.symm)]), fun _ => rfl, nofun⟩
    have e1 : frz h7 (p.add 1) = frz h6 (p.add 1) := by unfold frz; rw [add_block, p2 _ (by omega)]
    rw [e1, q3]; exact rX.frz
  intro k3 hk3
  have toBad : st.bind (pval d) = none → k3 true h2 := fun hres => by
    refine hk3 (true, ()) h2 ?_
    exact COND_r (fun _ => badW h2 _ _ gC2 hs2 b4_2 r2 hres) (fun h => by cases h)
  refine COND_r (fun hc => toBad ?_) (fun hc => ?_)
  · have : d = 0 := by
      have : (d : Int) = 0 := by simpa using hc
      omega
    subst this
    cases st <;> rfl
  have hd0 : d ≠ 0 := by
    have : ¬ (d : Int) = 0 := by simpa using hc
    omega
  obtain ⟨d', rfl⟩ : ∃ d', d = d' + 1 := ⟨d - 1, by omega⟩
  refine CALL_r (spec170 r2) (kb1 (by omega)) ?_
  rintro ⟨w, ⟨⟩⟩ h5 hs5 g5 ⟨rfl, hw⟩
  simp only at hw
  cases hw2 : w with
  | true =>
    have := hw.1 hw2
    refine toBad ?_
    cases st with
    | none => rfl
    | some l => cases l with
      | nil => rfl
      | cons c rest => cases this
  | false =>
  have hst : ∃ c rest, st = some (c :: rest) := by
    cases st with
    | none => have := hw.2 rfl; rw [hw2] at this; cases this
    | some l => cases l with
      | nil => have := hw.2 rfl; rw [hw2] at this; cases this
      | cons c rest => exact ⟨c, rest, rfl⟩
  obtain ⟨c, rest, rfl⟩ := hst
  have hst' := good _ rfl
  subst hst'
  have htag : tag = (c.toNat : Int) := htag
  subst htag
  have r2 : DRD lo n h5 B (some rest) p q := r2
  have hsm : rest.length ≤ 2 ^ 30 := by
    obtain ⟨s', _, rr, gd, _⟩ := r2.step
    rw [gd rest rfl] at rr
    exact rr.small
  generalize hres : (some (c :: rest)).bind (pval (d' + 1)) = res at badW toBad hk3 ⊢
  have hres : pval (d' + 1) (c :: rest) = res := hres
  refine hk3 (false, ()) h5 ?_
  refine COND_r (fun h => by cases h) (fun _ => ?_)
  intro k8 hk8
  have fin : ∀ (X : Heap) (cv : Cv), Chg (fun b => b = p.block ∨ b = q.block) h X → h1.size ≤ X.size → X[b4]? = some (.cells cv.cells.toArray 27 (0, 0)) → DRD lo n X B (res.map Prod.snd) p q →
      (∀ v r, res = some (v, r) → RVS (fun b => h.size < b ∧ b < X.size) X.size X v cv) → k8 X := fun X cv gX hsX hbX rX hv => by
    refine hk8 () X ?_
    refine LDN_V (n := X.size) (c := cv) (LDN_known hbX) (by show b4 < _; omega) (fun h' e => by rw [e]; exact .refl _ _) ?_
    have hck : CELLS X ⟨b4, 0, none⟩ cv.cells := LDN_known hbX
    refine STN_r (fun j hj => ?_) (by simp [oneC, Sl.v]) (by simp) fun h9 q1 q2 q3 q4 q5 q6 => ?_
    · rw [Nat.zero_add]
      exact ⟨by rw [hck j hj, List.getElem?_eq_getElem hj]; rfl, by unfold frz; rw [add_block]; simp only [hbX]; simp⟩
    · have hck9 : CELLS h9 ⟨b4, 0, none⟩ cv.cells := fun j hj => by
        have := q4 j hj
        rw [Nat.zero_add] at this
        exact this
      refine LDN_V (n := h9.size) (c := cv) hck9 (by show b4 < _; omega) (fun h' e => by rw [e]; exact .refl _ _) ?_
      refine ⟨⟨by omega, fun b hb ho => ?_⟩, rX.keepx (x := b4) (by omega) (by omega) (by omega) (by omega) (fun b _ hb => q2 b hb), fun v r e => ?_⟩
      · rw [q2 b (by show b ≠ b4; omega)]; exact gX.same b hb ho
      · have h1 := RVS.sel (h' := h9) (fun b hb => q2 b (by show b ≠ b4; omega)) _ _ (hv v r e)
        rw [q1]
        exact h1
  have e1 : ((c.toNat : Int) == 1) = (c == 1) := u8eq c 1 (by decide)
  have e2 : ((c.toNat : Int) == 2) = (c == 2) := u8eq c 2 (by decide)
  have e3 : ((c.toNat : Int) == 3) = (c == 3) := u8eq c 3 (by decide)
  have e4 : ((c.toNat : Int) == 4) = (c == 4) := u8eq c 4 (by decide)
  have e5 : ((c.toNat : Int) == 5) = (c == 5) := u8eq c 5 (by decide)
  have e6 : ((c.toNat : Int) == 6) = (c == 6) := u8eq c 6 (by decide)
  have e7 : ((c.toNat : Int) == 7) = (c == 7) := u8eq c 7 (by decide)
  have e8 : ((c.toNat : Int) == 8) = (c == 8) := u8eq c 8 (by decide)
  simp only [e1, e2, e3, e4, e5, e6, e7, e8]
  -- one more cell of the value is known
  have put1 : ∀ {X : Heap} {cv : Cv} {i : Nat} {v : Value} {cv' : Cv} {K : Heap → Prop}, Chg (fun b => b = p.block ∨ b = q.block) h X → h1.size ≤ X.size → X[b4]? = some (.cells cv.cells.toArray 27 (0, 0)) → i < 7 → oneC v = true → cv.cells.set i v = cv'.cells →
      (∀ Y, Chg (fun b => b = p.block ∨ b = q.block) h Y → Y.size = X.size → (∀ b, b ≠ b4 → Y[b]? = X[b]?) → Y[b4]? = some (.cells cv'.cells.toArray 27 (0, 0)) → K Y) → PUTN b4 [v] i X K := by
    intro X cv i v cv' K gX hsX hbX hi hv hset k
    refine PUTk hbX (by simp; omega) (by simpa using hv) fun Y y1 y2 y3 => k Y ⟨by have := gX.sz; omega, fun b hb ho => by rw [y2 _ (by omega)]; exact gX.same b hb ho⟩ y1 y2 ?_
    rw [y3]
    have : splice cv.cells i [v] = cv.cells.set i v := by
      match i, hi with
      | 0, _ => rfl
      | 1, _ => rfl
      | 2, _ => rfl
      | 3, _ => rfl
      | 4, _ => rfl
      | 5, _ => rfl
      | 6, _ => rfl
    rw [this, hset]
  have kx : ∀ {X Y : Heap} {s : Option (List UInt8)}, DRD lo n X B s p q → X.size ≤ Y.size → (∀ b, b ≠ b4 → Y[b]? = X[b]?) → DRD lo n Y B s p q := fun r hs hk => r.keepx (x := b4) (by omega) (by omega) (by omega) hs fun b _ hb => hk b hb
  refine COND_r (fun hc => ?_) (fun hc => ?_)
  · have hc : c = 1 := by simpa using hc
    have hr : res = some (.mk 1 false 0 [] [] [] [], rest) := by rw [← hres, hc]; rfl
    refine put1 (cv' := ⟨1, false, 0, ByteArray.empty, NIL, NIL, NIL⟩) gC2 hs2 b4_2 (by decide) rfl rfl fun Y gY hsY kY bY => ?_
    refine fin Y _ gY (by omega) bY (by rw [hr]; exact kx r2 (by omega) kY) fun v r e => ?_
    rw [hr] at e; cases e
    exact RVS.flat (k := 1) (by decide) (by decide) (by decide) TX.nil RB.none_ nofun
  have n1 : c ≠ 1 := by simpa using hc
  intro k11 hk11
  suffices J11 : k11 (c == 2 || c == 3) h5 by
    revert J11
    cases (c == 2) <;> simp only [COND_true, COND_false, Bool.true_or, Bool.false_or] <;> exact fun h => h
  refine hk11 (_, ()) h5 ?_
  show COND (c == 2 || c == 3) _ _
  refine COND_r (fun hc => ?_) (fun hc => ?_)
  · have hc : c = 2 ∨ c = 3 := by simpa using hc
    have hr : res = some (.mk 2 (c == 3) 0 [] [] [] [], rest) := by
      rw [← hres]
      simp only [pval]
      rw [if_neg n1, if_pos hc]
    refine put1 (cv' := ⟨2, false, 0, ByteArray.empty, NIL, NIL, NIL⟩) gC2 hs2 b4_2 (by decide) rfl rfl fun Y gY hsY kY bY => ?_
    refine put1 (cv' := ⟨2, c == 3, 0, ByteArray.empty, NIL, NIL, NIL⟩) gY (by omega) bY (by decide) rfl rfl fun Z gZ hsZ kZ bZ => ?_
    refine fin Z _ gZ (by omega) bZ (by rw [hr]; exact kx (kx r2 (by omega) kY) (by omega) kZ) fun v r e => ?_
    rw [hr] at e; cases e
    exact RVS.flat (k := 2) (by decide) (by decide) (by decide) TX.nil RB.none_ nofun
  have n23 : ¬ (c = 2 ∨ c = 3) := by
    intro h
    have : (c == 2 || c == 3) = true := by simpa using h
    rw [this] at hc; cases hc
  -- an operation of the reader within
  have rd : ∀ {X : Heap} {s : Option (List UInt8)}, DRD lo n X B s p q → ∃ s', cell X (p.add 0) = some (.pointer (some q)) ∧ RRD lo n X B s' q ∧ (∀ rest, s = some rest → s' = some rest) ∧
      ∀ (Y : Heap) (F : Option (List UInt8) → Option (List UInt8)), F none = none → RRD lo n Y B (F s') q → Chg (fun b => b = q.block) X Y → DRD lo n Y B (F s) p q := fun r => by
    obtain ⟨s', c0, rr, gd, stp⟩ := r.step
    exact ⟨s', c0, rr, gd, fun Y F hF rY gY => stp Y F hF rY gY.sz (gY.same _ r.lt r.ne)⟩
  have cq : ∀ {X Y : Heap}, Chg (fun b => b = p.block ∨ b = q.block) h X → Chg (fun b => b = q.block) X Y → Chg (fun b => b = p.block ∨ b = q.block) h Y := fun a b => a.then (b.mono fun i _ ho => .inl (.inr ho))
  have kq : ∀ {X : Heap}, h1.size ≤ X.size → ∀ b ∈ [b4], b < X.size ∧ ¬ b = q.block := fun hX => kb1 ⟨by omega, by omega⟩
  refine COND_r (fun hc => ?_) (fun hc => ?_)
  · -- a number
    have hc : c = 4 := by simpa using hc
    have hr : res = (pvar rest).map fun x => (.mk 3 false (zag x.1) [] [] [] [], x.2) := by rw [← hres, hc]; rfl
    obtain ⟨s', c0', rr', gd, stp⟩ := rd r2
    rw [gd rest rfl] at rr' stp
    refine ⟨p, rfl, LDc (s := .pt) (x := some q) c0' ?_⟩
    refine CALLO_r (spec171 rr') (kq hs2) ?_
    rintro ⟨v, ⟨⟩⟩ X hsX gX ⟨rX, hv⟩
    refine unc1_i (s1 := .nt .i64) ?_
    simp only at hv
    subst hv
    have rX := stp X (fun s => (vintP s).map Prod.snd) rfl rX gX
    have bX : X[b4]? = _ := (gX.same _ (by omega) (by omega)).trans b4_2
    refine put1 (cv' := ⟨3, false, 0, ByteArray.empty, NIL, NIL, NIL⟩) (cq gC2 gX) (by omega) bX (by decide) rfl rfl fun Y gY hsY kY bY => ?_
    refine put1 (cv' := ⟨3, false, zag (((vintP (some rest)).map Prod.fst).getD 0), ByteArray.empty, NIL, NIL, NIL⟩) gY (by omega) bY (by decide) rfl rfl fun Z gZ hsZ kZ bZ => ?_
    have hvp : vintP (some rest) = pvar rest := rfl
    rw [hvp] at rX bZ
    refine fin Z _ gZ (by omega) bZ ?_ fun v r e => ?_
    · have : res.map Prod.snd = (pvar rest).map Prod.snd := by rw [hr]; cases pvar rest <;> rfl
      rw [this]
      exact kx (kx rX (by omega) kY) (by omega) kZ
    · rw [hr] at e
      cases hpv : pvar rest with
      | none => rw [hpv] at e; cases e
      | some x =>
        obtain ⟨w, r'⟩ := x
        rw [hpv] at e
        cases e
        have := zag_range (pvar_lt hpv)
        exact RVS.flat (k := 3) (by decide) this.1 this.2 TX.nil RB.none_ nofun
  have n4 : c ≠ 4 := by simpa using hc
  refine COND_r (fun hc => ?_) (fun hc => ?_)
  · -- a text
    have hc : c = 5 := by simpa using hc
    have hr : res = (ptxt rest).map fun x => (.mk 4 false 0 x.1 [] [] [], x.2) := by rw [← hres, hc]; rfl
    obtain ⟨s', c0', rr', gd, stp⟩ := rd r2
    rw [gd rest rfl] at rr' stp
    refine ⟨p, rfl, LDc (s := .pt) (x := some q) c0' ?_⟩
    refine CALLO_r (spec37 rr') (kq hs2) ?_
    rintro ⟨v, ⟨⟩⟩ X hsX gX ⟨rX, hv⟩
    refine unc1_i (s1 := .tx) ?_
    simp only at hv
    have rX := stp X (fun s => (txtP s).map Prod.snd) rfl rX gX
    have bX : X[b4]? = _ := (gX.same _ (by omega) (by omega)).trans b4_2
    refine put1 (cv' := ⟨4, false, 0, ByteArray.empty, NIL, NIL, NIL⟩) (cq gC2 gX) (by omega) bX (by decide) rfl rfl fun Y gY hsY kY bY => ?_
    refine put1 (cv' := ⟨4, false, 0, v, NIL, NIL, NIL⟩) gY (by omega) bY (by decide) rfl rfl fun Z gZ hsZ kZ bZ => ?_
    have hvp : txtP (some rest) = ptxt rest := rfl
    rw [hvp] at rX hv
    refine fin Z _ gZ (by omega) bZ ?_ fun v r e => ?_
    · have : res.map Prod.snd = (ptxt rest).map Prod.snd := by rw [hr]; cases ptxt rest <;> rfl
      rw [this]
      exact kx (kx rX (by omega) kY) (by omega) kZ
    · rw [hr] at e
      cases hpv : ptxt rest with
      | none => rw [hpv] at e; cases e
      | some x =>
        obtain ⟨w, r'⟩ := x
        rw [hpv] at e hv
        cases e
        exact RVS.flat (k := 4) (by decide) (by decide) (by decide) hv RB.none_ nofun
  have n5 : c ≠ 5 := by simpa using hc
  refine COND_r (fun hc => ?_) (fun hc => ?_)
  · -- bytes
    have hc : c = 6 := by simpa using hc
    have hr : res = (ptxt rest).map fun x => (.mk 5 false 0 [] x.1 [] [], x.2) := by rw [← hres, hc]; rfl
    obtain ⟨s', c0', rr', gd, stp⟩ := rd r2
    rw [gd rest rfl] at rr' stp
    refine ⟨p, rfl, LDc (s := .pt) (x := some q) c0' ?_⟩
    refine CALLO_r (spec37 rr') (kq hs2) ?_
    rintro ⟨v, ⟨⟩⟩ X hsX gX ⟨rX, hv⟩
    refine unc1_i (s1 := .tx) ?_
    simp only at hv
    have rX := stp X (fun s => (txtP s).map Prod.snd) rfl rX gX
    have bX : X[b4]? = _ := (gX.same _ (by omega) (by omega)).trans b4_2
    have hvp : txtP (some rest) = ptxt rest := rfl
    rw [hvp] at rX hv
    have hvs := hv.size
    have hvm := hv.small
    refine ⟨by omega, fun cp hcp hcp2 => ?_⟩
    rw [bytesV_eq hv.eq, hvs]
    generalize hu : ((ptxt rest).map Prod.fst).getD [] = u at hv hvs hvm ⊢
    have hX2 : ∀ o : Obj, ∀ b, b < X.size → (X.push o)[b]? = X[b]? := fun o b hb => push_old hb
    have rb2 : RB (X.size + 1) (X.push (.cells (u8s u ++ List.replicate (cp - u.length) (Value.int .u8 0)).toArray 5 (cp, cp + 1))) u ⟨some ⟨X.size, 0, none⟩, u.length, cp⟩ :=
      ⟨rfl, by show u.length ≤ cp; omega, hcp2, fun _ => ⟨⟨X.size, 0, none⟩, rfl, by show X.size < _; omega, fun i hi => by
        rw [cell_pushed, List.getElem?_append_left (by simp [u8s]; omega)]
        simp [u8s]⟩, fun a e _ => by cases e; show X.size < _; omega⟩
    have hsz2 : (X.push (.cells (u8s u ++ List.replicate (cp - u.length) (Value.int .u8 0)).toArray 5 (cp, cp + 1))).size = X.size + 1 := by simp
    have gX2 : Chg (fun b => b = p.block ∨ b = q.block) h (X.push (.cells (u8s u ++ List.replicate (cp - u.length) (Value.int .u8 0)).toArray 5 (cp, cp + 1))) := (cq gC2 gX).push _
    have rX2 := rX.keep (h' := X.push (.cells (u8s u ++ List.replicate (cp - u.length) (Value.int .u8 0)).toArray 5 (cp, cp + 1))) (by simp) (fun b hb => push_old hb)
    have bX2 := (hX2 (.cells (u8s u ++ List.replicate (cp - u.length) (Value.int .u8 0)).toArray 5 (cp, cp + 1)) b4 (by omega)).trans bX
    generalize X.push (.cells (u8s u ++ List.replicate (cp - u.length) (Value.int .u8 0)).toArray 5 (cp, cp + 1)) = X2 at rb2 hsz2 gX2 rX2 bX2 ⊢
    refine put1 (cv' := ⟨5, false, 0, ByteArray.empty, NIL, NIL, NIL⟩) gX2 (by omega) bX2 (by decide) rfl rfl fun Y gY hsY kY bY => ?_
    refine put1 (cv' := ⟨5, false, 0, ByteArray.empty, ⟨some ⟨X.size, 0, none⟩, u.length, cp⟩, NIL, NIL⟩) gY (by omega) bY (by decide) rfl rfl fun Z gZ hsZ kZ bZ => ?_
    refine fin Z _ gZ (by omega) bZ ?_ fun v r e => ?_
    · have : res.map Prod.snd = (ptxt rest).map Prod.snd := by rw [hr]; cases ptxt rest <;> rfl
      rw [this]
      exact kx (kx rX2 (by omega) kY) (by omega) kZ
    · rw [hr] at e
      cases hpv : ptxt rest with
      | none => rw [hpv] at e; cases e
      | some x =>
        obtain ⟨w, r'⟩ := x
        rw [hpv] at e hu
        cases e
        have hu : w = u := hu
        subst hu
        have hzs : Z.size = X.size + 1 := by omega
        rw [hzs]
        exact RVS.flat (k := 5) (by decide) (by decide) (by decide) TX.nil (rb2.same fun a ha _ => by cases ha; rw [kZ _ (by show X.size ≠ b4; omega), kY _ (by show X.size ≠ b4; omega)]) (fun a ha => by cases ha; show h.size < X.size ∧ X.size < X.size + 1; omega)
  have n6 : c ≠ 6 := by simpa using hc
  have ewd : IntKind.wrap .i64 (((d' + 1 : Nat) : Int) - 1) = (d' : Int) := by rw [wrap_small (by omega) (by omega)]; omega
  refine COND_r (fun hc => ?_) (fun hc => ?_)
  · -- a list
    have hc : c = 7 := by simpa using hc
    have hr : res = (pvar rest).bind fun x => (plist (pval d') x.1 x.2).map fun y => (.mk 6 false 0 [] [] y.1 [], y.2) := by rw [← hres, hc]; rfl
    refine put1 (cv' := ⟨6, false, 0, ByteArray.empty, NIL, NIL, NIL⟩) gC2 hs2 b4_2 (by decide) rfl rfl fun Y gY hsY kY bY => ?_
    have rY := kx r2 (by omega) kY
    obtain ⟨s', c0', rr', gd, stp⟩ := rd rY
    rw [gd rest rfl] at rr' stp
    refine ⟨p, rfl, LDc (s := .pt) (x := some q) c0' ?_⟩
    refine CALLO_r (spec92 rr') (kq (by omega)) ?_
    rintro ⟨v, ⟨⟩⟩ X hsX gX ⟨rX, hv⟩
    refine unc1_i (s1 := .nt .u64) ?_
    simp only at hv
    subst hv
    have rX := stp X (fun s => (vintP s).map Prod.snd) rfl rX gX
    have bX : X[b4]? = _ := (gX.same _ (by omega) (by omega)).trans bY
    have hvp : vintP (some rest) = pvar rest := rfl
    rw [hvp] at rX ⊢
    refine ⟨fun x Y => ∃ (m : Nat) (stY : Option (List UInt8)) (rows : List (List Value)) (s : Sl), x.1 = (m : Int) ∧ m < 2 ^ 64 ∧ Chg (fun b => b = p.block ∨ b = q.block) h Y ∧ h1.size ≤ Y.size ∧
        Y[b4]? = some (.cells (Cv.cells ⟨6, false, 0, ByteArray.empty, NIL, s, NIL⟩).toArray 27 (0, 0)) ∧ DRD lo n Y B stY p q ∧ BR h1.size Y 7 rows s ∧
        (∀ restY, stY = some restY → ∃ vs, allR (rowV (fun b => h.size < b ∧ b < Y.size ∧ ∀ a, s.a = some a → b ≠ a.block) Y) vs rows ∧ res = (plist (pval d') m restY).map (fun y => (.mk 6 false 0 [] [] (vs ++ y.1) [], y.2)) ∧ rows.length + restY.length ≤ rest.length) ∧
        (stY = none → res = none ∧ rows.length ≤ rest.length + 1), fun x _ => x.1.toNat,
      ⟨((pvar rest).map Prod.fst).getD 0, (pvar rest).map Prod.snd, [], NIL, rfl, ?_, cq gY gX, by omega, bX, rX, BR.nil, fun restY e => ?_, fun e => ?_⟩, ?_⟩
    · cases hpv : pvar rest with
      | none => show (0 : Nat) < _; decide
      | some x => exact pvar_lt hpv
    · cases hpv : pvar rest with
      | none => rw [hpv] at e; cases e
      | some x =>
        obtain ⟨w, r'⟩ := x
        rw [hpv] at e hr
        cases e
        have := pvGo_len _ _ _ _ _ hpv
        exact ⟨[], trivial, by simpa using hr, by simp; omega⟩
    · cases hpv : pvar rest with
      | none => rw [hpv] at hr; exact ⟨hr, by simp⟩
      | some x => rw [hpv] at e; cases e
    · rintro ⟨x6, ⟨⟩⟩ X ⟨m, stX, rows, s, hx, hm, gX, hsX, bX, rX, br, i1, i2⟩
      simp only at hx
      subst hx
      intro k29 hk29
      -- the end, if there is one
      have stop : (∀ restX, stX = some restX → m = 0) → k29 false X := fun hend => by
        refine hk29 (false, ()) X ?_
        refine COND_r (fun h => by cases h) (fun _ => ?_)
        refine fin X _ gX hsX bX ?_ fun v r e => ?_
        · cases hsx : stX with
          | none => rw [(i2 hsx).1]; rw [hsx] at rX; exact rX
          | some restX =>
            obtain ⟨vs, _, e, _⟩ := i1 restX hsx
            rw [hend restX hsx] at e
            rw [e]
            rw [hsx] at rX; exact rX
        · cases hsx : stX with
          | none => rw [(i2 hsx).1] at e; cases e
          | some restX =>
            obtain ⟨vs, al, e2, _⟩ := i1 restX hsx
            rw [hend restX hsx] at e2
            rw [e2] at e
            simp only [plist, Option.map_some, List.append_nil] at e
            cases e
            have hl := al.len
            refine ⟨⟨rfl, by decide, rfl, rfl, by decide, by decide⟩, TX.nil, ⟨RB.none_, nofun⟩, ⟨br.sh hl.symm, ?_⟩, SH.nil, trivial⟩
            show RLS _ _ X vs s.a 0
            cases hsa : s.a with
            | none =>
              have h0 := br.none_ hsa
              have h1 := br.cap
              have h2 := br.len
              have : vs = [] := List.eq_nil_of_length_eq_zero (by omega)
              subst this; trivial
            | some a0 =>
              have hb := br.blk a0 hsa
              refine rowsL (n := n) (lo := 0) hb.2 (by show h.size < a0.block ∧ a0.block < X.size; omega) (al.imp fun v r => ?_) fun j hj => by rw [Nat.zero_add]; exact br.cells a0 hsa j hj
              rintro ⟨c, e, hc⟩
              exact ⟨c, e, RVS.imp (fun b _ hb => ⟨hb.1, hb.2.1⟩) _ _ hc⟩
      refine COND_r (fun hm0 => ?_) (fun hm0 => stop fun restX _ => ?_)
      · have hm0 : 0 < m := by
          have : (m : Int) > 0 := by simpa using hm0
          omega
        refine CALL_r (spec170 rX) (by simp) ?_
        rintro ⟨w, ⟨⟩⟩ X2 hsX2 gX2 ⟨rfl, hw⟩
        simp only at hw
        cases hw2 : w with
        | true => exact stop fun restX e => by rw [hw.1 hw2] at e; cases e
        | false =>
          obtain ⟨restX, rfl⟩ : ∃ restX, stX = some restX := by
            cases stX with
            | none => have := hw.2 rfl; rw [hw2] at this; cases this
            | some restX => exact ⟨restX, rfl⟩
          obtain ⟨vs, al, er, hle⟩ := i1 restX rfl
          refine hk29 (true, ()) X2 ?_
          refine COND_r (fun _ => ?_) (fun h => by cases h)
          refine ⟨fun X' => X'[b4]? = X2[b4]?, rfl, fun _ _ => trivial, ?_⟩
          refine LDk (s := .sl) (x := s) bX rfl (fun h' e => e) ?_
          rw [ewd]
          refine CALLO_r (ih d' (by omega) (some restX) X2 (by omega) rX) (by simp) ?_
          rintro ⟨y1, y2, y3, y4, y5, y6, y7, ⟨⟩⟩ Z hsZ gZ ⟨rZ, hvZ⟩
          refine unc7_i ?_
          generalize hcv : Cv.of (y1, y2, y3, y4, y5, y6, y7, ()) = cz at hvZ
          have hcv2 : [Value.int .u8 y1, .bool y2, .int .i64 y3, .string y4, y5.v, y6.v, y7.v] = cz.cells := by rw [← hcv]; rfl
          rw [hcv2]
          refine SS_r (gZ.same b4 (by omega) (by omega)) ?_
          refine ALLOC_r (.refl Z.size Z) (Nat.le_refl _) fun b82 Z1 hb82 hsZ1 gZ1 _ hc82 => ?_
          refine SS_r ((gZ1.same b4 (by omega)).trans (gZ.same b4 (by omega) (by omega))) ?_
          have br1 : BR h1.size Z1 7 rows s := br.keep (by omega) fun a ha => by
            have hb := br.blk a ha
            rw [gZ1.same _ (by omega), gZ.same _ (by omega) (by omega)]
          refine APPENDR_r (x := cz.cells) br1 (by decide) (by decide) (by decide) rfl (LDN_known hc82) rfl (by simp [oneC, Sl.v]) (by omega) (by omega) fun s2 W hsW kW brW nW => ?_
          have bW : W[b4]? = X2[b4]? := by
            rw [kW b4 (by omega) fun a ha => by have := (br.blk a ha).1; omega]
            exact (gZ1.same b4 (by omega)).trans (gZ.same b4 (by omega) (by omega))
          refine SS_r bW ?_
          refine STNk (cs := Cv.cells ⟨6, false, 0, ByteArray.empty, NIL, s, NIL⟩) (t := 27) (old := s.v) (bW.trans bX) rfl rfl (by simp) fun U usz uo ub => ?_
          have ewm : IntKind.wrap .u64 ((m : Int) - 1) = ((m - 1 : Nat) : Int) := by rw [IntKind.wrap_u64]; omega
          rw [ewm]
          -- what is kept
          have keepOld : ∀ b, b < X2.size → b ≠ p.block → b ≠ q.block → b ≠ b4 → (∀ a, s.a = some a → b ≠ a.block) → U[b]? = X2[b]? := fun b hb x1 x2 x3 x4 => by
            rw [uo b x3, kW b (by omega) x4, gZ1.same b (by omega), gZ.same b hb (fun e => e.elim x1 x2)]
          have keepZ : ∀ b, b < Z.size → b ≠ b4 → (∀ a, s.a = some a → b ≠ a.block) → U[b]? = Z[b]? := fun b hb x3 x4 => by
            rw [uo b x3, kW b (by omega) x4, gZ1.same b (by omega)]
          have sblk : ∀ a, s.a = some a → h1.size ≤ a.block ∧ a.block < X2.size := fun a ha => br.blk a ha
          have s2blk : ∀ a, s2.a = some a → s.a = some a ∨ a.block = Z1.size := nW
          refine ⟨⟨m - 1, ((some restX).bind (pval d')).map Prod.snd, rows ++ [cz.cells], s2, rfl, by omega, ⟨by have := gX.sz; omega, fun b hb ho => ?_⟩, by omega, ub, ?_, brW.keep (by omega) (fun a ha => uo _ ?_), fun restY e => ?_, fun e => ?_⟩, ?_⟩
          · rw [keepOld b (by have := gX.sz; omega) (fun e => ho (.inl e)) (fun e => ho (.inr e)) (by omega) (fun a ha => by have := sblk a ha; omega)]
            exact gX.same b hb ho
          · have rW : DRD lo n U B (((some restX).bind (pval d')).map Prod.snd) p q := by
              obtain ⟨s3, c3, rr3, gd3, stp3⟩ := rZ.step
              have hqz := rr3.lt
              have hgz := rr3.ge
              refine stp3 U id rfl (rr3.keep (by omega) (fun b _ hb => keepZ b (by omega) (by omega) (fun a ha => by have := sblk a ha; omega)) (keepZ _ hqz (by omega) (fun a ha => by have := sblk a ha; omega))) (by omega) (keepZ _ (by omega) (by omega) (fun a ha => by have := sblk a ha; omega))
            exact rW
          · rcases s2blk a ha with e | e
            · have := sblk a e; omega
            · omega
          · cases hpv : pval d' restX with
            | none => rw [show (some restX).bind (pval d') = pval d' restX from rfl, hpv] at e; cases e
            | some x =>
              obtain ⟨w, r'⟩ := x
              rw [show (some restX).bind (pval d') = pval d' restX from rfl, hpv] at e
              cases e
              have hlen := pval_len _ _ _ _ hpv
              have hvw := hvZ w r' hpv
              refine ⟨vs ++ [w], ?_, ?_, by simp; omega⟩
              · have sn : rowV (fun b => h.size < b ∧ b < U.size ∧ ∀ a, s2.a = some a → b ≠ a.block) U w cz.cells := ⟨cz, rfl, ?_⟩
                refine allR.snoc sn (al.imp fun v r => ?_)
                rotate_left
                · have h1 := RVS.sel (h' := U) (fun b hb => keepZ b (by omega) (by omega) (fun a ha => by have := sblk a ha; omega)) _ _ hvw
                  refine RVS.imp (fun b _ hb => ⟨by omega, by omega, fun a ha => ?_⟩) _ _ (RVS.mono (m := U.size) (by omega) _ _ h1)
                  rcases s2blk a ha with e | e
                  · have := sblk a e; omega
                  · omega
                · rintro ⟨c, e, hc⟩
                  refine ⟨c, e, ?_⟩
                  have h1 := RVS.sel (h' := U) (fun b hb => keepOld b hb.2.1 (by omega) (by omega) (by omega) hb.2.2) _ _ hc
                  refine RVS.imp (fun b _ hb => ⟨hb.1, by omega, fun a ha => ?_⟩) _ _ (RVS.mono (m := U.size) (by omega) _ _ h1)
                  rcases s2blk a ha with e | e
                  · exact hb.2.2 a e
                  · omega
              · rw [er]
                obtain ⟨m', rfl⟩ : ∃ m', m = m' + 1 := ⟨m - 1, by omega⟩
                simp only [plist, hpv, Option.bind_some, Nat.add_sub_cancel, Option.map_map]
                congr 1
                funext y
                simp
          · cases hpv : pval d' restX with
            | none =>
              refine ⟨?_, by simp; omega⟩
              rw [er]
              obtain ⟨m', rfl⟩ : ∃ m', m = m' + 1 := ⟨m - 1, by omega⟩
              simp [plist, hpv]
            | some x => rw [show (some restX).bind (pval d') = pval d' restX from rfl, hpv] at e; cases e
          · show ((m - 1 : Nat) : Int).toNat < (m : Int).toNat
            omega
      · have : ¬ (m : Int) > 0 := by simpa using hm0
        omega
  have n7 : c ≠ 7 := by simpa using hc
  refine COND_r (fun hc => ?_) (fun hc => ?_)
  · -- a document
    have hc : c = 8 := by simpa using hc
    have hr : res = (pvar rest).bind fun x => (plist (pfld (pval d')) x.1 x.2).map fun y => (.mk 7 false 0 [] [] [] y.1, y.2) := by rw [← hres, hc]; rfl
    refine put1 (cv' := ⟨7, false, 0, ByteArray.empty, NIL, NIL, NIL⟩) gC2 hs2 b4_2 (by decide) rfl rfl fun Y gY hsY kY bY => ?_
    have rY := kx r2 (by omega) kY
    obtain ⟨s', c0', rr', gd, stp⟩ := rd rY
    rw [gd rest rfl] at rr' stp
    refine ⟨p, rfl, LDc (s := .pt) (x := some q) c0' ?_⟩
    refine CALLO_r (spec92 rr') (kq (by omega)) ?_
    rintro ⟨v, ⟨⟩⟩ X hsX gX ⟨rX, hv⟩
    refine unc1_i (s1 := .nt .u64) ?_
    simp only at hv
    subst hv
    have rX := stp X (fun s => (vintP s).map Prod.snd) rfl rX gX
    have bX : X[b4]? = _ := (gX.same _ (by omega) (by omega)).trans bY
    have hvp : vintP (some rest) = pvar rest := rfl
    rw [hvp] at rX ⊢
    refine ⟨fun x Y => ∃ (m : Nat) (stY : Option (List UInt8)) (rows : List (List Value)) (s : Sl), x.1 = (m : Int) ∧ m < 2 ^ 64 ∧ Chg (fun b => b = p.block ∨ b = q.block) h Y ∧ h1.size ≤ Y.size ∧
        Y[b4]? = some (.cells (Cv.cells ⟨7, false, 0, ByteArray.empty, NIL, NIL, s⟩).toArray 27 (0, 0)) ∧ DRD lo n Y B stY p q ∧ BR h1.size Y 8 rows s ∧
        (∀ restY, stY = some restY → ∃ vs, allR (rowF (fun b => h.size < b ∧ b < Y.size ∧ ∀ a, s.a = some a → b ≠ a.block) Y) vs rows ∧ res = (plist (pfld (pval d')) m restY).map (fun y => (.mk 7 false 0 [] [] [] (vs ++ y.1), y.2)) ∧ rows.length + restY.length ≤ rest.length) ∧
        (stY = none → res = none ∧ rows.length ≤ rest.length + 1), fun x _ => x.1.toNat,
      ⟨((pvar rest).map Prod.fst).getD 0, (pvar rest).map Prod.snd, [], NIL, rfl, ?_, cq gY gX, by omega, bX, rX, BR.nil, fun restY e => ?_, fun e => ?_⟩, ?_⟩
    · cases hpv : pvar rest with
      | none => show (0 : Nat) < _; decide
      | some x => exact pvar_lt hpv
    · cases hpv : pvar rest with
      | none => rw [hpv] at e; cases e
      | some x =>
        obtain ⟨w, r'⟩ := x
        rw [hpv] at e hr
        cases e
        have := pvGo_len _ _ _ _ _ hpv
        exact ⟨[], trivial, by simpa using hr, by simp; omega⟩
    · cases hpv : pvar rest with
      | none => rw [hpv] at hr; exact ⟨hr, by simp⟩
      | some x => rw [hpv] at e; cases e
    · rintro ⟨x6, ⟨⟩⟩ X ⟨m, stX, rows, s, hx, hm, gX, hsX, bX, rX, br, i1, i2⟩
      simp only at hx
      subst hx
      intro k29 hk29
      -- the end, if there is one
      have stop : (∀ restX, stX = some restX → m = 0) → k29 false X := fun hend => by
        refine hk29 (false, ()) X ?_
        refine COND_r (fun h => by cases h) (fun _ => ?_)
        refine fin X _ gX hsX bX ?_ fun v r e => ?_
        · cases hsx : stX with
          | none => rw [(i2 hsx).1]; rw [hsx] at rX; exact rX
          | some restX =>
            obtain ⟨vs, _, e, _⟩ := i1 restX hsx
            rw [hend restX hsx] at e
            rw [e]
            rw [hsx] at rX; exact rX
        · cases hsx : stX with
          | none => rw [(i2 hsx).1] at e; cases e
          | some restX =>
            obtain ⟨vs, al, e2, _⟩ := i1 restX hsx
            rw [hend restX hsx] at e2
            rw [e2] at e
            simp only [plist, Option.map_some, List.append_nil] at e
            cases e
            have hl := al.len
            refine ⟨⟨rfl, by decide, rfl, rfl, by decide, by decide⟩, TX.nil, ⟨RB.none_, nofun⟩, ⟨SH.nil, trivial⟩, br.sh hl.symm, ?_⟩
            show RFS _ _ X vs s.a 0
            cases hsa : s.a with
            | none =>
              have h0 := br.none_ hsa
              have h1 := br.cap
              have h2 := br.len
              have : vs = [] := List.eq_nil_of_length_eq_zero (by omega)
              subst this; trivial
            | some a0 =>
              have hb := br.blk a0 hsa
              refine rowsF (n := n) (lo := 0) hb.2 (by show h.size < a0.block ∧ a0.block < X.size; omega) (al.imp fun v r => ?_) fun j hj => by rw [Nat.zero_add]; exact br.cells a0 hsa j hj
              rintro ⟨nm, c, e, ht, hc⟩
              exact ⟨nm, c, e, ht, RVS.imp (fun b _ hb => ⟨hb.1, hb.2.1⟩) _ _ hc⟩
      refine COND_r (fun hm0 => ?_) (fun hm0 => stop fun restX _ => ?_)
      · have hm0 : 0 < m := by
          have : (m : Int) > 0 := by simpa using hm0
          omega
        refine CALL_r (spec170 rX) (by simp) ?_
        rintro ⟨w, ⟨⟩⟩ X2 hsX2 gX2 ⟨rfl, hw⟩
        simp only at hw
        cases hw2 : w with
        | true => exact stop fun restX e => by rw [hw.1 hw2] at e; cases e
        | false =>
          obtain ⟨restX, rfl⟩ : ∃ restX, stX = some restX := by
            cases stX with
            | none => have := hw.2 rfl; rw [hw2] at this; cases this
            | some restX => exact ⟨restX, rfl⟩
          obtain ⟨vs, al, er, hle⟩ := i1 restX rfl
          refine hk29 (true, ()) X2 ?_
          refine COND_r (fun _ => ?_) (fun h => by cases h)
          -- the name
          obtain ⟨s'n, c0n, rrn, gdn, stpn⟩ := rd rX
          rw [gdn restX rfl] at rrn stpn
          refine ⟨p, rfl, LDc (s := .pt) (x := some q) c0n ?_⟩
          refine CALLO_r (spec37 rrn) (by simp) ?_
          rintro ⟨nm, ⟨⟩⟩ X3 hsX3 gX3 ⟨rX3, hnm⟩
          refine unc1_i (s1 := .tx) ?_
          simp only at hnm
          have rX3 := stpn X3 (fun s => (txtP s).map Prod.snd) rfl rX3 gX3
          have hvpn : txtP (some restX) = ptxt restX := rfl
          rw [hvpn] at rX3 hnm
          have bX3 : X3[b4]? = X2[b4]? := gX3.same b4 (by omega) (by omega)
          refine ⟨fun X' => X'[b4]? = X3[b4]?, rfl, fun _ _ => trivial, ?_⟩
          refine LDk (s := .sl) (x := s) (bX3.trans bX) rfl (fun h' e => e) ?_
          rw [ewd]
          refine CALLO_r (ih d' (by omega) _ X3 (by omega) rX3) (by simp) ?_
          rintro ⟨y1, y2, y3, y4, y5, y6, y7, ⟨⟩⟩ Z hsZ gZ ⟨rZ, hvZ⟩
          refine unc7_i ?_
          generalize hcv : Cv.of (y1, y2, y3, y4, y5, y6, y7, ()) = cz at hvZ
          have hcv2 : [Value.int .u8 y1, .bool y2, .int .i64 y3, .string y4, y5.v, y6.v, y7.v] = cz.cells := by rw [← hcv]; rfl
          have hcv3 : [Value.string nm, .int .u8 y1, .bool y2, .int .i64 y3, .string y4, y5.v, y6.v, y7.v] = .string nm :: cz.cells := by rw [← hcv2]
          rw [hcv3]
          refine SS_r (gZ.same b4 (by omega) (by omega)) ?_
          refine ALLOC_r (.refl Z.size Z) (Nat.le_refl _) fun b82 Z1 hb82 hsZ1 gZ1 _ hc82 => ?_
          refine SS_r ((gZ1.same b4 (by omega)).trans (gZ.same b4 (by omega) (by omega))) ?_
          have br1 : BR h1.size Z1 8 rows s := br.keep (by omega) fun a ha => by
            have hb := br.blk a ha
            rw [gZ1.same _ (by omega), gZ.same _ (by omega) (by omega), gX3.same _ (by omega) (by omega)]
          refine APPENDR_r (x := .string nm :: cz.cells) br1 (by decide) (by decide) (by decide) rfl (LDN_known hc82) rfl (by simp [oneC, Sl.v]) (by omega) (by omega) fun s2 W hsW kW brW nW => ?_
          have bW : W[b4]? = X3[b4]? := by
            rw [kW b4 (by omega) fun a ha => by have := (br.blk a ha).1; omega]
            exact (gZ1.same b4 (by omega)).trans (gZ.same b4 (by omega) (by omega))
          refine SS_r bW ?_
          refine STNk (cs := Cv.cells ⟨7, false, 0, ByteArray.empty, NIL, NIL, s⟩) (t := 27) (old := s.v) ((bW.trans bX3).trans bX) rfl rfl (by simp) fun U usz uo ub => ?_
          have ewm : IntKind.wrap .u64 ((m : Int) - 1) = ((m - 1 : Nat) : Int) := by rw [IntKind.wrap_u64]; omega
          rw [ewm]
          -- what is kept
          have keepOld : ∀ b, b < X2.size → b ≠ p.block → b ≠ q.block → b ≠ b4 → (∀ a, s.a = some a → b ≠ a.block) → U[b]? = X2[b]? := fun b hb x1 x2 x3 x4 => by
            rw [uo b x3, kW b (by omega) x4, gZ1.same b (by omega), gZ.same b (by omega) (fun e => e.elim x1 x2), gX3.same b hb x2]
          have keepZ : ∀ b, b < Z.size → b ≠ b4 → (∀ a, s.a = some a → b ≠ a.block) → U[b]? = Z[b]? := fun b hb x3 x4 => by
            rw [uo b x3, kW b (by omega) x4, gZ1.same b (by omega)]
          have sblk : ∀ a, s.a = some a → h1.size ≤ a.block ∧ a.block < X2.size := fun a ha => br.blk a ha
          have s2blk : ∀ a, s2.a = some a → s.a = some a ∨ a.block = Z1.size := nW
          refine ⟨⟨m - 1, (((ptxt restX).map Prod.snd).bind (pval d')).map Prod.snd, rows ++ [.string nm :: cz.cells], s2, rfl, by omega, ⟨by have := gX.sz; omega, fun b hb ho => ?_⟩, by omega, ub, ?_, brW.keep (by omega) (fun a ha => uo _ ?_), fun restY e => ?_, fun e => ?_⟩, ?_⟩
          · rw [keepOld b (by have := gX.sz; omega) (fun e => ho (.inl e)) (fun e => ho (.inr e)) (by omega) (fun a ha => by have := sblk a ha; omega)]
            exact gX.same b hb ho
          · have rW : DRD lo n U B ((((ptxt restX).map Prod.snd).bind (pval d')).map Prod.snd) p q := by
              obtain ⟨s3, c3, rr3, gd3, stp3⟩ := rZ.step
              have hqz := rr3.lt
              have hgz := rr3.ge
              refine stp3 U id rfl (rr3.keep (by omega) (fun b _ hb => keepZ b (by omega) (by omega) (fun a ha => by have := sblk a ha; omega)) (keepZ _ hqz (by omega) (fun a ha => by have := sblk a ha; omega))) (by omega) (keepZ _ (by omega) (by omega) (fun a ha => by have := sblk a ha; omega))
            exact rW
          · rcases s2blk a ha with e | e
            · have := sblk a e; omega
            · omega
          · cases htx : ptxt restX with
            | none => rw [htx] at e; cases e
            | some z =>
              obtain ⟨tn, rn⟩ := z
              rw [htx] at e hnm hvZ
              have e : ((pval d' rn).map Prod.snd) = some restY := e
              have hvZ : ∀ v r, pval d' rn = some (v, r) → RVS (fun b => X3.size < b ∧ b < Z.size) Z.size Z v cz := hvZ
              have hnm : TX tn nm := hnm
              cases hpv : pval d' rn with
              | none => rw [hpv] at e; cases e
              | some x =>
                obtain ⟨w, r'⟩ := x
                rw [hpv] at e
                cases e
                have hlen := pval_len _ _ _ _ hpv
                have hlen2 := ptxt_len htx
                have hvw := hvZ w r' hpv
                have hpf : pfld (pval d') restX = some ((tn, w), r') := by simp [pfld, htx, hpv]
                refine ⟨vs ++ [(tn, w)], ?_, ?_, by simp; omega⟩
                · have sn : rowF (fun b => h.size < b ∧ b < U.size ∧ ∀ a, s2.a = some a → b ≠ a.block) U (tn, w) (.string nm :: cz.cells) := ⟨nm, cz, rfl, hnm, ?_⟩
                  refine allR.snoc sn (al.imp fun v r => ?_)
                  rotate_left
                  · have h1 := RVS.sel (h' := U) (fun b hb => keepZ b (by omega) (by omega) (fun a ha => by have := sblk a ha; omega)) _ _ hvw
                    refine RVS.imp (fun b _ hb => ⟨by omega, by omega, fun a ha => ?_⟩) _ _ (RVS.mono (m := U.size) (by omega) _ _ h1)
                    rcases s2blk a ha with e | e
                    · have := sblk a e; omega
                    · omega
                  · rintro ⟨nm', c, e, ht, hc⟩
                    refine ⟨nm', c, e, ht, ?_⟩
                    have h1 := RVS.sel (h' := U) (fun b hb => keepOld b hb.2.1 (by omega) (by omega) (by omega) hb.2.2) _ _ hc
                    refine RVS.imp (fun b _ hb => ⟨hb.1, by omega, fun a ha => ?_⟩) _ _ (RVS.mono (m := U.size) (by omega) _ _ h1)
                    rcases s2blk a ha with e | e
                    · exact hb.2.2 a e
                    · omega
                · rw [er]
                  obtain ⟨m', rfl⟩ : ∃ m', m = m' + 1 := ⟨m - 1, by omega⟩
                  simp only [plist, hpf, Option.bind_some, Nat.add_sub_cancel, Option.map_map]
                  congr 1
                  funext y
                  simp
          · have hpf : pfld (pval d') restX = none := by
              unfold pfld
              cases htx : ptxt restX with
              | none => rfl
              | some z =>
                rw [htx] at e
                have e : ((pval d' z.2).map Prod.snd) = none := e
                cases hpv : pval d' z.2 with
                | none => simp [hpv]
                | some x => rw [hpv] at e; cases e
            refine ⟨?_, by simp; omega⟩
            rw [er]
            obtain ⟨m', rfl⟩ : ∃ m', m = m' + 1 := ⟨m - 1, by omega⟩
            simp [plist, hpf]
          · show ((m - 1 : Nat) : Int).toNat < (m : Int).toNat
            omega
      · have : ¬ (m : Int) > 0 := by simpa using hm0
        omega
  have n8 : c ≠ 8 := by simpa using hc
  refine badW h5 _ _ gC2 hs2 b4_2 r2 ?_
  rw [← hres]
  simp only [pval]
  rw [if_neg n1, if_neg n23, if_neg n4, if_neg n5, if_neg n6, if_neg n7, if_neg n8]

end Go.VK
