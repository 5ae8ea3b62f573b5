/- Contracts: what is wrong with a value. -/
import Derived.Test.YtemkcbopbinfmaaGreatDoorVE5
set_option linter.all false
namespace Go.VK
open Go Go.Proofs
set_option maxRecDepth 100000
set_option linter.unusedVariables false
set_option linter.unusedSimpArgs false

/-- A value with what its kind has alone. -/
def bareC (c : Cv) : Cv := ⟨c.k, if c.k = 2 then c.b else false, if c.k = 3 then c.i else 0, if c.k = 4 then c.t else .empty, ⟨none, 0, 0⟩, ⟨none, 0, 0⟩, ⟨none, 0, 0⟩⟩

/-- bare -/
theorem spec161 {h : Heap} {c : Cv} : SPEC P 161 [c.v] [.agg [.nt .u8, .bl, .nt .i64, .tx, .sl, .sl, .sl]] h h.size fun x _ => x = ((bareC c).k, (bareC c).b, (bareC c).i, (bareC c).t, ⟨none, 0, 0⟩, ⟨none, 0, 0⟩, ⟨none, 0, 0⟩, ()) := by
  refine SPEC_of noNG Tryz.func161 (pl := pl161) (ps := [.agg [.nt .u8, .bl, .nt .i64, .tx, .sl, .sl, .sl]]) (c.k, c.b, c.i, c.t, c.bs, c.ls, c.fs, ()) (by kernel_rfl)
    (q161 (fun _ _ => False) c.k c.b c.i c.t c.bs c.ls c.fs h) (fun Q h => by rw [q161_eq] at h; exact h) ?_
  unfold q161
  refine ALLOC_r (.refl h.size h) (Nat.le_refl _) fun b1 h1 hb1 hs1 g1 _ _ => ?_
  refine ALLOC_r g1 (by omega) fun b2 h2 hb2 hs2 g2 _ _ => ?_
  refine ALLOC_r g2 (by omega) fun b3 h3 hb3 hs3 g3 _ hc3 => ?_
  refine PUTN_k g3 (by omega) hc3 (by simp) (by simp [oneC]) fun h4 hs4 g4 _ hc4 => ?_
  intro k hk
  have fin : ∀ (X : Heap), Pre h.size h X → b3 < X.size → X[b3]? = some (.cells (bareC c).cells.toArray 27 (0, 0)) → k X := fun X gX hX hc => by
    refine hk () X ?_
    refine LDN_V (n := X.size) (c := bareC c) (LDN_known hc) hX (fun h' e => by rw [e]; exact .refl _ _) ?_
    refine PUTN_r gX (by omega) (by simp [oneC, Sl.v]) fun h5 hs5 g5 _ => ?_
    exact ⟨g5, rfl⟩
  have two : ∀ m : Int, ((c.k == m) = true → c.k = m) ∧ ((c.k == m) = false → c.k ≠ m) := fun m => ⟨fun h => by simpa using h, fun h => by simpa using h⟩
  refine COND_r (fun hc => ?_) (fun hc => ?_)
  · have hk2 := (two 2).1 hc
    refine PUTN_k g4 (by omega) hc4 (by simp [splice]) (by simp [oneC]) fun X hsX gX _ hcX => fin X gX (by omega) ?_
    rw [hcX]; simp [splice, bareC, hk2, Cv.cells, Sl.v]
  have n2 := (two 2).2 hc
  refine COND_r (fun hc => ?_) (fun hc => ?_)
  · have hk2 := (two 3).1 hc
    refine PUTN_k g4 (by omega) hc4 (by simp [splice]) (by simp [oneC]) fun X hsX gX _ hcX => fin X gX (by omega) ?_
    rw [hcX]; simp [splice, bareC, hk2, Cv.cells, Sl.v]
  have n3 := (two 3).2 hc
  refine COND_r (fun hc => ?_) (fun hc => ?_)
  · have hk2 := (two 4).1 hc
    refine PUTN_k g4 (by omega) hc4 (by simp [splice]) (by simp [oneC]) fun X hsX gX _ hcX => fin X gX (by omega) ?_
    rw [hcX]; simp [splice, bareC, hk2, Cv.cells, Sl.v]
  have n4 := (two 4).2 hc
  refine fin h4 g4 (by omega) ?_
  rw [hc4]; simp [splice, bareC, n2, n3, n4, Cv.cells, Sl.v]

theorem unc7_i {K : Cur (flat [.agg [.nt .u8, .bl, .nt .i64, .tx, .sl, .sl, .sl]]) (Heap → Prop)} {a : Int} {b : Bool} {i : Int} {t : ByteArray} {x y z : Sl} {h : Heap} (k : K a b i t x y z h) :
    unc (flat [.agg [.nt .u8, .bl, .nt .i64, .tx, .sl, .sl, .sl]]) K (a, b, i, t, x, y, z, ()) h := k
theorem ckN (k m : Nat) : ((k : Int) == (m : Int)) = (k == m) := by
  by_cases h : k = m
  · subst h; simp
  · have h2 : ¬ (k : Int) = m := by omega
    rw [beq_eq_false_iff_ne.2 h2, beq_eq_false_iff_ne.2 h]
theorem kb1 {P : Nat → Prop} {a : Nat} (h : P a) : ∀ b ∈ [a], P b := fun b hb => by cases hb with
  | head => exact h
  | tail _ h => cases h
theorem kb2 {P : Nat → Prop} {a c : Nat} (h : P a) (h2 : P c) : ∀ b ∈ [a, c], P b := fun b hb => by cases hb with
  | head => exact h
  | tail _ hb => exact kb1 h2 b hb
theorem kb3 {P : Nat → Prop} {a c d : Nat} (h : P a) (h2 : P c) (h3 : P d) : ∀ b ∈ [a, c, d], P b := fun b hb => by cases hb with
  | head => exact h
  | tail _ hb => exact kb2 h2 h3 b hb
theorem COND_true {A B : Prop} : COND true A B = A := by simp [COND]
theorem COND_false {A B : Prop} : COND false A B = B := by simp [COND]

/-- A field's name is read. -/
theorem RF.name {n : Nat} {h : Heap} {l : List (List UInt8 × V)} {s : Sl} (r : RF n h l s.a 0) (sh : SH n l.length s) {i : Nat} {x : Int} (hx : x = (i : Int)) (hi : i < l.length) {S : Heap → Prop} (hS : ∀ h', S h' → Pre n h h')
    {K : ByteArray → Prop} (k : ∀ nm, TX l[i].1 nm → K nm) : IXA 8 s.a s.len x fun a => LD .tx a S K := by
  obtain ⟨a0, nm, c, h1, h2, h3, h4, h5, h6⟩ := r.get i hi
  rw [Nat.zero_add] at h3 h5
  refine IXA_r h1 hx (by rw [sh.len]; exact hi) ⟨nm, fun h' hh => ?_, k nm h4⟩
  rw [(hS h' hh).cell (by rw [add_block]; exact h2)]
  exact h3

def fldB : Option (List UInt8) → List (List UInt8 × V) → Bool
  | _, [] => true
  | p, (n, _) :: r => nameT n && (match p with
    | none => true
    | some q => !(Op.bytesLess n q || n == q)) && fldB (some n) r

def alikeB (k : Nat) (b : Bool) (i : Int) (t : List UInt8) : Bool := (k == 2 || !b) && (k == 3 || i == 0) && (k == 4 || t.isEmpty)
def listsB (k : Nat) (bs : List UInt8) (l : List V) (f : List (List UInt8 × V)) : Bool := (bs.isEmpty || k == 5) && (l.isEmpty || k == 6) && (f.isEmpty || k == 7)

/-- What is wrong with a value by itself. -/
def ownE : V → Nat
  | .mk k b i t bs l f => if decide (k < 1) || decide (7 < k) || !alikeB k b i t || !listsB k bs l f then 30 else if !fldB none f then 30
    else if !Lib.validD t then 34 else if decide (1000 < Lib.runeCount ⟨t.toArray⟩) || decide (4000 < bs.length) then 33 else 0

theorem wtF_mem {f : List (List UInt8 × V)} {x : List UInt8 × V} (hx : x ∈ f) : x.1.length / 64 + wt x.2 ≤ wtF f := by
  induction f with
  | nil => cases hx
  | cons y r ih =>
    obtain ⟨n, v⟩ := y
    rcases List.mem_cons.1 hx with rfl | h
    · simp only [wtF]; omega
    · have := ih h; simp only [wtF]; omega
theorem wtL_mem {l : List V} {x : V} (hx : x ∈ l) : wt x ≤ wtL l := by
  induction l with
  | nil => cases hx
  | cons y r ih =>
    rcases List.mem_cons.1 hx with rfl | h
    · simp only [wtL]; omega
    · have := ih h; simp only [wtL]; omega

theorem len0 {α : Type} (l : List α) : ((l.length : Int) == 0) = l.isEmpty := by
  cases l with
  | nil => rfl
  | cons a l => simp; omega

/-- own -/
theorem spec131 {n : Nat} {h : Heap} {v : V} {c : Cv} (hn : n ≤ h.size) (h2 : 2 ≤ h.size) (hT : Tabs h) (rv : RV n h v c) (hw : wt v ≤ 2 ^ 50) :
    SPEC P 131 [c.v] [.one (.nt .u16)] h h.size fun x _ => x.1 = ((ownE v : Nat) : Int) := by
  obtain ⟨k, b, i, t, bs, l, f⟩ := v
  obtain ⟨⟨a1, a2, a3, a4, a5, a6⟩, a7, a8, ⟨a9, a10⟩, a11, a12⟩ := rv
  simp only [wt] at hw
  have e1 := a7.size
  have e2 := a8.len
  have e4 := a8.small
  have e5 := a8.cap
  have e6 := a9.len
  have f6 := a11.len
  have f7 := a11.cap
  have f8 := a11.small
  refine SPEC_of noNG Tryz.func131 (pl := pl131) (ps := [.agg [.nt .u8, .bl, .nt .i64, .tx, .sl, .sl, .sl]]) (c.k, c.b, c.i, c.t, c.bs, c.ls, c.fs, ()) (by kernel_rfl)
    (q131 (fun _ _ => False) c.k c.b c.i c.t c.bs c.ls c.fs h) (fun Q h => by rw [q131_eq] at h; exact h) ?_
  unfold q131
  refine ALLOC_r (.refl h.size h) (Nat.le_refl _) fun b1 h1 hb1 hs1 g1 _ _ => ?_
  refine CALL_r (spec161 (h := h1)) (by simp; omega) ?_
  rintro ⟨y1, y2, y3, y4, y5, y6, y7, ⟨⟩⟩ X hsX gX hx
  cases hx
  refine unc7_i ?_
  have gX' : Pre h.size h X := g1.then gX (by omega)
  refine ALLOC_r gX' (by omega) fun b3 h3 hb3 hs3 g3 _ _ => ?_
  refine PUTN_r g3 (by omega) (by simp [oneC, Sl.v]) fun h4 hs4 g4 _ => ?_
  have ck : ∀ m : Nat, (c.k == (m : Int)) = (k == m) := fun m => by rw [a1]; exact ckN k m
  have al : (if (c.b == (bareC c).b) = true then if (c.i == (bareC c).i) = true then c.t.toList == (bareC c).t.toList else false else false) = alikeB k b i t := by
    have c2 := ck 2
    have c3 := ck 3
    have c4 := ck 4
    have k2 : c.k = 2 ↔ k = 2 := by omega
    have k3 : c.k = 3 ↔ k = 3 := by omega
    have k4 : c.k = 4 ↔ k = 4 := by omega
    have et : c.t.toList = t := by rw [toList_eq, a7.eq]
    simp only [bareC, alikeB, k2, k3, k4, a3, a4]
    have x1 : (b == (if k = 2 then b else false)) = (k == 2 || !b) := by by_cases h : k = 2 <;> cases b <;> simp [h]
    have x2 : (i == (if k = 3 then i else 0)) = (k == 3 || i == 0) := by by_cases h : k = 3 <;> simp [h]
    have x3 : (c.t.toList == (if k = 4 then c.t else .empty).toList) = (k == 4 || t.isEmpty) := by
      by_cases h : k = 4
      · simp [h]
      · have e0 : ByteArray.empty.toList = [] := by rw [toList_eq]; rfl
        simp only [h, if_false, et, e0]
        cases t <;> simp [h]
    rw [x1, x2, x3]
    cases (k == 2 || !b) <;> cases (k == 3 || i == 0) <;> simp
  intro k5 hk5
  suffices J5 : k5 (alikeB k b i t) h4 by
    refine COND_r (fun hc => COND_r (fun hc2 => ?_) (fun hc2 => ?_)) (fun hc => ?_)
    · have hc : (c.b == (bareC c).b) = true := hc
      have hc2 : (c.i == (bareC c).i) = true := hc2
      rw [if_pos hc, if_pos hc2] at al
      exact al ▸ J5
    · have hc : (c.b == (bareC c).b) = true := hc
      have hc2 : ¬ (c.i == (bareC c).i) = true := by rw [show (c.i == (bareC c).i) = false from hc2]; decide
      rw [if_pos hc, if_neg hc2] at al
      exact al ▸ J5
    · have hc : ¬ (c.b == (bareC c).b) = true := by rw [show (c.b == (bareC c).b) = false from hc]; decide
      rw [if_neg hc] at al
      exact al ▸ J5
  refine hk5 (alikeB k b i t, ()) h4 ?_
  intro k7 hk7
  suffices J7 : k7 (listsB k bs l f) h4 by
    have k5 := ck 5
    have k6 := ck 6
    have k7 := ck 7
    have l1 : ((c.bs.len : Int) == 0) = bs.isEmpty := by rw [e2]; exact len0 bs
    have l2 : ((c.ls.len : Int) == 0) = l.isEmpty := by rw [e6]; exact len0 l
    have l3 : ((c.fs.len : Int) == 0) = f.isEmpty := by rw [f6]; exact len0 f
    unfold listsB at J7
    have ck5 : (c.k == 5) = (k == 5) := k5
    have ck6 : (c.k == 6) = (k == 6) := k6
    have ck7 : (c.k == 7) = (k == 7) := k7
    simp only [l1, l2, l3, ck5, ck6, ck7]
    revert J7
    cases bs.isEmpty <;> cases l.isEmpty <;> cases f.isEmpty <;> cases hk5' : (k == 5) <;> cases hk6' : (k == 6) <;> cases hk7' : (k == 7) <;> simp only [COND_true, COND_false, Bool.or_true, Bool.or_false, Bool.and_true, Bool.and_false, Bool.false_or, Bool.true_or, Bool.true_and, Bool.false_and] <;> intro J7 <;> exact J7
  refine hk7 (listsB k bs l f, ()) h4 ?_
  intro k9 hk9
  suffices J9 : k9 (decide (k < 1) || decide (7 < k) || !alikeB k b i t || !listsB k bs l f) h4 by
    have d1 : decide (c.k < 1) = decide (k < 1) := decide_eq_decide.2 (by omega)
    have d2 : decide (c.k > 7) = decide (7 < k) := decide_eq_decide.2 (by omega)
    show COND (decide (c.k < 1)) _ (COND (decide (c.k > 7)) _ _)
    rw [d1, d2]
    revert J9
    cases decide (k < 1) <;> cases decide (7 < k) <;> cases alikeB k b i t <;> cases listsB k bs l f <;> simp only [COND_true, COND_false, Bool.or_true, Bool.or_false, Bool.false_or, Bool.true_or, Bool.not_true, Bool.not_false] <;> intro J9 <;> exact J9
  refine hk9 (_, ()) h4 ?_
  show COND (decide (k < 1) || decide (7 < k) || !alikeB k b i t || !listsB k bs l f) _ _
  refine COND_r (fun hc => ⟨g4, ?_⟩) (fun hc => ?_)
  · simp only [ownE]; rw [if_pos hc]; rfl
  have hE : ownE (.mk k b i t bs l f) = if !fldB none f then 30 else if !Lib.validD t then 34 else if decide (1000 < Lib.runeCount ⟨t.toArray⟩) || decide (4000 < bs.length) then 33 else 0 := by
    simp only [ownE]; rw [if_neg (by rw [hc]; decide)]
  clear hc hk9 hk7 hk5
  refine LOOP_up (N := f.length) (fun j h' => Pre h.size h h' ∧ h4.size ≤ h'.size ∧ fldB none f = fldB (if j = 0 then none else (f[j - 1]?).map (·.1)) (f.drop j)) (by omega) ⟨g4, Nat.le_refl _, by simp⟩ ?_
  rintro j h5 hj ⟨g5, hs5, hfl⟩ nx hnx
  refine COND_r (fun hc => ?_) (fun hc => ?_)
  · have hj1 := ltI hc
    rw [f6] at hj1
    refine (RF.pre g5 hn _ _ _ a12).ix a11 rfl hj1 (fun h'' e => by rw [e]; exact .refl _ _) fun nm c1 t1 q1 => ?_
    refine ALLOC_r g5 (by omega) fun b7 h6 hb7 hs6 g6 _ _ => ?_
    refine PUTN_r g6 (by omega) (by simp [oneC, Sl.v]) fun h7 hs7 g7 _ => ?_
    have hdrop : f.drop j = f[j] :: f.drop (j + 1) := by simp
    have hfl2 : fldB none f = (nameT f[j].1 && (match (if j = 0 then none else (f[j - 1]?).map (·.1)) with
      | none => true
      | some q => !(Op.bytesLess f[j].1 q || f[j].1 == q)) && fldB (some f[j].1) (f.drop (j + 1))) := by
      rw [hfl, hdrop]
      generalize f[j] = y
      obtain ⟨nm, v⟩ := y
      simp only [fldB]
    intro k15 hk15
    have fin : ∀ (x : Bool) (X : Heap), Pre h.size h X → h4.size ≤ X.size → x = !(nameT f[j].1 && (match (if j = 0 then none else (f[j - 1]?).map (·.1)) with
      | none => true
      | some q => !(Op.bytesLess f[j].1 q || f[j].1 == q))) → k15 x X := fun x X gX hsX hx => by
      refine hk15 (x, ()) X ?_
      refine COND_r (fun hc => ⟨gX, ?_⟩) (fun hc => hnx _ hj1 ⟨gX, hsX, ?_⟩)
      · have hc : x = true := hc
        rw [hc] at hx
        have hx : (nameT f[j].1 && (match (if j = 0 then none else (f[j - 1]?).map (·.1)) with
      | none => true
      | some q => !(Op.bytesLess f[j].1 q || f[j].1 == q))) = false := by
          generalize (nameT f[j].1 && _) = z at hx; revert hx; cases z <;> (intro hx; first | rfl | exact absurd hx (by decide))
        rw [hx] at hfl2
        rw [hE, hfl2]; rfl
      · have hc : x = false := hc
        rw [hc] at hx
        have hx : (nameT f[j].1 && (match (if j = 0 then none else (f[j - 1]?).map (·.1)) with
      | none => true
      | some q => !(Op.bytesLess f[j].1 q || f[j].1 == q))) = true := by
          generalize (nameT f[j].1 && _) = z at hx; revert hx; cases z <;> (intro hx; first | rfl | exact absurd hx (by decide))
        rw [hx, Bool.true_and] at hfl2
        rw [hfl2]; simp [hj1]
    have hnl : f[j].1.length < 2 ^ 62 := by
      have := wtF_mem (List.getElem_mem hj1)
      have := Nat.lt_mul_div_succ f[j].1.length (show 0 < 64 by decide)
      omega
    refine DRAW_r (n := h7.size) (by simp; omega) ?_
    refine CALL_r (spec162 t1 (hT.pre g7 (by omega)) (by omega) hnl) (by simp; omega) ?_
    rintro ⟨x, ⟨⟩⟩ h8 hs8 g8 hx
    simp only at hx
    subst hx
    have g78 : Pre h.size h h8 := g7.then g8 (by omega)
    refine SS_r g8 ?_
    refine COND_r (fun hc2 => fin _ h8 g78 (by omega) ?_) (fun hc2 => ?_)
    · have hc2 : nameT f[j].1 = false := by simpa using hc2
      rw [hc2]; rfl
    have hc2 : nameT f[j].1 = true := by simpa using hc2
    refine COND_r (fun hc3 => ?_) (fun hc3 => fin _ h8 g78 (by omega) ?_)
    · have hj0 : 0 < j := by
        have : (j : Int) > 0 := by simpa using hc3
        omega
      have ew : IntKind.wrap .i64 ((j : Int) - 1) = ((j - 1 : Nat) : Int) := by rw [wrap_small (by omega) (by omega)]; omega
      refine (RF.pre g7 hn _ _ _ a12).name a11 (i := j - 1) ew (by omega) (fun h'' e => e.mono (by omega)) fun nm2 t2 => ?_
      refine fin _ h8 g78 (by omega) ?_
      rw [hc2]
      have : j ≠ 0 := by omega
      simp only [this, if_false]
      rw [List.getElem?_eq_getElem (by omega)]
      simp only [Option.map_some, Bool.true_and, Bool.not_not]
      rw [toList_eq, toList_eq, t1.eq, t2.eq]
    · have hj0 : j = 0 := by
        have : ¬ (j : Int) > 0 := by simpa using hc3
        omega
      rw [hc2]; simp [hj0]
  · have hj1 := geI hc
    have hj2 : j = f.length := by omega
    have hf : fldB none f = true := by rw [hfl, hj2]; simp [fldB]
    rw [hf] at hE
    simp only [Bool.not_true, Bool.false_eq_true, if_false] at hE
    have htl : t.length < 2 ^ 62 := by
      have := Nat.lt_mul_div_succ t.length (show 0 < 64 by decide)
      omega
    refine CALL_r (spec163 a7 (hT.pre g5 (by omega))) (by simp; omega) ?_
    rintro ⟨x, ⟨⟩⟩ h6 hs6 g6 hx
    simp only at hx
    subst hx
    have g56 : Pre h.size h h6 := g5.then g6 (by omega)
    refine COND_r (fun hc2 => ⟨g56, ?_⟩) (fun hc2 => ?_)
    · have hc2 : Lib.validD t = false := by simpa using hc2
      rw [hE, hc2]; rfl
    have hc2 : Lib.validD t = true := by simpa using hc2
    rw [hc2] at hE
    simp only [Bool.not_true, Bool.false_eq_true, if_false] at hE
    intro k20 hk20
    refine CALL_r (spec164 a7 htl) (by simp; omega) ?_
    rintro ⟨x, ⟨⟩⟩ h7 hs7 g7 hx
    simp only at hx
    subst hx
    have g67 : Pre h.size h h7 := g56.then g7 (by omega)
    have fin : ∀ x : Bool, x = (decide (1000 < Lib.runeCount ⟨t.toArray⟩) || decide (4000 < bs.length)) → k20 x h7 := fun x hx => by
      refine hk20 (x, ()) h7 ?_
      rw [← hx] at hE
      refine COND_r (fun hc => ⟨g67, ?_⟩) (fun hc => ⟨g67, ?_⟩)
      · have hc : x = true := hc
        rw [hE, hc]; rfl
      · have hc : x = false := hc
        rw [hE, hc]; rfl
    have es := a7.mk_eq
    refine COND_r (fun hc => fin _ ?_) (fun hc => fin _ ?_)
    · have : ((Lib.runeCount c.t : Nat) : Int) > 1000 := by simpa using hc
      rw [es] at this
      have : 1000 < Lib.runeCount ⟨t.toArray⟩ := by omega
      simp [this]
    · have : ¬ ((Lib.runeCount c.t : Nat) : Int) > 1000 := by simpa using hc
      rw [es] at this
      have e : decide (1000 < Lib.runeCount ⟨t.toArray⟩) = false := by simp; omega
      rw [e, Bool.false_or]
      exact decide_eq_decide.2 (by omega)

end Go.VK
