/- Contracts: how deep a value is; is it a value (value.Check)? -/
import Derived.Test.YtemkcbopbinfmaaGreatDoorVE7
set_option linter.all false
namespace Go.VK
open Go Go.Proofs
set_option maxRecDepth 100000
set_option linter.unusedVariables false
set_option linter.unusedSimpArgs false

theorem HV_of {P : Program} {f : FuncId} {first cap : Array Value} {args : List Value} {h : Heap} {m : Nat} {Q : TT (flat [.one .bl]) → Heap → Prop} (hb : ((P.funcs[f]?).any (·.body.isSome)) = true)
    (c : SPEC P f (first.toList ++ args ++ cap.toList) [.one .bl] h m Q) : HV P (.func (.func f) first cap) args h fun e h' => ∃ b, e = .returned (.bool b) ∧ Pre m h h' ∧ Q (b, ()) h' := by
  unfold SPEC CALL at c
  refine .inl ⟨f, first, cap, rfl, hb, HC.mono c ?_⟩
  intro e h' hh
  cases e with
  | returned v =>
    obtain ⟨⟨x, ⟨⟩⟩, rfl, _, hx⟩ := hh
    exact ⟨x, rfl, hx⟩
  | panicked c => exact hh.elim
  | outgrown => exact hh.elim

theorem CALLV_p {P : Program} {Z : List PanicEntry → Heap → Prop} {v : Value} {args : List Value} {h : Heap} {bs : List Nat} {m : Nat} {K : Bool → Heap → Prop} {T : Bool → Heap → Prop}
    (c : HV P v args h fun e h' => ∃ b, e = .returned (.bool b) ∧ Pre m h h' ∧ T b h') (hk : ∀ b ∈ bs, b < m) (k : ∀ b h', Pre m h h' → T b h' → K b h') : CALLV P Z v args [.one .bl] h bs K :=
  HV.mono c fun e h' ⟨b, he, hg, h1⟩ => by
    subst he
    exact ⟨(b, ()), rfl, hg.keep hk, k b h' hg h1⟩

def ixN (o : Option Nat) : Int := match o with
  | some i => (i : Int)
  | none => -1

theorem findIdx_here {α : Type} {l : List α} {p : α → Bool} {j : Nat} (hj : j < l.length) (h : ∀ i (hi : i < j), p (l[i]'(by omega)) = false) (hp : p l[j] = true) : l.findIdx? p = some j :=
  List.findIdx?_eq_some_iff_getElem.2 ⟨hj, hp, fun i hi => by rw [h i hi]; decide⟩
theorem findIdx_none {α : Type} {l : List α} {p : α → Bool} (h : ∀ i (hi : i < l.length), p l[i] = false) : l.findIdx? p = none :=
  List.findIdx?_eq_none_iff.2 fun x hx => by obtain ⟨i, hi, rfl⟩ := List.getElem_of_mem hx; exact h i hi

/-- IndexFunc over values -/
theorem spec180 {n : Nat} {h : Heap} {l : List V} {s : Sl} {y : Value} {p : V → Bool} (hn : n ≤ h.size) (r : RL n h l s.a 0) (sh : SH n l.length s)
    (hy : ∀ v ∈ l, ∀ (c : Cv) (h' : Heap), Pre h.size h h' → RV n h' v c → HV P y [c.v] h' fun e h'' => ∃ b, e = .returned (.bool b) ∧ Pre h'.size h' h'' ∧ b = p v) :
    SPEC P 180 [s.v, y] [.one (.nt .i64)] h h.size fun x _ => x.1 = ixN (l.findIdx? p) := by
  refine SPEC_of noNG Tryz.func180 (pl := pl180) (ps := [.one .sl, .one .oq]) (s, y, ()) (by kernel_rfl) (q180 (fun _ _ => False) s y h) (fun Q h => by rw [q180_eq] at h; exact h) ?_
  unfold q180
  have e1 := sh.len
  have e2 := sh.cap
  have e3 := sh.small
  refine LOOP_up (N := l.length) (fun j h' => Pre h.size h h' ∧ ∀ i (hi : i < l.length), i < j → p l[i] = false) (by omega) ⟨.refl _ _, fun i hi hj => by omega⟩ ?_
  rintro j h' hj ⟨g, hp⟩ nx hnx
  have hs := g.sz
  refine COND_r (fun hc => ?_) (fun hc => ?_)
  · have hj1 := ltI hc
    rw [e1] at hj1
    refine (RL.pre g hn _ _ _ r).ix sh rfl hj1 (fun h'' e => by rw [e]; exact .refl _ _) fun c q => ?_
    refine CALLV_p (hy _ (List.getElem_mem hj1) c h' g q) (by simp) ?_
    intro b h2 g2 hb
    have g02 : Pre h.size h h2 := g.then g2 (by omega)
    refine COND_r (fun hc => ⟨g02, ?_⟩) (fun hc => hnx _ hj1 ⟨g02, fun i hi hij => ?_⟩)
    · have hc : b = true := hc
      rw [findIdx_here hj1 (fun i hi => hp i (by omega) hi) (by rw [← hb, hc])]; rfl
    · have hc2 : b = false := hc
      rcases Nat.lt_or_eq_of_le (Nat.le_of_lt_succ hij) with h | h
      · exact hp i hi h
      · subst h; rw [← hb, hc2]
  · have hj1 := geI hc
    exact ⟨g, by rw [findIdx_none fun i hi => hp i hi (by omega)]; rfl⟩

/-- IndexFunc over fields -/
theorem spec181 {n : Nat} {h : Heap} {l : List (List UInt8 × V)} {s : Sl} {y : Value} {p : List UInt8 × V → Bool} (hn : n ≤ h.size) (r : RF n h l s.a 0) (sh : SH n l.length s)
    (hy : ∀ v ∈ l, ∀ (nm : ByteArray) (c : Cv) (h' : Heap), Pre h.size h h' → TX v.1 nm → RV n h' v.2 c → HV P y [.agg (.string nm :: c.cells).toArray] h' fun e h'' => ∃ b, e = .returned (.bool b) ∧ Pre h'.size h' h'' ∧ b = p v) :
    SPEC P 181 [s.v, y] [.one (.nt .i64)] h h.size fun x _ => x.1 = ixN (l.findIdx? p) := by
  refine SPEC_of noNG Tryz.func181 (pl := pl181) (ps := [.one .sl, .one .oq]) (s, y, ()) (by kernel_rfl) (q181 (fun _ _ => False) s y h) (fun Q h => by rw [q181_eq] at h; exact h) ?_
  unfold q181
  have e1 := sh.len
  have e2 := sh.cap
  have e3 := sh.small
  refine LOOP_up (N := l.length) (fun j h' => Pre h.size h h' ∧ ∀ i (hi : i < l.length), i < j → p l[i] = false) (by omega) ⟨.refl _ _, fun i hi hj => by omega⟩ ?_
  rintro j h' hj ⟨g, hp⟩ nx hnx
  have hs := g.sz
  refine COND_r (fun hc => ?_) (fun hc => ?_)
  · have hj1 := ltI hc
    rw [e1] at hj1
    refine (RF.pre g hn _ _ _ r).ix sh rfl hj1 (fun h'' e => by rw [e]; exact .refl _ _) fun nm c t q => ?_
    refine CALLV_p (hy _ (List.getElem_mem hj1) nm c h' g t q) (by simp) ?_
    intro b h2 g2 hb
    have g02 : Pre h.size h h2 := g.then g2 (by omega)
    refine COND_r (fun hc => ⟨g02, ?_⟩) (fun hc => hnx _ hj1 ⟨g02, fun i hi hij => ?_⟩)
    · have hc : b = true := hc
      rw [findIdx_here hj1 (fun i hi => hp i (by omega) hi) (by rw [← hb, hc])]; rfl
    · have hc2 : b = false := hc
      rcases Nat.lt_or_eq_of_le (Nat.le_of_lt_succ hij) with h | h
      · exact hp i hi h
      · subst h; rw [← hb, hc2]
  · have hj1 := geI hc
    exact ⟨g, by rw [findIdx_none fun i hi => hp i hi (by omega)]; rfl⟩

mutual
/-- Are there values deeper than so many? -/
def deepB : Nat → V → Bool
  | m, .mk _ _ _ _ _ l f => m == 0 || (deepL (m - 1) l || deepF (m - 1) f)
def deepL : Nat → List V → Bool
  | _, [] => false
  | m, v :: r => deepB m v || deepL m r
def deepF : Nat → List (List UInt8 × V) → Bool
  | _, [] => false
  | m, (_, v) :: r => deepB m v || deepF m r
end

theorem deepL_any (m : Nat) : ∀ l : List V, deepL m l = l.any (deepB m)
  | [] => by simp [deepL]
  | v :: r => by simp [deepL, deepL_any m r]
theorem deepF_any (m : Nat) : ∀ l : List (List UInt8 × V), deepF m l = l.any fun x => deepB m x.2
  | [] => by simp [deepF]
  | (n, v) :: r => by simp [deepF, deepF_any m r]

theorem ixN_any {α : Type} (l : List α) (p : α → Bool) : decide (ixN (l.findIdx? p) ≥ 0) = l.any p := by
  have := List.findIdx?_isSome (xs := l) (p := p)
  cases h : l.findIdx? p with
  | none => rw [h] at this; rw [← this]; decide
  | some i => rw [h] at this; rw [← this]; simp [ixN]

theorem LD1 {h : Heap} {b t : Nat} {f : Nat × Nat} {s : Sh} {x : s.T} (hb : h[b]? = some (.cells #[s.v x] t f)) {S : Heap → Prop} (hS : ∀ h', S h' → h'[b]? = h[b]?) {K : s.T → Prop} (k : K x) : LD s ⟨b, 0, none⟩ S K :=
  ⟨x, fun h' e => by unfold cell; simp only [hS h' e, hb]; rfl, k⟩

/-- deep -/
theorem spec129 {n : Nat} (v : V) : ∀ (c : Cv) (m : Nat) (h : Heap), n ≤ h.size → RV n h v c → m < 2 ^ 60 →
    SPEC P 129 [c.v, .int .i64 m] [.one .bl] h h.size fun x _ => x.1 = deepB m v := by
  obtain ⟨k, b, i, t, bs, l, f⟩ := v
  intro c m h hn rv hm
  have ihl : ∀ v ∈ l, ∀ (c : Cv) (m : Nat) (h : Heap), n ≤ h.size → RV n h v c → m < 2 ^ 60 →
    SPEC P 129 [c.v, .int .i64 m] [.one .bl] h h.size fun x _ => x.1 = deepB m v := fun v hv => spec129 v
  have ihf : ∀ v ∈ f, ∀ (c : Cv) (m : Nat) (h : Heap), n ≤ h.size → RV n h v.2 c → m < 2 ^ 60 →
    SPEC P 129 [c.v, .int .i64 m] [.one .bl] h h.size fun x _ => x.1 = deepB m v.2 := fun v hv => spec129 v.2
  obtain ⟨⟨a1, a2, a3, a4, a5, a6⟩, a7, a8, ⟨a9, a10⟩, a11, a12⟩ := rv
  refine SPEC_of noNG Tryz.func129 (pl := pl129) (ps := [.agg [.nt .u8, .bl, .nt .i64, .tx, .sl, .sl, .sl], .one (.nt .i64)]) (c.k, c.b, c.i, c.t, c.bs, c.ls, c.fs, (m : Int), ()) (by kernel_rfl)
    (q129 (fun _ _ => False) c.k c.b c.i c.t c.bs c.ls c.fs (m : Int) h) (fun Q h => by rw [q129_eq] at h; exact h) ?_
  unfold q129
  refine ALLOC_r (.refl h.size h) (Nat.le_refl _) fun b2 h1 hb2 hs1 g1 _ _ => ?_
  refine ALLOC_r g1 (by omega) fun b3 h2 hb3 hs2 g2 _ hc3 => ?_
  refine COND_r (fun hc => ⟨g2, ?_⟩) (fun hc => ?_)
  · have : m = 0 := by
      have : (m : Int) = 0 := by simpa using hc
      omega
    simp [deepB, this]
  have hm0 : m ≠ 0 := by
    have : ¬ (m : Int) = 0 := by simpa using hc
    omega
  have hm1 : IntKind.wrap .i64 ((m : Int) - 1) = ((m - 1 : Nat) : Int) := by rw [wrap_small (by omega) (by omega)]; omega
  have hD : deepB m (.mk k b i t bs l f) = (l.any (deepB (m - 1)) || f.any fun x => deepB (m - 1) x.2) := by
    have : (m == 0) = false := by simpa using hm0
    simp only [deepB, this, deepL_any, deepF_any, Bool.false_or]
  intro k3 hk3
  have fin : ∀ (x : Bool) (X : Heap), Pre h.size h X → x = (l.any (deepB (m - 1)) || f.any fun x => deepB (m - 1) x.2) → k3 x X := fun x X gX hx => hk3 (x, ()) X ⟨gX, by rw [hD]; exact hx⟩
  -- the closures
  have c156 : ∀ v ∈ l, ∀ (c : Cv) (h' : Heap), Pre h2.size h2 h' → RV n h' v c → HV P (.func (.func 156) #[] #[.pointer (some ⟨b3, 0, none⟩)]) [c.v] h' fun e h'' => ∃ b, e = .returned (.bool b) ∧ Pre h'.size h' h'' ∧ b = deepB (m - 1) v := by
    intro v hv c h' g rv
    have hs := g.sz
    refine HV_of (Q := fun x _ => x.1 = deepB (m - 1) v) (by kernel_rfl) ?_
    refine SPEC_of noNG Tryz.func156 (pl := pl156) (ps := [.agg [.nt .u8, .bl, .nt .i64, .tx, .sl, .sl, .sl], .one .ad]) (c.k, c.b, c.i, c.t, c.bs, c.ls, c.fs, ⟨b3, 0, none⟩, ()) (by kernel_rfl)
      (q156 (fun _ _ => False) c.k c.b c.i c.t c.bs c.ls c.fs ⟨b3, 0, none⟩ h') (fun Q h => by rw [q156_eq] at h; exact h) ?_
    unfold q156
    refine ALLOC_r (.refl h'.size h') (Nat.le_refl _) fun b4 h4 hb4 hs4 g4 _ _ => ?_
    refine LD1 (s := .nt .i64) (x := (m : Int)) (t := 3) (f := (0, 0)) (by rw [g4.same _ (by omega), g.same _ (by omega)]; exact hc3) (fun h'' e => by rw [e]) ?_
    rw [hm1]
    refine CALL_r (ihl v hv c (m - 1) h4 (by omega) (RV.pre g4 (by omega) _ _ rv) (by omega)) (kb1 (by omega)) ?_
    rintro ⟨x, ⟨⟩⟩ h5 hs5 g5 hx
    exact ⟨g4.then g5 (by omega), hx⟩
  have c158 : ∀ v ∈ f, ∀ (nm : ByteArray) (c : Cv) (h' : Heap), Pre h2.size h2 h' → TX v.1 nm → RV n h' v.2 c → HV P (.func (.func 158) #[] #[.pointer (some ⟨b3, 0, none⟩)]) [.agg (.string nm :: c.cells).toArray] h' fun e h'' => ∃ b, e = .returned (.bool b) ∧ Pre h'.size h' h'' ∧ b = deepB (m - 1) v.2 := by
    intro v hv nm c h' g ht rv
    have hs := g.sz
    refine HV_of (Q := fun x _ => x.1 = deepB (m - 1) v.2) (by kernel_rfl) ?_
    refine SPEC_of noNG Tryz.func158 (pl := pl158) (ps := [.agg [.tx, .nt .u8, .bl, .nt .i64, .tx, .sl, .sl, .sl], .one .ad]) (nm, c.k, c.b, c.i, c.t, c.bs, c.ls, c.fs, ⟨b3, 0, none⟩, ()) (by kernel_rfl)
      (q158 (fun _ _ => False) nm c.k c.b c.i c.t c.bs c.ls c.fs ⟨b3, 0, none⟩ h') (fun Q h => by rw [q158_eq] at h; exact h) ?_
    unfold q158
    refine ALLOC_r (.refl h'.size h') (Nat.le_refl _) fun b4 h4 hb4 hs4 g4 _ _ => ?_
    refine LD1 (s := .nt .i64) (x := (m : Int)) (t := 3) (f := (0, 0)) (by rw [g4.same _ (by omega), g.same _ (by omega)]; exact hc3) (fun h'' e => by rw [e]) ?_
    rw [hm1]
    refine CALL_r (ihf v hv c (m - 1) h4 (by omega) (RV.pre g4 (by omega) _ _ rv) (by omega)) (kb1 (by omega)) ?_
    rintro ⟨x, ⟨⟩⟩ h5 hs5 g5 hx
    exact ⟨g4.then g5 (by omega), hx⟩
  have s155 : SPEC P 155 [c.ls.v, .func (.func 156) #[] #[.pointer (some ⟨b3, 0, none⟩)]] [.one .bl] h2 h2.size fun x _ => x.1 = l.any (deepB (m - 1)) := by
    refine SPEC_of noNG Tryz.func155 (pl := pl155) (ps := [.one .sl, .one .oq]) (c.ls, .func (.func 156) #[] #[.pointer (some ⟨b3, 0, none⟩)], ()) (by kernel_rfl)
      (q155 (fun _ _ => False) c.ls (.func (.func 156) #[] #[.pointer (some ⟨b3, 0, none⟩)]) h2) (fun Q h => by rw [q155_eq] at h; exact h) ?_
    unfold q155
    refine CALL_r (spec180 (n := n) (by omega) (RL.pre g2 hn _ _ _ a10) a9 c156) (by simp) ?_
    rintro ⟨x, ⟨⟩⟩ h5 hs5 g5 hx
    simp only at hx
    subst hx
    exact ⟨g5, ixN_any _ _⟩
  refine CALL_r s155 (kb1 (by omega)) ?_
  rintro ⟨x, ⟨⟩⟩ h5 hs5 g5 hx
  simp only at hx
  have g25 : Pre h.size h h5 := g2.then g5 (by omega)
  refine COND_r (fun hc => fin true h5 g25 ?_) (fun hc => ?_)
  · have hc : x = true := hc
    rw [← hx, hc]; rfl
  have hc : x = false := hc
  have s157 : SPEC P 157 [c.fs.v, .func (.func 158) #[] #[.pointer (some ⟨b3, 0, none⟩)]] [.one .bl] h5 h5.size fun x _ => x.1 = f.any fun x => deepB (m - 1) x.2 := by
    refine SPEC_of noNG Tryz.func157 (pl := pl157) (ps := [.one .sl, .one .oq]) (c.fs, .func (.func 158) #[] #[.pointer (some ⟨b3, 0, none⟩)], ()) (by kernel_rfl)
      (q157 (fun _ _ => False) c.fs (.func (.func 158) #[] #[.pointer (some ⟨b3, 0, none⟩)]) h5) (fun Q h => by rw [q157_eq] at h; exact h) ?_
    unfold q157
    refine CALL_r (spec181 (n := n) (by omega) (RF.pre g25 hn _ _ _ a12) a11 fun v hv nm c h' g => c158 v hv nm c h' (g5.then g (by omega))) (by simp) ?_
    rintro ⟨x, ⟨⟩⟩ h6 hs6 g6 hx
    simp only at hx
    subst hx
    exact ⟨g6, ixN_any _ _⟩
  refine CALL_r s157 (kb1 (by omega)) ?_
  rintro ⟨y, ⟨⟩⟩ h6 hs6 g6 hy
  simp only at hy
  refine fin y h6 (g25.then g6 (by omega)) ?_
  rw [← hx, hc]; exact hy
termination_by SizeOf.sizeOf v
decreasing_by
  all_goals simp_wf
  · have := List.sizeOf_lt_of_mem hv; omega
  · have := List.sizeOf_lt_of_mem hv
    have : SizeOf.sizeOf v.2 < SizeOf.sizeOf v := by cases v; simp; omega
    omega

end Go.VK
