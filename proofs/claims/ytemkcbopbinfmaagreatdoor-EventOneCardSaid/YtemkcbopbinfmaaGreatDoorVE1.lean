/- Contracts: are two things the same? -/
import Derived.Test.YtemkcbopbinfmaaGreatDoorVRV
import Derived.Test.YtemkcbopbinfmaaGreatDoorVQ1
import Derived.Test.YtemkcbopbinfmaaGreatDoorVQ2
import Derived.Test.YtemkcbopbinfmaaGreatDoorVQ3
import Derived.Test.YtemkcbopbinfmaaGreatDoorVQ4
import Derived.Laws.Strings
set_option linter.all false
namespace Go.VK
open Go Go.Proofs
set_option maxRecDepth 100000
set_option linter.unusedVariables false

theorem noNG : NoNG P := by
  have h : (P.funcs.all fun fn => !fn.body.isSome || fn.name != "runtime.NumGoroutine") = true := by kernel_rfl
  intro f fn hf hb
  obtain ⟨hi, rfl⟩ := Array.getElem?_eq_some_iff.1 hf
  have := (Array.all_eq_true.1 h) f hi
  simpa [hb] using this

theorem wrap_small {x : Int} (h1 : -9223372036854775808 ≤ x) (h2 : x < 9223372036854775808) : IntKind.wrap .i64 x = x := by
  rw [IntKind.wrap_i64]; omega

/-- Lists gone through side by side. -/
theorem take_step {α : Type} {l1 l2 : List α} {i : Nat} (h1 : i < l1.length) (h2 : i < l2.length) (ht : l1.take i = l2.take i) (he : l1[i] = l2[i]) : l1.take (i + 1) = l2.take (i + 1) := by
  rw [List.take_add_one, List.take_add_one, ht]; simp [h1, h2, he]
theorem take_all {α : Type} {l1 l2 : List α} {i : Nat} (h1 : i = l1.length) (h2 : l1.length = l2.length) (ht : l1.take i = l2.take i) : l1 = l2 := by
  rw [h1, List.take_of_length_le (Nat.le_refl _), h2, List.take_of_length_le (Nat.le_refl _)] at ht
  exact ht
theorem ne_at {α : Type} {l1 l2 : List α} {i : Nat} (h1 : i < l1.length) (h2 : i < l2.length) (he : l1[i] ≠ l2[i]) : l1 ≠ l2 := fun e => he (by subst e; rfl)

theorem lenI_ne {a b : Nat} (hc : ((a : Int) != (b : Int)) = true) : a ≠ b := by
  have : ¬ ((a : Int) = b) := by simpa using hc
  omega
theorem lenI_eq {a b : Nat} (hc : ((a : Int) != (b : Int)) = false) : a = b := by
  have : (a : Int) = b := by simpa using hc
  omega
theorem ltI {a b : Nat} (hc : decide ((a : Int) < (b : Int)) = true) : a < b := by
  have : (a : Int) < b := by simpa using hc
  omega
theorem geI {a b : Nat} (hc : decide ((a : Int) < (b : Int)) = false) : b ≤ a := by
  have : ¬ (a : Int) < b := by simpa using hc
  omega

/-- SameBytes -/
theorem spec19 {n : Nat} {h : Heap} {l1 l2 : List UInt8} {s1 s2 : Sl} (r1 : RB n h l1 s1) (r2 : RB n h l2 s2) :
    SPEC P 19 [s1.v, s2.v] [.one .bl] h h.size fun x h' => h' = h ∧ (x.1 = true ↔ l1 = l2) := by
  refine SPEC_of noNG Tryz.func19 (pl := pl19) (ps := [.one .sl, .one .sl]) (s1, s2, ()) (by kernel_rfl) (q19 (fun _ _ => False) s1 s2 h) (fun Q h => by rw [q19_eq] at h; exact h) ?_
  unfold q19
  have e1 := r1.len
  have e2 := r2.len
  refine COND_r (fun hc => ⟨.refl _ _, rfl, ?_⟩) (fun hc => ?_)
  · have hne := lenI_ne hc
    exact ⟨nofun, fun e => absurd (by rw [e1, e2, e]) hne⟩
  · have heq : l1.length = l2.length := by have := lenI_eq hc; omega
    have hsm := r1.small
    have hcap := r1.cap
    refine LOOP_up (N := l1.length) (fun i h' => h' = h ∧ l1.take i = l2.take i) (by omega) ⟨rfl, by simp⟩ ?_
    rintro i h' hi ⟨rfl, ht⟩ nx hnx
    refine COND_r (fun hc => ?_) (fun hc => ?_)
    · have hi1 := ltI hc
      rw [e1] at hi1
      have hi2 : i < l2.length := by omega
      refine r1.ix rfl hi1 (fun h'' e => by rw [e]; exact .refl _ _) ?_
      refine r2.ix rfl hi2 (fun h'' e => by rw [e]; exact .refl _ _) ?_
      refine COND_r (fun hc => ⟨.refl _ _, rfl, ?_⟩) (fun hc => hnx _ hi1 ⟨rfl, take_step hi1 hi2 ht ?_⟩)
      · exact ⟨nofun, fun e => absurd e (ne_at hi1 hi2 fun e => by rw [e] at hc; simp at hc)⟩
      · have := lenI_eq hc
        exact UInt8.toNat_inj.1 this
    · have hi1 := geI hc
      exact ⟨.refl _ _, rfl, fun _ => take_all (by omega) heq ht, fun _ => rfl⟩

theorem toList_eq (s : ByteArray) : s.toList = s.data.toList := ByteArray.toList_eq s

theorem txt_eq {t1 t2 : List UInt8} {s1 s2 : ByteArray} (h1 : TX t1 s1) (h2 : TX t2 s2) : (s1.toList == s2.toList) = decide (t1 = t2) := by
  rw [toList_eq, toList_eq, h1.eq, h2.eq]
  by_cases h : t1 = t2 <;> simp [h]

/-- SameValues, out of SameValue. -/
theorem spec112 {n : Nat} {h : Heap} {l1 l2 : List V} {s1 s2 : Sl} (hn : n ≤ h.size)
    (ih : ∀ v ∈ l1, ∀ (w : V) (c1 c2 : Cv) (h : Heap), n ≤ h.size → RV n h v c1 → RV n h w c2 → SPEC P 53 [c1.v, c2.v] [.one .bl] h h.size fun x _ => (x.1 = true ↔ v = w))
    (r1 : RL n h l1 s1.a 0) (sh1 : SH n l1.length s1) (r2 : RL n h l2 s2.a 0) (sh2 : SH n l2.length s2) :
    SPEC P 112 [s1.v, s2.v] [.one .bl] h h.size fun x _ => (x.1 = true ↔ l1 = l2) := by
  refine SPEC_of noNG Tryz.func112 (pl := pl112) (ps := [.one .sl, .one .sl]) (s1, s2, ()) (by kernel_rfl) (q112 (fun _ _ => False) s1 s2 h) (fun Q h => by rw [q112_eq] at h; exact h) ?_
  unfold q112
  have e1 := sh1.len
  have e2 := sh2.len
  refine COND_r (fun hc => ⟨.refl _ _, ?_⟩) (fun hc => ?_)
  · have hne := lenI_ne hc
    exact ⟨nofun, fun e => absurd (by rw [e1, e2, e]) hne⟩
  · have heq : l1.length = l2.length := by have := lenI_eq hc; omega
    have hsm := sh1.small
    have hcap := sh1.cap
    refine LOOP_up (N := l1.length) (fun i h' => Pre h.size h h' ∧ l1.take i = l2.take i) (by omega) ⟨.refl _ _, by simp⟩ ?_
    rintro i h' hi ⟨g, ht⟩ nx hnx
    have hs := g.sz
    refine COND_r (fun hc => ?_) (fun hc => ?_)
    · have hi1 := ltI hc
      rw [e1] at hi1
      have hi2 : i < l2.length := by omega
      refine DRAW_r (n := n) (by simp) ?_
      refine (RL.pre g hn _ _ _ r1).ix sh1 rfl hi1 (fun h'' e => e) fun c1 q1 => ?_
      refine (RL.pre g hn _ _ _ r2).ix sh2 rfl hi2 (fun h'' e => e) fun c2 q2 => ?_
      refine CALL_r (ih _ (List.getElem_mem hi1) _ c1 c2 h' (by omega) q1 q2) (by simp) ?_
      rintro ⟨x, _⟩ h4 hs4 g4 hx
      refine ⟨g4.mono (by omega), ?_⟩
      have g5 : Pre h.size h h4 := g.then g4 (by omega)
      simp only at hx
      refine COND_r (fun hc => ⟨g5, ?_⟩) (fun hc => hnx _ hi1 ⟨g5, take_step hi1 hi2 ht ?_⟩)
      · have : ¬ x = true := by simpa using hc
        exact ⟨nofun, fun e => absurd e (ne_at hi1 hi2 fun e => this (hx.2 e))⟩
      · have : x = true := by simpa using hc
        exact hx.1 this
    · have hi1 := geI hc
      exact ⟨g, fun _ => take_all (by omega) heq ht, fun _ => rfl⟩

/-- SameField, out of SameValue. -/
theorem spec146 {n : Nat} {h : Heap} {v w : V} {t1 t2 : List UInt8} {s1 s2 : ByteArray} {c1 c2 : Cv} (hn : n ≤ h.size) (h1 : TX t1 s1) (h2 : TX t2 s2)
    (ih : ∀ (h : Heap), n ≤ h.size → RV n h v c1 → RV n h w c2 → SPEC P 53 [c1.v, c2.v] [.one .bl] h h.size fun x _ => (x.1 = true ↔ v = w)) (r1 : RV n h v c1) (r2 : RV n h w c2) :
    SPEC P 146 [.agg (.string s1 :: c1.cells).toArray, .agg (.string s2 :: c2.cells).toArray] [.one .bl] h h.size fun x _ => (x.1 = true ↔ (t1, v) = (t2, w)) := by
  refine SPEC_of noNG Tryz.func146 (pl := pl146) (ps := [.agg [.tx, .nt .u8, .bl, .nt .i64, .tx, .sl, .sl, .sl], .agg [.tx, .nt .u8, .bl, .nt .i64, .tx, .sl, .sl, .sl]])
    (s1, c1.k, c1.b, c1.i, c1.t, c1.bs, c1.ls, c1.fs, s2, c2.k, c2.b, c2.i, c2.t, c2.bs, c2.ls, c2.fs, ()) (by kernel_rfl)
    (q146 (fun _ _ => False) s1 c1.k c1.b c1.i c1.t c1.bs c1.ls c1.fs s2 c2.k c2.b c2.i c2.t c2.bs c2.ls c2.fs h) (fun Q h => by rw [q146_eq] at h; exact h) ?_
  unfold q146
  refine ALLOC_r (.refl h.size h) (Nat.le_refl _) fun b2 h1' hb2 hs1 g1 _ _ => ?_
  refine ALLOC_r g1 (by omega) fun b3 h2' hb3 hs2 g2 _ _ => ?_
  intro k hk
  refine COND_r (fun hc => ?_) (fun hc => hk (false, ()) h2' ⟨g2, ?_⟩)
  · have e : t1 = t2 := by rw [txt_eq h1 h2] at hc; simpa using hc
    refine CALL_r (ih h2' (by omega) (RV.pre g2 hn _ _ r1) (RV.pre g2 hn _ _ r2)) (by simp; omega) ?_
    rintro ⟨x, _⟩ h5 hs5 g5 hx
    refine hk (x, ()) h5 ⟨g2.then g5 (by omega), ?_⟩
    simp only at hx ⊢
    rw [hx, e]; simp
  · have e : t1 ≠ t2 := by rw [txt_eq h1 h2] at hc; simpa using hc
    simp [e]

/-- SameFields, out of SameValue. -/
theorem spec113 {n : Nat} {h : Heap} {l1 l2 : List (List UInt8 × V)} {s1 s2 : Sl} (hn : n ≤ h.size)
    (ih : ∀ v ∈ l1, ∀ (w : V) (c1 c2 : Cv) (h : Heap), n ≤ h.size → RV n h v.2 c1 → RV n h w c2 → SPEC P 53 [c1.v, c2.v] [.one .bl] h h.size fun x _ => (x.1 = true ↔ v.2 = w))
    (r1 : RF n h l1 s1.a 0) (sh1 : SH n l1.length s1) (r2 : RF n h l2 s2.a 0) (sh2 : SH n l2.length s2) :
    SPEC P 113 [s1.v, s2.v] [.one .bl] h h.size fun x _ => (x.1 = true ↔ l1 = l2) := by
  refine SPEC_of noNG Tryz.func113 (pl := pl113) (ps := [.one .sl, .one .sl]) (s1, s2, ()) (by kernel_rfl) (q113 (fun _ _ => False) s1 s2 h) (fun Q h => by rw [q113_eq] at h; exact h) ?_
  unfold q113
  have e1 := sh1.len
  have e2 := sh2.len
  refine COND_r (fun hc => ⟨.refl _ _, ?_⟩) (fun hc => ?_)
  · have hne := lenI_ne hc
    exact ⟨nofun, fun e => absurd (by rw [e1, e2, e]) hne⟩
  · have heq : l1.length = l2.length := by have := lenI_eq hc; omega
    have hsm := sh1.small
    have hcap := sh1.cap
    refine LOOP_up (N := l1.length) (fun i h' => Pre h.size h h' ∧ l1.take i = l2.take i) (by omega) ⟨.refl _ _, by simp⟩ ?_
    rintro i h' hi ⟨g, ht⟩ nx hnx
    have hs := g.sz
    refine COND_r (fun hc => ?_) (fun hc => ?_)
    · have hi1 := ltI hc
      rw [e1] at hi1
      have hi2 : i < l2.length := by omega
      refine DRAW_r (n := n) (by simp) ?_
      refine (RF.pre g hn _ _ _ r1).ix sh1 rfl hi1 (fun h'' e => e) fun s1 c1 t1 q1 => ?_
      refine (RF.pre g hn _ _ _ r2).ix sh2 rfl hi2 (fun h'' e => e) fun s2 c2 t2 q2 => ?_
      refine CALL_r (spec146 (by omega) t1 t2 (fun h hn => ih _ (List.getElem_mem hi1) _ c1 c2 h hn) q1 q2) (by simp) ?_
      rintro ⟨x, _⟩ h4 hs4 g4 hx
      refine ⟨g4.mono (by omega), ?_⟩
      have g5 : Pre h.size h h4 := g.then g4 (by omega)
      simp only at hx
      refine COND_r (fun hc => ⟨g5, ?_⟩) (fun hc => hnx _ hi1 ⟨g5, take_step hi1 hi2 ht ?_⟩)
      · have : ¬ x = true := by simpa using hc
        exact ⟨nofun, fun e => absurd e (ne_at hi1 hi2 fun e => this (hx.2 e))⟩
      · have : x = true := by simpa using hc
        exact hx.1 this
    · have hi1 := geI hc
      exact ⟨g, fun _ => take_all (by omega) heq ht, fun _ => rfl⟩

/-- SameValue -/
theorem spec53 {n : Nat} (v : V) : ∀ (w : V) (c1 c2 : Cv) (h : Heap), n ≤ h.size → RV n h v c1 → RV n h w c2 →
    SPEC P 53 [c1.v, c2.v] [.one .bl] h h.size fun x _ => (x.1 = true ↔ v = w) := by
  obtain ⟨k, b, i, t, bs, l, f⟩ := v
  intro w c1 c2 h hn r1 r2
  obtain ⟨k', b', i', t', bs', l', f'⟩ := w
  have ihl : ∀ v ∈ l, ∀ (w : V) (c1 c2 : Cv) (h : Heap), n ≤ h.size → RV n h v c1 → RV n h w c2 → SPEC P 53 [c1.v, c2.v] [.one .bl] h h.size fun x _ => (x.1 = true ↔ v = w) :=
    fun v hv => spec53 v
  have ihf : ∀ v ∈ f, ∀ (w : V) (c1 c2 : Cv) (h : Heap), n ≤ h.size → RV n h v.2 c1 → RV n h w c2 → SPEC P 53 [c1.v, c2.v] [.one .bl] h h.size fun x _ => (x.1 = true ↔ v.2 = w) :=
    fun v hv => spec53 v.2
  obtain ⟨⟨a1, a2, a3, a4, a5, a6⟩, a7, a8, ⟨a9, a10⟩, a11, a12⟩ := r1
  obtain ⟨⟨d1, d2, d3, d4, d5, d6⟩, d7, d8, ⟨d9, d10⟩, d11, d12⟩ := r2
  refine SPEC_of noNG Tryz.func53 (pl := pl53) (ps := [.agg [.nt .u8, .bl, .nt .i64, .tx, .sl, .sl, .sl], .agg [.nt .u8, .bl, .nt .i64, .tx, .sl, .sl, .sl]])
    (c1.k, c1.b, c1.i, c1.t, c1.bs, c1.ls, c1.fs, c2.k, c2.b, c2.i, c2.t, c2.bs, c2.ls, c2.fs, ()) (by kernel_rfl)
    (q53 (fun _ _ => False) c1.k c1.b c1.i c1.t c1.bs c1.ls c1.fs c2.k c2.b c2.i c2.t c2.bs c2.ls c2.fs h) (fun Q h => by rw [q53_eq] at h; exact h) ?_
  unfold q53
  refine ALLOC_r (.refl h.size h) (Nat.le_refl _) fun b2 h1 hb2 hs1 g1 _ _ => ?_
  refine ALLOC_r g1 (by omega) fun b3 h2 hb3 hs2 g2 _ _ => ?_
  intro kk hk
  refine COND_r (fun hc1 => ?_) (fun hc => hk (false, ()) h2 ⟨g2, ?_⟩)
  case _ => 
    refine COND_r (fun hc2 => ?_) (fun hc => hk (false, ()) h2 ⟨g2, ?_⟩)
    case _ =>
      refine COND_r (fun hc3 => ?_) (fun hc => hk (false, ()) h2 ⟨g2, ?_⟩)
      case _ =>
        refine COND_r (fun hc4 => ?_) (fun hc => hk (false, ()) h2 ⟨g2, ?_⟩)
        case _ =>
          rw [txt_eq a7 d7] at hc4
          have z1 : k = k' := by have : c1.k = c2.k := by simpa using hc1
                                 omega
          have z2 : b = b' := by have : c1.b = c2.b := by simpa using hc2
                                 rw [← a3, ← d3]; exact this
          have z3 : i = i' := by have : c1.i = c2.i := by simpa using hc3
                                 omega
          have z4 : t = t' := by simpa using hc4
          refine CALL_r (spec19 (a8.pre g2 hn) (d8.pre g2 hn)) (by simp; omega) ?_
          rintro ⟨x, _⟩ h5 hs5 g5 ⟨rfl, hx⟩
          simp only at hx
          refine COND_r (fun hc5 => ?_) (fun hc => hk (false, ()) h5 ⟨g2, ?_⟩)
          case _ =>
            refine CALL_r (spec112 (by omega) ihl (RL.pre g2 hn _ _ _ a10) a9 (RL.pre g2 hn _ _ _ d10) d9) (by simp; omega) ?_
            rintro ⟨y, _⟩ h6 hs6 g6 hy
            simp only at hy
            have g62 : Pre h.size h h6 := g2.then g6 (by omega)
            refine COND_r (fun hc6 => ?_) (fun hc => hk (false, ()) h6 ⟨g62, ?_⟩)
            case _ =>
              refine CALL_r (spec113 (by omega) ihf (RF.pre g62 hn _ _ _ a12) a11 (RF.pre g62 hn _ _ _ d12) d11) (by simp; omega) ?_
              rintro ⟨z, _⟩ h7 hs7 g7 hz
              simp only at hz
              refine hk (z, ()) h7 ⟨g62.then g7 (by omega), ?_⟩
              simp only
              rw [hz]
              have := hx.1 hc5
              have := hy.1 hc6
              simp [*]
            · simp only
              refine ⟨nofun, fun e => ?_⟩
              cases e
              rw [hy.2 rfl] at hc; cases hc
          · simp only
            refine ⟨nofun, fun e => ?_⟩
            cases e
            rw [hx.2 rfl] at hc; cases hc
        · simp only
          refine ⟨nofun, fun e => ?_⟩
          cases e
          rw [txt_eq a7 d7] at hc; simp at hc
      · simp only
        refine ⟨nofun, fun e => ?_⟩
        cases e
        rw [a4, d4] at hc; simp at hc
    · simp only
      refine ⟨nofun, fun e => ?_⟩
      cases e
      rw [a3, d3] at hc; simp at hc
  · simp only
    refine ⟨nofun, fun e => ?_⟩
    cases e
    rw [a1, d1] at hc; simp at hc
termination_by SizeOf.sizeOf v
decreasing_by
  all_goals simp_wf
  · have := List.sizeOf_lt_of_mem hv; omega
  · have := List.sizeOf_lt_of_mem hv
    have : SizeOf.sizeOf v.2 < SizeOf.sizeOf v := by cases v; simp; omega
    omega

end Go.VK
