/- Contracts: texts in UTF-8. -/
import Derived.Test.YtemkcbopbinfmaaGreatDoorVE4
import Derived.Test.YtemkcbopbinfmaaGreatDoorVLB
set_option linter.all false
namespace Go.VK
open Go Go.Proofs
set_option maxRecDepth 100000
set_option linter.unusedVariables false

/-- The two tables of unicode/utf8. -/
def Tabs (h : Heap) : Prop := (∀ c, c < 256 → cell h ⟨0, c, none⟩ = some (.int .u8 (Lib.firstT c))) ∧
  (∀ i, i < 16 → cell h ⟨1, 2 * i, none⟩ = some (.int .u8 (Lib.accLo i)) ∧ cell h ⟨1, 2 * i + 1, none⟩ = some (.int .u8 (Lib.accHi i)))

theorem Tabs.pre {n : Nat} {h h' : Heap} (t : Tabs h) (g : Pre n h h') (hn : 2 ≤ n) : Tabs h' :=
  ⟨fun c hc => by rw [g.cell (by show 0 < n; omega)]; exact t.1 c hc, fun i hi => by rw [g.cell (by show 1 < n; omega), g.cell (by show 1 < n; omega)]; exact t.2 i hi⟩

/-- utf8.ValidString -/
theorem spec163 {h : Heap} {t : List UInt8} {s : ByteArray} (ht : TX t s) (hT : Tabs h) : SPEC P 163 [.string s] [.one .bl] h h.size fun x _ => x.1 = Lib.validD t := by
  intro w hw
  subst hw
  have hs := ht.size
  have hsm := ht.small
  refine (Tryz.utf8_ValidString s w (by omega) ⟨fun c hc => by rw [cell_world]; exact hT.1 c hc, fun i hi => by rw [cell_world, cell_world]; exact hT.2 i hi⟩).mono ?_
  rintro e w' ⟨rfl, hb⟩
  refine ⟨hb.os, hb.tape, hb.output, (Lib.validD s.data.toList, ()), rfl, trivial, ?_⟩
  exact ⟨⟨hb.size, hb.block⟩, by rw [ht.eq]⟩

/-- utf8.RuneCountInString -/
theorem spec164 {h : Heap} {t : List UInt8} {s : ByteArray} (ht : TX t s) (hl : t.length < 2 ^ 62) : SPEC P 164 [.string s] [.one (.nt .i64)] h h.size fun x _ => x.1 = ((Lib.runeCount s : Nat) : Int) := by
  intro w hw
  subst hw
  have hs := ht.size
  have hsm := ht.small
  refine (Tryz.utf8_RuneCountInString s w (by omega)).mono ?_
  rintro e w' ⟨rfl, pos, rfl⟩
  refine ⟨rfl, rfl, rfl, (((Lib.runeCount s : Nat) : Int), ()), rfl, trivial, ?_⟩
  exact ⟨(Pre.refl _ _).push (Nat.le_refl _) _, rfl⟩

/-- May a rune stand in a name? -/
def letterB (c : Nat) : Bool := (97 ≤ c && c ≤ 122) || (65 ≤ c && c ≤ 90) || c == 95 || 128 ≤ c

/-- letter -/
theorem spec182 {h : Heap} {c : Nat} : SPEC P 182 [.int .i32 c] [.one .bl] h h.size fun x h' => h' = h ∧ x.1 = letterB c := by
  refine SPEC_of noNG Tryz.func182 (pl := pl182) (ps := [.one (.nt .i32)]) ((c : Int), ()) (by kernel_rfl) (q182 (fun _ _ => False) (c : Int) h) (fun Q h => by rw [q182_eq] at h; exact h) ?_
  unfold q182
  intro k hk
  have fin : ∀ b : Bool, b = letterB c → k b h := fun b e => hk (b, ()) h ⟨.refl _ _, rfl, e⟩
  have le : ∀ a b : Nat, (decide ((a : Int) ≤ (b : Int)) = true → a ≤ b) ∧ (decide ((a : Int) ≤ (b : Int)) = false → b < a) := fun a b =>
    ⟨fun h => by have : (a : Int) ≤ b := by simpa using h
                 omega, fun h => by have : ¬ (a : Int) ≤ b := by simpa using h
                                    omega⟩
  have eq : ∀ a b : Nat, (((a : Int) == (b : Int)) = true → a = b) ∧ (((a : Int) == (b : Int)) = false → a ≠ b) := fun a b =>
    ⟨fun h => by have : (a : Int) = b := by simpa using h
                 omega, fun h => by have : ¬ (a : Int) = b := by simpa using h
                                    omega⟩
  have tail : ¬ (97 ≤ c ∧ c ≤ 122) → ¬ (65 ≤ c ∧ c ≤ 90) → COND ((c : Int) == 95) (k true h) (k (decide ((c : Int) ≥ 128)) h) := fun h1 h2 => by
    refine COND_r (fun hc => fin _ ?_) (fun hc => fin _ ?_)
    · have := (eq c 95).1 hc
      subst this; decide
    · have := (eq c 95).2 hc
      unfold letterB
      have e : decide ((c : Int) ≥ 128) = decide (128 ≤ c) := by by_cases x : 128 ≤ c <;> simp [x] <;> omega
      rw [e]
      have a1 : (decide (97 ≤ c) && decide (c ≤ 122)) = false := by simp; omega
      have a2 : (decide (65 ≤ c) && decide (c ≤ 90)) = false := by simp; omega
      have a3 : (c == 95) = false := by simp; omega
      rw [a1, a2, a3]; rfl
  have mid : ¬ (97 ≤ c ∧ c ≤ 122) → COND (decide ((65 : Int) ≤ c)) (COND (decide ((c : Int) ≤ 90)) (k true h) (COND ((c : Int) == 95) (k true h) (k (decide ((c : Int) ≥ 128)) h))) (COND ((c : Int) == 95) (k true h) (k (decide ((c : Int) ≥ 128)) h)) := fun h1 => by
    refine COND_r (fun hc => COND_r (fun hc2 => fin _ ?_) (fun hc2 => tail h1 ?_)) (fun hc => tail h1 ?_)
    · have := (le 65 c).1 hc
      have := (le c 90).1 hc2
      unfold letterB
      simp; omega
    · have := (le c 90).2 hc2; omega
    · have := (le 65 c).2 hc; omega
  refine COND_r (fun hc => COND_r (fun hc2 => fin _ ?_) (fun hc2 => mid ?_)) (fun hc => mid ?_)
  · have := (le 97 c).1 hc
    have := (le c 122).1 hc2
    unfold letterB
    simp; omega
  · have := (le c 122).2 hc2; omega
  · have := (le 97 c).2 hc; omega

/-- The runes of a name, from a place on. -/
def nameGo (s : ByteArray) : Nat → Nat → Bool
  | 0, _ => true
  | n + 1, pos => if pos < s.size then (letterB (Utf8.decode s pos).1 || (pos != 0 && 48 ≤ (Utf8.decode s pos).1 && (Utf8.decode s pos).1 ≤ 57)) && nameGo s n (pos + (Utf8.decode s pos).2) else true

/-- May it be a name? -/
def nameT (t : List UInt8) : Bool := Lib.validD t && decide (Lib.runeCount ⟨t.toArray⟩ ≤ 32) && nameGo ⟨t.toArray⟩ t.length 0 && !t.isEmpty

theorem TX.mk_eq {t : List UInt8} {s : ByteArray} (h : TX t s) : s = ⟨t.toArray⟩ := by
  have := h.eq
  subst this
  cases s; simp

/-- Name -/
theorem spec162 {h : Heap} {t : List UInt8} {s : ByteArray} (ht : TX t s) (hT : Tabs h) (h2 : 2 ≤ h.size) (hl : t.length < 2 ^ 62) : SPEC P 162 [.string s] [.one .bl] h h.size fun x _ => x.1 = nameT t := by
  refine SPEC_of noNG Tryz.func162 (pl := pl162) (ps := [.one .tx]) (s, ()) (by kernel_rfl) (q162 (fun _ _ => False) s h) (fun Q h => by rw [q162_eq] at h; exact h) ?_
  unfold q162
  have es := ht.mk_eq
  have hsz := ht.size
  intro k1 hk1
  have first : ∀ (b : Bool) (h' : Heap), Pre h.size h h' → (b = true → nameT t = false) → (b = false → nameT t = (nameGo s s.size 0 && !t.isEmpty)) → k1 b h' := fun b h' g hb1 hb2 => by
    refine hk1 (b, ()) h' ?_
    refine COND_r (fun hc => ⟨g, (hb1 hc).symm⟩) (fun hc => ?_)
    have hb2 := hb2 hc
    show ITER s h' _
    refine ⟨fun _ X => Pre h.size h X ∧ ∃ pos n, X[h'.size]? = some (.stringIter s pos) ∧ s.size ≤ pos + n ∧ nameGo s s.size 0 = nameGo s n pos, fun _ X => match X[h'.size]? with
      | some (.stringIter s pos) => s.size - pos
      | _ => 0, ⟨g.push g.sz _, 0, s.size, by simp, by omega, rfl⟩, ?_⟩
    rintro _ X ⟨gX, pos, n, hX, hn, hgo⟩
    refine ⟨s, pos, hX, fun hp => ⟨gX, ?_⟩, fun hp => ?_⟩
    · show (!(s.toList == ByteArray.empty.toList)) = nameT t
      have e1 : nameGo s n pos = true := by cases n <;> simp [nameGo, hp]
      rw [hb2, hgo, e1, toList_eq, toList_eq, ht.eq]
      cases t <;> rfl
    · have hw := Lib.decode_width_pos s pos hp
      obtain ⟨m, rfl⟩ : ∃ m, n = m + 1 := ⟨n - 1, by omega⟩
      have hXs : h'.size < X.size := by
        rcases Nat.lt_or_ge h'.size X.size with x | x
        · exact x
        · rw [Array.getElem?_eq_none x] at hX; cases hX
      have gY : Pre h.size h (X.setIfInBounds h'.size (.stringIter s (pos + (Utf8.decode s pos).2))) := gX.set g.sz _
      intro k9 hk9
      refine CALL_r (spec182 (c := (Utf8.decode s pos).1)) (by simp) ?_
      rintro ⟨x, ⟨⟩⟩ Y hsY gYY ⟨rfl, hx⟩
      simp only at hx
      have second : ∀ b : Bool, (b = true → (letterB (Utf8.decode s pos).1 || (pos != 0 && 48 ≤ (Utf8.decode s pos).1 && (Utf8.decode s pos).1 ≤ 57)) = false) →
          (b = false → (letterB (Utf8.decode s pos).1 || (pos != 0 && 48 ≤ (Utf8.decode s pos).1 && (Utf8.decode s pos).1 ≤ 57)) = true) → k9 b (X.setIfInBounds h'.size (.stringIter s (pos + (Utf8.decode s pos).2))) := fun b c1 c2 => by
        refine hk9 (b, ()) _ ?_
        refine COND_r (fun hc => ⟨gY, ?_⟩) (fun hc => ⟨⟨gY, _, m, by rw [Array.getElem?_setIfInBounds_self_of_lt hXs], by omega, ?_⟩, ?_⟩)
        · show false = nameT t
          rw [hb2, hgo, nameGo, if_pos hp, c1 hc]; simp
        · rw [hgo, nameGo, if_pos hp, c2 hc]; simp
        · show (match (X.setIfInBounds h'.size (.stringIter s (pos + (Utf8.decode s pos).2)))[h'.size]? with
            | some (.stringIter s pos) => s.size - pos
            | _ => 0) < (match X[h'.size]? with
            | some (.stringIter s pos) => s.size - pos
            | _ => 0)
          rw [Array.getElem?_setIfInBounds_self_of_lt hXs, hX]
          simp only
          omega
      refine COND_r (fun hc => ?_) (fun hc => second false nofun fun _ => ?_)
      · have hl0 : letterB (Utf8.decode s pos).1 = false := by rw [← hx]; simpa using hc
        refine COND_r (fun hc2 => second true (fun _ => ?_) nofun) (fun hc2 => COND_r (fun hc3 => second true (fun _ => ?_) nofun) (fun hc3 => ?_))
        · have : pos = 0 := by have : (pos : Int) = 0 := by simpa using hc2
                               omega
          rw [hl0, this]; simp
        · have : ((Utf8.decode s pos).1 : Int) < 48 := by simpa using hc3
          rw [hl0]; simp; omega
        · have e2 : pos ≠ 0 := by have : ¬ (pos : Int) = 0 := by simpa using hc2
                                  omega
          have e3 : ¬ ((Utf8.decode s pos).1 : Int) < 48 := by simpa using hc3
          refine second _ (fun hb => ?_) (fun hb => ?_)
          · have : ((Utf8.decode s pos).1 : Int) > 57 := by simpa using hb
            rw [hl0]; simp; omega
          · have : ¬ ((Utf8.decode s pos).1 : Int) > 57 := by simpa using hb
            rw [hl0]; simp; omega
      · have : letterB (Utf8.decode s pos).1 = true := by rw [← hx]; simpa using hc
        rw [this]; rfl
  refine CALL_r (spec163 ht hT) (by simp) ?_
  rintro ⟨x, ⟨⟩⟩ h3 hs3 g3 hx
  simp only at hx
  refine COND_r (fun hc => first true h3 g3 (fun _ => ?_) nofun) (fun hc => ?_)
  · have : Lib.validD t = false := by rw [← hx]; simpa using hc
    simp [nameT, this]
  · have hv : Lib.validD t = true := by rw [← hx]; simpa using hc
    refine CALL_r (spec164 ht hl) (by simp) ?_
    rintro ⟨y, ⟨⟩⟩ h4 hs4 g4 hy
    simp only at hy
    subst hy
    refine first _ h4 (g3.then g4 (by omega)) (fun hb => ?_) (fun hb => ?_)
    · have : ((Lib.runeCount s : Nat) : Int) > 32 := by simpa using hb
      rw [es] at this
      have : ¬ Lib.runeCount ⟨t.toArray⟩ ≤ 32 := by omega
      simp [nameT, this]
    · have : ¬ ((Lib.runeCount s : Nat) : Int) > 32 := by simpa using hb
      rw [es] at this
      have : Lib.runeCount ⟨t.toArray⟩ ≤ 32 := by omega
      simp only [nameT, hv, this, decide_true, Bool.true_and]
      rw [hsz, es]

end Go.VK
