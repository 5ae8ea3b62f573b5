/- Contracts: a number out of bytes (code.varint). -/
import Derived.Test.YtemkcbopbinfmaaGreatDoorVEI
set_option linter.all false
namespace Go.VK
open Go Go.Proofs
set_option maxRecDepth 100000
set_option linter.unusedSimpArgs false
set_option linter.unusedVariables false

/-- varint -/
theorem spec133 {n : Nat} {h : Heap} {L : List UInt8} {s : Sl} (rb : RB n h L s) :
    SPEC P 133 [s.v] [.one (.nt .u64), .one (.nt .i64), .one (.nt .u16)] h h.size fun x h' => h' = h ∧ (∀ v r, pvar L = some (v, r) → v < 2 ^ 64 ∧ x.1 = (v : Int) ∧ x.2.1 = ((L.length - r.length : Nat) : Int) ∧ x.2.2.1 = 0) ∧ (pvar L = none → ∃ e : Nat, e ≠ 0 ∧ e < 65536 ∧ x.2.2.1 = (e : Int)) := by
  refine SPEC_of_k noNG Tryz.func133 (pl := pl133) (ps := [.one .sl]) (s, ()) (by kernel_rfl) (q133 (fun _ _ => False) s h) (by kernel_rfl) ?_
  unfold q133
  have bl := rb.len
  have bc := rb.cap
  have bs := rb.small
  intro k1 hk1
  have bad : ∀ e : Nat, e ≠ 0 → e < 65536 → pvar L = none → k1 (e : Int) h := fun e h1 h2 h3 => hk1 ((e : Int), ()) h ⟨.refl _ _, rfl, (fun v r hv => by rw [h3] at hv; cases hv), fun _ => ⟨e, h1, h2, rfl⟩⟩
  refine ⟨fun x h' => h' = h ∧ ∃ i acc : Nat, x = ((acc : Int), (20 : Int), (i : Int), ()) ∧ i ≤ L.length ∧ i ≤ 9 ∧ acc < 2 ^ (7 * i) ∧ pvar L = pvGo i acc (L.drop i), fun x _ => (10 - x.2.2.1).toNat, ⟨rfl, 0, 0, rfl, by omega, by omega, by decide, rfl⟩, ?_⟩
  rintro ⟨x2, x4, x9, ⟨⟩⟩ h' ⟨rfl, i, acc, hx, hi, hi9, hacc, hpv⟩
  cases hx
  refine COND_r (fun hc => ?_) (fun hc => ?_)
  · have hi1 : i < L.length := by have := ltI hc; omega
    have hdrop : L.drop i = L[i] :: L.drop (i + 1) := by simp
    refine rb.ix (i := i) rfl hi1 (fun h'' e => by rw [e]; exact .refl _ _) ?_
    obtain ⟨c, hcc⟩ : ∃ c, L[i] = c := ⟨_, rfl⟩
    rw [hcc] at hdrop ⊢
    rw [hdrop] at hpv
    simp only [pvGo] at hpv
    intro k5 hk5
    have e9 : ((i : Int) == 9) = (i == 9) := ckN i 9
    have e0 : decide ((i : Int) > 0) = decide (0 < i) := decide_eq_decide.2 (by omega)
    have c1 : ((c.toNat : Int) != 1) = (c != 1) := by
      have key : ∀ x : UInt8, ((x.toNat : Int) != 1) = (x != 1) := fun x => by
        have k2 : ((x.toNat : Int) == 1) = (x == 1) := by
          by_cases h : x = 1
          · subst h; rfl
          · rw [beq_eq_false_iff_ne.2 h, beq_eq_false_iff_ne.2]
            intro e
            have : x.toNat = (1 : UInt8).toNat := by show x.toNat = 1; omega
            exact h (UInt8.toNat_inj.1 this)
        rw [bne, bne, k2]
      exact key c
    have c0 : ((c.toNat : Int) == 0) = (c == 0) := by
      by_cases h : c = 0
      · subst h; rfl
      · rw [beq_eq_false_iff_ne.2 h, beq_eq_false_iff_ne.2]
        intro e
        have : c.toNat = (0 : UInt8).toNat := by show c.toNat = 0; omega
        exact h (UInt8.toNat_inj.1 this)
    suffices J5 : k5 ((i == 9 && c != 1) || (decide (0 < i) && c == 0)) h' by
      simp only [e9, e0, c1, c0]
      intro k7 hk7
      have J7 : ∀ b, b = (i == 9 && c != 1) → k7 b h' := fun b hb => by
        refine hk7 (b, ()) h' ?_
        show COND b _ _
        subst hb
        revert J5
        cases (i == 9 && c != 1) <;> simp only [COND_true, COND_false, Bool.true_or, Bool.false_or] <;> intro J5
        · intro k9 hk9
          have J9 : ∀ b, b = (decide (0 < i) && c == 0) → k9 b h' := fun b hb => hk9 (b, ()) h' (by subst hb; exact J5)
          cases hd : decide (0 < i) <;> simp only [COND_true, COND_false]
          · exact J9 _ (by rw [hd]; rfl)
          · exact J9 _ (by rw [hd, Bool.true_and])
        · exact J5
      cases hd : (i == 9) <;> simp only [COND_true, COND_false]
      · exact J7 _ (by rw [hd]; rfl)
      · exact J7 _ (by rw [hd, Bool.true_and])
    refine hk5 (_, ()) h' ?_
    show COND ((i == 9 && c != 1) || (decide (0 < i) && c == 0)) _ _
    have hb : ((i == 9 && c != 1) || (decide (0 < i) && c == 0)) = true ↔ ((i = 9 ∧ c ≠ 1) ∨ (0 < i ∧ c = 0)) := by simp
    refine COND_r (fun hc => ?_) (fun hc => ?_)
    · have hc := hb.1 hc
      rw [if_pos hc] at hpv
      exact bad 21 (by decide) (by decide) hpv
    · have hc : ¬ ((i = 9 ∧ c ≠ 1) ∨ (0 < i ∧ c = 0)) := fun e => by rw [hb.2 e] at hc; cases hc
      rw [if_neg hc] at hpv
      have ew : IntKind.wrap .i64 (7 * (i : Int)) = ((7 * i : Nat) : Int) := by rw [wrap_small (by omega) (by omega)]; omega
      rw [ew]
      refine ⟨by omega, ?_⟩
      rw [iand127]
      have ei : IntKind.wrap .i64 ((i : Int) + 1) = ((i + 1 : Nat) : Int) := by rw [wrap_small (by omega) (by omega)]; omega
      have hcm : c.toNat % 128 < 128 := Nat.mod_lt _ (by decide)
      have hc9 : i = 9 → c.toNat % 128 = 1 := fun h => by
        have c1 : c = 1 := by
          by_cases h2 : c = 1
          · exact h2
          · exact absurd (.inl ⟨h, h2⟩) hc
        subst c1; rfl
      have e128 : decide ((c.toNat : Int) < 128) = decide (c.toNat < 128) := decide_eq_decide.2 (by omega)
      have hs63 : 7 * i ≤ 63 := by omega
      have hsum := pv_sum hacc hcm
      have h64 := pv_64 hacc hcm hi9 hc9
      have hy64 := Nat.lt_of_le_of_lt (Nat.le_add_left _ acc) h64
      have e1 : ior .u64 (acc : Int) (ishl .u64 ((c.toNat % 128 : Nat) : Int) ((7 * i : Nat) : Int)) = ((acc + (c.toNat % 128) * 2 ^ (7 * i) : Nat) : Int) := by
        rw [ishlN _ _ hs63 hy64, ior_add _ _ _ hacc h64]
      rw [e1]
      rw [ei, e128]
      refine COND_r (fun hc2 => ?_) (fun hc2 => ?_)
      · have hc2 : c.toNat < 128 := by simpa using hc2
        rw [if_pos hc2] at hpv
        have em : c.toNat % 128 = c.toNat := Nat.mod_eq_of_lt hc2
        rw [em] at h64 ⊢
        refine ⟨.refl _ _, rfl, fun v r hv => ?_, fun hv => by rw [hpv] at hv; cases hv⟩
        rw [hpv] at hv
        cases hv
        refine ⟨h64, rfl, ?_, rfl⟩
        show ((i + 1 : Nat) : Int) = ((L.length - (L.drop (i + 1)).length : Nat) : Int)
        have hdl : (L.drop (i + 1)).length = L.length - (i + 1) := List.length_drop
        rw [hdl]
        clear h64 hsum hy64 hacc e1 hdl
        omega
      · have hc2 : ¬ c.toNat < 128 := by simpa using hc2
        rw [if_neg hc2] at hpv
        have em : c.toNat % 128 = c.toNat - 128 := by have := c.toNat_lt; clear h64 hsum hy64 hacc e1; omega
        rw [em] at hsum ⊢
        have hi8 : i < 9 := by
          rcases Nat.lt_or_eq_of_le hi9 with h | h
          · exact h
          · exfalso
            have : c = 1 := by
              by_cases h2 : c = 1
              · exact h2
              · exact absurd (.inl ⟨h, h2⟩) hc
            subst this
            exact hc2 (by decide)
        refine ⟨⟨rfl, i + 1, _, rfl, hi1, hi8, hsum, hpv⟩, ?_⟩
        clear h64 hsum hy64 hacc e1
        show (10 - ((i + 1 : Nat) : Int)).toNat < (10 - (i : Int)).toNat
        omega
  · have hi1 : L.length ≤ i := by have := geI hc; omega
    rw [List.drop_of_length_le hi1] at hpv
    exact bad 20 (by decide) (by decide) hpv

end Go.VK
