/- Plain laws: what is written is read, and what is read was written so. No program in sight. -/
import Derived.Test.YtemkcbopbinfmaaGreatDoorVEP
set_option linter.all false
namespace Go.VK
open Go Go.Proofs
set_option maxRecDepth 100000
set_option linter.unusedSimpArgs false
set_option linter.unusedVariables false

/-! ### Numbers -/
theorem vint_eq (n : Nat) : vint n = if n < 128 then [UInt8.ofNat n] else UInt8.ofNat (n % 128 + 128) :: vint (n / 128) := by rw [vint]

theorem u8nat {n : Nat} (h : n < 256) : (UInt8.ofNat n).toNat = n := by rw [UInt8.toNat_ofNat']; omega

theorem pvGo_vint : ∀ (k : Nat) (n i acc : Nat) (r : List UInt8), k = 9 - i → i ≤ 9 → (0 < i → n ≠ 0) → n * 2 ^ (7 * i) < 2 ^ 64 → pvGo i acc (vint n ++ r) = some (acc + n * 2 ^ (7 * i), r)
  | k, n, i, acc, r, hk, hi, h0, hn => by
    have hp : 0 < 2 ^ (7 * i) := Nat.pow_pos (by decide)
    have h9 : i = 9 → n < 2 := fun e => by
      subst e
      rcases Nat.lt_or_ge n 2 with h | h
      · exact h
      · have : 2 * 2 ^ (7 * 9) ≤ n * 2 ^ (7 * 9) := Nat.mul_le_mul_right _ h
        have e2 : 2 * 2 ^ (7 * 9) = 2 ^ 64 := by decide
        omega
    rw [vint_eq]
    by_cases h : n < 128
    · rw [if_pos h]
      show pvGo i acc (UInt8.ofNat n :: r) = _
      simp only [pvGo]
      have e := u8nat (n := n) (by omega)
      rw [if_neg, e, if_pos h]
      rintro (⟨h1, h2⟩ | ⟨h1, h2⟩)
      · have := h9 h1
        have hn1 : n = 1 := by have := h0 (by omega); omega
        subst hn1
        exact h2 rfl
      · have : (UInt8.ofNat n).toNat = 0 := by rw [h2]; rfl
        rw [e] at this
        exact h0 h1 this
    · rw [if_neg h]
      show pvGo i acc (UInt8.ofNat (n % 128 + 128) :: (vint (n / 128) ++ r)) = _
      have hm := Nat.mod_lt n (show 128 > 0 by decide)
      have e := u8nat (n := n % 128 + 128) (by omega)
      have hi9 : i < 9 := by
        rcases Nat.lt_or_eq_of_le hi with h1 | h1
        · exact h1
        · have := h9 h1; omega
      have hpow : 2 ^ (7 * (i + 1)) = 128 * 2 ^ (7 * i) := by rw [show 7 * (i + 1) = 7 + 7 * i by omega, Nat.pow_add]
      have hdm := Nat.div_add_mod n 128
      simp only [pvGo]
      rw [if_neg, e, if_neg (by omega)]
      · have hsub : n % 128 + 128 - 128 = n % 128 := by omega
        rw [hsub]
        obtain ⟨k', rfl⟩ : ∃ k', k = k' + 1 := ⟨k - 1, by omega⟩
        have key : n * 2 ^ (7 * i) = (n % 128) * 2 ^ (7 * i) + (n / 128) * (128 * 2 ^ (7 * i)) := by
          rw [← Nat.mul_assoc, ← Nat.add_mul]
          congr 1
          omega
        rw [pvGo_vint k' (n / 128) (i + 1) _ r (by omega) (by omega) (fun _ => by omega) (by rw [hpow]; omega)]
        rw [hpow, Nat.add_assoc, ← key]
      · rintro (⟨h1, h2⟩ | ⟨h1, h2⟩)
        · omega
        · have : (UInt8.ofNat (n % 128 + 128)).toNat = 0 := by rw [h2]; rfl
          omega

theorem pvar_vint {n : Nat} (h : n < 2 ^ 64) (r : List UInt8) : pvar (vint n ++ r) = some (n, r) := by
  have := pvGo_vint 9 n 0 0 r rfl (by decide) (fun h => by omega) (by simpa using h)
  simpa [pvar] using this

theorem pvGo_inv : ∀ (b : List UInt8) (i acc v : Nat) (r : List UInt8), pvGo i acc b = some (v, r) → ∃ n, b = vint n ++ r ∧ v = acc + n * 2 ^ (7 * i) ∧ (0 < i → n ≠ 0)
  | [], _, _, _, _, h => by cases h
  | c :: b, i, acc, v, r, h => by
    simp only [pvGo] at h
    split at h
    · cases h
    rename_i hc
    have hcl := c.toNat_lt
    split at h
    · rename_i h128
      cases h
      refine ⟨c.toNat, ?_, rfl, fun hi e => hc (.inr ⟨hi, ?_⟩)⟩
      · rw [vint_eq, if_pos h128]; simp
      · exact UInt8.toNat_inj.1 (by rw [e]; rfl)
    · rename_i h128
      obtain ⟨n, hb, hv, hn⟩ := pvGo_inv b (i + 1) _ v r h
      have hn0 := hn (by omega)
      refine ⟨c.toNat - 128 + 128 * n, ?_, ?_, fun _ => by omega⟩
      · rw [vint_eq, if_neg (by omega)]
        have e1 : (c.toNat - 128 + 128 * n) / 128 = n := by omega
        have e2 : (c.toNat - 128 + 128 * n) % 128 + 128 = c.toNat := by omega
        rw [e1, e2, hb]; simp
      · rw [hv]
        have hpow : 2 ^ (7 * (i + 1)) = 128 * 2 ^ (7 * i) := by rw [show 7 * (i + 1) = 7 + 7 * i by omega, Nat.pow_add]
        rw [hpow, Nat.add_mul, Nat.add_assoc]
        congr 2
        rw [← Nat.mul_assoc, Nat.mul_comm n 128]

theorem pvar_inv {b : List UInt8} {n : Nat} {r : List UInt8} (h : pvar b = some (n, r)) : b = vint n ++ r := by
  obtain ⟨m, h1, h2, _⟩ := pvGo_inv b 0 0 n r h
  simp at h2
  subst h2; exact h1

theorem zag_zz {i : Int} : zag (zz i) = i := by
  unfold zag zz
  split
  · rename_i h
    have : (2 * i).toNat % 2 = 0 := by omega
    rw [if_pos this]; omega
  · rename_i h
    have : ¬ (-2 * i - 1).toNat % 2 = 0 := by omega
    rw [if_neg this]; omega
theorem zz_zag {n : Nat} : zz (zag n) = n := by
  unfold zag zz
  split
  · rename_i h
    rw [if_pos (by omega)]; omega
  · rename_i h
    rw [if_neg (by omega)]; omega

/-! ### Texts -/
theorem ptxt_txt {t : List UInt8} (h : t.length < 2 ^ 64) (r : List UInt8) : ptxt (vint t.length ++ (t ++ r)) = some (t, r) := by
  unfold ptxt
  rw [pvar_vint h]
  simp
theorem ptxt_inv {b t r : List UInt8} (h : ptxt b = some (t, r)) : b = vint t.length ++ (t ++ r) := by
  unfold ptxt at h
  cases hp : pvar b with
  | none => rw [hp] at h; cases h
  | some x =>
    obtain ⟨n, r'⟩ := x
    rw [hp] at h
    simp only [Option.bind_some] at h
    split at h
    · rename_i hl
      cases h
      have e : (r'.take n).length = n := by simp; omega
      rw [e, List.take_append_drop]
      exact pvar_inv hp
    · cases h

/-! ### Values -/
theorem plist_invL {d : Nat} (ih : ∀ b v r, pval d b = some (v, r) → b = enc v ++ r) : ∀ (n : Nat) (b : List UInt8) (l : List V) (r : List UInt8), plist (pval d) n b = some (l, r) → b = encL l ++ r ∧ l.length = n
  | 0, b, l, r, h => by simp only [plist] at h; cases h; exact ⟨rfl, rfl⟩
  | n + 1, b, l, r, h => by
    simp only [plist] at h
    cases hv : pval d b with
    | none => rw [hv] at h; cases h
    | some x =>
      obtain ⟨v, r1⟩ := x
      rw [hv] at h
      simp only [Option.bind_some] at h
      cases hp : plist (pval d) n r1 with
      | none => rw [hp] at h; cases h
      | some y =>
        obtain ⟨l1, r2⟩ := y
        rw [hp] at h
        cases h
        obtain ⟨h1, h2⟩ := plist_invL ih n r1 l1 r2 hp
        have h3 := ih _ _ _ hv
        refine ⟨?_, by simp [h2]⟩
        show b = encL (v :: l1) ++ r2
        rw [h3, h1]; simp [encL]
theorem plist_invF {d : Nat} (ih : ∀ b v r, pval d b = some (v, r) → b = enc v ++ r) : ∀ (n : Nat) (b : List UInt8) (l : List (List UInt8 × V)) (r : List UInt8), plist (pfld (pval d)) n b = some (l, r) → b = encF l ++ r ∧ l.length = n
  | 0, b, l, r, h => by simp only [plist] at h; cases h; exact ⟨rfl, rfl⟩
  | n + 1, b, l, r, h => by
    simp only [plist] at h
    cases hv : pfld (pval d) b with
    | none => rw [hv] at h; cases h
    | some x =>
      obtain ⟨⟨nm, v⟩, r1⟩ := x
      rw [hv] at h
      simp only [Option.bind_some] at h
      cases hp : plist (pfld (pval d)) n r1 with
      | none => rw [hp] at h; cases h
      | some y =>
        obtain ⟨l1, r2⟩ := y
        rw [hp] at h
        cases h
        obtain ⟨h1, h2⟩ := plist_invF ih n r1 l1 r2 hp
        refine ⟨?_, by simp [h2]⟩
        show b = encF ((nm, v) :: l1) ++ r2
        unfold pfld at hv
        cases ht : ptxt b with
        | none => rw [ht] at hv; cases hv
        | some z =>
          obtain ⟨nm', r3⟩ := z
          rw [ht] at hv
          simp only [Option.bind_some] at hv
          cases hv2 : pval d r3 with
          | none => rw [hv2] at hv; cases hv
          | some z2 =>
            obtain ⟨v2, r4⟩ := z2
            rw [hv2] at hv
            cases hv
            have h3 := ih _ _ _ hv2
            have h4 := ptxt_inv ht
            have h1 : r4 = encF l1 ++ r2 := h1
            rw [h4, h3, h1]; simp [encF]

theorem pval_inv : ∀ (d : Nat) (b : List UInt8) (v : V) (r : List UInt8), pval d b = some (v, r) → b = enc v ++ r
  | 0, _, _, _, h => by cases h
  | d + 1, [], _, _, h => by cases h
  | d + 1, tag :: b, v, r, h => by
    simp only [pval] at h
    split at h
    · rename_i ht; cases h; subst ht; simp [enc]
    split at h
    · rename_i ht
      cases h
      rcases ht with rfl | rfl <;> simp [enc]
    split at h
    · rename_i ht
      cases hp : pvar b with
      | none => rw [hp] at h; cases h
      | some x =>
        obtain ⟨w, r1⟩ := x; rw [hp] at h; cases h
        rw [ht, pvar_inv hp]
        show _ = enc (.mk 3 false (zag w) [] [] [] []) ++ r1
        simp [enc, zz_zag]
    split at h
    · rename_i ht
      cases hp : ptxt b with
      | none => rw [hp] at h; cases h
      | some x =>
        obtain ⟨w, r1⟩ := x; rw [hp] at h; cases h
        rw [ht, ptxt_inv hp]
        show _ = enc (.mk 4 false 0 w [] [] []) ++ r1
        simp [enc]
    split at h
    · rename_i ht
      cases hp : ptxt b with
      | none => rw [hp] at h; cases h
      | some x =>
        obtain ⟨w, r1⟩ := x; rw [hp] at h; cases h
        rw [ht, ptxt_inv hp]
        show _ = enc (.mk 5 false 0 [] w [] []) ++ r1
        simp [enc]
    split at h
    · rename_i ht
      cases hp : pvar b with
      | none => rw [hp] at h; cases h
      | some x =>
        obtain ⟨w, r1⟩ := x
        rw [hp] at h
        simp only [Option.bind_some] at h
        cases hl : plist (pval d) w r1 with
        | none => rw [hl] at h; cases h
        | some y =>
          obtain ⟨l, r2⟩ := y; rw [hl] at h; cases h
          obtain ⟨h1, h2⟩ := plist_invL (pval_inv d) _ _ _ _ hl
          rw [ht, pvar_inv hp, h1, ← h2]
          show _ = enc (.mk 6 false 0 [] [] l []) ++ r2
          simp [enc]
    split at h
    · rename_i ht
      cases hp : pvar b with
      | none => rw [hp] at h; cases h
      | some x =>
        obtain ⟨w, r1⟩ := x
        rw [hp] at h
        simp only [Option.bind_some] at h
        cases hl : plist (pfld (pval d)) w r1 with
        | none => rw [hl] at h; cases h
        | some y =>
          obtain ⟨l, r2⟩ := y; rw [hl] at h; cases h
          obtain ⟨h1, h2⟩ := plist_invF (pval_inv d) _ _ _ _ hl
          rw [ht, pvar_inv hp, h1, ← h2]
          show _ = enc (.mk 7 false 0 [] [] [] l) ++ r2
          simp [enc]
    · cases h

/-- Nothing but what its kind has. -/
def bareP : V → Prop
  | .mk k b i t bs l f => 1 ≤ k ∧ k ≤ 7 ∧ (k ≠ 2 → b = false) ∧ (k ≠ 3 → i = 0) ∧ (k ≠ 4 → t = []) ∧ (k ≠ 5 → bs = []) ∧ (k ≠ 6 → l = []) ∧ (k ≠ 7 → f = [])

theorem own_bare {v : V} (h : ownE v = 0) : bareP v := by
  obtain ⟨k, b, i, t, bs, l, f⟩ := v
  simp only [ownE] at h
  split at h
  · omega
  rename_i hc
  have hc : (decide (k < 1) || decide (7 < k) || !alikeB k b i t || !listsB k bs l f) = false := by
    cases hx : (decide (k < 1) || decide (7 < k) || !alikeB k b i t || !listsB k bs l f)
    · rfl
    · exact absurd hx hc
  simp only [Bool.or_eq_false_iff, decide_eq_false_iff_not, Bool.not_eq_false', alikeB, listsB, Bool.and_eq_true, Bool.or_eq_true, beq_iff_eq, Bool.not_eq_true', List.isEmpty_iff] at hc
  obtain ⟨⟨⟨h1, h2⟩, ⟨h3, h4⟩, h5⟩, ⟨h6, h7⟩, h8⟩ := hc
  exact ⟨by omega, by omega, fun h => h3.resolve_left h, fun h => h4.resolve_left h, fun h => h5.resolve_left h, fun h => h6.resolve_right h, fun h => h7.resolve_right h, fun h => h8.resolve_right h⟩

mutual
/-- All of it is bare. -/
def allBare : V → Prop
  | .mk k b i t bs l f => bareP (.mk k b i t bs l f) ∧ allBareL l ∧ allBareF f
def allBareL : List V → Prop
  | [] => True
  | v :: r => allBare v ∧ allBareL r
def allBareF : List (List UInt8 × V) → Prop
  | [] => True
  | (_, v) :: r => allBare v ∧ allBareF r
end

mutual
theorem bare_pre : ∀ (v : V), (∀ x ∈ pre v, bareP x) → allBare v
  | .mk k b i t bs l f, h => ⟨h _ (by simp [pre]), bare_preL l fun x hx => h x (by simp [pre, hx]), bare_preF f fun x hx => h x (by simp [pre, hx])⟩
theorem bare_preL : ∀ (l : List V), (∀ x ∈ preL l, bareP x) → allBareL l
  | [], _ => trivial
  | v :: r, h => ⟨bare_pre v fun x hx => h x (by simp [preL, hx]), bare_preL r fun x hx => h x (by simp [preL, hx])⟩
theorem bare_preF : ∀ (l : List (List UInt8 × V)), (∀ x ∈ preF l, bareP x) → allBareF l
  | [], _ => trivial
  | (n, v) :: r, h => ⟨bare_pre v fun x hx => h x (by simp [preF, hx]), bare_preF r fun x hx => h x (by simp [preF, hx])⟩
end

theorem firstBad_zero : ∀ {l : List V}, firstBad l = 0 → ∀ x ∈ l, ownE x = 0
  | [], _, x, hx => by cases hx
  | y :: r, h, x, hx => by
    simp only [firstBad] at h
    split at h
    · rename_i hy; exact absurd h hy
    · rename_i hy
      rcases List.mem_cons.1 hx with rfl | hx
      · omega
      · exact firstBad_zero h x hx

theorem chk_zero {v : V} (h : chk v = 0) : deepB 8 v = false ∧ allBare v := by
  unfold chk at h
  split at h
  · omega
  rename_i h1
  split at h
  · omega
  refine ⟨by cases hd : deepB 8 v; rfl; exact absurd hd h1, bare_pre v fun x hx => own_bare (firstBad_zero h x hx)⟩

mutual
theorem pval_enc : ∀ (v : V) (m : Nat) (r : List UInt8), deepB m v = false → allBare v → okV v → wt v ≤ 2 ^ 40 → pval (m + 1) (enc v ++ r) = some (v, r)
  | .mk k b i t bs l f, m, r, hd, ⟨hb, hbl, hbf⟩, ⟨_, o1, o2, o3, o4⟩, hw => by
    simp only [wt] at hw
    simp only [deepB, Bool.or_eq_false_iff, beq_eq_false_iff_ne] at hd
    obtain ⟨hm, hdl, hdf⟩ := hd
    obtain ⟨b1, b2, b3, b4, b5, b6, b7, b8⟩ := hb
    obtain ⟨m', rfl⟩ : ∃ m', m = m' + 1 := ⟨m - 1, by omega⟩
    simp only [Nat.add_sub_cancel] at hdl hdf
    have lw := wtL_len l
    have fw := wtF_len f
    have ht := tx_len t
    have hbs := tx_len bs
    have hk : k = 1 ∨ k = 2 ∨ k = 3 ∨ k = 4 ∨ k = 5 ∨ k = 6 ∨ k = 7 := by omega
    rcases hk with rfl | rfl | rfl | rfl | rfl | rfl | rfl
    · obtain rfl := b3 (by decide); obtain rfl := b4 (by decide); obtain rfl := b5 (by decide); obtain rfl := b6 (by decide); obtain rfl := b7 (by decide); obtain rfl := b8 (by decide)
      simp [enc, pval]
    · obtain rfl := b4 (by decide); obtain rfl := b5 (by decide); obtain rfl := b6 (by decide); obtain rfl := b7 (by decide); obtain rfl := b8 (by decide)
      cases b <;> simp [enc, pval]
    · obtain rfl := b3 (by decide); obtain rfl := b5 (by decide); obtain rfl := b6 (by decide); obtain rfl := b7 (by decide); obtain rfl := b8 (by decide)
      simp [enc, pval, pvar_vint (zz_lt o1 o2), zag_zz]
    · obtain rfl := b3 (by decide); obtain rfl := b4 (by decide); obtain rfl := b6 (by decide); obtain rfl := b7 (by decide); obtain rfl := b8 (by decide)
      simp [enc, pval, ptxt_txt (t := t) (by omega)]
    · obtain rfl := b3 (by decide); obtain rfl := b4 (by decide); obtain rfl := b5 (by decide); obtain rfl := b7 (by decide); obtain rfl := b8 (by decide)
      simp [enc, pval, ptxt_txt (t := bs) (by omega)]
    · obtain rfl := b3 (by decide); obtain rfl := b4 (by decide); obtain rfl := b5 (by decide); obtain rfl := b6 (by decide); obtain rfl := b8 (by decide)
      have h1 := pval_encL l m' r hdl hbl o3 (by omega)
      simp [enc, pval, pvar_vint (n := l.length) (by omega), h1]
    · obtain rfl := b3 (by decide); obtain rfl := b4 (by decide); obtain rfl := b5 (by decide); obtain rfl := b6 (by decide); obtain rfl := b7 (by decide)
      have h1 := pval_encF f m' r hdf hbf o4 (by omega)
      simp [enc, pval, pvar_vint (n := f.length) (by omega), h1]
theorem pval_encL : ∀ (l : List V) (m : Nat) (r : List UInt8), deepL m l = false → allBareL l → okL l → wtL l ≤ 2 ^ 40 → plist (pval (m + 1)) l.length (encL l ++ r) = some (l, r)
  | [], m, r, _, _, _, _ => by simp [plist, encL]
  | v :: l, m, r, hd, ⟨hb, hbl⟩, ⟨o1, o2⟩, hw => by
    simp only [wtL] at hw
    simp only [deepL, Bool.or_eq_false_iff] at hd
    have h1 := pval_enc v m (encL l ++ r) hd.1 hb o1 (by omega)
    have h2 := pval_encL l m r hd.2 hbl o2 (by omega)
    simp only [encL, List.append_assoc, List.length_cons, plist, h1, Option.bind_some, h2, Option.map_some]
theorem pval_encF : ∀ (l : List (List UInt8 × V)) (m : Nat) (r : List UInt8), deepF m l = false → allBareF l → okF l → wtF l ≤ 2 ^ 40 → plist (pfld (pval (m + 1))) l.length (encF l ++ r) = some (l, r)
  | [], m, r, _, _, _, _ => by simp [plist, encF]
  | (n, v) :: l, m, r, hd, ⟨hb, hbl⟩, ⟨o1, o2⟩, hw => by
    simp only [wtF] at hw
    simp only [deepF, Bool.or_eq_false_iff] at hd
    have hn := tx_len n
    have h1 := pval_enc v m (encF l ++ r) hd.1 hb o1 (by omega)
    have h2 := pval_encF l m r hd.2 hbl o2 (by omega)
    have h3 := ptxt_txt (t := n) (by omega) (enc v ++ (encF l ++ r))
    simp only [encF, List.append_assoc, List.length_cons, plist, pfld, h3, Option.bind_some, h1, Option.map_some, h2]
end

theorem dDec_inv {b : List UInt8} {v : V} (h : dDec b = some v) : b = enc v ∧ docE v = 0 := by
  unfold dDec at h
  split at h
  · cases h
  rename_i hl
  split at h
  · rename_i v' hp
    split at h
    · rename_i hk
      cases h
      have := pval_inv _ _ _ _ hp
      rw [List.append_nil] at this
      refine ⟨this, ?_⟩
      unfold docE
      rw [if_neg (by omega), if_neg (by rw [← this]; exact hl)]
    · cases h
  · cases h

theorem dDec_enc {v : V} (h : docE v = 0) (ho : okV v) (hw : wt v ≤ 2 ^ 40) : dDec (enc v) = some v := by
  unfold docE at h
  split at h
  · rename_i hk; exact absurd h hk
  rename_i hk
  have hk : chk v = 0 := by omega
  split at h
  · omega
  rename_i hl
  obtain ⟨h1, h2⟩ := chk_zero hk
  have := pval_enc v 8 [] h1 h2 ho hw
  rw [List.append_nil] at this
  unfold dDec
  rw [if_neg hl, this]
  simp [hk]

theorem wide_zero {v : V} (h : (wideB v).length ≤ 8192) : docE v = 0 ∧ wideB v = enc v := by
  unfold wideB at h ⊢
  split at h
  · rename_i hd
    exact ⟨hd, by rw [if_pos hd]⟩
  · simp at h

/-! ### Events -/
theorem eDec_inv {b : List UInt8} {e : Ev} (h : eDec b = some e) : evE e = 0 ∧ outB e = b := by
  unfold eDec at h
  split at h
  · cases h
  rename_i hl
  cases hb : b with
  | nil => rw [hb] at h; cases h
  | cons kc r0 =>
    rw [hb] at h
    simp only [u8P, Option.bind_some] at h
    cases h1 : ptxt r0 with
    | none => rw [h1] at h; cases h
    | some y =>
      obtain ⟨coll, r1⟩ := y
      rw [h1] at h
      simp only [Option.bind_some] at h
      cases h2 : ptxt r1 with
      | none => rw [h2] at h; cases h
      | some z =>
        obtain ⟨ktl, r2⟩ := z
        rw [h2] at h
        simp only [Option.bind_some] at h
        cases h3 : dDec ktl with
        | none => rw [h3] at h; cases h
        | some key =>
          rw [h3] at h
          simp only [Option.bind_some] at h
          obtain ⟨k1, k2⟩ := dDec_inv h3
          have ew : wideB key = ktl := by unfold wideB; rw [if_pos k2, k1]
          have e1 := ptxt_inv h1
          have e2 := ptxt_inv h2
          have fin : ∀ e', finE e' = some e → e' = e ∧ mayP e := fun e' he => by
            unfold finE at he
            split at he
            · cases he; exact ⟨rfl, by assumption⟩
            · cases he
          have done : mayP e → outB e = b → evE e = 0 := fun hm ho => by
            unfold evE
            rw [if_pos hm, ho, if_neg hl]
          split at h
          · rename_i hk
            subst hk
            cases h4 : dDec r2 with
            | none => rw [h4] at h; cases h
            | some doc =>
              rw [h4] at h
              simp only [Option.bind_some] at h
              obtain ⟨rfl, hm⟩ := fin _ h
              obtain ⟨d1, d2⟩ := dDec_inv h4
              have ed : wideB doc = r2 := by unfold wideB; rw [if_pos d2, d1]
              have ho : outB ⟨1, coll, key, doc⟩ = b := by
                unfold outB
                simp only [if_true]
                rw [ew, ed, hb, e1, e2]
                simp
              exact ⟨done hm ho, by rw [ho, hb]⟩
          · rename_i hk
            split at h
            · rename_i hr
              subst hr
              obtain ⟨rfl, hm⟩ := fin _ h
              have hk2 : ¬ kc.toNat = 1 := fun e => hk (UInt8.toNat_inj.1 e)
              have ho : outB ⟨kc.toNat, coll, key, zeroV⟩ = b := by
                unfold outB
                simp only [if_neg hk2]
                rw [ew, hb, e1, e2]
                simp
              exact ⟨done hm ho, by rw [ho, hb]⟩
            · cases h

theorem eDec_out {e : Ev} (h : evE e = 0) (ok : okV e.key) (od : okV e.doc) (wk : wt e.key ≤ 2 ^ 40) (wd : wt e.doc ≤ 2 ^ 40) (hc : e.coll.length < 2 ^ 63) : eDec (outB e) = some e := by
  unfold evE at h
  split at h
  · rename_i hm
    split at h
    · omega
    rename_i hl
    obtain ⟨k, coll, key, doc⟩ := e
    simp only at ok od wk wd hc
    have hlen : (wideB key).length ≤ 8192 ∧ (k = 1 → (wideB doc).length ≤ 8192) := by
      unfold outB at hl
      simp only [List.length_append] at hl
      refine ⟨by omega, fun hk => ?_⟩
      rw [if_pos hk] at hl
      omega
    obtain ⟨k1, k2⟩ := wide_zero hlen.1
    have dk := dDec_enc k1 ok wk
    rw [← k2] at dk
    have hk12 : (k = 2 ∧ doc = zeroV) ∨ k = 1 := hm.2.2.2.imp (fun m => m) (fun m => m.1)
    rcases hk12 with ⟨rfl, rfl⟩ | rfl
    · have e1 : outB ⟨2, coll, key, zeroV⟩ = 2 :: (vint coll.length ++ (coll ++ (vint (wideB key).length ++ (wideB key ++ [])))) := by
        unfold outB; simp
      unfold eDec
      rw [if_neg hl, e1]
      simp only [u8P, Option.bind_some]
      rw [ptxt_txt (by omega)]
      simp only [Option.bind_some]
      rw [ptxt_txt (by omega)]
      simp only [Option.bind_some]
      rw [dk]
      simp only [Option.bind_some]
      rw [if_neg (by decide)]
      simp only [if_true]
      unfold finE
      exact if_pos hm
    · obtain ⟨d1, d2⟩ := wide_zero (hlen.2 rfl)
      have dd := dDec_enc d1 od wd
      rw [← d2] at dd
      have e1 : outB ⟨1, coll, key, doc⟩ = 1 :: (vint coll.length ++ (coll ++ (vint (wideB key).length ++ (wideB key ++ wideB doc)))) := by
        unfold outB; simp
      unfold eDec
      rw [if_neg hl, e1]
      simp only [u8P, Option.bind_some]
      rw [ptxt_txt (by omega)]
      simp only [Option.bind_some]
      rw [ptxt_txt (by omega)]
      simp only [Option.bind_some]
      rw [dk]
      simp only [Option.bind_some, if_true]
      rw [dd]
      simp only [Option.bind_some]
      unfold finE
      exact if_pos hm
  · omega

theorem eDec_wt {b : List UInt8} {e : Ev} (h : eDec b = some e) : wt e.key ≤ 8192 ∧ wt e.doc ≤ 8192 := by
  have wz : wt zeroV ≤ 8192 := by simp [zeroV, wt, wtL, wtF]
  have fin : ∀ e', finE e' = some e → e' = e := fun e' he => by
    unfold finE at he
    split at he
    · cases he; rfl
    · cases he
  unfold eDec at h
  split at h
  · cases h
  cases hb : u8P (some b) with
  | none => rw [hb] at h; cases h
  | some x =>
    rw [hb] at h
    simp only [Option.bind_some] at h
    cases h1 : ptxt x.2 with
    | none => rw [h1] at h; cases h
    | some y =>
      rw [h1] at h
      simp only [Option.bind_some] at h
      cases h2 : ptxt y.2 with
      | none => rw [h2] at h; cases h
      | some z =>
        rw [h2] at h
        simp only [Option.bind_some] at h
        cases h3 : dDec z.1 with
        | none => rw [h3] at h; cases h
        | some key =>
          rw [h3] at h
          simp only [Option.bind_some] at h
          have wk := dDec_wt h3
          split at h
          · cases h4 : dDec z.2 with
            | none => rw [h4] at h; cases h
            | some doc =>
              rw [h4] at h
              simp only [Option.bind_some] at h
              have wd := dDec_wt h4
              have := fin _ h
              subst this
              exact ⟨wk, wd⟩
          · split at h
            · have := fin _ h
              subst this
              exact ⟨wk, wz⟩
            · cases h

/-! ### The event that is there -/
def oneV : V := .mk 3 false 1 [] [] [] []
def sampleE : Ev := ⟨1, [97], oneV, .mk 7 false 0 [] [] [] [(idT, oneV)]⟩

theorem sample_may : mayP sampleE := by
  have h1 : chk oneV = 0 := by kernel_rfl
  have h2 : chk sampleE.doc = 0 := by kernel_rfl
  have h3 : (kenc oneV).length = 9 := by kernel_rfl
  refine ⟨?_, ?_, by kernel_rfl, .inr ⟨rfl, by simp [getV, sampleE], h2⟩⟩
  · unfold oneE
    show (if chk oneV ≠ 0 then 40 else if keyedB oneV = false then 41 else if 160 < (kenc oneV).length then 42 else 0) = 0
    rw [h1, h3]
    decide
  · show (kenc oneV).length ≤ 60
    rw [h3]; decide

theorem sample_out : outB sampleE = [1, 1, 97, 2, 4, 2, 8, 1, 3, 95, 105, 100, 4, 2] := by
  have h1 : docE oneV = 0 := by kernel_rfl
  have h2 : docE sampleE.doc = 0 := by kernel_rfl
  have e1 : wideB oneV = enc oneV := by unfold wideB; rw [if_pos h1]
  have e2 : wideB sampleE.doc = enc sampleE.doc := by unfold wideB; rw [if_pos h2]
  have v1 : vint 1 = [1] := by rw [vint_eq]; rfl
  have v2 : vint 2 = [2] := by rw [vint_eq]; rfl
  have v3 : vint 3 = [3] := by rw [vint_eq]; rfl
  have z1 : zz 1 = 2 := by decide
  have e3 : enc oneV = [4, 2] := by simp [enc, oneV, z1, v2]
  have e4 : enc sampleE.doc = [8, 1, 3, 95, 105, 100, 4, 2] := by
    simp only [enc, sampleE, encF, idT]
    simp [v1, v3, e3]
  unfold outB
  show [UInt8.ofNat 1] ++ (vint 1 ++ [97]) ++ (vint (wideB oneV).length ++ wideB oneV) ++ (if (1 : Nat) = 1 then wideB sampleE.doc else []) = _
  rw [e1, e2, e3, e4]
  simp [v1, v2]

theorem sample_ev : evE sampleE = 0 := by
  unfold evE
  rw [if_pos sample_may, sample_out]
  decide

end Go.VK
