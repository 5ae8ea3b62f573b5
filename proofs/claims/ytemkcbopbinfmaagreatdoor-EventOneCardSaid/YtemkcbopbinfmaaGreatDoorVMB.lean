/- Stores, and bytes that are appended. -/
import Derived.Test.YtemkcbopbinfmaaGreatDoorVRV
set_option linter.all false
namespace Go.VK
open Go

theorem add_off (a : Addr) (i : Nat) : (a.add i).off = a.off + i := by
  unfold Addr.add; split
  · rename_i h; subst h; rfl
  · rfl

theorem add_add (a : Addr) (i j : Nat) : (a.add i).add j = a.add (i + j) := by
  unfold Addr.add
  by_cases hi : i = 0
  · subst hi; simp
  · by_cases hj : j = 0
    · subst hj; simp [hi]
    · have : i + j ≠ 0 := by omega
      simp [hi, hj, Nat.add_assoc]

theorem cell_put_same {h : Heap} {a : Addr} {v : Value} (hc : (cell h a).isSome = true) : cell (put h a v) a = some v := by
  obtain ⟨u, hu⟩ := Option.isSome_iff_exists.1 hc
  unfold cell at hu ⊢
  unfold put
  rw [Array.getElem?_modify]
  simp only [if_true]
  cases ho : h[a.block]? with
  | none => rw [ho] at hu; cases hu
  | some o =>
    rw [ho] at hu
    cases o with
    | cells c t f =>
      simp only at hu
      split at hu
      · cases hu
      · rename_i hs
        simp only [Option.map_some, hs, Bool.false_eq_true, if_false]
        have hlt : a.off < c.size := by
          rcases Nat.lt_or_ge a.off c.size with h1 | h1
          · exact h1
          · rw [Array.getElem?_eq_none h1] at hu; cases hu
        simp [hlt]
    | _ => cases hu

theorem cell_put_ne {h : Heap} {a b : Addr} {v : Value} (hne : b.block ≠ a.block ∨ b.off ≠ a.off) : cell (put h a v) b = cell h b := by
  by_cases hb : b.block = a.block
  · have ho := hne.resolve_left (fun e => e hb)
    unfold cell put
    rw [Array.getElem?_modify, hb]
    simp only [if_true]
    cases h[a.block]? with
    | none => rfl
    | some o =>
      cases o with
      | cells c t f =>
        simp only [Option.map_some]
        split
        · rfl
        · split
          · rfl
          · rw [Array.getElem?_setIfInBounds_ne (by omega)]
      | _ => rfl
  · unfold cell
    rw [put_ne (fun e => hb e.symm)]

theorem frz_put {h : Heap} {a b : Addr} {v : Value} : frz (put h a v) b = frz h b := by
  unfold frz put
  rw [Array.getElem?_modify]
  by_cases hb : a.block = b.block
  · rw [if_pos hb]
    cases h[b.block]? with
    | none => rfl
    | some o => cases o <;> rfl
  · rw [if_neg hb]

theorem STN_r {p : Addr} {bs : List Nat} : ∀ {vs : List Value} {i : Nat} {h : Heap} {K : Heap → Prop}, (∀ j, j < vs.length → (cell h (p.add (i + j))).isSome = true ∧ frz h (p.add (i + j)) = false) → (∀ v ∈ vs, oneC v = true) → (∀ b ∈ bs, p.block ≠ b) →
    (∀ h1, h1.size = h.size → (∀ b, b ≠ p.block → h1[b]? = h[b]?) → (∀ a, frz h1 a = frz h a) → (∀ j, j < vs.length → cell h1 (p.add (i + j)) = vs[j]?) →
      (∀ a, (a.off < p.off + i ∨ p.off + i + vs.length ≤ a.off) → cell h1 a = cell h a) → (∀ a, (cell h a).isSome = true → (cell h1 a).isSome = true) → K h1) → STN p vs i h bs K
  | [], i, h, K, _, _, _, k => k h rfl (fun _ _ => rfl) (fun _ => rfl) (fun _ hj => absurd hj (by simp)) (fun _ _ => rfl) (fun _ h => h)
  | v :: vs, i, h, K, hc, hv, hb, k => by
    have h0 := hc 0 (by simp)
    rw [Nat.add_zero] at h0
    have keepS : ∀ a, (cell h a).isSome = true → (cell (put h (p.add i) v) a).isSome = true := fun a ha => by
      by_cases e : a.block = (p.add i).block ∧ a.off = (p.add i).off
      · have e2 : a = p.add i ∨ a ≠ p.add i := by by_cases x : a = p.add i <;> simp [x]
        rcases e2 with e2 | e2
        · subst e2; rw [cell_put_same ha]; rfl
        · -- they differ in their spots alone: then one of them is none
          obtain ⟨b1, o1, s1⟩ := a
          generalize hq : p.add i = q at *
          obtain ⟨b2, o2, s2⟩ := q
          simp only at e
          obtain ⟨rfl, rfl⟩ := e
          have n1 : s1 = none := by
            unfold cell at ha
            split at ha
            · split at ha
              · cases ha
              · rename_i hn; simpa using hn
            · cases ha
          have n2 : s2 = none := by
            have := h0.1
            unfold cell at this
            split at this
            · split at this
              · cases this
              · rename_i hn; simpa using hn
            · cases this
          subst n1; subst n2
          exact absurd rfl e2
      · rw [cell_put_ne (by by_cases x : a.block = (p.add i).block; · exact .inr fun y => e ⟨x, y⟩
                            · exact .inl x)]; exact ha
    refine ⟨hv v (by simp), h0.1, h0.2, OFF_of (fun b hm => by rw [add_block]; exact hb b hm), STN_r (fun j hj => ?_) (fun u hu => hv u (by simp [hu])) hb fun h1 q1 q2 q3 q4 q5 q6 => ?_⟩
    · have := hc (j + 1) (by simp; omega)
      have e : i + 1 + j = i + (j + 1) := by omega
      rw [e]
      exact ⟨keepS _ this.1, by rw [frz_put]; exact this.2⟩
    · refine k h1 (by rw [q1, put_size]) (fun b hbn => (q2 b hbn).trans (put_ne (by rw [add_block]; exact fun e => hbn e.symm))) (fun a => by rw [q3, frz_put]) (fun j hj => ?_) (fun a ha => ?_) (fun a ha => q6 a (keepS a ha))
      · cases j with
        | zero =>
          rw [Nat.add_zero, q5 _ (by rw [add_off]; omega), cell_put_same h0.1]; rfl
        | succ j =>
          have := q4 j (by simpa using hj)
          have e : i + 1 + j = i + (j + 1) := by omega
          rw [e] at this
          rw [this]; rfl
      · simp only [List.length_cons] at ha
        rw [q5 a (by omega), cell_put_ne (by rw [add_off]; exact .inr (by omega))]

/-- Bytes that may be appended to: all of it in blocks from n on. -/
structure BUF (n : Nat) (h : Heap) (B : List UInt8) (s : Sl) : Prop where
  len : s.len = B.length
  cap : s.len ≤ s.cap
  small : s.cap < 2 ^ 63
  none_ : s.a = none → s.cap = 0
  blk : ∀ a, s.a = some a → n ≤ a.block ∧ a.block < h.size
  cells : ∀ a, s.a = some a → ∀ i, i < B.length → cell h (a.add i) = (B[i]?).map fun b => Value.int .u8 b.toNat
  room : ∀ a, s.a = some a → ∀ i, i < s.cap → (cell h (a.add i)).isSome = true ∧ frz h (a.add i) = false

theorem BUF.rb {n : Nat} {h : Heap} {B : List UInt8} {s : Sl} (r : BUF n h B s) : RB h.size h B s :=
  ⟨r.len, r.cap, r.small, fun hB => by
    cases ha : s.a with
    | none =>
      have := r.none_ ha
      have := r.len
      have := r.cap
      cases B with
      | nil => exact absurd rfl hB
      | cons b B => simp at this; simp_all
    | some a => exact ⟨a, rfl, (r.blk a ha).2, r.cells a ha⟩, fun a ha _ => (r.blk a ha).2⟩

/-- What stands in other blocks is of no matter. -/
theorem BUF.keep {n : Nat} {h h' : Heap} {B : List UInt8} {s : Sl} (r : BUF n h B s) (hs : h.size ≤ h'.size) (hk : ∀ a, s.a = some a → h'[a.block]? = h[a.block]?) : BUF n h' B s :=
  have ec : ∀ a, s.a = some a → ∀ i, cell h' (a.add i) = cell h (a.add i) := fun a ha i => by unfold cell; rw [add_block, hk a ha]
  have ef : ∀ a, s.a = some a → ∀ i, frz h' (a.add i) = frz h (a.add i) := fun a ha i => by unfold frz; rw [add_block, hk a ha]
  ⟨r.len, r.cap, r.small, r.none_, fun a ha => ⟨(r.blk a ha).1, Nat.lt_of_lt_of_le (r.blk a ha).2 hs⟩, fun a ha i hi => by rw [ec a ha]; exact r.cells a ha i hi, fun a ha i hi => by rw [ec a ha, ef a ha]; exact r.room a ha i hi⟩

def u8s (C : List UInt8) : List Value := C.map fun b => Value.int .u8 b.toNat

theorem growBy_up (need M : Nat) (h : ∀ c, c < need → c + (c + 768) / 4 ≤ M) : ∀ (r c : Nat), c ≤ M → Builtin.growBy need r c ≤ M
  | 0, c, hc => hc
  | r + 1, c, hc => by
    simp only [Builtin.growBy]
    split
    · exact hc
    · exact growBy_up need M h r _ (h c (by omega))

theorem nextslicecap_up {need cap : Nat} (h : cap < need) (hn : need ≤ 2 ^ 46) : Builtin.nextslicecap need cap ≤ 2 ^ 48 := by
  unfold Builtin.nextslicecap
  split
  · omega
  · split
    · omega
    · exact growBy_up need (2 ^ 48) (fun c hc => by omega) 4 cap (by omega)

theorem cell_pushed {h : Heap} {cs : List Value} {t i : Nat} {f : Nat × Nat} : cell (h.push (.cells cs.toArray t f)) ((⟨h.size, 0, none⟩ : Addr).add i) = cs[i]? := by
  unfold cell
  rw [add_block, add_off]
  simp only [Array.getElem?_push_size]
  have : ((⟨h.size, 0, none⟩ : Addr).add i).spot.isSome = false := by unfold Addr.add; split <;> rfl
  rw [this]; simp

theorem frz_pushed {h : Heap} {cs : List Value} {t i : Nat} : frz (h.push (.cells cs.toArray t (0, 0))) ((⟨h.size, 0, none⟩ : Addr).add i) = false := by
  unfold frz
  rw [add_block]
  simp

theorem push_old {h : Heap} {o : Obj} {b : Nat} (hb : b < h.size) : (h.push o)[b]? = h[b]? := by
  rw [Array.getElem?_push, if_neg (by omega)]

/-- A fresh buffer. -/
theorem BUF.fresh {n : Nat} {h : Heap} {B : List UInt8} {t len c : Nat} (hn : n ≤ h.size) (hl : len = B.length) (hc : len ≤ c) (hs : c < 2 ^ 63) :
    BUF n (h.push (.cells (u8s B ++ List.replicate (c - len) (Value.int .u8 0)).toArray t (0, 0))) B ⟨some ⟨h.size, 0, none⟩, len, c⟩ := by
  refine ⟨hl, hc, hs, nofun, fun a ha => ?_, fun a ha i hi => ?_, fun a ha i hi => ?_⟩
  · cases ha; simp; omega
  · cases ha
    rw [cell_pushed, List.getElem?_append_left (by simp [u8s]; omega)]
    simp [u8s]
  · cases ha
    rw [cell_pushed]
    refine ⟨?_, frz_pushed⟩
    simp only at hi
    rw [List.getElem?_eq_getElem (by simp [u8s]; omega)]
    rfl

theorem RB.rdc {n : Nat} {h : Heap} {C : List UInt8} {x : Sl} (r : RB n h C x) : RDC h x.a (u8s C) := by
  unfold RDC
  split
  · rename_i ha
    cases C with
    | nil => rfl
    | cons b C => obtain ⟨a, h1, _⟩ := r.at_ (by simp); rw [ha] at h1; cases h1
  · rename_i a ha
    intro i hi
    have hi : i < C.length := by simpa [u8s] using hi
    obtain ⟨a', h1, _, h3⟩ := r.at_ (by intro e; subst e; simp at hi)
    obtain rfl := Option.some.inj (ha.symm.trans h1)
    rw [h3 i hi]; simp [u8s]

theorem APPEND_core {n : Nat} {h : Heap} {B C : List UInt8} {s : Sl} {bs : List Nat} {t : Nat} {K : Sl → Heap → Prop} (r : BUF n h B s) (hbs : ∀ b ∈ bs, ∀ a, s.a = some a → a.block ≠ b) (hn : n ≤ h.size) (hsz : B.length + C.length ≤ 2 ^ 46)
    (k : ∀ s' h1, h.size ≤ h1.size → (∀ b, b < h.size → (∀ a, s.a = some a → b ≠ a.block) → h1[b]? = h[b]?) → BUF n h1 (B ++ C) s' → (∀ a, s'.a = some a → s.a = some a ∨ a.block = h.size) → K s' h1) :
    (s.len + C.length ≤ s.cap ∧ match s.a with
        | some a0 => STN (a0.add s.len) (u8s C) 0 h bs fun h' => K ⟨s.a, s.len + C.length, s.cap⟩ h'
        | none => K ⟨s.a, s.len + C.length, s.cap⟩ h) ∨
     (s.cap < s.len + C.length ∧ Builtin.nextslicecap (s.len + C.length) s.cap ≤ 2 ^ 48 ∧
      ∃ old : List Value, (s.a.isSome = true → old.length = s.len) ∧ RDC h s.a old ∧
        ∀ c, s.len + C.length ≤ c → c < 2 ^ 63 → K ⟨some ⟨h.size, 0, none⟩, s.len + C.length, c⟩ (h.push (.cells (old ++ u8s C ++ List.replicate (c - (s.len + C.length)) (Value.int .u8 0)).toArray t (0, 0)))) := by
  have e1 := r.len
  rcases Nat.lt_or_ge s.cap (s.len + C.length) with hlt | hge
  · refine .inr ⟨hlt, nextslicecap_up hlt (by omega), u8s B, fun _ => by simp [u8s, e1], ?_, fun c hc hc2 => ?_⟩
    · unfold RDC
      split
      · rename_i ha
        have := r.none_ ha
        have := r.cap
        have : B = [] := List.eq_nil_of_length_eq_zero (by omega)
        subst this; rfl
      · rename_i a ha
        intro i hi
        have hi : i < B.length := by simpa [u8s] using hi
        rw [r.cells a ha i hi]; simp [u8s]
    · have e : u8s B ++ u8s C = u8s (B ++ C) := by simp [u8s]
      rw [e]
      exact k _ _ (by simp) (fun b hb _ => push_old hb) (BUF.fresh hn (by simp [e1]) hc hc2) (fun a ha => by cases ha; exact .inr rfl)
  · refine .inl ⟨hge, ?_⟩
    split
    · rename_i a0 ha
      have rm := r.room a0 ha
      refine STN_r (fun j hj => ?_) (fun v hv => ?_) (fun b hb => by rw [add_block]; exact hbs b hb a0 ha) fun h1 q1 q2 q3 q4 q5 q6 => ?_
      · have hj : j < C.length := by simpa [u8s] using hj
        rw [add_add]; exact rm _ (by omega)
      · obtain ⟨x, _, rfl⟩ := List.mem_map.1 hv; rfl
      · refine k ⟨s.a, s.len + C.length, s.cap⟩ h1 (by omega) (fun b _ hb => q2 b (by rw [add_block]; exact hb a0 ha)) ⟨by simp [e1], hge, r.small, r.none_, fun a ha' => ?_, fun a ha' i hi => ?_, fun a ha' i hi => ?_⟩ (fun a ha' => .inl ha')
        · rw [q1]; exact r.blk a ha'
        · obtain rfl := Option.some.inj (ha'.symm.trans ha)
          rcases Nat.lt_or_ge i B.length with h2 | h2
          · rw [q5 _ (by rw [add_off, add_off]; omega), r.cells _ ha' i h2, List.getElem?_append_left h2]
          · have h3 : i - B.length < C.length := by simp at hi; omega
            have := q4 (i - B.length) (by simpa [u8s] using h3)
            rw [add_add] at this
            have e : s.len + (0 + (i - B.length)) = i := by omega
            rw [e] at this
            rw [this, List.getElem?_append_right h2]; simp [u8s]
        · rw [q3]
          exact ⟨q6 _ (r.room a ha' i hi).1, (r.room a ha' i hi).2⟩
    · rename_i ha
      have h0 := r.none_ ha
      have h1 : C = [] := List.eq_nil_of_length_eq_zero (by omega)
      have h2 : B = [] := List.eq_nil_of_length_eq_zero (by have := r.cap; omega)
      subst h1; subst h2
      refine k _ h (Nat.le_refl _) (fun _ _ _ => rfl) ?_ (fun a ha' => .inl ha')
      have : (⟨s.a, s.len + ([] : List UInt8).length, s.cap⟩ : Sl) = s := by cases s; simp
      rw [this]; exact r

theorem APPEND_r {n : Nat} {h : Heap} {B C : List UInt8} {s : Sl} {xa : Option Addr} {xlen : Nat} {bs : List Nat} {t : Nat} {K : Sl → Heap → Prop} (r : BUF n h B s) (hx : RDC h xa (u8s C)) (hxl : xlen = C.length) (hbs : ∀ b ∈ bs, ∀ a, s.a = some a → a.block ≠ b) (hn : n ≤ h.size) (hsz : B.length + C.length ≤ 2 ^ 46)
    (k : ∀ s' h1, h.size ≤ h1.size → (∀ b, b < h.size → (∀ a, s.a = some a → b ≠ a.block) → h1[b]? = h[b]?) → BUF n h1 (B ++ C) s' → (∀ a, s'.a = some a → s.a = some a ∨ a.block = h.size) → K s' h1) :
    APPEND 1 1 t [.int .u8 0] s.a s.len s.cap xa xlen h bs K := by
  refine ⟨u8s C, fun _ => by simp [u8s, hxl], hx, ?_⟩
  rw [hxl]
  rcases APPEND_core (t := t) r hbs hn hsz k with ⟨h1, h2⟩ | ⟨h1, h2, old, h3, h4, h5⟩
  · refine .inl ⟨h1, ?_⟩
    simp only [Nat.mul_one]
    exact h2
  · refine .inr ⟨h1, by omega, by omega, old, by simpa using h3, h4, fun c hc hc2 => ?_⟩
    rw [zeroes_u8]; exact h5 c hc hc2

theorem bytesV_eq {s : ByteArray} {t : List UInt8} (h : s.data.toList = t) : bytesV s = u8s t := by subst h; rfl

theorem APPSTR_r {n : Nat} {h : Heap} {B C : List UInt8} {s : Sl} {x : ByteArray} {bs : List Nat} {t : Nat} {K : Sl → Heap → Prop} (r : BUF n h B s) (hx : x.data.toList = C) (hbs : ∀ b ∈ bs, ∀ a, s.a = some a → a.block ≠ b) (hn : n ≤ h.size) (hsz : B.length + C.length ≤ 2 ^ 46)
    (k : ∀ s' h1, h.size ≤ h1.size → (∀ b, b < h.size → (∀ a, s.a = some a → b ≠ a.block) → h1[b]? = h[b]?) → BUF n h1 (B ++ C) s' → (∀ a, s'.a = some a → s.a = some a ∨ a.block = h.size) → K s' h1) :
    APPSTR t s.a s.len s.cap x h bs K := by
  have e : x.size = C.length := by rw [← hx, Array.length_toList]; rfl
  unfold APPSTR
  rw [e, bytesV_eq hx]
  exact APPEND_core (t := t) r hbs hn hsz k

/-- Stores into a variable of the call's own, what it holds being followed. -/
theorem PUTN_k {n : Nat} {h0 : Heap} {b t : Nat} : ∀ {vs : List Value} {i : Nat} {cs : List Value} {h : Heap} {K : Heap → Prop}, Pre n h0 h → n ≤ b → h[b]? = some (.cells cs.toArray t (0, 0)) → i + vs.length ≤ cs.length → (∀ v ∈ vs, oneC v = true) →
    (∀ h1, h1.size = h.size → Pre n h0 h1 → (∀ c, c ≠ b → h1[c]? = h[c]?) → h1[b]? = some (.cells (splice cs i vs).toArray t (0, 0)) → K h1) → PUTN b vs i h K
  | [], i, cs, h, K, g, hn, hb, hl, hv, k => k h rfl g (fun _ _ => rfl) (by rw [splice_nil]; exact hb)
  | v :: vs, i, cs, h, K, g, hn, hb, hl, hv, k => by
    have hb1 : (put h ⟨b, i, none⟩ v)[b]? = some (.cells (cs.set i v).toArray t (0, 0)) := by
      have := put_known hb i v
      simpa using this
    refine ⟨hv v (by simp), PUTN_k (cs := cs.set i v) (g.put hn v) hn hb1 (by simp at hl ⊢; omega) (fun u hu => hv u (by simp [hu])) fun h1 q1 q2 q3 q4 => k h1 (by rw [q1, put_size]) q2 (fun c hc => (q3 c hc).trans (put_ne fun e => hc e.symm)) ?_⟩
    rw [q4, splice_cons (by simpa using hl)]

/-- A whole variable is read, in memory. -/
theorem LDN_known {h : Heap} {b t : Nat} {cs : List Value} (hb : h[b]? = some (.cells cs.toArray t (0, 0))) : CELLS h ⟨b, 0, none⟩ cs := fun i hi => by
  unfold cell
  rw [add_block, add_off, hb]
  have : ((⟨b, 0, none⟩ : Addr).add i).spot.isSome = false := by unfold Addr.add; split <;> rfl
  rw [this]; simp

end Go.VK
