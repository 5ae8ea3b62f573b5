/- Arguments that read as data are trees in memory. -/
import Derived.Test.YtemkcbopbinfmaaGreatDoorVER
import Derived.Deep.Slices
import Derived.ReadAgain
set_option linter.all false
set_option linter.unusedVariables false
set_option linter.unusedSimpArgs false
set_option maxRecDepth 100000
namespace Go.VK
open Go Go.Proofs

theorem c5 : Tryz.prog.cellsOf 5 = 1 := by kernel_rfl
theorem c27 : Tryz.prog.cellsOf 27 = 7 := by kernel_rfl
theorem c132 : Tryz.prog.cellsOf 132 = 8 := by kernel_rfl
theorem c22 : Tryz.prog.cellsOf 22 = 1 := by kernel_rfl
theorem c4 : Tryz.prog.cellsOf 4 = 1 := by kernel_rfl
theorem c2 : Tryz.prog.cellsOf 2 = 1 := by kernel_rfl
theorem c9 : Tryz.prog.cellsOf 9 = 1 := by kernel_rfl
theorem c23 : Tryz.prog.cellsOf 23 = 1 := by kernel_rfl
theorem c24 : Tryz.prog.cellsOf 24 = 1 := by kernel_rfl
theorem c25 : Tryz.prog.cellsOf 25 = 1 := by kernel_rfl
theorem c29 : Tryz.prog.cellsOf 29 = 16 := by kernel_rfl

section
variable {H : Type} {enc : TypeId × Value → H} {w : World}

theorem wcell {a : Addr} {v : Value} (h : w.cell? a = some v) : cell w.heap a = some v := by rw [← cell_world]; exact h
theorem wlt {a : Addr} {v : Value} (h : w.cell? a = some v) : a.block < w.heap.size := by
  unfold World.cell? at h
  split at h
  · rename_i e; exact (Array.getElem?_eq_some_iff.1 e).1
  · cases h

/-- Bytes. -/
theorem open23 {fuel : Nat} {cs : List Value} {x : DataW H × List MemPlace} (h : DataW.trod enc Tryz.prog w 0 (fun _ => true) true fuel 23 cs = some x) : ∃ l s, cs = [Sl.v s] ∧ RB w.heap.size w.heap l s := by
  rcases Deep.open_slice1 Tryz.underlying23 c5 h with ⟨rfl, _⟩ | ⟨a, len, cap, m, n, V, D, Pl, rfl, _, hl, hm, hmm, _, hV⟩
  · exact ⟨[], ⟨none, 0, 0⟩, rfl, rfl, Nat.le_refl _, by decide, fun e => absurd rfl e, nofun⟩
  rw [show m = cap from hmm] at hV
  have hb : ∀ i, i < cap → ∃ b : UInt8, w.cell? (a.add i) = some (.int .u8 b.toNat) := fun i hi => by
    obtain ⟨h1, h2⟩ := hV i hi
    obtain ⟨z, e, _, hw⟩ := DataW.trod_int Tryz.underlying5 h2
    simp only [List.cons.injEq, and_true] at e
    have hz : 0 ≤ z ∧ z ≤ 255 := by
      simp only [Lit.wf, Bool.and_eq_true, decide_eq_true_eq] at hw
      exact ⟨Int.le_trans (by decide) hw.1, Int.le_trans hw.2 (by decide)⟩
    refine ⟨UInt8.ofNat z.toNat, ?_⟩
    rw [h1, e]
    have : ((UInt8.ofNat z.toNat).toNat : Int) = z := by
      rw [UInt8.toNat_ofNat']
      omega
    rw [this]
  obtain ⟨f, hf⟩ := Deep.choose_lt hb
  have hmx : maxLen < 2 ^ 63 := by decide
  refine ⟨(List.range len).map f, ⟨some a, len, cap⟩, rfl, by simp, hl, by show cap < _; omega, fun hne => ⟨a, rfl, ?_, fun i hi => ?_⟩, fun a' e hc => ?_⟩
  · have h0 : 0 < cap := by
      rcases Nat.eq_zero_or_pos len with e | e
      · subst e; exact absurd rfl hne
      · omega
    have := wlt (hf 0 h0)
    rwa [add_block] at this
  · have hi : i < len := by simpa using hi
    rw [wcell (hf i (by omega))]
    simp [hi]
  · cases e
    have := wlt (hf 0 hc)
    rwa [add_block] at this

theorem lit_u8 {z : Int} (hw : (Lit.int .u8 z).wf = true) : 0 ≤ z ∧ z < 256 := by
  simp only [Lit.wf, Bool.and_eq_true, decide_eq_true_eq] at hw
  exact ⟨Int.le_trans (by decide) hw.1, Int.lt_of_le_of_lt hw.2 (by decide)⟩
theorem lit_i64 {z : Int} (hw : (Lit.int .i64 z).wf = true) : -9223372036854775808 ≤ z ∧ z < 9223372036854775808 := by
  simp only [Lit.wf, Bool.and_eq_true, decide_eq_true_eq] at hw
  exact ⟨Int.le_trans (by decide) hw.1, Int.lt_of_le_of_lt hw.2 (by decide)⟩

theorem openTX {t : TypeId} {fuel : Nat} {cs : List Value} {x : DataW H × List MemPlace} (ht : Tryz.prog.underlying t = some .string) (h : DataW.trod enc Tryz.prog w 0 (fun _ => true) true fuel t cs = some x) : ∃ l s, cs = [.string s] ∧ TX l s := by
  obtain ⟨s, rfl, _, hs⟩ := DataW.trod_string ht h
  have hmx : maxLen < 2 ^ 63 := by decide
  exact ⟨s.data.toList, s, rfl, rfl, by rw [Array.length_toList]; show s.size < _; omega⟩

theorem RL.of {n : Nat} {h : Heap} {a : Addr} (ha : 0 < n ∨ True) : ∀ (l : List V) (i : Nat), (∀ (j : Nat) (hj : j < l.length), ∃ c, a.block < n ∧ CELLS h (a.add ((i + j) * 7)) (Cv.cells c) ∧ RV n h l[j] c) → RL n h l (some a) i
  | [], _, _ => trivial
  | v :: r, i, k => ⟨by obtain ⟨c, h1, h2, h3⟩ := k 0 (by simp); exact ⟨a, c, rfl, h1, h2, h3⟩, RL.of ha r (i + 1) fun j hj => by
      obtain ⟨c, h1, h2, h3⟩ := k (j + 1) (by simpa using hj)
      exact ⟨c, h1, by rw [show i + 1 + j = i + (j + 1) by omega]; exact h2, h3⟩⟩
theorem RF.of {n : Nat} {h : Heap} {a : Addr} (ha : 0 < n ∨ True) : ∀ (l : List (List UInt8 × V)) (i : Nat), (∀ (j : Nat) (hj : j < l.length), ∃ s c, a.block < n ∧ cell h (a.add ((i + j) * 8)) = some (.string s) ∧ TX l[j].1 s ∧ CELLS h ((a.add ((i + j) * 8)).add 1) (Cv.cells c) ∧ RV n h l[j].2 c) → RF n h l (some a) i
  | [], _, _ => trivial
  | (nm, v) :: r, i, k => ⟨by obtain ⟨s, c, h1, h2, h3, h4, h5⟩ := k 0 (by simp); exact ⟨a, s, c, rfl, h1, h2, h3, h4, h5⟩, RF.of ha r (i + 1) fun j hj => by
      obtain ⟨s, c, h1, h2, h3, h4, h5⟩ := k (j + 1) (by simpa using hj)
      exact ⟨s, c, h1, by rw [show i + 1 + j = i + (j + 1) by omega]; exact h2, h3, by rw [show i + 1 + j = i + (j + 1) by omega]; exact h4, h5⟩⟩

theorem CELLS.of {base n : Nat} {a : Addr} {cs : List Value} (h : w.cells? base a n = some cs) : CELLS w.heap a cs := fun i hi => by
  obtain ⟨_, h2, h3⟩ := World.cells?_some h
  rw [← cell_world]; exact h3 i (by omega)

theorem part {P : Program} {base : Nat} {sp : Nat → Bool} {held : Bool} {fs : Array Field} {n : Nat} {cs : List Value} {xs : List (DataW H × List MemPlace)} (hxl : xs.length = fs.size)
    (hall : ∀ (i : Nat) (f : Field), fs[i]? = some f → DataW.trod enc P w base sp held n f.type (List.take (P.cellsOf f.type) (List.drop f.offset cs)) = xs[i]?)
    (i : Nat) {t o k : Nat} (hf : (fs[i]?).map (fun f => (f.type, f.offset)) = some (t, o)) (hk : P.cellsOf t = k) : ∃ y, DataW.trod enc P w base sp held n t (List.take k (List.drop o cs)) = some y := by
  obtain ⟨f, h1, h2⟩ := Option.map_eq_some_iff.1 hf
  obtain ⟨rfl, rfl⟩ := Prod.mk.inj h2
  subst hk
  have hi : i < fs.size := (Array.getElem?_eq_some_iff.1 h1).1
  have := hall i f h1
  rw [List.getElem?_eq_getElem (by omega)] at this
  exact ⟨_, this⟩

instance : Inhabited V := ⟨.mk 0 false 0 [] [] [] []⟩
instance : Inhabited Cv := ⟨⟨0, false, 0, ByteArray.empty, ⟨none, 0, 0⟩, ⟨none, 0, 0⟩, ⟨none, 0, 0⟩⟩⟩

/-- A value. -/
theorem open27 : ∀ (fuel : Nat) {cs : List Value} {x : DataW H × List MemPlace}, DataW.trod enc Tryz.prog w 0 (fun _ => true) true fuel 27 cs = some x → ∃ v c, cs = Cv.cells c ∧ RV w.heap.size w.heap v c := by
  intro fuel
  induction fuel using Nat.strongRecOn with
  | _ fuel ih =>
  intro cs x h
  obtain ⟨xs, n, rfl, _, hlen, hxl, hall⟩ := DataW.trod_struct Tryz.underlying27 h
  rw [c27] at hlen
  match cs, hlen with
  | [v0, v1, v2, v3, v4, v5, v6], _ =>
  obtain ⟨y0, h0⟩ : ∃ y, DataW.trod enc Tryz.prog w 0 (fun _ => true) true n 22 [v0] = some y := part hxl hall 0 rfl c22
  obtain ⟨y1, h1⟩ : ∃ y, DataW.trod enc Tryz.prog w 0 (fun _ => true) true n 4 [v1] = some y := part hxl hall 1 rfl c4
  obtain ⟨y2, h2⟩ : ∃ y, DataW.trod enc Tryz.prog w 0 (fun _ => true) true n 2 [v2] = some y := part hxl hall 2 rfl c2
  obtain ⟨y3, h3⟩ : ∃ y, DataW.trod enc Tryz.prog w 0 (fun _ => true) true n 9 [v3] = some y := part hxl hall 3 rfl c9
  obtain ⟨y4, h4⟩ : ∃ y, DataW.trod enc Tryz.prog w 0 (fun _ => true) true n 23 [v4] = some y := part hxl hall 4 rfl c23
  obtain ⟨y5, h5⟩ : ∃ y, DataW.trod enc Tryz.prog w 0 (fun _ => true) true n 24 [v5] = some y := part hxl hall 5 rfl c24
  obtain ⟨y6, h6⟩ : ∃ y, DataW.trod enc Tryz.prog w 0 (fun _ => true) true n 25 [v6] = some y := part hxl hall 6 rfl c25
  obtain ⟨k, e0, _, w0⟩ := DataW.trod_int Tryz.underlying22 h0
  obtain ⟨b, e1, _⟩ := DataW.trod_bool Tryz.underlying4 h1
  obtain ⟨i, e2, _, w2⟩ := DataW.trod_int Tryz.underlying2 h2
  obtain ⟨t, s, e3, ht⟩ := openTX Tryz.underlying9 h3
  obtain ⟨bs, sb, e4, hb⟩ := open23 h4
  simp only [List.cons.injEq, and_true] at e0 e1 e2 e3 e4
  subst e0 e1 e2 e3 e4
  have hk := lit_u8 w0
  have hi := lit_i64 w2
  have hmx : maxLen < 2 ^ 63 := by decide
  -- the list
  have L : ∃ l s, v5 = Sl.v s ∧ SH w.heap.size (List.length l) s ∧ RL w.heap.size w.heap l s.a 0 := by
    cases n with
    | zero => simp [DataW.trod] at h5
    | succ n =>
    rcases DataW.trod_slice Tryz.underlying24 h5 with ⟨e, _⟩ | ⟨a, len, cap, elems, rest, n', en, e, _, hb', hl, hm, hel, hx, hsp, _⟩
    · simp only [List.cons.injEq, and_true] at e
      exact ⟨[], ⟨none, 0, 0⟩, e, ⟨rfl, Nat.le_refl _, by decide, fun e => absurd rfl e, nofun⟩, trivial⟩
    · simp only [List.cons.injEq, and_true] at e
      obtain rfl : n = n' := by omega
      obtain ⟨hrl, hr⟩ := hsp rfl
      rw [c27] at hx
      have one : ∀ j, j < len → ∃ p : V × Cv, CELLS w.heap (a.add (j * 7)) p.2.cells ∧ RV w.heap.size w.heap p.1 p.2 := fun j hj => by
        have := hx j hj
        rw [List.getElem?_eq_getElem (by omega)] at this
        obtain ⟨cs', q1, q2⟩ := Option.bind_eq_some_iff.1 this
        obtain ⟨v, c, rfl, hv⟩ := ih n (by omega) q2
        exact ⟨(v, c), CELLS.of q1, hv⟩
      obtain ⟨f, hf⟩ := Deep.choose_lt one
      have blk : 0 < cap → a.block < w.heap.size := fun hc => by
        have : ∃ cs', w.cells? 0 (a.add 0) 7 = some cs' := by
          rcases Nat.eq_zero_or_pos len with e | e
          · subst e
            have := hr 0 (by omega)
            rw [List.getElem?_eq_getElem (by omega)] at this
            obtain ⟨cs', q1, _⟩ := Option.bind_eq_some_iff.1 this
            rw [c27] at q1
            exact ⟨cs', by simpa using q1⟩
          · have := hx 0 e
            rw [List.getElem?_eq_getElem (by omega)] at this
            obtain ⟨cs', q1, _⟩ := Option.bind_eq_some_iff.1 this
            exact ⟨cs', by simpa using q1⟩
        obtain ⟨cs', q1⟩ := this
        obtain ⟨_, q2, q3⟩ := World.cells?_some q1
        have := q3 0 (by decide)
        rw [List.getElem?_eq_getElem (by omega)] at this
        have := wlt this
        rwa [add_block, add_block] at this
      refine ⟨(List.range len).map fun j => (f j).1, ⟨some a, len, cap⟩, e, ⟨by simp, hl, by show cap < _; omega, fun _ => rfl, fun a' ea hc => by cases ea; exact blk hc⟩, RL.of (Or.inr trivial) _ _ fun j hj => ?_⟩
      have hj : j < len := by simpa using hj
      refine ⟨(f j).2, blk (by omega), ?_, ?_⟩
      · rw [Nat.zero_add]; exact (hf j hj).1
      · simpa using (hf j hj).2
  have F : ∃ l s, v6 = Sl.v s ∧ SH w.heap.size (List.length l) s ∧ RF w.heap.size w.heap l s.a 0 := by
    cases n with
    | zero => simp [DataW.trod] at h6
    | succ n =>
    rcases DataW.trod_slice Tryz.underlying25 h6 with ⟨e, _⟩ | ⟨a, len, cap, elems, rest, n', en, e, _, hb', hl, hm, hel, hx, hsp, _⟩
    · simp only [List.cons.injEq, and_true] at e
      exact ⟨[], ⟨none, 0, 0⟩, e, ⟨rfl, Nat.le_refl _, by decide, fun e => absurd rfl e, nofun⟩, trivial⟩
    · simp only [List.cons.injEq, and_true] at e
      obtain rfl : n = n' := by omega
      obtain ⟨hrl, hr⟩ := hsp rfl
      rw [c132] at hx
      have one : ∀ j, j < len → ∃ p : (List UInt8 × V) × (ByteArray × Cv), cell w.heap (a.add (j * 8)) = some (.string p.2.1) ∧ TX p.1.1 p.2.1 ∧ CELLS w.heap ((a.add (j * 8)).add 1) p.2.2.cells ∧ RV w.heap.size w.heap p.1.2 p.2.2 := fun j hj => by
        have := hx j hj
        rw [List.getElem?_eq_getElem (by omega)] at this
        obtain ⟨cs', q1, q2⟩ := Option.bind_eq_some_iff.1 this
        obtain ⟨ys, m, rfl, _, hlen', hyl, hall'⟩ := DataW.trod_struct Tryz.underlying132 q2
        rw [c132] at hlen'
        have qc := CELLS.of q1
        match cs', hlen' with
        | u0 :: us, hlen' =>
        have hus : us.length = 7 := by simpa using hlen'
        obtain ⟨y0, z0⟩ : ∃ y, DataW.trod enc Tryz.prog w 0 (fun _ => true) true m 9 [u0] = some y := part hyl hall' 0 rfl c9
        obtain ⟨y1, z1⟩ : ∃ y, DataW.trod enc Tryz.prog w 0 (fun _ => true) true m 27 (us.take 7) = some y := part hyl hall' 1 rfl c27
        rw [List.take_of_length_le (by omega)] at z1
        obtain ⟨nm, s', en, hnm⟩ := openTX Tryz.underlying9 z0
        simp only [List.cons.injEq, and_true] at en
        subst en
        obtain ⟨v, c, rfl, hv⟩ := ih m (by omega) z1
        refine ⟨((nm, v), (s', c)), ?_, hnm, fun i hi => ?_, hv⟩
        · have := qc 0 (by simp)
          rw [show (a.add (j * 8)).add 0 = a.add (j * 8) from Deep.add_add _ _ _] at this
          exact this
        · rw [Deep.add_add, Nat.add_comm 1 i]
          have := qc (i + 1) (by simp at hi ⊢; omega)
          rw [this]
          simp
      obtain ⟨f, hf⟩ := Deep.choose_lt (α := (List UInt8 × V) × (ByteArray × Cv)) (fun i hi => one i hi)
      have blk : 0 < cap → a.block < w.heap.size := fun hc => by
        have : ∃ cs', w.cells? 0 (a.add 0) 8 = some cs' := by
          rcases Nat.eq_zero_or_pos len with e | e
          · subst e
            have := hr 0 (by omega)
            rw [List.getElem?_eq_getElem (by omega)] at this
            obtain ⟨cs', q1, _⟩ := Option.bind_eq_some_iff.1 this
            rw [c132] at q1
            exact ⟨cs', by simpa using q1⟩
          · have := hx 0 e
            rw [List.getElem?_eq_getElem (by omega)] at this
            obtain ⟨cs', q1, _⟩ := Option.bind_eq_some_iff.1 this
            exact ⟨cs', by simpa using q1⟩
        obtain ⟨cs', q1⟩ := this
        obtain ⟨_, q2, q3⟩ := World.cells?_some q1
        have := q3 0 (by decide)
        rw [List.getElem?_eq_getElem (by omega)] at this
        have := wlt this
        rwa [add_block, add_block] at this
      refine ⟨(List.range len).map fun j => (f j).1, ⟨some a, len, cap⟩, e, ⟨by simp, hl, by show cap < _; omega, fun _ => rfl, fun a' ea hc => by cases ea; exact blk hc⟩, RF.of (Or.inr trivial) _ _ fun j hj => ?_⟩
      have hj : j < len := by simpa using hj
      obtain ⟨g1, g2, g3, g4⟩ := hf j hj
      refine ⟨(f j).2.1, (f j).2.2, blk (by omega), ?_, ?_, ?_, ?_⟩
      · rw [Nat.zero_add]; exact g1
      · simpa using g2
      · rw [Nat.zero_add]; exact g3
      · simpa using g4
  obtain ⟨l, sl, rfl, l1, l2⟩ := L
  obtain ⟨f, sf, rfl, f1, f2⟩ := F
  refine ⟨.mk k.toNat b i t bs l f, ⟨k, b, i, s, sb, sl, sf⟩, rfl, ⟨?_, by omega, rfl, rfl, hi.1, hi.2⟩, ht, hb, ⟨l1, l2⟩, f1, f2⟩
  show k = ((k.toNat : Nat) : Int)
  omega

/-- An event. -/
theorem open29 {fuel : Nat} {cs : List Value} {x : DataW H × List MemPlace} (h : DataW.trod enc Tryz.prog w 0 (fun _ => true) true fuel 29 cs = some x) : ∃ e c, cs = Ce.cells c ∧ RE w.heap.size w.heap e c := by
  obtain ⟨xs, n, rfl, _, hlen, hxl, hall⟩ := DataW.trod_struct Tryz.underlying29 h
  rw [c29] at hlen
  match cs, hlen with
  | v0 :: v1 :: us, hlen =>
  have hus : us.length = 14 := by simpa using hlen
  obtain ⟨y0, z0⟩ : ∃ y, DataW.trod enc Tryz.prog w 0 (fun _ => true) true n 5 [v0] = some y := part hxl hall 0 rfl c5
  obtain ⟨y1, z1⟩ : ∃ y, DataW.trod enc Tryz.prog w 0 (fun _ => true) true n 9 [v1] = some y := part hxl hall 1 rfl c9
  obtain ⟨y2, z2⟩ : ∃ y, DataW.trod enc Tryz.prog w 0 (fun _ => true) true n 27 (us.take 7) = some y := part hxl hall 2 rfl c27
  obtain ⟨y3, z3⟩ : ∃ y, DataW.trod enc Tryz.prog w 0 (fun _ => true) true n 27 ((us.drop 7).take 7) = some y := part hxl hall 3 rfl c27
  obtain ⟨k, e0, _, w0⟩ := DataW.trod_int Tryz.underlying5 z0
  obtain ⟨t, s, e1, ht⟩ := openTX Tryz.underlying9 z1
  simp only [List.cons.injEq, and_true] at e0 e1
  subst e0 e1
  obtain ⟨kv, kc, k1, k2⟩ := open27 _ z2
  obtain ⟨dv, dc, d1, d2⟩ := open27 _ z3
  have hk := lit_u8 w0
  have es : us = kc.cells ++ dc.cells := by
    rw [← k1, ← d1, List.take_of_length_le (l := List.drop 7 us) (by simp; omega), List.take_append_drop]
  subst es
  refine ⟨⟨k.toNat, t, kv, dv⟩, ⟨k, s, kc, dc⟩, rfl, ?_, by show k.toNat < 256; omega, ht, k2, d2⟩
  show k = ((k.toNat : Nat) : Int)
  omega
end
end Go.VK
