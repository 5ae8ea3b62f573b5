/- Values (trees) in memory. -/
import Derived.Test.YtemkcbopbinfmaaGreatDoorVRA
set_option linter.all false
set_option linter.unusedVariables false
namespace Go.VK
open Go

inductive V where
  | mk (k : Nat) (b : Bool) (i : Int) (t bs : List UInt8) (l : List V) (f : List (List UInt8 × V))

/-- A value's seven cells. -/
structure Cv where
  k : Int
  b : Bool
  i : Int
  t : ByteArray
  bs : Sl
  ls : Sl
  fs : Sl

abbrev Cv.cells (c : Cv) : List Value := [.int .u8 c.k, .bool c.b, .int .i64 c.i, .string c.t, c.bs.v, c.ls.v, c.fs.v]
abbrev Cv.v (c : Cv) : Value := .agg #[.int .u8 c.k, .bool c.b, .int .i64 c.i, .string c.t, c.bs.v, c.ls.v, c.fs.v]

def CELLS (h : Heap) (a : Addr) (cs : List Value) : Prop := ∀ i, i < cs.length → cell h (a.add i) = cs[i]?

theorem CELLS.pre {n : Nat} {h h' : Heap} {a : Addr} {cs : List Value} (c : CELLS h a cs) (g : Pre n h h') (ha : a.block < n) : CELLS h' a cs := fun i hi => by
  rw [g.cell (by rw [add_block]; exact ha)]; exact c i hi

/-- The outside of a slice. -/
structure SH (n N : Nat) (s : Sl) : Prop where
  len : s.len = N
  cap : s.len ≤ s.cap
  small : s.cap < 2 ^ 63
  some_ : N ≠ 0 → s.a.isSome = true
  blk : ∀ a, s.a = some a → 0 < s.cap → a.block < n

theorem SH.mono {n m N : Nat} {s : Sl} (r : SH n N s) (hm : n ≤ m) : SH m N s := ⟨r.len, r.cap, r.small, r.some_, fun a ha hc => Nat.lt_of_lt_of_le (r.blk a ha hc) hm⟩

/-- A text's letters. -/
structure TX (t : List UInt8) (s : ByteArray) : Prop where
  eq : s.data.toList = t
  small : t.length < 2 ^ 63

mutual
def RV (n : Nat) (h : Heap) : V → Cv → Prop
  | .mk k b i t bs l f, c => (c.k = (k : Int) ∧ k < 256 ∧ c.b = b ∧ c.i = i ∧ -9223372036854775808 ≤ i ∧ i < 9223372036854775808) ∧ TX t c.t ∧ RB n h bs c.bs ∧
      (SH n l.length c.ls ∧ RL n h l c.ls.a 0) ∧ (SH n f.length c.fs ∧ RF n h f c.fs.a 0)
def RL (n : Nat) (h : Heap) : List V → Option Addr → Nat → Prop
  | [], _, _ => True
  | v :: r, a, i => (∃ a0 c, a = some a0 ∧ a0.block < n ∧ CELLS h (a0.add (i * 7)) (Cv.cells c) ∧ RV n h v c) ∧ RL n h r a (i + 1)
def RF (n : Nat) (h : Heap) : List (List UInt8 × V) → Option Addr → Nat → Prop
  | [], _, _ => True
  | (nm, v) :: r, a, i => (∃ a0 s c, a = some a0 ∧ a0.block < n ∧ cell h (a0.add (i * 8)) = some (.string s) ∧ TX nm s ∧ CELLS h ((a0.add (i * 8)).add 1) (Cv.cells c) ∧ RV n h v c) ∧ RF n h r a (i + 1)
end

mutual
theorem RV.pre {n m : Nat} {h h' : Heap} (g : Pre m h h') (hm : n ≤ m) : ∀ (v : V) (c : Cv), RV n h v c → RV n h' v c
  | .mk k b i t bs l f, c, ⟨h1, h2, h3, ⟨h4, h5⟩, h6, h7⟩ => ⟨h1, h2, h3.pre g hm, ⟨h4, RL.pre g hm l _ _ h5⟩, h6, RF.pre g hm f _ _ h7⟩
theorem RL.pre {n m : Nat} {h h' : Heap} (g : Pre m h h') (hm : n ≤ m) : ∀ (l : List V) (a : Option Addr) (i : Nat), RL n h l a i → RL n h' l a i
  | [], _, _, _ => trivial
  | v :: r, a, i, ⟨⟨a0, c, h1, h2, h3, h4⟩, h5⟩ => ⟨⟨a0, c, h1, h2, h3.pre g (by rw [add_block]; omega), RV.pre g hm v c h4⟩, RL.pre g hm r a (i + 1) h5⟩
theorem RF.pre {n m : Nat} {h h' : Heap} (g : Pre m h h') (hm : n ≤ m) : ∀ (l : List (List UInt8 × V)) (a : Option Addr) (i : Nat), RF n h l a i → RF n h' l a i
  | [], _, _, _ => trivial
  | (nm, v) :: r, a, i, ⟨⟨a0, s, c, h1, h2, h3, h4, h5, h6⟩, h7⟩ =>
    ⟨⟨a0, s, c, h1, h2, by rw [g.cell (by rw [add_block]; omega)]; exact h3, h4, h5.pre g (by rw [add_block, add_block]; omega), RV.pre g hm v c h6⟩, RF.pre g hm r a (i + 1) h7⟩
end

mutual
theorem RV.mono {n m : Nat} {h : Heap} (hm : n ≤ m) : ∀ (v : V) (c : Cv), RV n h v c → RV m h v c
  | .mk k b i t bs l f, c, ⟨h1, h2, h3, ⟨h4, h5⟩, h6, h7⟩ => ⟨h1, h2, h3.mono hm, ⟨h4.mono hm, RL.mono hm l _ _ h5⟩, h6.mono hm, RF.mono hm f _ _ h7⟩
theorem RL.mono {n m : Nat} {h : Heap} (hm : n ≤ m) : ∀ (l : List V) (a : Option Addr) (i : Nat), RL n h l a i → RL m h l a i
  | [], _, _, _ => trivial
  | v :: r, a, i, ⟨⟨a0, c, h1, h2, h3, h4⟩, h5⟩ => ⟨⟨a0, c, h1, by omega, h3, RV.mono hm v c h4⟩, RL.mono hm r a (i + 1) h5⟩
theorem RF.mono {n m : Nat} {h : Heap} (hm : n ≤ m) : ∀ (l : List (List UInt8 × V)) (a : Option Addr) (i : Nat), RF n h l a i → RF m h l a i
  | [], _, _, _ => trivial
  | (nm, v) :: r, a, i, ⟨⟨a0, s, c, h1, h2, h3, h4, h5, h6⟩, h7⟩ => ⟨⟨a0, s, c, h1, by omega, h3, h4, h5, RV.mono hm v c h6⟩, RF.mono hm r a (i + 1) h7⟩
end

theorem RB.sub {n : Nat} {h h' : Heap} (g : ∀ a v, cell h a = some v → cell h' a = some v) {l : List UInt8} {s : Sl} (r : RB n h l s) : RB n h' l s :=
  ⟨r.len, r.cap, r.small, fun hl => let ⟨a, h1, h2, h3⟩ := r.at_ hl; ⟨a, h1, h2, fun i hi => by
    have := h3 i hi
    rw [List.getElem?_eq_getElem hi] at this ⊢
    exact g _ _ this⟩, r.blk⟩
theorem CELLS.sub {h h' : Heap} (g : ∀ a v, cell h a = some v → cell h' a = some v) {a : Addr} {cs : List Value} (c : CELLS h a cs) : CELLS h' a cs := fun i hi => by
  have := c i hi
  rw [List.getElem?_eq_getElem hi] at this ⊢
  exact g _ _ this

mutual
/-- All that is read may be read in another memory. -/
theorem RV.sub {n : Nat} {h h' : Heap} (g : ∀ a v, cell h a = some v → cell h' a = some v) : ∀ (v : V) (c : Cv), RV n h v c → RV n h' v c
  | .mk k b i t bs l f, c, ⟨h1, h2, h3, ⟨h4, h5⟩, h6, h7⟩ => ⟨h1, h2, h3.sub g, ⟨h4, RL.sub g l _ _ h5⟩, h6, RF.sub g f _ _ h7⟩
theorem RL.sub {n : Nat} {h h' : Heap} (g : ∀ a v, cell h a = some v → cell h' a = some v) : ∀ (l : List V) (a : Option Addr) (i : Nat), RL n h l a i → RL n h' l a i
  | [], _, _, _ => trivial
  | v :: r, a, i, ⟨⟨a0, c, h1, h2, h3, h4⟩, h5⟩ => ⟨⟨a0, c, h1, h2, h3.sub g, RV.sub g v c h4⟩, RL.sub g r a (i + 1) h5⟩
theorem RF.sub {n : Nat} {h h' : Heap} (g : ∀ a v, cell h a = some v → cell h' a = some v) : ∀ (l : List (List UInt8 × V)) (a : Option Addr) (i : Nat), RF n h l a i → RF n h' l a i
  | [], _, _, _ => trivial
  | (nm, v) :: r, a, i, ⟨⟨a0, s, c, h1, h2, h3, h4, h5, h6⟩, h7⟩ => ⟨⟨a0, s, c, h1, h2, g _ _ h3, h4, h5.sub g, RV.sub g v c h6⟩, RF.sub g r a (i + 1) h7⟩
end

theorem RL.get {n : Nat} {h : Heap} : ∀ {l : List V} {a : Option Addr} {i : Nat}, RL n h l a i → ∀ (j : Nat) (hj : j < l.length), ∃ a0 c, a = some a0 ∧ a0.block < n ∧ CELLS h (a0.add ((i + j) * 7)) (Cv.cells c) ∧ RV n h l[j] c
  | v :: r, a, i, ⟨h1, h2⟩, 0, _ => h1
  | v :: r, a, i, ⟨h1, h2⟩, j + 1, hj => by
    have := RL.get h2 j (by simpa using hj)
    rw [Nat.add_assoc, Nat.add_comm 1 j] at this
    exact this

theorem RF.get {n : Nat} {h : Heap} : ∀ {l : List (List UInt8 × V)} {a : Option Addr} {i : Nat}, RF n h l a i → ∀ (j : Nat) (hj : j < l.length),
    ∃ a0 s c, a = some a0 ∧ a0.block < n ∧ cell h (a0.add ((i + j) * 8)) = some (.string s) ∧ TX l[j].1 s ∧ CELLS h ((a0.add ((i + j) * 8)).add 1) (Cv.cells c) ∧ RV n h l[j].2 c
  | (nm, v) :: r, a, i, ⟨h1, h2⟩, 0, _ => h1
  | (nm, v) :: r, a, i, ⟨h1, h2⟩, j + 1, hj => by
    have := RF.get h2 j (by simpa using hj)
    rw [Nat.add_assoc, Nat.add_comm 1 j] at this
    exact this

/-- Seven cells are read. -/
theorem LDN_V {n : Nat} {h : Heap} {a : Addr} {c : Cv} (hc : CELLS h a c.cells) (ha : a.block < n) {S : Heap → Prop} (hS : ∀ h', S h' → Pre n h h')
    {K : Int → Bool → Int → ByteArray → Sl → Sl → Sl → Prop} (k : K c.k c.b c.i c.t c.bs c.ls c.fs) : LDN [.nt .u8, .bl, .nt .i64, .tx, .sl, .sl, .sl] a 0 S K := by
  have e : ∀ i v, c.cells[i]? = some v → ∀ h', S h' → cell h' (a.add i) = some v := fun i v hv h' hh => by
    rw [(hS h' hh).cell (by rw [add_block]; exact ha), hc i (by
      rcases Nat.lt_or_ge i c.cells.length with h1 | h1
      · exact h1
      · rw [List.getElem?_eq_none h1] at hv; cases hv), hv]
  exact ⟨c.k, e 0 _ rfl, c.b, e 1 _ rfl, c.i, e 2 _ rfl, c.t, e 3 _ rfl, c.bs, e 4 _ rfl, c.ls, e 5 _ rfl, c.fs, e 6 _ rfl, k⟩

/-- An element of a list of values is read. -/
theorem RL.ix {n : Nat} {h : Heap} {l : List V} {s : Sl} (r : RL n h l s.a 0) (sh : SH n l.length s) {i : Nat} {x : Int} (hx : x = (i : Int)) (hi : i < l.length) {S : Heap → Prop} (hS : ∀ h', S h' → Pre n h h')
    {K : Int → Bool → Int → ByteArray → Sl → Sl → Sl → Prop} (k : ∀ c, RV n h l[i] c → K c.k c.b c.i c.t c.bs c.ls c.fs) : IXA 7 s.a s.len x fun a => LDN [.nt .u8, .bl, .nt .i64, .tx, .sl, .sl, .sl] a 0 S K := by
  obtain ⟨a0, c, h1, h2, h3, h4⟩ := r.get i hi
  rw [Nat.zero_add] at h3
  exact IXA_r h1 hx (by rw [sh.len]; exact hi) (LDN_V h3 (by rw [add_block]; exact h2) hS (k c h4))

/-- A field is read. -/
theorem RF.ix {n : Nat} {h : Heap} {l : List (List UInt8 × V)} {s : Sl} (r : RF n h l s.a 0) (sh : SH n l.length s) {i : Nat} {x : Int} (hx : x = (i : Int)) (hi : i < l.length) {S : Heap → Prop} (hS : ∀ h', S h' → Pre n h h')
    {K : ByteArray → Int → Bool → Int → ByteArray → Sl → Sl → Sl → Prop} (k : ∀ nm c, TX l[i].1 nm → RV n h l[i].2 c → K nm c.k c.b c.i c.t c.bs c.ls c.fs) : IXA 8 s.a s.len x fun a => LDN [.tx, .nt .u8, .bl, .nt .i64, .tx, .sl, .sl, .sl] a 0 S K := by
  obtain ⟨a0, nm, c, h1, h2, h3, h4, h5, h6⟩ := r.get i hi
  rw [Nat.zero_add] at h3 h5
  have e : ∀ j v, c.cells[j]? = some v → ∀ h', S h' → cell h' ((a0.add (i * 8)).add (1 + j)) = some v := fun j v hv h' hh => by
    have hlt : j < c.cells.length := by
      rcases Nat.lt_or_ge j c.cells.length with h1 | h1
      · exact h1
      · rw [List.getElem?_eq_none h1] at hv; cases hv
    have := h5 j hlt
    have ea : ((a0.add (i * 8)).add 1).add j = (a0.add (i * 8)).add (1 + j) := by
      unfold Addr.add
      split <;> split <;> simp_all <;> omega
    rw [ea] at this
    rw [(hS h' hh).cell (by rw [add_block, add_block]; exact h2), this, hv]
  refine IXA_r h1 hx (by rw [sh.len]; exact hi) ⟨nm, fun h' hh => ?_, c.k, e 0 _ rfl, c.b, e 1 _ rfl, c.i, e 2 _ rfl, c.t, e 3 _ rfl, c.bs, e 4 _ rfl, c.ls, e 5 _ rfl, c.fs, e 6 _ rfl, k nm c h4 h6⟩
  rw [(hS h' hh).cell (by rw [add_block, add_block]; exact h2)]
  exact h3

end Go.VK
