/- Bytes, texts and values in memory. -/
import Derived.Test.YtemkcbopbinfmaaGreatDoorVMA
set_option linter.all false
namespace Go.VK
open Go

/-- A slice holds these cells, all of it in blocks below n. -/
structure RB (n : Nat) (h : Heap) (l : List UInt8) (s : Sl) : Prop where
  len : s.len = l.length
  cap : s.len ≤ s.cap
  small : s.cap < 2 ^ 63
  at_ : l ≠ [] → ∃ a, s.a = some a ∧ a.block < n ∧ ∀ i, i < l.length → cell h (a.add i) = (l[i]?).map fun b => Value.int .u8 b.toNat
  blk : ∀ a, s.a = some a → 0 < s.cap → a.block < n

theorem add_block (a : Addr) (i : Nat) : (a.add i).block = a.block := by unfold Addr.add; split <;> rfl

theorem RB.pre {n m : Nat} {h h' : Heap} {l : List UInt8} {s : Sl} (r : RB n h l s) (g : Pre m h h') (hm : n ≤ m) : RB n h' l s :=
  ⟨r.len, r.cap, r.small, fun hl => let ⟨a, h1, h2, h3⟩ := r.at_ hl; ⟨a, h1, h2, fun i hi => by rw [g.cell (by rw [add_block]; omega)]; exact h3 i hi⟩, r.blk⟩
theorem RB.mono {n m : Nat} {h : Heap} {l : List UInt8} {s : Sl} (r : RB n h l s) (hm : n ≤ m) : RB m h l s :=
  ⟨r.len, r.cap, r.small, fun hl => let ⟨a, h1, h2, h3⟩ := r.at_ hl; ⟨a, h1, by omega, h3⟩, fun a ha hc => Nat.lt_of_lt_of_le (r.blk a ha hc) hm⟩

/-- One byte is read. -/
theorem RB.ix {n : Nat} {h : Heap} {l : List UInt8} {s : Sl} (r : RB n h l s) {i : Nat} {x : Int} (hx : x = (i : Int)) (hi : i < l.length) {S : Heap → Prop} (hS : ∀ h', S h' → Pre n h h') {K : Int → Prop} (k : K ((l[i]).toNat : Int)) :
    IXA 1 s.a s.len x fun a => LD (.nt .u8) a S K := by
  obtain ⟨a, h1, h2, h3⟩ := r.at_ (by intro e; subst e; simp at hi)
  refine IXA_r (a0 := a) (j := i) h1 hx (by rw [r.len]; exact hi) ⟨_, fun h' hh => ?_, k⟩
  rw [(hS h' hh).cell (by rw [add_block]; exact h2), Nat.mul_one, h3 i hi]
  simp [hi, Sh.v]

end Go.VK
