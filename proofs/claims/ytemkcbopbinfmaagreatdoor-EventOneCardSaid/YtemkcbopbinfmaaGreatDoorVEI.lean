/- Contracts: a number out of bytes (code.varint). -/
import Derived.Test.YtemkcbopbinfmaaGreatDoorVEH
set_option linter.all false
namespace Go.VK
open Go Go.Proofs
set_option maxRecDepth 100000
set_option linter.unusedSimpArgs false
set_option linter.unusedVariables false

/-- A number, out of bytes. -/
def pvGo (i acc : Nat) : List UInt8 → Option (Nat × List UInt8)
  | [] => none
  | c :: r => if (i = 9 ∧ c ≠ 1) ∨ (0 < i ∧ c = 0) then none else if c.toNat < 128 then some (acc + c.toNat * 2 ^ (7 * i), r) else pvGo (i + 1) (acc + (c.toNat - 128) * 2 ^ (7 * i)) r
def pvar (b : List UInt8) : Option (Nat × List UInt8) := pvGo 0 0 b

theorem ior_add (x y s : Nat) (hx : x < 2 ^ s) (hxy : x + y * 2 ^ s < 2 ^ 64) : ior .u64 (x : Int) ((y * 2 ^ s : Nat) : Int) = ((x + y * 2 ^ s : Nat) : Int) := by
  unfold ior
  rw [IntKind.wrap_u64]
  have hle : x ≤ x + y * 2 ^ s := Nat.le_add_right _ _
  have hle2 : y * 2 ^ s ≤ x + y * 2 ^ s := Nat.le_add_left _ _
  have : (BitVec.ofInt IntKind.u64.bits (x : Int) ||| BitVec.ofInt IntKind.u64.bits ((y * 2 ^ s : Nat) : Int)).toNat = x + y * 2 ^ s := by
    show (BitVec.ofInt 64 (x : Int) ||| BitVec.ofInt 64 ((y * 2 ^ s : Nat) : Int)).toNat = _
    rw [BitVec.toNat_or]
    have e1 : (BitVec.ofInt 64 (x : Int)).toNat = x := by simp; omega
    have e2 : (BitVec.ofInt 64 ((y * 2 ^ s : Nat) : Int)).toNat = y * 2 ^ s := by
      generalize y * 2 ^ s = z at *
      simp; omega
    rw [e1, e2, Nat.or_comm, Nat.mul_comm, Nat.add_comm]
    exact (Nat.two_pow_add_eq_or_of_lt hx y).symm
  rw [this]; omega

theorem ishlN (y s : Nat) (hs : s ≤ 63) (hy : y * 2 ^ s < 2 ^ 64) : ishl .u64 (y : Int) (s : Int) = ((y * 2 ^ s : Nat) : Int) := by
  show IntKind.wrap .u64 ((y : Int) * 2 ^ (min ((s : Int).toNat) 64)) = _
  have e : min ((s : Int).toNat) 64 = s := by omega
  rw [e]
  have : ((2 : Int) ^ s) = ((2 ^ s : Nat) : Int) := by simp
  rw [this, ← Int.natCast_mul, IntKind.wrap_u64]
  omega

theorem iand127 (c : UInt8) : IntKind.wrap .u64 (iand .u8 (c.toNat : Int) 127) = ((c.toNat % 128 : Nat) : Int) := by
  have key : ∀ x : Fin 256, IntKind.wrap .u64 (iand .u8 (x.val : Int) 127) = ((x.val % 128 : Nat) : Int) := by decide
  exact key ⟨c.toNat, c.toNat_lt⟩

theorem pvGo_len : ∀ (b : List UInt8) (i acc v : Nat) (r : List UInt8), pvGo i acc b = some (v, r) → r.length < b.length
  | [], _, _, _, _, h => by cases h
  | c :: b, i, acc, v, r, h => by
    simp only [pvGo] at h
    split at h
    · cases h
    · split at h
      · cases h; simp
      · have := pvGo_len b _ _ v r h
        simp; omega

theorem pv_sum {acc c i : Nat} (hacc : acc < 2 ^ (7 * i)) (hc : c < 128) : acc + c * 2 ^ (7 * i) < 2 ^ (7 * (i + 1)) := by
  have hpow : 2 ^ (7 * (i + 1)) = 128 * 2 ^ (7 * i) := by rw [show 7 * (i + 1) = 7 + 7 * i by omega, Nat.pow_add]
  rw [hpow]
  have : (c + 1) * 2 ^ (7 * i) ≤ 128 * 2 ^ (7 * i) := Nat.mul_le_mul_right _ (by omega)
  rw [Nat.add_mul, Nat.one_mul] at this
  generalize c * 2 ^ (7 * i) = x at *
  generalize 2 ^ (7 * i) = y at *
  omega
theorem pv_64 {acc c i : Nat} (hacc : acc < 2 ^ (7 * i)) (hc : c < 128) (hi : i ≤ 9) (h9 : i = 9 → c = 1) : acc + c * 2 ^ (7 * i) < 2 ^ 64 := by
  rcases Nat.lt_or_eq_of_le hi with h | h
  · have h1 := pv_sum hacc hc
    have : 2 ^ (7 * (i + 1)) ≤ 2 ^ 63 := Nat.pow_le_pow_right (by decide) (by omega)
    exact Nat.lt_of_lt_of_le h1 (Nat.le_trans this (by decide))
  · have c1 := h9 h
    subst h; subst c1
    have h1 : acc < 2 ^ 63 := hacc
    have h2 : acc + 2 ^ 63 < 2 ^ 63 + 2 ^ 63 := Nat.add_lt_add_right h1 _
    exact h2

end Go.VK
