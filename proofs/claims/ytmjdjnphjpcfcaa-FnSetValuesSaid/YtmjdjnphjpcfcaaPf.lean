/- Plain laws: sorting, due order, and lateness. -/
import Derived.Test.YtmjdjnphjpcfcaaPe
namespace Gh
open Go
set_option linter.unusedSimpArgs false
set_option linter.unusedVariables false
set_option maxRecDepth 100000

theorem range_sorted (n : Nat) : (List.range n).Pairwise (· < ·) := List.pairwise_lt_range

theorem pow_cast (n : Nat) (hn : n ≤ 60) : subK .i64 (shlK .i64 1 (n : Int)) 1 = ((2 ^ n - 1 : Nat) : Int) := by
  have hb : 2 ^ n ≤ 2 ^ 60 := Nat.pow_le_pow_right (by decide) hn
  have hpos : 0 < 2 ^ n := Nat.pow_pos (by decide)
  have h1 : shlK .i64 1 (n : Int) = ((2 ^ n : Nat) : Int) := by
    unfold shlK
    have e : min (Int.toNat (n : Int)) IntKind.i64.bits = n := by
      have : IntKind.i64.bits = 64 := rfl
      rw [this, Int.toNat_natCast]; omega
    have e2 : (1 : Int) * 2 ^ n = ((2 ^ n : Nat) : Int) := by simp
    rw [e, e2]
    exact wrap_i64 (by omega) (by omega)
  rw [h1, sub_i (by omega) (by omega)]
  omega

theorem and_one (a : Int) : andK .i64 a 1 = a % 2 := by
  have h1 : (BitVec.ofInt IntKind.i64.bits a &&& BitVec.ofInt IntKind.i64.bits 1).toNat = (a % 18446744073709551616).toNat % 2 := by
    rw [BitVec.toNat_and]
    have e1 : (BitVec.ofInt IntKind.i64.bits 1).toNat = 1 := by decide
    have e2 : (BitVec.ofInt IntKind.i64.bits a).toNat = (a % 18446744073709551616).toNat := by
      rw [BitVec.toNat_ofInt]; rfl
    rw [e1, e2, Nat.and_one_is_mod]
  unfold andK
  rw [h1, wrap_i64 (by omega) (by omega)]
  omega

/-- A binary digit of a set. -/
def bit (c i : Nat) : Bool := c.testBit i

theorem shr_nat (c i : Nat) (h : i ≤ 64) : shrK .i64 (c : Int) (i : Int) = ((c / 2 ^ i : Nat) : Int) := by
  unfold shrK
  have e : min (Int.toNat (i : Int)) IntKind.i64.bits = i := by
    have : IntKind.i64.bits = 64 := rfl
    rw [this, Int.toNat_natCast]; omega
  rw [e, Int.fdiv_eq_ediv_of_nonneg _ (Int.le_of_lt (Int.pow_pos (by decide))), Int.natCast_ediv]
  simp

theorem bit_eq (c i : Nat) (h : i ≤ 64) : andK .i64 (shrK .i64 (c : Int) (i : Int)) 1 = 1 ↔ bit c i = true := by
  rw [and_one, shr_nat c i h]
  unfold bit
  rw [Nat.testBit_eq_decide_div_mod_eq, decide_eq_true_eq]
  omega

/-- The members of a set that is told by binary digits. -/
def setOf (n c : Nat) : List Nat := (List.range n).filter (bit c)

theorem setOf_all (n : Nat) : setOf n (2 ^ n - 1) = List.range n := by
  unfold setOf
  apply List.filter_eq_self.2
  intro i hi
  have h1 := List.mem_range.1 hi
  unfold bit
  rw [Nat.testBit_two_pow_sub_one]
  simp [h1]
end Gh
