/- Contracts: products of 128 bits, sums of lengths, which pair is shorter. -/
import Derived.Test.YtmbfflckgmdncaaV1
namespace Go.Proofs.Ytmbfflckgmdncaa.Fw
open Go Go.RowKit
set_option linter.unusedVariables false
set_option linter.unusedSimpArgs false
set_option maxRecDepth 100000
set_option maxHeartbeats 2000000

theorem and32 {z : Int} (h1 : 0 ≤ z) (h2 : z < 18446744073709551616) : IntKind.u64.wrap (((BitVec.ofInt IntKind.u64.bits z &&& BitVec.ofInt IntKind.u64.bits 4294967295).toNat : Nat) : Int) = z % 4294967296 := by
  obtain ⟨n, rfl⟩ := Int.eq_ofNat_of_zero_le h1
  have e : (BitVec.ofInt IntKind.u64.bits ((n : Nat) : Int) &&& BitVec.ofInt IntKind.u64.bits 4294967295).toNat = n % 4294967296 := by
    rw [BitVec.toNat_and]
    have a1 : (BitVec.ofInt IntKind.u64.bits ((n : Nat) : Int)).toNat = n := by
      show (BitVec.ofInt 64 ((n : Nat) : Int)).toNat = n
      rw [BitVec.toNat_ofInt]; omega
    have a2 : (BitVec.ofInt IntKind.u64.bits 4294967295).toNat = 2 ^ 32 - 1 := by
      show (BitVec.ofInt 64 4294967295).toNat = _
      decide
    rw [a1, a2, Nat.and_two_pow_sub_one_eq_mod]
  rw [e]
  have hr : Rng .u64 ((n % 4294967296 : Nat) : Int) := by simp only [Rng]; omega
  rw [wrap_of_rng hr]; omega
theorem sh32 {z : Int} (h1 : 0 ≤ z) : z.fdiv (2 ^ Int.toNat 32) = z / 4294967296 := by
  show z.fdiv 4294967296 = _
  exact Int.fdiv_eq_ediv_of_nonneg z (by decide)
theorem sh32m (z : Int) : (z % 18446744073709551616).fdiv (2 ^ Int.toNat 32) = z % 18446744073709551616 / 4294967296 := sh32 (Int.emod_nonneg z (by decide))
theorem and32m (z : Int) : IntKind.u64.wrap (((BitVec.ofInt IntKind.u64.bits (z % 18446744073709551616) &&& BitVec.ofInt IntKind.u64.bits 4294967295).toNat : Nat) : Int) = z % 18446744073709551616 % 4294967296 := and32 (Int.emod_nonneg z (by decide)) (Int.emod_lt_of_pos z (by decide))
theorem mul_hi {x y x0 x1 y0 y1 : Int} (hx0 : x0 = x % 4294967296) (hx1 : x1 = x / 4294967296) (hy0 : y0 = y % 4294967296) (hy1 : y1 = y / 4294967296)
    (hx : 0 ≤ x ∧ x < 18446744073709551616) (hy : 0 ≤ y ∧ y < 18446744073709551616) :
    ((x1 * y1 % 18446744073709551616 + ((x1 * y0 % 18446744073709551616 + (x0 * y0 % 18446744073709551616) / 4294967296) % 18446744073709551616) / 4294967296) % 18446744073709551616 +
      (((x1 * y0 % 18446744073709551616 + (x0 * y0 % 18446744073709551616) / 4294967296) % 18446744073709551616) % 4294967296 + x0 * y1 % 18446744073709551616) % 18446744073709551616 / 4294967296) % 18446744073709551616 = x * y / 18446744073709551616 := by
  have b1 : 0 ≤ x0 ∧ x0 ≤ 4294967295 := by omega
  have b2 : 0 ≤ x1 ∧ x1 ≤ 4294967295 := by omega
  have b3 : 0 ≤ y0 ∧ y0 ≤ 4294967295 := by omega
  have b4 : 0 ≤ y1 ∧ y1 ≤ 4294967295 := by omega
  have ex : x = x1 * 4294967296 + x0 := by omega
  have ey : y = y1 * 4294967296 + y0 := by omega
  have eq : x * y = (x1 * y1) * 18446744073709551616 + (x1 * y0) * 4294967296 + (x0 * y1) * 4294967296 + x0 * y0 := by rw [ex, ey]; clear hx0 hx1 hy0 hy1 ex ey; grind
  have p1 : 0 ≤ x0 * y0 := Int.mul_nonneg b1.1 b3.1
  have p2 : x0 * y0 ≤ 4294967295 * 4294967295 := Int.mul_le_mul b1.2 b3.2 b3.1 (by decide)
  have p3 : 0 ≤ x1 * y0 := Int.mul_nonneg b2.1 b3.1
  have p4 : x1 * y0 ≤ 4294967295 * 4294967295 := Int.mul_le_mul b2.2 b3.2 b3.1 (by decide)
  have p5 : 0 ≤ x0 * y1 := Int.mul_nonneg b1.1 b4.1
  have p6 : x0 * y1 ≤ 4294967295 * 4294967295 := Int.mul_le_mul b1.2 b4.2 b4.1 (by decide)
  have p7 : 0 ≤ x1 * y1 := Int.mul_nonneg b2.1 b4.1
  have p8 : x1 * y1 ≤ 4294967295 * 4294967295 := Int.mul_le_mul b2.2 b4.2 b4.1 (by decide)
  rw [eq]
  clear eq ex ey hx0 hx1 hy0 hy1 hx hy b1 b2 b3 b4
  generalize x0 * y0 = a at *
  generalize x1 * y0 = b at *
  generalize x0 * y1 = c at *
  generalize x1 * y1 = d at *
  omega
def mulC : PCtr := fun _ _ _ vals k => match vals with
  | [.int .u64 x, .int .u64 y] => ((0 ≤ x ∧ x < 18446744073709551616) ∧ 0 ≤ y ∧ y < 18446744073709551616) ∧ ∀ q : Int × Int, q = (x * y / 18446744073709551616, x * y % 18446744073709551616) → k [] (.tup [.int .u64 q.1, .int .u64 q.2])
  | _ => False
end Go.Proofs.Ytmbfflckgmdncaa.Fw
-- %intro
