/- Contracts: products of 128 bits, sums of lengths, which pair is shorter. -/
import Derived.Test.YtllagpbbbdekiaaV1
namespace Go.Proofs.Ytllagpbbbdekiaa.Fw
open Go Go.RowKit
set_option linter.unusedVariables false
set_option linter.unusedSimpArgs false
set_option maxRecDepth 100000
set_option maxHeartbeats 2000000

theorem and32 {z : Int} (h1 : 0 ≤ z) (h2 : z < 18446744073709551616) : IntKind.u64.wrap (((BitVec.ofInt IntKind.u64.bits z &&& BitVec.ofInt IntKind.u64.bits 4294967295).toNat : Nat) : Int) = z % 4294967296 := by
  obtain ⟨n, rfl⟩ := Int.eq_ofNat_of_zero_le h1
  have e : (BitVec.ofInt IntKind.u64.bits ((n : Nat) : Int) &&& BitVec.ofInt IntKind.u64.bits 4294967295).toNat = n % 4294967296 := by
    rw [BitVec.toNat_and]
    have a1 : (BitVec.ofInt IntKind.u64.bits ((n : Nat) : Int)).toNat = n := by
      show (BitVec.ofInt 64 ((n : Nat) : Int)).toNat = n
      rw [BitVec.toNat_ofInt]; omega
    have a2 : (BitVec.ofInt IntKind.u64.bits 4294967295).toNat = 2 ^ 32 - 1 := by
      show (BitVec.ofInt 64 4294967295).toNat = _
      decide
    rw [a1, a2, Nat.and_two_pow_sub_one_eq_mod]
  rw [e]
  have hr : Rng .u64 ((n % 4294967296 : Nat) : Int) := by simp only [Rng]; omega
  rw [wrap_of_rng hr]; omega
theorem sh32 {z : Int} (h1 : 0 ≤ z) : z.fdiv (2 ^ Int.toNat 32) = z / 4294967296 := by
  show z.fdiv 4294967296 = _
  exact Int.fdiv_eq_ediv_of_nonneg z (by decide)
theorem sh32m (z : Int) : (z % 18446744073709551616).fdiv (2 ^ Int.toNat 32) = z % 18446744073709551616 / 4294967296 := sh32 (Int.emod_nonneg z (by decide))
theorem and32m (z : Int) : IntKind.u64.wrap (((BitVec.ofInt IntKind.u64.bits (z % 18446744073709551616) &&& BitVec.ofInt IntKind.u64.bits 4294967295).toNat : Nat) : Int) = z % 18446744073709551616 % 4294967296 := and32 (Int.emod_nonneg z (by decide)) (Int.emod_lt_of_pos z (by decide))
theorem mul_hi {x y x0 x1 y0 y1 : Int} (hx0 : x0 = x % 4294967296) (hx1 : x1 = x / 4294967296) (hy0 : y0 = y % 4294967296) (hy1 : y1 = y / 4294967296)
    (hx : 0 ≤ x ∧ x < 18446744073709551616) (hy : 0 ≤ y ∧ y < 18446744073709551616) :
    ((x1 * y1 % 18446744073709551616 + ((x1 * y0 % 18446744073709551616 + (x0 * y0 % 18446744073709551616) / 4294967296) % 18446744073709551616) / 4294967296) % 18446744073709551616 +
      (((x1 * y0 % 18446744073709551616 + (x0 * y0 % 18446744073709551616) / 4294967296) % 18446744073709551616) % 4294967296 + x0 * y1 % 18446744073709551616) % 18446744073709551616 / 4294967296) % 18446744073709551616 = x * y / 18446744073709551616 := by
  have b1 : 0 ≤ x0 ∧ x0 ≤ 4294967295 := by omega
  have b2 : 0 ≤ x1 ∧ x1 ≤ 4294967295 := by omega
  have b3 : 0 ≤ y0 ∧ y0 ≤ 4294967295 := by omega
  have b4 : 0 ≤ y1 ∧ y1 ≤ 4294967295 := by omega
  have ex : x = x1 * 4294967296 + x0 := by omega
  have ey : y = y1 * 4294967296 + y0 := by omega
  have eq : x * y = (x1 * y1) * 18446744073709551616 + (x1 * y0) * 4294967296 + (x0 * y1) * 4294967296 + x0 * y0 := by rw [ex, ey]; clear hx0 hx1 hy0 hy1 ex ey; grind
  have p1 : 0 ≤ x0 * y0 := Int.mul_nonneg b1.1 b3.1
  have p2 : x0 * y0 ≤ 4294967295 * 4294967295 := Int.mul_le_mul b1.2 b3.2 b3.1 (by decide)
  have p3 : 0 ≤ x1 * y0 := Int.mul_nonneg b2.1 b3.1
  have p4 : x1 * y0 ≤ 4294967295 * 4294967295 := Int.mul_le_mul b2.2 b3.2 b3.1 (by decide)
  have p5 : 0 ≤ x0 * y1 := Int.mul_nonneg b1.1 b4.1
  have p6 : x0 * y1 ≤ 4294967295 * 4294967295 := Int.mul_le_mul b1.2 b4.2 b4.1 (by decide)
  have p7 : 0 ≤ x1 * y1 := Int.mul_nonneg b2.1 b4.1
  have p8 : x1 * y1 ≤ 4294967295 * 4294967295 := Int.mul_le_mul b2.2 b4.2 b4.1 (by decide)
  rw [eq]
  clear eq ex ey hx0 hx1 hy0 hy1 hx hy b1 b2 b3 b4
  generalize x0 * y0 = a at *
  generalize x1 * y0 = b at *
  generalize x0 * y1 = c at *
  generalize x1 * y1 = d at *
  omega
def mulC : PCtr := fun _ _ _ vals k => match vals with
  | [.int .u64 x, .int .u64 y] => ((0 ≤ x ∧ x < 18446744073709551616) ∧ 0 ≤ y ∧ y < 18446744073709551616) ∧ ∀ q : Int × Int, q = (x * y / 18446744073709551616, x * y % 18446744073709551616) → k [] (.tup [.int .u64 q.1, .int .u64 q.2])
  | _ => False
theorem mul_ok : PCtrOk Try.prog 90 mulC where
  enter := enter_ok Try.func90 (by kernel_rfl) rfl
  calls := by
    intro hg rg lr vals k h
    unfold mulC at h
    split at h
    case h_2 => exact h.elim
    rename_i x y
    obtain ⟨⟨hx, hy⟩, hk⟩ := h
    replace hk := hk _ rfl
    refine ⟨_, _, hk, fun A w _ _ => ?_⟩
    refine enter T_ok .nil Try.func90 rfl (K := (· < w.heap.size)) (fun _ h => h) (A := A) (n0 := 0) (b0 := 0) (rows := []) (hp := []) rfl (Nat.zero_le _) (fun k r h => by cases h) rfl (fun k r h => by cases h) rfl rfl (Nat.le_of_ble_eq_true rfl) ?_
    conv => whnf
    repeat (refine V_step T_ok .nil rfl ?_; conv => whnf)
    repeat (any_goals (first
      | (refine V_step T_ok .nil rfl ?_; conv => whnf)
      | (refine V_drawA T_ok .nil mixed (by kernel_rfl) ?_; conv => whnf)
      | (refine bcond_split (fun hc => ?_) (fun hc => ?_) <;> (try simp only [decide_eq_true_eq, decide_eq_false_iff_not, Bool.not_eq_true', Bool.not_eq_false', Bool.and_eq_true, Bool.or_eq_true, Bool.and_eq_false_imp, Bool.or_eq_false_iff, ne_eq, Decidable.not_not] at hc) <;> conv => whnf)
      | (intro ysK hysK; have hysl := congrArg List.length hysK; (try simp only [List.length_set, List.length_append, List.length_cons, List.length_nil, List.length_take, List.length_drop, List.length_replicate] at hysl); conv => whnf)
      | (intro bK hbK; have hbl := congrArg ByteArray.size hbK; conv => whnf)
      | (intro sK hsK; conv => whnf)
      | (refine And.intro (by first | (first | exact True.intro | omega | (simp only [Rng]; omega)) | exact True.intro | exact ⟨rfl, True.intro, fun _ _ => rfl⟩ | exact Nat.le_of_ble_eq_true rfl | (refine ⟨by (try simp only [List.length_cons, List.length_nil]); omega, Int.le_trans (Int.mul_le_mul_of_nonneg_left (show (TInfo.bytes _ : Int) ≤ 64 from Int.ofNat_le.2 (Nat.le_of_ble_eq_true rfl)) (by omega)) (by (try simp only [List.length_cons, List.length_nil]); omega)⟩)) ?_; conv => whnf)))
    refine leaf0 rfl (congrArg (fun z => AVal.tup [.int .u64 z, .int .u64 (x * y % 18446744073709551616)]) ?_) rfl
    have hx0 := and32 hx.1 hx.2
    have hy0 := and32 hy.1 hy.2
    have hx1 := sh32 hx.1
    have hy1 := sh32 hy.1
    rw [hx0, hy0, hx1, hy1]
    rw [sh32m, and32m, sh32m, sh32m]
    exact mul_hi rfl rfl rfl rfl hx hy
end Go.Proofs.Ytllagpbbbdekiaa.Fw
-- %intro
