/- The plain law of varints: what is put is got. -/
import Derived.Test.YtbkgcfoilgggjaaDoorVarint
import Derived.Laws.BitsLemmas
set_option linter.unusedVariables false
set_option linter.unusedSimpArgs false
namespace Go.Proofs.YtbkgcfoilgggjaaDoor
open Go.RowKit

theorem bits_or_comm (k : IntKind) (x y : Int) : bits .or k x y = bits .or k y x := by
  unfold bits; simp only [BitVec.or_comm]
theorem wraps_u64 (n : Int) (h0 : 0 ≤ n) (h1 : n < 2 ^ 64) : IntKind.u64.wrap n = n := by
  simp only [IntKind.wrap, IntKind.bits, IntKind.signed]; simp; omega
theorem andNot128 (b : UInt8) : bits .andNot .u8 (b.toNat : Int) 128 = (b.toNat : Int) % 128 := by
  have h : ∀ k : Fin 256, bits .andNot .u8 (k.val : Int) 128 = (k.val : Int) % 128 := by decide +kernel
  exact h ⟨b.toNat, b.toNat_lt⟩
theorem pow2_7 (k : Nat) : (2 : Int) ^ (7 * k) = 128 ^ k := by rw [Int.pow_mul]; rfl
theorem vstep_eq {m : Int} {b : UInt8} {k : Nat} (h0 : 0 ≤ m) (h1 : m < 128 ^ k) (hk : k ≤ 9) (h9 : k = 9 → b.toNat ≤ 1) :
    vstep m b k = m + (b.toNat : Int) % 128 * 128 ^ k ∧ vstep m b k < 128 ^ (k + 1) ∧ vstep m b k < 18446744073709551616 := by
  have hp := pow128 k
  have hb0 : (0 : Int) ≤ (b.toNat : Int) % 128 := by omega
  have hb1 : (b.toNat : Int) % 128 ≤ 127 := by omega
  have hx0 : (0 : Int) ≤ (b.toNat : Int) % 128 * 128 ^ k := Int.mul_nonneg hb0 (by omega)
  have hle : (b.toNat : Int) % 128 * 128 ^ k ≤ 18446744073709551616 - 128 ^ k := by
    rcases Nat.lt_or_ge k 9 with h | h
    · have h1 : (b.toNat : Int) % 128 * 128 ^ k ≤ 127 * 128 ^ k := Int.mul_le_mul_of_nonneg_right hb1 (by omega)
      have h2 : (128 : Int) ^ k ≤ 128 ^ 8 := by
        have : 128 ^ k ≤ 128 ^ 8 := Nat.pow_le_pow_right (n := 128) (by omega) (by omega : k ≤ 8)
        exact_mod_cast this
      have e : (128 : Int) ^ 8 = 72057594037927936 := by decide
      omega
    · obtain rfl : k = 9 := by omega
      have := h9 rfl
      have h1 : (b.toNat : Int) % 128 * 128 ^ 9 ≤ 1 * 128 ^ 9 := Int.mul_le_mul_of_nonneg_right (by omega) (by decide)
      have e : (128 : Int) ^ 9 = 9223372036854775808 := by decide
      omega
  have hx1 : (b.toNat : Int) % 128 * 128 ^ k < 18446744073709551616 := by omega
  have e1 : vstep m b k = m + (b.toNat : Int) % 128 * 128 ^ k := by
    unfold vstep
    rw [andNot128, pow2_7, wraps_u64 _ hb0 (by omega), wraps_u64 _ hx0 hx1, bits_or_comm,
      bits_join .u64 64 (by decide) wraps_u64 (7 * k)]
    · omega
    · omega
    all_goals first | (rw [pow2_7]; exact Int.mul_emod_left _ _) | (rw [pow2_7]; exact h1) | omega
  refine ⟨e1, ?_, by omega⟩
  rw [e1, Int.pow_succ]
  have : (b.toNat : Int) % 128 * 128 ^ k ≤ 127 * 128 ^ k := Int.mul_le_mul_of_nonneg_right hb1 (by omega)
  omega

theorem vgetF_ok : ∀ (l : Bs) (k : Nat) (m : Int) (v n : Int), k ≤ 9 → 0 ≤ m → m < 128 ^ k → vgetF l k m = (v, n, 0) → 0 ≤ v ∧ v < 18446744073709551616 ∧ (k : Int) + 1 ≤ n ∧ n ≤ k + l.length
  | [], k, m, v, n, _, _, _, h => by simp [vgetF] at h
  | b :: r, k, m, v, n, hk, h0, h1, h => by
    rw [vgetF] at h
    split at h
    · simp at h
    · rename_i hn9
      split at h
      · simp at h
      · have hv := vstep_eq (b := b) h0 h1 hk (by intro e; omega)
        have hb0 : (0 : Int) ≤ (b.toNat : Int) % 128 * 128 ^ k := Int.mul_nonneg (by omega) (by have := pow128 k; omega)
        split at h
        · simp only [Prod.mk.injEq] at h
          obtain ⟨rfl, rfl, _⟩ := h
          simp only [List.length_cons]
          omega
        · rename_i hlt
          have := vgetF_ok r (k + 1) _ v n (by omega) (by omega) hv.2.1 h
          simp only [List.length_cons]
          omega
theorem vget_ok {l : Bs} {v n : Int} (h : vget l = (v, n, 0)) : 0 ≤ v ∧ 1 ≤ n ∧ n ≤ l.length := by
  have := vgetF_ok l 0 0 v n (by omega) (by omega) (by simp) h
  omega
theorem vget_lt {l : Bs} {v n : Int} (h : vget l = (v, n, 0)) : v < 18446744073709551616 := (vgetF_ok l 0 0 v n (by omega) (by omega) (by simp) h).2.1

end Go.Proofs.YtbkgcfoilgggjaaDoor
