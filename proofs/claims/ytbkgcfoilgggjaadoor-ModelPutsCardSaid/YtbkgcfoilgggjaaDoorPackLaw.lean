/- The plain law of pack's numbers and texts: what is put is read. -/
import Derived.Test.YtbkgcfoilgggjaaDoorRd
import Derived.Test.YtbkgcfoilgggjaaDoorVarLaw
set_option linter.unusedVariables false
set_option linter.unusedSimpArgs false
namespace Go.Proofs.YtbkgcfoilgggjaaDoor

theorem pow128_succ (k : Nat) : (128 : Int) ^ (k + 1) = 128 * 128 ^ k := by rw [Int.pow_succ, Int.mul_comm]
theorem split128 (n p : Int) : n % 128 * p + n / 128 * (128 * p) = n * p := by
  have h : n % 128 + 128 * (n / 128) = n := Int.emod_add_mul_ediv n 128
  calc n % 128 * p + n / 128 * (128 * p) = (n % 128 + 128 * (n / 128)) * p := by
        rw [Int.add_mul, ← Int.mul_assoc, Int.mul_comm (n / 128) 128]
    _ = n * p := by rw [h]
theorem vget_put : ∀ (f k : Nat) (n m : Int) (rest : Bs), f + k = 10 → 0 ≤ n → 0 ≤ m → m < 128 ^ k → n * 128 ^ k < 18446744073709551616 → (0 < k → 1 ≤ n) →
    vgetF (vbytesF f n ++ rest) k m = (m + n * 128 ^ k, (k : Int) + (vbytesF f n).length, 0)
  | 0, k, n, m, rest, hk, h0, hm, hm1, hn, hk1 => by
    obtain rfl : k = 10 := by omega
    have := hk1 (by omega)
    have h2 : (1 : Int) * 128 ^ 10 ≤ n * 128 ^ 10 := Int.mul_le_mul_of_nonneg_right this (by decide)
    have e : (1 : Int) * 128 ^ 10 = 1180591620717411303424 := by decide
    omega
  | f + 1, k, n, m, rest, hk, h0, hm, hm1, hn, hk1 => by
    have hp := pow128 k
    rw [vbytesF]
    by_cases h : n ≥ 128
    · rw [if_pos h]
      have hb : (u8 (n % 128 + 128)).toNat = (n % 128).toNat + 128 := by
        have := u8_toNat (x := n % 128 + 128) (by omega) (by omega)
        omega
      have hk9 : k < 9 := by
        rcases Nat.lt_or_ge k 9 with h' | h'
        · exact h'
        · obtain rfl : k = 9 := by omega
          have h2 : (128 : Int) * 128 ^ 9 ≤ n * 128 ^ 9 := Int.mul_le_mul_of_nonneg_right h (by decide)
          have e : (128 : Int) * 128 ^ 9 = 1180591620717411303424 := by decide
          omega
      simp only [List.cons_append, vgetF]
      rw [if_neg (by omega), if_neg (by omega), if_neg (by omega)]
      have hv := vstep_eq (m := m) (b := u8 (n % 128 + 128)) (k := k) hm hm1 (by omega) (by omega)
      have e1 : ((u8 (n % 128 + 128)).toNat : Int) % 128 = n % 128 := by rw [hb]; omega
      rw [e1] at hv
      have hx0 : 0 ≤ n % 128 * 128 ^ k := Int.mul_nonneg (by omega) (by omega)
      have hsp := split128 n (128 ^ k)
      have ih := vget_put f (k + 1) (n / 128) (vstep m (u8 (n % 128 + 128)) k) rest (by omega) (by omega) (by rw [hv.1]; omega) hv.2.1 (by rw [pow128_succ]; omega) (fun _ => by omega)
      rw [ih, hv.1, pow128_succ]
      simp only [List.length_cons, Prod.mk.injEq, and_true]
      constructor <;> omega
    · rw [if_neg h]
      have hb : (u8 n).toNat = n.toNat := by
        have := u8_toNat (x := n) (by omega) (by omega)
        omega
      simp only [List.cons_append, List.nil_append, vgetF]
      have h9 : ¬ (k = 9 ∧ 1 < (u8 n).toNat) := by
        rintro ⟨rfl, h1⟩
        have h2 : (2 : Int) * 128 ^ 9 ≤ n * 128 ^ 9 := Int.mul_le_mul_of_nonneg_right (by omega) (by decide)
        have e : (2 : Int) * 128 ^ 9 = 18446744073709551616 := by decide
        omega
      rw [if_neg h9, if_neg (by intro h1; have := hk1 h1.2; omega), if_pos (by omega)]
      have hv := vstep_eq (m := m) (b := u8 n) (k := k) hm hm1 (by omega) (by omega)
      have e1 : ((u8 n).toNat : Int) % 128 = n := by rw [hb]; omega
      rw [e1] at hv
      rw [hv.1]
      simp
theorem vget_vbytes (n : Int) (rest : Bs) (h0 : 0 ≤ n) (h1 : n < 18446744073709551616) : vget (vbytes n ++ rest) = (n, ((vbytes n).length : Int), 0) := by
  have := vget_put 10 0 n 0 rest (by omega) h0 (by omega) (by simp) (by simpa using h1) (by omega)
  unfold vget vbytes
  rw [this]
  simp

theorem rNum_vbytes (most n : Int) (rest : Bs) (b : Bool) (h0 : 0 ≤ n) (h1 : n ≤ most) (h2 : n < 18446744073709551616) : rNum most (vbytes n ++ rest) b = (n, rest, b) := by
  unfold rNum
  rw [vget_vbytes n rest h0 h2]
  simp
  omega
theorem rByte_cons (x : UInt8) (rest : Bs) (b : Bool) : rByte (x :: rest) b = ((x.toNat : Int), rest, b) := by simp [rByte]
theorem rByte_nil (b : Bool) : rByte [] b = (0, [], true) := by simp [rByte]
theorem rBytes_put' (most : Int) (l rest : Bs) (b : Bool) (h : l.length ≤ most) (hm : most < 18446744073709551616) : rBytes most (vbytes l.length ++ (l ++ rest)) b = (l, rest, b) := by
  unfold rBytes
  rw [rNum_vbytes most l.length (l ++ rest) b (by omega) h (by omega)]
  simp
  intro h; omega
theorem u8_byte (x : UInt8) : u8 (x.toNat : Int) = x := by simp [u8]
end Go.Proofs.YtbkgcfoilgggjaaDoor
