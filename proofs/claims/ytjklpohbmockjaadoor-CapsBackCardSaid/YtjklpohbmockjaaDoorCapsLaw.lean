/- The plain law of capabilities: what is encoded is decoded; cut short it is none. -/
import Derived.Test.YtjklpohbmockjaaDoorDecode
import Derived.Test.YtjklpohbmockjaaDoorEncode
set_option linter.unusedVariables false
set_option linter.unusedSimpArgs false
namespace Go.Proofs.YtjklpohbmockjaaDoor

theorem pow128_succ (k : Nat) : (128 : Int) ^ (k + 1) = 128 * 128 ^ k := by rw [Int.pow_succ, Int.mul_comm]
theorem split128 (n p : Int) : n % 128 * p + n / 128 * (128 * p) = n * p := by
  have h : n % 128 + 128 * (n / 128) = n := Int.emod_add_mul_ediv n 128
  calc n % 128 * p + n / 128 * (128 * p) = (n % 128 + 128 * (n / 128)) * p := by
        rw [Int.add_mul, ← Int.mul_assoc, Int.mul_comm (n / 128) 128]
    _ = n * p := by rw [h]
theorem vget_put : ∀ (f k : Nat) (n m : Int) (rest : Bs), f + k = 10 → 0 ≤ n → 0 ≤ m → m < 128 ^ k → n * 128 ^ k < 18446744073709551616 → (0 < k → 1 ≤ n) →
    vgetF (vbytesF f n ++ rest) k m = (m + n * 128 ^ k, (k : Int) + (vbytesF f n).length, 0)
  | 0, k, n, m, rest, hk, h0, hm, hm1, hn, hk1 => by
    obtain rfl : k = 10 := by omega
    have := hk1 (by omega)
    have h2 : (1 : Int) * 128 ^ 10 ≤ n * 128 ^ 10 := Int.mul_le_mul_of_nonneg_right this (by decide)
    have e : (1 : Int) * 128 ^ 10 = 1180591620717411303424 := by decide
    omega
  | f + 1, k, n, m, rest, hk, h0, hm, hm1, hn, hk1 => by
    have hp := pow128 k
    rw [vbytesF]
    by_cases h : n ≥ 128
    · rw [if_pos h]
      have hb : (u8 (n % 128 + 128)).toNat = (n % 128).toNat + 128 := by
        have := u8_toNat (x := n % 128 + 128) (by omega) (by omega)
        omega
      have hk9 : k < 9 := by
        rcases Nat.lt_or_ge k 9 with h' | h'
        · exact h'
        · obtain rfl : k = 9 := by omega
          have h2 : (128 : Int) * 128 ^ 9 ≤ n * 128 ^ 9 := Int.mul_le_mul_of_nonneg_right h (by decide)
          have e : (128 : Int) * 128 ^ 9 = 1180591620717411303424 := by decide
          omega
      simp only [List.cons_append, vgetF]
      rw [if_neg (by omega), if_neg (by omega), if_neg (by omega)]
      have hv := vstep_eq (m := m) (b := u8 (n % 128 + 128)) (k := k) hm hm1 (by omega) (by omega)
      have e1 : ((u8 (n % 128 + 128)).toNat : Int) % 128 = n % 128 := by rw [hb]; omega
      rw [e1] at hv
      have hx0 : 0 ≤ n % 128 * 128 ^ k := Int.mul_nonneg (by omega) (by omega)
      have hsp := split128 n (128 ^ k)
      have ih := vget_put f (k + 1) (n / 128) (vstep m (u8 (n % 128 + 128)) k) rest (by omega) (by omega) (by rw [hv.1]; omega) hv.2.1 (by rw [pow128_succ]; omega) (fun _ => by omega)
      rw [ih, hv.1, pow128_succ]
      simp only [List.length_cons, Prod.mk.injEq, and_true]
      constructor <;> omega
    · rw [if_neg h]
      have hb : (u8 n).toNat = n.toNat := by
        have := u8_toNat (x := n) (by omega) (by omega)
        omega
      simp only [List.cons_append, List.nil_append, vgetF]
      have h9 : ¬ (k = 9 ∧ 1 < (u8 n).toNat) := by
        rintro ⟨rfl, h1⟩
        have h2 : (2 : Int) * 128 ^ 9 ≤ n * 128 ^ 9 := Int.mul_le_mul_of_nonneg_right (by omega) (by decide)
        have e : (2 : Int) * 128 ^ 9 = 18446744073709551616 := by decide
        omega
      rw [if_neg h9, if_neg (by intro h1; have := hk1 h1.2; omega), if_pos (by omega)]
      have hv := vstep_eq (m := m) (b := u8 n) (k := k) hm hm1 (by omega) (by omega)
      have e1 : ((u8 n).toNat : Int) % 128 = n := by rw [hb]; omega
      rw [e1] at hv
      rw [hv.1]
      simp
theorem vget_vbytes (n : Int) (rest : Bs) (h0 : 0 ≤ n) (h1 : n < 18446744073709551616) : vget (vbytes n ++ rest) = (n, ((vbytes n).length : Int), 0) := by
  have := vget_put 10 0 n 0 rest (by omega) h0 (by omega) (by simp) (by simpa using h1) (by omega)
  unfold vget vbytes
  rw [this]
  simp

theorem rNum_vbytes (most n : Int) (rest : Bs) (b : Bool) (h0 : 0 ≤ n) (h1 : n ≤ most) (h2 : n < 18446744073709551616) : rNum most (vbytes n ++ rest) b = (n, rest, b) := by
  unfold rNum
  rw [vget_vbytes n rest h0 h2]
  simp
  omega
theorem rByte_cons (x : UInt8) (rest : Bs) (b : Bool) : rByte (x :: rest) b = ((x.toNat : Int), rest, b) := by simp [rByte]
theorem rByte_nil (b : Bool) : rByte [] b = (0, [], true) := by simp [rByte]
theorem rBytes_put (l rest : Bs) (b : Bool) (h : l.length ≤ 40) : rBytes 40 (vbytes l.length ++ l ++ rest) b = (l, rest, b) := by
  unfold rBytes
  rw [List.append_assoc, rNum_vbytes 40 l.length (l ++ rest) b (by omega) (by omega) (by omega)]
  simp
  intro h; omega
theorem rNum_range2 (most : Int) (l : Bs) (b : Bool) (h : 0 ≤ most) : 0 ≤ (rNum most l b).1 := (rNum_range most l b h).1

/-- What the numbers of a capability are, as its types have it. -/
def Wf (c : Cap) : Prop := 0 ≤ c.gen ∧ c.gen < 18446744073709551616 ∧ 0 ≤ c.holder ∧ c.holder < 18446744073709551616 ∧ 0 ≤ c.fgen ∧ c.fgen < 18446744073709551616 ∧ 0 ≤ c.rights ∧ c.rights < 256

theorem check_zero {slot : Int} {c : Cap} (h : checkE slot c = 0) : okB slot c = true := by
  unfold checkE at h
  cases ho : okB slot c
  · rw [ho] at h; simp at h
  · rfl
theorem check_facts {slot gen holder fslot fgen : Int} {pre : Bs} {rights : Int} (h : checkE slot ⟨gen, true, holder, fslot, fgen, pre, rights⟩ = 0) :
    0 ≤ slot ∧ slot < 64 ∧ 1 ≤ gen ∧ gen ≤ 4611686018427387904 ∧ holder ≤ 4611686018427387904 ∧ 0 ≤ fslot ∧ fslot < 64 ∧ 1 ≤ fgen ∧ fgen ≤ 4611686018427387904 ∧ pre.length ≤ 40 := by
  have := check_zero h
  simp only [okB, Bool.and_eq_true, decide_eq_true_eq, if_true, rootedB, mayB] at this
  obtain ⟨⟨⟨⟨h1, h2⟩, h3⟩, h4⟩, ⟨h5, ⟨⟨h6, h7⟩, h8⟩⟩, h9⟩ := this
  refine ⟨h1, h2, h3, h4, h5, h6.1, h6.2.1, h6.2.2.1, h6.2.2.2, ?_⟩
  unfold scopeE at h9
  split at h9
  · simp at h9
  · rename_i h; omega
theorem check_facts_gone {slot gen holder fslot fgen : Int} {pre : Bs} {rights : Int} (h : checkE slot ⟨gen, false, holder, fslot, fgen, pre, rights⟩ = 0) :
    0 ≤ slot ∧ slot < 64 ∧ 1 ≤ gen ∧ gen ≤ 4611686018427387904 ∧ holder = 0 ∧ fslot = 0 ∧ fgen = 0 ∧ pre = [] ∧ rights = 0 := by
  have := check_zero h
  simp only [okB, Bool.and_eq_true, decide_eq_true_eq] at this
  obtain ⟨⟨⟨⟨h1, h2⟩, h3⟩, h4⟩, h5⟩ := this
  simp at h5
  exact ⟨h1, h2, h3, h4, h5⟩

theorem u8_byte (x : UInt8) : u8 (x.toNat : Int) = x := by simp [u8]
theorem decode_live {slot gen holder fslot fgen : Int} {pre : Bs} {rights : Int} (hw : Wf ⟨gen, true, holder, fslot, fgen, pre, rights⟩) (h : checkE slot ⟨gen, true, holder, fslot, fgen, pre, rights⟩ = 0) (rest : Bs) :
    decC (vbytes gen ++ [u8 1] ++ vbytes holder ++ [u8 (Go.IntKind.u8.wrap fslot)] ++ vbytes fgen ++ vbytes pre.length ++ pre ++ rest) =
      let r := rByte rest false
      (⟨gen, true, holder, fslot, fgen, pre, r.1⟩, 1, r.2.1, r.2.2) := by
  obtain ⟨h1, h2, h3, h4, h5, h6, h7, h8, h9, h10⟩ := check_facts h
  obtain ⟨w1, w2, w3, w4, w5, w6, w7, w8⟩ := hw
  simp only at w1 w2 w3 w4 w5 w6 w7 w8
  unfold decC
  simp only [List.append_assoc]
  rw [rNum_vbytes _ gen _ _ (by omega) (by omega) (by omega)]
  have e1 : (u8 1).toNat = 1 := rfl
  simp only [List.singleton_append, rByte_cons, e1]
  have e2 : ((u8 (Go.IntKind.u8.wrap fslot)).toNat : Int) = fslot := by
    rw [IntKind.wrap_u8, u8_toNat (by omega) (by omega)]; omega
  rw [if_pos (by rfl), rNum_vbytes _ holder _ _ (by omega) (by omega) (by omega)]
  simp only [rByte_cons, e2]
  rw [rNum_vbytes _ fgen _ _ (by omega) (by omega) (by omega)]
  have := rBytes_put pre rest false h10
  rw [List.append_assoc] at this
  simp only [this]
theorem decode_enc {slot : Int} {c : Cap} (hw : Wf c) (h : checkE slot c = 0) : decode slot (encB c) = (c, 0) := by
  obtain ⟨gen, live, holder, fslot, fgen, pre, rights⟩ := c
  cases live with
  | true =>
    have hf := check_facts h
    have hd := decode_live hw h [u8 rights]
    have w7 := hw.2.2.2.2.2.2
    simp only at w7
    rw [rByte_cons] at hd
    have e : ((u8 rights).toNat : Int) = rights := u8_toNat w7.1 w7.2
    simp only [e] at hd
    unfold decode encB
    simp only [if_true, hd, h]
    rw [if_neg (by omega)]
    simp [doneE]
  | false =>
    obtain ⟨h1, h2, h3, h4, rfl, rfl, rfl, rfl, rfl⟩ := check_facts_gone h
    have w1 := hw.1; have w2 := hw.2.1
    simp only at w1 w2
    unfold decode encB decC
    have e0 : (u8 0).toNat = 0 := rfl
    rw [if_neg (by omega)]
    simp only [Bool.false_eq_true, if_false]
    rw [rNum_vbytes _ gen _ _ (by omega) (by omega) (by omega)]
    simp only [rByte_cons, e0]
    simp [doneE, h]
theorem decode_cut {slot : Int} {c : Cap} (hw : Wf c) (h : checkE slot c = 0) : (decode slot ((encB c).take ((encB c).length - 1))).2 = 3 := by
  obtain ⟨gen, live, holder, fslot, fgen, pre, rights⟩ := c
  have htake : ∀ (l : Bs) (x : UInt8), (l ++ [x]).take ((l ++ [x]).length - 1) = l := by
    intro l x; simp
  cases live with
  | true =>
    have hf := check_facts h
    have hd := decode_live hw h []
    rw [rByte_nil] at hd
    simp only [List.append_nil] at hd
    unfold encB
    simp only [if_true]
    rw [htake]
    unfold decode
    rw [if_neg (by omega)]
    simp only [hd]
    simp [doneE]
  | false =>
    obtain ⟨h1, h2, h3, h4, rfl, rfl, rfl, rfl, rfl⟩ := check_facts_gone h
    have w1 := hw.1; have w2 := hw.2.1
    simp only at w1 w2
    unfold encB
    simp only [Bool.false_eq_true, if_false]
    rw [htake]
    unfold decode decC
    rw [if_neg (by omega)]
    have := rNum_vbytes 4611686018427387904 gen [] false (by omega) (by omega) (by omega)
    rw [List.append_nil] at this
    simp only [this, rByte_nil]
    simp [doneE]
theorem encB_ne {c : Cap} : encB c ≠ [] := by
  unfold encB; split <;> simp
theorem encB_len {slot : Int} {c : Cap} (h : checkE slot c = 0) : (encB c).length ≤ 100 := by
  obtain ⟨gen, live, holder, fslot, fgen, pre, rights⟩ := c
  have a1 := vbytes_len gen; have a2 := vbytes_len holder; have a3 := vbytes_len fgen; have a4 := vbytes_len pre.length
  cases live with
  | true => have hf := check_facts h; simp [encB]; omega
  | false => simp [encB]; omega
end Go.Proofs.YtjklpohbmockjaaDoor
