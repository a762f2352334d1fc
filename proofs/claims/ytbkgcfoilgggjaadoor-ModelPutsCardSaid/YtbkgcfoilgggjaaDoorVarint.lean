/- varint and pack. -/
import Derived.Test.YtbkgcfoilgggjaaDoorBytes
import Derived.Deep.LoopGhost
import Derived.BigFrame
import Derived.Outline
set_option linter.unusedVariables false
set_option linter.unusedSimpArgs false
namespace Go.Proofs.YtbkgcfoilgggjaaDoor
open Go.RowKit

def vbytesF : Nat → Int → Bs
  | 0, _ => []
  | k + 1, v => if v ≥ 128 then u8 (v % 128 + 128) :: vbytesF k (v / 128) else [u8 v]
def vbytes (v : Int) : Bs := vbytesF 10 v

theorem or128 (m : Int) : bits .or .u8 (m % 256) 128 = m % 128 + 128 := by
  have h : ∀ k : Fin 256, bits .or .u8 (k.val : Int) 128 = (k.val : Int) % 128 + 128 := by decide +kernel
  have h0 : 0 ≤ m % 256 := by omega
  have h1 : m % 256 < 256 := by omega
  have := h ⟨(m % 256).toNat, by omega⟩
  simp only [Int.toNat_of_nonneg h0] at this
  rw [this]; omega
theorem or128' (m : Int) : (m % 256) % 128 + 128 = m % 128 + 128 := by omega
def vinv (j : Nat) (m n : Int) (acc : Bs) : Prop := j ≤ 9 ∧ acc.length = j ∧ acc ++ vbytesF (10 - j) m = vbytes n ∧ m * 128 ^ j ≤ n ∧ n < 18446744073709551616
theorem vinv_start (n : Int) (h : n < 18446744073709551616) : vinv 0 n n [] := ⟨by omega, rfl, rfl, by simp, h⟩
theorem vinv_len {j : Nat} {m n : Int} {acc : Bs} (h : vinv j m n acc) : acc.length ≤ 9 := by have := h.1; have := h.2.1; omega
theorem pow128 (j : Nat) : (0 : Int) < 128 ^ j := Int.pow_pos (by omega)
theorem vinv_step {j : Nat} {m n : Int} {acc : Bs} (h : vinv j m n acc) (hm : 128 ≤ m) : vinv (j + 1) (m / 128) n (acc ++ [u8 (m % 128 + 128)]) := by
  obtain ⟨h1, h2, h3, h4, h5⟩ := h
  have hj : j < 9 := by
    rcases Nat.lt_or_ge j 9 with h | h
    · exact h
    · obtain rfl : j = 9 := by omega
      have : m * 128 ^ 9 ≥ 128 * 128 ^ 9 := Int.mul_le_mul_of_nonneg_right hm (by decide)
      have e : (128 : Int) * 128 ^ 9 = 1180591620717411303424 := by decide
      omega
  refine ⟨by omega, by simp [h2], ?_, ?_, h5⟩
  · rw [← h3]
    obtain ⟨k, hk⟩ : ∃ k, 10 - j = k + 1 := ⟨9 - j, by omega⟩
    have hk2 : 10 - (j + 1) = k := by omega
    rw [hk, hk2]
    conv => rhs; rw [vbytesF, if_pos (by omega)]
    simp
  · have hp := pow128 j
    have : m / 128 * 128 ^ (j + 1) = (m / 128 * 128) * 128 ^ j := by rw [Int.pow_succ, Int.mul_comm (128 ^ j) 128, ← Int.mul_assoc]
    rw [this]
    exact Int.le_trans (Int.mul_le_mul_of_nonneg_right (by omega) (by omega)) h4
theorem vinv_end {j : Nat} {m n : Int} {acc : Bs} (h : vinv j m n acc) (h0 : 0 ≤ m) (hm : m < 128) : acc ++ [u8 m] = vbytes n := by
  obtain ⟨h1, h2, h3, h4, h5⟩ := h
  obtain ⟨k, hk⟩ : ∃ k, 10 - j = k + 1 := ⟨9 - j, by omega⟩
  rw [← h3, hk, vbytesF, if_neg (by omega)]
set_option maxRecDepth 100000 in
set_option maxHeartbeats 1000000 in
theorem put_any (v : Value) (l : Bs) (n : Int) (w : World) (h : RB w v l) (hl : l.length ≤ 140737488355000) (h0 : 0 ≤ n) (h1 : n < 18446744073709551616) :
    Calls Tryd.prog 73 #[v, .int .u64 n] w fun e w' => ∃ v', e = .returned v' ∧ OB w' w.heap.size v' (l ++ vbytes n) ∧ Below w.heap.size w w' := by
  have H := Lib.hid h
  clear h
  go_enter Tryd.func73, Tryd.ntmps73
  go_wp2_with fail
  refine (clone_any _ _ _ H.out (by omega)).mono ?_
  rintro e w1 ⟨v1, rfl, ho, hb⟩
  have HO := Lib.hid ho; clear ho
  go_wp2_with fail
  have H1 := Lib.hid h1
  have HS := Lib.hid (vinv_start n h1)
  clear h1
  go_loopw [1, 5] (fun x out wr => ∃ (j : Nat) (m : Int) (acc : Bs), x = .int .u64 m ∧ 0 ≤ m ∧ m < 18446744073709551616 ∧ vinv j m n acc ∧ OB wr w.heap.size out (l ++ acc) ∧ Below w.heap.size w wr) (fun x _ _ => (intOf x).toNat)
  case atStart => exact ⟨0, n, [], rfl, h0, H1.out, HS.out, by simpa using HO.out, hb⟩
  case round =>
    obtain ⟨j, m, acc, rfl, hm0, hm1, hv, ho, hbr⟩ := hrel
    have HV := Lib.hid hv
    have HM := Lib.hid hm1
    clear hm1
    have HO2 := Lib.hid ho
    have hsz := hbr.size
    clear hv ho
    have hor := or128 m
    have hal := vinv_len HV.out
    go_wp2_with (first | (at_builtin; refine wpList_pushB (.tmp 12) (.tmp 16) w.heap.size _ _ _ HO2.out ?_ ?_ ?_ hbr hsz rfl rfl rfl rfl ?_; (omega); (omega); (simp; omega); intro v' w' ho' hb' hg') | (at_builtin; refine wpList_pushB (.tmp 18) (.tmp 21) w.heap.size _ _ _ HO2.out ?_ ?_ ?_ hbr hsz rfl rfl rfl rfl ?_; (omega); (omega); (simp; omega); intro v' w' ho' hb' hg'))
    · have hm : 128 ≤ m := by assumption
      go_roundw
      case rel => exact ⟨j + 1, m / 128, _, rfl, by omega, by have := HM.out; omega, vinv_step HV.out hm, by rw [← List.append_assoc]; exact ho', hb'⟩
      case measure => simp [intOf]; omega
    · have hm : m < 128 := by assumption
      go_ret
      exact ⟨v', rfl, by rw [← vinv_end HV.out hm0 hm, ← List.append_assoc]; exact ho', hb'⟩

def vstep (m : Int) (b : UInt8) (k : Nat) : Int := bits .or .u64 m (IntKind.u64.wrap (IntKind.u64.wrap (bits .andNot .u8 b.toNat 128) * 2 ^ (7 * k)))
def vgetF : Bs → Nat → Int → Int × Int × Int
  | [], _, _ => (0, 0, 6)
  | b :: r, k, m => if k = 9 ∧ 1 < b.toNat then (0, 0, 2) else if b.toNat = 0 ∧ 0 < k then (0, 0, 3) else
      if b.toNat < 128 then (vstep m b k, k + 1, 0) else vgetF r (k + 1) (vstep m b k)
def vget (l : Bs) : Int × Int × Int := vgetF l 0 0
theorem vgetF_at {l : Bs} {k : Nat} {m : Int} (h : k < l.length) : vgetF (l.drop k) k m = if k = 9 ∧ 1 < l[k].toNat then ((0 : Int), (0 : Int), (2 : Int)) else if l[k].toNat = 0 ∧ 0 < k then (0, 0, 3) else
      if l[k].toNat < 128 then (vstep m l[k] k, (k : Int) + 1, 0) else vgetF (l.drop (k + 1)) (k + 1) (vstep m l[k] k) := by
  rw [List.drop_eq_getElem_cons h, vgetF]
def g3 (R : Int × Int × Int) : Ending := .returned (.tuple #[.int .u64 R.1, .int .i64 R.2.1, errV R.2.2])

set_option maxHeartbeats 400000 in
theorem get_nil (w : World) :
    Calls Tryd.prog 72 #[.slice none 0 0] w fun e w' => e = g3 (vget []) ∧ w' = w := by
  go_enter Tryd.func72, Tryd.ntmps72
  go_wp2
  refine wp_loop_rounds 1 ?_
  rw [rounds_succ]
  go_wp2
  go_ret3
  exact ⟨rfl, rfl⟩

set_option maxRecDepth 100000 in
set_option maxHeartbeats 1000000 in
theorem get_any (v : Value) (l : Bs) (w : World) (h : RB w v l) :
    Calls Tryd.prog 72 #[v] w fun e w' => e = g3 (vget l) ∧ w' = w := by
  have hlen := h.len
  rcases h.open with ⟨rfl, rfl⟩ | ⟨b, off, c, rfl, hc, hx⟩
  · exact get_nil w
  · have HX := Lib.hid hx
    clear hx
    have H := Lib.hid h; clear h
    go_enter Tryd.func72, Tryd.ntmps72
    go_wp2_with fail
    go_loop [5, 10] (fun x i => ∃ (k : Nat) (m : Int), x = .int .u64 m ∧ i = .int .i64 k ∧ k ≤ 9 ∧ k ≤ l.length ∧ vget l = vgetF (l.drop k) k m) (fun _ i => l.length - (intOf i).toNat)
    case atStart => exact ⟨0, 0, rfl, rfl, by omega, by omega, rfl⟩
    case round =>
      obtain ⟨k, m, rfl, rfl, hk9, hk, hm⟩ := hrel
      have HM := Lib.hid hm
      clear hm
      by_cases hlt : k < l.length
      · have hcell := HX.out k hlt
        have hb0 : (0 : Int) ≤ (l[k].toNat : Int) := by omega
        have hb1 : (l[k].toNat : Int) < 256 := by have := l[k].toNat_lt; omega
        have HA := Lib.hid (vgetF_at (m := m) hlt)
        go_wp2
        all_goals first
          | (go_ret3; refine ⟨?_, rfl⟩; rw [HM.out, HA.out]; split <;> (try split) <;> (try split) <;> first | omega | rfl | (simp [g3, vstep, errV, *]; done) | ((obtain rfl : k = 9 := by omega); simp [g3, vstep, errV]; done))
          | skip
        · go_round
          case rel => 
            refine ⟨k + 1, vstep m l[k] k, rfl, by go_num, by omega, by omega, ?_⟩
            rw [HM.out, HA.out, if_neg (by omega), if_neg (by omega), if_neg (by omega)]
          case measure => simp [intOf]; omega
      · have HE := Lib.hid (show vgetF (l.drop k) k m = (0, 0, 6) by rw [List.drop_of_length_le (by omega)]; rfl)
        go_wp2
        go_ret3
        exact ⟨by rw [HM.out, HE.out]; rfl, rfl⟩
end Go.Proofs.YtbkgcfoilgggjaaDoor
