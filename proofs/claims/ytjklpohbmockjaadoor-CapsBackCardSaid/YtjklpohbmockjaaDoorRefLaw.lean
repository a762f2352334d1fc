/- The plain law of references: a text of a reference is cut and read again. -/
import Derived.Test.YtjklpohbmockjaaDoorStrconv
import Derived.Lib.ParseIntB
import Derived.Lib.IndexMore
set_option linter.unusedVariables false
set_option linter.unusedSimpArgs false
namespace Go.Proofs.YtjklpohbmockjaaDoor
open Go.Lib

theorem digits_all (u : Nat) : ∀ b ∈ decDigits u, 48 ≤ b.toNat ∧ b.toNat ≤ 57 := by
  induction u using Nat.strongRecOn with
  | _ u ih =>
    intro b hb
    rw [decDigits] at hb
    split at hb
    · rw [List.mem_singleton] at hb
      subst hb
      rw [UInt8.toNat_ofNat']
      omega
    · rename_i h10
      rcases List.mem_append.1 hb with h | h
      · exact ih (u / 10) (by omega) b h
      · rw [List.mem_singleton] at h
        subst h
        rw [UInt8.toNat_ofNat']
        omega
theorem digits_ne (u : Nat) : decDigits u ≠ [] := by
  rw [decDigits]; split <;> simp
theorem index_digits (l r : List UInt8) (h : ∀ b ∈ l, b ≠ 46) : index (l ++ 46 :: r) [46] = l.length := by
  induction l with
  | nil => simp [index]
  | cons b l ih =>
    have hb : b ≠ 46 := h b (by simp)
    have ih' := ih (fun x hx => h x (by simp [hx]))
    simp only [List.cons_append, index]
    rw [ih']
    have : ([46] : List UInt8).isPrefixOf (b :: (l ++ 46 :: r)) = false := by simp [List.isPrefixOf, Ne.symm hb]
    rw [this]
    have h2 : ((l.length : Int) == -1) = false := by simp
    simp [h2]
theorem cut_ref (s g : Int) : cut (refText s g) [46] = (decDigits s.toNat, decDigits g.toNat, true) := by
  have hi : index (refText s g) [46] = (decDigits s.toNat).length := by
    unfold refText
    rw [List.append_assoc]
    exact index_digits _ _ (fun b hb e => by have := digits_all _ b hb; subst e; simp at this)
  unfold cut
  rw [hi]
  unfold refText
  simp
theorem parseM_append (M : Nat) : ∀ (l r : List UInt8) (acc u : Nat), parseUintM M acc l = .ok u → parseUintM M acc (l ++ r) = parseUintM M u r
  | [], r, acc, u, h => by simp [parseUintM] at h; simp [h]
  | c :: l, r, acc, u, h => by
    simp only [List.cons_append, parseUintM] at h ⊢
    split at h
    · rename_i h1
      rw [if_pos h1]
      split at h
      · simp at h
      · rename_i h2
        rw [if_neg h2]
        split at h
        · simp at h
        · rename_i h3
          rw [if_neg h3]
          exact parseM_append M l r _ u h
    · simp at h
theorem parseM_digits (M : Nat) (hM : M ≤ 18446744073709551615) (u : Nat) (hu : u ≤ M) : parseUintM M 0 (decDigits u) = .ok u := by
  induction u using Nat.strongRecOn with
  | _ u ih =>
    rw [decDigits]
    split
    · rename_i h10
      have e : (UInt8.ofNat (48 + u)).toNat = 48 + u := by rw [UInt8.toNat_ofNat']; omega
      simp only [parseUintM, e]
      rw [if_pos (by omega), if_neg (by omega), if_neg (by omega)]
      congr 1; omega
    · rename_i h10
      have e : (UInt8.ofNat (48 + u % 10)).toNat = 48 + u % 10 := by rw [UInt8.toNat_ofNat']; omega
      rw [parseM_append M _ _ 0 (u / 10) (ih (u / 10) (by omega) (by omega))]
      simp only [parseUintM, e]
      rw [if_pos (by omega), if_neg (by omega), if_neg (by omega)]
      congr 1; omega
theorem parse8 {u : Nat} (h : u ≤ 255) : parseUintB 8 (decDigits u) = .ok u := by
  unfold parseUintB; rw [if_neg (digits_ne u)]; exact parseM_digits _ (by decide) u h
theorem parse64 {u : Nat} (h : u ≤ 18446744073709551615) : parseUintB 64 (decDigits u) = .ok u := by
  unfold parseUintB; rw [if_neg (digits_ne u)]; exact parseM_digits _ (by decide) u h
end Go.Proofs.YtjklpohbmockjaaDoor
