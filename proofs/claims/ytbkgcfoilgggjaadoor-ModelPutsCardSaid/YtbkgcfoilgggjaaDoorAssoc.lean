/- Sorted lists of entries, and a map's datum made of one. No program in sight. -/
import Derived.Maps.Views
import Derived.Sort.KeysCollected
import Derived.Maps.OwnOps
set_option linter.unusedVariables false
set_option linter.unusedSimpArgs false
namespace Go.Proofs.YtbkgcfoilgggjaaDoor
open Go.Maps

abbrev Bt := List UInt8
abbrev Ent := Bt × Bt
def SL (L : List Ent) : Prop := L.Pairwise fun p q => p.1 < q.1
def lput : List Ent → Bt → Bt → List Ent
  | [], k, v => [(k, v)]
  | (a, b) :: r, k, v => if k < a then (k, v) :: (a, b) :: r else if a = k then (k, v) :: r else (a, b) :: lput r k v
def ldel (L : List Ent) (k : Bt) : List Ent := L.filter fun p => !(p.1 == k)
def lget (L : List Ent) (k : Bt) : Option Bt := (L.find? fun p => p.1 == k).map (·.2)
def toD (L : List Ent) : DataW Unit := .map (L.map fun p => (.string p.1, .lit (.string p.2)))

theorem bytesBefore_eq : ∀ a b : Bt, bytesBefore a b = decide (a < b)
  | [], [] => by simp [bytesBefore]
  | [], _ :: _ => by simp [bytesBefore]
  | _ :: _, [] => by simp [bytesBefore]
  | x :: a, y :: b => by
    unfold bytesBefore
    rw [bytesBefore_eq a b, Bool.eq_iff_iff]
    simp [List.cons_lt_cons_iff]
theorem lt_irrefl' (a : Bt) : ¬ a < a := List.lt_irrefl a
theorem lt_tri {a b : Bt} (h1 : ¬ a < b) (h2 : b ≠ a) : b < a := by
  have := List.not_lt.1 h1
  rcases Decidable.em (b < a) with h | h
  · exact h
  · exact absurd (List.le_antisymm this (List.not_lt.1 h)) h2
theorem lput_mem {L : List Ent} {k v : Bt} {p : Ent} (h : p ∈ lput L k v) : p = (k, v) ∨ p ∈ L := by
  induction L with
  | nil => left; simpa [lput] using h
  | cons x r ih =>
    obtain ⟨a, b⟩ := x
    simp only [lput] at h
    split at h
    · rcases List.mem_cons.1 h with h | h
      · exact .inl h
      · exact .inr h
    · split at h
      · rcases List.mem_cons.1 h with h | h
        · exact .inl h
        · exact .inr (List.mem_cons_of_mem _ h)
      · rcases List.mem_cons.1 h with h | h
        · exact .inr (by simp [h])
        · rcases ih h with h | h
          · exact .inl h
          · exact .inr (List.mem_cons_of_mem _ h)
theorem SL.put {L : List Ent} (h : SL L) (k v : Bt) : SL (lput L k v) := by
  induction L with
  | nil => simp [lput, SL]
  | cons x r ih =>
    obtain ⟨a, b⟩ := x
    simp only [SL, List.pairwise_cons] at h
    simp only [lput]
    split
    · rename_i hlt
      simp only [SL, List.pairwise_cons]
      refine ⟨fun p hp => ?_, h.1, h.2⟩
      rcases List.mem_cons.1 hp with rfl | hp
      · exact hlt
      · exact List.lt_trans hlt (h.1 p hp)
    · rename_i hn
      split
      · rename_i he
        subst he
        simp only [SL, List.pairwise_cons]
        exact ⟨fun p hp => h.1 p hp, h.2⟩
      · rename_i hne
        simp only [SL, List.pairwise_cons]
        refine ⟨fun p hp => ?_, ih h.2⟩
        rcases lput_mem hp with rfl | hp
        · exact lt_tri hn hne
        · exact h.1 p hp
theorem SL.del {L : List Ent} (h : SL L) (k : Bt) : SL (ldel L k) := List.Pairwise.filter _ h
theorem lget_put {L : List Ent} (h : SL L) (k v k' : Bt) : lget (lput L k v) k' = if k' = k then some v else lget L k' := by
  induction L with
  | nil =>
    by_cases e : k' = k
    · subst e; simp [lput, lget]
    · have e' : (k == k') = false := beq_eq_false_iff_ne.2 (Ne.symm e)
      simp only [lput, lget, List.find?_cons, e', if_neg e]
  | cons x r ih =>
    obtain ⟨a, b⟩ := x
    simp only [SL, List.pairwise_cons] at h
    have ih := ih h.2
    simp only [lget] at ih ⊢
    simp only [lput]
    split
    · rename_i hlt
      by_cases e : k' = k
      · simp [e]
      · simp [e, show ¬ k = k' from fun h => e h.symm]
    · split
      · rename_i hn he
        subst he
        by_cases e : k' = a
        · simp [e]
        · simp [e, show ¬ a = k' from fun h => e h.symm]
      · rename_i hn hne
        by_cases e : a = k'
        · subst e; simp [hne]
        · simp only [List.find?_cons, beq_eq_false_iff_ne.2 e]; exact ih
theorem find_filter_ne {L : List Ent} {k k' : Bt} (h : k' ≠ k) : (L.filter fun p => !(p.1 == k)).find? (fun p => p.1 == k') = L.find? fun p => p.1 == k' := by
  induction L with
  | nil => rfl
  | cons x r ih =>
    by_cases e : x.1 = k
    · rw [List.filter_cons_of_neg (by simp [e]), ih, List.find?_cons, beq_eq_false_iff_ne.2 (by rw [e]; exact Ne.symm h)]
    · rw [List.filter_cons_of_pos (by simp [e]), List.find?_cons, List.find?_cons, ih]
theorem lget_del {L : List Ent} (k k' : Bt) : lget (ldel L k) k' = if k' = k then none else lget L k' := by
  unfold lget ldel
  by_cases e : k' = k
  · subst e
    have : (L.filter fun p => !(p.1 == k')).find? (fun p => p.1 == k') = none := by
      rw [List.find?_eq_none]
      intro x hx
      have := (List.mem_filter.1 hx).2
      simpa using this
    simp [this]
  · rw [find_filter_ne e, if_neg e]

theorem toD_del (L : List Ent) (k : Bt) : (toD L).del (.string k) = toD (ldel L k) := by
  simp only [toD, DataW.del, ldel]
  congr 1
  rw [List.filter_map]
  rfl
theorem insert_lt {k : Bt} {d : DataW Unit} : ∀ {L : List Ent}, (∀ p ∈ L, k < p.1) → DataW.insert (.string k, d) (L.map fun p => ((.string p.1 : Lit), (.lit (.string p.2) : DataW Unit))) = (.string k, d) :: (L.map fun p => ((.string p.1 : Lit), (.lit (.string p.2) : DataW Unit)))
  | [], _ => rfl
  | p :: r, h => by
    have := h p (by simp)
    simp [DataW.insert, Lit.before, bytesBefore_eq, this]
theorem toD_put {L : List Ent} (h : SL L) (k v : Bt) : (toD L).put (.string k) (.lit (.string v)) = toD (lput L k v) := by
  simp only [toD, DataW.put]
  congr 1
  induction L with
  | nil => rfl
  | cons x r ih =>
    obtain ⟨a, b⟩ := x
    simp only [SL, List.pairwise_cons] at h
    have ih := ih h.2
    simp only [lput, List.map_cons]
    by_cases e : a = k
    · subst e
      rw [if_neg (List.lt_irrefl _), if_pos rfl, List.filter_cons_of_neg (by simp [Lit.sameKey])]
      have hf : (List.map (fun p : Ent => ((.string p.1 : Lit), (.lit (.string p.2) : DataW Unit))) r).filter (fun p => !p.1.sameKey (.string a)) = List.map (fun p : Ent => ((.string p.1 : Lit), (.lit (.string p.2) : DataW Unit))) r := by
        rw [List.filter_eq_self]
        intro q hq
        obtain ⟨p, hp, rfl⟩ := List.mem_map.1 hq
        have := h.1 p hp
        simp [Lit.sameKey]
        rintro rfl
        exact List.lt_irrefl _ this
      rw [hf, insert_lt h.1]
      rfl
    · rw [List.filter_cons_of_pos (by simp [Lit.sameKey, e])]
      by_cases hlt : k < a
      · rw [if_pos hlt]
        have hf : (List.map (fun p : Ent => ((.string p.1 : Lit), (.lit (.string p.2) : DataW Unit))) r).filter (fun p => !p.1.sameKey (.string k)) = List.map (fun p : Ent => ((.string p.1 : Lit), (.lit (.string p.2) : DataW Unit))) r := by
          rw [List.filter_eq_self]
          intro q hq
          obtain ⟨p, hp, rfl⟩ := List.mem_map.1 hq
          have := List.lt_trans hlt (h.1 p hp)
          simp [Lit.sameKey]
          rintro rfl
          exact List.lt_irrefl _ this
        rw [hf]
        simp [DataW.insert, Lit.before, bytesBefore_eq, hlt]
      · rw [if_neg hlt, if_neg e]
        simp only [DataW.insert, Lit.before, bytesBefore_eq, hlt, decide_false, Bool.false_eq_true, if_false, List.map_cons]
        rw [ih]
theorem has_toD (L : List Ent) (k : Bt) : has (toD L) (.string k) = (lget L k).isSome := by
  unfold lget toD
  rw [has_eq, List.any_map]
  induction L with
  | nil => rfl
  | cons x r ih =>
    rw [List.any_cons, ih, List.find?_cons]
    have h0 : ((fun p : Lit × DataW Unit => p.1.sameKey (.string k)) ∘ fun p : Ent => (Lit.string p.1, (DataW.lit (Lit.string p.2) : DataW Unit))) x = (x.1 == k) := rfl
    rw [h0]
    cases (x.1 == k) <;> simp
theorem atKey_toD (L : List Ent) (k : Bt) : (toD L).atKey (.string k) (.lit (.string [])) = .lit (.string ((lget L k).getD [])) := by
  unfold lget toD DataW.atKey
  simp only [List.find?_map]
  have : (L.find? ((fun p : Lit × DataW Unit => p.1.sameKey (.string k)) ∘ fun p : Ent => (Lit.string p.1, DataW.lit (Lit.string p.2)))) = L.find? fun p => p.1 == k := by
    congr 1
  rw [this]
  cases L.find? fun p => p.1 == k <;> rfl
theorem size_toD (L : List Ent) : Maps.size (toD L) = L.length := by simp [toD, Maps.size]
theorem strKeys_toD (L : List Ent) : strKeys (toD L) = L.map (·.1) := by
  simp [toD, strKeys, strOf, Function.comp_def]
theorem mergeSort_keys {L : List Ent} (h : SL L) {ss : List Bt} (hp : ss.Perm (strKeys (toD L))) : ss.mergeSort (fun x y => decide (x ≤ y)) = L.map (·.1) := by
  have e : ss.mergeSort leB = (strKeys (toD L)).mergeSort leB := mergeSort_of_perm hp
  have e2 : (strKeys (toD L)).mergeSort leB = strKeys (toD L) := by
    refine List.mergeSort_of_pairwise ?_
    rw [strKeys_toD]
    refine List.pairwise_map.2 (h.imp fun h => ?_)
    simp only [leB, decide_eq_true_eq]
    exact List.le_of_lt h
  exact (e.trans e2).trans (strKeys_toD L)
theorem lget_mem {L : List Ent} (h : SL L) {p : Ent} (hp : p ∈ L) : lget L p.1 = some p.2 := by
  induction L with
  | nil => cases hp
  | cons x r ih =>
    simp only [SL, List.pairwise_cons] at h
    unfold lget at ih ⊢
    rcases List.mem_cons.1 hp with rfl | hp
    · simp
    · have := h.1 p hp
      have hne : x.1 ≠ p.1 := by rintro e; rw [e] at this; exact List.lt_irrefl _ this
      rw [List.find?_cons, beq_eq_false_iff_ne.2 hne]
      exact ih h.2 hp
theorem lget_none {L : List Ent} {k : Bt} (h : ∀ p ∈ L, p.1 ≠ k) : lget L k = none := by
  unfold lget
  rw [List.find?_eq_none.2 (by intro x hx; simpa using h x hx)]; rfl
end Go.Proofs.YtbkgcfoilgggjaaDoor
