/- PROVED: for every key, value and other value, and whether it is kept or not, warrenlaw43.ModelPuts returns true (what is put is got, till it is put anew, or deleted; others see nothing of it ahead of its end; not kept it is nowhere), and what it was given reads as it did. Conditions: none on the input; the card's listed library variable holds what its text says (tied). -/
import Derived.Test.YtbkgcfoilgggjaaDoorErrRow
import Derived.Test.YtbkgcfoilgggjaaDoorModelPut2
import Derived.Test.YtbkgcfoilgggjaaDoorCards
import Derived.Test.YtbkgcfoilgggjaaDoorTie
import Derived.SevenTiedAt
set_option linter.unusedVariables false
namespace Go.Proofs.YtbkgcfoilgggjaaDoor
open Go Go.ChangeShapes Go.WideShapes Go.ChangeAt Go.RowKit

theorem modelPuts_any (key value other : Bs) (keep : Bool) (w : World) (hG : G w) :
    Calls Tryd.prog 3 #[.agg (ofC key value other), .bool keep] w fun e w' => e = .returned (.bool true) ∧ Below w.heap.size w w' := by
  by_cases h1 : 1 ≤ key.length
  · by_cases h2 : key.length ≤ 39
    · by_cases h3 : value.length ≤ 2048
      · by_cases h4 : other.length ≤ 2048
        · exact puts_ok key value other keep w hG h1 h2 h3 h4
        · exact puts_bad key value other keep w hG (by omega)
      · exact puts_bad key value other keep w hG (by omega)
    · exact puts_bad key value other keep w hG (by omega)
  · exact puts_bad key value other keep w hG (by omega)
theorem G_of {W : World} (hL : laidMetH Tryd.prog laidErr W) : G W := by
  have h := err_of_laid hL
  exact ⟨h, lt_of_cell h⟩
set_option maxRecDepth 100000 in
theorem open_of {W : World} {base : Nat} {v : Value} (h : Value.okWide Tryd.prog W .any base 22 v) : ∃ a b c : Bs, v = .agg (ofC a b c) := by
  obtain ⟨cs, rfl, hn, hc⟩ := okWide_cells (n := 3) (ts := [9, 9, 9]) (by kernel_rfl) (by kernel_rfl) (by kernel_rfl) h
  obtain ⟨l⟩ := cs
  obtain ⟨a0, a1, a2, rfl⟩ : ∃ a0 a1 a2, l = [a0, a1, a2] := by
    match l, hn with
    | [a0, a1, a2], _ => exact ⟨a0, a1, a2, rfl⟩
  have us : Tryd.prog.underlying 9 = some .string := by kernel_rfl
  obtain ⟨k, hk, h0⟩ := hc 0 a0 rfl; obtain rfl := Option.some.inj hk
  obtain ⟨k, hk, h1⟩ := hc 1 a1 rfl; obtain rfl := Option.some.inj hk
  obtain ⟨k, hk, h2⟩ := hc 2 a2 rfl; obtain rfl := Option.some.inj hk
  obtain ⟨s0, rfl, _⟩ := cell_string us h0
  obtain ⟨s1, rfl, _⟩ := cell_string us h1
  obtain ⟨s2, rfl, _⟩ := cell_string us h2
  exact ⟨s0.data.toList, s1.data.toList, s2.data.toList, by unfold ofC; rw [← bs_of, ← bs_of, ← bs_of]⟩

set_option maxRecDepth 100000 in
theorem modelPuts_lifted (os : Os) (started : os.Started) (H : Type) (enc : TypeId × Value → H) :
    ReturnsInHanded {} Tryd.checked os 3 .any (fun w args => (Rows.modelPutsSpec.pre enc Tryd.prog Tryd.f3 [] false w args ∧ laidMetH Tryd.prog Rows.modelPutsRow.laid w) ∧ sizedMet enc Tryd.prog Tryd.f3 (OpenSpec.ofChange Rows.modelPutsSpec) false w args)
      (Rows.modelPutsSpec.post enc Tryd.prog Tryd.f3 false true false false) := by
  refine law_lifted (C := Tryd.checked) (tb := 4) own started (by kernel_rfl) Tryd.func3 laidOut rfl ?_ (by kernel_rfl) rfl (show Tryd.prog.underlying 4 = some .bool by kernel_rfl)
    (ChangeSpec.witness_at (enc := enc) (C := Tryd.checked) (os := os) (X := fun w _ => laidMetH Tryd.prog laidErr w) false (laidWorld os) #[.agg (ofC [] [] []), .bool false] 8 rfl (by kernel_rfl) (by kernel_rfl) (by kernel_rfl) (by kernel_rfl) (by kernel_rfl) (laidWorld_met os _)) ?_
  · intro ds hds
    match ds, hds with
    | [d1, d2], _ => rfl
  · intro W base args ds before hval hA hz hL hsh
    rw [Tryd.params3] at hval hA
    obtain ⟨v0, v1, d0, d1, p0, p1, rfl, rfl, rfl, h0, h1⟩ := trodAll_two hA
    obtain ⟨a, b, c, rfl⟩ := open_of (hval 0 22 v0 rfl rfl)
    obtain ⟨k, rfl⟩ := okWide_boolV (show Tryd.prog.underlying 4 = some .bool by kernel_rfl) (hval 1 4 v1 rfl rfl)
    exact modelPuts_any a b c k W (G_of hL)

theorem modelPuts_holds : Rows.ModelPutsSaid :=
  OpenClaim.holds_of_wide 3 Tryd.f3 rfl rfl rfl rfl rfl rfl rfl ⟨rfl, rfl, rfl, rfl, rfl⟩ rfl rfl rfl rfl rfl (by kernel_rfl) Tryd.func3 (by kernel_rfl)
    (of_decide_eq_true (by kernel_rfl)) (by unfold Func.isWrapper; rw [if_neg (of_decide_eq_false (by kernel_rfl))]; exact ⟨rfl, rfl⟩)
    (fun os started H enc _ => modelPuts_lifted os started H enc)

theorem modelPuts_card : Rows.ModelPutsCardSaid :=
  Claim7.holds_tied_plain_at .later [] Rows.modelPutsCard.laidKinds true Rows.modelPutsCard.stood.harness true
    modelPuts_holds (fun _ h => by cases h) (by kernel_rfl) (fun _ h => by cases h) modelPuts_row_tie rfl ⟨rfl, rfl⟩ (by kernel_rfl) rfl
    (fun f fn hf hfn => by
      obtain rfl : f = 3 := Option.some.inj ((show Tryd.prog.funcNamed "warren/warrenlaw43.ModelPuts" = some 3 by kernel_rfl).symm.trans hf) |>.symm
      obtain rfl : fn = Tryd.f3 := (Option.some.inj (Tryd.func3.symm.trans hfn)).symm
      exact ⟨by kernel_rfl, fun j t ht => by
        rw [Tryd.params3] at ht
        have h3 : t = 22 ∨ t = 4 := by
          rcases j with _ | _ | j
          · exact .inl (by simpa using ht.symm)
          · exact .inr (by simpa using ht.symm)
          · simp at ht
        rcases h3 with rfl | rfl
        · exact (show Tryd.prog.wantsStandIn 22 = false by kernel_rfl)
        · exact (show Tryd.prog.wantsStandIn 4 = false by kernel_rfl)⟩)
    (by kernel_rfl)
end Go.Proofs.YtbkgcfoilgggjaaDoor
