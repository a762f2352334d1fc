/- PROVED: for every slot and every capability warrenlaw28.CapsBack returns true (a capability that may be in the slot comes back from its bytes, cut short it is none, and its reference comes back from its text), and what it was given reads as it did. Conditions: none on the input; the card's listed library variables hold what their text says (tied). -/
import Derived.Test.YtjklpohbmockjaaDoorCapsRow
import Derived.Test.YtjklpohbmockjaaDoorCards
import Derived.Test.YtjklpohbmockjaaDoorTie
import Derived.SevenTiedAt
set_option linter.unusedVariables false
namespace Go.Proofs.YtjklpohbmockjaaDoor
open Go Go.ChangeShapes Go.WideShapes Go.ChangeAt Go.RowKit

set_option maxRecDepth 100000 in
theorem capsBack_lifted (os : Os) (started : os.Started) (H : Type) (enc : TypeId × Value → H) :
    ReturnsInHanded {} Tryd.checked os 3 .any (fun w args => (Rows.capsBackSpec.pre enc Tryd.prog Tryd.f3 [] false w args ∧ laidMetH Tryd.prog Rows.capsBackRow.laid w) ∧ sizedMet enc Tryd.prog Tryd.f3 (OpenSpec.ofChange Rows.capsBackSpec) false w args)
      (Rows.capsBackSpec.post enc Tryd.prog Tryd.f3 false true false false) := by
  refine law_lifted (C := Tryd.checked) (tb := 4) own started (by kernel_rfl) Tryd.func3 laidOut rfl ?_ (by kernel_rfl) rfl (show Tryd.prog.underlying 4 = some .bool by kernel_rfl)
    (ChangeSpec.witness_at (enc := enc) (C := Tryd.checked) (os := os) (X := fun w _ => laidMetH Tryd.prog Rows.capsBackRow.laid w) false (laidWorld os) #[.int .i64 0, capV ⟨0, false, 0, 0, 0, [], 0⟩] 8 rfl (by kernel_rfl) (by kernel_rfl) (by kernel_rfl) (by kernel_rfl) (by kernel_rfl) (laidWorld_met os _)) ?_
  · intro ds hds
    match ds, hds with
    | [d1, d2], _ => rfl
  · intro W base args ds before hval hA hz hL hsh
    rw [Tryd.params3] at hval hA
    obtain ⟨v0, v1, d0, d1, p0, p1, rfl, rfl, rfl, h0, h1⟩ := trodAll_two hA
    obtain ⟨slot, rfl, _⟩ := okWide_intV (show Tryd.prog.underlying 3 = some (.int .i64) by kernel_rfl) (hval 0 3 v0 rfl rfl)
    obtain ⟨c, rfl, hw⟩ := open_cap (hval 1 28 v1 rfl rfl)
    exact capsBack_any slot c W (G_of hL hsh) hw

theorem capsBack_holds : Rows.CapsBackSaid :=
  OpenClaim.holds_of_wide 3 Tryd.f3 rfl rfl rfl rfl rfl rfl rfl ⟨rfl, rfl, rfl, rfl, rfl⟩ rfl rfl rfl rfl rfl (by kernel_rfl) Tryd.func3 (by kernel_rfl)
    (of_decide_eq_true (by kernel_rfl)) (by unfold Func.isWrapper; rw [if_neg (of_decide_eq_false (by kernel_rfl))]; exact ⟨rfl, rfl⟩)
    (fun os started H enc _ => capsBack_lifted os started H enc)

theorem capsBack_card : Rows.CapsBackCardSaid :=
  Claim7.holds_tied_plain_at .later [] Rows.capsBackCard.laidKinds true Rows.capsBackCard.stood.harness true
    capsBack_holds (fun _ h => by cases h) (by kernel_rfl) (fun _ h => by cases h) capsBack_row_tie rfl ⟨rfl, rfl⟩ (by kernel_rfl) rfl
    (fun f fn hf hfn => by
      obtain rfl : f = 3 := Option.some.inj ((show Tryd.prog.funcNamed "warren/warrenlaw28.CapsBack" = some 3 by kernel_rfl).symm.trans hf) |>.symm
      obtain rfl : fn = Tryd.f3 := (Option.some.inj (Tryd.func3.symm.trans hfn)).symm
      exact ⟨by kernel_rfl, fun j t ht => by
        rw [Tryd.params3] at ht
        have h3 : t = 3 ∨ t = 28 := by
          rcases j with _ | _ | j
          · exact .inl (by simpa using ht.symm)
          · exact .inr (by simpa using ht.symm)
          · simp at ht
        rcases h3 with rfl | rfl
        · exact (show Tryd.prog.wantsStandIn 3 = false by kernel_rfl)
        · exact (show Tryd.prog.wantsStandIn 28 = false by kernel_rfl)⟩)
    (by kernel_rfl)
end Go.Proofs.YtjklpohbmockjaaDoor
