/- The Reader in a world that turns. -/
import Derived.Test.YtbkgcfoilgggjaaDoorReader
import Derived.Test.YtbkgcfoilgggjaaDoorBs
set_option linter.unusedVariables false
set_option linter.unusedSimpArgs false
namespace Go.Proofs.YtbkgcfoilgggjaaDoor
open Go.RowKit

theorem Rdr.below {w w1 : World} {g : Nat} {l : Bs} {b : Bool} {U : Nat} (h : Rdr w g l b U) (hb : Below w.heap.size w w1) : Rdr w1 g l b U := by
  obtain ⟨v, h1, h2, h3⟩ := h
  exact ⟨v, h1.below hb, h2.below hb, h3⟩
theorem Rdr.lt {w : World} {g : Nat} {l : Bs} {b : Bool} {U : Nat} (h : Rdr w g l b U) : g < w.heap.size := by
  obtain ⟨v, h1, h2, h3⟩ := h
  exact h1.lt
theorem Rdr.set {w : World} {g : Nat} {l : Bs} {b : Bool} {U : Nat} (h : Rdr w g l b U) (cb o : Nat) (u : Value) (hne : g ≠ cb) (hU : U ≤ cb) : Rdr (w.setCell ⟨cb, o, none⟩ u) g l b U := by
  obtain ⟨v, h1, h2, h3⟩ := h
  refine ⟨v, h1.far hne u, ⟨h2.1, h2.2.1, ?_⟩, h3⟩
  rcases h2.2.2 with h4 | ⟨bb, off, c, hv, hc, hx⟩
  · exact .inl h4
  · refine .inr ⟨bb, off, c, hv, hc, fun j x hj => ?_⟩
    have hl : l ≠ [] := by rintro rfl; simp [bc] at hj
    have hlt := h3 hl bb (by rw [hv]; rfl)
    have := hx j x hj
    have hg := grown_setCell w cb o u
    exact hg.cell this (by simp; omega)

def rByte (l : Bs) (b : Bool) : Int × Bs × Bool := ((l.headD 0).toNat, l.tail, b || l.isEmpty)
theorem rByte_range {l : Bs} {b : Bool} {n : Int} {l' : Bs} {b' : Bool} (h : rByte l b = (n, l', b')) : 0 ≤ n ∧ n < 256 := by
  simp only [rByte, Prod.mk.injEq] at h
  have := (l.headD 0).toNat_lt
  omega
theorem rByte_any (g : Nat) (l : Bs) (b : Bool) (w : World) (U : Nat) (h : Rdr w g l b U) :
    Calls Tryd.prog 45 #[.pointer (some ⟨g, 0, none⟩)] w fun e w' => e = .returned (.int .u8 (rByte l b).1) ∧ Rdr w' g (rByte l b).2.1 (rByte l b).2.2 U ∧ w.grownBy w' (some g) := rdByte_any g l b w U h
theorem OB.grown {w w1 : World} {base g : Nat} {v : Value} {l : Bs} (h : OB w base v l) (hg : w.grownBy w1 (some g)) (hlt : g < base) : OB w1 base v l := by
  refine World.ownsRow.kept h hg ?_
  rcases hk : v.ownBlock with _ | k
  · exact .inl rfl
  · have := h.base_le k hk
    exact .inr (by simp; omega)
end Go.Proofs.YtbkgcfoilgggjaaDoor
