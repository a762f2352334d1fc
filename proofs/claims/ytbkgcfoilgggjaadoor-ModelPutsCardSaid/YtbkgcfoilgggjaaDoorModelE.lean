/- model: maps.Clone of a view. -/
import Derived.Test.YtbkgcfoilgggjaaDoorModelD
import Derived.Shelf.SlMaps.Clone
set_option linter.unusedVariables false
set_option linter.unusedSimpArgs false
namespace Go.Proofs.YtbkgcfoilgggjaaDoor
open Go.RowKit Go.Maps

set_option maxRecDepth 100000 in
set_option maxHeartbeats 2000000 in
theorem cloneMap_any (b : Nat) (es : Array MapEntry) (clock : Nat) (w : World) (hb : w.heap[b]? = some (.map es clock)) :
    Calls Tryd.prog 12 #[.map (some b)] w fun e w' => e = .returned (.map (some w.heap.size)) ∧ w' = w.alloc (.map es clock) := by
  have hq := fun w => run_eql_map_nil_sl (P := Tryd.prog) w 48 _ _ (some b) viewT
  go_enter Tryd.func12, Tryd.ntmps12
  go_wp2
  rw [run_callFunc_extern Tryd.func19 (by kernel_rfl) (by kernel_rfl) (e := Extern.MapsClone.clone) (by kernel_rfl), run_maps_clone_sl w 48 hb]
  simp only [Result.andThen]
  rw [Oper.upon_value]
  go_wp2
  rw [run_typeAssert_map_sl _ 48 20 _ _ _ viewT]
  simp only [Result.andThen]
  rw [Oper.upon_value]
  go_wp2
  · go_ret
    exact ⟨rfl, rfl⟩
  case he => kernel_rfl
theorem viewClone_any (b n : Nat) (D : DW) (w : World) (h : VM w b n D) :
    Calls Tryd.prog 12 #[.map (some b)] w fun e w' => e = .returned (.map (some w.heap.size)) ∧ VM w' w.heap.size n D ∧ Below w.heap.size w w' := by
  obtain ⟨es, clock, hb, F, hs, hD⟩ := id h
  refine (cloneMap_any b es clock w hb).mono ?_
  rintro e w' ⟨rfl, rfl⟩
  exact ⟨rfl, ⟨es, clock, heap_alloc_new w _, F, hs, hD⟩, below_a1 w _⟩
end Go.Proofs.YtbkgcfoilgggjaaDoor
