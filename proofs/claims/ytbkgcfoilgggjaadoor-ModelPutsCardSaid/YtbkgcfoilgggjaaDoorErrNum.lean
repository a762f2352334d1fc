/- errors.As of an Errno; an error's number. -/
import Derived.Test.YtbkgcfoilgggjaaDoorErrAs
set_option linter.unusedVariables false
set_option linter.unusedSimpArgs false
namespace Go.Proofs.YtbkgcfoilgggjaaDoor
open Go.RowKit

@[go_sem] theorem run_store_th {P : Program} (w : World) (a : Addr) (m : Mode) (t : TypeId) : (store a (th t) m).run P w = stored P w a (th t) m := run_store P w a _ m rfl
set_option maxRecDepth 100000 in
set_option maxHeartbeats 1000000 in
theorem as_in (n m : Int) (b h : Nat) (w : World) (hb : Blk w b #[.int .i64 m] 52) (hh : w.cell? ⟨h, 0, none⟩ = some (.pointer (some ⟨b, 0, none⟩))) :
    Calls Tryd.prog 30 #[.iface 52 (.int .i64 n), .iface 60 (.pointer (some ⟨b, 0, none⟩)), .agg #[th 60, .pointer (some ⟨h, 0, none⟩), .int .u64 150], .iface 95 (.agg #[th 52])] w fun e w' => e = .returned (.bool true) ∧ Blk w' b #[.int .i64 n] 52 ∧ w.grownBy w' (some b) := by
  have HB := Lib.hid hb
  have hx := hb.cell
  have hf := hb.frozen
  have hbl := hb.lt
  have hhl := lt_of_cell hh
  simp only at hhl
  clear hb
  go_enter Tryd.func30, Tryd.ntmps30
  go_wp2_with fail
  refine wp_loop_rounds 1 ?_
  rw [rounds_succ]
  go_wp2_with fail
  rw [ea12 n m ⟨w.heap.size + 1, 0, none⟩ ⟨b, 0, none⟩]
  rotate_left
  · go_simp
  · go_simp
  · go_simp
  go_wp2_with fail
  go_ret
  have hg := grown_setCell w b 0 (.int .i64 n)
  have hb2 := below_alloc (below_a1 (w.setCell ⟨b, 0, none⟩ (.int .i64 n)) (.cells #[th 60, .pointer (some ⟨h, 0, none⟩), .int .u64 150] 75)) (.cells #[.int .i64 n] 52)
  exact ⟨rfl, by simpa using (HB.out.set 0 (.int .i64 n)).below hb2, grown_trans hg (grown_of_below hb2 _)⟩

set_option maxRecDepth 100000 in
set_option maxHeartbeats 1000000 in
theorem As_any (n m : Int) (b : Nat) (w : World) (hb : Blk w b #[.int .i64 m] 52) (hE : w.cell? ⟨0, 0, none⟩ = some (.iface 95 (.agg #[th 28]))) :
    Calls Tryd.prog 18 #[.iface 52 (.int .i64 n), .iface 60 (.pointer (some ⟨b, 0, none⟩))] w fun e w' => e = .returned (.bool true) ∧ Blk w' b #[.int .i64 n] 52 ∧ w.grownBy w' (some b) := by
  have HB := Lib.hid hb
  have hbl := hb.lt
  have hE2 := lt_of_cell hE
  simp only at hE2
  clear hb
  go_enter Tryd.func18, Tryd.ntmps18
  go_wp2_with fail
  have hb2 := below_alloc (below_a1 w (.cells #[.pointer (some ⟨b, 0, none⟩)] 60)) (.cells #[th 60, .pointer (some ⟨w.heap.size, 0, none⟩), .int .u64 150] 75)
  have HB2 := Lib.hid hb2
  refine (as_in n m b w.heap.size _ (HB.out.below hb2) (by simp)).mono ?_
  clear hb2
  rintro e w1 ⟨rfl, hb1, hg1⟩
  have HB1 := Lib.hid hb1
  have HG1 := Lib.hid (grown_trans (grown_of_below HB2.out _) hg1)
  clear hb1 hg1
  go_wp2
  go_ret
  exact ⟨rfl, HB1.out, HG1.out⟩

theorem num_zero (w : World) : Calls Tryd.prog 10 #[.nilIface] w fun e w' => e = .returned (.int .i64 0) ∧ Below w.heap.size w w' := by
  go_enter Tryd.func10, Tryd.ntmps10
  go_wp2
  go_ret
  exact ⟨rfl, below_a1 _ _⟩
set_option maxRecDepth 100000 in
set_option maxHeartbeats 1000000 in
theorem num_some (n : Int) (w : World) (hE : w.cell? ⟨0, 0, none⟩ = some (.iface 95 (.agg #[th 28]))) :
    Calls Tryd.prog 10 #[.iface 52 (.int .i64 n)] w fun e w' => e = .returned (.int .i64 n) ∧ Below w.heap.size w w' := by
  have HE := Lib.hid hE; clear hE
  go_enter Tryd.func10, Tryd.ntmps10
  go_wp2_with fail
  have hb := below_a1 w (.cells #[.int .i64 0] 52)
  refine (As_any n 0 w.heap.size _ (Blk.new _ _ _) ((hb.cell (lt_of_cell HE.out)).trans HE.out)).mono ?_
  rintro e w1 ⟨rfl, hb1, hg1⟩
  have HB1 := Lib.hid hb1
  have hx := hb1.cell
  have HG1 := Lib.hid (hb.grown hg1 hb.size (by intro k hk; simp at hk; omega))
  clear hb1 hg1 hb
  go_wp2
  go_ret
  exact ⟨rfl, HG1.out⟩
theorem num_any (n : Int) (w : World) (hE : w.cell? ⟨0, 0, none⟩ = some (.iface 95 (.agg #[th 28]))) :
    Calls Tryd.prog 10 #[errV n] w fun e w' => e = .returned (.int .i64 n) ∧ Below w.heap.size w w' := by
  by_cases h : n = 0
  · subst h; rw [errV_zero]; exact num_zero w
  · rw [errV_ne h]; exact num_some n w hE
end Go.Proofs.YtbkgcfoilgggjaaDoor
