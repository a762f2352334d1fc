/- model: Begin. -/
import Derived.Test.YtbkgcfoilgggjaaDoorModelE
import Derived.Test.YtbkgcfoilgggjaaDoorPlan
set_option linter.unusedVariables false
set_option linter.unusedSimpArgs false
namespace Go.Proofs.YtbkgcfoilgggjaaDoor
open Go.RowKit Go.Maps

theorem RM.len {w : World} {b n : Nat} {D : DW} (h : RM w b n D) (ty : TypeId) : (Builtin.len_ #[49] ty #[.map (some b)]).run Tryd.prog w = .ok (.int .i64 (Maps.size D)) w := World.ownsMap.len h readsU ty
theorem RM.far {w : World} {b n : Nat} {D : DW} (h : RM w b n D) {a : Addr} (ha : b ≠ a.block) (u : Value) : RM (w.setCell a u) b n D := World.ownsMap.setCell h ha u
theorem RM.below {w w1 : World} {b n : Nat} {D : DW} (h : RM w b n D) (hb : Below w.heap.size w w1) : RM w1 b n D := World.ownsMap.kept h (grown_of_below hb none) (by simp)
theorem RM.grown {w w1 : World} {b n : Nat} {D : DW} {r : Option Nat} (h : RM w b n D) (hg : w.grownBy w1 r) (hr : some b ≠ r) : RM w1 b n D := World.ownsMap.kept h hg hr
theorem VM.grown {w w1 : World} {b n : Nat} {D : DW} {r : Option Nat} (h : VM w b n D) (hg : w.grownBy w1 r) (hr : some b ≠ r) : VM w1 b n D := World.ownsMap.kept h hg hr
theorem RM.lt {w : World} {b n : Nat} {D : DW} (h : RM w b n D) : b < w.heap.size := World.ownsMap.lt h
theorem RM.store {w : World} {b n : Nat} {D : DW} (h : RM w b n D) (hn : n < maxLen) (x : Int) (h0 : 0 ≤ x) (h1 : x < 18446744073709551616) (v : Nat) :
    ∃ w', (Instr.mapUpdate 49 (.map (some b)) (.int .u64 x) (.map (some v))).run Tryd.prog w = .ok () w' ∧ RM w' b (n + 1) (D.put (.int .u64 x) (.lit (.int .i64 v))) ∧ w.grownBy w' (some b) := by
  obtain ⟨w', h1, h2, h3⟩ := World.ownsMap.store h keyU readsU hn (keyOf_u x h0 h1) (show refR (.map (some v)) = some (.lit (.int .i64 (v : Nat)), []) from rfl)
  exact ⟨w', h1, h2, h3.grown⟩
set_option maxRecDepth 100000 in
set_option maxHeartbeats 1000000 in
theorem begin_read (s lb rb : Nat) (given write : Int) (nb : Option Nat) (nR : Nat) (DR : DW) (nL : Nat) (DL : DW) (w : World) (h0 : 0 ≤ given) (h1 : given < 1000000) (hsz : Maps.size DR < 8) (hn : nR < maxLen)
    (hS : Sp w s lb rb given write nb nR DR) (hL : VM w lb nL DL) (hd : s ≠ lb ∧ s ≠ rb ∧ lb ≠ rb) :
    Calls Tryd.prog 6 #[.pointer (some ⟨s, 0, none⟩), .bool false] w fun e w' => ∃ vb, e = .returned (.tuple #[.int .u64 (given + 1), .nilIface]) ∧ w.heap.size ≤ vb ∧
      Sp w' s lb rb (given + 1) write nb (nR + 1) (DR.put (.int .u64 (given + 1)) (.lit (.int .i64 vb))) ∧ VM w' lb nL DL ∧ VM w' vb nL DL ∧ Two s rb w w' := by
  have hx := hS.blk.cell
  have hf := hS.blk.frozen
  simp only [spC] at hx
  have hl := fun ty => hS.reads.len ty
  have hwr : IntKind.u64.wrap (given + 1) = given + 1 := by rw [IntKind.wrap_u64]; omega
  go_enter Tryd.func6, Tryd.ntmps6
  go_wp2_with fail
  have HS0 := Lib.hid hS
  have HD := Lib.hid hd
  have HB0 := Lib.hid (hS.blk.set 1 (.int .u64 (given + 1)))
  have HR0 := Lib.hid (hS.reads.far (a := ⟨s, 1, none⟩) (fun e => hd.2.1 e.symm) (.int .u64 (given + 1)))
  have HL0 := Lib.hid (hL.far (a := ⟨s, 1, none⟩) (fun e => hd.1 e.symm) (.int .u64 (given + 1)))
  have hsl := hS.blk.lt
  have hrl := hS.reads.lt
  have hz0 : (w.setCell ⟨s, 1, none⟩ (.int .u64 (given + 1))).heap.size = w.heap.size := by simp [World.setCell]
  refine (viewClone_any lb nL DL _ HL0.out).mono ?_
  rintro e w1 ⟨rfl, hv, hb⟩
  have HV1 := Lib.hid hv
  have HT1 := Lib.hid (show Two s rb w w1 from ⟨hb.os, hb.tape, hb.output, by have := hb.size; omega, fun i hi a b => (hb.block i (by omega)).trans (Below.heap_setCell w _ _ i (by simpa using a))⟩)
  have HB1 := Lib.hid (HB0.out.below hb)
  have HR1 := Lib.hid (HR0.out.below hb)
  have HL1 := Lib.hid (HL0.out.below hb)
  have HZ0 := Lib.hid hz0
  have hs1 := hb.size
  rw [hz0] at hs1
  rw [hz0]
  clear hv hb hz0 hS hL hd hx hf hl
  have hx1 := HB1.out.cell
  have hf1 := HB1.out.frozen
  simp only [spC, List.setIfInBounds_toArray, List.set_cons_zero, List.set_cons_succ] at hx1
  go_wp2_with fail
  have hmx : Tryd.prog.follows .mixedOrders = true := by kernel_rfl
  have HSS := Lib.hid (show ∀ o, w1.drew.cell? ⟨s, o, none⟩ = #[Value.map (some lb), .int .u64 (given + 1), .map (some rb), .int .u64 write, .map nb][o]? from hx1)
  refine region_plan (S := fun w' => ∀ o, w'.cell? ⟨s, o, none⟩ = #[Value.map (some lb), .int .u64 (given + 1), .map (some rb), .int .u64 write, .map nb][o]?) [.t 0, .t 1, .t 2, .t 3, .t 4, .t 5, .t 6, .t 7, .t 8, .f 9] hmx (by kernel_rfl) (fun _ _ x _ _ h => by cases x <;> exact h) HSS.out ?_
  iterate 9
    refine plan_t (v := ?_) rfl rfl ?_ ?_
    rotate_left
    · intro w' hSw
      have hx := hSw
      go_simp
      with_reducible rfl
    try simp only [Act.put, List.setIfInBounds_toArray, List.set_cons_zero, List.set_cons_succ]
  refine plan_f rfl rfl fun K hK => ?_
  have HK2 := Lib.hid hK; clear hK
  obtain ⟨w2, h1', h2, h3⟩ := RM.store (w := w1.drew) (b := rb) (n := nR) (D := DR) (by exact HR1.out) hn (given + 1) (by omega) (by omega) w.heap.size
  go_simp
  have HB2 := Lib.hid (HB1.out.drew.grown h3 HD.out.2.1)
  have HSS2 := Lib.hid (show ∀ o, w2.cell? ⟨s, o, none⟩ = #[Value.map (some lb), .int .u64 (given + 1), .map (some rb), .int .u64 write, .map nb][o]? from HB2.out.cell)
  have HR2 := Lib.hid h2
  have HL2 := Lib.hid (VM.grown (w := w1.drew) (by exact HL1.out) h3 (by have := HD.out.2.2; simpa using this))
  have HV2 := Lib.hid (VM.grown (w := w1.drew) (b := w.heap.size) (by have := HV1.out; rw [HZ0.out] at this; exact this) h3 (by simp; omega))
  have HT2 := Lib.hid (show Two s rb w w2 from ⟨h3.os.trans HT1.out.os, h3.tape.trans HT1.out.tape, h3.output.trans HT1.out.output, Nat.le_trans HT1.out.size h3.size, fun i hi a b => (h3.block i (Nat.lt_of_lt_of_le hi HT1.out.size) (by simpa using b)).trans (HT1.out.block i hi a b)⟩)
  clear h1' h2 h3 hx1 hf1
  refine HK2.out _ _ HSS2.out ?_
  clear HK2
  refine plan_nil ?_
  have hx2 := HSS2.out
  go_wp2
  go_ret2
  exact ⟨w.heap.size, rfl, Nat.le_refl _, ⟨HB2.out, HR2.out⟩, HL2.out, HV2.out, HT2.out⟩
end Go.Proofs.YtbkgcfoilgggjaaDoor
