/- model: Data, New, Down, Begin for a writer, End. -/
import Derived.Test.YtbkgcfoilgggjaaDoorModelF
import Derived.Test.YtbkgcfoilgggjaaDoorModelG
set_option linter.unusedVariables false
set_option linter.unusedSimpArgs false
namespace Go.Proofs.YtbkgcfoilgggjaaDoor
open Go.RowKit Go.Maps

set_option maxRecDepth 100000 in
set_option maxHeartbeats 1000000 in
theorem data_any (s lb rb : Nat) (given write : Int) (nb : Option Nat) (n : Nat) (L : List Ent) (hL : SL L) (hk : lkey L) (hsz : L.length ≤ 1000000) (w : World) (hs : Blk w s (spC lb given rb write (.map nb)) 51) (h : VM w lb n (toD L)) :
    Calls Tryd.prog 8 #[.pointer (some ⟨s, 0, none⟩)] w fun e w' => ∃ v, e = .returned v ∧ OE w' w.heap.size v L ∧ Below w.heap.size w w' := by
  have hx := hs.cell
  simp only [spC] at hx
  have HH := Lib.hid (rows_any lb n L hL hk hsz w h)
  clear hL hk hsz h
  go_enter Tryd.func8, Tryd.ntmps8
  go_wp2_with fail
  refine HH.out.mono ?_
  rintro e w1 ⟨v, rfl, ho, hb⟩
  have HO := Lib.hid ho
  have HB := Lib.hid hb
  clear ho hb
  go_wp2
  go_ret
  exact ⟨_, rfl, HO.out, HB.out⟩

set_option maxRecDepth 100000 in
set_option maxHeartbeats 1000000 in
theorem new_any (w : World) :
    Calls Tryd.prog 5 #[] w fun e w' => e = .returned (.pointer (some ⟨w.heap.size + 2, 0, none⟩)) ∧ w' = ((w.alloc (.map #[] 0)).alloc (.map #[] 0)).alloc (.cells (spC w.heap.size 0 (w.heap.size + 1) 0 (.map none)) 51) := by
  have hmm := @run_makeMap Tryd.prog
  go_enter Tryd.func5, Tryd.ntmps5
  go_wp2
  go_ret
  exact ⟨rfl, rfl⟩
/-- A new space. -/
theorem new_sp (w : World) :
    Calls Tryd.prog 5 #[] w fun e w' => e = .returned (.pointer (some ⟨w.heap.size + 2, 0, none⟩)) ∧ Sp w' (w.heap.size + 2) w.heap.size (w.heap.size + 1) 0 0 none 0 (.map []) ∧ VM w' w.heap.size 0 (toD []) ∧ Below w.heap.size w w' ∧ w'.heap.size = w.heap.size + 3 := by
  refine (new_any w).mono ?_
  rintro e w' ⟨rfl, rfl⟩
  refine ⟨rfl, ⟨?_, ?_⟩, ?_, below_alloc (below_alloc (below_a1 _ _) _) _, by simp⟩
  · have := Blk.new ((w.alloc (.map #[] 0)).alloc (.map #[] 0)) (spC w.heap.size 0 (w.heap.size + 1) 0 (.map none)) 51
    simpa using this
  · have := (World.ownsMap_made (w.alloc (.map #[] 0)) Tryd.prog 26 refR).alloc (.cells (spC w.heap.size 0 (w.heap.size + 1) 0 (.map none)) 51)
    unfold RM
    simpa using this
  · exact ((World.ownsMap_made w Tryd.prog 9 (plainElem Tryd.prog 9)).alloc _).alloc _
set_option maxRecDepth 100000 in
set_option maxHeartbeats 1000000 in
theorem begin_write (s lb rb : Nat) (given : Int) (nb : Option Nat) (nR : Nat) (DR : DW) (nL : Nat) (DL : DW) (w : World) (h0 : 0 ≤ given) (h1 : given < 1000000)
    (hS : Sp w s lb rb given 0 nb nR DR) (hL : VM w lb nL DL) (hd : s ≠ lb ∧ s ≠ rb) :
    Calls Tryd.prog 6 #[.pointer (some ⟨s, 0, none⟩), .bool true] w fun e w' => ∃ vb, e = .returned (.tuple #[.int .u64 (given + 1), .nilIface]) ∧ w.heap.size ≤ vb ∧
      Sp w' s lb rb (given + 1) (given + 1) (some vb) nR DR ∧ VM w' lb nL DL ∧ VM w' vb nL DL ∧ w.grownBy w' (some s) := by
  have hx := hS.blk.cell
  have hf := hS.blk.frozen
  simp only [spC] at hx
  have hwr : IntKind.u64.wrap (given + 1) = given + 1 := by rw [IntKind.wrap_u64]; omega
  go_enter Tryd.func6, Tryd.ntmps6
  go_wp2_with fail
  have HB0 := Lib.hid (hS.blk.set 1 (.int .u64 (given + 1)))
  have HR0 := Lib.hid (hS.reads.far (a := ⟨s, 1, none⟩) (fun e => hd.2 e.symm) (.int .u64 (given + 1)))
  have HL0 := Lib.hid (hL.far (a := ⟨s, 1, none⟩) (fun e => hd.1 e.symm) (.int .u64 (given + 1)))
  have HD := Lib.hid hd
  have hsl := hS.blk.lt
  have HG0 := Lib.hid (grown_setCell w s 1 (.int .u64 (given + 1)))
  have hz0 : (w.setCell ⟨s, 1, none⟩ (.int .u64 (given + 1))).heap.size = w.heap.size := by simp [World.setCell]
  refine (viewClone_any lb nL DL _ HL0.out).mono ?_
  rintro e w1 ⟨rfl, hv, hb⟩
  have HV1 := Lib.hid hv
  have HB1 := Lib.hid (HB0.out.below hb)
  have HR1 := Lib.hid (HR0.out.below hb)
  have HL1 := Lib.hid (HL0.out.below hb)
  have HG1 := Lib.hid (grown_trans HG0.out (grown_of_below hb (some s)))
  rw [hz0] at HV1 ⊢
  clear hv hb hz0 hS hL hd hx hf
  have hx1 := HB1.out.cell
  have hf1 := HB1.out.frozen
  simp only [spC, List.setIfInBounds_toArray, List.set_cons_zero, List.set_cons_succ] at hx1
  go_wp2
  go_ret2
  refine ⟨w.heap.size, rfl, Nat.le_refl _, ⟨?_, ?_⟩, ?_, ?_, ?_⟩
  · exact (HB1.out.set 3 (.int .u64 (given + 1))).set 4 (.map (some w.heap.size))
  · exact (HR1.out.far (a := ⟨s, 3, none⟩) (fun e => HD.out.2 e.symm) _).far (a := ⟨s, 4, none⟩) (fun e => HD.out.2 e.symm) _
  · exact (HL1.out.far (a := ⟨s, 3, none⟩) (fun e => HD.out.1 e.symm) _).far (a := ⟨s, 4, none⟩) (fun e => HD.out.1 e.symm) _
  · exact (HV1.out.far (a := ⟨s, 3, none⟩) (fun e => by simp at e; omega) _).far (a := ⟨s, 4, none⟩) (fun e => by simp at e; omega) _
  · exact grown_trans (grown_trans HG1.out (grown_setCell _ _ _ _)) (grown_setCell _ _ _ _)
theorem begin_busy (s lb rb : Nat) (given write : Int) (nb : Option Nat) (w : World) (hw : write ≠ 0) (hS : Blk w s (spC lb given rb write (.map nb)) 51) :
    Calls Tryd.prog 6 #[.pointer (some ⟨s, 0, none⟩), .bool true] w fun e w' => e = .returned (.tuple #[.int .u64 0, errV 10]) ∧ w' = w := by
  have hx := hS.cell
  simp only [spC] at hx
  have hne : (write != 0) = true := by simpa using hw
  go_enter Tryd.func6, Tryd.ntmps6
  go_wp2
  go_ret2
  exact ⟨rfl, rfl⟩
set_option maxRecDepth 100000 in
set_option maxHeartbeats 1000000 in
theorem end_none (s lb rb : Nat) (given write : Int) (nb : Option Nat) (nR : Nat) (DR : DW) (txn : Int) (keep : Bool) (h0 : 0 ≤ txn) (h1 : txn < 18446744073709551616) (w : World) (hS : Sp w s lb rb given write nb nR DR) (he : seenE write DR txn = 6) :
    Calls Tryd.prog 9 #[.pointer (some ⟨s, 0, none⟩), .int .u64 txn, .bool keep] w fun e w' => e = .returned (errV 6) ∧ w' = w := by
  have H := Lib.hid (seen_any s lb rb given write nb nR DR txn h0 h1 w hS.blk hS.reads)
  have HE := Lib.hid he
  clear hS h1 he
  go_enter Tryd.func9, Tryd.ntmps9
  go_wp2_with fail
  refine H.out.mono ?_
  rintro e w1 ⟨rfl, rfl⟩
  rw [HE.out]
  go_wp2
  go_ret
  exact ⟨rfl, rfl⟩
set_option maxRecDepth 100000 in
set_option maxHeartbeats 1000000 in
theorem end_keep (s lb rb : Nat) (given write : Int) (vb : Nat) (nR : Nat) (DR : DW) (hw : write ≠ 0) (h0 : 0 ≤ write) (h1 : write < 18446744073709551616) (w : World) (hS : Sp w s lb rb given write (some vb) nR DR) (hd : s ≠ rb) :
    Calls Tryd.prog 9 #[.pointer (some ⟨s, 0, none⟩), .int .u64 write, .bool true] w fun e w' => e = .returned .nilIface ∧ Sp w' s vb rb given 0 none nR DR ∧ w.grownBy w' (some s) := by
  have H := Lib.hid (seen_any s lb rb given write (some vb) nR DR write h0 h1 w hS.blk hS.reads)
  have hx := hS.blk.cell
  have hf := hS.blk.frozen
  simp only [spC] at hx
  have HS := Lib.hid hS
  clear hS h1
  have hee : (write != write) = false := by simp
  go_enter Tryd.func9, Tryd.ntmps9
  go_wp2_with fail
  refine H.out.mono ?_
  rintro e w1 ⟨rfl, rfl⟩
  rw [show seenV write (.map (some vb)) DR write = .map (some vb) by simp [seenV, hw], show seenE write DR write = 0 by simp [seenE, hw]]
  go_wp2
  go_ret
  refine ⟨rfl, ⟨((HS.out.blk.set 0 (.map (some vb))).set 3 (.int .u64 0)).set 4 (.map none), ?_⟩, ?_⟩
  · exact ((HS.out.reads.far (a := ⟨s, 0, none⟩) (fun e => hd e.symm) _).far (a := ⟨s, 3, none⟩) (fun e => hd e.symm) _).far (a := ⟨s, 4, none⟩) (fun e => hd e.symm) _
  · exact grown_trans (grown_trans (grown_setCell _ _ _ _) (grown_setCell _ _ _ _)) (grown_setCell _ _ _ _)
set_option maxRecDepth 100000 in
set_option maxHeartbeats 1000000 in
theorem end_drop (s lb rb : Nat) (given write : Int) (vb : Nat) (nR : Nat) (DR : DW) (hw : write ≠ 0) (h0 : 0 ≤ write) (h1 : write < 18446744073709551616) (w : World) (hS : Sp w s lb rb given write (some vb) nR DR) (hd : s ≠ rb) :
    Calls Tryd.prog 9 #[.pointer (some ⟨s, 0, none⟩), .int .u64 write, .bool false] w fun e w' => e = .returned .nilIface ∧ Sp w' s lb rb given 0 none nR DR ∧ w.grownBy w' (some s) := by
  have H := Lib.hid (seen_any s lb rb given write (some vb) nR DR write h0 h1 w hS.blk hS.reads)
  have hx := hS.blk.cell
  have hf := hS.blk.frozen
  simp only [spC] at hx
  have HS := Lib.hid hS
  clear hS h1
  have hee : (write != write) = false := by simp
  go_enter Tryd.func9, Tryd.ntmps9
  go_wp2_with fail
  refine H.out.mono ?_
  rintro e w1 ⟨rfl, rfl⟩
  rw [show seenV write (.map (some vb)) DR write = .map (some vb) by simp [seenV, hw], show seenE write DR write = 0 by simp [seenE, hw]]
  go_wp2
  go_ret
  refine ⟨rfl, ⟨(HS.out.blk.set 3 (.int .u64 0)).set 4 (.map none), ?_⟩, ?_⟩
  · exact (HS.out.reads.far (a := ⟨s, 3, none⟩) (fun e => hd e.symm) _).far (a := ⟨s, 4, none⟩) (fun e => hd e.symm) _
  · exact grown_trans (grown_setCell _ _ _ _) (grown_setCell _ _ _ _)
set_option maxRecDepth 100000 in
set_option maxHeartbeats 1000000 in
theorem down_any (s lb rb : Nat) (given write : Int) (nb : Option Nat) (nL : Nat) (DL : DW) (w : World) (hS : Blk w s (spC lb given rb write (.map nb)) 51) (hL : VM w lb nL DL) :
    Calls Tryd.prog 11 #[.pointer (some ⟨s, 0, none⟩)] w fun e w' => ∃ s' lb' rb', e = .returned (.pointer (some ⟨s', 0, none⟩)) ∧ w.heap.size ≤ s' ∧ w.heap.size ≤ lb' ∧ w.heap.size ≤ rb' ∧ s' ≠ lb' ∧ s' ≠ rb' ∧ lb' ≠ rb' ∧
      Sp w' s' lb' rb' 0 0 none 0 (.map []) ∧ VM w' lb' nL DL ∧ Below w.heap.size w w' := by
  have HS := Lib.hid hS
  have HL := Lib.hid hL
  clear hS hL
  go_enter Tryd.func11, Tryd.ntmps11
  go_wp2_with fail
  refine (new_sp w).mono ?_
  rintro e w1 ⟨rfl, hs1, hv1, hb1, hz⟩
  have HS1 := Lib.hid hs1
  have HB1 := Lib.hid hb1
  have HO1 := Lib.hid (HS.out.below hb1)
  have HL1 := Lib.hid (HL.out.below hb1)
  have hx := HO1.out.cell
  simp only [spC] at hx
  have hz1 : w1.heap.size = w.heap.size + 3 := hz
  have HZ := Lib.hid hz1
  have hz2 : w.heap.size + 2 < w1.heap.size := by omega
  clear hs1 hv1 hb1 hz hz1
  go_wp2_with fail
  refine (viewClone_any lb nL DL _ HL1.out).mono ?_
  rintro e w2 ⟨rfl, hv, hb⟩
  have HV2 := Lib.hid hv
  have HS2 := Lib.hid (HS1.out.below hb)
  have HB2 := Lib.hid (below_then HB1.out HB1.out.size hb)
  have hsz := hb.size
  clear hv hb hx
  have hx2 := HS2.out.blk.cell
  have hf2 := HS2.out.blk.frozen
  simp only [spC] at hx2
  go_wp2
  go_ret
  refine ⟨_, w1.heap.size, w.heap.size + 1, rfl, by omega, by omega, by omega, by omega, by omega, by omega, ⟨HS2.out.blk.set 0 (.map (some w1.heap.size)), ?_⟩, ?_, ?_⟩
  · exact HS2.out.reads.far (a := ⟨w.heap.size + 2, 0, none⟩) (by simp) _
  · exact HV2.out.far (a := ⟨w.heap.size + 2, 0, none⟩) (by simp; omega) _
  · exact HB2.out.setCell (by simp) _
end Go.Proofs.YtbkgcfoilgggjaaDoor
