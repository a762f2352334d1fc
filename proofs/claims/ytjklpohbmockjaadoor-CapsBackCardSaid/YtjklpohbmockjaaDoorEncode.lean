/- caps.Encode. -/
import Derived.Test.YtjklpohbmockjaaDoorCapsW
import Derived.Test.YtjklpohbmockjaaDoorRel
import Derived.Deep.RegionHeld3
import Derived.Lib.ConvBytes
set_option linter.unusedVariables false
set_option linter.unusedSimpArgs false
namespace Go.Proofs.YtjklpohbmockjaaDoor
open Go.RowKit

def encE (slot : Int) (c : Cap) : Int := checkE slot c
def encB (c : Cap) : Bs :=
  if c.live then vbytes c.gen ++ [u8 1] ++ vbytes c.holder ++ [u8 (IntKind.u8.wrap c.fslot)] ++ vbytes c.fgen ++ vbytes c.pre.length ++ c.pre ++ [u8 c.rights]
  else vbytes c.gen ++ [u8 0]
/-- What Encode answers. -/
def EncPost (slot : Int) (c : Cap) (w : World) (e : Ending) (w' : World) : Prop :=
  ∃ v, e = .returned (.tuple #[v, errV (checkE slot c)]) ∧ OB w' w.heap.size v (if checkE slot c = 0 then encB c else []) ∧ Below w.heap.size w w'

set_option maxRecDepth 100000 in
set_option maxHeartbeats 1000000 in
theorem encode_bad (slot : Int) (c : Cap) (w : World) (h : checkE slot c ≠ 0) : Calls Tryd.prog 7 #[.int .i64 slot, capV c] w (EncPost slot c w) := by
  have HC := Lib.hid h; clear h
  have HP : ∀ w, Calls Tryd.prog 5 #[.int .i64 slot, capV c] w fun e w' => e = .returned (errV (checkE slot c)) ∧ Below w.heap.size w w' := check_any slot c
  have HP2 := Lib.hid HP; clear HP
  have hz : (checkE slot c == 0) = false := by simpa using HC.out
  unfold capV at HP2 ⊢
  go_enter Tryd.func7, Tryd.ntmps7
  go_wp2_with fail
  refine (HP2.out _).mono ?_
  rintro e w1 ⟨rfl, hb1⟩
  have HB := Lib.hid hb1; clear hb1
  go_wp2_with fail
  go_ret2
  refine ⟨.slice none 0 0, rfl, ?_, (below_a1 w _).trans (HB.out.mono (by simp))⟩
  rw [if_neg HC.out]
  exact OB.nil _ _

set_option maxRecDepth 100000 in
set_option maxHeartbeats 1000000 in
theorem encode_gone (slot gen holder fslot fgen : Int) (pre : Bs) (rights : Int) (w : World) (h : checkE slot ⟨gen, false, holder, fslot, fgen, pre, rights⟩ = 0) (hg0 : 0 ≤ gen) (hg1 : gen < 18446744073709551616) :
    Calls Tryd.prog 7 #[.int .i64 slot, .agg #[.int .u64 gen, .bool false, .int .u64 holder, .int .i64 fslot, .int .u64 fgen, .string (bs pre), .int .u8 rights]] w (EncPost slot ⟨gen, false, holder, fslot, fgen, pre, rights⟩ w) := by
  have HC := Lib.hid h; clear h
  have HG := Lib.hid hg1; clear hg1
  go_enter Tryd.func7, Tryd.ntmps7
  go_wp2_with fail
  refine (check_gone _ _ _ _ _ _ _ _).mono ?_
  rintro e w1 ⟨rfl, hb1⟩
  rw [HC.out]
  have HX1 := Lib.hid ((Blk.new w #[.int .u64 gen, .bool false, .int .u64 holder, .int .i64 fslot, .int .u64 fgen, .string (bs pre), .int .u8 rights] 32).below hb1)
  have hx1 := HX1.out.cell
  have hs1 := hb1.size
  simp only [World.size_alloc] at hs1
  have HB := Lib.hid hb1; clear hb1
  go_wp2_with fail
  refine (packNum_any _ [] _ _ (RB.nil _) (by simp) hg0 HG.out).mono ?_
  rintro e w2 ⟨v2, rfl, ho2, hb2⟩
  have HX2 := Lib.hid (HX1.out.below hb2)
  have hx2 := HX2.out.cell
  have hs2 := hb2.size
  have HB2 := Lib.hid hb2; clear hb2
  have HO2 := Lib.hid ho2; clear ho2
  have hvl := vbytes_len gen
  go_wp2_with fail
  refine (packByte_any _ _ 0 _ HO2.out.rb (by simp; omega) (by omega) (by omega)).mono ?_
  rintro e w3 ⟨v3, rfl, ho3, hb3⟩
  have HB3 := Lib.hid hb3; clear hb3
  have HO3 := Lib.hid ho3; clear ho3
  go_wp2_with fail
  go_ret2
  refine ⟨v3, by rw [HC.out]; rfl, ?_, ?_⟩
  · rw [if_pos HC.out]
    have : encB ⟨gen, false, holder, fslot, fgen, pre, rights⟩ = [] ++ vbytes gen ++ [u8 0] := by simp [encB]
    rw [this]
    exact HO3.out.mono (by omega)
  · exact (((below_a1 w _).trans (HB.out.mono (by simp))).trans (HB2.out.mono (by omega))).trans (HB3.out.mono (by omega))

set_option maxRecDepth 100000 in
set_option maxHeartbeats 2000000 in
theorem encode_live (slot gen holder fslot fgen : Int) (pre : Bs) (rights : Int) (w : World) (h : checkE slot ⟨gen, true, holder, fslot, fgen, pre, rights⟩ = 0) (hg0 : 0 ≤ gen) (hg1 : gen < 18446744073709551616)
    (hh0 : 0 ≤ holder) (hh1 : holder < 18446744073709551616) (hf0 : 0 ≤ fgen) (hf1 : fgen < 18446744073709551616) (hr0 : 0 ≤ rights) (hr1 : rights < 256) (hp : pre.length ≤ 40) :
    Calls Tryd.prog 7 #[.int .i64 slot, .agg #[.int .u64 gen, .bool true, .int .u64 holder, .int .i64 fslot, .int .u64 fgen, .string (bs pre), .int .u8 rights]] w (EncPost slot ⟨gen, true, holder, fslot, fgen, pre, rights⟩ w) := by
  have HC := Lib.hid h; clear h
  have HG := Lib.hid hg1; clear hg1
  have HH := Lib.hid hh1; clear hh1
  have HF := Lib.hid hf1; clear hf1
  go_enter Tryd.func7, Tryd.ntmps7
  go_wp2_with fail
  refine (check_live _ _ _ _ _ _ _ _).mono ?_
  rintro e w1 ⟨rfl, hb1⟩
  rw [HC.out]
  have HX1 := Lib.hid ((Blk.new w #[.int .u64 gen, .bool true, .int .u64 holder, .int .i64 fslot, .int .u64 fgen, .string (bs pre), .int .u8 rights] 32).below hb1)
  have hx1 := HX1.out.cell
  have hs1 := hb1.size
  simp only [World.size_alloc] at hs1
  have HB := Lib.hid hb1; clear hb1
  go_wp2_with fail
  refine (packNum_any _ [] _ _ (RB.nil _) (by simp) hg0 HG.out).mono ?_
  rintro e w2 ⟨v2, rfl, ho2, hb2⟩
  have HX2 := Lib.hid (HX1.out.below hb2)
  have hx2 := HX2.out.cell
  have hs2 := hb2.size
  have HB2 := Lib.hid hb2; clear hb2
  have HO2 := Lib.hid ho2; clear ho2
  have hvl := vbytes_len gen
  go_wp2_with fail
  go_region_held3 (fun w' => w'.cell? ⟨w.heap.size, 2, none⟩ = some (.int .u64 holder) ∧ w'.cell? ⟨w.heap.size, 3, none⟩ = some (.int .i64 fslot)) (go_keep)
    (first
      | (go_at_call_of 16 (Value.int IntKind.u8 1); refine (packByte_any _ _ 1 _ (by exact HO2.out.rb.drew) (by simp; omega) (by omega) (by omega)).mono ?_; rintro e w3 ⟨v3, rfl, ho3, hb3⟩; have HX3 := Lib.hid (HX2.out.drew.below hb3); have hx3 := HX3.out.cell; have hs3 : w2.heap.size ≤ w3.heap.size := hb3.size; have HB3 := Lib.hid hb3; have HO3 := Lib.hid ho3; clear hb3 ho3)
      | (go_at_call 15; refine (packNum_any _ _ _ _ (by exact HO3.out.rb) (by simp; omega) hh0 HH.out).mono ?_; rintro e w4 ⟨v4, rfl, ho4, hb4⟩; have HX4 := Lib.hid (HX3.out.below hb4); have hx4 := HX4.out.cell; have hs4 := hb4.size; have HB4 := Lib.hid hb4; have HO4 := Lib.hid ho4; clear hb4 ho4)
      | (go_at_call 16; refine (packByte_any _ _ _ _ (by exact HO4.out.rb) (by have := vbytes_len holder; simp; omega) (by rw [IntKind.wrap_u8]; omega) (by rw [IntKind.wrap_u8]; omega)).mono ?_; rintro e w5 ⟨v5, rfl, ho5, hb5⟩; have HX5 := Lib.hid (HX4.out.below hb5); have hx5 := HX5.out.cell; have hs5 := hb5.size; have HB5 := Lib.hid hb5; have HO5 := Lib.hid ho5; clear hb5 ho5))
  go_wp2_with fail
  have hvh := vbytes_len holder
  clear hx1 hx2 hx3 hx4
  have hmx : Tryd.prog.follows .mixedOrders = true := by kernel_rfl
  have hvf := vbytes_len fgen
  refine wp_region_held_drew (S := fun w' => Blk w' w.heap.size #[.int .u64 gen, .bool true, .int .u64 holder, .int .i64 fslot, .int .u64 fgen, .string (bs pre), .int .u8 rights] 32 ∧ Below w5.heap.size w5 w') hmx ⟨HX5.out.drew, (Below.refl _ _).drew⟩ (fun hHeld => ?_)
  refine take_first (i := 0) (v := ?_) rfl (by kernel_rfl) (by kernel_rfl) (by kernel_rfl) rfl (fun _ _ _ h => h) (by assumption) ?_ ?_
  rotate_left
  · intro w' hSw
    have hx := Blk.cell hSw.1
    go_simp
    with_reducible rfl
  simp only [Act.put, List.setIfInBounds_toArray, List.set_cons_zero, List.set_cons_succ]
  refine take_first (i := 1) (v := ?_) rfl (by kernel_rfl) (by kernel_rfl) (by kernel_rfl) rfl (fun _ _ _ h => h) (by assumption) ?_ ?_
  rotate_left
  · intro w' hSw
    have hx := Blk.cell hSw.1
    go_simp
    with_reducible rfl
  simp only [Act.put, List.setIfInBounds_toArray, List.set_cons_zero, List.set_cons_succ]
  refine take_first (i := 2) (v := ?_) rfl (by kernel_rfl) (by kernel_rfl) (by kernel_rfl) rfl (fun _ _ _ h => h) (by assumption) ?_ ?_
  rotate_left
  · intro w' hSw
    have hx := Blk.cell hSw.1
    go_simp
    with_reducible rfl
  simp only [Act.put, List.setIfInBounds_toArray, List.set_cons_zero, List.set_cons_succ]
  refine take_first (i := 3) (v := ?_) rfl (by kernel_rfl) (by kernel_rfl) (by kernel_rfl) rfl (fun _ _ _ h => h) (by assumption) ?_ ?_
  rotate_left
  · intro w' hSw
    have hx := Blk.cell hSw.1
    go_simp
    with_reducible rfl
  simp only [Act.put, List.setIfInBounds_toArray, List.set_cons_zero, List.set_cons_succ]
  refine take_first (i := 5) (v := ?_) rfl (by kernel_rfl) (by kernel_rfl) (by kernel_rfl) rfl (fun _ _ _ h => h) (by assumption) ?_ ?_
  rotate_left
  · intro w' hSw
    have hx := Blk.cell hSw.1
    go_simp
    with_reducible rfl
  simp only [Act.put, List.setIfInBounds_toArray, List.set_cons_zero, List.set_cons_succ]
  refine take_first (i := 6) (v := ?_) rfl (by kernel_rfl) (by kernel_rfl) (by kernel_rfl) rfl (fun _ _ _ h => h) (by assumption) ?_ ?_
  rotate_left
  · intro w' hSw
    have hx := Blk.cell hSw.1
    go_simp
    with_reducible rfl
  simp only [Act.put, List.setIfInBounds_toArray, List.set_cons_zero, List.set_cons_succ]
  refine take_first (i := 7) (v := ?_) rfl (by kernel_rfl) (by kernel_rfl) (by kernel_rfl) rfl (fun _ _ _ h => h) (by assumption) ?_ ?_
  rotate_left
  · intro w' hSw
    have hx := Blk.cell hSw.1
    go_simp
    with_reducible rfl
  simp only [Act.put, List.setIfInBounds_toArray, List.set_cons_zero, List.set_cons_succ]
  refine take_first (i := 10) (v := ?_) rfl (by kernel_rfl) (by kernel_rfl) (by kernel_rfl) rfl (fun _ _ _ h => h) (by assumption) ?_ ?_
  rotate_left
  · intro w' hSw
    have hx := Blk.cell hSw.1
    go_simp
    with_reducible rfl
  simp only [Act.put, List.setIfInBounds_toArray, List.set_cons_zero, List.set_cons_succ]
  refine take_first (i := 11) (v := ?_) rfl (by kernel_rfl) (by kernel_rfl) (by kernel_rfl) rfl (fun _ _ _ h => h) (by assumption) ?_ ?_
  rotate_left
  · intro w' hSw
    have hx := Blk.cell hSw.1
    go_simp
    with_reducible rfl
  simp only [Act.put, List.setIfInBounds_toArray, List.set_cons_zero, List.set_cons_succ]
  refine take_first (i := 12) (v := ?_) rfl (by kernel_rfl) (by kernel_rfl) (by kernel_rfl) rfl (fun _ _ _ h => h) (by assumption) ?_ ?_
  rotate_left
  · intro w' hSw
    have hx := Blk.cell hSw.1
    go_simp
    with_reducible rfl
  simp only [Act.put, List.setIfInBounds_toArray, List.set_cons_zero, List.set_cons_succ]
  refine wpAnyH_rel (fun w' => Blk w' w.heap.size #[.int .u64 gen, .bool true, .int .u64 holder, .int .i64 fslot, .int .u64 fgen, .string (bs pre), .int .u8 rights] 32 ∧ Below w5.heap.size w5 w') 16
    [(4, fun v w' => OB w' w5.heap.size v ([] ++ vbytes gen ++ [u8 1] ++ vbytes holder ++ [u8 (IntKind.u8.wrap fslot)] ++ vbytes fgen)), (8, fun v w' => RB w' v pre), (9, fun v w' => OB w' w5.heap.size v ([] ++ vbytes gen ++ [u8 1] ++ vbytes holder ++ [u8 (IntKind.u8.wrap fslot)] ++ vbytes fgen ++ vbytes pre.length ++ pre)),
     (13, fun v w' => OB w' w5.heap.size v ([] ++ vbytes gen ++ [u8 1] ++ vbytes holder ++ [u8 (IntKind.u8.wrap fslot)] ++ vbytes fgen ++ vbytes pre.length ++ pre ++ [u8 rights])), (14, fun v w' => OB w' w5.heap.size v ([] ++ vbytes gen ++ [u8 1] ++ vbytes holder ++ [u8 (IntKind.u8.wrap fslot)] ++ vbytes fgen ++ vbytes pre.length ++ pre ++ [u8 rights])), (15, fun v _ => v = .nilIface)]
    (fun a b => Below a.heap.size a b) (by kernel_rfl) hHeld ?hV (fun _ _ h1 h2 => ⟨h1.1.below h2, below_then h1.2 h1.2.size h2⟩) ?ob ?fin
  case hV => exact ⟨fun _ _ _ _ hx h => h.kept hx, fun _ _ _ _ hx h => h.below hx, fun _ _ _ _ hx h => h.kept hx, fun _ _ _ _ hx h => h.kept hx, fun _ _ _ _ hx h => h.kept hx, fun _ _ _ _ _ h => h, trivial⟩
  case ob =>
    refine ⟨?_, ?_, ?_, ?_, ?_, ?_, trivial⟩
    · intro f w' hC hdep hun K hK
      clear hdep hun
      refine wpOp_lit rfl rfl ?_
      simp [fillA, dstOf, Act.put] at hK ⊢
      go_simp
      refine (packNum_any _ _ _ _ (HO5.out.rb.below hC.2) (by simp; omega) hf0 HF.out).mono ?_
      rintro e w6 ⟨v6, rfl, ho, hb⟩
      exact hK _ _ (by simpa using ho.mono hC.2.size) hb
    · intro f w' hC hdep hun K hK
      clear hdep hun
      refine wpOp_lit rfl rfl ?_
      simp [fillA, dstOf, Act.put] at hK ⊢
      go_simp
      rw [conv_run]
      go_simp
      exact hK _ _ (conv_rb _ _ _ rfl _ (bs_data _) (by unfold maxLen; omega)) (conv_below _ _ _)
    · intro f w' hC hdep hun K hK
      have d4 : OB w' w5.heap.size (f 4) ([] ++ vbytes gen ++ [u8 1] ++ vbytes holder ++ [u8 (IntKind.u8.wrap fslot)] ++ vbytes fgen) := hdep 4 (by simp) (by kernel_rfl)
      have d8 : RB w' (f 8) pre := hdep 8 (by simp) (by kernel_rfl)
      clear hdep hun
      refine wpOp_lit rfl rfl ?_
      simp [fillA, dstOf, Act.put] at hK ⊢
      go_simp
      refine (packBytes_any _ _ _ _ _ d4.rb d8 (by simp; omega)).mono ?_
      rintro e w6 ⟨v6, rfl, ho, hb⟩
      exact hK _ _ (by simpa using ho.mono hC.2.size) hb
    · intro f w' hC hdep hun K hK
      have d9 : OB w' w5.heap.size (f 9) ([] ++ vbytes gen ++ [u8 1] ++ vbytes holder ++ [u8 (IntKind.u8.wrap fslot)] ++ vbytes fgen ++ vbytes pre.length ++ pre) := hdep 9 (by simp) (by kernel_rfl)
      clear hdep hun
      refine wpOp_lit rfl rfl ?_
      simp [fillA, dstOf, Act.put] at hK ⊢
      go_simp
      refine (packByte_any _ _ _ _ d9.rb (by have := vbytes_len pre.length; simp; omega) hr0 hr1).mono ?_
      rintro e w6 ⟨v6, rfl, ho, hb⟩
      exact hK _ _ (by simpa using ho.mono hC.2.size) hb
    · intro f w' hC hdep hun K hK
      have d : OB w' w5.heap.size (f 13) ([] ++ vbytes gen ++ [u8 1] ++ vbytes holder ++ [u8 (IntKind.u8.wrap fslot)] ++ vbytes fgen ++ vbytes pre.length ++ pre ++ [u8 rights]) := hdep 13 (by simp) (by kernel_rfl)
      clear hdep hun
      refine wpOp_lit rfl rfl ?_
      simp [fillA, dstOf, Act.put] at hK ⊢
      go_simp
      exact hK _ _ (by simpa using d) (Below.refl _ _)
    · intro f w' hC hdep hun K hK
      clear hdep hun
      refine wpOp_lit rfl rfl ?_
      simp [fillA, dstOf, Act.put] at hK ⊢
      go_simp
      exact hK _ _ rfl (Below.refl _ _)
  case fin =>
    intro f w' hC hr
    obtain ⟨_, _, _, _, h14, h15, _⟩ := hr
    refine wpListH_nil ?_
    simp [fillA, dstOf, Act.put, h15]
    have HO := Lib.hid h14
    have HC2 := Lib.hid hC
    clear h14 hC hHeld
    go_wp2
    go_ret2
    refine ⟨f 14, by rw [HC.out]; rfl, ?_, ?_⟩
    · rw [if_pos HC.out]
      have : encB ⟨gen, true, holder, fslot, fgen, pre, rights⟩ = [] ++ vbytes gen ++ [u8 1] ++ vbytes holder ++ [u8 (IntKind.u8.wrap fslot)] ++ vbytes fgen ++ vbytes pre.length ++ pre ++ [u8 rights] := by simp [encB]
      rw [this]
      have h5 : w4.heap.size ≤ w5.heap.size := HB5.out.size
      exact HO.out.mono (by omega)
    · exact (((((below_a1 w _).trans (HB.out.mono (by simp))).trans (HB2.out.mono (by omega))).trans ((undrew HB3.out).mono (by show w.heap.size ≤ w2.heap.size; omega))).trans (HB4.out.mono (by omega))).trans ((HB5.out.mono (by omega)).trans (HC2.out.2.mono (by have h5 : w4.heap.size ≤ w5.heap.size := HB5.out.size; omega)))
end Go.Proofs.YtjklpohbmockjaaDoor
