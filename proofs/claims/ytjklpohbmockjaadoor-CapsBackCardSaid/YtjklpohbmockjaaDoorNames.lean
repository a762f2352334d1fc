/- caps.Name, and caps.Parse of what it answers. -/
import Derived.Test.YtjklpohbmockjaaDoorRefLaw
set_option linter.unusedVariables false
set_option linter.unusedSimpArgs false
namespace Go.Proofs.YtjklpohbmockjaaDoor
open Go.RowKit

set_option maxRecDepth 100000 in
set_option maxHeartbeats 1000000 in
theorem name_any (s g : Int) (w : World) (hm : mayB s g = true) (htab : Tab w) (hT : 4 < w.heap.size) :
    Calls Tryd.prog 9 #[.agg #[.int .i64 s, .int .u64 g]] w fun e w' => e = .returned (.tuple #[.string (bs (refText s g)), .nilIface]) ∧ Below w.heap.size w w' := by
  have HT := Lib.hid htab; clear htab
  have HM := Lib.hid hm; clear hm
  go_enter Tryd.func9, Tryd.ntmps9
  go_wp2_with fail
  refine (may_any _ _ _).mono ?_
  rintro e w1 ⟨rfl, hb1⟩
  rw [HM.out]
  have HX1 := Lib.hid ((Blk.new w #[.int .i64 s, .int .u64 g] 29).below hb1)
  have hx1 := HX1.out.cell
  have HB1 := Lib.hid ((below_a1 w (.cells #[.int .i64 s, .int .u64 g] 29)).trans (hb1.mono (by simp)))
  have hs1 := HB1.out.size
  clear hb1
  go_wp2_with fail
  refine (name_in s g _ HM.out (HT.out.below HB1.out hT) (by omega)).mono ?_
  rintro e w2 ⟨rfl, hb2⟩
  have HB2 := Lib.hid (below_then HB1.out HB1.out.size hb2)
  clear hb2
  go_wp2
  go_ret2
  exact ⟨rfl, HB2.out⟩

def ML (w : World) : Prop := ∃ m, w.cell? ⟨1, 0, none⟩ = some (.int .i64 m)
theorem ML.below {B : Nat} {w w' : World} (h : ML w) (hb : Below B w w') (hB : 1 < B) : ML w' := by
  obtain ⟨m, hm⟩ := h
  exact ⟨m, (hb.cell (p := ⟨_, 0, none⟩) hB).trans hm⟩
theorem below_drewN (w : World) (n : Nat) : Below w.heap.size w (w.drewN n) := ⟨rfl, rfl, rfl, Nat.le_refl _, fun _ _ => rfl⟩

set_option maxRecDepth 100000 in
set_option maxHeartbeats 2000000 in
theorem parse_ok (s g : Int) (w : World) (hm : mayB s g = true) (htab : Tab w) (hml : ML w) (hT : 4 < w.heap.size) (hT2 : 1 < w.heap.size) :
    Calls Tryd.prog 10 #[.string (bs (refText s g))] w fun e w' => e = .returned (.tuple #[.agg #[.int .i64 s, .int .u64 g], .nilIface]) ∧ Below w.heap.size w w' := by
  have hm' := hm
  simp only [mayB, decide_eq_true_eq] at hm'
  obtain ⟨h1, h2, h3, h4⟩ := hm'
  obtain ⟨s, rfl⟩ := Int.eq_ofNat_of_zero_le h1
  obtain ⟨g, rfl⟩ := Int.eq_ofNat_of_zero_le (show 0 ≤ g by omega)
  have HT := Lib.hid htab; clear htab
  have HM := Lib.hid hm; clear hm
  have HL := Lib.hid hml; clear hml
  have hlen : (bs (refText s g)).size ≤ 41 := by
    rw [bs_size]; unfold refText
    have := digits_len (u := s) (by omega); have := digits_len (u := g) (by omega)
    simp; omega
  have hcut : Lib.cut (bs (refText s g)).data.toList ([46] : List UInt8) = (Lib.decDigits s, Lib.decDigits g, true) := by rw [bs_data]; exact cut_ref s g
  have HLEN := Lib.hid hlen
  have HCUT := Lib.hid hcut
  clear hlen hcut
  go_enter Tryd.func10, Tryd.ntmps10
  go_wp2_with fail
  obtain ⟨m, hmm⟩ := HL.out.below (below_a1 w (.cells #[.int .i64 0, .int .u64 0] 29)) hT2
  refine (Tryd.strings_Cut (bs (refText s g)) ⟨#[46]⟩ m _ (by have := HLEN.out; omega) hmm).mono ?_
  rintro e w1 ⟨he, n1, rfl⟩
  simp only [show (⟨#[46]⟩ : ByteArray).data.toList = [46] from rfl, HCUT.out] at he
  change e = .returned (.tuple #[.string (bs (Lib.decDigits s)), .string (bs (Lib.decDigits g)), .bool true]) at he
  subst he
  clear hmm
  have HP1 := Lib.hid (Tryd.strconv_ParseUint_10_at8_ok (bs (Lib.decDigits s)) (by rw [bs_size]; have := digits_len (u := s) (by omega); omega) s (by rw [bs_data]; exact parse8 (by omega)))
  have HP2 := Lib.hid (Tryd.strconv_ParseUint_10_at64_ok (bs (Lib.decDigits g)) (by rw [bs_size]; have := digits_len (u := g) (by omega); omega) g (by rw [bs_data]; exact parse64 (by omega)))
  have HB1 := Lib.hid ((below_a1 w (.cells #[.int .i64 0, .int .u64 0] 29)).trans ((below_drewN _ n1).mono (by simp)))
  have HX1 := Lib.hid ((Blk.new w #[.int .i64 0, .int .u64 0] 29).below (below_drewN _ n1))
  generalize (w.alloc (.cells #[.int .i64 0, .int .u64 0] 29)).drewN n1 = W1 at *
  have hx1 := HX1.out.cell
  have hf1 := HX1.out.frozen
  go_wp2_with fail
  refine (HP1.out _).mono ?_
  rintro e w2 ⟨rfl, hw2⟩
  have hb2 : Below W1.heap.size W1 w2 := by rcases hw2 with rfl | rfl; exact Below.refl _ _; exact conv_below _ _ _
  have HB2 := Lib.hid (below_then HB1.out HB1.out.size hb2)
  have HX2 := Lib.hid (HX1.out.below hb2)
  clear hw2 hb2 hx1 hf1
  have hx2 := HX2.out.cell
  have hf2 := HX2.out.frozen
  go_wp2_with fail
  refine (HP2.out _).mono ?_
  rintro e w3 ⟨rfl, hw3⟩
  have hb3 : Below w2.heap.size w2 w3 := by rcases hw3 with rfl | rfl; exact Below.refl _ _; exact conv_below _ _ _
  have HB3 := Lib.hid (below_then HB2.out HB2.out.size hb3)
  have HX3 := Lib.hid (HX2.out.below hb3)
  clear hw3 hb3 hx2 hf2
  have hx3 := HX3.out.cell
  have hf3 := HX3.out.frozen
  go_wp2_with fail
  refine (may_any _ _ _).mono ?_
  rintro e w4 ⟨rfl, hb4⟩
  rw [HM.out]
  have HC4 := Lib.hid ((Blk.new w3 #[.int .i64 s, .int .u64 g] 29).below hb4)
  have HX4 := Lib.hid ((HX3.out.below (below_a1 w3 (.cells #[.int .i64 s, .int .u64 g] 29))).below hb4)
  have HB4 := Lib.hid (below_then (HB3.out.alloc HB3.out.size (.cells #[.int .i64 s, .int .u64 g] 29)) (by have := HB3.out.size; simp; omega) hb4)
  have hc34 : w.heap.size < w3.heap.size := HX3.out.lt
  obtain ⟨cb, hcb⟩ : ∃ cb, cb = w3.heap.size := ⟨_, rfl⟩
  rw [← hcb] at hc34 HC4 ⊢
  clear hb4 hx3 hf3 hcb
  have hc4 := HC4.out.cell
  go_wp2_with fail
  refine (name_in s g _ HM.out (HT.out.below HB4.out hT) (by have := HB4.out.size; omega)).mono ?_
  rintro e w5 ⟨rfl, hb5⟩
  have HB5 := Lib.hid (below_then HB4.out HB4.out.size hb5)
  have HX5 := Lib.hid (HX4.out.below hb5)
  have HC5 := Lib.hid (HC4.out.below hb5)
  clear hb5 hc4
  have hx5 := HX5.out.cell
  have hf5 := HX5.out.frozen
  have hc5 := HC5.out.cell
  go_wp2_with fail
  refine bodyPost_ret (v := .tuple #[.agg #[.int .i64 s, .int .u64 g], .nilIface]) (by simp [results, Tryd.results10, go_sem, hx5, hf5]) rfl ?_
  exact ⟨rfl, (HB5.out.setCell (by simp) _).setCell (by simp) _⟩
end Go.Proofs.YtjklpohbmockjaaDoor
