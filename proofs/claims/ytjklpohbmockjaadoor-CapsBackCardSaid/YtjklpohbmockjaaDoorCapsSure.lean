/- The law of capabilities: sure. -/
import Derived.Test.YtjklpohbmockjaaDoorCapsG
set_option linter.unusedVariables false
set_option linter.unusedSimpArgs false
namespace Go.Proofs.YtjklpohbmockjaaDoor
open Go.RowKit

def c2 : Cap := ⟨2, true, 7, 0, 1, [97], 3⟩
theorem capV_c2 : capV c2 = .agg #[.int .u64 2, .bool true, .int .u64 7, .int .i64 0, .int .u64 1, .string ⟨#[97]⟩, .int .u8 3] := rfl
theorem c2_wf : Wf c2 := by unfold Wf; decide
theorem c2_ok : checkE 3 c2 = 0 := by decide
theorem c2_bad : checkE 0 c2 = 1 := by decide
theorem c2_len : (encB c2).length = 8 := by decide
theorem c2_text : refText 3 2 = [51, 46, 50] := by simp [refText, Lib.decDigits]
/-- What Encode answered, told without the program's way. -/
theorem encPost_ok {slot : Int} {c : Cap} {w : World} {e : Ending} {w' : World} (h : EncPost slot c w e w') (hc : checkE slot c = 0) :
    ∃ v, e = .returned (.tuple #[v, .nilIface]) ∧ OB w' w.heap.size v (encB c) ∧ Below w.heap.size w w' := by
  obtain ⟨v, h1, h2, h3⟩ := h
  rw [if_pos hc] at h2; rw [hc] at h1
  exact ⟨v, h1, h2, h3⟩
theorem decode_ok_any (slot : Int) (c : Cap) (v : Value) (w : World) (hw : Wf c) (hc : checkE slot c = 0) (h : RB w v (encB c)) :
    Calls Tryd.prog 8 #[.int .i64 slot, v] w fun e w' => e = .returned (.tuple #[capV c, .nilIface]) ∧ Below w.heap.size w w' := by
  have hl := encB_len hc
  have := decode_any slot v (encB c) w h (by omega)
  rw [decode_enc hw hc] at this
  exact this
set_option maxRecDepth 100000 in
set_option maxHeartbeats 1000000 in
theorem sure_any (w : World) (hG : G w) : Calls Tryd.prog 6 #[] w fun e w' => e = .returned (.bool true) ∧ Below w.heap.size w w' := by
  have HG := Lib.hid hG; clear hG
  go_enter Tryd.func6, Tryd.ntmps6
  go_wp2_with fail
  refine (encode_any 3 c2 _ c2_wf).mono ?_
  intro e w1 he
  obtain ⟨v, rfl, hv, hb⟩ := encPost_ok he c2_ok
  obtain ⟨vb, vo, vc, rfl⟩ : ∃ b o c, v = .slice (some ⟨b, o, none⟩) 8 c := by
    rcases hv.rb.open with ⟨_, h⟩ | ⟨b, o, c, h, _, _⟩
    · exact absurd h encB_ne
    · rw [c2_len] at h; exact ⟨b, o, c, h⟩
  have HX1 := Lib.hid (Blk.below (Blk.new w _ _) hb)
  have HB1 := Lib.hid (below_then (below_a1 w _) (by simp) hb)
  have HV := Lib.hid (hv.mono (b' := w.heap.size) (by simp))
  clear hb he hv
  go_wp2_with fail
  refine (decode_ok_any 3 c2 _ _ c2_wf c2_ok HV.out.rb).mono ?_
  rintro e w2 ⟨rfl, hb⟩
  have HX2 := Lib.hid (HX1.out.below hb)
  have HB2 := Lib.hid (below_then HB1.out HB1.out.size hb)
  have hx2 := HX2.out.cell
  have hl2 := HX2.out.lt
  rw [capV_c2]
  clear hb HX1
  go_wp2_with fail
  refine (encode_any 0 c2 _ c2_wf).mono ?_
  rintro e w3 ⟨v3, rfl, -, hb⟩
  have HB3 := Lib.hid (below_then (below_alloc HB2.out _) (below_alloc HB2.out _).size hb)
  have HX3 := Lib.hid (((HX2.out.below (below_a1 _ _)).below hb))
  have HD3 := Lib.hid ((Blk.new w2 _ _).below hb)
  rw [c2_bad]
  clear hb HX2 hx2 hl2
  go_wp2_with fail
  refine (name_any 3 2 _ (by decide) (HG.out.below (Nat.le_refl _) HB3.out).tab (HG.out.below (Nat.le_refl _) HB3.out).tabl).mono ?_
  rintro e w4 ⟨rfl, hb⟩
  have HB4 := Lib.hid (below_then HB3.out HB3.out.size hb)
  have HX4 := Lib.hid (HX3.out.below hb)
  have HD4 := Lib.hid (HD3.out.below hb)
  clear hb HX3 HD3
  go_wp2_with fail
  refine (parse_ok 3 2 _ (by decide) (HG.out.below (Nat.le_refl _) HB4.out).tab (HG.out.below (Nat.le_refl _) HB4.out).ml (HG.out.below (Nat.le_refl _) HB4.out).tabl (HG.out.below (Nat.le_refl _) HB4.out).mll).mono ?_
  rintro e w5 ⟨rfl, hb⟩
  have HB5 := Lib.hid (below_then HB4.out HB4.out.size hb)
  have HX5 := Lib.hid (HX4.out.below hb)
  have HD5 := Lib.hid (HD4.out.below hb)
  clear hb HX4 HD4
  have hx5 := HX5.out.cell
  have hd5 := HD5.out.cell
  have hxl := HX5.out.lt
  have hdl := HD5.out.lt
  rw [c2_text]
  have hbs : bs [51, 46, 50] = ⟨#[51, 46, 50]⟩ := rfl
  rw [hbs]
  go_wp2_with fail
  refine (num_any 1 _ (HG.out.below (Nat.le_refl _) (below_alloc HB5.out _)).err).mono ?_
  rintro e w6 ⟨rfl, hb⟩
  have HB6 := Lib.hid (below_then (below_alloc HB5.out _) (below_alloc HB5.out _).size hb)
  have hr6 := ((Blk.new w5 #[.int .i64 3, .int .u64 2] 29).below hb).cell
  clear hb hx5 hd5 hxl hdl HX5 HD5 HG HV
  go_wp2
  all_goals go_ret
  exact ⟨rfl, HB6.out⟩
end Go.Proofs.YtjklpohbmockjaaDoor
