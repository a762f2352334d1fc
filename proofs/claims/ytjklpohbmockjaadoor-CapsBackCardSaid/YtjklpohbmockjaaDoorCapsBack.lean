/- The law of capabilities: CapsBack. -/
import Derived.Test.YtjklpohbmockjaaDoorCapsSure
set_option linter.unusedVariables false
set_option linter.unusedSimpArgs false
namespace Go.Proofs.YtjklpohbmockjaaDoor
open Go.RowKit

theorem RB.takeS {w : World} {A : Option Addr} {m c : Nat} {l : Bs} (h : RB w (.slice A m c) l) (k : Nat) (hk : k ≤ l.length) : RB w (.slice A k c) (l.take k) := by
  have hlen := h.len
  have hk' : (l.take k).length = k := by simp; omega
  obtain ⟨_, _, ⟨h1, h2⟩ | ⟨b, off, c', h1, h2, h3⟩⟩ := h
  · injection h1 with h1 h4 h5
    subst h1 h5
    obtain rfl : k = 0 := by omega
    exact RB.nil w
  · injection h1 with h1 h4 h5
    subst h1 h5
    refine ⟨by rw [hk']; simp [bc]; omega, by rw [hk']; unfold maxLen; omega, .inr ⟨b, off, c, by rw [hk'], by rw [hk']; omega, ?_⟩⟩
    intro j u hu
    refine h3 j u ?_
    simp only [bc, List.map_take, List.getElem?_take] at hu
    split at hu
    · exact hu
    · simp at hu
theorem may_of_check {slot : Int} {c : Cap} (h : checkE slot c = 0) : mayB slot c.gen = true := by
  have := check_zero h
  simp only [okB, Bool.and_eq_true, decide_eq_true_eq] at this
  obtain ⟨⟨⟨⟨h1, h2⟩, h3⟩, h4⟩, _⟩ := this
  simp only [mayB, decide_eq_true_eq]
  omega
set_option maxRecDepth 100000 in
set_option maxHeartbeats 1000000 in
theorem back_bad (slot gen : Int) (live : Bool) (holder fslot fgen : Int) (pre : Bs) (rights : Int) (w : World) (hG : G w) (hc : checkE slot ⟨gen, live, holder, fslot, fgen, pre, rights⟩ ≠ 0) :
    Calls Tryd.prog 3 #[.int .i64 slot, .agg #[.int .u64 gen, .bool live, .int .u64 holder, .int .i64 fslot, .int .u64 fgen, .string (bs pre), .int .u8 rights]] w fun e w' => e = .returned (.bool true) ∧ Below w.heap.size w w' := by
  have HG := Lib.hid hG; clear hG
  have hz : (checkE slot ⟨gen, live, holder, fslot, fgen, pre, rights⟩ == 0) = false := by simpa using hc
  clear hc
  go_enter Tryd.func3, Tryd.ntmps3
  go_wp2_with fail
  refine (giveCap_any ⟨gen, live, holder, fslot, fgen, pre, rights⟩ _).mono ?_
  rintro e w1 ⟨rfl, hb⟩
  have HB1 := Lib.hid (below_then (below_a1 w _) (below_a1 w _).size hb)
  clear hb
  unfold capV
  go_wp2_with fail
  refine (check_any slot ⟨gen, live, holder, fslot, fgen, pre, rights⟩ _).mono ?_
  rintro e w2 ⟨rfl, hb⟩
  have HB2 := Lib.hid (below_then (below_alloc HB1.out _) (below_alloc HB1.out _).size hb)
  clear hb
  go_wp2_with fail
  refine (sure_any _ (HG.out.below (Nat.le_refl _) HB2.out)).mono ?_
  rintro e w3 ⟨rfl, hb⟩
  have HB3 := Lib.hid (below_then HB2.out HB2.out.size hb)
  clear hb
  go_wp2
  go_ret
  exact ⟨rfl, HB3.out⟩

set_option maxRecDepth 100000 in
set_option maxHeartbeats 1000000 in
theorem back_ok (slot gen : Int) (live : Bool) (holder fslot fgen : Int) (pre : Bs) (rights : Int) (w : World) (hG : G w) (hw : Wf ⟨gen, live, holder, fslot, fgen, pre, rights⟩) (hc : checkE slot ⟨gen, live, holder, fslot, fgen, pre, rights⟩ = 0) :
    Calls Tryd.prog 3 #[.int .i64 slot, .agg #[.int .u64 gen, .bool live, .int .u64 holder, .int .i64 fslot, .int .u64 fgen, .string (bs pre), .int .u8 rights]] w fun e w' => e = .returned (.bool true) ∧ Below w.heap.size w w' := by
  have HG := Lib.hid hG; clear hG
  have HW := Lib.hid hw; clear hw
  have hz : (checkE slot ⟨gen, live, holder, fslot, fgen, pre, rights⟩ == 0) = true := by simpa using hc
  have HC := Lib.hid hc; clear hc
  go_enter Tryd.func3, Tryd.ntmps3
  go_wp2_with fail
  refine (giveCap_any ⟨gen, live, holder, fslot, fgen, pre, rights⟩ _).mono ?_
  rintro e w1 ⟨rfl, hb⟩
  have HB1 := Lib.hid (below_then (below_a1 w _) (below_a1 w _).size hb)
  clear hb
  unfold capV
  go_wp2_with fail
  refine (check_any slot ⟨gen, live, holder, fslot, fgen, pre, rights⟩ _).mono ?_
  rintro e w2 ⟨rfl, hb⟩
  have HB2 := Lib.hid (below_then (below_alloc HB1.out _) (below_alloc HB1.out _).size hb)
  have HX2 := Lib.hid ((Blk.new w1 #[.int .u64 gen, .bool live, .int .u64 holder, .int .i64 fslot, .int .u64 fgen, .string (bs pre), .int .u8 rights] 32).below hb)
  have hx2 := HX2.out.cell
  clear hb
  go_wp2_with fail
  refine (encode_any slot ⟨gen, live, holder, fslot, fgen, pre, rights⟩ _ HW.out).mono ?_
  intro e w3 he
  obtain ⟨v, rfl, hv, hb⟩ := encPost_ok he HC.out
  have hlen := encB_len HC.out
  have hpos : 1 ≤ (encB ⟨gen, live, holder, fslot, fgen, pre, rights⟩).length := by
    have := encB_ne (c := ⟨gen, live, holder, fslot, fgen, pre, rights⟩)
    cases h : encB ⟨gen, live, holder, fslot, fgen, pre, rights⟩
    · exact absurd h this
    · simp
  obtain ⟨vb, vo, vc, rfl, hvc⟩ : ∃ b o c, v = .slice (some ⟨b, o, none⟩) (encB ⟨gen, live, holder, fslot, fgen, pre, rights⟩).length c ∧ (encB ⟨gen, live, holder, fslot, fgen, pre, rights⟩).length ≤ c := by
    rcases hv.rb.open with ⟨_, h⟩ | ⟨b, o, c, h, h2, _⟩
    · exact absurd h encB_ne
    · exact ⟨b, o, c, h, h2⟩
  have HL := Lib.hid (rfl : (encB ⟨gen, live, holder, fslot, fgen, pre, rights⟩).length = (encB ⟨gen, live, holder, fslot, fgen, pre, rights⟩).length)
  generalize hLL : (encB ⟨gen, live, holder, fslot, fgen, pre, rights⟩).length = L at hlen hpos hvc hv ⊢
  clear HL
  have HLL := Lib.hid hLL; clear hLL
  have HB3 := Lib.hid (below_then HB2.out HB2.out.size hb)
  have HX3 := Lib.hid (HX2.out.below hb)
  have HV := Lib.hid (hv.mono (b' := 0) (by simp))
  clear hb he hv hx2 HX2
  go_wp2_with fail
  refine (decode_ok_any slot ⟨gen, live, holder, fslot, fgen, pre, rights⟩ _ _ HW.out HC.out HV.out.rb).mono ?_
  rintro e w4 ⟨rfl, hb⟩
  have HB4 := Lib.hid (below_then HB3.out HB3.out.size hb)
  have HX4 := Lib.hid (HX3.out.below hb)
  have HV4 := Lib.hid (HV.out.rb.below hb)
  clear hb HX3 HV
  unfold capV
  go_wp2_with fail
  have hmx : (max 0 ((L : Int) - 1)).toNat = L - 1 := by omega
  rw [hmx]
  have hd := decode_any slot (.slice (some ⟨vb, vo, none⟩) (L - 1) vc) _ _ ((HV4.out.alloc (.cells #[.int .u64 gen, .bool live, .int .u64 holder, .int .i64 fslot, .int .u64 fgen, .string (bs pre), .int .u8 rights] 32)).takeS (L - 1) (by rw [HLL.out]; omega)) (by rw [List.length_take]; omega)
  refine hd.mono ?_
  clear hd
  rintro e w5 ⟨rfl, hb⟩
  have hcut := decode_cut HW.out HC.out
  rw [HLL.out] at hcut
  rw [hcut]
  have HB5 := Lib.hid (below_then (below_alloc HB4.out _) (below_alloc HB4.out _).size hb)
  have HY5 := Lib.hid ((Blk.new w4 #[.int .u64 gen, .bool live, .int .u64 holder, .int .i64 fslot, .int .u64 fgen, .string (bs pre), .int .u8 rights] 32).below hb)
  have HX5 := Lib.hid ((HX4.out.below (below_a1 _ _)).below hb)
  clear hb hcut hmx HX4 HV4
  generalize (decode slot (List.take (L - 1) (encB ⟨gen, live, holder, fslot, fgen, pre, rights⟩))).1 = cz
  obtain ⟨zg, zl, zh, zs, zf, zp, zr⟩ := cz
  simp only [capV]
  have hx5 := HX5.out.cell
  have hxl := HX5.out.lt
  go_wp2_with fail
  have hg5 := HG.out.below (Nat.le_refl _) (below_alloc HB5.out (.cells #[.int .u64 zg, .bool zl, .int .u64 zh, .int .i64 zs, .int .u64 zf, .string (bs zp), .int .u8 zr] 32))
  refine (name_any slot gen _ (may_of_check HC.out) hg5.tab hg5.tabl).mono ?_
  clear hg5
  rintro e w6 ⟨rfl, hb⟩
  have HB6 := Lib.hid (below_then (below_alloc HB5.out _) (below_alloc HB5.out _).size hb)
  have HX6 := Lib.hid ((HX5.out.below (below_a1 _ _)).below hb)
  have HY6 := Lib.hid ((HY5.out.below (below_a1 _ _)).below hb)
  clear hb HX5 HY5 hx5 hxl
  go_wp2_with fail
  have hg6 := HG.out.below (Nat.le_refl _) HB6.out
  refine (parse_ok slot gen _ (may_of_check HC.out) hg6.tab hg6.ml hg6.tabl hg6.mll).mono ?_
  clear hg6
  rintro e w7 ⟨rfl, hb⟩
  have HB7 := Lib.hid (below_then HB6.out HB6.out.size hb)
  have HX7 := Lib.hid (HX6.out.below hb)
  have HY7 := Lib.hid (HY6.out.below hb)
  clear hb HX6 HY6
  have hx7 := HX7.out.cell
  have hxl := HX7.out.lt
  have hy7 := HY7.out.cell
  have hyl := HY7.out.lt
  go_wp2_with fail
  refine (num_any 3 _ (HG.out.below (Nat.le_refl _) (below_alloc HB7.out _)).err).mono ?_
  rintro e w8 ⟨rfl, hb⟩
  have HB8 := Lib.hid (below_then (below_alloc HB7.out _) (below_alloc HB7.out _).size hb)
  have HX8 := Lib.hid ((HX7.out.below (below_a1 _ _)).below hb)
  have HY8 := Lib.hid ((HY7.out.below (below_a1 _ _)).below hb)
  have HR8 := Lib.hid ((Blk.new w7 #[.int .i64 slot, .int .u64 gen] 29).below hb)
  clear hb hx7 hxl hy7 hyl HX7 HY7
  have hx8 := HX8.out.cell
  have hxl := HX8.out.lt
  have hr8 := HR8.out.cell
  have hrl := HR8.out.lt
  go_wp2_with fail
  refine (sure_any _ (HG.out.below (Nat.le_refl _) HB8.out)).mono ?_
  rintro e w9 ⟨rfl, hb⟩
  have HB9 := Lib.hid (below_then HB8.out HB8.out.size hb)
  clear hb hx8 hxl hr8 hrl HX8 HR8 HY8
  go_wp2
  go_ret
  exact ⟨rfl, HB9.out⟩

theorem capsBack_any (slot : Int) (c : Cap) (w : World) (hG : G w) (hw : Wf c) : Calls Tryd.prog 3 #[.int .i64 slot, capV c] w fun e w' => e = .returned (.bool true) ∧ Below w.heap.size w w' := by
  obtain ⟨gen, live, holder, fslot, fgen, pre, rights⟩ := c
  by_cases h : checkE slot ⟨gen, live, holder, fslot, fgen, pre, rights⟩ = 0
  · exact back_ok slot gen live holder fslot fgen pre rights w hG hw h
  · exact back_bad slot gen live holder fslot fgen pre rights w hG h
end Go.Proofs.YtjklpohbmockjaaDoor
