/- request: a field into bytes. -/
import Derived.Test.YtbkgcfoilgggjaaDoorReq
set_option linter.unusedVariables false
set_option linter.unusedSimpArgs false
namespace Go.Proofs.YtbkgcfoilgggjaaDoor
open Go.RowKit

/-- A request's numbers, as its types have them; its texts not too long to be counted. -/
def WfQ (q : Req) : Prop := (0 ≤ q.kind ∧ q.kind < 256) ∧ (0 ≤ q.space ∧ q.space < 18446744073709551616) ∧ (0 ≤ q.handle ∧ q.handle < 18446744073709551616) ∧ (0 ≤ q.rgen ∧ q.rgen < 18446744073709551616) ∧ (0 ≤ q.to_ ∧ q.to_ < 18446744073709551616) ∧
  q.key.length ≤ 1000000 ∧ q.value.length ≤ 1000000 ∧ (0 ≤ q.rights ∧ q.rights < 256) ∧ (0 ≤ q.most ∧ q.most < 18446744073709551616) ∧ (-9223372036854775808 ≤ q.rslot ∧ q.rslot < 9223372036854775808)
set_option maxRecDepth 100000 in
set_option maxHeartbeats 4000000 in
theorem putq_any (f : Int) (q : Req) (hq : WfQ q) (v : Value) (l : Bs) (qb : Nat) (w : World) (hb : Blk w qb (reqC q) 34) (hr : RB w v l) (hl : l.length ≤ 100000000) :
    Calls Tryd.prog 50 #[.pointer (some ⟨qb, 0, none⟩), v, .int .u8 f] w fun e w' => ∃ v', e = .returned v' ∧ OB w' w.heap.size v' (l ++ putF f q) ∧ Below w.heap.size w w' := by
  obtain ⟨kind, space, handle, rslot, rgen, to_, key, value, rights, most, flag⟩ := q
  obtain ⟨q0, q1, q2, q4, q5, q6, q7, q8, q9, q3⟩ := hq
  have Q0 := Lib.hid q0; have Q1 := Lib.hid q1; have Q2 := Lib.hid q2; have Q3 := Lib.hid q3; have Q4 := Lib.hid q4; have Q5 := Lib.hid q5; have Q9 := Lib.hid q9; have Q8 := Lib.hid q8
  clear q0 q1 q2 q3 q4 q5 q9 q8
  simp only at Q0 Q1 Q2 Q3 Q4 Q5 Q8 Q9 q6 q7
  have HR := Lib.hid hr; clear hr
  have hx : ∀ o, w.cell? ⟨qb, o, none⟩ = #[Value.int .u8 kind, .int .u64 space, .int .u64 handle, .int .i64 rslot, .int .u64 rgen, .int .u64 to_, .string (bs key), .string (bs value), .int .u8 rights, .int .u64 most, .bool flag][o]? := hb.cell
  have HB := Lib.hid hb; clear hb
-- PUT
  by_cases h115 : f = 115
  · subst h115
    simp (config := { decide := true }) only [putF, if_true, if_false]
    go_enter Tryd.func50, Tryd.ntmps50
    go_wp2_with fail
    refine (packNum_any _ l space _ HR.out (by omega) Q1.out.1 Q1.out.2).mono ?_
    rintro e w1 ⟨v1, rfl, ho1, hb1⟩
    have HO1 := Lib.hid ho1; have HB1 := Lib.hid hb1
    clear ho1 hb1
    go_wp2
    go_ret
    exact ⟨_, rfl, HO1.out, HB1.out⟩
  by_cases h104 : f = 104
  · subst h104
    simp (config := { decide := true }) only [putF, if_true, if_false]
    go_enter Tryd.func50, Tryd.ntmps50
    go_wp2_with fail
    refine (packNum_any _ l handle _ HR.out (by omega) Q2.out.1 Q2.out.2).mono ?_
    rintro e w1 ⟨v1, rfl, ho1, hb1⟩
    have HO1 := Lib.hid ho1; have HB1 := Lib.hid hb1
    clear ho1 hb1
    go_wp2
    go_ret
    exact ⟨_, rfl, HO1.out, HB1.out⟩
  by_cases h116 : f = 116
  · subst h116
    simp (config := { decide := true }) only [putF, if_true, if_false]
    go_enter Tryd.func50, Tryd.ntmps50
    go_wp2_with fail
    refine (packNum_any _ l to_ _ HR.out (by omega) Q5.out.1 Q5.out.2).mono ?_
    rintro e w1 ⟨v1, rfl, ho1, hb1⟩
    have HO1 := Lib.hid ho1; have HB1 := Lib.hid hb1
    clear ho1 hb1
    go_wp2
    go_ret
    exact ⟨_, rfl, HO1.out, HB1.out⟩
  by_cases h99 : f = 99
  · subst h99
    simp (config := { decide := true }) only [putF, if_true, if_false]
    go_enter Tryd.func50, Tryd.ntmps50
    go_wp2_with fail
    go_region_held3 (fun w' => w'.cell? ⟨qb, 3, none⟩ = some (.int .i64 rslot) ∧ w'.cell? ⟨qb, 4, none⟩ = some (.int .u64 rgen)) (go_keep)
      (first
        | (go_at_call 49; refine (packByte_any _ l _ _ (by exact HR.out.drew) (by omega) (by rw [IntKind.wrap_u8]; omega) (by rw [IntKind.wrap_u8]; omega)).mono ?_; rintro e w3 ⟨v3, rfl, ho3, hb3⟩; have HX3 := Lib.hid (HB.out.drew.below hb3); have hx3 : ∀ o, w3.cell? ⟨qb, o, none⟩ = #[Value.int .u8 kind, .int .u64 space, .int .u64 handle, .int .i64 rslot, .int .u64 rgen, .int .u64 to_, .string (bs key), .string (bs value), .int .u8 rights, .int .u64 most, .bool flag][o]? := HX3.out.cell; have hs3 : w.heap.size ≤ w3.heap.size := hb3.size; have HB3 := Lib.hid (undrew hb3); have HO3 := Lib.hid ho3; clear hb3 ho3)
        | (go_at_call 59; refine (packNum_any _ _ _ _ (by exact HO3.out.rb) (by simp; omega) Q4.out.1 Q4.out.2).mono ?_; rintro e w4 ⟨v4, rfl, ho4, hb4⟩; have hx4 : ∀ o, w4.cell? ⟨qb, o, none⟩ = #[Value.int .u8 kind, .int .u64 space, .int .u64 handle, .int .i64 rslot, .int .u64 rgen, .int .u64 to_, .string (bs key), .string (bs value), .int .u8 rights, .int .u64 most, .bool flag][o]? := (HX3.out.below hb4).cell; have hs4 : w3.heap.size ≤ w4.heap.size := hb4.size; have HB4 := Lib.hid hb4; have HO4 := Lib.hid ho4; clear hb4 ho4))
    clear hx hx3 hx4
    go_wp2
    go_ret
    exact ⟨_, rfl, by simpa using HO4.out.mono (by omega), below_then HB3.out hs3 HB4.out⟩
  by_cases h107 : f = 107
  · subst h107
    simp (config := { decide := true }) only [putF, if_true, if_false]
    have hcv := fun w' => conv_run w' (bs key)
    go_enter Tryd.func50, Tryd.ntmps50
    go_wp2_with fail
    refine (packBytes_any _ _ l key _ (HR.out.below (conv_below w 5 (bs key))) (conv_rb w key _ rfl _ (bs_data _) (by unfold maxLen; omega)) (by omega)).mono ?_
    rintro e w1 ⟨v1, rfl, ho1, hb1⟩
    have HO1 := Lib.hid ho1; have HB1 := Lib.hid hb1
    clear ho1 hb1 hcv
    go_wp2
    go_ret
    exact ⟨_, rfl, by simpa using HO1.out.mono (conv_below w 5 (bs key)).size, below_then (conv_below w 5 (bs key)) (conv_below w 5 (bs key)).size HB1.out⟩
  by_cases h118 : f = 118
  · subst h118
    simp (config := { decide := true }) only [putF, if_true, if_false]
    have hcv := fun w' => conv_run w' (bs value)
    go_enter Tryd.func50, Tryd.ntmps50
    go_wp2_with fail
    refine (packBytes_any _ _ l value _ (HR.out.below (conv_below w 5 (bs value))) (conv_rb w value _ rfl _ (bs_data _) (by unfold maxLen; omega)) (by omega)).mono ?_
    rintro e w1 ⟨v1, rfl, ho1, hb1⟩
    have HO1 := Lib.hid ho1; have HB1 := Lib.hid hb1
    clear ho1 hb1 hcv
    go_wp2
    go_ret
    exact ⟨_, rfl, by simpa using HO1.out.mono (conv_below w 5 (bs value)).size, below_then (conv_below w 5 (bs value)) (conv_below w 5 (bs value)).size HB1.out⟩
  by_cases h114 : f = 114
  · subst h114
    simp (config := { decide := true }) only [putF, if_true, if_false]
    go_enter Tryd.func50, Tryd.ntmps50
    go_wp2_with fail
    refine (packByte_any _ l rights _ HR.out (by omega) Q8.out.1 Q8.out.2).mono ?_
    rintro e w1 ⟨v1, rfl, ho1, hb1⟩
    have HO1 := Lib.hid ho1; have HB1 := Lib.hid hb1
    clear ho1 hb1
    go_wp2
    go_ret
    exact ⟨_, rfl, HO1.out, HB1.out⟩
  by_cases h109 : f = 109
  · subst h109
    simp (config := { decide := true }) only [putF, if_true, if_false]
    go_enter Tryd.func50, Tryd.ntmps50
    go_wp2_with fail
    refine (packNum_any _ l most _ HR.out (by omega) Q9.out.1 Q9.out.2).mono ?_
    rintro e w1 ⟨v1, rfl, ho1, hb1⟩
    have HO1 := Lib.hid ho1; have HB1 := Lib.hid hb1
    clear ho1 hb1
    go_wp2
    go_ret
    exact ⟨_, rfl, HO1.out, HB1.out⟩
  rw [show putF f ⟨kind, space, handle, rslot, rgen, to_, key, value, rights, most, flag⟩ = (if flag then [1] else [0]) by simp [putF, *]]
  cases flag
  all_goals
    go_enter Tryd.func50, Tryd.ntmps50
    go_wp2_with fail
    refine (packByte_any _ l _ _ HR.out (by omega) (by decide) (by decide)).mono ?_
    rintro e w1 ⟨v1, rfl, ho1, hb1⟩
    have HO1 := Lib.hid ho1; have HB1 := Lib.hid hb1
    clear ho1 hb1
    go_wp2
    go_ret
    exact ⟨_, rfl, HO1.out, HB1.out⟩
-- END
end Go.Proofs.YtbkgcfoilgggjaaDoor
