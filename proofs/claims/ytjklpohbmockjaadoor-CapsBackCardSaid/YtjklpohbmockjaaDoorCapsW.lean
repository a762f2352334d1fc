/- caps: Check and what it calls. -/
import Derived.Test.YtjklpohbmockjaaDoorReader
import Derived.Deep.Light
set_option linter.unusedVariables false
set_option linter.unusedSimpArgs false
namespace Go.Proofs.YtjklpohbmockjaaDoor
open Go.RowKit

/-- A text out of a list of bytes. -/
def bs (l : Bs) : ByteArray := ⟨l.toArray⟩
@[go_sem] theorem bs_size (l : Bs) : (bs l).size = l.length := by simp [bs, ByteArray.size]
theorem bs_data (l : Bs) : (bs l).data.toList = l := by simp [bs]
@[go_sem] theorem bs_toList (l : Bs) : (bs l).toList = l := by rw [ByteArray.toList_eq, bs_data]
theorem bs_of (s : ByteArray) : s = bs s.data.toList := by cases s; simp [bs]
theorem bs_inj {l m : Bs} : bs l = bs m ↔ l = m := ⟨fun h => by have := congrArg (fun s => s.data.toList) h; simpa [bs] using this, fun h => by rw [h]⟩

structure Cap where
  gen : Int
  live : Bool
  holder : Int
  fslot : Int
  fgen : Int
  pre : Bs
  rights : Int
def lastN : Int := 4611686018427387904
def mayB (slot gen : Int) : Bool := decide (0 ≤ slot ∧ slot < 64 ∧ 1 ≤ gen ∧ gen ≤ 4611686018427387904)
def rootedB (c : Cap) (slot : Int) : Bool := mayB c.fslot c.fgen && ((c.fslot == slot) == (slot == 0)) && (!(slot == 0) || (c.fgen == c.gen))
def rightsE (r : Int) : Int := if r > 63 then 1 else 0
def scopeE (pre : Bs) (r : Int) : Int := if pre.length > 40 ∨ r = 0 then 1 else rightsE r
def okB (slot : Int) (c : Cap) : Bool :=
  decide (0 ≤ slot ∧ slot < 64) && decide (1 ≤ c.gen) && decide (c.gen ≤ 4611686018427387904) &&
    (if c.live then decide (c.holder ≤ 4611686018427387904) && rootedB c slot && decide (scopeE c.pre c.rights = 0)
     else decide (c.holder = 0 ∧ c.fslot = 0 ∧ c.fgen = 0 ∧ c.pre = [] ∧ c.rights = 0))
def checkE (slot : Int) (c : Cap) : Int := if okB slot c then 0 else 1

theorem ret_bool {a b : Bool} (h : a = b) : Ending.returned (.bool a) = .returned (.bool b) := by rw [h]
theorem ret_err {a b : Int} (h : a = b) : Ending.returned (errV a) = .returned (errV b) := by rw [h]
theorem first_below {B : Nat} {w w' : World} (h : Below B w w') : Below B w w' := h
theorem below_a1 (w : World) (o : Obj) : Below w.heap.size w (w.alloc o) := (Below.refl _ _).alloc (Nat.le_refl _) o
set_option maxHeartbeats 400000 in
theorem rightsCheck_any (r : Int) (w : World) : Calls Tryd.prog 28 #[.int .u8 r] w fun e w' => e = .returned (errV (rightsE r)) ∧ w = w' := by
  by_cases h : r > 63
  all_goals
    go_enter Tryd.func28, Tryd.ntmps28
    go_wp2
    go_ret
    exact ⟨by simp [rightsE, errV, h], rfl⟩

set_option maxHeartbeats 400000 in
theorem slotted_any (n : Int) (w : World) : Calls Tryd.prog 12 #[.int .i64 n] w fun e w' => e = .returned (.bool (decide (0 ≤ n ∧ n < 64))) ∧ w = w' := by
  go_enter Tryd.func12, Tryd.ntmps12
  go_wp2
  all_goals go_ret
  all_goals exact ⟨by simp; try omega, rfl⟩

set_option maxHeartbeats 400000 in
theorem may_any (s g : Int) (w : World) : Calls Tryd.prog 23 #[.agg #[.int .i64 s, .int .u64 g]] w fun e w' => e = .returned (.bool (mayB s g)) ∧ Below w.heap.size w w' := by
  go_enter Tryd.func23, Tryd.ntmps23
  go_wp2_with (go_at_call 12; refine (slotted_any _ _).mono ?_; rintro e w' ⟨rfl, rfl⟩)
  all_goals go_ret
  all_goals exact ⟨ret_bool (by rw [Bool.eq_iff_iff]; simp [mayB]; omega), below_a1 _ _⟩

set_option maxHeartbeats 400000 in
theorem scopeCheck_any (p : Bs) (r : Int) (w : World) : Calls Tryd.prog 14 #[.agg #[.string (bs p), .int .u8 r]] w fun e w' => e = .returned (errV (scopeE p r)) ∧ Below w.heap.size w w' := by
  go_enter Tryd.func14, Tryd.ntmps14
  go_wp2_with (go_at_call 28; refine (rightsCheck_any _ _).mono ?_; rintro e w' ⟨rfl, rfl⟩)
  all_goals go_ret
  all_goals refine ⟨?_, below_a1 _ _⟩
  · have h : 40 < (p.length : Int) ∨ (r == 0) = true := by assumption
    simp [scopeE, errV, show p.length > 40 ∨ r = 0 by simp at h; omega]
  · have h : (p.length : Int) ≤ 40 ∧ (r == 0) = false := by assumption
    simp only [scopeE]
    rw [if_neg (by simp at h; omega)]
    simp
  · have h : 40 < (p.length : Int) := by assumption
    simp [scopeE, errV, show p.length > 40 ∨ r = 0 by omega]
theorem rooted1 {c : Cap} {slot : Int} (h1 : mayB c.fslot c.fgen = true) (h2 : (!(c.fslot == slot) == (slot == 0)) = true) : rootedB c slot = false := by
  unfold rootedB; rw [h1]; revert h2; cases (c.fslot == slot) <;> cases (slot == 0) <;> simp
theorem rooted2 {c : Cap} {slot : Int} (h1 : mayB c.fslot c.fgen = true) (h2 : (!(c.fslot == slot) == (slot == 0)) = false) (h3 : slot = 0) : rootedB c slot = (c.fgen == c.gen) := by
  unfold rootedB; rw [h1]; subst h3; revert h2; cases (c.fslot == 0) <;> simp
theorem rooted3 {c : Cap} {slot : Int} (h1 : mayB c.fslot c.fgen = true) (h2 : (!(c.fslot == slot) == (slot == 0)) = false) (h3 : ¬ slot = 0) : rootedB c slot = true := by
  have e : (slot == 0) = false := by simpa using h3
  unfold rootedB; rw [h1]; rw [e] at h2 ⊢; revert h2; cases (c.fslot == slot) <;> simp
theorem rooted4 {c : Cap} {slot : Int} (h1 : ¬ mayB c.fslot c.fgen = true) : rootedB c slot = false := by
  unfold rootedB; simp [h1]
set_option maxHeartbeats 1000000 in
theorem rooted_any (gen : Int) (live : Bool) (holder fslot fgen : Int) (pre : Bs) (rights slot : Int) (w : World) : Calls Tryd.prog 13 #[.agg #[.int .u64 gen, .bool live, .int .u64 holder, .int .i64 fslot, .int .u64 fgen, .string (bs pre), .int .u8 rights], .int .i64 slot] w fun e w' => e = .returned (.bool (rootedB ⟨gen, live, holder, fslot, fgen, pre, rights⟩ slot)) ∧ Below w.heap.size w w' := by
  go_enter Tryd.func13, Tryd.ntmps13
  go_wp2_with (go_at_call 23; refine (may_any _ _ _).mono ?_; rintro e w1 ⟨rfl, hb1⟩; obtain ⟨hc1, hf1⟩ := bcell hb1; have hs1 := hb1.size; have HB := Lib.hid hb1; clear hb1)
  all_goals go_ret
  all_goals refine ⟨ret_bool ?_, (below_a1 w _).trans (HB.out.mono (by simp))⟩
  · exact (rooted1 (c := ⟨gen, live, holder, fslot, fgen, pre, rights⟩) (by assumption) (by assumption)).symm
  · exact (rooted2 (c := ⟨gen, live, holder, fslot, fgen, pre, rights⟩) (by assumption) (by assumption) (by assumption)).symm
  · exact (rooted3 (c := ⟨gen, live, holder, fslot, fgen, pre, rights⟩) (by assumption) (by assumption) (by assumption)).symm
  · exact (rooted4 (c := ⟨gen, live, holder, fslot, fgen, pre, rights⟩) (by assumption)).symm

def capV (c : Cap) : Value := .agg #[.int .u64 c.gen, .bool c.live, .int .u64 c.holder, .int .i64 c.fslot, .int .u64 c.fgen, .string (bs c.pre), .int .u8 c.rights]
set_option maxRecDepth 100000 in
set_option maxHeartbeats 1000000 in
theorem check_live (gen holder fslot fgen : Int) (pre : Bs) (rights slot : Int) (w : World) : Calls Tryd.prog 5 #[.int .i64 slot, .agg #[.int .u64 gen, .bool true, .int .u64 holder, .int .i64 fslot, .int .u64 fgen, .string (bs pre), .int .u8 rights]] w fun e w' => e = .returned (errV (checkE slot ⟨gen, true, holder, fslot, fgen, pre, rights⟩)) ∧ Below w.heap.size w w' := by
    go_enter Tryd.func5, Tryd.ntmps5
    go_wp2_with (first | (go_at_call 12; refine (slotted_any _ _).mono ?_; rintro e w' ⟨rfl, rfl⟩) | (go_at_call 13; refine (rooted_any _ _ _ _ _ _ _ _ _).mono ?_; rintro e w1 ⟨rfl, hb1⟩; obtain ⟨hc1, hf1⟩ := bcell hb1; have hs1 := hb1.size; have HB := Lib.hid hb1; clear hb1) | (go_at_call 14; refine (scopeCheck_any _ _ _).mono ?_; rintro e w2 ⟨rfl, hb2⟩; obtain ⟨hc2, hf2⟩ := bcell hb2; have hs2 := hb2.size; have HB2 := Lib.hid hb2; clear hb2))
    all_goals go_ret
    all_goals (try clear hc2 hf2)
    all_goals (try clear hc1 hf1)
    all_goals go_light
    all_goals refine ⟨?_, first_below ?_⟩
    all_goals first
      | (refine ret_err (a := 1) ?_; simp_all [checkE, okB]; done)
      | (refine ret_err (a := 0) ?_; simp_all [checkE, okB]; done)
      | (refine ret_err (a := 1) ?_; simp_all [checkE, okB]; omega)
      | exact below_a1 w _
      | exact (below_a1 w _).trans (HB.out.mono (by simp))
      | exact ((below_a1 w _).trans (HB.out.mono (by simp))).trans (HB2.out.mono (by have := HB.out.size; simp at this; omega))
set_option maxRecDepth 100000 in
set_option maxHeartbeats 1000000 in
theorem check_gone (gen holder fslot fgen : Int) (pre : Bs) (rights slot : Int) (w : World) : Calls Tryd.prog 5 #[.int .i64 slot, .agg #[.int .u64 gen, .bool false, .int .u64 holder, .int .i64 fslot, .int .u64 fgen, .string (bs pre), .int .u8 rights]] w fun e w' => e = .returned (errV (checkE slot ⟨gen, false, holder, fslot, fgen, pre, rights⟩)) ∧ Below w.heap.size w w' := by
    go_enter Tryd.func5, Tryd.ntmps5
    go_wp2_with (first | (go_at_call 12; refine (slotted_any _ _).mono ?_; rintro e w' ⟨rfl, rfl⟩))
    all_goals go_ret
    all_goals go_light
    all_goals refine ⟨?_, first_below ?_⟩
    all_goals first
      | (refine ret_err (a := 1) ?_; simp_all [checkE, okB]; done)
      | (refine ret_err (a := 0) ?_; simp_all [checkE, okB]; done)
      | (refine ret_err (a := 1) ?_; simp_all [checkE, okB]; omega)
      | exact below_a1 w _
theorem check_any (slot : Int) (c : Cap) (w : World) : Calls Tryd.prog 5 #[.int .i64 slot, capV c] w fun e w' => e = .returned (errV (checkE slot c)) ∧ Below w.heap.size w w' := by
  obtain ⟨gen, live, holder, fslot, fgen, pre, rights⟩ := c
  cases live
  · exact check_gone _ _ _ _ _ _ _ _
  · exact check_live _ _ _ _ _ _ _ _
end Go.Proofs.YtjklpohbmockjaaDoor
