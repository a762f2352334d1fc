/- model: a space; seen. -/
import Derived.Test.YtbkgcfoilgggjaaDoorModelB
set_option linter.unusedVariables false
set_option linter.unusedSimpArgs false
namespace Go.Proofs.YtbkgcfoilgggjaaDoor
open Go.RowKit Go.Maps

def spC (lb : Nat) (given : Int) (rb : Nat) (write : Int) (now : Value) : Array Value := #[.map (some lb), .int .u64 given, .map (some rb), .int .u64 write, now]
/-- How a reader's view reads: by its block. -/
def refR (v : Value) : Option (DW × List MemPlace) := match v with
  | .map none => some (.nil, [])
  | .map (some b) => some (.lit (.int .i64 b), [])
  | _ => none
def readsT : TypeId := 49
theorem readsU : Tryd.prog.underlying 49 = some (.map 26 48) := by kernel_rfl
theorem keyU : Keyed Tryd.prog 26 := int_keyed (show Tryd.prog.underlying 26 = some (.int .u64) by kernel_rfl)
theorem zeroV (w : World) : (zeroValue 48).run Tryd.prog w = .ok (.map none) w := by kernel_rfl
/-- The readers at block b. -/
def RM (w : World) (b n : Nat) (D : DW) : Prop := w.ownsMap Tryd.prog 26 refR b n D
theorem keyOf_u (n : Int) (h0 : 0 ≤ n) (h1 : n < 18446744073709551616) : keyOf Tryd.prog 26 (.int .u64 n) = some (.int .u64 n) :=
  Maps.keyOf_int_mk (show Tryd.prog.underlying 26 = some (.int .u64) by kernel_rfl) (by simp [Lit.wf]; exact ⟨h0, by show n ≤ 18446744073709551615; omega⟩)
/-- Where the reader n's view lies, if it is one. -/
def rGet (D : DW) (n : Int) : Option Nat := match D.atKey (.int .u64 n) .nil with | .lit (.int .i64 b) => some b.toNat | _ => none
theorem refR_inv {v : Value} {z : DW × List MemPlace} (h : refR v = some z) : (v = .map none ∧ z = (.nil, [])) ∨ ∃ b, v = .map (some b) ∧ z = (.lit (.int .i64 (b : Nat)), []) := by
  unfold refR at h
  split at h
  · exact .inl ⟨rfl, (Option.some.inj h).symm⟩
  · exact .inr ⟨_, rfl, (Option.some.inj h).symm⟩
  · cases h
theorem RM.look {w : World} {b n : Nat} {D : DW} (h : RM w b n D) (x : Int) (h0 : 0 ≤ x) (h1 : x < 18446744073709551616) :
    (Instr.lookup 49 (.map (some b)) (.int .u64 x) true).run Tryd.prog w = .ok (.tuple #[.map (rGet D x), .bool (Maps.has D (.int .u64 x))]) w := by
  obtain ⟨v, ps, hrun, hv⟩ := World.ownsMap.look_ok h keyU readsU (zeroV w) (show refR (.map none) = some (.nil, []) from rfl) (keyOf_u x h0 h1)
  rw [hrun]
  unfold rGet
  rcases refR_inv hv with ⟨rfl, hz⟩ | ⟨b, rfl, hz⟩
  · rw [(Prod.mk.inj hz).1]
  · rw [(Prod.mk.inj hz).1]; simp
/-- What 'seen' answers. -/
def seenV (write : Int) (now : Value) (D : DW) (txn : Int) : Value := if txn ≠ 0 ∧ txn = write then now else if Maps.has D (.int .u64 txn) = true then .map (rGet D txn) else .map none
def seenE (write : Int) (D : DW) (txn : Int) : Int := if txn ≠ 0 ∧ txn = write then 0 else if Maps.has D (.int .u64 txn) = true then 0 else 6
set_option maxRecDepth 100000 in
set_option maxHeartbeats 1000000 in
theorem seen_any (s lb rb : Nat) (given write : Int) (nb : Option Nat) (n : Nat) (D : DW) (txn : Int) (h0 : 0 ≤ txn) (h1 : txn < 18446744073709551616) (w : World) (hs : Blk w s (spC lb given rb write (.map nb)) 51) (hr : RM w rb n D) :
    Calls Tryd.prog 15 #[.pointer (some ⟨s, 0, none⟩), .int .u64 txn] w fun e w' => e = .returned (.tuple #[seenV write (.map nb) D txn, errV (seenE write D txn)]) ∧ w' = w := by
  have hx := hs.cell
  simp only [spC] at hx
  have hl := hr.look txn h0 h1
  have H1 := Lib.hid h1
  clear h1
  by_cases c1 : txn = 0
  · subst c1
    cases hh : Maps.has D (.int .u64 0)
    all_goals
      rw [hh] at hl
      go_enter Tryd.func15, Tryd.ntmps15
      go_wp2
      go_ret2
      exact ⟨by simp [seenV, seenE, hh, errV], rfl⟩
  · by_cases c2 : txn = write
    · subst c2
      clear hl
      go_enter Tryd.func15, Tryd.ntmps15
      go_wp2
      go_ret2
      exact ⟨by simp [seenV, seenE, c1, errV], rfl⟩
    · have e2 : (txn == write) = false := by simpa using c2
      have e1 : (txn != 0) = true := by simpa using c1
      cases hh : Maps.has D (.int .u64 txn)
      all_goals
        rw [hh] at hl
        go_enter Tryd.func15, Tryd.ntmps15
        go_wp2
        go_ret2
        exact ⟨by simp [seenV, seenE, hh, c2, errV], rfl⟩
end Go.Proofs.YtbkgcfoilgggjaaDoor
