/- errors.As of an Errno, at a target that points to one. -/
import Derived.Test.YtbkgcfoilgggjaaDoorBs
set_option linter.unusedVariables false
set_option linter.unusedSimpArgs false
namespace Go.Proofs.YtbkgcfoilgggjaaDoor
open Go.RowKit

noncomputable def th (t : TypeId) : Value := typeHandle Tryd.prog t
@[go_sem] theorem ea1 (b : Nat) (w : World) : (callFunc 27 #[.iface 60 (.pointer (some ⟨b, 0, none⟩))]).run Tryd.prog w = .ok (.value (.agg #[th 60, .pointer (some ⟨w.heap.size, 0, none⟩), .int .u64 150])) (w.alloc (.cells #[.pointer (some ⟨b, 0, none⟩)] 60)) := by kernel_rfl
@[go_sem] theorem ea2 (a : Addr) (w : World) : (callFunc 28 #[.agg #[th 60, .pointer (some a), .int .u64 150]]).run Tryd.prog w = .ok (.value (.iface 95 (.agg #[th 60]))) w := by kernel_rfl
@[go_sem] theorem ea3 (w : World) : (method 280 95 (.agg #[th 60]) "Kind").run Tryd.prog w = .ok (95, th 60) w := by kernel_rfl
@[go_sem] theorem ea3f (w : World) : (callFunc 95 #[th 60]).run Tryd.prog w = .ok (.value (.int .u8 22)) w := by kernel_rfl
@[go_sem] theorem ea4 (a p : Addr) (w : World) (h : w.cell? a = some (.pointer (some p))) : (callFunc 29 #[.agg #[th 60, .pointer (some a), .int .u64 150]]).run Tryd.prog w = .ok (.value (.bool false)) w := by
  have e : (callFunc 29 #[.agg #[th 60, .pointer (some a), .int .u64 150]]).run Tryd.prog w = (Extern.ReflectliteValue.isNil 60 a 150 22 >>= fun v => (pure (.value v) : Sem Next)).run Tryd.prog w := by kernel_rfl
  rw [e]
  have hl : (loadVar 60 a).run Tryd.prog w = .ok (.pointer (some p)) w := by
    simp [go_sem, h]
  simp [Extern.ReflectliteValue.isNil, hl, Sem.run_bind, Result.andThen]
@[go_sem] theorem ea5 (w : World) : (method 280 95 (.agg #[th 60]) "Elem").run Tryd.prog w = .ok (106, .agg #[th 60]) w := by kernel_rfl
@[go_sem] theorem ea5f (w : World) : (callFunc 106 #[.agg #[th 60]]).run Tryd.prog w = .ok (.value (.iface 95 (.agg #[th 52]))) w := by kernel_rfl
@[go_sem] theorem ea6 (w : World) : (method 280 95 (.agg #[th 52]) "Kind").run Tryd.prog w = .ok (95, th 52) w := by kernel_rfl
@[go_sem] theorem ea6f (w : World) : (callFunc 95 #[th 52]).run Tryd.prog w = .ok (.value (.int .u8 2)) w := by kernel_rfl
@[go_sem] theorem ea7 (a p : Addr) (w : World) (h : w.cell? a = some (.pointer (some p))) : (callFunc 42 #[.agg #[th 60, .pointer (some a), .int .u64 150]]).run Tryd.prog w = .ok (.value (.agg #[th 52, .pointer (some p), .int .u64 386])) w := by
  have e : (callFunc 42 #[.agg #[th 60, .pointer (some a), .int .u64 150]]).run Tryd.prog w = (Extern.ReflectliteValue.elem 60 a 150 22 >>= fun v => (pure (.value v) : Sem Next)).run Tryd.prog w := by kernel_rfl
  rw [e]
  have hl : (loadVar 60 a).run Tryd.prog w = .ok (.pointer (some p)) w := by
    simp [go_sem, h]
  have he : (Extern.Rtype.elem? 60).run Tryd.prog w = .ok (some 52) w := by kernel_rfl
  have hm : (Extern.ReflectliteValue.mk 52 p Extern.ReflectliteValue.flagAddr).run Tryd.prog w = .ok (.agg #[th 52, .pointer (some p), .int .u64 386]) w := by kernel_rfl
  simp [Extern.ReflectliteValue.elem, hl, he, hm, Sem.run_bind, Result.andThen]
@[go_sem] theorem ea8 (n : Int) (w : World) : (callFunc 41 #[.iface 52 (.int .i64 n)]).run Tryd.prog w = .ok (.value (.iface 95 (.agg #[th 52]))) w := by kernel_rfl
@[go_sem] theorem ea9 (w : World) : (method 280 95 (.agg #[th 52]) "AssignableTo").run Tryd.prog w = .ok (104, .agg #[th 52]) w := by kernel_rfl
@[go_sem] theorem ea9f (w : World) : (callFunc 104 #[.agg #[th 52], .iface 95 (.agg #[th 52])]).run Tryd.prog w = .ok (.value (.bool true)) w := by kernel_rfl
@[go_sem] theorem ea10 (w : World) : (method 280 95 (.agg #[th 52]) "Implements").run Tryd.prog w = .ok (107, .agg #[th 52]) w := by kernel_rfl
@[go_sem] theorem ea10f (w : World) : (callFunc 107 #[.agg #[th 52], .iface 95 (.agg #[th 28])]).run Tryd.prog w = .ok (.value (.bool true)) w := by kernel_rfl
@[go_sem] theorem ea11 (n : Int) (w : World) : (callFunc 27 #[.iface 52 (.int .i64 n)]).run Tryd.prog w = .ok (.value (.agg #[th 52, .pointer (some ⟨w.heap.size, 0, none⟩), .int .u64 130])) (w.alloc (.cells #[.int .i64 n] 52)) := by kernel_rfl
theorem ea12a (p a : Addr) (w : World) : (Extern.ReflectliteValue.set #[.agg #[th 52, .pointer (some p), .int .u64 386], .agg #[th 52, .pointer (some a), .int .u64 130]]).run Tryd.prog w = ((load a : Sem Value) >>= fun val => (storeVar 52 p val >>= fun _ => (pure (.tuple #[]) : Sem Value))).run Tryd.prog w := by kernel_rfl
theorem ea12 (n m : Int) (a p : Addr) (w : World) (h : w.cell? a = some (.int .i64 n)) (hp : w.cell? p = some (.int .i64 m)) (hf : w.frozen? p = false) : (callFunc 43 #[.agg #[th 52, .pointer (some p), .int .u64 386], .agg #[th 52, .pointer (some a), .int .u64 130]]).run Tryd.prog w = .ok (.value (.tuple #[])) (w.setCell p (.int .i64 n)) := by
  have e : (callFunc 43 #[.agg #[th 52, .pointer (some p), .int .u64 386], .agg #[th 52, .pointer (some a), .int .u64 130]]).run Tryd.prog w = (Extern.ReflectliteValue.set #[.agg #[th 52, .pointer (some p), .int .u64 386], .agg #[th 52, .pointer (some a), .int .u64 130]] >>= fun v => (pure (.value v) : Sem Next)).run Tryd.prog w := by kernel_rfl
  rw [e]
  have hl : (load a : Sem Value).run Tryd.prog w = .ok (.int .i64 n) w := by
    simp [go_sem, h]
  have hs : (storeVar 52 p (.int .i64 n)).run Tryd.prog w = .ok () (w.setCell p (.int .i64 n)) := by
    simp [go_sem, hp, hf]
  rw [Sem.run_bind, ea12a]
  simp [hl, hs, Sem.run_bind, Result.andThen]
end Go.Proofs.YtbkgcfoilgggjaaDoor
