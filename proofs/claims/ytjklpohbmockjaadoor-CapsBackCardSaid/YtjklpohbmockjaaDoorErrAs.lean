/- errors.As of an Errno, at a target that points to one. -/
import Derived.Test.YtjklpohbmockjaaDoorCapsW
set_option linter.unusedVariables false
set_option linter.unusedSimpArgs false
namespace Go.Proofs.YtjklpohbmockjaaDoor
open Go.RowKit

noncomputable def th (t : TypeId) : Value := typeHandle Tryd.prog t
@[go_sem] theorem ea1 (b : Nat) (w : World) : (callFunc 38 #[.iface 67 (.pointer (some ⟨b, 0, none⟩))]).run Tryd.prog w = .ok (.value (.agg #[th 67, .pointer (some ⟨w.heap.size, 0, none⟩), .int .u64 150])) (w.alloc (.cells #[.pointer (some ⟨b, 0, none⟩)] 67)) := by kernel_rfl
@[go_sem] theorem ea2 (a : Addr) (w : World) : (callFunc 39 #[.agg #[th 67, .pointer (some a), .int .u64 150]]).run Tryd.prog w = .ok (.value (.iface 98 (.agg #[th 67]))) w := by kernel_rfl
@[go_sem] theorem ea3 (w : World) : (method 263 98 (.agg #[th 67]) "Kind").run Tryd.prog w = .ok (88, th 67) w := by kernel_rfl
@[go_sem] theorem ea3f (w : World) : (callFunc 88 #[th 67]).run Tryd.prog w = .ok (.value (.int .u8 22)) w := by kernel_rfl
@[go_sem] theorem ea4 (a p : Addr) (w : World) (h : w.cell? a = some (.pointer (some p))) : (callFunc 40 #[.agg #[th 67, .pointer (some a), .int .u64 150]]).run Tryd.prog w = .ok (.value (.bool false)) w := by
  have e : (callFunc 40 #[.agg #[th 67, .pointer (some a), .int .u64 150]]).run Tryd.prog w = (Extern.ReflectliteValue.isNil 67 a 150 22 >>= fun v => (pure (.value v) : Sem Next)).run Tryd.prog w := by kernel_rfl
  rw [e]
  have hl : (loadVar 67 a).run Tryd.prog w = .ok (.pointer (some p)) w := by
    simp [go_sem, h]
  simp [Extern.ReflectliteValue.isNil, hl, Sem.run_bind, Result.andThen]
@[go_sem] theorem ea5 (w : World) : (method 263 98 (.agg #[th 67]) "Elem").run Tryd.prog w = .ok (101, .agg #[th 67]) w := by kernel_rfl
@[go_sem] theorem ea5f (w : World) : (callFunc 101 #[.agg #[th 67]]).run Tryd.prog w = .ok (.value (.iface 98 (.agg #[th 51]))) w := by kernel_rfl
@[go_sem] theorem ea6 (w : World) : (method 263 98 (.agg #[th 51]) "Kind").run Tryd.prog w = .ok (88, th 51) w := by kernel_rfl
@[go_sem] theorem ea6f (w : World) : (callFunc 88 #[th 51]).run Tryd.prog w = .ok (.value (.int .u8 2)) w := by kernel_rfl
@[go_sem] theorem ea7 (a p : Addr) (w : World) (h : w.cell? a = some (.pointer (some p))) : (callFunc 52 #[.agg #[th 67, .pointer (some a), .int .u64 150]]).run Tryd.prog w = .ok (.value (.agg #[th 51, .pointer (some p), .int .u64 386])) w := by
  have e : (callFunc 52 #[.agg #[th 67, .pointer (some a), .int .u64 150]]).run Tryd.prog w = (Extern.ReflectliteValue.elem 67 a 150 22 >>= fun v => (pure (.value v) : Sem Next)).run Tryd.prog w := by kernel_rfl
  rw [e]
  have hl : (loadVar 67 a).run Tryd.prog w = .ok (.pointer (some p)) w := by
    simp [go_sem, h]
  have he : (Extern.Rtype.elem? 67).run Tryd.prog w = .ok (some 51) w := by kernel_rfl
  have hm : (Extern.ReflectliteValue.mk 51 p Extern.ReflectliteValue.flagAddr).run Tryd.prog w = .ok (.agg #[th 51, .pointer (some p), .int .u64 386]) w := by kernel_rfl
  simp [Extern.ReflectliteValue.elem, hl, he, hm, Sem.run_bind, Result.andThen]
@[go_sem] theorem ea8 (n : Int) (w : World) : (callFunc 51 #[.iface 51 (.int .i64 n)]).run Tryd.prog w = .ok (.value (.iface 98 (.agg #[th 51]))) w := by kernel_rfl
@[go_sem] theorem ea9 (w : World) : (method 263 98 (.agg #[th 51]) "AssignableTo").run Tryd.prog w = .ok (99, .agg #[th 51]) w := by kernel_rfl
@[go_sem] theorem ea9f (w : World) : (callFunc 99 #[.agg #[th 51], .iface 98 (.agg #[th 51])]).run Tryd.prog w = .ok (.value (.bool true)) w := by kernel_rfl
@[go_sem] theorem ea10 (w : World) : (method 263 98 (.agg #[th 51]) "Implements").run Tryd.prog w = .ok (102, .agg #[th 51]) w := by kernel_rfl
@[go_sem] theorem ea10f (w : World) : (callFunc 102 #[.agg #[th 51], .iface 98 (.agg #[th 35])]).run Tryd.prog w = .ok (.value (.bool true)) w := by kernel_rfl
@[go_sem] theorem ea11 (n : Int) (w : World) : (callFunc 38 #[.iface 51 (.int .i64 n)]).run Tryd.prog w = .ok (.value (.agg #[th 51, .pointer (some ⟨w.heap.size, 0, none⟩), .int .u64 130])) (w.alloc (.cells #[.int .i64 n] 51)) := by kernel_rfl
theorem ea12a (p a : Addr) (w : World) : (Extern.ReflectliteValue.set #[.agg #[th 51, .pointer (some p), .int .u64 386], .agg #[th 51, .pointer (some a), .int .u64 130]]).run Tryd.prog w = ((load a : Sem Value) >>= fun val => (storeVar 51 p val >>= fun _ => (pure (.tuple #[]) : Sem Value))).run Tryd.prog w := by kernel_rfl
@[go_sem] theorem ea12 (n m : Int) (a p : Addr) (w : World) (h : w.cell? a = some (.int .i64 n)) (hp : w.cell? p = some (.int .i64 m)) (hf : w.frozen? p = false) : (callFunc 53 #[.agg #[th 51, .pointer (some p), .int .u64 386], .agg #[th 51, .pointer (some a), .int .u64 130]]).run Tryd.prog w = .ok (.value (.tuple #[])) (w.setCell p (.int .i64 n)) := by
  have e : (callFunc 53 #[.agg #[th 51, .pointer (some p), .int .u64 386], .agg #[th 51, .pointer (some a), .int .u64 130]]).run Tryd.prog w = (Extern.ReflectliteValue.set #[.agg #[th 51, .pointer (some p), .int .u64 386], .agg #[th 51, .pointer (some a), .int .u64 130]] >>= fun v => (pure (.value v) : Sem Next)).run Tryd.prog w := by kernel_rfl
  rw [e]
  have hl : (load a : Sem Value).run Tryd.prog w = .ok (.int .i64 n) w := by
    simp [go_sem, h]
  have hs : (storeVar 51 p (.int .i64 n)).run Tryd.prog w = .ok () (w.setCell p (.int .i64 n)) := by
    simp [go_sem, hp, hf]
  rw [Sem.run_bind, ea12a]
  simp [hl, hs, Sem.run_bind, Result.andThen]
end Go.Proofs.YtjklpohbmockjaaDoor
