/- Texts as lists of bytes; small joins. -/
import Derived.Test.YtbkgcfoilgggjaaDoorBytes
import Derived.Deep.Light
set_option linter.unusedVariables false
set_option linter.unusedSimpArgs false
namespace Go.Proofs.YtbkgcfoilgggjaaDoor
open Go.RowKit

/-- A text out of a list of bytes. -/
def bs (l : Bs) : ByteArray := ⟨l.toArray⟩
@[go_sem] theorem bs_size (l : Bs) : (bs l).size = l.length := by simp [bs, ByteArray.size]
theorem bs_data (l : Bs) : (bs l).data.toList = l := by simp [bs]
@[go_sem] theorem bs_toList (l : Bs) : (bs l).toList = l := by rw [ByteArray.toList_eq, bs_data]
theorem bs_of (s : ByteArray) : s = bs s.data.toList := by cases s; simp [bs]
theorem bs_inj {l m : Bs} : bs l = bs m ↔ l = m := ⟨fun h => by have := congrArg (fun s => s.data.toList) h; simpa [bs] using this, fun h => by rw [h]⟩

theorem ret_bool {a b : Bool} (h : a = b) : Ending.returned (.bool a) = .returned (.bool b) := by rw [h]
theorem ret_err {a b : Int} (h : a = b) : Ending.returned (errV a) = .returned (errV b) := by rw [h]
theorem first_below {B : Nat} {w w' : World} (h : Below B w w') : Below B w w' := h
end Go.Proofs.YtbkgcfoilgggjaaDoor
