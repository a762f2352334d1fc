/- The law of capabilities: giveCap, sure. -/
import Derived.Test.YtjklpohbmockjaaDoorCapsLaw
import Derived.Test.YtjklpohbmockjaaDoorNames
import Derived.Test.YtjklpohbmockjaaDoorErrNum
set_option linter.unusedVariables false
set_option linter.unusedSimpArgs false
namespace Go.Proofs.YtjklpohbmockjaaDoor
open Go.RowKit

def ErrT (w : World) : Prop := w.cell? ⟨0, 0, none⟩ = some (.iface 98 (.agg #[th 35]))
/-- What the program's own variables hold. -/
structure G (w : World) : Prop where
  tab : Tab w
  tabl : 4 < w.heap.size
  ml : ML w
  mll : 1 < w.heap.size
  err : ErrT w
  errl : 0 < w.heap.size
theorem G.below {B : Nat} {w w' : World} (h : G w) (hB : w.heap.size ≤ B) (hb : Below B w w') : G w' :=
  have hs := hb.size
  ⟨h.tab.below hb (Nat.lt_of_lt_of_le h.tabl hB), Nat.lt_of_lt_of_le h.tabl hs, h.ml.below hb (Nat.lt_of_lt_of_le h.mll hB), Nat.lt_of_lt_of_le h.mll hs,
    (hb.cell (p := ⟨_, 0, none⟩) (Nat.lt_of_lt_of_le h.errl hB)).trans h.err, Nat.lt_of_lt_of_le h.errl hs⟩

theorem encode_any (slot : Int) (c : Cap) (w : World) (hw : Wf c) : Calls Tryd.prog 7 #[.int .i64 slot, capV c] w (EncPost slot c w) := by
  by_cases h : checkE slot c = 0
  · obtain ⟨gen, live, holder, fslot, fgen, pre, rights⟩ := c
    obtain ⟨w1, w2, w3, w4, w5, w6, w7, w8⟩ := hw
    cases live with
    | false => exact encode_gone slot gen holder fslot fgen pre rights w h w1 w2
    | true => exact encode_live slot gen holder fslot fgen pre rights w h w1 w2 w3 w4 w5 w6 w7 w8 (check_facts h).2.2.2.2.2.2.2.2.2
  · exact encode_bad slot c w h

/-- A capability as the document has it. -/
theorem giveCap_any (c : Cap) (w : World) : Calls Tryd.prog 4 #[capV c] w fun e w' => e = .returned (capV c) ∧ Below w.heap.size w w' := by
  unfold capV
  go_enter Tryd.func4, Tryd.ntmps4
  go_wp2
  refine bodyPost_ret (v := .agg #[.int .u64 c.gen, .bool c.live, .int .u64 c.holder, .int .i64 c.fslot, .int .u64 c.fgen, .string (bs c.pre), .int .u8 c.rights]) (by simp [results, Tryd.results4, go_sem, bs]) rfl ?_
  exact ⟨rfl, below_alloc (below_a1 _ _) _⟩
end Go.Proofs.YtjklpohbmockjaaDoor
