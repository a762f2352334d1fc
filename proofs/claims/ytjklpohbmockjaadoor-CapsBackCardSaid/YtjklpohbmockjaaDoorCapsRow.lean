/- The row of CapsBack. -/
import Derived.Test.YtjklpohbmockjaaDoorRow
import Derived.Test.YtjklpohbmockjaaDoorCapsBack
import Derived.Stop.LaidErr
set_option linter.unusedVariables false
set_option linter.unusedSimpArgs false
namespace Go.Proofs.YtjklpohbmockjaaDoor
open Go.ChangeShapes Go.WideShapes Go.ChangeAt Go.RowKit

theorem own : ownKnob Tryd.prog.godebug = none := by kernel_rfl
theorem laidOut : laidOutB Tryd.prog = true := by kernel_rfl
theorem gPow : Tryd.prog.globalNamed "internal/strconv.uint64pow10" = some 4 := by kernel_rfl
theorem gErr : Tryd.prog.globalNamed "errors.errorType" = some 0 := by kernel_rfl
theorem rtName : (Tryd.prog.cutTypes.find? (·.1 == "internal/reflectlite.rtype")).map (·.2) = some 98 := by kernel_rfl
theorem errRow : ((List.range Tryd.prog.types.size).filter fun t => Tryd.prog.rowNamed t [101, 114, 114, 111, 114]) = [35] := by kernel_rfl

/-- What the laid variables give a walk. -/
theorem laid_parts {W : World} (h : laidMetH Tryd.prog Rows.capsBackRow.laid W) : laidMet Tryd.prog [("math/bits.deBruijn32tab", Rows.laid_math_bits_deBruijn32tab), ("math/bits.deBruijn64tab", Rows.laid_math_bits_deBruijn64tab), ("internal/strconv.uint64pow10", Rows.laid_internal_strconv_uint64pow10), ("strconv.ErrRange", Rows.laid_strconv_ErrRange), ("strconv.ErrSyntax", Rows.laid_strconv_ErrSyntax)] W ∧ handlesMet Tryd.prog [("errors.errorType", Rows.laid_errors_errorType)] W := h
theorem tab_of_laid {W : World} (h : laidMetH Tryd.prog Rows.capsBackRow.laid W) : Tab W :=
  Lib.tabIs_of_head gPow (show (Tryd.prog.globals[4]?).map (·.type) = some 123 by kernel_rfl) (show Tryd.prog.underlying 123 = some (.array 20 22) by kernel_rfl) (show Tryd.prog.underlying 22 = some (.int .u64) by kernel_rfl) (by kernel_rfl) (by kernel_rfl)
    (laidMet.tail (laidMet.tail (laid_parts h).1))
theorem err_of_laid {W : World} (h : laidMetH Tryd.prog Rows.capsBackRow.laid W) : ErrT W := by
  obtain ⟨name, u, ty, e1, e2, e3, e4, e5⟩ := (laid_parts h).2 _ (List.mem_singleton.2 rfl)
  have en : name = [101, 114, 114, 111, 114] := (Option.some.inj e1).symm
  subst en
  obtain rfl := Option.some.inj (rtName.symm.trans e2)
  have hm : ty ∈ (List.range Tryd.prog.types.size).filter fun t => Tryd.prog.rowNamed t [101, 114, 114, 111, 114] := List.mem_filter.2 ⟨List.mem_range.2 e3, e4⟩
  rw [errRow] at hm
  obtain rfl := List.mem_singleton.1 hm
  have hh : typeHandle Tryd.prog 35 = th 35 := by kernel_rfl
  rw [hh] at e5
  unfold ErrT
  simpa using World.var?_cell gErr e5 0
theorem ml_of_shaped {W : World} (h : W.ShapedOpen Tryd.prog) : ML W :=
  cell_of_shapedOpen_int (t := 3) (zero := #[.int .i64 0]) h (of_decide_eq_true (by kernel_rfl)) (by kernel_rfl) rfl (by kernel_rfl) (by kernel_rfl) (by kernel_rfl)
theorem tab_lt {W : World} (h : Tab W) : 4 < W.heap.size := by
  have h2 : W.var? Tryd.prog "internal/strconv.uint64pow10" = some _ := h
  exact lt_of_cell (World.var?_cell gPow h2 0)
theorem G_of {W : World} (hL : laidMetH Tryd.prog Rows.capsBackRow.laid W) (hs : W.ShapedOpen Tryd.prog) : G W := by
  have h1 := tab_of_laid hL
  have h2 := ml_of_shaped hs
  have h3 := err_of_laid hL
  exact ⟨h1, tab_lt h1, h2, by obtain ⟨m, hm⟩ := h2; exact lt_of_cell hm, h3, lt_of_cell h3⟩
/-- A world in which the listed variables hold what the list says. -/
noncomputable def low : Nat := (World.holding Tryd.prog default ⟨#[], #[], []⟩).heap.size
noncomputable def put (g : Nat) (vs : Array Value) (h : Array Obj) : Array Obj := h.modify g fun
  | .cells _ t frozen => .cells vs t frozen
  | o => o
def tabOf : DataW Unit → Array Value
  | .agg ds => (ds.map fun | .lit (.int k n) => Value.int k n | _ => .int .i64 0).toArray
  | _ => #[]
def textOf : DataW Unit → Value
  | .iface _ (.ptr (.agg [.lit (.string s)])) => .string ⟨s.toArray⟩
  | _ => .int .i64 0
noncomputable def laidWorld (os : Os) : World :=
  let w0 := World.holding Tryd.prog os ⟨#[.cells #[textOf Rows.laid_strconv_ErrRange] 132, .cells #[textOf Rows.laid_strconv_ErrSyntax] 132], #[], []⟩
  let h : Array Obj :=
      put 5 (tabOf Rows.laid_math_bits_deBruijn32tab) <|
      put 6 (tabOf Rows.laid_math_bits_deBruijn64tab) <|
      put 4 (tabOf Rows.laid_internal_strconv_uint64pow10) <|
      put 0 #[.iface 98 (.agg #[th 35])] <|
      put 3 #[.iface 130 (.pointer (some ⟨low, 0, none⟩))] <|
      put 2 #[.iface 130 (.pointer (some ⟨low + 1, 0, none⟩))] w0.heap
  { w0 with heap := h }
set_option maxRecDepth 100000 in
theorem laidWorld_met (os : Os) (args : Array Value) : laidMetH Tryd.prog Rows.capsBackRow.laid ((laidWorld os).forCall (fun _ _ => 0) ⟨#[], args, []⟩).memory :=
  laidMetH_of_parts (laidMet_of_run' 8 (by kernel_rfl) (by kernel_rfl)) (by kernel_rfl)

theorem bs_of_size {s : ByteArray} : s = bs s.data.toList := bs_of s
set_option maxRecDepth 100000 in
theorem open_cap {W : World} {base : Nat} {v : Value} (h : Value.okWide Tryd.prog W .any base 28 v) : ∃ c : Cap, v = capV c ∧ Wf c := by
  obtain ⟨cs, rfl, hn, hc⟩ := okWide_cells (n := 7) (ts := [22, 4, 22, 3, 22, 9, 5]) (by kernel_rfl) (by kernel_rfl) (by kernel_rfl) h
  obtain ⟨l⟩ := cs
  obtain ⟨a0, a1, a2, a3, a4, a5, a6, rfl⟩ : ∃ a0 a1 a2 a3 a4 a5 a6, l = [a0, a1, a2, a3, a4, a5, a6] := by
    match l, hn with
    | [a0, a1, a2, a3, a4, a5, a6], _ => exact ⟨a0, a1, a2, a3, a4, a5, a6, rfl⟩
  have u64 : Tryd.prog.underlying 22 = some (.int .u64) := by kernel_rfl
  obtain ⟨k, hk, h0⟩ := hc 0 a0 rfl; obtain rfl := Option.some.inj hk
  obtain ⟨k, hk, h1⟩ := hc 1 a1 rfl; obtain rfl := Option.some.inj hk
  obtain ⟨k, hk, h2⟩ := hc 2 a2 rfl; obtain rfl := Option.some.inj hk
  obtain ⟨k, hk, h3⟩ := hc 3 a3 rfl; obtain rfl := Option.some.inj hk
  obtain ⟨k, hk, h4⟩ := hc 4 a4 rfl; obtain rfl := Option.some.inj hk
  obtain ⟨k, hk, h5⟩ := hc 5 a5 rfl; obtain rfl := Option.some.inj hk
  obtain ⟨k, hk, h6⟩ := hc 6 a6 rfl; obtain rfl := Option.some.inj hk
  obtain ⟨gen, rfl, g0⟩ := cell_int u64 h0
  obtain ⟨live, rfl⟩ := cell_bool (show Tryd.prog.underlying 4 = some .bool by kernel_rfl) h1
  obtain ⟨holder, rfl, g2⟩ := cell_int u64 h2
  obtain ⟨fslot, rfl, g3⟩ := cell_int (show Tryd.prog.underlying 3 = some (.int .i64) by kernel_rfl) h3
  obtain ⟨fgen, rfl, g4⟩ := cell_int u64 h4
  obtain ⟨s, rfl, g5⟩ := cell_string (show Tryd.prog.underlying 9 = some .string by kernel_rfl) h5
  obtain ⟨rights, rfl, g6⟩ := cell_int (show Tryd.prog.underlying 5 = some (.int .u8) by kernel_rfl) h6
  have r0 : 0 ≤ gen ∧ gen ≤ 18446744073709551615 := g0
  have r2 : 0 ≤ holder ∧ holder ≤ 18446744073709551615 := g2
  have r4 : 0 ≤ fgen ∧ fgen ≤ 18446744073709551615 := g4
  have r6 : 0 ≤ rights ∧ rights ≤ 255 := g6
  refine ⟨⟨gen, live, holder, fslot, fgen, s.data.toList, rights⟩, ?_, ?_⟩
  · unfold capV; rw [← bs_of s]
  · unfold Wf
    simp only
    omega
end Go.Proofs.YtjklpohbmockjaaDoor
