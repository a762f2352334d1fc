/- model: New, a view's get, put and delete. -/
import Derived.Test.YtbkgcfoilgggjaaDoorReqLaw
import Derived.Maps.Own
import Derived.Maps.OwnOps
import Derived.Maps.OwnSet
import Derived.Maps.StringElems
set_option linter.unusedVariables false
set_option linter.unusedSimpArgs false
namespace Go.Proofs.YtbkgcfoilgggjaaDoor
open Go.RowKit Go.Maps

abbrev DW := DataW Unit
theorem strT : Tryd.prog.underlying 9 = some .string := by kernel_rfl
theorem viewT : Tryd.prog.underlying 48 = some (.map 9 9) := by kernel_rfl
theorem keyS : Keyed Tryd.prog 9 := string_keyed strT
theorem zeroS (w : World) : (zeroValue 9).run Tryd.prog w = .ok (.string ⟨#[]⟩) w := by kernel_rfl
/-- A view at block b: what it holds. -/
def VM (w : World) (b n : Nat) (D : DW) : Prop := w.ownsMap Tryd.prog 9 (plainElem Tryd.prog 9) b n D
def sGet (D : DW) (key : Bs) : Bs := match D.atKey (.string key) (.lit (.string [])) with | .lit (.string v) => v | _ => []
theorem keyOf_bs (key : Bs) (h : key.length ≤ 1000000) : keyOf Tryd.prog 9 (.string (bs key)) = some (.string key) := by
  have := WideMaps.keyOf_string_mk (P := Tryd.prog) (k := 9) strT (s := bs key) (by rw [bs_size]; unfold maxLen; omega)
  rwa [bs_data] at this
theorem elem_bs (v : Bs) (h : v.length ≤ 1000000) : plainElem (H := Unit) Tryd.prog 9 (.string (bs v)) = some (.lit (.string v), []) := by
  have := plainElem_string (H := Unit) (P := Tryd.prog) strT (s := bs v) (by rw [bs_size]; unfold maxLen; omega)
  rwa [bs_data] at this
theorem VM.look {w : World} {b n : Nat} {D : DW} (h : VM w b n D) (key : Bs) (hk : key.length ≤ 1000000) :
    (Instr.lookup 48 (.map (some b)) (.string (bs key)) true).run Tryd.prog w = .ok (.tuple #[.string (bs (sGet D key)), .bool (Maps.has D (.string key))]) w := by
  have hz : plainElem (H := Unit) Tryd.prog 9 (.string ⟨#[]⟩) = some (.lit (.string []), []) := elem_bs [] (by simp)
  obtain ⟨v, ps, hrun, hv⟩ := World.ownsMap.look_ok h keyS viewT (zeroS w) hz (keyOf_bs key hk)
  obtain ⟨s, rfl, hs⟩ := plainElem_string_inv strT hv
  rw [hrun]
  have e : D.atKey (.string key) (.lit (.string [])) = .lit (.string s.data.toList) := (Prod.mk.inj hs.1).1
  unfold sGet
  rw [e]
  simp only
  rw [← bs_of s]

theorem VM.below {w w1 : World} {b n : Nat} {D : DW} (h : VM w b n D) (hb : Below w.heap.size w w1) : VM w1 b n D :=
  World.ownsMap.kept h (grown_of_below hb none) (by simp)
theorem VM.alloc {w : World} {b n : Nat} {D : DW} (h : VM w b n D) (o : Obj) : VM (w.alloc o) b n D := World.ownsMap.alloc h o
set_option maxRecDepth 100000 in
set_option maxHeartbeats 1000000 in
theorem does_get (key : Bs) (hk : key.length ≤ 1000000) (b n : Nat) (D : DW) (w : World) (h : VM w b n D) :
    Calls Tryd.prog 16 #[.map (some b), .agg (reqC (plainQ 2 key []))] w fun e w' => e = .returned (.agg #[.int .i64 0, .int .u64 0, .bool (Maps.has D (.string key)), .string (bs (sGet D key)), .slice none 0 0, .slice none 0 0, .slice none 0 0]) ∧ Below w.heap.size w w' := by
  have H := Lib.hid h; clear h
  simp only [reqC, plainQ]
  go_enter Tryd.func16, Tryd.ntmps16
  have hl := fun w' (h : VM w' b n D) => VM.look h key hk
  go_wp2_with fail
  rw [hl _ ((H.out.alloc _).alloc _)]
  clear hl
  go_wp2
  refine bodyPost_ret (v := .agg #[.int .i64 0, .int .u64 0, .bool (Maps.has D (.string key)), .string (bs (sGet D key)), .slice none 0 0, .slice none 0 0, .slice none 0 0]) (by simp [results, Tryd.results16, go_sem]) rfl ?_
  exact ⟨rfl, below_alloc (below_a1 _ _) _⟩

theorem VM.far {w : World} {b n : Nat} {D : DW} (h : VM w b n D) {a : Addr} (ha : b ≠ a.block) (u : Value) : VM (w.setCell a u) b n D := World.ownsMap.setCell h ha u
theorem VM.lt {w : World} {b n : Nat} {D : DW} (h : VM w b n D) : b < w.heap.size := World.ownsMap.lt h
theorem VM.store {w : World} {b n : Nat} {D : DW} (h : VM w b n D) (hn : n < maxLen) (key value : Bs) (hk : key.length ≤ 1000000) (hv : value.length ≤ 1000000) :
    ∃ w', (Instr.mapUpdate 48 (.map (some b)) (.string (bs key)) (.string (bs value))).run Tryd.prog w = .ok () w' ∧ VM w' b (n + 1) (D.put (.string key) (.lit (.string value))) ∧ w.grownBy w' (some b) := by
  obtain ⟨w', h1, h2, h3⟩ := World.ownsMap.store h keyS viewT hn (keyOf_bs key hk) (elem_bs value hv)
  exact ⟨w', h1, h2, h3.grown⟩
theorem VM.drop {w : World} {b n : Nat} {D : DW} (h : VM w b n D) (key : Bs) (hk : key.length ≤ 1000000) (ty : TypeId) :
    ∃ w', (Builtin.delete_ #[48, 9] ty #[.map (some b), .string (bs key)]).run Tryd.prog w = .ok (.tuple #[]) w' ∧ VM w' b n (D.del (.string key)) ∧ w.grownBy w' (some b) := by
  obtain ⟨w', h1, h2, h3⟩ := World.ownsMap.drop h keyS viewT (keyOf_bs key hk) ty
  exact ⟨w', h1, h2, h3.grown⟩
set_option maxRecDepth 100000 in
set_option maxHeartbeats 1000000 in
theorem does_put (key value : Bs) (hk : key.length ≤ 1000000) (hv : value.length ≤ 1000000) (b n : Nat) (hn : n < maxLen) (D : DW) (w : World) (h : VM w b n D) :
    Calls Tryd.prog 16 #[.map (some b), .agg (reqC (plainQ 3 key value))] w fun e w' => e = .returned (.agg #[.int .i64 0, .int .u64 0, .bool (Maps.has D (.string key)), .string ⟨#[]⟩, .slice none 0 0, .slice none 0 0, .slice none 0 0]) ∧ VM w' b (n + 1) (D.put (.string key) (.lit (.string value))) ∧ w.grownBy w' (some b) := by
  have H := Lib.hid h; clear h
  simp only [reqC, plainQ]
  go_enter Tryd.func16, Tryd.ntmps16
  have hl := fun w' (h : VM w' b n D) => VM.look h key hk
  go_wp2_with fail
  rw [hl _ ((H.out.alloc _).alloc _)]
  clear hl
  have hbl := H.out.lt
  go_wp2_with fail
  obtain ⟨w1, h1, h2, h3⟩ := VM.store ((H.out.alloc (.cells (reqC (plainQ 3 key value)) 34)).alloc (.cells #[.int .i64 0, .int .u64 0, .bool false, .string ⟨#[]⟩, .slice none 0 0, .slice none 0 0, .slice none 0 0] 39)) hn key value hk hv
  have HV := Lib.hid h2
  have HR := Lib.hid ((Blk.new (w.alloc (.cells (reqC (plainQ 3 key value)) 34)) #[.int .i64 0, .int .u64 0, .bool false, .string ⟨#[]⟩, .slice none 0 0, .slice none 0 0, .slice none 0 0] 39).grown h3 (by simp; omega))
  have HG := Lib.hid (grown_trans (grown_of_below (below_alloc (below_a1 w _) _) (some b)) h3)
  simp only [reqC, plainQ] at h1
  rw [h1]
  clear h1 h2 h3
  have hx := HR.out.cell
  have hf := HR.out.frozen
  simp only [World.size_alloc] at hx hf
  go_wp2
  refine bodyPost_ret (v := .agg #[.int .i64 0, .int .u64 0, .bool (Maps.has D (.string key)), .string ⟨#[]⟩, .slice none 0 0, .slice none 0 0, .slice none 0 0]) (by simp [results, Tryd.results16, go_sem, hx]) rfl ?_
  refine ⟨rfl, ?_, ?_⟩
  · iterate 7 (refine VM.far ?_ (by simp; omega) _)
    exact HV.out
  · iterate 7 (refine grown_setNew ?_ (by simp) _)
    exact HG.out
set_option maxRecDepth 100000 in
set_option maxHeartbeats 1000000 in
theorem does_del (key : Bs) (hk : key.length ≤ 1000000) (b n : Nat) (D : DW) (w : World) (h : VM w b n D) :
    Calls Tryd.prog 16 #[.map (some b), .agg (reqC (plainQ 4 key []))] w fun e w' => e = .returned (.agg #[.int .i64 0, .int .u64 0, .bool (Maps.has D (.string key)), .string ⟨#[]⟩, .slice none 0 0, .slice none 0 0, .slice none 0 0]) ∧ VM w' b n (D.del (.string key)) ∧ w.grownBy w' (some b) := by
  have H := Lib.hid h; clear h
  simp only [reqC, plainQ]
  go_enter Tryd.func16, Tryd.ntmps16
  have hl := fun w' (h : VM w' b n D) => VM.look h key hk
  go_wp2_with fail
  rw [hl _ ((H.out.alloc _).alloc _)]
  clear hl
  have hbl := H.out.lt
  go_wp2_with fail
  obtain ⟨w1, h1, h2, h3⟩ := VM.drop ((H.out.alloc (.cells (reqC (plainQ 4 key [])) 34)).alloc (.cells #[.int .i64 0, .int .u64 0, .bool false, .string ⟨#[]⟩, .slice none 0 0, .slice none 0 0, .slice none 0 0] 39)) key hk 0
  have HV := Lib.hid h2
  have HR := Lib.hid ((Blk.new (w.alloc (.cells (reqC (plainQ 4 key [])) 34)) #[.int .i64 0, .int .u64 0, .bool false, .string ⟨#[]⟩, .slice none 0 0, .slice none 0 0, .slice none 0 0] 39).grown h3 (by simp; omega))
  have HG := Lib.hid (grown_trans (grown_of_below (below_alloc (below_a1 w _) _) (some b)) h3)
  simp only [reqC, plainQ] at h1
  rw [h1]
  clear h1 h2 h3
  have hx := HR.out.cell
  have hf := HR.out.frozen
  simp only [World.size_alloc] at hx hf
  go_wp2
  refine bodyPost_ret (v := .agg #[.int .i64 0, .int .u64 0, .bool (Maps.has D (.string key)), .string ⟨#[]⟩, .slice none 0 0, .slice none 0 0, .slice none 0 0]) (by simp [results, Tryd.results16, go_sem, hx]) rfl ?_
  refine ⟨rfl, ?_, ?_⟩
  · iterate 7 (refine VM.far ?_ (by simp; omega) _)
    exact HV.out
  · iterate 7 (refine grown_setNew ?_ (by simp) _)
    exact HG.out
end Go.Proofs.YtbkgcfoilgggjaaDoor
