/- model: asked. -/
import Derived.Test.YtbkgcfoilgggjaaDoorModelA
set_option linter.unusedVariables false
set_option linter.unusedSimpArgs false
namespace Go.Proofs.YtbkgcfoilgggjaaDoor
open Go.RowKit Go.Maps

theorem wf_plain (kind : Int) (key value : Bs) (hk : key.length ≤ 39) (hv : value.length ≤ 2048) (h0 : 0 ≤ kind) (h1 : kind < 256) : WfQ (plainQ kind key value) := by
  unfold WfQ plainQ
  simp only
  omega
/-- A request that may be asked here. -/
def Askable (q : Req) : Prop := ∃ kind key value, q = plainQ kind key value ∧ key.length ≤ 39 ∧ value.length ≤ 2048 ∧ ((kind = 3) ∨ ((kind = 2 ∨ kind = 4) ∧ value = []))
theorem Askable.read {q : Req} (h : Askable q) : readR (bytesR q) = (q, true) := by
  obtain ⟨kind, key, value, rfl, hk, hv, rfl | ⟨h, rfl⟩⟩ := h
  · exact read_put key value hk hv
  · exact read_get kind (by omega) key hk
theorem Askable.check {q : Req} (h : Askable q) (w : World) : Calls Tryd.prog 20 #[.agg (reqC q)] w fun e w' => e = .returned .nilIface ∧ Below w.heap.size w w' := by
  have hr := h.read
  obtain ⟨kind, key, value, rfl, hk, hv, hc⟩ := h
  exact reqCheck_ok _ (wf_plain kind key value hk hv (by omega) (by omega)) (by simp [plainQ]) (by simp [plainQ]) hr w
set_option maxRecDepth 100000 in
set_option maxHeartbeats 1000000 in
theorem asked_any (q : Req) (h : Askable q) (w : World) : Calls Tryd.prog 14 #[.agg (reqC q)] w fun e w' => e = .returned .nilIface ∧ Below w.heap.size w w' := by
  have hck := h.check
  obtain ⟨kind, key, value, rfl, hk, hv, hc⟩ := h
  have HC := Lib.hid hck; clear hck
  have hkind : kind = 2 ∨ kind = 3 ∨ kind = 4 := by omega
  clear hc
  rcases hkind with rfl | rfl | rfl
  all_goals
    simp only [reqC, plainQ] at HC ⊢
    go_enter Tryd.func14, Tryd.ntmps14
    go_wp2_with fail
    refine (HC.out _).mono ?_
    rintro e w1 ⟨rfl, hb⟩
    have HB := Lib.hid (below_then (below_a1 w _) (below_a1 w _).size hb)
    have HX := Lib.hid ((Blk.new w _ _).below hb)
    have hx := HX.out.cell
    clear hb
    go_wp2
    go_ret
    exact ⟨rfl, HB.out⟩
end Go.Proofs.YtbkgcfoilgggjaaDoor
