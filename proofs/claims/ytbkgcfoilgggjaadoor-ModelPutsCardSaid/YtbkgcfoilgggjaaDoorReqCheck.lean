/- request.Check of a request that comes back from its bytes. -/
import Derived.Test.YtbkgcfoilgggjaaDoorReqCodec
set_option linter.unusedVariables false
set_option linter.unusedSimpArgs false
namespace Go.Proofs.YtbkgcfoilgggjaaDoor
open Go.RowKit

def rightsE (r : Int) : Int := if r > 63 then 1 else 0
set_option maxHeartbeats 400000 in
theorem rightsCheck_any (r : Int) (w : World) : Calls Tryd.prog 31 #[.int .u8 r] w fun e w' => e = .returned (errV (rightsE r)) ∧ w = w' := by
  by_cases h : r > 63
  all_goals
    go_enter Tryd.func31, Tryd.ntmps31
    go_wp2
    go_ret
    exact ⟨by simp [rightsE, errV, h], rfl⟩
theorem bytesR_len {q : Req} (hq : WfQ q) : (bytesR q).length ≤ 5000101 := by
  have h1 := form_len q.kind
  have h2 := puts_len hq (form q.kind) _ (Nat.le_refl _)
  unfold puts at h2
  rw [List.take_length] at h2
  unfold bytesR
  omega
set_option maxRecDepth 100000 in
set_option maxHeartbeats 2000000 in
theorem reqCheck_ok (q : Req) (hq : WfQ q) (hs : 0 ≤ q.rslot ∧ q.rslot < 64) (hr : q.rights ≤ 63) (hb : readR (bytesR q) = (q, true)) (w : World) :
    Calls Tryd.prog 20 #[.agg (reqC q)] w fun e w' => e = .returned .nilIface ∧ Below w.heap.size w w' := by
  have hbl := bytesR_len hq
  obtain ⟨kind, space, handle, rslot, rgen, to_, key, value, rights, most, flag⟩ := q
  have HQ := Lib.hid hq; clear hq
  have HB := Lib.hid hb; clear hb
  have HBL := Lib.hid hbl; clear hbl
  simp only at hs hr
  simp only [reqC]
  have hre : rightsE rights = 0 := by simp [rightsE]; omega
  go_enter Tryd.func20, Tryd.ntmps20
  go_wp2_with fail
  refine (rightsCheck_any _ _).mono ?_
  rintro e w1 ⟨rfl, rfl⟩
  rw [hre]
  go_wp2_with fail
  refine (bytes_any ⟨kind, space, handle, rslot, rgen, to_, key, value, rights, most, flag⟩ HQ.out w.heap.size _ (Blk.new w _ _)).mono ?_
  rintro e w2 ⟨v2, rfl, ho2, hb2⟩
  have HO2 := Lib.hid ho2
  have HX2 := Lib.hid ((Blk.new w (reqC ⟨kind, space, handle, rslot, rgen, to_, key, value, rights, most, flag⟩) 34).below hb2)
  have HB2 := Lib.hid (below_then (below_a1 w _) (below_a1 w _).size hb2)
  clear ho2 hb2
  go_wp2_with fail
  refine (read_any v2 _ _ HO2.out.rb (by have := HBL.out; omega)).mono ?_
  rw [HB.out]
  rintro e w3 ⟨rfl, hb3⟩
  have HX3 := Lib.hid (HX2.out.below hb3)
  have HB3 := Lib.hid (below_then HB2.out HB2.out.size hb3)
  clear hb3
  have hx3 := HX3.out.cell
  have hl3 := HX3.out.lt
  simp only [reqC] at hx3
  simp only [reqC]
  go_wp2
  go_ret
  exact ⟨rfl, below_alloc HB3.out _⟩
end Go.Proofs.YtbkgcfoilgggjaaDoor
