/- model: Do. -/
import Derived.Test.YtbkgcfoilgggjaaDoorModelC
set_option linter.unusedVariables false
set_option linter.unusedSimpArgs false
namespace Go.Proofs.YtbkgcfoilgggjaaDoor
open Go.RowKit Go.Maps

/-- A space at block s. -/
structure Sp (w : World) (s lb rb : Nat) (given write : Int) (nb : Option Nat) (nR : Nat) (DR : DW) : Prop where
  blk : Blk w s (spC lb given rb write (.map nb)) 51
  reads : RM w rb nR DR
theorem Sp.below {w w1 : World} {s lb rb : Nat} {given write : Int} {nb : Option Nat} {nR : Nat} {DR : DW} (h : Sp w s lb rb given write nb nR DR) (hb : Below w.heap.size w w1) : Sp w1 s lb rb given write nb nR DR :=
  ⟨h.blk.below hb, World.ownsMap.kept h.reads (grown_of_below hb none) (by simp)⟩
def replyV (found : Bool) (value : Bs) : Value := .agg #[.int .i64 0, .int .u64 0, .bool found, .string (bs value), .slice none 0 0, .slice none 0 0, .slice none 0 0]
set_option maxRecDepth 100000 in
set_option maxHeartbeats 1000000 in
theorem do_get (s lb rb : Nat) (given write : Int) (nb : Option Nat) (nR : Nat) (DR : DW) (txn : Int) (h0 : 0 ≤ txn) (h1 : txn < 18446744073709551616) (key : Bs) (hk : key.length ≤ 39) (hk0 : key ≠ [])
    (vb nv : Nat) (DV : DW) (w : World) (hS : Sp w s lb rb given write nb nR DR) (hv : seenV write (.map nb) DR txn = .map (some vb)) (he : seenE write DR txn = 0) (hV : VM w vb nv DV) :
    Calls Tryd.prog 7 #[.pointer (some ⟨s, 0, none⟩), .int .u64 txn, .agg (reqC (plainQ 2 key []))] w fun e w' => e = .returned (replyV (Maps.has DV (.string key)) (sGet DV key)) ∧ Below w.heap.size w w' := by
  have hA : Askable (plainQ 2 key []) := ⟨2, key, [], rfl, hk, by simp, .inr ⟨.inl rfl, rfl⟩⟩
  have HA := Lib.hid (asked_any _ hA)
  have HS := Lib.hid hS
  have HV := Lib.hid hV
  have HE := Lib.hid he
  have HVV := Lib.hid hv
  have H1 := Lib.hid h1
  clear hS hV hv he h1 hA
  simp only [reqC, plainQ] at HA ⊢
  go_enter Tryd.func7, Tryd.ntmps7
  go_wp2_with fail
  refine (HA.out _).mono ?_
  rintro e w1 ⟨rfl, hb⟩
  have HB1 := Lib.hid (below_then (below_alloc (below_a1 w _) _) (below_alloc (below_a1 w _) _).size hb)
  have HQ1 := Lib.hid (((Blk.new w (reqC (plainQ 2 key [])) 34).alloc _).below hb)
  have HR1 := Lib.hid ((Blk.new (w.alloc (.cells (reqC (plainQ 2 key [])) 34)) #[.int .i64 0, .int .u64 0, .bool false, .string ⟨#[]⟩, .slice none 0 0, .slice none 0 0, .slice none 0 0] 39).below hb)
  have HS1 := Lib.hid (HS.out.below HB1.out)
  clear hb
  go_wp2_with fail
  refine (seen_any s lb rb given write nb nR DR txn h0 H1.out _ HS1.out.blk HS1.out.reads).mono ?_
  rintro e w2 ⟨rfl, rfl⟩
  rw [HVV.out, HE.out]
  have hq := HQ1.out.cell
  have hsx := HS1.out.blk.cell
  simp only [reqC, plainQ] at hq
  simp only [spC] at hsx
  go_wp2_with fail
  refine (does_get key (by omega) vb nv DV _ (HV.out.below HB1.out)).mono ?_
  rintro e w3 ⟨rfl, hb⟩
  have HB3 := Lib.hid (below_then HB1.out HB1.out.size hb)
  have HR3 := Lib.hid (HR1.out.below hb)
  have hr := HR3.out.cell
  have hf := HR3.out.frozen
  simp only [World.size_alloc] at hr hf
  clear hb hq hsx
  go_wp2
  refine bodyPost_ret (v := replyV (Maps.has DV (.string key)) (sGet DV key)) (by simp [replyV, results, Tryd.results7, go_sem, hr]) rfl ?_
  refine ⟨rfl, ?_⟩
  iterate 7 (refine Below.setCell ?_ (by simp) _)
  exact HB3.out
set_option maxRecDepth 100000 in
set_option maxHeartbeats 1000000 in
theorem do_put (s lb rb : Nat) (given write : Int) (nR : Nat) (DR : DW) (hw : write ≠ 0) (h0 : 0 ≤ write) (h1 : write < 18446744073709551616) (key value : Bs) (hk : key.length ≤ 39) (hk0 : key ≠ []) (hvl : value.length ≤ 2048)
    (vb nv : Nat) (hnv : nv < maxLen) (DV : DW) (w : World) (hS : Sp w s lb rb given write (some vb) nR DR) (hV : VM w vb nv DV) :
    Calls Tryd.prog 7 #[.pointer (some ⟨s, 0, none⟩), .int .u64 write, .agg (reqC (plainQ 3 key value))] w fun e w' => e = .returned (replyV (Maps.has DV (.string key)) []) ∧ VM w' vb (nv + 1) (DV.put (.string key) (.lit (.string value))) ∧ w.grownBy w' (some vb) := by
  have hA : Askable (plainQ 3 key value) := ⟨3, key, value, rfl, hk, hvl, .inl rfl⟩
  have HA := Lib.hid (asked_any _ hA)
  have HS := Lib.hid hS
  have HV := Lib.hid hV
  have H1 := Lib.hid h1
  clear hS hV h1 hA
  have hbl := HV.out.lt
  simp only [reqC, plainQ] at HA ⊢
  go_enter Tryd.func7, Tryd.ntmps7
  go_wp2_with fail
  refine (HA.out _).mono ?_
  rintro e w1 ⟨rfl, hb⟩
  have HB1 := Lib.hid (below_then (below_alloc (below_a1 w _) _) (below_alloc (below_a1 w _) _).size hb)
  have HQ1 := Lib.hid (((Blk.new w (reqC (plainQ 3 key value)) 34).alloc _).below hb)
  have HR1 := Lib.hid ((Blk.new (w.alloc (.cells (reqC (plainQ 3 key value)) 34)) #[.int .i64 0, .int .u64 0, .bool false, .string ⟨#[]⟩, .slice none 0 0, .slice none 0 0, .slice none 0 0] 39).below hb)
  have HS1 := Lib.hid (HS.out.below HB1.out)
  clear hb
  go_wp2_with fail
  refine (seen_any s lb rb given write (some vb) nR DR write h0 H1.out _ HS1.out.blk HS1.out.reads).mono ?_
  rintro e w2 ⟨rfl, rfl⟩
  rw [show seenV write (.map (some vb)) DR write = .map (some vb) by simp [seenV, hw], show seenE write DR write = 0 by simp [seenE, hw]]
  have hq := HQ1.out.cell
  have hsx := HS1.out.blk.cell
  simp only [reqC, plainQ] at hq
  simp only [spC] at hsx
  go_wp2_with fail
  refine (does_put key value (by omega) (by omega) vb nv hnv DV _ (HV.out.below HB1.out)).mono ?_
  rintro e w3 ⟨rfl, hv3, hb⟩
  have HV3 := Lib.hid hv3
  have HB3 := Lib.hid (grown_trans (grown_of_below HB1.out (some vb)) hb)
  have HR3 := Lib.hid (HR1.out.grown hb (by simp; omega))
  clear hv3
  have hr := HR3.out.cell
  have hf := HR3.out.frozen
  simp only [World.size_alloc] at hr hf
  clear hb hq hsx
  go_wp2
  refine bodyPost_ret (v := replyV (Maps.has DV (.string key)) []) (by simp [replyV, results, Tryd.results7, go_sem, hr, bs]) rfl ?_
  refine ⟨rfl, ?_, ?_⟩
  · iterate 7 (refine VM.far ?_ (by simp; omega) _)
    exact HV3.out
  · iterate 7 (refine grown_setNew ?_ (by simp) _)
    exact HB3.out
set_option maxRecDepth 100000 in
set_option maxHeartbeats 1000000 in
theorem do_del (s lb rb : Nat) (given write : Int) (nR : Nat) (DR : DW) (hw : write ≠ 0) (h0 : 0 ≤ write) (h1 : write < 18446744073709551616) (key : Bs) (hk : key.length ≤ 39) (hk0 : key ≠ [])
    (vb nv : Nat) (DV : DW) (w : World) (hS : Sp w s lb rb given write (some vb) nR DR) (hV : VM w vb nv DV) :
    Calls Tryd.prog 7 #[.pointer (some ⟨s, 0, none⟩), .int .u64 write, .agg (reqC (plainQ 4 key []))] w fun e w' => e = .returned (replyV (Maps.has DV (.string key)) []) ∧ VM w' vb nv (DV.del (.string key)) ∧ w.grownBy w' (some vb) := by
  have hA : Askable (plainQ 4 key []) := ⟨4, key, [], rfl, hk, by simp, .inr ⟨.inr rfl, rfl⟩⟩
  have HA := Lib.hid (asked_any _ hA)
  have HS := Lib.hid hS
  have HV := Lib.hid hV
  have H1 := Lib.hid h1
  clear hS hV h1 hA
  have hbl := HV.out.lt
  simp only [reqC, plainQ] at HA ⊢
  go_enter Tryd.func7, Tryd.ntmps7
  go_wp2_with fail
  refine (HA.out _).mono ?_
  rintro e w1 ⟨rfl, hb⟩
  have HB1 := Lib.hid (below_then (below_alloc (below_a1 w _) _) (below_alloc (below_a1 w _) _).size hb)
  have HQ1 := Lib.hid (((Blk.new w (reqC (plainQ 4 key [])) 34).alloc _).below hb)
  have HR1 := Lib.hid ((Blk.new (w.alloc (.cells (reqC (plainQ 4 key [])) 34)) #[.int .i64 0, .int .u64 0, .bool false, .string ⟨#[]⟩, .slice none 0 0, .slice none 0 0, .slice none 0 0] 39).below hb)
  have HS1 := Lib.hid (HS.out.below HB1.out)
  clear hb
  go_wp2_with fail
  refine (seen_any s lb rb given write (some vb) nR DR write h0 H1.out _ HS1.out.blk HS1.out.reads).mono ?_
  rintro e w2 ⟨rfl, rfl⟩
  rw [show seenV write (.map (some vb)) DR write = .map (some vb) by simp [seenV, hw], show seenE write DR write = 0 by simp [seenE, hw]]
  have hq := HQ1.out.cell
  have hsx := HS1.out.blk.cell
  simp only [reqC, plainQ] at hq
  simp only [spC] at hsx
  go_wp2_with fail
  refine (does_del key (by omega) vb nv DV _ (HV.out.below HB1.out)).mono ?_
  rintro e w3 ⟨rfl, hv3, hb⟩
  have HV3 := Lib.hid hv3
  have HB3 := Lib.hid (grown_trans (grown_of_below HB1.out (some vb)) hb)
  have HR3 := Lib.hid (HR1.out.grown hb (by simp; omega))
  clear hv3
  have hr := HR3.out.cell
  have hf := HR3.out.frozen
  simp only [World.size_alloc] at hr hf
  clear hb hq hsx
  go_wp2
  refine bodyPost_ret (v := replyV (Maps.has DV (.string key)) []) (by simp [replyV, results, Tryd.results7, go_sem, hr, bs]) rfl ?_
  refine ⟨rfl, ?_, ?_⟩
  · iterate 7 (refine VM.far ?_ (by simp; omega) _)
    exact HV3.out
  · iterate 7 (refine grown_setNew ?_ (by simp) _)
    exact HB3.out
end Go.Proofs.YtbkgcfoilgggjaaDoor
