/- The law of the model: ModelPuts. -/
import Derived.Test.YtbkgcfoilgggjaaDoorModelI
set_option linter.unusedVariables false
set_option linter.unusedSimpArgs false
namespace Go.Proofs.YtbkgcfoilgggjaaDoor
open Go.RowKit Go.Maps

theorem new_sp2 (w : World) :
    Calls Tryd.prog 5 #[] w fun e w' => ∃ s lb rb, e = .returned (.pointer (some ⟨s, 0, none⟩)) ∧ w.heap.size ≤ lb ∧ lb < rb ∧ rb < s ∧ s < w'.heap.size ∧ Sp w' s lb rb 0 0 none 0 (.map []) ∧ VM w' lb 0 (toD []) ∧ Below w.heap.size w w' := by
  refine (new_sp w).mono ?_
  rintro e w' ⟨rfl, h1, h2, h3, h4⟩
  exact ⟨_, _, _, rfl, by omega, by omega, by omega, by omega, h1, h2, h3⟩
theorem do_get2 (s lb rb : Nat) (given write : Int) (nb : Option Nat) (nR : Nat) (DR : DW) (txn : Int) (h0 : 0 ≤ txn) (h1 : txn < 18446744073709551616) (key : Bs) (hk : key.length ≤ 39) (hk0 : key ≠ [])
    (vb nv : Nat) (L : List Ent) (w : World) (hS : Sp w s lb rb given write nb nR DR) (hv : seenV write (.map nb) DR txn = .map (some vb)) (he : seenE write DR txn = 0) (hV : VM w vb nv (toD L)) (f : Bool) (x : Bs) (hf : (lget L key).isSome = f) (hx : (lget L key).getD [] = x) :
    Calls Tryd.prog 7 #[.pointer (some ⟨s, 0, none⟩), .int .u64 txn, .agg (reqC (plainQ 2 key []))] w fun e w' => e = .returned (replyV f x) ∧ Below w.heap.size w w' := by
  have := do_get s lb rb given write nb nR DR txn h0 h1 key hk hk0 vb nv (toD L) w hS hv he hV
  rwa [has_toD, sGet_toD, hf, hx] at this
theorem do_put2 (s lb rb : Nat) (given write : Int) (nR : Nat) (DR : DW) (hw : write ≠ 0) (h0 : 0 ≤ write) (h1 : write < 18446744073709551616) (key value : Bs) (hk : key.length ≤ 39) (hk0 : key ≠ []) (hvl : value.length ≤ 2048)
    (vb nv : Nat) (hnv : nv < maxLen) (L L' : List Ent) (hL : SL L) (w : World) (hS : Sp w s lb rb given write (some vb) nR DR) (hV : VM w vb nv (toD L)) (f : Bool) (hf : (lget L key).isSome = f) (hL' : lput L key value = L') :
    Calls Tryd.prog 7 #[.pointer (some ⟨s, 0, none⟩), .int .u64 write, .agg (reqC (plainQ 3 key value))] w fun e w' => e = .returned (replyV f []) ∧ VM w' vb (nv + 1) (toD L') ∧ Fr [vb] w w' := by
  have := do_put s lb rb given write nR DR hw h0 h1 key value hk hk0 hvl vb nv hnv (toD L) w hS hV
  rw [has_toD, hf, toD_put hL, hL'] at this
  refine this.mono ?_
  rintro e w' ⟨h1, h2, h3⟩
  exact ⟨h1, h2, Fr.of_grown h3⟩
theorem do_del2 (s lb rb : Nat) (given write : Int) (nR : Nat) (DR : DW) (hw : write ≠ 0) (h0 : 0 ≤ write) (h1 : write < 18446744073709551616) (key : Bs) (hk : key.length ≤ 39) (hk0 : key ≠ [])
    (vb nv : Nat) (L L' : List Ent) (w : World) (hS : Sp w s lb rb given write (some vb) nR DR) (hV : VM w vb nv (toD L)) (f : Bool) (hf : (lget L key).isSome = f) (hL' : ldel L key = L') :
    Calls Tryd.prog 7 #[.pointer (some ⟨s, 0, none⟩), .int .u64 write, .agg (reqC (plainQ 4 key []))] w fun e w' => e = .returned (replyV f []) ∧ VM w' vb nv (toD L') ∧ Fr [vb] w w' := by
  have := do_del s lb rb given write nR DR hw h0 h1 key hk hk0 vb nv (toD L) w hS hV
  rw [has_toD, hf, toD_del, hL'] at this
  refine this.mono ?_
  rintro e w' ⟨h1, h2, h3⟩
  exact ⟨h1, h2, Fr.of_grown h3⟩
theorem lput_one (k v v' : Bs) : lput [(k, v)] k v' = [(k, v')] := by simp [lput, List.lt_irrefl]
theorem lget_one (k v : Bs) : lget [(k, v)] k = some v := by simp [lget]
theorem ldel_one (k v : Bs) : ldel [(k, v)] k = [] := by simp [ldel]
/-- The readers, of whom one has begun. -/
def oneR (vr : Nat) : DW := (DataW.map []).put (.int .u64 1) (.lit (.int .i64 vr))
theorem oneR_has (vr : Nat) : Maps.has (oneR vr) (.int .u64 1) = true := by simp [oneR, DataW.put, DataW.insert, Maps.has, Lit.sameKey]
theorem oneR_has2 (vr : Nat) : Maps.has (oneR vr) (.int .u64 2) = false := by simp [oneR, DataW.put, DataW.insert, Maps.has, Lit.sameKey]
theorem oneR_get (vr : Nat) : rGet (oneR vr) 1 = some vr := by simp [rGet, oneR, DataW.put, DataW.insert, DataW.atKey, Lit.sameKey]

def ofC (key value other : Bs) : Array Value := #[.string (bs key), .string (bs value), .string (bs other)]
set_option maxRecDepth 100000 in
set_option maxHeartbeats 2000000 in
theorem puts_bad (key value other : Bs) (keep : Bool) (w : World) (hG : G w) (h : key.length < 1 ∨ (1 ≤ key.length ∧ 39 < key.length) ∨ (1 ≤ key.length ∧ key.length ≤ 39 ∧ 2048 < value.length) ∨ (1 ≤ key.length ∧ key.length ≤ 39 ∧ value.length ≤ 2048 ∧ 2048 < other.length)) :
    Calls Tryd.prog 3 #[.agg (ofC key value other), .bool keep] w fun e w' => e = .returned (.bool true) ∧ Below w.heap.size w w' := by
  have HG := Lib.hid hG; clear hG
  have hmx : Tryd.prog.follows .mixedOrders = true := by kernel_rfl
  rcases h with h | ⟨h1, h⟩ | ⟨h1, h2, h⟩ | ⟨h1, h2, h3, h⟩
  all_goals
    simp only [ofC]
    go_enter Tryd.func3, Tryd.ntmps3
    go_wp2_with fail
    refine region_plan (S := fun w' => ∀ o, w'.cell? ⟨w.heap.size, o, none⟩ = #[Value.string (bs key), .string (bs value), .string (bs other)][o]?) [.t 0, .t 1, .t 2, .t 3, .t 4, .t 5, .t 6, .t 7, .t 8] hmx (by kernel_rfl) (fun _ _ x _ _ h => by cases x <;> exact h) (fun o => (Blk.new w _ _).cell o) ?_
    iterate 9
      refine plan_t (v := ?_) rfl rfl ?_ ?_
      rotate_left
      · intro w' hSw
        have hx := hSw
        go_simp
        with_reducible rfl
      try simp only [Act.put, List.setIfInBounds_toArray, List.set_cons_zero, List.set_cons_succ]
    refine plan_nil ?_
    go_wp2_with fail
    refine (sure_any _ (HG.out.below (Nat.le_refl _) ((below_a1 w _).drew))).mono ?_
    rintro e w1 ⟨rfl, hb⟩
    have HB := Lib.hid (below_then ((below_a1 w (.cells #[.string (bs key), .string (bs value), .string (bs other)] 22)).drew) (by simp) hb)
    clear hb
    go_wp2
    go_ret
    exact ⟨rfl, HB.out⟩
end Go.Proofs.YtbkgcfoilgggjaaDoor
