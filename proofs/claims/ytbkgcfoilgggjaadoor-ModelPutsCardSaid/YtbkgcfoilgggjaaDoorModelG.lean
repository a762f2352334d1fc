/- model: a view's rows. -/
import Derived.Test.YtbkgcfoilgggjaaDoorModelE
import Derived.Test.YtbkgcfoilgggjaaDoorAssoc
import Derived.Test.YtbkgcfoilgggjaaDoorIter
import Derived.CallsIn
set_option linter.unusedVariables false
set_option linter.unusedSimpArgs false
namespace Go.Proofs.YtbkgcfoilgggjaaDoor
open Go.RowKit Go.Maps

def lkey (L : List Ent) : Prop := ∀ p ∈ L, p.1.length ≤ 1000000 ∧ p.2.length ≤ 1000000
def entC (L : List Ent) : List Value := L.flatMap fun p => [.string (bs p.1), .string (bs p.2)]
theorem entC_one (L : List Ent) : ∀ u ∈ entC L, u.oneCell' = true := by
  intro u hu
  simp only [entC, List.mem_flatMap] at hu
  obtain ⟨p, _, h⟩ := hu
  simp at h
  rcases h with rfl | rfl <;> rfl
theorem entC_len (L : List Ent) : (entC L).length = L.length * 2 := by
  induction L with
  | nil => rfl
  | cons p r ih => simp only [entC, List.flatMap_cons, List.length_append, List.length_cons, List.length_nil] at ih ⊢; omega
theorem entC_append (L M : List Ent) : entC (L ++ M) = entC L ++ entC M := by simp [entC]
/-- The entries as a slice. -/
def OE (w : World) (base : Nat) (v : Value) (L : List Ent) : Prop := w.ownsRow base 44 2 v L.length (entC L)
theorem Tent : (Tryd.prog.info? 44).map (fun i => (i.zero, i.size, i.bytes)) = some (some (.agg #[.string ⟨#[]⟩, .string ⟨#[]⟩]), 2, 32) := by kernel_rfl
theorem VM.look1 {w : World} {b n : Nat} {L : List Ent} (h : VM w b n (toD L)) (key : Bs) (hk : key.length ≤ 1000000) :
    (Instr.lookup 48 (.map (some b)) (.string (bs key)) false).run Tryd.prog w = .ok (.string (bs ((lget L key).getD []))) w := by
  have hz : plainElem (H := Unit) Tryd.prog 9 (.string ⟨#[]⟩) = some (.lit (.string []), []) := elem_bs [] (by simp)
  obtain ⟨v, ps, hrun, hv⟩ := World.ownsMap.lookup h keyS viewT (zeroS w) hz (keyOf_bs key hk)
  obtain ⟨s, rfl, hs⟩ := plainElem_string_inv strT hv
  rw [hrun]
  have e : (toD L).atKey (.string key) (.lit (.string [])) = .lit (.string s.data.toList) := (Prod.mk.inj hs.1).1
  rw [atKey_toD] at e
  have e2 : (lget L key).getD [] = s.data.toList := by simpa using e
  rw [e2, ← bs_of s]
theorem OE.kept {w w1 : World} {base : Nat} {v : Value} {L : List Ent} (h : OE w base v L) (hb : Below w.heap.size w w1) : OE w1 base v L :=
  World.ownsRow.kept h (row := none) ⟨hb.os, hb.tape, hb.output, hb.size, fun i hi _ => hb.block i hi⟩ (by cases v.ownBlock <;> simp)
theorem OE.mono {w : World} {b b' : Nat} {v : Value} {l : List Ent} (h : OE w b v l) (hb : b' ≤ b) : OE w b' v l := by
  refine ⟨h.1, ?_⟩
  rcases h.2 with h | ⟨g, cap, cur, rfl, hg, h⟩
  · exact .inl h
  · exact .inr ⟨g, cap, cur, rfl, by omega, h⟩
theorem OE.base_le {w : World} {base : Nat} {v : Value} {L : List Ent} (h : OE w base v L) : ∀ k, v.ownBlock = some k → base ≤ k := fun k hk => (World.ownsRow.lt h k hk).1
/-- append of an entry that the statement lays in a block of its own. -/
theorem wpList_pushE {W0 W : World} {ops : Array Oper} {rest : List Oper} {o : Oper} {a : Act} {Q : Exit → Act → World → Prop} (s x : Operand)
    (base : Nat) (v : Value) (L : List Ent) (k d : Bs) (hown : OE W base v L) (hbytes : L.length < 100000000) (hb : Below base W0 W) (hbase : base ≤ W.heap.size)
    (hgd : o.guard = none) (ho : o.op = .call { callee := .builtin .append, args := #[s, x], argTypes := #[35, 35] })
    (hs : a.eval s = v) (hx : a.eval x = .slice (some ⟨W.heap.size, 0, none⟩) 1 1)
    (h : ∀ v' w', OE w' base v' (L ++ [(k, d)]) → Below base W0 w' → W.grownBy w' v.ownBlock → wpList Tryd.prog ops Q rest (a.put o.dst v') w') : wpList Tryd.prog ops Q (o :: rest) a (W.alloc (.cells #[.string (bs k), .string (bs d)] 44)) := by
  obtain ⟨i0, hi, hz0, hz1, hz2⟩ := info_parts Tent
  refine wpList_app hgd s x _ ho base _ i0 _ 2 32 Tryd.underlying35 hi hz0 hz1 hz2 rfl (by decide) v L.length (entC L) hs (World.ownsRow.alloc hown _) (.slice (some ⟨W.heap.size, 0, none⟩) 1 1) 1 (entC [(k, d)]) hx ?_ (entC_one _) (by unfold maxLen; omega) (by omega) (by simp; omega) ?_
  · exact Rds.fresh W 2 1 _ [.string (bs k), .string (bs d)] rfl (by unfold maxLen; omega)
  · intro v' w' h1 h2
    have hg : W.grownBy w' v.ownBlock := ⟨h2.os, h2.tape, h2.output, Nat.le_trans (by simp) h2.size, fun j hj hne => (h2.block j (by simp; omega) hne).trans (Below.heap_alloc W _ j hj)⟩
    refine h v' w' ?_ (hb.grown hg hbase (fun j hj => hown.base_le j hj)) hg
    unfold OE
    rw [List.length_append, entC_append]
    exact h1
set_option maxRecDepth 100000 in
set_option maxHeartbeats 1000000 in
theorem rows_any (b n : Nat) (L : List Ent) (hL : SL L) (hk : lkey L) (hsz : L.length ≤ 1000000) (w : World) (h : VM w b n (toD L)) :
    Calls Tryd.prog 17 #[.map (some b)] w fun e w' => ∃ v, e = .returned v ∧ OE w' w.heap.size v L ∧ Below w.heap.size w w' := by
  have HM := Lib.hid h
  have HL := Lib.hid hL
  have HK := Lib.hid hk
  clear h hL hk
  go_enter Tryd.func17, Tryd.ntmps17
  go_wp2_with fail
  refine (callsIn_wide.1 (Tryd.maps_Keys_26 _ _)).mono ?_
  rintro e w1 ⟨rfl, rfl⟩
  go_wp2_with fail
  refine (callsIn_wide.1 (Tryd.slices_Sorted_keys_25_26 b n (toD L) (plainElem Tryd.prog 9) w HM.out (by rw [size_toD]; unfold maxLen; omega) (by rw [size_toD]; omega))).mono ?_
  rintro e w1 ⟨v, ss, rfl, hperm, hown, hnil, hb⟩
  have hms := mergeSort_keys HL.out hperm
  rw [hms] at hown
  have hss : ss.length = L.length := by have := congrArg List.length hms; rw [List.length_mergeSort, List.length_map] at this; exact this
  rw [hss] at hown
  have HR := Lib.hid (Rds.of_own hown)
  have HB := Lib.hid (below_then (below_a1 w _) (below_a1 w _).size hb)
  clear hperm hown hnil hb hms hss
  obtain ⟨A, c, rfl⟩ := HR.out.form
  have hn : ∀ k : Nat, k < L.length → ∃ g off, A = some ⟨g, off, none⟩ := by
    intro k hk
    rcases HR.out.2.2 with ⟨h1, h2⟩ | ⟨b, off, c, h1, _⟩
    · omega
    · injection h1 with h1; exact ⟨b, off, h1⟩
  have HN := Lib.hid hn
  clear hn
  go_wp2_with fail
  go_loopw [3, 10] (fun x i wr => ∃ (j : Nat), i = .int .i64 j ∧ j ≤ L.length ∧ OE wr w1.heap.size x (L.take j) ∧ Below w1.heap.size w1 wr) (fun _ i _ => L.length - (intOf i).toNat)
  case atStart => exact ⟨0, rfl, by omega, World.ownsRow_nil _ _ _ 2, Below.refl _ _⟩
  case round =>
    obtain ⟨j, rfl, hj, ho, hbr⟩ := hrel
    have HO := Lib.hid ho
    have HBR := Lib.hid hbr
    have HRR := Lib.hid (HR.out.below hbr)
    have HBW := Lib.hid (below_then HB.out HB.out.size hbr)
    have hsz2 := hbr.size
    clear ho hbr
    by_cases hjl : j < L.length
    · obtain ⟨g, off, rfl⟩ := HN.out j hjl
      have hc : wr.cell? ⟨g, off + j, none⟩ = some (.string (bs (L[j]).1)) := by
        rcases HRR.out.2.2 with ⟨h1, h2⟩ | ⟨b', off', c', h1, _, h3⟩
        · omega
        · injection h1 with h1 h4 h5
          injection h1 with h1
          injection h1 with h1 h6
          subst h1 h6
          exact h3 j _ (by simp [hjl, encStr, bs])
      have hlk := VM.look1 (HM.out.below HBW.out) (L[j]).1 (HK.out _ (List.getElem_mem hjl)).1
      rw [lget_mem HL.out (List.getElem_mem hjl)] at hlk
      simp only [Option.getD_some] at hlk
      have HS := Lib.hid (show L.take (j + 1) = L.take j ++ [((L[j]).1, (L[j]).2)] by rw [List.take_succ_eq_append_getElem hjl])
      have hlt : (L.take j).length < 100000000 := by simp; omega
      go_wp2_with (at_builtin; refine wpList_pushE (.tmp 14) (.tmp 20) w1.heap.size _ _ _ _ HO.out hlt HBR.out hsz2 rfl rfl rfl rfl ?_)
      intro v' w2 ho2 hb2 hg2
      go_wp2
      go_roundw
      case rel => exact ⟨j + 1, rfl, by omega, by rw [HS.out]; exact ho2, hb2⟩
      case measure => simp [intOf]; omega
    · have hjl' : j = L.length := by omega
      go_wp2
      go_ret
      exact ⟨_, rfl, by subst hjl'; rw [List.take_length] at HO; exact HO.out.mono HB.out.size, HBW.out⟩
end Go.Proofs.YtbkgcfoilgggjaaDoor
