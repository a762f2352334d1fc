/- The law of the model: sure. -/
import Derived.Test.YtbkgcfoilgggjaaDoorModelH
import Derived.Test.YtbkgcfoilgggjaaDoorFr
import Derived.Test.YtbkgcfoilgggjaaDoorErrNum
set_option linter.unusedVariables false
set_option linter.unusedSimpArgs false
namespace Go.Proofs.YtbkgcfoilgggjaaDoor
open Go.RowKit Go.Maps

theorem VM.fr {M : List Nat} {w w1 : World} {b n : Nat} {D : DW} (h : VM w b n D) (hf : Fr M w w1) (hb : b ∉ M) : VM w1 b n D := by
  obtain ⟨es, clock, hb0, F, hs, hD⟩ := id h
  exact ⟨es, clock, (hf.block b (VM.lt h) hb).trans hb0, F, hs, hD⟩
theorem RM.fr {M : List Nat} {w w1 : World} {b n : Nat} {D : DW} (h : RM w b n D) (hf : Fr M w w1) (hb : b ∉ M) : RM w1 b n D := by
  obtain ⟨es, clock, hb0, F, hs, hD⟩ := id h
  exact ⟨es, clock, (hf.block b (RM.lt h) hb).trans hb0, F, hs, hD⟩
theorem Sp.fr {M : List Nat} {w w1 : World} {s lb rb : Nat} {given write : Int} {nb : Option Nat} {nR : Nat} {DR : DW} (h : Sp w s lb rb given write nb nR DR) (hf : Fr M w w1) (hs : s ∉ M) (hr : rb ∉ M) : Sp w1 s lb rb given write nb nR DR :=
  ⟨h.blk.fr hf hs, h.reads.fr hf hr⟩
theorem Two.fr {g q : Nat} {w w' : World} (h : Two g q w w') : Fr [g, q] w w' := ⟨h.os, h.tape, h.output, h.size, fun i hi hn => h.block i hi (fun e => hn (by simp [e])) (fun e => hn (by simp [e]))⟩
theorem OE.fr {M : List Nat} {w w1 : World} {base : Nat} {v : Value} {L : List Ent} (h : OE w base v L) (hf : Fr M w w1) (hM : ∀ i, i ∈ M → i < base) : OE w1 base v L := by
  refine ⟨h.1, ?_⟩
  rcases h.2 with h2 | ⟨g, cap, cur, rfl, hg, hh, h1, h2, h3, h4⟩
  · exact .inl h2
  · refine .inr ⟨g, cap, cur, rfl, hg, (hf.block g ?_ fun hm => by have := hM g hm; omega).trans hh, h1, h2, h3, h4⟩
    exact (Array.getElem?_eq_some_iff.1 hh).1
def repC (found : Bool) (value : Bs) : Array Value := #[.int .i64 0, .int .u64 0, .bool found, .string (bs value), .slice none 0 0, .slice none 0 0, .slice none 0 0]
theorem lget_nil (k : Bt) : lget [] k = none := rfl
theorem replyV_def (f : Bool) (v : Bs) : replyV f v = .agg (repC f v) := rfl

def ErrT (w : World) : Prop := w.cell? ⟨0, 0, none⟩ = some (.iface 95 (.agg #[th 28]))
/-- What the program's own variables hold. -/
structure G (w : World) : Prop where
  err : ErrT w
  errl : 0 < w.heap.size
theorem G.below {B : Nat} {w w' : World} (h : G w) (hB : w.heap.size ≤ B) (hb : Below B w w') : G w' :=
  have hs := hb.size
  ⟨(hb.cell (p := ⟨_, 0, none⟩) (Nat.lt_of_lt_of_le h.errl hB)).trans h.err, Nat.lt_of_lt_of_le h.errl hs⟩

theorem lkey_nil : lkey [] := fun p hp => by cases hp
theorem lkey_one {k v : Bs} (hk : k.length ≤ 1000000) (hv : v.length ≤ 1000000) : lkey [(k, v)] := fun p hp => by
  obtain rfl : p = (k, v) := by simpa using hp
  exact ⟨hk, hv⟩
theorem SL_nil : SL [] := List.Pairwise.nil
theorem SL_one (k v : Bs) : SL [(k, v)] := by simp [SL]
/-- One entry, as a slice reads. -/
theorem OE.one {w : World} {base : Nat} {v : Value} {k d : Bs} (h : OE w base v [(k, d)]) : ∃ g c, v = .slice (some ⟨g, 0, none⟩) 1 c ∧ 1 ≤ c ∧ base ≤ g ∧ g < w.heap.size ∧ w.cell? ⟨g, 0, none⟩ = some (.string (bs k)) ∧ w.cell? ⟨g, 1, none⟩ = some (.string (bs d)) := by
  have hr := Rds.of_own h
  rcases hr.2.2 with ⟨_, h2⟩ | ⟨b, off, c, hv, hc, hx⟩
  · simp at h2
  · rcases h.2 with h2 | ⟨g, cap, cur, hv2, hg, hh, h1, h2, h3, h4⟩
    · rw [h2.1] at hv; cases hv
    · rw [hv2] at hv
      injection hv with e1 e2 e3
      injection e1 with e1
      injection e1 with e1 e4
      subst e1 e3 e4
      refine ⟨g, cap, hv2, hc, hg, (Array.getElem?_eq_some_iff.1 hh).1, hx 0 _ rfl, hx 1 _ rfl⟩
theorem OE.none {w : World} {base : Nat} {v : Value} (h : OE w base v []) : ∃ A c, v = .slice A 0 c := (Rds.of_own h).form
theorem sGet_toD (L : List Ent) (key : Bs) : sGet (toD L) key = (lget L key).getD [] := by
  unfold sGet; rw [atKey_toD]
/-- New, as blocks. -/
structure Mst (w : World) (s lb rb : Nat) (given write : Int) (nb : Option Nat) (nR : Nat) (DR : DW) (Ll : List Ent) (nl : Nat) : Prop where
  sp : Sp w s lb rb given write nb nR DR
  l : VM w lb nl (toD Ll)
theorem Mst.fr {M : List Nat} {w w1 : World} {s lb rb : Nat} {given write : Int} {nb : Option Nat} {nR : Nat} {DR : DW} {Ll : List Ent} {nl : Nat} (h : Mst w s lb rb given write nb nR DR Ll nl) (hf : Fr M w w1) (hs : s ∉ M) (hl : lb ∉ M) (hr : rb ∉ M) : Mst w1 s lb rb given write nb nR DR Ll nl :=
  ⟨h.sp.fr hf hs hr, h.l.fr hf hl⟩

set_option maxRecDepth 100000 in
set_option maxHeartbeats 2000000 in
theorem sure_any (w : World) (hG : G w) : Calls Tryd.prog 4 #[] w fun e w' => e = .returned (.bool true) ∧ Below w.heap.size w w' := by
  have HG := Lib.hid hG; clear hG
  go_enter Tryd.func4, Tryd.ntmps4
  go_wp2_with fail
  refine (new_sp w).mono ?_
  rintro e w1 ⟨rfl, hs, hl, hb, hz⟩
  have HS1 := Lib.hid hs
  have HL1 := Lib.hid hl
  have HB1 := Lib.hid hb
  have HZ1 := Lib.hid hz
  clear hs hl hb hz
  go_wp2_with fail
  have hbw := begin_write (w.heap.size + 2) w.heap.size (w.heap.size + 1) 0 none 0 (.map []) 0 (toD []) w1 (by omega) (by omega) HS1.out HL1.out (by omega)
  rw [show (0 : Int) + 1 = 1 from rfl] at hbw
  refine hbw.mono ?_
  clear hbw
  rintro e w2 ⟨vb, rfl, hvb, hs, hl, hv, hg⟩
  have HF2 := Lib.hid (Fr.of_grown hg)
  have HS2 := Lib.hid hs
  have HL2 := Lib.hid hl
  have HV2 := Lib.hid hv
  have HB2 := Lib.hid (HF2.out.below HB1.out HB1.out.size (by simp))
  have HVB := Lib.hid (show w.heap.size + 3 ≤ vb from HZ1.out ▸ hvb)
  clear hs hl hv hg hvb
  go_wp2_with fail
  have hdo := do_put (w.heap.size + 2) w.heap.size (w.heap.size + 1) 1 1 0 (.map []) (by omega) (by omega) (by omega) [97] [120] (by decide) (by decide) (by decide) vb 0 (by unfold maxLen; omega) (toD []) w2 HS2.out HV2.out
  simp only [reqC, plainQ, has_toD, lget_nil, Option.isSome_none] at hdo
  refine hdo.mono ?_
  clear hdo
  rintro e w3 ⟨rfl, hv, hg⟩
  rw [toD_put SL_nil] at hv
  have HF3 := Lib.hid (Fr.of_grown hg)
  have HV3 := Lib.hid hv
  have HS3 := Lib.hid (HS2.out.fr HF3.out (by simp; have := HVB.out; omega) (by simp; have := HVB.out; omega))
  have HL3 := Lib.hid (HL2.out.fr HF3.out (by simp; have := HVB.out; omega))
  have HB3 := Lib.hid (HF3.out.below HB2.out HB2.out.size (by simp; have := HVB.out; omega))
  clear hv hg
  simp only [replyV_def, repC]
  go_wp2_with fail
  have HK3 := Lib.hid ((Keep.nil w3).new (repC false []) 39)
  refine (begin_busy (w.heap.size + 2) w.heap.size (w.heap.size + 1) 1 1 (some vb) _ (by omega) (HS3.out.blk.alloc _)).mono ?_
  rintro e w4 ⟨rfl, rfl⟩
  have HZ3 := Lib.hid (show vb < w3.heap.size from HV3.out.lt)
  go_wp2_with fail
  refine (end_keep (w.heap.size + 2) w.heap.size (w.heap.size + 1) 1 1 vb 0 (.map []) (by omega) (by omega) (by omega) _ ⟨HS3.out.blk.alloc _, World.ownsMap.alloc HS3.out.reads _⟩ (by omega)).mono ?_
  rintro e w5 ⟨rfl, hs, hg⟩
  have HF5 := Lib.hid (Fr.of_grown hg)
  have HS5 := Lib.hid hs
  have HV5 := Lib.hid ((VM.alloc HV3.out (.cells (repC false []) 39)).fr HF5.out (by simp; have := HVB.out; omega))
  have HK5 := Lib.hid (HK3.out.fr HF5.out (by simp; have := HZ3.out; have := HVB.out; omega))
  have HB5 := Lib.hid (HF5.out.below (below_alloc HB3.out _) (below_alloc HB3.out _).size (by simp))
  clear hs hg
  go_wp2_with fail
  refine (data_any (w.heap.size + 2) vb (w.heap.size + 1) 1 0 none 1 [([97], [120])] (SL_one _ _) (lkey_one (by decide) (by decide)) (by simp) w5 HS5.out.blk (by have := HV5.out; exact this)).mono ?_
  rintro e w6 ⟨v6, rfl, ho, hb⟩
  obtain ⟨g6, c6, rfl, hc6, hg6, hgl6, hx0, hx1⟩ := ho.one
  have HF6 := Lib.hid (Fr.of_below hb)
  have HX0 := Lib.hid hx0
  have HX1 := Lib.hid hx1
  have HS6 := Lib.hid (HS5.out.below hb)
  have HV6 := Lib.hid (HV5.out.below hb)
  have HK6 := Lib.hid (HK5.out.below hb)
  have HB6 := Lib.hid (below_then HB5.out HB5.out.size hb)
  clear ho hb hx0
  have hk := (HK6.out _ (List.mem_singleton.2 rfl)).cell
  simp only [repC] at hk
  go_wp2_with fail
  refine (num_any 10 _ (HG.out.below (Nat.le_refl _) HB6.out).err).mono ?_
  rintro e w7 ⟨rfl, hb⟩
  have hx1b := (hb.cell (p := ⟨g6, 1, none⟩) hgl6).trans hx1
  have HS7 := Lib.hid (HS6.out.below hb)
  have HV7 := Lib.hid (HV6.out.below hb)
  have HB7 := Lib.hid (below_then HB6.out HB6.out.size hb)
  clear hb hx1 hk
  go_wp2_with fail
  refine (end_none (w.heap.size + 2) vb (w.heap.size + 1) 1 0 none 0 (.map []) 1 true (by omega) (by omega) _ HS7.out (by simp [seenE, Maps.has])).mono ?_
  rintro e w8 ⟨rfl, rfl⟩
  go_wp2_with fail
  refine (num_any 6 _ (HG.out.below (Nat.le_refl _) HB7.out).err).mono ?_
  rintro e w8 ⟨rfl, hb⟩
  have HS8 := Lib.hid (HS7.out.below hb)
  have HV8 := Lib.hid (HV7.out.below hb)
  have HB8 := Lib.hid (below_then HB7.out HB7.out.size hb)
  clear hb hx1b
  go_wp2_with fail
  refine (down_any (w.heap.size + 2) vb (w.heap.size + 1) 1 0 none 1 (toD [([97], [120])]) _ HS8.out.blk (by have := HV8.out; exact this)).mono ?_
  rintro e w9 ⟨s9, lb9, rb9, rfl, _, _, _, _, _, _, hs, hv, hb⟩
  have HS9 := Lib.hid hs
  have HV9 := Lib.hid hv
  have HB9 := Lib.hid (below_then HB8.out HB8.out.size hb)
  clear hs hv hb
  go_wp2_with fail
  refine (data_any s9 lb9 rb9 0 0 none 1 [([97], [120])] (SL_one _ _) (lkey_one (by decide) (by decide)) (by simp) w9 HS9.out.blk HV9.out).mono ?_
  rintro e w10 ⟨v10, rfl, ho, hb⟩
  obtain ⟨g10, c10, rfl, hc10, hg10, hgl10, -, -⟩ := ho.one
  have HB10 := Lib.hid (below_then HB9.out HB9.out.size hb)
  clear ho hb
  go_wp2
  all_goals go_ret
  exact ⟨rfl, HB10.out⟩
end Go.Proofs.YtbkgcfoilgggjaaDoor
