/- strconv.FormatUint at base 10; references as texts. -/
import Derived.Test.YtjklpohbmockjaaDoorRel
import Derived.Test.YtjklpohbmockjaaDoorCapsW
import Derived.Test.YtjklpohbmockjaaDoorShelf
import Derived.Lib.ItoaMem
import Derived.WalkSmall
import Derived.Deep.RegionHeld3
set_option linter.unusedVariables false
set_option linter.unusedSimpArgs false
namespace Go.Proofs.YtjklpohbmockjaaDoor
open Go.RowKit Go.Sort Go.Lib

theorem grow_below (w : World) (k : Nat) (os : Array Obj) : Below w.heap.size w (grow (w.drewN k) os) := by
  refine ⟨rfl, rfl, rfl, by simp [grow], fun i hi => ?_⟩
  show (w.heap ++ os)[i]? = w.heap[i]?
  exact Array.getElem?_append_left hi
abbrev Tab (w : World) : Prop := Lib.TabIs Tryd.prog w "internal/strconv.uint64pow10" .u64 Lib.pow10Tab
theorem Tab.below {B : Nat} {w w' : World} (h : Tab w) (hb : Below B w w') (hB : 4 < B) : Tab w' :=
  var?_below hb (g := 4) (by kernel_rfl) hB h

theorem holds_zero0 (w : World) (T : TypeId) (nd : Nat) (hs : nd ≤ 24) : Holds (fun (b : UInt8) => Value.int .u8 (b.toNat : Int)) (w.alloc (.cells zeros24 T)) w.heap.size 0 (Array.replicate nd (0 : UInt8)) := fun j hj => by
  have hj' : j < nd := by simpa using hj
  refine ⟨?_, World.frozen?_alloc_new _ _ _ _⟩
  rw [World.cell?_alloc_new, zeros24_at _ (by omega), getElem!_pos _ j hj]
  simp

set_option maxHeartbeats 6400000 in
set_option maxRecDepth 100000 in
theorem fmtUint_in (u : Nat) (w : World) (hu64 : u < 18446744073709551616) (htab : Tab w) :
    Calls Tryd.prog 43 #[.int .u64 u, .int .i64 10] w fun e w' => e = .returned (.string ⟨(Lib.decDigits u).toArray⟩) ∧ Below w.heap.size w w' := by
  by_cases hs : u < 100
  · go_enter Tryd.func43, Tryd.ntmps43
    go_wp2_with (go_at_call 55; refine (Tryd.internal_strconv_small u hs _).mono ?_; rintro e w' ⟨rfl, rfl⟩)
    go_ret
    exact ⟨rfl, Below.refl _ _⟩
  · have hu1 : 1 ≤ u := by omega
    have hnd20 : Lib.nDigits u ≤ 20 := by have := Lib.numDigits_eq u hu1 hu64; split at this <;> omega
    have hal : Tryd.prog.arrayLen 111 = 24 := by kernel_rfl
    have hel : Tryd.prog.underlying 111 = some (.array (Tryd.prog.arrayLen 111) (Tryd.prog.elem 111)) := by kernel_rfl
    have hel2 : Tryd.prog.elem 111 = 5 := by kernel_rfl
    have hsl1 : ∀ W, (Instr.sliceAt 111 (.pointer (some ⟨w.heap.size, 0, none⟩)) none (some (.int .i64 (Lib.nDigits u : Int))) none).run Tryd.prog W = .ok (.slice (some ⟨w.heap.size, 0, none⟩) (Lib.nDigits u) 24) W := fun W => by
      obtain ⟨i0, hi, hz0, hz1, hz2⟩ := info_parts Tu8
      rw [run_sliceAt_array_h W 111 ⟨w.heap.size, 0, none⟩ hel .i64 (Lib.nDigits u : Int) (by omega) (by rw [hal]; omega), hel2, run_sizeOf hi, hz1, hal]
      simp [slicedAt, Addr.add]
    have hH0 := holds_zero0 w 111 (Lib.nDigits u) (by omega)
    have hfmt := Tryd.internal_strconv_formatBase10 w.heap.size 0 24 u (Array.replicate (Lib.nDigits u) 0) (w.alloc (.cells Lib.zeros24 111)) hH0 (by rw [Array.size_replicate]; exact Lib.lt_pow_nDigits u) hu64 (by rw [Array.size_replicate]; omega)
    rw [Array.size_replicate] at hfmt
    have HH0 := Lib.hid hH0
    have HT := Lib.hid htab
    have HF := Lib.hid hfmt
    clear hH0 hal hel hel2 htab hfmt
    have HU := Lib.hid hu64
    clear hu64
    go_enter Tryd.func43, Tryd.ntmps43
    go_wp2_with (first
      | (go_at_call 56; refine (Tryd.internal_strconv_numDigits u hu1 HU.out _ (Lib.tabIs_alloc HT.out _)).mono ?_; rintro e w' ⟨rfl, rfl⟩))
    refine HF.out.mono ?_
    rintro e w' ⟨rfl, k, v', dk, rfl, hF⟩
    have hcv : (convert 38 9 (.slice (some ⟨w.heap.size, 0, none⟩) (Lib.nDigits u) 24)).run Tryd.prog ((putRow (fun (b : UInt8) => Value.int .u8 (b.toNat : Int)) (w.alloc (.cells Lib.zeros24 111)) w.heap.size 0 dk).drewN k) = .ok (.string ⟨(Lib.decDigits u).toArray⟩) ((putRow (fun (b : UInt8) => Value.int .u8 (b.toNat : Int)) (w.alloc (.cells Lib.zeros24 111)) w.heap.size 0 dk).drewN k) := by
      have h := run_convert_bytes_back (P := Tryd.prog) ((putRow (fun (b : UInt8) => Value.int .u8 (b.toNat : Int)) (w.alloc (.cells Lib.zeros24 111)) w.heap.size 0 dk).drewN k) 38 9 5 ⟨w.heap.size, 0, none⟩ 24 (Lib.decDigits u) Tryd.underlying38 Tryd.underlying5 Tryd.underlying9 (fun j hj => by
        rw [Lib.add_plain, World.cell?_drewN, Lib.row_is_numeral hF j hj, ← Nat.zero_add j]
        have := cell?_putRow (fun (b : UInt8) => Value.int .u8 (b.toNat : Int)) _ w.heap.size 0 _ dk HH0.out (by rw [hF.size, Array.size_replicate]) j (by rw [hF.size]; rw [Lib.decDigits_length] at hj; exact hj)
        simpa using this)
      rw [Lib.decDigits_length] at h
      exact h
    go_wp2
    go_ret
    refine ⟨rfl, ?_⟩
    rw [alloc_eq_grow]
    obtain ⟨os', _, e⟩ := putRow_grow_new (fun (b : UInt8) => Value.int .u8 (b.toNat : Int)) w #[.cells Lib.zeros24 111] w.heap.size 0 dk (Nat.le_refl _)
    rw [e]
    exact grow_below w k os'

set_option maxHeartbeats 400000 in
theorem fmtUint_any (u : Int) (w : World) (h0 : 0 ≤ u) (h1 : u < 18446744073709551616) (htab : Tab w) :
    Calls Tryd.prog 34 #[.int .u64 u, .int .i64 10] w fun e w' => e = .returned (.string (bs (Lib.decDigits u.toNat))) ∧ Below w.heap.size w w' := by
  obtain ⟨u, rfl⟩ := Int.eq_ofNat_of_zero_le h0
  have HT := Lib.hid htab; clear htab
  have H1 := Lib.hid h1; clear h1
  go_enter Tryd.func34, Tryd.ntmps34
  go_wp2_with fail
  refine (fmtUint_in u _ (by have := H1.out; omega) HT.out).mono ?_
  rintro e w' ⟨rfl, hb⟩
  go_wp2
  go_ret
  exact ⟨rfl, hb⟩

set_option maxHeartbeats 400000 in
theorem itoa_any (n : Int) (w : World) (h0 : 0 ≤ n) (h1 : n < 4294967296) (htab : Tab w) :
    Calls Tryd.prog 33 #[.int .i64 n] w fun e w' => e = .returned (.string (bs (Lib.decDigits n.toNat))) ∧ Below w.heap.size w w' := by
  refine (Tryd.strconv_Itoa n (by omega) (by omega) w htab).mono ?_
  rintro e w' ⟨rfl, k, os, rfl⟩
  refine ⟨?_, grow_below _ _ _⟩
  obtain ⟨u, rfl⟩ := Int.eq_ofNat_of_zero_le h0
  rw [Lib.itoa_nonneg]
  rfl

/-- A reference's text. -/
def refText (s g : Int) : Bs := Lib.decDigits s.toNat ++ [46] ++ Lib.decDigits g.toNat

theorem bs_append (A B : Bs) : bs A ++ bs B = bs (A ++ B) := by unfold bs; exact ByteArray.mk_append_mk A B
@[go_sem high] theorem run_add_bs {P : Program} (w : World) (A B : Bs) (h : A.length + B.length ≤ 9223372036854775807) : (Op.stringOp .add (bs A) (bs B)).run P w = .ok (.string (bs (A ++ B))) w := by
  rw [run_string_add_sum _ _ _ (by rw [bs_size, bs_size]; exact h), bs_append]
@[go_sem high] theorem run_add_dot {P : Program} (w : World) (A : Bs) (h : A.length + 1 ≤ 9223372036854775807) : (Op.stringOp .add (bs A) ⟨#[46]⟩).run P w = .ok (.string (bs (A ++ [46]))) w := run_add_bs w A [46] h
theorem nDigits_le {u k : Nat} (hk : 1 ≤ k) (h : u < 10 ^ k) : Lib.nDigits u ≤ k := by
  induction k generalizing u with
  | zero => omega
  | succ k ih =>
    rw [Lib.nDigits]
    split
    · omega
    · rename_i h10
      rcases Nat.eq_zero_or_pos k with rfl | hk0
      · simp at h; omega
      · have := ih (u := u / 10) hk0 (by rw [Nat.pow_succ] at h; omega)
        omega
theorem digits_len {u : Nat} (h : u < 18446744073709551616) : (Lib.decDigits u).length ≤ 20 := by
  rw [Lib.decDigits_length]; exact nDigits_le (by omega) (by omega)

set_option maxRecDepth 100000 in
set_option maxHeartbeats 1000000 in
theorem name_in (s g : Int) (w : World) (hm : mayB s g = true) (htab : Tab w) (hT : 4 < w.heap.size) :
    Calls Tryd.prog 24 #[.agg #[.int .i64 s, .int .u64 g]] w fun e w' => e = .returned (.string (bs (refText s g))) ∧ Below w.heap.size w w' := by
  simp only [mayB, decide_eq_true_eq] at hm
  obtain ⟨h1, h2, h3, h4⟩ := hm
  have HT := Lib.hid htab; clear htab
  have hl1 : (Lib.decDigits s.toNat).length + 1 ≤ 9223372036854775807 := by have := digits_len (u := s.toNat) (by omega); omega
  have hl2 : (Lib.decDigits s.toNat).length + 1 + (Lib.decDigits g.toNat).length ≤ 9223372036854775807 := by
    have := digits_len (u := s.toNat) (by omega); have := digits_len (u := g.toNat) (by omega); omega
  go_enter Tryd.func24, Tryd.ntmps24
  go_wp2_with fail
  refine wp_region_held_drew (S := fun W => Blk W w.heap.size #[.int .i64 s, .int .u64 g] 29) (by kernel_rfl) (Blk.new _ _ _).drew (fun hHeld => ?_)
  refine take_first (i := 0) (v := ?_) rfl (by kernel_rfl) (by kernel_rfl) (by kernel_rfl) rfl (fun _ _ _ h => h) (by assumption) ?_ ?_
  rotate_left
  · intro w' hSw
    have hx := Blk.cell hSw
    go_simp
    with_reducible rfl
  simp only [Act.put, List.setIfInBounds_toArray, List.set_cons_zero, List.set_cons_succ]
  refine take_first (i := 1) (v := ?_) rfl (by kernel_rfl) (by kernel_rfl) (by kernel_rfl) rfl (fun _ _ _ h => h) (by assumption) ?_ ?_
  rotate_left
  · intro w' hSw
    have hx := Blk.cell hSw
    go_simp
    with_reducible rfl
  simp only [Act.put, List.setIfInBounds_toArray, List.set_cons_zero, List.set_cons_succ]
  refine take_first (i := 4) (v := ?_) rfl (by kernel_rfl) (by kernel_rfl) (by kernel_rfl) rfl (fun _ _ _ h => h) (by assumption) ?_ ?_
  rotate_left
  · intro w' hSw
    have hx := Blk.cell hSw
    go_simp
    with_reducible rfl
  simp only [Act.put, List.setIfInBounds_toArray, List.set_cons_zero, List.set_cons_succ]
  refine take_first (i := 5) (v := ?_) rfl (by kernel_rfl) (by kernel_rfl) (by kernel_rfl) rfl (fun _ _ _ h => h) (by assumption) ?_ ?_
  rotate_left
  · intro w' hSw
    have hx := Blk.cell hSw
    go_simp
    with_reducible rfl
  simp only [Act.put, List.setIfInBounds_toArray, List.set_cons_zero, List.set_cons_succ]
  refine wpAnyH_one (i := 2) rfl (by kernel_rfl) rfl fun K hK => ?_
  have HK := Lib.hid hK; clear hK
  go_simp
  refine (itoa_any s _ h1 (by omega) (by exact HT.out.below (below_a1 w _).drew hT)).mono ?_
  rintro e w2 ⟨rfl, hb2⟩
  have HX2 := Lib.hid (hHeld.below hb2)
  have HB2 := Lib.hid ((below_a1 w (.cells #[.int .i64 s, .int .u64 g] 29)).trans ((undrew hb2).mono (by show _ ≤ (w.alloc _).heap.size; simp)))
  clear hHeld hb2
  refine HK.out _ _ HX2.out ?_
  clear HK
  try simp only [Act.put, List.setIfInBounds_toArray, List.set_cons_zero, List.set_cons_succ]
  refine take_first (i := 3) (v := ?_) rfl (by kernel_rfl) (by kernel_rfl) (by kernel_rfl) rfl (fun _ _ _ h => h) HX2.out ?_ ?_
  rotate_left
  · intro w' hSw
    go_simp
    with_reducible rfl
  simp only [Act.put, List.setIfInBounds_toArray, List.set_cons_zero, List.set_cons_succ]
  refine wpAnyH_forced [6, 7, 8] [_, _, _] _ _ _ rfl (by kernel_rfl) ?_
  refine wpListH_plain rfl fun K hK => ?_
  have HK := Lib.hid hK; clear hK
  go_simp
  refine (fmtUint_any g _ (by omega) (by omega) (by exact HT.out.below HB2.out hT)).mono ?_
  rintro e w3 ⟨rfl, hb3⟩
  have HX3 := Lib.hid (HX2.out.below hb3)
  have HB3 := Lib.hid (below_then HB2.out HB2.out.size hb3)
  clear hb3
  refine HK.out _ _ HX3.out ?_
  clear HK
  refine wpListH_plain rfl fun K hK => ?_
  have HK := Lib.hid hK; clear hK
  go_simp
  refine HK.out _ _ HX3.out ?_
  clear HK
  refine wpListH_plain rfl fun K hK => ?_
  have HK := Lib.hid hK; clear hK
  go_simp
  refine HK.out _ _ HX3.out ?_
  clear HK
  refine wpListH_nil ?_
  go_wp2
  go_ret
  exact ⟨by simp [refText], HB3.out⟩
end Go.Proofs.YtjklpohbmockjaaDoor
