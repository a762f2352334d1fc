/- pack: the writers and the reader. -/
import Derived.Test.YtbkgcfoilgggjaaDoorVarint
set_option linter.unusedVariables false
set_option linter.unusedSimpArgs false
namespace Go.Proofs.YtbkgcfoilgggjaaDoor
open Go.RowKit

theorem vbytesF_len : ∀ (k : Nat) (v : Int), (vbytesF k v).length ≤ k
  | 0, _ => by simp [vbytesF]
  | k + 1, v => by
    unfold vbytesF
    split
    · simp; exact vbytesF_len k _
    · simp
theorem vbytes_len (v : Int) : (vbytes v).length ≤ 10 := vbytesF_len 10 v

set_option maxHeartbeats 400000 in
theorem packNum_any (v : Value) (l : Bs) (n : Int) (w : World) (h : RB w v l) (hl : l.length ≤ 140737488355000) (h0 : 0 ≤ n) (h1 : n < 18446744073709551616) :
    Calls Tryd.prog 59 #[v, .int .u64 n] w fun e w' => ∃ v', e = .returned v' ∧ OB w' w.heap.size v' (l ++ vbytes n) ∧ Below w.heap.size w w' := by
  have H := Lib.hid h
  have H1 := Lib.hid h1
  clear h h1
  go_enter Tryd.func59, Tryd.ntmps59
  go_wp2_with fail
  refine (put_any _ _ _ _ H.out hl h0 H1.out).mono ?_
  rintro e w1 ⟨v1, rfl, ho, hb⟩
  go_wp2_with fail
  go_ret
  exact ⟨v1, rfl, ho, hb⟩

set_option maxHeartbeats 400000 in
theorem packByte_any (v : Value) (l : Bs) (c : Int) (w : World) (h : RB w v l) (hl : l.length ≤ 140737488355000) (h0 : 0 ≤ c) (h1 : c < 256) :
    Calls Tryd.prog 49 #[v, .int .u8 c] w fun e w' => ∃ v', e = .returned v' ∧ OB w' w.heap.size v' (l ++ [u8 c]) ∧ Below w.heap.size w w' := by
  have H := Lib.hid h
  clear h
  go_enter Tryd.func49, Tryd.ntmps49
  go_wp2_with fail
  refine (clone_any _ _ _ H.out (by omega)).mono ?_
  rintro e w1 ⟨v1, rfl, ho, hb⟩
  have HO := Lib.hid ho; clear ho
  have hsz := hb.size
  go_wp2_with (at_builtin; refine wpList_pushB (.tmp 6) (.tmp 8) w.heap.size _ _ _ HO.out h0 h1 ?_ hb hsz rfl rfl rfl rfl ?_; (omega); intro v' w' ho' hb' hg')
  go_ret
  exact ⟨v', rfl, ho', hb'⟩

set_option maxHeartbeats 400000 in
theorem packBytes_any (v y : Value) (l m : Bs) (w : World) (h : RB w v l) (hm : RB w y m) (hl : l.length + m.length ≤ 140737488355000) :
    Calls Tryd.prog 60 #[v, y] w fun e w' => ∃ v', e = .returned v' ∧ OB w' w.heap.size v' (l ++ vbytes m.length ++ m) ∧ Below w.heap.size w w' := by
  obtain ⟨A, c, rfl⟩ := hm.form
  have H := Lib.hid h
  have HM := Lib.hid hm
  clear h hm
  go_enter Tryd.func60, Tryd.ntmps60
  go_wp2_with fail
  refine (put_any _ _ _ _ H.out (by omega) (by omega) (by omega)).mono ?_
  rintro e w1 ⟨v1, rfl, ho, hb⟩
  have HO := Lib.hid ho; clear ho
  have HB := Lib.hid hb; clear hb
  have hv := vbytes_len m.length
  go_wp2_with (at_builtin; refine wpList_appB (.tmp 9) (.tmp 10) w.heap.size _ _ HO.out _ _ (HM.out.below HB.out) ?_ HB.out.size rfl rfl rfl rfl ?_; (simp; omega); intro v' w' ho' hg')
  have HB2 := Lib.hid (HB.out.grown hg' HB.out.size (fun k hk => HO.out.base_le k hk))
  clear hg'
  go_ret
  exact ⟨v', rfl, ho', HB2.out⟩

/-- The reader at block g: what is left, and whether something was wrong. -/
def VB (v : Value) (l : Bs) (U : Nat) : Prop := l ≠ [] → ∀ k, v.ownBlock = some k → k < U
def Rdr (w : World) (g : Nat) (l : Bs) (bad : Bool) (U : Nat) : Prop := ∃ v, Blk w g #[v, .bool bad] 122 ∧ RB w v l ∧ VB v l U

set_option maxHeartbeats 400000 in
theorem packNew_any (v : Value) (l : Bs) (w : World) (h : RB w v l) (hl : l.length ≤ 140737488355000) :
    Calls Tryd.prog 44 #[v] w fun e w' => ∃ g, e = .returned (.pointer (some ⟨g, 0, none⟩)) ∧ w.heap.size ≤ g ∧ Rdr w' g l false g ∧ Below w.heap.size w w' := by
  have H := Lib.hid h
  clear h
  go_enter Tryd.func44, Tryd.ntmps44
  go_wp2_with fail
  refine (clone_any _ _ _ H.out (by omega)).mono ?_
  rintro e w1 ⟨v1, rfl, ho, hb⟩
  obtain ⟨A, c, rfl⟩ := ho.rb.form
  have HO := Lib.hid ho; clear ho
  have HB := Lib.hid hb; clear hb
  go_wp2_with fail
  go_ret
  exact ⟨_, rfl, HB.out.size, ⟨_, Blk.new _ _ _, HO.out.rb.alloc _, fun _ k hk => (World.ownsRow.lt HO.out k hk).2⟩, HB.out.alloc HB.out.size _⟩
end Go.Proofs.YtbkgcfoilgggjaaDoor
