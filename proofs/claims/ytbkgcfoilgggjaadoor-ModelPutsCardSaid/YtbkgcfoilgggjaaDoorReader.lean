/- pack.Reader: its methods. -/
import Derived.Test.YtbkgcfoilgggjaaDoorPack
import Derived.Test.YtbkgcfoilgggjaaDoorVarLaw
set_option linter.unusedVariables false
set_option linter.unusedSimpArgs false
namespace Go.Proofs.YtbkgcfoilgggjaaDoor
open Go.RowKit

/-- The bytes live on where a block is written that holds no bytes. -/
theorem RB.far {w w1 : World} {g : Nat} {x y : Value} {t : TypeId} {v : Value} {l : Bs} (h : RB w v l) (hb : Blk w g #[x, y] t) (ht : t ≠ 5) (hx : ∀ n, x ≠ .int .u8 n) (hy : ∀ n, y ≠ .int .u8 n) (hg : w.grownBy w1 (some g)) : RB w1 v l := by
  refine ⟨h.1, h.2.1, ?_⟩
  rcases h.2.2 with h3 | ⟨b, off, c, hv, hc, hq⟩
  · exact .inl h3
  · refine .inr ⟨b, off, c, hv, hc, fun j u hj => ?_⟩
    have hcell := hq j u hj
    refine hg.cell hcell ?_
    intro e
    simp only [Option.some.injEq] at e
    subst e
    rw [hb.cell] at hcell
    have hu : ∃ n, u = .int .u8 n := by
      simp only [bc, List.getElem?_map] at hj
      cases hl : l[j]? with
      | none => rw [hl] at hj; simp at hj
      | some q => rw [hl] at hj; simp at hj; exact ⟨_, hj.symm⟩
    obtain ⟨n, rfl⟩ := hu
    match off + j, hcell with
    | 0, hcell => simp at hcell; exact hx n hcell
    | 1, hcell => simp at hcell; exact hy n hcell
    | k + 2, hcell => simp at hcell
theorem Rdr.rb {w w1 : World} {g : Nat} {v : Value} {b : Bool} {l : Bs} (h : RB w v l) (hb : Blk w g #[v, .bool b] 122) (hg : w.grownBy w1 (some g)) : RB w1 v l := by
  obtain ⟨A, c, e⟩ := h.form
  exact RB.far h hb (by decide) (by rw [e]; simp) (by simp) hg
theorem RB.far' {w w1 : World} {g : Nat} {v' v : Value} {b : Bool} {l l' : Bs} (h : RB w v l) (h' : RB w v' l') (hb : Blk w g #[v', .bool b] 122) (hg : w.grownBy w1 (some g)) : RB w1 v l := by
  obtain ⟨A, c, e⟩ := h'.form
  exact RB.far h hb (by decide) (by rw [e]; simp) (by simp) hg

set_option maxHeartbeats 400000 in
theorem fail_any (g : Nat) (v : Value) (b : Bool) (w : World) (hb : Blk w g #[v, .bool b] 122) :
    Calls Tryd.prog 56 #[.pointer (some ⟨g, 0, none⟩)] w fun e w' => e = .returned (.tuple #[]) ∧ (∀ U, Rdr w' g [] true U) ∧ w.grownBy w' (some g) := by
  have h0 : w.cell? ⟨g, 0, none⟩ = some v := by rw [hb.cell]; rfl
  have h1 : w.cell? ⟨g, 1, none⟩ = some (.bool b) := by rw [hb.cell]; rfl
  have f0 : w.frozen? ⟨g, 0, none⟩ = false := hb.frozen 0
  have f1 : w.frozen? ⟨g, 1, none⟩ = false := hb.frozen 1
  have HB := Lib.hid hb
  clear hb
  go_enter Tryd.func56, Tryd.ntmps56
  go_wp2
  go_end0
  refine ⟨rfl, fun U => ⟨.slice none 0 0, ?_, RB.nil _, fun h => absurd rfl h⟩, grown_trans (grown_setCell _ _ _ _) (grown_setCell _ _ _ _)⟩
  exact (HB.out.set 0 _).set 1 _

set_option maxHeartbeats 400000 in
theorem rdByte_any (g : Nat) (l : Bs) (b : Bool) (w : World) (U : Nat) (h : Rdr w g l b U) :
    Calls Tryd.prog 45 #[.pointer (some ⟨g, 0, none⟩)] w fun e w' => e = .returned (.int .u8 (l.headD 0).toNat) ∧ Rdr w' g l.tail (b || l.isEmpty) U ∧ w.grownBy w' (some g) := by
  obtain ⟨v, hb, hr, hvb⟩ := h
  have HVB := Lib.hid hvb; clear hvb
  have h0 : w.cell? ⟨g, 0, none⟩ = some v := by rw [hb.cell]; rfl
  have f0 : w.frozen? ⟨g, 0, none⟩ = false := hb.frozen 0
  cases l with
  | nil =>
    obtain ⟨A, c, rfl⟩ := hr.form
    have HB := Lib.hid hb; clear hb
    have HR := Lib.hid hr; clear hr
    go_enter Tryd.func45, Tryd.ntmps45
    go_wp2_with fail
    refine (fail_any _ _ _ _ HB.out).mono ?_
    rintro e w1 ⟨rfl, hr1, hg1⟩
    have HR1 := Lib.hid hr1; clear hr1
    go_wp2
    go_ret
    exact ⟨rfl, by simpa using HR1.out U, hg1⟩
  | cons x l =>
    rcases hr.open with ⟨rfl, h⟩ | ⟨bb, off, c, rfl, hc, hx⟩
    · exact absurd h (by simp)
    · have hcell := hx 0 (by simp)
      have hlen := hr.len
      simp only [List.length_cons] at hlen hc
      simp only [List.getElem_cons_zero, Nat.add_zero] at hcell
      have HB := Lib.hid hb; clear hb
      have HR := Lib.hid hr; clear hr hx
      simp only [List.length_cons] at h0
      go_enter Tryd.func45, Tryd.ntmps45
      go_wp2_with (refine wpList_loB (.tmp 24) (.const (.int .i64 1)) _ _ 1 .i64 HR.out ?_ rfl rfl rfl rfl ?_; (simp); intro v' hv' hf hob; obtain ⟨A', c', rfl⟩ := hf; have HV := Lib.hid hv'; have HOB := Lib.hid hob; clear hv' hob)
      go_ret
      have hg := grown_setCell w g 0 (.slice A' ((x :: l).length - 1) c')
      refine ⟨by simp, ⟨.slice A' l.length c', by simpa using HB.out.set 0 (.slice A' l.length c'), ?_⟩, by simpa using hg⟩
      exact ⟨RB.far' HV.out HR.out HB.out hg, fun hne k hk => HVB.out (by simp) k (HOB.out ▸ hk)⟩

def rNum (most : Int) (l : Bs) (b : Bool) : Int × Bs × Bool :=
  let r := vget l
  if r.2.2 ≠ 0 ∨ r.1 > most then (0, [], true) else (r.1, l.drop r.2.1.toNat, b)

set_option maxHeartbeats 1000000 in
theorem rdNum_any (g : Nat) (l : Bs) (b : Bool) (most : Int) (w : World) (U : Nat) (h : Rdr w g l b U) :
    Calls Tryd.prog 57 #[.pointer (some ⟨g, 0, none⟩), .int .u64 most] w fun e w' => e = .returned (.int .u64 (rNum most l b).1) ∧ Rdr w' g (rNum most l b).2.1 (rNum most l b).2.2 U ∧ w.grownBy w' (some g) := by
  obtain ⟨v, hb, hr, hvb⟩ := h
  have HVB := Lib.hid hvb; clear hvb
  have h0 : w.cell? ⟨g, 0, none⟩ = some v := by rw [hb.cell]; rfl
  have f0 : w.frozen? ⟨g, 0, none⟩ = false := hb.frozen 0
  have HB := Lib.hid hb; clear hb
  have hlen := hr.len
  have HR := Lib.hid hr; clear hr
  obtain ⟨n, m, er, hq⟩ : ∃ n m er, vget l = (n, m, er) := ⟨_, _, _, rfl⟩
  have HQ := Lib.hid hq; clear hq
  by_cases hc : er = 0
  · subst hc
    obtain ⟨hv0, hm1, hm2⟩ := vget_ok HQ.out
    obtain ⟨m, rfl⟩ := Int.eq_ofNat_of_zero_le (show 0 ≤ m by omega)
    by_cases hn : n > most
    · have hE := Lib.hid (show rNum most l b = (0, [], true) by unfold rNum; rw [HQ.out]; simp [hn])
      go_enter Tryd.func57, Tryd.ntmps57
      go_wp2_with fail
      refine (get_any _ _ _ HR.out).mono ?_
      rintro e w1 ⟨he, rfl⟩
      rw [HQ.out] at he
      subst he
      simp only [g3, errV_zero]
      go_wp2_with fail
      refine (fail_any _ _ _ _ HB.out).mono ?_
      rintro e w1 ⟨rfl, hr1, hg1⟩
      have HR1 := Lib.hid hr1; clear hr1
      go_wp2
      go_ret
      rw [hE.out]
      exact ⟨rfl, HR1.out U, hg1⟩
    · have hE := Lib.hid (show rNum most l b = (n, l.drop m, b) by unfold rNum; rw [HQ.out]; simp; omega)
      go_enter Tryd.func57, Tryd.ntmps57
      go_wp2_with fail
      refine (get_any _ _ _ HR.out).mono ?_
      rintro e w1 ⟨he, rfl⟩
      rw [HQ.out] at he
      subst he
      simp only [g3, errV_zero]
      go_wp2_with (refine wpList_loB (.tmp 32) (.tmp 33) _ _ m .i64 HR.out ?_ rfl rfl rfl rfl ?_; (omega); intro v' hv' hf hob; obtain ⟨A', c', rfl⟩ := hf; have HV := Lib.hid hv'; have HOB := Lib.hid hob; clear hv' hob)
      go_ret
      rw [hE.out]
      refine ⟨by simp, ⟨.slice A' (l.length - m) c', by simpa using HB.out.set 0 (.slice A' (l.length - m) c'), ?_⟩, by simpa using grown_setCell _ g 0 (.slice A' (l.length - m) c')⟩
      exact ⟨RB.far' HV.out HR.out HB.out (grown_setCell _ _ _ _), fun hne k hk => HVB.out (by intro e; subst e; simp at hne) k (HOB.out ▸ hk)⟩
  · have hE := Lib.hid (show rNum most l b = (0, [], true) by unfold rNum; rw [HQ.out]; simp [hc])
    go_enter Tryd.func57, Tryd.ntmps57
    go_wp2_with fail
    refine (get_any _ _ _ HR.out).mono ?_
    rintro e w1 ⟨he, rfl⟩
    rw [HQ.out] at he
    subst he
    simp only [g3, errV_ne hc]
    go_wp2_with fail
    refine (fail_any _ _ _ _ HB.out).mono ?_
    rintro e w1 ⟨rfl, hr1, hg1⟩
    have HR1 := Lib.hid hr1; clear hr1
    go_wp2
    go_ret
    rw [hE.out]
    exact ⟨rfl, HR1.out U, hg1⟩

def doneE (b : Bool) (l : Bs) : Int := if b = false ∧ l = [] then 0 else 3
set_option maxHeartbeats 400000 in
theorem rdDone_any (g : Nat) (l : Bs) (b : Bool) (w : World) (U : Nat) (h : Rdr w g l b U) :
    Calls Tryd.prog 48 #[.pointer (some ⟨g, 0, none⟩)] w fun e w' => e = .returned (errV (doneE b l)) ∧ w' = w := by
  obtain ⟨v, hb, hr, hvb⟩ := h
  have HVB := Lib.hid hvb; clear hvb
  obtain ⟨A, c, rfl⟩ := hr.form
  have h0 : w.cell? ⟨g, 0, none⟩ = some (.slice A l.length c) := by rw [hb.cell]; rfl
  have h1 : w.cell? ⟨g, 1, none⟩ = some (.bool b) := by rw [hb.cell]; rfl
  have HB := Lib.hid hb; clear hb
  have HR := Lib.hid hr; clear hr
  cases b with
  | true =>
    go_enter Tryd.func48, Tryd.ntmps48
    go_wp2
    go_ret
    exact ⟨rfl, rfl⟩
  | false =>
    cases l with
    | nil =>
      go_enter Tryd.func48, Tryd.ntmps48
      go_wp2
      go_ret
      exact ⟨rfl, rfl⟩
    | cons x l =>
      simp only [List.length_cons] at h0
      go_enter Tryd.func48, Tryd.ntmps48
      go_wp2
      go_ret
      exact ⟨by simp [doneE, errV], rfl⟩

theorem rNum_range (most : Int) (l : Bs) (b : Bool) (hm : 0 ≤ most) : 0 ≤ (rNum most l b).1 ∧ (rNum most l b).1 ≤ most := by
  unfold rNum
  obtain ⟨n, m, er, hq⟩ : ∃ n m er, vget l = (n, m, er) := ⟨_, _, _, rfl⟩
  rw [hq]
  simp only
  split
  · exact ⟨by simp, by simpa using hm⟩
  · rename_i h
    have h1 : er = 0 := by apply Classical.byContradiction; intro h2; exact h (.inl h2)
    subst h1
    have := vget_ok hq
    simp only
    constructor
    · exact this.1
    · apply Classical.byContradiction; intro h2; exact h (.inr (by omega))

def rBytes (most : Int) (l : Bs) (b : Bool) : Bs × Bs × Bool :=
  let r := rNum most l b
  if r.1 > r.2.1.length then ([], [], true) else (r.2.1.take r.1.toNat, r.2.1.drop r.1.toNat, r.2.2)

theorem RB.grown_other {w w1 : World} {g : Nat} {v : Value} {b : Bool} {v' : Value} {l l' : Bs} (h : RB w v l) (h' : RB w v' l') (hb : Blk w g #[v', .bool b] 122) (hg : w.grownBy w1 (some g)) : RB w1 v l := RB.far' h h' hb hg

set_option maxHeartbeats 1000000 in
theorem rdBytes_any (g : Nat) (l : Bs) (b : Bool) (most : Int) (w : World) (U : Nat) (h : Rdr w g l b U) (hm : 0 < most) (hm2 : most ≤ 140737488355000) :
    Calls Tryd.prog 58 #[.pointer (some ⟨g, 0, none⟩), .int .i64 most] w fun e w' => ∃ v', e = .returned v' ∧ OB w' w.heap.size v' (rBytes most l b).1 ∧ Rdr w' g (rBytes most l b).2.1 (rBytes most l b).2.2 U ∧ w.grownBy w' (some g) := by
  obtain ⟨n, l1, b1, hq⟩ : ∃ n l1 b1, rNum most l b = (n, l1, b1) := ⟨_, _, _, rfl⟩
  have hr := rNum_range most l b (by omega)
  rw [hq] at hr
  have hn0 : 0 ≤ n := hr.1
  have hn1 : n ≤ most := hr.2
  clear hr
  have HH := Lib.hid h
  have hg0 : g < w.heap.size := by obtain ⟨v, hb, _, _⟩ := h; exact hb.lt
  clear h
  have HQ := Lib.hid hq; clear hq
  obtain ⟨n, rfl⟩ := Int.eq_ofNat_of_zero_le hn0
  by_cases hc : (n : Int) > l1.length
  · have hE := Lib.hid (show rBytes most l b = ([], [], true) by unfold rBytes; rw [HQ.out]; simp; omega)
    go_enter Tryd.func58, Tryd.ntmps58
    go_wp2_with fail
    refine (rdNum_any _ _ _ _ _ U HH.out).mono ?_
    rintro e w1 ⟨he, hr1, hg1⟩
    rw [HQ.out] at he hr1
    subst he
    obtain ⟨v1, hb1, hv1, hvb1⟩ := hr1
    have HVB := Lib.hid hvb1; clear hvb1
    obtain ⟨A, c, rfl⟩ := hv1.form
    have h0 : w1.cell? ⟨g, 0, none⟩ = some (.slice A l1.length c) := by rw [hb1.cell]; rfl
    have HB := Lib.hid hb1; clear hb1
    go_wp2_with fail
    refine (fail_any _ _ _ _ HB.out).mono ?_
    rintro e w2 ⟨rfl, hr2, hg2⟩
    have HR1 := Lib.hid hr2; clear hr2
    go_wp2
    go_ret
    rw [hE.out]
    exact ⟨_, rfl, OB.nil _ _, HR1.out U, grown_trans hg1 hg2⟩
  · have hE := Lib.hid (show rBytes most l b = (l1.take n, l1.drop n, b1) by unfold rBytes; rw [HQ.out]; simp; omega)
    go_enter Tryd.func58, Tryd.ntmps58
    go_wp2_with fail
    refine (rdNum_any _ _ _ _ _ U HH.out).mono ?_
    rintro e w1 ⟨he, hr1, hg1⟩
    rw [HQ.out] at he hr1
    subst he
    obtain ⟨v1, hb1, hv1, hvb1⟩ := hr1
    have HVB := Lib.hid hvb1; clear hvb1
    obtain ⟨A, c, rfl⟩ := hv1.form
    have h0 : w1.cell? ⟨g, 0, none⟩ = some (.slice A l1.length c) := by rw [hb1.cell]; rfl
    have hgl := hb1.lt
    have HB := Lib.hid hb1; clear hb1
    have HV1 := Lib.hid hv1; clear hv1
    go_wp2_with (refine wpList_hiB (.tmp 27) (.tmp 28) _ _ n .i64 HV1.out ?_ rfl rfl rfl rfl ?_; (omega); intro v' hv' hf hob; have HV := Lib.hid hv'; clear hv' hf hob)
    refine (clone_any _ _ _ HV.out (by simp; omega)).mono ?_
    rintro e w2 ⟨v2, rfl, ho2, hb2⟩
    have h0' : w2.cell? ⟨g, 0, none⟩ = some (.slice A l1.length c) := (hb2.cell (p := ⟨g, 0, none⟩) hgl).trans h0
    have HB2 := Lib.hid (HB.out.below hb2)
    have f0 : w2.frozen? ⟨g, 0, none⟩ = false := HB2.out.frozen 0
    have HV2 := Lib.hid (HV1.out.below hb2)
    have HO2 := Lib.hid ho2; clear ho2
    go_wp2_with (refine wpList_loB (.tmp 35) (.tmp 36) _ _ n .i64 HV2.out ?_ rfl rfl rfl rfl ?_; (omega); intro v3 hv3 hf hob; obtain ⟨A', c', rfl⟩ := hf; have HV3 := Lib.hid hv3; have HOB := Lib.hid hob; clear hv3 hob)
    go_ret
    rw [hE.out]
    have hg3 := grown_setCell w2 g 0 (.slice A' (l1.length - n) c')
    refine ⟨v2, by simp, ?_, ⟨.slice A' (l1.length - n) c', by simpa using HB2.out.set 0 (.slice A' (l1.length - n) c'), RB.far' HV3.out HV2.out HB2.out hg3, fun hne k hk => HVB.out (by intro e; subst e; simp at hne) k (HOB.out ▸ hk)⟩, grown_trans hg1 (grown_trans (grown_of_below hb2 _) hg3)⟩
    refine (World.ownsRow.kept (HO2.out.mono hg1.size) hg3 ?_)
    rcases h : v2.ownBlock with _ | k
    · exact .inl rfl
    · have := HO2.out.base_le k h
      exact .inr (by simp; omega)
end Go.Proofs.YtbkgcfoilgggjaaDoor
