/- caps.Decode. -/
import Derived.Test.YtjklpohbmockjaaDoorCapsW
import Derived.Test.YtjklpohbmockjaaDoorRel
import Derived.Deep.RegionHeld3
import Derived.Deep.Cut
import Derived.Deep.CutRange
import Derived.Deep.DeepCutAuto
set_option linter.unusedVariables false
set_option linter.unusedSimpArgs false
namespace Go.Proofs.YtjklpohbmockjaaDoor
open Go.RowKit

theorem Blk.grown {w w1 : World} {k g : Nat} {cs : Array Value} {t : TypeId} (h : Blk w k cs t) (hg : w.grownBy w1 (some g)) (hne : k ≠ g) : Blk w1 k cs t :=
  (hg.block k h.lt (by simpa using hne)).trans h
theorem Rdr.below {w w1 : World} {g : Nat} {l : Bs} {b : Bool} {U : Nat} (h : Rdr w g l b U) (hb : Below w.heap.size w w1) : Rdr w1 g l b U := by
  obtain ⟨v, h1, h2, h3⟩ := h
  exact ⟨v, h1.below hb, h2.below hb, h3⟩
theorem Rdr.lt {w : World} {g : Nat} {l : Bs} {b : Bool} {U : Nat} (h : Rdr w g l b U) : g < w.heap.size := by
  obtain ⟨v, h1, h2, h3⟩ := h
  exact h1.lt
theorem Rdr.set {w : World} {g : Nat} {l : Bs} {b : Bool} {U : Nat} (h : Rdr w g l b U) (cb o : Nat) (u : Value) (hne : g ≠ cb) (hU : U ≤ cb) : Rdr (w.setCell ⟨cb, o, none⟩ u) g l b U := by
  obtain ⟨v, h1, h2, h3⟩ := h
  refine ⟨v, h1.far hne u, ⟨h2.1, h2.2.1, ?_⟩, h3⟩
  rcases h2.2.2 with h4 | ⟨bb, off, c, hv, hc, hx⟩
  · exact .inl h4
  · refine .inr ⟨bb, off, c, hv, hc, fun j x hj => ?_⟩
    have hl : l ≠ [] := by rintro rfl; simp [bc] at hj
    have hlt := h3 hl bb (by rw [hv]; rfl)
    have := hx j x hj
    have hg := grown_setCell w cb o u
    exact hg.cell this (by simp; omega)

def rByte (l : Bs) (b : Bool) : Int × Bs × Bool := ((l.headD 0).toNat, l.tail, b || l.isEmpty)
theorem rByte_range {l : Bs} {b : Bool} {n : Int} {l' : Bs} {b' : Bool} (h : rByte l b = (n, l', b')) : 0 ≤ n ∧ n < 256 := by
  simp only [rByte, Prod.mk.injEq] at h
  have := (l.headD 0).toNat_lt
  omega
theorem rByte_any (g : Nat) (l : Bs) (b : Bool) (w : World) (U : Nat) (h : Rdr w g l b U) :
    Calls Tryd.prog 20 #[.pointer (some ⟨g, 0, none⟩)] w fun e w' => e = .returned (.int .u8 (rByte l b).1) ∧ Rdr w' g (rByte l b).2.1 (rByte l b).2.2 U ∧ w.grownBy w' (some g) := rdByte_any g l b w U h
def decC (l : Bs) : Cap × Int × Bs × Bool :=
  let a := rNum 4611686018427387904 l false
  let c := rByte a.2.1 a.2.2
  if c.1 = 1 then
    let h := rNum 4611686018427387904 c.2.1 c.2.2
    let s := rByte h.2.1 h.2.2
    let g := rNum 4611686018427387904 s.2.1 s.2.2
    let p := rBytes 40 g.2.1 g.2.2
    let r := rByte p.2.1 p.2.2
    (⟨a.1, true, h.1, s.1, g.1, p.1, r.1⟩, 1, r.2.1, r.2.2)
  else (⟨a.1, false, 0, 0, 0, [], 0⟩, c.1, c.2.1, c.2.2)
def zeroCap : Cap := ⟨0, false, 0, 0, 0, [], 0⟩
def decode (slot : Int) (l : Bs) : Cap × Int :=
  if ¬ (0 ≤ slot ∧ slot < 64) then (zeroCap, 1)
  else
    let d := decC l
    if d.2.1 > 1 ∨ doneE d.2.2.2 d.2.2.1 ≠ 0 ∨ checkE slot d.1 ≠ 0 then (zeroCap, 3) else (d.1, 0)

def capC (c : Cap) : Array Value := #[.int .u64 c.gen, .bool c.live, .int .u64 c.holder, .int .i64 c.fslot, .int .u64 c.fgen, .string (bs c.pre), .int .u8 c.rights]
theorem OB.grown {w w1 : World} {base g : Nat} {v : Value} {l : Bs} (h : OB w base v l) (hg : w.grownBy w1 (some g)) (hlt : g < base) : OB w1 base v l := by
  refine World.ownsRow.kept h hg ?_
  rcases hk : v.ownBlock with _ | k
  · exact .inl rfl
  · have := h.base_le k hk
    exact .inr (by simp; omega)
/-- In the midst of the reading: the capability's block, the reader, the answer's block. -/
structure DSt (w W : World) (g cb : Nat) (cs : Array Value) (l : Bs) (b : Bool) : Prop where
  cap : Blk W cb cs 32
  rd : Rdr W g l b g
  res : Blk W w.heap.size (capC zeroCap) 32
  low : Below w.heap.size w W
  gc : g < cb
  wg : w.heap.size < g
theorem DSt.call {w W W' : World} {g cb : Nat} {cs : Array Value} {l l' : Bs} {b b' : Bool} (h : DSt w W g cb cs l b) (hr : Rdr W' g l' b' g) (hg : W.grownBy W' (some g)) : DSt w W' g cb cs l' b' :=
  ⟨h.cap.grown hg (by have := h.gc; omega), hr, h.res.grown hg (by have := h.wg; omega), h.low.grown hg h.low.size (by intro k hk; have := h.wg; simp at hk; omega), h.gc, h.wg⟩
theorem DSt.put {w W : World} {g cb : Nat} {cs : Array Value} {l : Bs} {b : Bool} (h : DSt w W g cb cs l b) (o : Nat) (u : Value) : DSt w (W.setCell ⟨cb, o, none⟩ u) g cb (cs.setIfInBounds o u) l b :=
  ⟨h.cap.set o u, h.rd.set cb o u (by have := h.gc; omega) (by have := h.gc; omega), h.res.far (by have := h.gc; have := h.wg; simp; omega) u, h.low.setCell (by have := h.gc; have := h.wg; simp; omega) u, h.gc, h.wg⟩
theorem DSt.drew {w W : World} {g cb : Nat} {cs : Array Value} {l : Bs} {b : Bool} (h : DSt w W g cb cs l b) : DSt w W.drew g cb cs l b :=
  ⟨h.cap, h.rd, h.res, h.low.drew, h.gc, h.wg⟩
theorem DSt.below {w W W' : World} {g cb : Nat} {cs : Array Value} {l : Bs} {b : Bool} (h : DSt w W g cb cs l b) (hb : Below W.heap.size W W') : DSt w W' g cb cs l b :=
  ⟨h.cap.below hb, h.rd.below hb, h.res.below hb, below_then h.low h.low.size hb, h.gc, h.wg⟩
/-- Behind the reading: what lies where. -/
def DecMid (l : Bs) (w : World) (g cb : Nat) (x : Int) (W : World) : Prop :=
  ∃ c l2 b2, decC l = (c, x, l2, b2) ∧ DSt w W g cb (capC c) l2 b2
theorem check_lit (slot gen : Int) (live : Bool) (holder fslot fgen : Int) (pre : Bs) (rights : Int) (w : World) : Calls Tryd.prog 5 #[.int .i64 slot, .agg #[.int .u64 gen, .bool live, .int .u64 holder, .int .i64 fslot, .int .u64 fgen, .string (bs pre), .int .u8 rights]] w fun e w' => e = .returned (errV (checkE slot ⟨gen, live, holder, fslot, fgen, pre, rights⟩)) ∧ Below w.heap.size w w' :=
  check_any slot ⟨gen, live, holder, fslot, fgen, pre, rights⟩ w
set_option maxRecDepth 100000 in
set_option maxHeartbeats 4000000 in
theorem decode_any (slot : Int) (v : Value) (l : Bs) (w : World) (h : RB w v l) (hl : l.length ≤ 140737488355000) :
    Calls Tryd.prog 8 #[.int .i64 slot, v] w fun e w' => e = .returned (.tuple #[capV (decode slot l).1, errV (decode slot l).2]) ∧ Below w.heap.size w w' := by
  have H := Lib.hid h; clear h
  by_cases hs : 0 ≤ slot ∧ slot < 64
  · have HS := Lib.hid hs; clear hs
    go_enter Tryd.func8, Tryd.ntmps8
    go_wp2_with (go_at_call 12; refine (slotted_any _ _).mono ?_; rintro e w' ⟨he, rfl⟩; rw [decide_eq_true HS.out] at he; subst he)
    refine (packNew_any _ l _ (by exact H.out.alloc _) hl).mono ?_
    rintro e w1 ⟨g, rfl, hg0, hr1, hb1⟩
    have HR1 := Lib.hid hr1; clear hr1
    have HX1 := Lib.hid ((Blk.new w _ _).below hb1)
    have hx1 := HX1.out.cell
    have hs1 := hb1.size
    simp only [World.size_alloc] at hs1 hg0
    have HB1 := Lib.hid ((below_a1 w _).trans (hb1.mono (by simp))); clear hb1
    go_wp2_with fail
    obtain ⟨n1, l1, b1, hq1⟩ : ∃ n1 l1 b1, rNum 4611686018427387904 l false = (n1, l1, b1) := ⟨_, _, _, rfl⟩
    refine (rdNum_any g l false _ _ _ HR1.out).mono ?_
    rintro e w2 ⟨he, hr2, hg2⟩
    rw [hq1] at he hr2
    subst he
    have HQ1 := Lib.hid hq1; clear hq1
    have HR2 := Lib.hid hr2; clear hr2
    have HX2 := Lib.hid (HX1.out.grown hg2 (by omega))
    have hx2 := HX2.out.cell
    have hs2 := hg2.size
    have HB2 := Lib.hid (HB1.out.grown hg2 (by omega) (by simp; omega)); clear hg2
    go_wp2_with fail
    obtain ⟨cb, hcb⟩ : ∃ cb, cb = w2.heap.size := ⟨_, rfl⟩
    have hgl : g < w2.heap.size := HR2.out.lt
    have hne : g ≠ cb := by omega
    have hnw : w.heap.size ≠ cb := by omega
    have hUcb : g ≤ cb := by omega
    obtain ⟨x, hx⟩ : ∃ x : Int, x = ((l1.headD 0).toNat : Int) := ⟨_, rfl⟩
    obtain ⟨l2, hl2⟩ : ∃ x, x = l1.tail := ⟨_, rfl⟩
    obtain ⟨b2, hb2⟩ : ∃ x, x = (b1 || l1.isEmpty) := ⟨_, rfl⟩
    refine (rdByte_any g l1 b1 _ g (by exact HR2.out.below (below_a1 _ _))).mono ?_
    rintro e w3 ⟨he, hr3, hg3⟩
    rw [← hx] at he
    subst he
    rw [← hl2, ← hb2] at hr3
    have HR3 := Lib.hid hr3; clear hr3
    have HX3 := Lib.hid ((HX2.out.below (below_a1 _ _)).grown hg3 (by omega))
    have HC3 := Lib.hid ((Blk.new w2 _ _).grown hg3 (by omega))
    have hs3 := hg3.size
    simp only [World.size_alloc] at hs3
    have HB3 := Lib.hid (((HB2.out.alloc (by omega) _)).grown hg3 (by simp; omega) (by simp; omega)); clear hg3
    have HCB := Lib.hid hcb
    rw [← hcb] at HC3 hs3 ⊢
    clear hcb hx2 hx1
    have hc3 := HC3.out.cell
    have hf3 := HC3.out.frozen
    have HL2 := Lib.hid hl2; have HB2' := Lib.hid hb2; have HXX := Lib.hid hx
    clear hl2 hb2 hx
    have S3 := Lib.hid (show DSt w w3 g cb (capC ⟨n1, false, 0, 0, 0, [], 0⟩) l2 b2 from ⟨HC3.out, HR3.out, HX3.out, HB3.out, by omega, by omega⟩)
    go_upto_if 25 with (fail)
    go_cut [] (fun W => DecMid l w g cb x W)
    case first =>
      by_cases hx1 : x = 1
      · subst hx1
        go_wp2_with fail
        obtain ⟨n4, l4, b4, hq4⟩ : ∃ n l b, rNum 4611686018427387904 l2 b2 = (n, l, b) := ⟨_, _, _, rfl⟩
        have HQ4 := Lib.hid hq4; clear hq4
        refine (rdNum_any g l2 b2 _ _ g (by exact (S3.out.put 1 (.bool true)).rd)).mono ?_
        rintro e w4 ⟨he, hr, hg⟩
        rw [HQ4.out] at he hr
        have S4 := Lib.hid ((S3.out.put 1 (.bool true)).call hr hg)
        clear hr hg
        subst he
        have hc4 := S4.out.cap.cell
        simp only [capC, List.setIfInBounds_toArray, List.set_cons_zero, List.set_cons_succ] at hc4
        have hf4 := S4.out.cap.frozen
        clear hc3 hf3
        go_wp2_with fail
        obtain ⟨n5, l5, b5, hq5⟩ : ∃ n l b, rByte l4 b4 = (n, l, b) := ⟨_, _, _, rfl⟩
        have hn5a : 0 ≤ n5 ∧ n5 < 256 := rByte_range hq5
        obtain ⟨hn50, hn51⟩ := hn5a
        have HQ5 := Lib.hid hq5; clear hq5
        refine (rByte_any g l4 b4 _ g (by exact (S4.out.put 2 (.int .u64 n4)).rd)).mono ?_
        rintro e w5 ⟨he, hr, hg⟩
        rw [HQ5.out] at he hr
        have S5 := Lib.hid ((S4.out.put 2 (.int .u64 n4)).call hr hg)
        clear hr hg
        subst he
        have hc5 := S5.out.cap.cell
        simp only [capC, List.setIfInBounds_toArray, List.set_cons_zero, List.set_cons_succ] at hc5
        have hf5 := S5.out.cap.frozen
        clear hc4 hf4
        go_wp2_with fail
        obtain ⟨n6, l6, b6, hq6⟩ : ∃ n l b, rNum 4611686018427387904 l5 b5 = (n, l, b) := ⟨_, _, _, rfl⟩
        have HQ6 := Lib.hid hq6; clear hq6
        refine (rdNum_any g l5 b5 _ _ g (by exact (S5.out).rd)).mono ?_
        rintro e w6 ⟨he, hr, hg⟩
        rw [HQ6.out] at he hr
        have S6 := Lib.hid ((S5.out).call hr hg)
        clear hr hg
        subst he
        have hc6 := S6.out.cap.cell
        simp only [capC, List.setIfInBounds_toArray, List.set_cons_zero, List.set_cons_succ] at hc6
        have hf6 := S6.out.cap.frozen
        clear hc5 hf5
        go_wp2_with fail
        refine region_any (by kernel_rfl) ?_
        refine take_pure (i := 0) (v := ?_) rfl (by kernel_rfl) (by kernel_rfl) (by kernel_rfl) rfl (fun _ _ _ h => h) ?_ ?_
        rotate_left
        · intro w'
          go_simp
          with_reducible rfl
        simp only [Act.put, List.setIfInBounds_toArray, List.set_cons_zero, List.set_cons_succ]
        refine take_pure (i := 3) (v := ?_) rfl (by kernel_rfl) (by kernel_rfl) (by kernel_rfl) rfl (fun _ _ _ h => h) ?_ ?_
        rotate_left
        · intro w'
          go_simp
          with_reducible rfl
        simp only [Act.put, List.setIfInBounds_toArray, List.set_cons_zero, List.set_cons_succ]
        refine wpAny_one (i := 1) rfl (by kernel_rfl) rfl fun K hK => ?_
        have HK := Lib.hid hK; clear hK
        go_simp
        obtain ⟨p7, l7, b7, hq7⟩ : ∃ n l b, rBytes 40 l6 b6 = (n, l, b) := ⟨_, _, _, rfl⟩
        have HQ7 := Lib.hid hq7; clear hq7
        refine (rdBytes_any g l6 b6 40 _ g (by exact ((S6.out.put 3 _).put 4 _).rd) (by omega) (by omega)).mono ?_
        rintro e w7 ⟨v7, rfl, ho7, hr, hg⟩
        rw [HQ7.out] at hr ho7
        have S7 := Lib.hid (((S6.out.put 3 (.int .i64 n5)).put 4 (.int .u64 n6)).drew.call hr hg)
        have HO7 := Lib.hid ho7
        have hs7 := hg.size
        clear hr hg hc6 hf6 ho7
        refine HK.out _ _ ?_
        try simp only [Act.put, List.setIfInBounds_toArray, List.set_cons_zero, List.set_cons_succ]
        refine wpAny_of_held (S := fun W => RB W v7 p7) _ _ _ _ ?_
        refine take_first (i := 2) (v := ?_) rfl (by kernel_rfl) (by kernel_rfl) (by kernel_rfl) rfl (fun _ _ _ h => h) (by exact HO7.out.rb) ?_ ?_
        rotate_left
        · intro w' hSw
          have hcs := conv_str hSw
          go_simp
          with_reducible rfl
        simp only [Act.put, List.setIfInBounds_toArray, List.set_cons_zero, List.set_cons_succ]
        refine wpAnyH_forced [4, 5, 6, 7] [_, _, _, _] _ _ _ rfl (by kernel_rfl) ?_
        have hg6 : g < w6.heap.size := S6.out.rd.lt
        have hcb6 : cb < w6.heap.size := S6.out.cap.lt
        refine wpListH_plain rfl fun K hK => ?_
        have HK2 := Lib.hid hK; clear hK
        go_simp
        obtain ⟨n8, l8, b8, hq8⟩ : ∃ n l b, rByte l7 b7 = (n, l, b) := ⟨_, _, _, rfl⟩
        have HQ8 := Lib.hid hq8; clear hq8
        refine (rByte_any g l7 b7 _ g (by exact S7.out.rd)).mono ?_
        rintro e w8 ⟨he, hr, hg⟩
        rw [HQ8.out] at he hr
        have S8 := Lib.hid (S7.out.call hr hg)
        have HO8 := Lib.hid (HO7.out.grown hg (by simpa using hg6))
        clear hr hg
        subst he
        have hc8 := S8.out.cap.cell
        simp only [capC, List.setIfInBounds_toArray, List.set_cons_zero, List.set_cons_succ] at hc8
        have hf8 := S8.out.cap.frozen
        refine HK2.out _ _ HO8.out.rb ?_
        clear HK2
        refine wpListH_plain rfl fun K hK => ?_
        have HK2 := Lib.hid hK; clear hK
        go_simp
        refine HK2.out _ _ HO8.out.rb ?_
        clear HK2
        refine wpListH_plain rfl fun K hK => ?_
        have HK2 := Lib.hid hK; clear hK
        go_simp
        refine HK2.out _ _ HO8.out.rb ?_
        clear HK2
        refine wpListH_plain rfl fun K hK => ?_
        have HK2 := Lib.hid hK; clear hK
        go_simp
        refine HK2.out _ _ ((HO8.out.grown (grown_setCell _ cb 5 _) (by simpa using hcb6)).grown (grown_setCell _ cb 6 _) (by simpa using hcb6)).rb ?_
        clear HK2
        refine wpListH_nil ?_
        go_wp2_with fail
        go_meet
        refine ⟨⟨n1, true, n4, n5, n6, p7, n8⟩, l8, b8, ?_, ?_⟩
        · have hq1 := HQ1.out
          have hq4 := HQ4.out
          have hq5 := HQ5.out
          have hq6 := HQ6.out
          have hq7 := HQ7.out
          have hq8 := HQ8.out
          have hr2 : rByte l1 b1 = (1, l2, b2) := by unfold rByte; rw [← HXX.out, ← HL2.out, ← HB2'.out]
          unfold decC
          simp only [hq1, hr2, hq4, hq5, hq6, hq7, hq8, if_true]
        · have := (S8.out.put 5 (.string (bs p7))).put 6 (.int .u8 n8)
          simpa [capC, bs] using this
      · have hxb : (x == 1) = false := by simpa using hx1
        go_wp2_with fail
        go_meet
        have hq1 := HQ1.out
        refine ⟨⟨n1, false, 0, 0, 0, [], 0⟩, l2, b2, ?_, ?_⟩
        · unfold decC; simp only [hq1, rByte]
          rw [if_neg (by rw [← HXX.out]; exact hx1), ← HXX.out, ← HL2.out, ← HB2'.out]
        · simpa [capC, hxb] using S3.out.put 1 (.bool false)
    case rest =>
      obtain ⟨⟨cg, cl, ch, cfs, cfg, cp, cr⟩, l3, b3, hd, hS⟩ := hcut
      have HD := Lib.hid hd; clear hd
      have SS := Lib.hid hS
      have hz := hS.res.cell
      have hzf := hS.res.frozen
      have hcc := hS.cap.cell
      have hlow := Lib.hid hS.low
      simp only [capC, zeroCap] at hz hcc
      clear hS
      by_cases hxg : x > 1
      · go_wp2_with fail
        refine bodyPost_ret (v := .tuple #[capV zeroCap, errV 3]) (by simp [results, Tryd.results8, go_sem, capV, zeroCap, bs, errV, hz, hzf]) rfl ?_
        exact ⟨by have := HD.out; simp [decode, HS.out, this, hxg], (((((((hlow.out.setCell (by simp) _).setCell (by simp) _).setCell (by simp) _).setCell (by simp) _).setCell (by simp) _).setCell (by simp) _).setCell (by simp) _)⟩
      · by_cases hdn : doneE b3 l3 = 0
        · have hdb : (doneE b3 l3 == 0) = true := by simp [hdn]
          obtain ⟨ck, hck⟩ : ∃ ck, ck = checkE slot ⟨cg, cl, ch, cfs, cfg, cp, cr⟩ := ⟨_, rfl⟩
          have HCK := Lib.hid hck
          go_wp2_with (first | (go_at_call 22; refine (rdDone_any g l3 b3 _ g (by exact SS.out.rd)).mono ?_; rintro e w9 ⟨rfl, rfl⟩))
          refine (check_lit _ _ _ _ _ _ _ _ _).mono ?_
          rintro e w9 ⟨he, hb9⟩
          rw [← hck] at he
          subst he
          have S9 := Lib.hid (SS.out.below hb9)
          have hz9 := S9.out.res.cell
          have hzf9 := S9.out.res.frozen
          have hcc9 := S9.out.cap.cell
          have hlow9 := Lib.hid S9.out.low
          simp only [capC, zeroCap] at hz9 hcc9
          clear hb9 hz hzf hcc hck
          by_cases hk : ck = 0
          · have hkb : (ck == 0) = true := by simp [hk]
            go_wp2_with fail
            refine bodyPost_ret (v := .tuple #[capV ⟨cg, cl, ch, cfs, cfg, cp, cr⟩, errV 0]) (by simp [results, Tryd.results8, go_sem, capV, bs, errV, hz9, hzf9]) rfl ?_
            refine ⟨?_, (((((((hlow9.out.setCell (by simp) _).setCell (by simp) _).setCell (by simp) _).setCell (by simp) _).setCell (by simp) _).setCell (by simp) _).setCell (by simp) _)⟩
            have h1 := HD.out
            have h2 : checkE slot ⟨cg, cl, ch, cfs, cfg, cp, cr⟩ = 0 := by rw [← HCK.out]; exact hk
            simp [decode, HS.out, h1, h2, hdn, show ¬ ((1 : Int) < x) by omega]
          · have hkb : (ck == 0) = false := by simpa using hk
            go_wp2_with fail
            refine bodyPost_ret (v := .tuple #[capV zeroCap, errV 3]) (by simp [results, Tryd.results8, go_sem, capV, zeroCap, bs, errV, hz9, hzf9]) rfl ?_
            refine ⟨?_, (((((((hlow9.out.setCell (by simp) _).setCell (by simp) _).setCell (by simp) _).setCell (by simp) _).setCell (by simp) _).setCell (by simp) _).setCell (by simp) _)⟩
            have h1 := HD.out
            have h2 : ¬ checkE slot ⟨cg, cl, ch, cfs, cfg, cp, cr⟩ = 0 := by rw [← HCK.out]; exact hk
            simp [decode, HS.out, h1, h2]
        · have hdb : (doneE b3 l3 == 0) = false := by simpa using hdn
          go_wp2_with (first | (go_at_call 22; refine (rdDone_any g l3 b3 _ g (by exact SS.out.rd)).mono ?_; rintro e w9 ⟨rfl, rfl⟩))
          refine bodyPost_ret (v := .tuple #[capV zeroCap, errV 3]) (by simp [results, Tryd.results8, go_sem, capV, zeroCap, bs, errV, hz, hzf]) rfl ?_
          exact ⟨by have := HD.out; simp [decode, HS.out, this, hdn], (((((((hlow.out.setCell (by simp) _).setCell (by simp) _).setCell (by simp) _).setCell (by simp) _).setCell (by simp) _).setCell (by simp) _).setCell (by simp) _)⟩
  · go_enter Tryd.func8, Tryd.ntmps8
    go_wp2_with (go_at_call 12; refine (slotted_any _ _).mono ?_; rintro e w' ⟨he, rfl⟩; rw [decide_eq_false hs] at he; subst he)
    refine bodyPost_ret (v := .tuple #[capV zeroCap, errV 1]) (by simp [results, Tryd.results8, go_sem, capV, zeroCap, bs, errV]) rfl ?_
    exact ⟨by simp [decode, hs], below_a1 _ _⟩
end Go.Proofs.YtjklpohbmockjaaDoor
