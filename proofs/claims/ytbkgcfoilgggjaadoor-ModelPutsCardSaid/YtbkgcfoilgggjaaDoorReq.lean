/- request: a request's fields, one by one, into bytes and out of them. -/
import Derived.Test.YtbkgcfoilgggjaaDoorRd
import Derived.Test.YtbkgcfoilgggjaaDoorRel
import Derived.Deep.RegionHeld3
set_option linter.unusedVariables false
set_option linter.unusedSimpArgs false
namespace Go.Proofs.YtbkgcfoilgggjaaDoor
open Go.RowKit

structure Req where
  kind : Int
  space : Int
  handle : Int
  rslot : Int
  rgen : Int
  to_ : Int
  key : Bs
  value : Bs
  rights : Int
  most : Int
  flag : Bool
def reqC (q : Req) : Array Value := #[.int .u8 q.kind, .int .u64 q.space, .int .u64 q.handle, .int .i64 q.rslot, .int .u64 q.rgen, .int .u64 q.to_, .string (bs q.key), .string (bs q.value), .int .u8 q.rights, .int .u64 q.most, .bool q.flag]
def lastQ : Int := 4611686018427387904
def takeF (f : Int) (q : Req) (l : Bs) (b : Bool) : Req × Bs × Bool :=
  if f = 115 then let r := rNum 4611686018427387904 l b; ({ q with space := r.1 }, r.2.1, r.2.2)
  else if f = 104 then let r := rNum 4611686018427387904 l b; ({ q with handle := r.1 }, r.2.1, r.2.2)
  else if f = 116 then let r := rNum 4611686018427387904 l b; ({ q with to_ := r.1 }, r.2.1, r.2.2)
  else if f = 99 then let s := rByte l b; let r := rNum 4611686018427387904 s.2.1 s.2.2; ({ q with rslot := s.1, rgen := r.1 }, r.2.1, r.2.2)
  else if f = 107 then let r := rBytes 39 l b; ({ q with key := r.1 }, r.2.1, r.2.2)
  else if f = 118 then let r := rBytes 2048 l b; ({ q with value := r.1 }, r.2.1, r.2.2)
  else if f = 114 then let r := rByte l b; ({ q with rights := r.1 }, r.2.1, r.2.2)
  else if f = 109 then let r := rNum 65536 l b; ({ q with most := r.1 }, r.2.1, r.2.2)
  else if f = 102 then let r := rByte l b; ({ q with flag := (r.1 == 1) }, r.2.1, r.2.2)
  else (q, l, b)
def putF (f : Int) (q : Req) : Bs :=
  if f = 115 then vbytes q.space
  else if f = 104 then vbytes q.handle
  else if f = 116 then vbytes q.to_
  else if f = 99 then u8 (IntKind.u8.wrap q.rslot) :: vbytes q.rgen
  else if f = 107 then vbytes q.key.length ++ q.key
  else if f = 118 then vbytes q.value.length ++ q.value
  else if f = 114 then [u8 q.rights]
  else if f = 109 then vbytes q.most
  else if q.flag then [1] else [0]

/-- All blocks but two are as they were. -/
structure Two (g qb : Nat) (W w : World) : Prop where
  os : w.os = W.os
  tape : w.tape = W.tape
  output : w.output = W.output
  size : W.heap.size ≤ w.heap.size
  block : ∀ i, i < W.heap.size → i ≠ g → i ≠ qb → w.heap[i]? = W.heap[i]?
theorem Two.refl (g qb : Nat) (w : World) : Two g qb w w := ⟨rfl, rfl, rfl, Nat.le_refl _, fun _ _ _ _ => rfl⟩
theorem Two.grown {g qb : Nat} {W w w' : World} (h : Two g qb W w) (k : w.grownBy w' (some g)) : Two g qb W w' :=
  ⟨k.os.trans h.os, k.tape.trans h.tape, k.output.trans h.output, Nat.le_trans h.size k.size, fun i hi h1 h2 => (k.block i (Nat.lt_of_lt_of_le hi h.size) (by simpa using h1)).trans (h.block i hi h1 h2)⟩
theorem Two.set {g qb : Nat} {W w : World} (h : Two g qb W w) (o : Nat) (u : Value) : Two g qb W (w.setCell ⟨qb, o, none⟩ u) :=
  ⟨h.os, h.tape, h.output, by simpa [World.setCell] using h.size, fun i hi h1 h2 => (Below.heap_setCell w _ u i (by simpa using h2)).trans (h.block i hi h1 h2)⟩
theorem Two.below {g qb B : Nat} {W0 W w : World} (h : Two g qb W w) (hb : Below B W0 W) (hB : B ≤ W.heap.size) (h1 : B ≤ g) (h2 : B ≤ qb) : Below B W0 w :=
  hb.trans ⟨h.os, h.tape, h.output, h.size, fun i hi => h.block i (by omega) (by omega) (by omega)⟩
theorem Two.blk {g qb k : Nat} {W w : World} {cs : Array Value} {t : TypeId} (h : Two g qb W w) (hb : Blk W k cs t) (h1 : k ≠ g) (h2 : k ≠ qb) : Blk w k cs t :=
  (h.block k hb.lt h1 h2).trans hb
/-- The request's block and the reader. -/
structure RSt (W : World) (g qb : Nat) (w : World) (q : Req) (l : Bs) (b : Bool) : Prop where
  req : Blk w qb (reqC q) 34
  rd : Rdr w g l b g
  low : Two g qb W w
  gq : g < qb
theorem RSt.call {W : World} {g qb : Nat} {w w' : World} {q : Req} {l l' : Bs} {b b' : Bool} (h : RSt W g qb w q l b) (hr : Rdr w' g l' b' g) (hg : w.grownBy w' (some g)) : RSt W g qb w' q l' b' :=
  ⟨h.req.grown hg (by have := h.gq; omega), hr, h.low.grown hg, h.gq⟩
theorem RSt.put {W : World} {g qb : Nat} {w : World} {q : Req} {l : Bs} {b : Bool} (h : RSt W g qb w q l b) (o : Nat) (u : Value) (q' : Req) (hq : (reqC q).setIfInBounds o u = reqC q') : RSt W g qb (w.setCell ⟨qb, o, none⟩ u) q' l b :=
  ⟨hq ▸ h.req.set o u, h.rd.set qb o u (by have := h.gq; omega) (by have := h.gq; omega), h.low.set o u, h.gq⟩

set_option maxRecDepth 100000 in
set_option maxHeartbeats 4000000 in
theorem take_any (W : World) (f : Int) (q : Req) (l : Bs) (b : Bool) (g qb : Nat) (w : World) (h : RSt W g qb w q l b) :
    Calls Tryd.prog 47 #[.pointer (some ⟨qb, 0, none⟩), .pointer (some ⟨g, 0, none⟩), .int .u8 f] w fun e w' => e = .returned (.tuple #[]) ∧ RSt W g qb w' (takeF f q l b).1 (takeF f q l b).2.1 (takeF f q l b).2.2 ∧ w.heap.size ≤ w'.heap.size := by
  obtain ⟨kind, space, handle, rslot, rgen, to_, key, value, rights, most, flag⟩ := q
  have H := Lib.hid h; clear h
  have hx : ∀ o, w.cell? ⟨qb, o, none⟩ = #[Value.int .u8 kind, .int .u64 space, .int .u64 handle, .int .i64 rslot, .int .u64 rgen, .int .u64 to_, .string (bs key), .string (bs value), .int .u8 rights, .int .u64 most, .bool flag][o]? := H.out.req.cell
  have hf := H.out.req.frozen
-- TAKE
  by_cases h115 : f = 115
  · subst h115
    simp (config := { decide := true }) only [takeF, if_true, if_false]
    have hc := fun w U => rdNum_any g l b 4611686018427387904 w U
    generalize (rNum 4611686018427387904 l b) = r at hc ⊢
    go_enter Tryd.func47, Tryd.ntmps47
    go_wp2_with fail
    refine (hc _ g H.out.rd).mono ?_
    rintro e w1 ⟨rfl, hr1, hg1⟩
    have H1 := Lib.hid (H.out.call hr1 hg1)
    have hs1 := hg1.size
    have hx1 := H1.out.req.cell
    have hf1 := H1.out.req.frozen
    clear hr1 hg1 hx hf
    simp only [reqC] at hx1
    go_wp2
    go_end0
    exact ⟨rfl, H1.out.put 1 _ _ rfl, by simpa using hs1⟩
  by_cases h104 : f = 104
  · subst h104
    simp (config := { decide := true }) only [takeF, if_true, if_false]
    have hc := fun w U => rdNum_any g l b 4611686018427387904 w U
    generalize (rNum 4611686018427387904 l b) = r at hc ⊢
    go_enter Tryd.func47, Tryd.ntmps47
    go_wp2_with fail
    refine (hc _ g H.out.rd).mono ?_
    rintro e w1 ⟨rfl, hr1, hg1⟩
    have H1 := Lib.hid (H.out.call hr1 hg1)
    have hs1 := hg1.size
    have hx1 := H1.out.req.cell
    have hf1 := H1.out.req.frozen
    clear hr1 hg1 hx hf
    simp only [reqC] at hx1
    go_wp2
    go_end0
    exact ⟨rfl, H1.out.put 2 _ _ rfl, by simpa using hs1⟩
  by_cases h116 : f = 116
  · subst h116
    simp (config := { decide := true }) only [takeF, if_true, if_false]
    have hc := fun w U => rdNum_any g l b 4611686018427387904 w U
    generalize (rNum 4611686018427387904 l b) = r at hc ⊢
    go_enter Tryd.func47, Tryd.ntmps47
    go_wp2_with fail
    refine (hc _ g H.out.rd).mono ?_
    rintro e w1 ⟨rfl, hr1, hg1⟩
    have H1 := Lib.hid (H.out.call hr1 hg1)
    have hs1 := hg1.size
    have hx1 := H1.out.req.cell
    have hf1 := H1.out.req.frozen
    clear hr1 hg1 hx hf
    simp only [reqC] at hx1
    go_wp2
    go_end0
    exact ⟨rfl, H1.out.put 5 _ _ rfl, by simpa using hs1⟩
  by_cases h99 : f = 99
  · subst h99
    simp (config := { decide := true }) only [takeF, if_true, if_false]
    have hbr : 0 ≤ (rByte l b).1 ∧ (rByte l b).1 < 256 := rByte_range (l := l) (b := b) (n := (rByte l b).1) (l' := (rByte l b).2.1) (b' := (rByte l b).2.2) rfl
    have hc1 := fun w U => rByte_any g l b w U
    generalize (rByte l b) = s at hc1 hbr ⊢
    have hc2 := fun w U => rdNum_any g s.2.1 s.2.2 4611686018427387904 w U
    generalize (rNum 4611686018427387904 s.2.1 s.2.2) = r at hc2 ⊢
    go_enter Tryd.func47, Tryd.ntmps47
    go_wp2_with fail
    refine (hc1 _ g H.out.rd).mono ?_
    rintro e w1 ⟨rfl, hr1, hg1⟩
    have H1 := Lib.hid (H.out.call hr1 hg1)
    have hs1 := hg1.size
    clear hr1 hg1 hx hf
    go_wp2_with fail
    refine (hc2 _ g H1.out.rd).mono ?_
    rintro e w2 ⟨rfl, hr2, hg2⟩
    have H2 := Lib.hid (H1.out.call hr2 hg2)
    have hs2 := hg2.size
    have hx2 := H2.out.req.cell
    have hf2 := H2.out.req.frozen
    clear hr2 hg2
    simp only [reqC] at hx2
    go_wp2
    go_end0
    exact ⟨rfl, (H2.out.put 3 (.int .i64 s.1) ⟨kind, space, handle, s.1, rgen, to_, key, value, rights, most, flag⟩ rfl).put 4 (.int .u64 r.1) ⟨kind, space, handle, s.1, r.1, to_, key, value, rights, most, flag⟩ rfl, by simp; omega⟩
  by_cases h107 : f = 107
  · subst h107
    simp (config := { decide := true }) only [takeF, if_true, if_false]
    have hc := fun w U h => rdBytes_any g l b 39 w U h (by decide) (by decide)
    generalize (rBytes 39 l b) = r at hc ⊢
    go_enter Tryd.func47, Tryd.ntmps47
    go_wp2_with fail
    refine (hc _ g H.out.rd).mono ?_
    rintro e w1 ⟨v, rfl, ho1, hr1, hg1⟩
    have H1 := Lib.hid (H.out.call hr1 hg1)
    have hs1 := hg1.size
    have hx1 := H1.out.req.cell
    have hf1 := H1.out.req.frozen
    have hcs := conv_str ho1.rb
    clear ho1
    clear hr1 hg1 hx hf
    simp only [reqC] at hx1
    go_wp2
    go_end0
    exact ⟨rfl, H1.out.put 6 _ _ rfl, by simpa using hs1⟩
  by_cases h118 : f = 118
  · subst h118
    simp (config := { decide := true }) only [takeF, if_true, if_false]
    have hc := fun w U h => rdBytes_any g l b 2048 w U h (by decide) (by decide)
    generalize (rBytes 2048 l b) = r at hc ⊢
    go_enter Tryd.func47, Tryd.ntmps47
    go_wp2_with fail
    refine (hc _ g H.out.rd).mono ?_
    rintro e w1 ⟨v, rfl, ho1, hr1, hg1⟩
    have H1 := Lib.hid (H.out.call hr1 hg1)
    have hs1 := hg1.size
    have hx1 := H1.out.req.cell
    have hf1 := H1.out.req.frozen
    have hcs := conv_str ho1.rb
    clear ho1
    clear hr1 hg1 hx hf
    simp only [reqC] at hx1
    go_wp2
    go_end0
    exact ⟨rfl, H1.out.put 7 _ _ rfl, by simpa using hs1⟩
  by_cases h114 : f = 114
  · subst h114
    simp (config := { decide := true }) only [takeF, if_true, if_false]
    have hc := fun w U => rByte_any g l b w U
    generalize (rByte l b) = r at hc ⊢
    go_enter Tryd.func47, Tryd.ntmps47
    go_wp2_with fail
    refine (hc _ g H.out.rd).mono ?_
    rintro e w1 ⟨rfl, hr1, hg1⟩
    have H1 := Lib.hid (H.out.call hr1 hg1)
    have hs1 := hg1.size
    have hx1 := H1.out.req.cell
    have hf1 := H1.out.req.frozen
    clear hr1 hg1 hx hf
    simp only [reqC] at hx1
    go_wp2
    go_end0
    exact ⟨rfl, H1.out.put 8 _ _ rfl, by simpa using hs1⟩
  by_cases h109 : f = 109
  · subst h109
    simp (config := { decide := true }) only [takeF, if_true, if_false]
    have hc := fun w U => rdNum_any g l b 65536 w U
    generalize (rNum 65536 l b) = r at hc ⊢
    go_enter Tryd.func47, Tryd.ntmps47
    go_wp2_with fail
    refine (hc _ g H.out.rd).mono ?_
    rintro e w1 ⟨rfl, hr1, hg1⟩
    have H1 := Lib.hid (H.out.call hr1 hg1)
    have hs1 := hg1.size
    have hx1 := H1.out.req.cell
    have hf1 := H1.out.req.frozen
    clear hr1 hg1 hx hf
    simp only [reqC] at hx1
    go_wp2
    go_end0
    exact ⟨rfl, H1.out.put 9 _ _ rfl, by simpa using hs1⟩
  by_cases h102 : f = 102
  · subst h102
    simp (config := { decide := true }) only [takeF, if_true, if_false]
    have hc := fun w U => rByte_any g l b w U
    generalize (rByte l b) = r at hc ⊢
    go_enter Tryd.func47, Tryd.ntmps47
    go_wp2_with fail
    refine (hc _ g H.out.rd).mono ?_
    rintro e w1 ⟨rfl, hr1, hg1⟩
    have H1 := Lib.hid (H.out.call hr1 hg1)
    have hs1 := hg1.size
    have hx1 := H1.out.req.cell
    have hf1 := H1.out.req.frozen
    clear hr1 hg1 hx hf
    simp only [reqC] at hx1
    go_wp2
    go_end0
    exact ⟨rfl, H1.out.put 10 _ _ rfl, by simpa using hs1⟩
  rw [show takeF f ⟨kind, space, handle, rslot, rgen, to_, key, value, rights, most, flag⟩ l b = (⟨kind, space, handle, rslot, rgen, to_, key, value, rights, most, flag⟩, l, b) by simp [takeF, *]]
  go_enter Tryd.func47, Tryd.ntmps47
  go_wp2
  go_end0
  exact ⟨rfl, H.out, Nat.le_refl _⟩
-- END
end Go.Proofs.YtbkgcfoilgggjaaDoor
