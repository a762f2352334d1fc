/- What a call leaves as it was: all but some blocks. Lists of blocks that are known whole. No program in sight. -/
import Derived.Test.YtbkgcfoilgggjaaDoorHeap
set_option linter.unusedVariables false
set_option linter.unusedSimpArgs false
namespace Go.Proofs.YtbkgcfoilgggjaaDoor
open Go.RowKit

structure Fr (M : List Nat) (w w' : World) : Prop where
  os : w'.os = w.os
  tape : w'.tape = w.tape
  output : w'.output = w.output
  size : w.heap.size ≤ w'.heap.size
  block : ∀ i, i < w.heap.size → i ∉ M → w'.heap[i]? = w.heap[i]?
theorem Fr.refl (M : List Nat) (w : World) : Fr M w w := ⟨rfl, rfl, rfl, Nat.le_refl _, fun _ _ _ => rfl⟩
theorem Fr.of_below {w w' : World} (h : Below w.heap.size w w') : Fr [] w w' := ⟨h.os, h.tape, h.output, h.size, fun i hi _ => h.block i hi⟩
theorem Fr.of_grown {w w' : World} {g : Nat} (h : w.grownBy w' (some g)) : Fr [g] w w' := ⟨h.os, h.tape, h.output, h.size, fun i hi hn => h.block i hi (by simpa using hn)⟩
theorem Fr.mono {M N : List Nat} {w w' : World} (h : Fr M w w') (hs : ∀ i, i ∈ M → i ∈ N) : Fr N w w' := ⟨h.os, h.tape, h.output, h.size, fun i hi hn => h.block i hi fun hm => hn (hs i hm)⟩
theorem Fr.any {N : List Nat} {w w' : World} (h : Fr [] w w') : Fr N w w' := h.mono fun i hi => by cases hi
theorem Fr.trans {M : List Nat} {w w1 w2 : World} (h : Fr M w w1) (k : Fr M w1 w2) : Fr M w w2 :=
  ⟨k.os.trans h.os, k.tape.trans h.tape, k.output.trans h.output, Nat.le_trans h.size k.size, fun i hi hn => (k.block i (Nat.lt_of_lt_of_le hi h.size) hn).trans (h.block i hi hn)⟩
theorem Fr.alloc {M : List Nat} {w w' : World} (h : Fr M w w') (o : Obj) : Fr M w (w'.alloc o) := h.trans (Fr.of_below (below_a1 w' o)).any
theorem Fr.drew {M : List Nat} {w w' : World} (h : Fr M w w') : Fr M w w'.drew := ⟨h.os, h.tape, h.output, h.size, h.block⟩
/-- A block that was not there is no matter. -/
theorem Fr.drop {M : List Nat} {g : Nat} {w w' : World} (h : Fr (g :: M) w w') (hg : w.heap.size ≤ g) : Fr M w w' :=
  ⟨h.os, h.tape, h.output, h.size, fun i hi hn => h.block i hi (by simp; exact ⟨by omega, hn⟩)⟩
theorem Fr.below {M : List Nat} {B : Nat} {w0 w w' : World} (hb : Below B w0 w) (hB : B ≤ w.heap.size) (h : Fr M w w') (hM : ∀ i, i ∈ M → B ≤ i) : Below B w0 w' :=
  hb.trans ⟨h.os, h.tape, h.output, h.size, fun i hi => h.block i (by omega) fun hm => by have := hM i hm; omega⟩
theorem Blk.fr {M : List Nat} {w w' : World} {g : Nat} {cs : Array Value} {t : TypeId} (h : Blk w g cs t) (hf : Fr M w w') (hg : g ∉ M) : Blk w' g cs t := (hf.block g h.lt hg).trans h
theorem Fr.cell {M : List Nat} {w w' : World} (h : Fr M w w') {b o : Nat} (hb : b < w.heap.size) (hM : b ∉ M) : w'.cell? ⟨b, o, none⟩ = w.cell? ⟨b, o, none⟩ := by
  have := h.block b hb hM
  simp [World.cell?, this]
/-- Blocks that are known whole. -/
def Keep (w : World) (l : List (Nat × Array Value × TypeId)) : Prop := ∀ p, p ∈ l → Blk w p.1 p.2.1 p.2.2
theorem Keep.nil (w : World) : Keep w [] := fun p hp => by cases hp
theorem Keep.cons {w : World} {l : List (Nat × Array Value × TypeId)} {g : Nat} {cs : Array Value} {t : TypeId} (h : Keep w l) (hb : Blk w g cs t) : Keep w ((g, cs, t) :: l) := by
  intro p hp
  rcases List.mem_cons.1 hp with rfl | hp
  · exact hb
  · exact h p hp
theorem Keep.fr {M : List Nat} {w w' : World} {l : List (Nat × Array Value × TypeId)} (h : Keep w l) (hf : Fr M w w') (hd : ∀ p, p ∈ l → p.1 ∉ M) : Keep w' l := fun p hp => (h p hp).fr hf (hd p hp)
theorem Keep.new {w : World} {l : List (Nat × Array Value × TypeId)} (h : Keep w l) (cs : Array Value) (t : TypeId) : Keep (w.alloc (.cells cs t)) ((w.heap.size, cs, t) :: l) :=
  Keep.cons (fun p hp => (h p hp).alloc _) (Blk.new w cs t)
theorem Keep.below {w w' : World} {l : List (Nat × Array Value × TypeId)} (h : Keep w l) (hb : Below w.heap.size w w') : Keep w' l := fun p hp => (h p hp).below hb
end Go.Proofs.YtbkgcfoilgggjaaDoor
