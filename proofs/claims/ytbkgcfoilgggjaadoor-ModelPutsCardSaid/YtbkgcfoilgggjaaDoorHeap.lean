/- General words on memory for the walks of this seat: what a slice reads as, one law for append, carrying over. No program in sight. -/
import Derived.WalkKit
import Derived.OwnWalk
import Derived.Laws.OwnMore
import Derived.Laws.AppendOwnNone
import Derived.Lib.Hide
import Derived.Lib.SliceRun
import Derived.KernelRfl
set_option linter.unusedVariables false
set_option linter.unusedSimpArgs false
namespace Go.Proofs.YtbkgcfoilgggjaaDoor
open Go.RowKit

/-- The slice value `v` of `n` elements reads as the cells `xs`. -/
def Rds (w : World) (size : Nat) (v : Value) (n : Nat) (xs : List Value) : Prop :=
  xs.length = n * size ∧ n ≤ maxLen ∧
  ((v = .slice none 0 0 ∧ n = 0) ∨
   ∃ b off c, v = .slice (some ⟨b, off, none⟩) n c ∧ n ≤ c ∧ ∀ j u, xs[j]? = some u → w.cell? ⟨b, off + j, none⟩ = some u)

theorem lt_of_cell {w : World} {a : Addr} {u : Value} (h : w.cell? a = some u) : a.block < w.heap.size := World.block_lt_of_cell? w a h

theorem Rds.below {w w1 : World} {size n : Nat} {v : Value} {xs : List Value} (h : Rds w size v n xs) (hb : Below w.heap.size w w1) : Rds w1 size v n xs := by
  obtain ⟨h1, h2, h3⟩ := h
  refine ⟨h1, h2, ?_⟩
  rcases h3 with h3 | ⟨b, off, c, hv, hc, hx⟩
  · exact .inl h3
  · exact .inr ⟨b, off, c, hv, hc, fun j u hj => (hb.cell (lt_of_cell (hx j u hj))).trans (hx j u hj)⟩

theorem Rds.len {w : World} {size n : Nat} {v : Value} {xs : List Value} (h : Rds w size v n xs) : xs.length = n * size := h.1
theorem Rds.form {w : World} {size n : Nat} {v : Value} {xs : List Value} (h : Rds w size v n xs) : ∃ A c, v = .slice A n c := by
  rcases h.2.2 with ⟨rfl, rfl⟩ | ⟨b, off, c, rfl, _⟩
  · exact ⟨_, _, rfl⟩
  · exact ⟨_, _, rfl⟩

theorem Rds.of_own {w : World} {base n size : Nat} {e : TypeId} {v : Value} {xs : List Value} (h : w.ownsRow base e size v n xs) : Rds w size v n xs := by
  refine ⟨h.1, ?_, ?_⟩
  · rcases h.2 with ⟨_, h1⟩ | ⟨g', cap', cur, he, _, _, h1, h2, _⟩
    · omega
    · omega
  · rcases h.2 with ⟨h0, h1⟩ | ⟨g, cap, cur, rfl, _, hh, h1, h2, h3, h4⟩
    · exact .inl ⟨h0, h1⟩
    · refine .inr ⟨g, 0, cap, rfl, h1, fun j u hj => ?_⟩
      have := h.cells (g := g) rfl j u hj
      rw [Addr.add_lit] at this; simpa using this

/-- One law for append onto a slice of the call's own, whatever is appended. -/
theorem run_app {P : Program} {w : World} (base : Nat) (t ty e : TypeId) (i : TypeInfo) (z : Value) (size bytes : Nat) (ht : P.underlying t = some (.slice e)) (hi : P.info? e = some i) (hz : i.zero = some z)
    (hsize : i.size = size) (hby : i.bytes = bytes) (hzs : z.cells.size = size) (hsz : 0 < size)
    (v : Value) (n : Nat) (xs : List Value) (hown : w.ownsRow base e size v n xs)
    (y : Value) (m : Nat) (news : List Value) (hsrc : Rds w size y m news) (h1 : ∀ u ∈ news, u.oneCell' = true)
    (h63 : n + m ≤ maxLen) (hbytes : (n + m) * bytes ≤ 140737488355328) (hbase : base ≤ w.heap.size) :
    ∃ v' w', (Builtin.append_ #[t, t] ty #[v, y]).run P w = .ok v' w' ∧ w'.ownsRow base e size v' (n + m) (xs ++ news) ∧ w.grownBy w' v.ownBlock := by
  rcases hsrc.2.2 with ⟨rfl, rfl⟩ | ⟨b, off, c, rfl, hc, hx⟩
  · have hn : news = [] := List.eq_nil_of_length_eq_zero (by have := hsrc.1; simpa using this)
    subst hn
    exact ⟨v, w, run_append_owned_none (P := P) (w := w) base t ty e i size ht hi v n xs hown, by simpa using hown, ⟨rfl, rfl, rfl, Nat.le_refl _, fun _ _ _ => rfl⟩⟩
  · obtain ⟨v', w', hr, h2, h3, _⟩ := run_append_own (P := P) w base t ty e i z size bytes ht hi hz hsize hby hzs hsz v n xs hown ⟨b, off, none⟩ m c news hsrc.1 (fun j u hj => by rw [Addr.add_lit]; exact hx j u hj) h1 h63 hbytes hbase
    exact ⟨v', w', hr, h2, h3⟩

theorem wpList_app {P : Program} {w : World} {ops : Array Oper} {rest : List Oper} {o : Oper} {a : Act} {Q : Exit → Act → World → Prop} (hgd : o.guard = none) (s x : Operand) (t : TypeId)
    (ho : o.op = .call { callee := .builtin .append, args := #[s, x], argTypes := #[t, t] })
    (base : Nat) (e : TypeId) (i : TypeInfo) (z : Value) (size bytes : Nat) (ht : P.underlying t = some (.slice e)) (hi : P.info? e = some i) (hz : i.zero = some z)
    (hsize : i.size = size) (hby : i.bytes = bytes) (hzs : z.cells.size = size) (hsz : 0 < size)
    (v : Value) (n : Nat) (xs : List Value) (hs : a.eval s = v) (hown : w.ownsRow base e size v n xs)
    (y : Value) (m : Nat) (news : List Value) (hx : a.eval x = y) (hsrc : Rds w size y m news) (h1 : ∀ u ∈ news, u.oneCell' = true)
    (h63 : n + m ≤ maxLen) (hbytes : (n + m) * bytes ≤ 140737488355328) (hbase : base ≤ w.heap.size)
    (h : ∀ v' w', w'.ownsRow base e size v' (n + m) (xs ++ news) → w.grownBy w' v.ownBlock → wpList P ops Q rest (a.put o.dst v') w') : wpList P ops Q (o :: rest) a w := by
  obtain ⟨v', w', hr, h2, h3⟩ := run_app (P := P) (w := w) base t o.type e i z size bytes ht hi hz hsize hby hzs hsz v n xs hown y m news hsrc h1 h63 hbytes hbase
  refine wpList_plain hgd fun K hK => ?_
  unfold Oper.wp execOp
  simp only [ho, resolve, invoke, builtin, Sem.run_bind, Sem.run_pure, Result.andThen_ok, List.map_toArray, List.map_cons, List.map_nil, hs, hx, hr]
  exact hK _ _ (h v' w' h2 h3)

/-- A new block of the cells `xs` read as a slice. -/
theorem Rds.fresh (w : World) (size m : Nat) (e : TypeId) (xs : List Value) (hl : xs.length = m * size) (hm : m ≤ maxLen) :
    Rds (w.alloc (.cells xs.toArray e)) size (.slice (some ⟨w.heap.size, 0, none⟩) m m) m xs := by
  refine ⟨hl, hm, .inr ⟨_, _, _, rfl, Nat.le_refl _, fun j u hj => ?_⟩⟩
  rw [World.cell?_alloc_at _ _ _ _ rfl]
  simpa using hj

theorem below_alloc {w W : World} (h : Below w.heap.size w W) (o : Obj) : Below w.heap.size w (W.alloc o) := h.alloc h.size o
theorem below_then {B : Nat} {w w1 w2 : World} (h : Below B w w1) (hB : B ≤ w1.heap.size) (k : Below w1.heap.size w1 w2) : Below B w w2 :=
  h.trans ⟨k.os, k.tape, k.output, k.size, fun i hi => k.block i (Nat.lt_of_lt_of_le hi hB)⟩

theorem Rds.dropS {w : World} {A : Option Addr} {m c : Nat} {size n : Nat} {xs : List Value} (h : Rds w size (.slice A m c) n xs) (k : Nat) (hk : k ≤ n) :
    m = n ∧ Rds w size (sliced A k m c size) (n - k) (xs.drop (k * size)) := by
  obtain ⟨h1, h2, h3⟩ := h
  rcases h3 with ⟨h3, h4⟩ | ⟨b, off, c', hv, hc, hx⟩
  · injection h3 with a1 a2 a3
    subst a1 a2 a3 h4
    obtain rfl : k = 0 := by omega
    refine ⟨rfl, by simp [h1], by omega, .inl ⟨by simp [sliced], rfl⟩⟩
  · injection hv with a1 a2 a3
    subst a1 a2 a3
    refine ⟨rfl, by rw [List.length_drop, h1, Nat.sub_mul], by omega, .inr ?_⟩
    by_cases e : c = k
    · refine ⟨b, off, c - k, by simp [sliced, e], by omega, fun j u hj => ?_⟩
      have : xs.drop (k * size) = [] := List.drop_of_length_le (by rw [h1]; exact Nat.mul_le_mul_right _ (by omega))
      rw [this] at hj; simp at hj
    · refine ⟨b, off + k * size, c - k, by simp [sliced, e, Addr.add_lit], by omega, fun j u hj => ?_⟩
      rw [Nat.add_assoc]
      refine hx (k * size + j) u ?_
      simpa [List.getElem?_drop] using hj
theorem Rds.takeS {w : World} {A : Option Addr} {m c : Nat} {size n : Nat} {xs : List Value} (h : Rds w size (.slice A m c) n xs) (k : Nat) (hk : k ≤ n) :
    Rds w size (sliced A 0 k c size) k (xs.take (k * size)) := by
  obtain ⟨h1, h2, h3⟩ := h
  have e1 : (xs.take (k * size)).length = k * size := by rw [List.length_take, h1]; exact Nat.min_eq_left (Nat.mul_le_mul_right _ hk)
  rcases h3 with ⟨h3, h4⟩ | ⟨b, off, c', hv, hc, hx⟩
  · injection h3 with a1 a2 a3
    subst a1 a2 a3 h4
    obtain rfl : k = 0 := by omega
    exact ⟨e1, by omega, .inl ⟨by simp [sliced], rfl⟩⟩
  · injection hv with a1 a2 a3
    subst a1 a2 a3
    refine ⟨e1, by omega, .inr ⟨b, off, c, ?_, by omega, fun j u hj => ?_⟩⟩
    · simp [sliced, Addr.add]
    · have hj2 : j < k * size := by
        have := (List.getElem?_eq_some_iff.1 hj).1
        omega
      rw [List.getElem?_take_of_lt hj2] at hj
      exact hx j u hj
theorem ownBlock_sliced (A : Option Addr) (l h m s n c : Nat) : (sliced A l h m s).ownBlock = (Value.slice A n c).ownBlock := by
  unfold sliced
  cases A with
  | none => by_cases e : m = l <;> simp [e, Value.ownBlock]
  | some a => by_cases e : m = l <;> simp [e, Value.ownBlock, Addr.add]; split <;> rfl
theorem run_sizeOf {P : Program} {e : TypeId} {i : TypeInfo} (hi : P.info? e = some i) (w : World) : (sizeOf e).run P w = .ok i.size w := by
  simp [sizeOf, typeInfo, hi]
/-- x[k:] of a slice that reads. -/
theorem wpList_sliceLo {P : Program} {w : World} {ops : Array Oper} {rest : List Oper} {o : Oper} {a : Act} {Q : Exit → Act → World → Prop} (x lo : Operand) (t : TypeId) (v : Value) (n size : Nat) (xs : List Value) (k : Nat) (kk : IntKind)
    (hr : Rds w size v n xs) (hk : k ≤ n) (ht : P.underlying t = some (.slice (P.elem t))) (hsz : (sizeOf (P.elem t)).run P w = .ok size w)
    (hgd : o.guard = none) (ho : o.op = .slice t x (some lo) none none) (hx : a.eval x = v) (hlo : a.eval lo = .int kk k)
    (h : ∀ v', Rds w size v' (n - k) (xs.drop (k * size)) → (∃ A c, v' = .slice A (n - k) c) → v'.ownBlock = v.ownBlock → wpList P ops Q rest (a.put o.dst v') w) : wpList P ops Q (o :: rest) a w := by
  obtain ⟨A, c, rfl⟩ := hr.form
  have h2 := (hr.dropS k hk).2
  have hrun := run_slice_l (P := P) w t A n c ht kk (k : Int) (by omega) (by omega)
  rw [hsz] at hrun
  refine wpList_plain hgd fun K hK => ?_
  unfold Oper.wp execOp
  simp only [ho, Sem.run_bind, Sem.run_pure, Result.andThen_ok, hx, hlo, hrun, Option.map_some, Option.map_none, run_sliceAt_slice w t _ _ _ _ ht, Int.toNat_natCast]
  exact hK _ _ (h _ h2 ⟨_, _, rfl⟩ (ownBlock_sliced _ _ _ _ _ _ _))
/-- x[:k]. -/
theorem wpList_sliceHi {P : Program} {w : World} {ops : Array Oper} {rest : List Oper} {o : Oper} {a : Act} {Q : Exit → Act → World → Prop} (x hi : Operand) (t : TypeId) (v : Value) (n size : Nat) (xs : List Value) (k : Nat) (kk : IntKind)
    (hr : Rds w size v n xs) (hk : k ≤ n) (ht : P.underlying t = some (.slice (P.elem t))) (hsz : (sizeOf (P.elem t)).run P w = .ok size w)
    (hgd : o.guard = none) (ho : o.op = .slice t x none (some hi) none) (hx : a.eval x = v) (hlo : a.eval hi = .int kk k)
    (h : ∀ v', Rds w size v' k (xs.take (k * size)) → (∃ A c, v' = .slice A k c) → v'.ownBlock = v.ownBlock → wpList P ops Q rest (a.put o.dst v') w) : wpList P ops Q (o :: rest) a w := by
  obtain ⟨A, c, rfl⟩ := hr.form
  have hkc : k ≤ c := by
    rcases hr.2.2 with ⟨h3, h4⟩ | ⟨b, off, c', hv, hc, hx⟩
    · omega
    · injection hv with a1 a2 a3
      omega
  have h2 := hr.takeS k hk
  have hrun := run_slice_h (P := P) w t A n c ht kk (k : Int) (by omega) (by omega)
  rw [hsz] at hrun
  refine wpList_plain hgd fun K hK => ?_
  unfold Oper.wp execOp
  simp only [ho, Sem.run_bind, Sem.run_pure, Result.andThen_ok, hx, hlo, hrun, Option.map_some, Option.map_none, run_sliceAt_slice w t _ _ _ _ ht, Int.toNat_natCast]
  exact hK _ _ (h _ h2 ⟨_, _, rfl⟩ (ownBlock_sliced _ _ _ _ _ _ _))

theorem undrew {B : Nat} {w w1 : World} (h : Below B w.drew w1) : Below B w w1 := ⟨h.os, h.tape, h.output, h.size, h.block⟩
/-- A block that is known whole. -/
def Blk (w : World) (g : Nat) (cs : Array Value) (t : TypeId) : Prop := w.heap[g]? = some (.cells cs t (0, 0))
theorem Blk.cell {w : World} {g : Nat} {cs : Array Value} {t : TypeId} (h : Blk w g cs t) (o : Nat) : w.cell? ⟨g, o, none⟩ = cs[o]? := by
  unfold Blk at h; simp [World.cell?, h]
theorem Blk.frozen {w : World} {g : Nat} {cs : Array Value} {t : TypeId} (h : Blk w g cs t) (o : Nat) : w.frozen? ⟨g, o, none⟩ = false := by
  unfold Blk at h; simp [World.frozen?, h]
theorem Blk.lt {w : World} {g : Nat} {cs : Array Value} {t : TypeId} (h : Blk w g cs t) : g < w.heap.size := (Array.getElem?_eq_some_iff.1 h).1
theorem Blk.below {w w1 : World} {g : Nat} {cs : Array Value} {t : TypeId} (h : Blk w g cs t) (hb : Below w.heap.size w w1) : Blk w1 g cs t := (hb.block g h.lt).trans h
theorem Blk.new (w : World) (cs : Array Value) (t : TypeId) : Blk (w.alloc (.cells cs t)) w.heap.size cs t := heap_alloc_new w _
theorem Blk.drew {w : World} {g : Nat} {cs : Array Value} {t : TypeId} (h : Blk w g cs t) : Blk w.drew g cs t := h
theorem bcell {W w1 : World} (hb : Below W.heap.size W w1) : (∀ b o, b < W.heap.size → w1.cell? ⟨b, o, none⟩ = W.cell? ⟨b, o, none⟩) ∧ (∀ b o, b < W.heap.size → w1.frozen? ⟨b, o, none⟩ = W.frozen? ⟨b, o, none⟩) :=
  ⟨fun b o h => hb.cell (p := ⟨b, o, none⟩) h, fun b o h => hb.frozen (p := ⟨b, o, none⟩) h⟩

theorem below_a1 (w : World) (o : Obj) : Below w.heap.size w (w.alloc o) := (Below.refl _ _).alloc (Nat.le_refl _) o
theorem Blk.set {w : World} {g : Nat} {cs : Array Value} {t : TypeId} (h : Blk w g cs t) (o : Nat) (u : Value) : Blk (w.setCell ⟨g, o, none⟩ u) g (cs.setIfInBounds o u) t := by
  unfold Blk at *
  simp [World.setCell, Array.getElem?_modify, h]
theorem Blk.far {w : World} {g : Nat} {cs : Array Value} {t : TypeId} (h : Blk w g cs t) {p : Addr} (hp : g ≠ p.block) (u : Value) : Blk (w.setCell p u) g cs t := by
  unfold Blk at *
  rw [Below.heap_setCell w p u g hp]; exact h
theorem grown_setCell (w : World) (g o : Nat) (u : Value) : w.grownBy (w.setCell ⟨g, o, none⟩ u) (some g) :=
  ⟨rfl, rfl, rfl, by simp [World.setCell], fun k hk hne => Below.heap_setCell w _ u k (by simpa using hne)⟩
theorem grown_trans {w w1 w2 : World} {r : Option Nat} (h : w.grownBy w1 r) (k : w1.grownBy w2 r) : w.grownBy w2 r :=
  ⟨k.os.trans h.os, k.tape.trans h.tape, k.output.trans h.output, Nat.le_trans h.size k.size, fun i hi hne => (k.block i (Nat.lt_of_lt_of_le hi h.size) hne).trans (h.block i hi hne)⟩
theorem grown_refl (w : World) (r : Option Nat) : w.grownBy w r := ⟨rfl, rfl, rfl, Nat.le_refl _, fun _ _ _ => rfl⟩
theorem grown_of_below {w w1 : World} (h : Below w.heap.size w w1) (r : Option Nat) : w.grownBy w1 r := ⟨h.os, h.tape, h.output, h.size, fun i hi _ => h.block i hi⟩
theorem Blk.grown {w w1 : World} {k g : Nat} {cs : Array Value} {t : TypeId} (h : Blk w k cs t) (hg : w.grownBy w1 (some g)) (hne : k ≠ g) : Blk w1 k cs t :=
  (hg.block k h.lt (by simpa using hne)).trans h
theorem grown_setNew {w w1 : World} {r : Option Nat} (h : w.grownBy w1 r) {a : Addr} (ha : w.heap.size ≤ a.block) (u : Value) : w.grownBy (w1.setCell a u) r :=
  ⟨h.os, h.tape, h.output, by simpa [World.setCell] using h.size, fun i hi hne => (Below.heap_setCell w1 a u i (by omega)).trans (h.block i hi hne)⟩
theorem Blk.alloc {w : World} {g : Nat} {cs : Array Value} {t : TypeId} (h : Blk w g cs t) (o : Obj) : Blk (w.alloc o) g cs t := h.below (below_a1 w o)
end Go.Proofs.YtbkgcfoilgggjaaDoor
