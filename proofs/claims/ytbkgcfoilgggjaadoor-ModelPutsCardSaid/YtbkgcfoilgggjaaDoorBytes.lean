/- Slices of bytes: what they read as, slices.Clone of them. -/
import Derived.Test.YtbkgcfoilgggjaaDoorHeap
import Derived.Test.YtbkgcfoilgggjaaDoorRows
import Derived.Lib.ConvBytes
import Derived.Laws.BytesArg
set_option linter.unusedVariables false
set_option linter.unusedSimpArgs false
namespace Go.Proofs.YtbkgcfoilgggjaaDoor
open Go.RowKit

abbrev Bs := List UInt8
def bc (l : Bs) : List Value := l.map fun b => .int .u8 b.toNat
theorem bc_length (l : Bs) : (bc l).length = l.length := by simp [bc]
theorem bc_append (l m : Bs) : bc (l ++ m) = bc l ++ bc m := by simp [bc]
theorem bc_one (l : Bs) : ∀ u ∈ bc l, u.oneCell' = true := by
  intro u hu
  simp only [bc, List.mem_map] at hu
  obtain ⟨b, _, rfl⟩ := hu
  rfl
def RB (w : World) (v : Value) (l : Bs) : Prop := Rds w 1 v l.length (bc l)
def OB (w : World) (base : Nat) (v : Value) (l : Bs) : Prop := w.ownsRow base 5 1 v l.length (bc l)
theorem RB.below {w w1 : World} {v : Value} {l : Bs} (h : RB w v l) (hb : Below w.heap.size w w1) : RB w1 v l := Rds.below h hb
theorem OB.rb {w : World} {base : Nat} {v : Value} {l : Bs} (h : OB w base v l) : RB w v l := Rds.of_own h
theorem OB.alloc {w : World} {base : Nat} {v : Value} {l : Bs} (h : OB w base v l) (o : Obj) : OB (w.alloc o) base v l := World.ownsRow.alloc h o
theorem RB.alloc {w : World} {v : Value} {l : Bs} (h : RB w v l) (o : Obj) : RB (w.alloc o) v l := Rds.below h ((Below.refl _ _).alloc (Nat.le_refl _) o)
theorem RB.drew {w : World} {v : Value} {l : Bs} (h : RB w v l) : RB w.drew v l := h
theorem OB.drew {w : World} {base : Nat} {v : Value} {l : Bs} (h : OB w base v l) : OB w.drew base v l := h
theorem OB.nil (w : World) (base : Nat) : OB w base (.slice none 0 0) [] := World.ownsRow_nil w base _ 1
theorem RB.nil (w : World) : RB w (.slice none 0 0) [] := (OB.nil w 0).rb
theorem OB.mono {w : World} {b b' : Nat} {v : Value} {l : Bs} (h : OB w b v l) (hb : b' ≤ b) : OB w b' v l := by
  refine ⟨h.1, ?_⟩
  rcases h.2 with h | ⟨g, cap, cur, rfl, hg, h⟩
  · exact .inl h
  · exact .inr ⟨g, cap, cur, rfl, by omega, h⟩
theorem OB.kept {w w1 : World} {base : Nat} {v : Value} {l : Bs} (h : OB w base v l) (hb : Below w.heap.size w w1) : OB w1 base v l :=
  World.ownsRow.kept h (row := none) ⟨hb.os, hb.tape, hb.output, hb.size, fun i hi _ => hb.block i hi⟩ (by cases v.ownBlock <;> simp)
theorem OB.base_le {w : World} {base : Nat} {v : Value} {l : Bs} (h : OB w base v l) : ∀ k, v.ownBlock = some k → base ≤ k := fun k hk => (World.ownsRow.lt h k hk).1
theorem RB.len {w : World} {v : Value} {l : Bs} (h : RB w v l) : l.length ≤ 9223372036854775807 := by have := h.2.1; unfold maxLen at this; exact this
/-- A slice that is read, opened. -/
theorem RB.open {w : World} {v : Value} {l : Bs} (h : RB w v l) : (v = .slice none 0 0 ∧ l = []) ∨
    ∃ b off c, v = .slice (some ⟨b, off, none⟩) l.length c ∧ l.length ≤ c ∧ ∀ (j : Nat) (hj : j < l.length), w.cell? ⟨b, off + j, none⟩ = some (.int .u8 (l[j]).toNat) := by
  rcases h.2.2 with ⟨h1, h2⟩ | ⟨b, off, c, hv, hc, hx⟩
  · exact .inl ⟨h1, List.eq_nil_of_length_eq_zero h2⟩
  · exact .inr ⟨b, off, c, hv, hc, fun j hj => hx j _ (by simp [bc, hj])⟩

/-- An error as a value: 0 is nil; else an Errno. -/
def errV (n : Int) : Value := if n = 0 then .nilIface else .iface 52 (.int .i64 n)
theorem errV_zero : errV 0 = .nilIface := rfl
theorem errV_ne {n : Int} (h : n ≠ 0) : errV n = .iface 52 (.int .i64 n) := by simp [errV, h]
theorem errT : Tryd.prog.underlying 28 = some (.interface (Tryd.prog.methodsAt 28)) := by kernel_rfl
@[go_sem] theorem run_eql_errV (n : Int) (w : World) : (binOp .eql 28 (errV n) .nilIface).run Tryd.prog w = .ok (.bool (n == 0)) w := by
  by_cases h : n = 0
  · subst h; rw [errV_zero, run_eql_nil_nil w 28 errT]; rfl
  · rw [errV_ne h, run_eql_held_nil w _ _ _ errT]; simp [h]
@[go_sem] theorem run_neq_errV (n : Int) (w : World) : (binOp .neq 28 (errV n) .nilIface).run Tryd.prog w = .ok (.bool (!(n == 0))) w := by
  by_cases h : n = 0
  · subst h; rw [errV_zero, run_neq_nil_nil w 28 errT]; rfl
  · rw [errV_ne h, run_neq_held_nil w _ _ _ errT]; simp [h]
@[go_sem] theorem eqGuard_errV_eql (t : TypeId) (x : Operand) (v : Value) (n : Int) : eqGuard .eql t x (.const v) (errV n) .nilIface = pure () := by
  by_cases h : n = 0
  · subst h; cases x <;> rfl
  · rw [errV_ne h]; rfl
@[go_sem] theorem eqGuard_errV_neq (t : TypeId) (x : Operand) (v : Value) (n : Int) : eqGuard .neq t x (.const v) (errV n) .nilIface = pure () := by
  by_cases h : n = 0
  · subst h; cases x <;> rfl
  · rw [errV_ne h]; rfl
theorem Tu8 : (Tryd.prog.info? 5).map (fun i => (i.zero, i.size, i.bytes)) = some (some (.int .u8 0), 1, 1) := by kernel_rfl

/-- append, at bytes. -/
theorem wpList_appB {w : World} {ops : Array Oper} {rest : List Oper} {o : Oper} {a : Act} {Q : Exit → Act → World → Prop} (s x : Operand) 
    (base : Nat) (v : Value) (l : Bs) (hown : OB w base v l) (y : Value) (m : Bs) (hsrc : RB w y m) (hbytes : l.length + m.length ≤ 140737488355328) (hbase : base ≤ w.heap.size)
    (hgd : o.guard = none) (ho : o.op = .call { callee := .builtin .append, args := #[s, x], argTypes := #[87, 87] })
    (hs : a.eval s = v) (hx : a.eval x = y) 
    (h : ∀ v' w', OB w' base v' (l ++ m) → w.grownBy w' v.ownBlock → wpList Tryd.prog ops Q rest (a.put o.dst v') w') : wpList Tryd.prog ops Q (o :: rest) a w := by
  obtain ⟨i0, hi, hz0, hz1, hz2⟩ := info_parts Tu8
  refine wpList_app hgd s x _ ho base _ i0 _ 1 1 Tryd.underlying87 hi hz0 hz1 hz2 rfl (by decide) v l.length (bc l) hs hown y m.length (bc m) hx hsrc (bc_one _) (by unfold maxLen; omega) (by omega) hbase ?_
  intro v' w' h1 h2
  refine h v' w' ?_ h2
  unfold OB
  rw [List.length_append, bc_append]
  exact h1

def u8 (x : Int) : UInt8 := UInt8.ofNat x.toNat
theorem u8_toNat {x : Int} (h0 : 0 ≤ x) (h1 : x < 256) : ((u8 x).toNat : Int) = x := by
  unfold u8; rw [UInt8.toNat_ofNat']; omega
/-- append of one byte that the statement itself lays in a new block. -/
theorem wpList_pushB {W0 W : World} {ops : Array Oper} {rest : List Oper} {o : Oper} {a : Act} {Q : Exit → Act → World → Prop} (s x : Operand) 
    (base : Nat) (v : Value) (l : Bs) (c : Int) (hown : OB W base v l) (hc0 : 0 ≤ c) (hc1 : c < 256) (hbytes : l.length < 140737488355328) (hb : Below base W0 W) (hbase : base ≤ W.heap.size)
    (hgd : o.guard = none) (ho : o.op = .call { callee := .builtin .append, args := #[s, x], argTypes := #[87, 87] })
    (hs : a.eval s = v) (hx : a.eval x = .slice (some ⟨W.heap.size, 0, none⟩) 1 1) 
    (h : ∀ v' w', OB w' base v' (l ++ [u8 c]) → Below base W0 w' → W.grownBy w' v.ownBlock → wpList Tryd.prog ops Q rest (a.put o.dst v') w') : wpList Tryd.prog ops Q (o :: rest) a (W.alloc (.cells #[.int .u8 c] 5)) := by
  have e : bc [u8 c] = [.int .u8 c] := by simp [bc, u8_toNat hc0 hc1]
  refine wpList_appB s x base v l (hown.alloc _) (.slice (some ⟨W.heap.size, 0, none⟩) 1 1) [u8 c] ?_ (by simp; omega) (by simp; omega) hgd ho hs hx ?_
  · unfold RB
    rw [e]
    exact Rds.fresh W 1 1 _ [.int .u8 c] rfl (by unfold maxLen; omega)
  · intro v' w' h1 h2
    have hg : W.grownBy w' v.ownBlock := ⟨h2.os, h2.tape, h2.output, Nat.le_trans (by simp) h2.size, fun k hk hne => (h2.block k (by simp; omega) hne).trans (Below.heap_alloc W _ k hk)⟩
    exact h v' w' h1 (hb.grown hg hbase (fun k hk => hown.base_le k hk)) hg

theorem elemB : Tryd.prog.elem 87 = 5 := by kernel_rfl
theorem szB (w : World) : (sizeOf (Tryd.prog.elem 87)).run Tryd.prog w = .ok 1 w := by
  obtain ⟨i0, hi, hz0, hz1, hz2⟩ := info_parts Tu8
  rw [elemB, run_sizeOf hi, hz1]
theorem undB : Tryd.prog.underlying 87 = some (.slice (Tryd.prog.elem 87)) := by rw [elemB]; exact Tryd.underlying87
/-- b[k:] and b[:k]. -/
theorem wpList_loB {w : World} {ops : Array Oper} {rest : List Oper} {o : Oper} {a : Act} {Q : Exit → Act → World → Prop} (x lo : Operand) (v : Value) (l : Bs) (k : Nat) (kk : IntKind)
    (hr : RB w v l) (hk : k ≤ l.length)
    (hgd : o.guard = none) (ho : o.op = .slice 87 x (some lo) none none) (hx : a.eval x = v) (hlo : a.eval lo = .int kk k)
    (h : ∀ v', RB w v' (l.drop k) → (∃ A c, v' = .slice A (l.length - k) c) → v'.ownBlock = v.ownBlock → wpList Tryd.prog ops Q rest (a.put o.dst v') w) : wpList Tryd.prog ops Q (o :: rest) a w :=
  wpList_sliceLo x lo _ v l.length 1 (bc l) k kk hr hk undB (szB w) hgd ho hx hlo fun v' h1 h2 h3 => h v' (by
    unfold RB
    rw [List.length_drop]
    simpa [bc] using h1) h2 h3
theorem wpList_hiB {w : World} {ops : Array Oper} {rest : List Oper} {o : Oper} {a : Act} {Q : Exit → Act → World → Prop} (x hi : Operand) (v : Value) (l : Bs) (k : Nat) (kk : IntKind)
    (hr : RB w v l) (hk : k ≤ l.length)
    (hgd : o.guard = none) (ho : o.op = .slice 87 x none (some hi) none) (hx : a.eval x = v) (hlo : a.eval hi = .int kk k)
    (h : ∀ v', RB w v' (l.take k) → (∃ A c, v' = .slice A k c) → v'.ownBlock = v.ownBlock → wpList Tryd.prog ops Q rest (a.put o.dst v') w) : wpList Tryd.prog ops Q (o :: rest) a w :=
  wpList_sliceHi x hi _ v l.length 1 (bc l) k kk hr hk undB (szB w) hgd ho hx hlo fun v' h1 h2 h3 => h v' (by
    unfold RB
    rw [List.length_take, Nat.min_eq_left hk]
    simpa [bc] using h1) h2 h3

theorem strOfNums_bs (l : Bs) : strOfNums (l.map fun x => (x.toNat : Int)) = ⟨l.toArray⟩ := by
  have : (l.map fun x => (x.toNat : Int)).map (fun n => UInt8.ofNat n.toNat) = l := by
    induction l with
    | nil => rfl
    | cons x l ih => simp only [List.map_cons, ih, Int.toNat_natCast, UInt8.ofNat_toNat]
  unfold strOfNums
  rw [this]
/-- string(b). -/
theorem conv_str {w : World} {v : Value} {l : Bs} (h : RB w v l) : (convert 87 9 v).run Tryd.prog w = .ok (.string ⟨l.toArray⟩) w := by
  rcases h.2.2 with ⟨rfl, h2⟩ | ⟨b, off, c, rfl, hc, hx⟩
  · obtain rfl : l = [] := List.eq_nil_of_length_eq_zero h2
    exact run_convert_bytes_nil w _ _ Tryd.underlying87 Tryd.underlying5 0 0 _ Tryd.underlying9
  · have hr := run_convert_bytes_arg w _ _ Tryd.underlying87 Tryd.underlying5 b off l.length c (l.map fun x => (x.toNat : Int)) (by simp) (fun i hi => hx i _ (by simp [bc, hi, List.getD])) _ Tryd.underlying9
    rw [hr, strOfNums_bs]
/-- []byte(s): the bytes lie in a new block. -/
theorem conv_run (w : World) (s : ByteArray) : (convert 9 87 (.string s)).run Tryd.prog w = .ok (.slice (some ⟨w.heap.size, 0, none⟩) s.size (grownCap w s.size 0 5)) (Lib.bytesWorld w 5 s) :=
  Lib.run_convert_string_bytes w _ _ _ s Tryd.underlying9 Tryd.underlying87 Tryd.underlying5
theorem conv_below (w : World) (e : TypeId) (s : ByteArray) : Below w.heap.size w (Lib.bytesWorld w e s) :=
  ⟨by simp [Lib.bytesWorld, World.freeze]; rfl, by simp [Lib.bytesWorld, World.freeze], by simp [Lib.bytesWorld, World.freeze]; rfl, by rw [Lib.bytesWorld_size]; omega, fun k hk => Lib.bytesWorld_at_old w e s k hk⟩
theorem conv_rb (w : World) (l : Bs) (n : Nat) (hn : n = l.length) (s : ByteArray) (hs : s.data.toList = l) (hm : l.length ≤ maxLen) : RB (Lib.bytesWorld w 5 s) (.slice (some ⟨w.heap.size, 0, none⟩) n (grownCap w n 0 5)) l := by
  subst hn
  have hsz : s.size = l.length := by rw [← hs, Array.length_toList]; rfl
  refine ⟨by rw [bc_length, Nat.mul_one], hm, .inr ⟨_, 0, _, rfl, grownCap_ge _ _ _ _, fun j u hj => ?_⟩⟩
  have hj2 : j < l.length := by
    have := (List.getElem?_eq_some_iff.1 hj).1
    simpa [bc] using this
  rw [Nat.zero_add, Lib.bytesWorld_cell w _ s j (by omega), hs]
  simp [bc, hj2] at hj
  simp [hj2, hj, List.getD]

set_option maxHeartbeats 400000 in
theorem clone_nil (w : World) : Calls Tryd.prog 55 #[.slice none 0 0] w fun e w' => e = .returned (.slice none 0 0) ∧ w' = w := by
  have q : ∀ (w : World) (a : Option Addr) (n c n' c' : Nat), (binOp .eql 87 (.slice a n c) (.slice none n' c')).run Tryd.prog w = .ok (.bool a.isNone) w := fun w a n c n' c' => Lib.run_eql_slice_nil w _ _ a n c n' c' Tryd.underlying87
  go_enter Tryd.func55, Tryd.ntmps55
  go_wp2
  go_ret
  exact ⟨rfl, rfl⟩

/-- slices.Clone of bytes. -/
theorem clone_any (v : Value) (l : Bs) (w : World) (h : RB w v l) (hl : l.length ≤ 140737488355328) :
    Calls Tryd.prog 55 #[v] w fun e w' => ∃ v', e = .returned v' ∧ OB w' w.heap.size v' l ∧ Below w.heap.size w w' := by
  rcases h.2.2 with ⟨rfl, h2⟩ | ⟨b, off, c, hv, hc, hx⟩
  · obtain rfl : l = [] := List.eq_nil_of_length_eq_zero h2
    refine (clone_nil w).mono ?_
    rintro e w' ⟨rfl, rfl⟩
    exact ⟨_, rfl, OB.nil _ _, Below.refl _ _⟩
  · have q : ∀ (w : World) (a : Option Addr) (n c n' c' : Nat), (binOp .eql 87 (.slice a n c) (.slice none n' c')).run Tryd.prog w = .ok (.bool a.isNone) w := fun w a n c n' c' => Lib.run_eql_slice_nil w _ _ a n c n' c' Tryd.underlying87
    have H := Lib.hid h
    have hw : RB (w.alloc (.cells #[] 5)) v l := h.alloc _
    subst hv
    have H2 := Lib.hid hw
    clear h hw hx hc
    go_enter Tryd.func55, Tryd.ntmps55
    go_wp2_with (at_builtin; refine wpList_appB (.tmp 5) (.tmp 6) w.heap.size _ [] (World.ownsRow_made w #[] 0 (Nat.le_refl _) (Nat.zero_le _) (by simp)) _ l H2.out (by simpa using hl) (by simp) rfl rfl rfl rfl ?_)
    intro v' w1 hown hgrow
    have HO := Lib.hid hown
    clear hown
    have HB := Lib.hid (((Below.refl _ w).alloc (Nat.le_refl _) _).grown hgrow (by simp) (by intro k hk; simp [Value.ownBlock] at hk; omega))
    clear hgrow
    go_wp2
    go_ret
    exact ⟨v', rfl, HO.out, HB.out⟩
end Go.Proofs.YtbkgcfoilgggjaaDoor
