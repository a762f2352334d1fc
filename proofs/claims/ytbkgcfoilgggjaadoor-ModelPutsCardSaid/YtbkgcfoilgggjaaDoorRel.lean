/- A region that draws its order: first what yields in every world of a class is taken (the kit's wpAnyH_take); then each operation that is left, by what its result is good for, in whatever order; then a tail in its forced order. No program in sight. -/
import Derived.StillTail
import Derived.OrdersHeld
import Derived.Deep.RegionHeld
import Derived.WalkKit
set_option linter.unusedVariables false
set_option linter.unusedSimpArgs false
namespace Go.Proofs.YtbkgcfoilgggjaaDoor

def dstOf (ops : Array Oper) (i : Nat) : Option Tmp := (ops[i]?).bind (·.dst)
def fillA (ops : Array Oper) (R : List Nat) (f : Nat → Value) (a : Act) : Act :=
  match R with
  | [] => a
  | i :: R => (fillA ops R f a).put (dstOf ops i) (f i)
def updF (f : Nat → Value) (i : Nat) (v : Value) : Nat → Value := fun j => if j = i then v else f j
def initF (ops : Array Oper) (a : Act) (i : Nat) : Value := match dstOf ops i with | some d => a.tmps.getD d undef | none => undef

def distinctB (ops : Array Oper) : List Nat → Bool
  | [] => true
  | i :: R => R.all (fun j => decide (i ≠ j) && (match dstOf ops i, dstOf ops j with | some d, some e => d != e | _, _ => true)) && distinctB ops R
def forwardB (ops : Array Oper) (n : Nat) : Bool :=
  (List.range n).all fun i => match ops[i]? with | some o => o.after.all (fun e => !Region.binds .any e || decide (e.on < i)) | none => false
def closedB (ops : Array Oper) (listed : Array Bool) : Bool :=
  (List.range ops.size).all fun j => !listed.getD j false || (match ops[j]? with | some o => o.after.all (fun e => !Region.binds .any e || listed.getD e.on false) | none => true)
def relB (ops : Array Oper) (n : Nat) (R : List Nat) (listed : Array Bool) (fuel : Nat) : Bool :=
  distinctB ops R && forwardB ops n && decide (n ≤ ops.size) && (decide (n = ops.size) || (Region.sinkB .any ops n && Region.chainB .any ops n)) &&
    Region.seqB .any ops (ops.size - n) n (Array.ofFn (n := ops.size) fun i => decide (i.val < n)) &&
    decide (listed.size = ops.size) && closedB ops listed && (List.range ops.size).all (fun i => listed.getD i true == (decide (i < n) && !R.contains i)) && R.all (fun i => decide (i < n)) && decide (fuel = R.length + (ops.size - n))

/-- The tail, one behind the other, and the class holds behind each. -/
def wpListH (P : Program) (ops : Array Oper) (Q : Exit → Act → World → Prop) (S : World → Prop) : List Oper → Act → World → Prop
  | [], a, w => Q .normal a w
  | o :: rest, a, w =>
    if Region.wanted o (yielded ops a.tmps) then o.wp P a w (fun a' w' => S w' ∧ wpListH P ops Q S rest a' w') Q ∨ (o.asks P a w ∧ LetsOut Q) else S w ∧ wpListH P ops Q S rest (a.put o.dst undef) w

section
variable {P : Program} {ops : Array Oper}

theorem put_put (a : Act) (x : Option Tmp) (v u : Value) : (a.put x v).put x u = a.put x u := by
  cases x <;> simp [Act.put]
theorem fillA_congr {R : List Nat} {f g : Nat → Value} {a : Act} (h : ∀ i, i ∈ R → f i = g i) : fillA ops R f a = fillA ops R g a := by
  induction R with
  | nil => rfl
  | cons i R ih => simp only [fillA]; rw [ih (fun j hj => h j (by simp [hj])), h i (by simp)]
theorem distinct_notin {i : Nat} {R : List Nat} (h : distinctB ops (i :: R) = true) : i ∉ R := by
  intro hi
  simp only [distinctB, Bool.and_eq_true, List.all_eq_true, decide_eq_true_eq] at h
  exact (h.1 i hi).1 rfl
theorem distinct_dst {i j d : Nat} {R : List Nat} (h : distinctB ops (i :: R) = true) (hj : j ∈ R) (hd : dstOf ops j = some d) : dstOf ops i ≠ some d := by
  intro he
  simp only [distinctB, Bool.and_eq_true, List.all_eq_true, decide_eq_true_eq] at h
  have := (h.1 j hj).2
  rw [hd, he] at this
  simp at this
theorem distinct_tail {i : Nat} {R : List Nat} (h : distinctB ops (i :: R) = true) : distinctB ops R = true := by
  simp only [distinctB, Bool.and_eq_true] at h; exact h.2
theorem fillA_put : ∀ (R : List Nat) (f : Nat → Value) (a : Act) (i : Nat) (v : Value), distinctB ops R = true → i ∈ R → (fillA ops R f a).put (dstOf ops i) v = fillA ops R (updF f i v) a
  | [], _, _, _, _, _, hi => by cases hi
  | k :: R, f, a, i, v, hd, hi => by
    simp only [fillA]
    by_cases h : i = k
    · subst h
      rw [put_put, fillA_congr (g := updF f i v) (f := f) (fun j hj => by
        have : j ≠ i := by rintro rfl; exact distinct_notin hd hj
        simp [updF, this])]
      simp [updF]
    · have hiR : i ∈ R := by
        rcases List.mem_cons.1 hi with h' | h'
        · exact absurd h' h
        · exact h'
      have hc : (updF f i v) k = f k := by simp [updF, show k ≠ i from fun e => h e.symm]
      rw [hc, ← fillA_put R f a i v (distinct_tail hd) hiR]
      exact Act.put_comm _ _ _ (fun d hdd he => distinct_dst hd hiR he hdd)
theorem fillA_init (a : Act) : ∀ R, fillA ops R (initF ops a) a = a
  | [] => rfl
  | n :: R => by
    simp only [fillA, fillA_init a R]
    unfold initF
    cases h : dstOf ops n with
    | none => rfl
    | some d =>
      simp only [Act.put]
      congr 1
      apply Array.ext
      · simp
      · intro i h1 h2
        rw [Array.getElem_setIfInBounds]
        split
        · rename_i e
          subst e
          simp [Array.getD, h2]
        · rfl

def cnt (R : List Nat) (listed : Array Bool) : Nat := match R with | [] => 0 | i :: R => cnt R listed + (if listed.getD i true = false then 1 else 0)
theorem cnt_set_not (listed : Array Bool) (i : Nat) : ∀ R, i ∉ R → cnt R (listed.setIfInBounds i true) = cnt R listed
  | [], _ => rfl
  | k :: R, h => by
    simp only [List.mem_cons, not_or] at h
    simp only [cnt]; rw [cnt_set_not listed i R h.2, getD_set_ne true h.1]
theorem cnt_set (listed : Array Bool) (i : Nat) (hl : listed.getD i true = false) : ∀ R, distinctB ops R = true → i ∈ R → cnt R (listed.setIfInBounds i true) + 1 = cnt R listed
  | [], _, h => by cases h
  | k :: R, hd, h => by
    simp only [cnt]
    by_cases e : i = k
    · subst e
      rw [cnt_set_not listed i R (distinct_notin hd), hl]
      have hlt : i < listed.size := by
        rcases Nat.lt_or_ge i listed.size with h' | h'
        · exact h'
        · simp [Array.getElem?_eq_none h'] at hl
      simp [hlt]
    · have hiR : i ∈ R := by
        rcases List.mem_cons.1 h with h' | h'
        · exact absurd h' e
        · exact h'
      have := cnt_set listed i hl R (distinct_tail hd) hiR
      rw [getD_set_ne true e]
      omega
theorem cnt_zero (listed : Array Bool) : ∀ R, cnt R listed = 0 → ∀ i, i ∈ R → listed.getD i true = true
  | [], _, i, hi => by cases hi
  | k :: R, h, i, hi => by
    simp only [cnt] at h
    rcases List.mem_cons.1 hi with e | e
    · subst e
      cases hl : listed.getD i true
      · rw [hl] at h; simp at h
      · rfl
    · exact cnt_zero listed R (by omega) i e
theorem cnt_pos (listed : Array Bool) : ∀ R k, cnt R listed = k + 1 → ∃ i, i ∈ R ∧ listed.getD i true = false
  | [], k, h => by simp [cnt] at h
  | i :: R, k, h => by
    simp only [cnt] at h
    cases hl : listed.getD i true with
    | false => exact ⟨i, by simp, hl⟩
    | true =>
      rw [hl] at h
      obtain ⟨j, h1, h2⟩ := cnt_pos listed R k (by simpa using h)
      exact ⟨j, by simp [h1], h2⟩
theorem least_unlisted (listed : Array Bool) : ∀ i, listed.getD i true = false → ∃ j, j ≤ i ∧ listed.getD j true = false ∧ ∀ k, k < j → listed.getD k true = true := by
  intro i
  induction i using Nat.strongRecOn with
  | _ i ih =>
    intro h
    by_cases hk : ∃ k, k < i ∧ listed.getD k true = false
    · obtain ⟨k, h1, h2⟩ := hk
      obtain ⟨j, h3, h4, h5⟩ := ih k h1 h2
      exact ⟨j, by omega, h4, h5⟩
    · refine ⟨i, Nat.le_refl _, h, fun k hki => ?_⟩
      cases hl : listed.getD k true
      · exact absurd ⟨k, hki, hl⟩ hk
      · rfl

theorem wpAnyH_of_seq {Q' : Exit → Act → World → Prop} {S : World → Prop} : ∀ (l : List Oper) (k : Nat) (listed : Array Bool) (a : Act) (w : World), (∀ j, l[j]? = ops[k + j]?) →
    Region.seqB .any ops l.length k listed = true → wpListH P ops Q' S l a w → wpAnyH P .any ops Q' S l.length listed a w
  | [], _, _, _, _, _, hB, h => ⟨by simpa [Region.seqB] using hB, h⟩
  | o :: l, k, listed, a, w, hl, hB, h => by
    have h0 : ops[k]? = some o := by simpa using (hl 0).symm
    simp only [List.length_cons, Region.seqB, Bool.and_eq_true, decide_eq_true_eq] at hB
    refine ⟨fun h1 => (by rw [hB.1] at h1; cases h1), fun i hi => ?_⟩
    rw [hB.1] at hi
    have hik : i = k := by simpa using hi
    subst hik
    have hw : wpOp P ops Q' i (fun a' w' => S w' ∧ wpListH P ops Q' S l a' w') a w := by unfold wpOp; simp only [h0]; exact h
    exact wpOp_mono (fun a' w' h' => ⟨h'.1, wpAnyH_of_seq l (i + 1) _ a' w' (fun j => by have := hl (j + 1); simpa [Nat.add_assoc, Nat.add_comm 1 j] using this) hB.2 h'.2⟩) hw

theorem rel_main {Q : Exit → Act → World → Prop} {a0 : Act} {n : Nat} {R : List Nat} (hd : distinctB ops R = true) (hf : forwardB ops n = true) (hn : n ≤ ops.size)
    (ht : n = ops.size ∨ (Region.sinkB .any ops n = true ∧ Region.chainB .any ops n = true))
    (hs : Region.seqB .any ops (ops.size - n) n (Array.ofFn (n := ops.size) fun i => decide (i.val < n)) = true) (hR : ∀ i, i ∈ R → i < n)
    (C : World → Prop) (V : Nat → Value → World → Prop) (Ext : World → World → Prop)
    (hV : ∀ i v w w', C w → Ext w w' → V i v w → V i v w') (hC : ∀ w w', C w → Ext w w' → C w')
    (ob : ∀ i, i ∈ R → ∀ f w, C w → (∀ j, j ∈ R → Region.waitsFor .any ops i j = true → V j (f j) w) → (∀ k, k ∈ R → Region.waitsFor .any ops k i = true → f k = initF ops a0 k) →
      wpOp P ops Q i (fun a' w' => ∃ v, a' = (fillA ops R f a0).put (dstOf ops i) v ∧ V i v w' ∧ Ext w w') (fillA ops R f a0) w)
    (fin : ∀ f w, C w → (∀ i, i ∈ R → V i (f i) w) → wpListH P ops Q C (ops.toList.drop n) (fillA ops R f a0) w) :
    ∀ (k : Nat) (listed : Array Bool) (f : Nat → Value) (w : World), HeadInv .any ops n listed → cnt R listed = k → C w → (∀ i, i < n → i ∉ R → listed.getD i true = true) →
      (∀ i, i ∈ R → listed.getD i true = false → f i = initF ops a0 i) → (∀ i, i ∈ R → listed.getD i true = true → V i (f i) w) →
      wpAnyH P .any ops Q C (k + (ops.size - n)) listed (fillA ops R f a0) w := by
  intro k
  induction k with
  | zero =>
    intro listed f w inv hc hCw hR2 hu hl
    have hall := cnt_zero listed R hc
    have he : listed = Array.ofFn (n := ops.size) fun i => decide (i.val < n) := by
      apply Array.ext
      · simp [inv.size]
      · intro i h1 h2
        simp only [Array.size_ofFn] at h2
        rw [Array.getElem_ofFn]
        by_cases hin : i < n
        · have : listed.getD i true = true := by
            by_cases hiR : i ∈ R
            · exact hall i hiR
            · exact hR2 i hin hiR
          simp [h1] at this
          simp [this, hin]
        · have := inv.tail i (by omega) h2
          simp [h1] at this
          simp [this, hin]
    have hlen : (ops.toList.drop n).length = ops.size - n := by simp
    have := wpAnyH_of_seq (P := P) (Q' := Q) (S := C) (ops.toList.drop n) n listed (fillA ops R f a0) w (fun j => by simp [List.getElem?_drop]) (by rw [hlen, he]; exact hs)
      (fin f w hCw (fun i hi => hl i hi (hall i hi)))
    rw [hlen] at this
    simpa using this
  | succ k ih =>
    intro listed f w inv hc hCw hR2 hu hl
    obtain ⟨i1, hi1, hun1⟩ := cnt_pos listed R k hc
    obtain ⟨i0, hi01, hun, hbelow⟩ := least_unlisted listed i1 hun1
    have hi0 : i0 < n := Nat.lt_of_le_of_lt hi01 (hR _ hi1)
    have hready : i0 ∈ Region.ready .any ops listed := by
      rw [mem_ready]
      refine ⟨hun, ops[i0]'(by omega), by simp [show i0 < ops.size by omega], fun e he hb => ?_⟩
      have h1 := List.all_eq_true.1 hf i0 (List.mem_range.2 hi0)
      simp only [show ops[i0]? = some (ops[i0]'(by omega)) by simp [show i0 < ops.size by omega]] at h1
      have h2 := Array.all_eq_true_iff_forall_mem.1 h1 e he
      rw [hb] at h2
      simp at h2
      have h3 := hbelow e.on h2
      have hlt : e.on < listed.size := by rw [inv.size]; omega
      simp [hlt] at h3 ⊢
      exact h3
    rw [show k + 1 + (ops.size - n) = (k + (ops.size - n)) + 1 by omega]
    refine ⟨fun h => (by rw [h] at hready; cases hready), fun i hi => ?_⟩
    have hin : i < n := by
      rcases Nat.lt_or_ge i n with h | h
      · exact h
      · rcases ht with ht | ⟨h1, h2⟩
        · obtain ⟨_, o, ho, _⟩ := mem_ready.1 hi
          have := (Array.getElem?_eq_some_iff.1 ho).1
          omega
        · by_cases hlt : n < ops.size
          · exact absurd hi (tail_waits h1 h2 hlt inv _ i0 rfl hi0 hun i h)
          · obtain ⟨_, o, ho, _⟩ := mem_ready.1 hi
            have := (Array.getElem?_eq_some_iff.1 ho).1
            omega
    obtain ⟨hil, o, ho, hall⟩ := mem_ready.1 hi
    have hiR : i ∈ R := by
      apply Classical.byContradiction
      intro h
      rw [hR2 i hin h] at hil
      cases hil
    have hob := ob i hiR f w hCw (fun j hjR hj => by
        obtain ⟨oj, hoj, e, he, hb, hon⟩ := Region.waitsFor_spec hj
        have : oj = o := Option.some.inj (hoj.symm.trans ho)
        subst this
        have h1 := hall e he hb
        rw [hon] at h1
        refine hl j hjR ?_
        have hlt : j < listed.size := by rw [inv.size]; have := hR j hjR; omega
        simp [hlt] at h1 ⊢
        exact h1)
      (fun k hk hw => hu k hk (by
        obtain ⟨ok, hok, e, he, hb, hon⟩ := Region.waitsFor_spec hw
        have hkl : k < listed.size := by rw [inv.size]; have := hR k hk; omega
        cases h : listed.getD k true
        · rfl
        · have h1 : listed.getD k false = true := by simp [hkl] at h ⊢; exact h
          have h2 := inv.closed k ok hok h1 e he hb
          rw [hon, getD_both hil] at h2
          cases h2))
    refine wpOp_mono ?_ hob
    rintro a' w' ⟨v, rfl, hv, hx⟩
    rw [fillA_put R f a0 i v hd hiR]
    refine ⟨hC w w' hCw hx, ih (listed.setIfInBounds i true) (updF f i v) w' (inv.set hi hin) (by have := cnt_set (ops := ops) listed i hil R hd hiR; omega) (hC w w' hCw hx) ?_ ?_ ?_⟩
    · intro j hj hjR
      have := hR2 j hj hjR
      have hlt : j < listed.size := by rw [inv.size]; omega
      by_cases e : i = j
      · subst e; simp [hlt]
      · rw [getD_set_ne true e]; exact this
    · intro j hj hjl
      have hne : j ≠ i := by
        rintro rfl
        have hlt : j < listed.size := by rw [inv.size]; omega
        simp [hlt] at hjl
      rw [getD_set_ne true (Ne.symm hne)] at hjl
      simp only [updF, hne, if_false]
      exact hu j hj hjl
    · intro j hj hjl
      by_cases e : j = i
      · subst e
        simp only [updF, if_true]
        exact hv
      · rw [getD_set_ne true (Ne.symm e)] at hjl
        simp only [updF, e, if_false]
        exact hV j _ w w' hCw hx (hl j hj hjl)

theorem wpOp_plain {Q : Exit → Act → World → Prop} {a : Act} {w : World} {i : Nat} {o : Oper} {K : Act → World → Prop} (ho : ops[i]? = some o) (hg : o.guard = none) (h : o.wp P a w K Q) : wpOp P ops Q i K a w := by
  unfold wpOp
  simp only [ho, Region.wanted, hg, if_true]
  exact .inl h
theorem at_drop {l : List Oper} {i : Nat} {o : Oper} {rest : List Oper} (h : l.drop i = o :: rest) : l.toArray[i]? = some o := by
  have : (l.drop i)[0]? = some o := by rw [h]; rfl
  simpa [List.getElem?_drop] using this
theorem wpOp_lit {l : List Oper} {Q : Exit → Act → World → Prop} {a : Act} {w : World} {i : Nat} {o : Oper} {rest : List Oper} {K : Act → World → Prop} (ho : l.drop i = o :: rest) (hg : o.guard = none) (h : o.wp P a w K Q) : wpOp P l.toArray Q i K a w :=
  wpOp_plain (at_drop ho) hg h
/-- Taken first: it yields in every world of the class. -/
theorem take_first {l : List Oper} {Q : Exit → Act → World → Prop} {S : World → Prop} {i : Nat} {oi : Oper} {rest : List Oper} {v : Value} {fuel : Nat} {listed : Array Bool} {a : Act} {w : World} (hi : l.drop i = oi :: rest)
    (hs : Region.noSelect l.toArray = true) (hf : Region.free .any l.toArray listed i = true) (hr : (Region.ready .any l.toArray listed).contains i = true)
    (hg : oi.guard = none) (hQ : ∀ c a w, Q (.panic c) (a.put oi.dst v) w → Q (.panic c) a w) (hS : S w) (hy : ∀ w', S w' → (execOp a.eval oi).run P w' = .ok (.value v) w')
    (h : wpAnyH P .any l.toArray Q S fuel (listed.setIfInBounds i true) (a.put oi.dst v) w) : wpAnyH P .any l.toArray Q S (fuel + 1) listed a w :=
  wpAnyH_take (at_drop hi) hs hf hr hQ (.inl ⟨by simp [Region.wanted, hg], hy⟩) hS h
/-- Taken first: it yields in every world. -/
theorem take_pure {l : List Oper} {Q : Exit → Act → World → Prop} {i : Nat} {oi : Oper} {rest : List Oper} {v : Value} {fuel : Nat} {listed : Array Bool} {a : Act} {w : World} (hi : l.drop i = oi :: rest)
    (hs : Region.noSelect l.toArray = true) (hf : Region.free .any l.toArray listed i = true) (hr : (Region.ready .any l.toArray listed).contains i = true)
    (hg : oi.guard = none) (hQ : ∀ c a w, Q (.panic c) (a.put oi.dst v) w → Q (.panic c) a w) (hy : ∀ w', (execOp a.eval oi).run P w' = .ok (.value v) w')
    (h : wpAny P .any l.toArray Q fuel (listed.setIfInBounds i true) (a.put oi.dst v) w) : wpAny P .any l.toArray Q (fuel + 1) listed a w :=
  wpAny_take (at_drop hi) hs hf hr hQ (.inl ⟨by simp [Region.wanted, hg], hy⟩) h
/-- It alone can come up. -/
theorem wpAny_one {l : List Oper} {Q : Exit → Act → World → Prop} {i : Nat} {o : Oper} {rest : List Oper} {fuel : Nat} {listed : Array Bool} {a : Act} {w : World} (ho : l.drop i = o :: rest) (hr : Region.ready .any l.toArray listed = [i]) (hg : o.guard = none)
    (h : ∀ K : Act → World → Prop, (∀ a' w', wpAny P .any l.toArray Q fuel (listed.setIfInBounds i true) a' w' → K a' w') → o.wp P a w K Q) : wpAny P .any l.toArray Q (fuel + 1) listed a w := by
  refine ⟨fun h0 => (by rw [hr] at h0; cases h0), fun j hj => ?_⟩
  rw [hr] at hj
  obtain rfl : j = i := by simpa using hj
  exact wpOp_plain (at_drop ho) hg (h _ fun _ _ h => h)
theorem region_any {id : Nat} {Q : Exit → Act → World → Prop} {a : Act} {w : World} (hm : P.follows .mixedOrders = true)
    (h : wpAny P .any ops Q ops.size (Array.replicate ops.size false) a w.drew) : (Code.region id ops true).wp P Q a w := wp_region_any hm h
theorem wpAnyH_one {l : List Oper} {Q : Exit → Act → World → Prop} {S : World → Prop} {i : Nat} {o : Oper} {rest : List Oper} {fuel : Nat} {listed : Array Bool} {a : Act} {w : World} (ho : l.drop i = o :: rest) (hr : Region.ready .any l.toArray listed = [i]) (hg : o.guard = none)
    (h : ∀ K : Act → World → Prop, (∀ a' w', S w' → wpAnyH P .any l.toArray Q S fuel (listed.setIfInBounds i true) a' w' → K a' w') → o.wp P a w K Q) : wpAnyH P .any l.toArray Q S (fuel + 1) listed a w := by
  refine ⟨fun h0 => (by rw [hr] at h0; cases h0), fun j hj => ?_⟩
  rw [hr] at hj
  obtain rfl : j = i := by simpa using hj
  exact wpOp_plain (at_drop ho) hg (h _ fun _ _ h1 h2 => ⟨h1, h2⟩)
def forcedB (ops : Array Oper) : List Nat → Array Bool → Bool
  | [], listed => (Region.ready .any ops listed).isEmpty
  | i :: r, listed => decide (Region.ready .any ops listed = [i]) && forcedB ops r (listed.setIfInBounds i true)
/-- What is left comes up one behind the other. -/
theorem wpAnyH_forced {Q : Exit → Act → World → Prop} {S : World → Prop} : ∀ (is : List Nat) (os : List Oper) (listed : Array Bool) (a : Act) (w : World), is.map (ops[·]?) = os.map some →
    forcedB ops is listed = true → wpListH P ops Q S os a w → wpAnyH P .any ops Q S os.length listed a w
  | [], [], listed, a, w, _, hB, h => ⟨by simpa [forcedB] using hB, h⟩
  | [], _ :: _, _, _, _, h, _, _ => by simp at h
  | _ :: _, [], _, _, _, h, _, _ => by simp at h
  | i :: is, o :: os, listed, a, w, hm, hB, h => by
    simp only [List.map_cons, List.cons.injEq] at hm
    simp only [forcedB, Bool.and_eq_true, decide_eq_true_eq] at hB
    refine ⟨fun h1 => (by rw [hB.1] at h1; cases h1), fun j hj => ?_⟩
    rw [hB.1] at hj
    obtain rfl : j = i := by simpa using hj
    have hw : wpOp P ops Q j (fun a' w' => S w' ∧ wpListH P ops Q S os a' w') a w := by unfold wpOp; simp only [hm.1]; exact h
    exact wpOp_mono (fun a' w' h' => ⟨h'.1, wpAnyH_forced is os _ a' w' hm.2 hB.2 h'.2⟩) hw
theorem wpAny_forced {Q : Exit → Act → World → Prop} : ∀ (is : List Nat) (os : List Oper) (listed : Array Bool) (a : Act) (w : World), is.map (ops[·]?) = os.map some →
    forcedB ops is listed = true → wpList P ops Q os a w → wpAny P .any ops Q os.length listed a w
  | [], [], listed, a, w, _, hB, h => ⟨by simpa [forcedB] using hB, h⟩
  | [], _ :: _, _, _, _, h, _, _ => by simp at h
  | _ :: _, [], _, _, _, h, _, _ => by simp at h
  | i :: is, o :: os, listed, a, w, hm, hB, h => by
    simp only [List.map_cons, List.cons.injEq] at hm
    simp only [forcedB, Bool.and_eq_true, decide_eq_true_eq] at hB
    refine ⟨fun h1 => (by rw [hB.1] at h1; cases h1), fun j hj => ?_⟩
    rw [hB.1] at hj
    obtain rfl : j = i := by simpa using hj
    have hw : wpOp P ops Q j (wpList P ops Q os) a w := by unfold wpOp; simp only [hm.1]; exact h
    exact wpOp_mono (fun a' w' h' => wpAny_forced is os _ a' w' hm.2 hB.2 h') hw
/-- Taken first, its guard holding. -/
theorem take_firstW {l : List Oper} {Q : Exit → Act → World → Prop} {S : World → Prop} {i : Nat} {oi : Oper} {rest : List Oper} {v : Value} {fuel : Nat} {listed : Array Bool} {a : Act} {w : World} (hi : l.drop i = oi :: rest)
    (hs : Region.noSelect l.toArray = true) (hf : Region.free .any l.toArray listed i = true) (hr : (Region.ready .any l.toArray listed).contains i = true)
    (hw : Region.wanted oi (yielded l.toArray a.tmps) = true) (hQ : ∀ c a w, Q (.panic c) (a.put oi.dst v) w → Q (.panic c) a w) (hS : S w) (hy : ∀ w', S w' → (execOp a.eval oi).run P w' = .ok (.value v) w')
    (h : wpAnyH P .any l.toArray Q S fuel (listed.setIfInBounds i true) (a.put oi.dst v) w) : wpAnyH P .any l.toArray Q S (fuel + 1) listed a w :=
  wpAnyH_take (at_drop hi) hs hf hr hQ (.inl ⟨hw, hy⟩) hS h
/-- Passed over: its guard does not hold. -/
theorem take_skip {l : List Oper} {Q : Exit → Act → World → Prop} {S : World → Prop} {i : Nat} {oi : Oper} {rest : List Oper} {fuel : Nat} {listed : Array Bool} {a : Act} {w : World} (hi : l.drop i = oi :: rest)
    (hs : Region.noSelect l.toArray = true) (hf : Region.free .any l.toArray listed i = true) (hr : (Region.ready .any l.toArray listed).contains i = true)
    (hw : Region.wanted oi (yielded l.toArray a.tmps) = false) (hQ : ∀ c a w, Q (.panic c) (a.put oi.dst undef) w → Q (.panic c) a w) (hS : S w)
    (h : wpAnyH P .any l.toArray Q S fuel (listed.setIfInBounds i true) (a.put oi.dst undef) w) : wpAnyH P .any l.toArray Q S (fuel + 1) listed a w :=
  wpAnyH_take (at_drop hi) hs hf hr hQ (.inr ⟨hw, rfl⟩) hS h
theorem wpAnyH_oneW {l : List Oper} {Q : Exit → Act → World → Prop} {S : World → Prop} {i : Nat} {o : Oper} {rest : List Oper} {fuel : Nat} {listed : Array Bool} {a : Act} {w : World} (ho : l.drop i = o :: rest) (hr : Region.ready .any l.toArray listed = [i])
    (hw : Region.wanted o (yielded l.toArray a.tmps) = true)
    (h : ∀ K : Act → World → Prop, (∀ a' w', S w' → wpAnyH P .any l.toArray Q S fuel (listed.setIfInBounds i true) a' w' → K a' w') → o.wp P a w K Q) : wpAnyH P .any l.toArray Q S (fuel + 1) listed a w := by
  refine ⟨fun h0 => (by rw [hr] at h0; cases h0), fun j hj => ?_⟩
  rw [hr] at hj
  obtain rfl : j = i := by simpa using hj
  unfold wpOp
  simp only [at_drop ho, hw, if_true]
  exact .inl (h _ fun _ _ h1 h2 => ⟨h1, h2⟩)
theorem wpAnyH_skip1 {l : List Oper} {Q : Exit → Act → World → Prop} {S : World → Prop} {i : Nat} {o : Oper} {rest : List Oper} {fuel : Nat} {listed : Array Bool} {a : Act} {w : World} (ho : l.drop i = o :: rest) (hr : Region.ready .any l.toArray listed = [i])
    (hw : Region.wanted o (yielded l.toArray a.tmps) = false) (hS : S w)
    (h : wpAnyH P .any l.toArray Q S fuel (listed.setIfInBounds i true) (a.put o.dst undef) w) : wpAnyH P .any l.toArray Q S (fuel + 1) listed a w := by
  refine ⟨fun h0 => (by rw [hr] at h0; cases h0), fun j hj => ?_⟩
  rw [hr] at hj
  obtain rfl : j = i := by simpa using hj
  unfold wpOp
  simp only [at_drop ho, hw, Bool.false_eq_true, if_false]
  exact ⟨hS, h⟩
theorem wpListH_nil {Q : Exit → Act → World → Prop} {S : World → Prop} {a : Act} {w : World} (h : Q .normal a w) : wpListH P ops Q S [] a w := h
theorem wpListH_plain {Q : Exit → Act → World → Prop} {S : World → Prop} {a : Act} {w : World} {o : Oper} {rest : List Oper} (hg : o.guard = none)
    (h : ∀ K : Act → World → Prop, (∀ a' w', S w' → wpListH P ops Q S rest a' w' → K a' w') → o.wp P a w K Q) : wpListH P ops Q S (o :: rest) a w := by
  simp only [wpListH, Region.wanted, hg, if_true]
  exact .inl (h _ fun a' w' h1 h2 => ⟨h1, h2⟩)

/-- Of a table of what each is good for: the row of operation i. -/
def rowOf (Vs : List (Nat × (Value → World → Prop))) (i : Nat) : Value → World → Prop := match Vs with | [] => fun _ _ => True | (j, v) :: r => if i = j then v else rowOf r i
/-- All of the table's rows, one by one. -/
def Rows1 (Vs : List (Nat × (Value → World → Prop))) (p : Nat → (Value → World → Prop) → Prop) : Prop := match Vs with | [] => True | (j, v) :: r => p j v ∧ Rows1 r p
theorem Rows1.at {p : Nat → (Value → World → Prop) → Prop} : ∀ {Vs : List (Nat × (Value → World → Prop))}, Rows1 Vs p → ∀ i, i ∈ Vs.map (·.1) → p i (rowOf Vs i)
  | [], _, i, hi => by cases hi
  | (j, v) :: r, h, i, hi => by
    simp only [rowOf]
    by_cases e : i = j
    · subst e; simp only [if_true]; exact h.1
    · simp only [e, if_false]
      refine Rows1.at h.2 i ?_
      rcases List.mem_cons.1 hi with h' | h'
      · exact absurd h' e
      · exact h'
theorem Rows1.mk {p : Nat → (Value → World → Prop) → Prop} : ∀ {Vs : List (Nat × (Value → World → Prop))}, distinctB ops (Vs.map (·.1)) = true → (∀ i, i ∈ Vs.map (·.1) → p i (rowOf Vs i)) → Rows1 Vs p
  | [], _, _ => trivial
  | (j, v) :: r, hd, h => by
    refine ⟨by have := h j (by simp); simpa [rowOf] using this, Rows1.mk (distinct_tail hd) fun i hi => ?_⟩
    have := h i (by simp; right; simpa using hi)
    have hne : i ≠ j := by rintro rfl; exact distinct_notin hd hi
    simpa [rowOf, hne] using this

/-- What is left of a region, by what each is good for. -/
theorem wpAnyH_rel {Q : Exit → Act → World → Prop} {a0 : Act} {w : World} {fuel : Nat} {listed : Array Bool} (C : World → Prop) (n : Nat) (Vs : List (Nat × (Value → World → Prop))) (Ext : World → World → Prop)
    (hB : relB ops n (Vs.map (·.1)) listed fuel = true) (h0 : C w)
    (hV : Rows1 Vs fun _ V => ∀ v w w', C w → Ext w w' → V v w → V v w') (hC : ∀ w w', C w → Ext w w' → C w')
    (ob : Rows1 Vs fun i V => ∀ f w, C w → (∀ j, j ∈ Vs.map (·.1) → Region.waitsFor .any ops i j = true → rowOf Vs j (f j) w) → (∀ k, k ∈ Vs.map (·.1) → Region.waitsFor .any ops k i = true → f k = initF ops a0 k) →
      ∀ K : Act → World → Prop, (∀ v w', V v w' → Ext w w' → K ((fillA ops (Vs.map (·.1)) f a0).put (dstOf ops i) v) w') → wpOp P ops Q i K (fillA ops (Vs.map (·.1)) f a0) w)
    (fin : ∀ f w, C w → (Rows1 Vs fun i V => V (f i) w) → wpListH P ops Q C (ops.toList.drop n) (fillA ops (Vs.map (·.1)) f a0) w) :
    wpAnyH P .any ops Q C fuel listed a0 w := by
  simp only [relB, Bool.and_eq_true, Bool.or_eq_true, decide_eq_true_eq, List.all_eq_true, List.mem_range, beq_iff_eq] at hB
  obtain ⟨⟨⟨⟨⟨⟨⟨⟨⟨hd, hf⟩, hn⟩, ht⟩, hs⟩, hsz⟩, hcl⟩, hli⟩, hR⟩, hfu⟩ := hB
  have inv0 : HeadInv .any ops n listed := by
    refine ⟨hsz, fun j oj hj hl e he hb => ?_, fun t h1 h2 => ?_⟩
    · have hjlt := (Array.getElem?_eq_some_iff.1 hj).1
      have := List.all_eq_true.1 hcl j (List.mem_range.2 hjlt)
      rw [hl, hj] at this
      simp only [Bool.not_true, Bool.false_or] at this
      have := Array.all_eq_true_iff_forall_mem.1 this e he
      rw [hb] at this
      simpa using this
    · rw [hli t h2]
      simp; omega
  have hc : cnt (Vs.map (·.1)) listed = (Vs.map (·.1)).length := by
    have : ∀ R : List Nat, (∀ i, i ∈ R → listed.getD i true = false) → cnt R listed = R.length := by
      intro R
      induction R with
      | nil => intro _; rfl
      | cons i R ih => intro h; simp only [cnt]; rw [ih (fun j hj => h j (by simp [hj])), h i (by simp)]; simp
    refine this _ fun i hi => ?_
    have hin := hR i hi
    rw [hli i (by omega)]
    simp only [List.contains_iff_mem.2 hi, Bool.not_true, Bool.and_false]
  have H := rel_main (P := P) (Q := Q) (a0 := a0) (R := Vs.map (·.1)) hd hf hn ht hs hR C (rowOf Vs) Ext
    (fun i v w w' h1 h2 h3 => by
      by_cases hi : i ∈ Vs.map (·.1)
      · exact hV.at i hi v w w' h1 h2 h3
      · have : ∀ (l : List (Nat × (Value → World → Prop))), i ∉ l.map (·.1) → rowOf l i = fun _ _ => True := by
          intro l
          induction l with
          | nil => intro _; rfl
          | cons p l ih =>
            intro h
            simp only [List.map_cons, List.mem_cons, not_or] at h
            simp only [rowOf, h.1, if_false]
            exact ih h.2
        rw [this Vs hi]; trivial)
    hC (fun i hi f w h1 h2 h3 => ob.at i hi f w h1 h2 h3 _ fun v w' h4 h5 => ⟨v, rfl, h4, h5⟩) (fun f w hw h => fin f w hw (Rows1.mk hd h)) _ listed (initF ops a0) w inv0 hc h0
    (fun i hin hiR => by
      rw [hli i (by omega)]
      have : (List.map (fun x => x.1) Vs).contains i = false := by
        cases h : (List.map (fun x => x.1) Vs).contains i
        · rfl
        · exact absurd (List.contains_iff_mem.1 h) hiR
      simp only [hin, this, decide_true, Bool.not_false, Bool.and_self])
    (fun _ _ _ => rfl) (fun i hi h => by
      have hin := hR i hi
      rw [hli i (by omega)] at h
      simp [hi] at h)
  rw [fillA_init] at H
  rw [hfu]
  exact H
end
end Go.Proofs.YtbkgcfoilgggjaaDoor
