/- A region that draws its order, by a plan: what yields in every world of a class is taken first; what is left comes up one behind the other. One check of the plan by the kernel. No program in sight. -/
import Derived.Test.YtbkgcfoilgggjaaDoorRel
set_option linter.unusedVariables false
set_option linter.unusedSimpArgs false
namespace Go.Proofs.YtbkgcfoilgggjaaDoor

inductive Mv where
  | t (i : Nat)
  | f (i : Nat)

def planB (ops : Array Oper) : List Mv → Array Bool → Bool
  | [], listed => (Region.ready .any ops listed).isEmpty
  | .t i :: r, listed => Region.free .any ops listed i && (Region.ready .any ops listed).contains i && planB ops r (listed.setIfInBounds i true)
  | .f i :: r, listed => decide (Region.ready .any ops listed = [i]) && planB ops r (listed.setIfInBounds i true)

/-- What the plan asks, one behind the other. -/
def wpPlan (P : Program) (ops : Array Oper) (Q : Exit → Act → World → Prop) (S : World → Prop) : List Mv → Act → World → Prop
  | [], a, w => Q .normal a w
  | .t i :: r, a, w => match ops[i]? with
    | some o => if Region.wanted o (yielded ops a.tmps) then ∃ v, (∀ w', S w' → (execOp a.eval o).run P w' = .ok (.value v) w') ∧ wpPlan P ops Q S r (a.put o.dst v) w else wpPlan P ops Q S r (a.put o.dst undef) w
    | none => False
  | .f i :: r, a, w => match ops[i]? with
    | some o => if Region.wanted o (yielded ops a.tmps) then o.wp P a w (fun a' w' => S w' ∧ wpPlan P ops Q S r a' w') Q else wpPlan P ops Q S r (a.put o.dst undef) w
    | none => False

theorem wpPlan_sound {P : Program} {ops : Array Oper} {Q : Exit → Act → World → Prop} {S : World → Prop} (hs : Region.noSelect ops = true) (hQ : ∀ c a x v w, Q (.panic c) (a.put x v) w → Q (.panic c) a w) :
    ∀ (p : List Mv) (listed : Array Bool) (a : Act) (w : World), planB ops p listed = true → S w → wpPlan P ops Q S p a w → wpAnyH P .any ops Q S p.length listed a w
  | [], listed, a, w, hB, _, h => ⟨by simpa [planB] using hB, h⟩
  | .t i :: r, listed, a, w, hB, hS, h => by
    simp only [planB, Bool.and_eq_true] at hB
    unfold wpPlan at h
    split at h
    · rename_i o ho
      by_cases hw : Region.wanted o (yielded ops a.tmps) = true
      · rw [if_pos hw] at h
        obtain ⟨v, h1, h2⟩ := h
        exact wpAnyH_take ho hs hB.1.1 hB.1.2 (fun c a w h => hQ c _ _ _ w h) (.inl ⟨hw, h1⟩) hS (wpPlan_sound hs hQ r _ _ w hB.2 hS h2)
      · rw [if_neg hw] at h
        exact wpAnyH_take ho hs hB.1.1 hB.1.2 (fun c a w h => hQ c _ _ _ w h) (.inr ⟨by simpa using hw, rfl⟩) hS (wpPlan_sound hs hQ r _ _ w hB.2 hS h)
    · exact h.elim
  | .f i :: r, listed, a, w, hB, hS, h => by
    simp only [planB, Bool.and_eq_true, decide_eq_true_eq] at hB
    unfold wpPlan at h
    split at h
    · rename_i o ho
      refine ⟨fun h0 => (by rw [hB.1] at h0; cases h0), fun j hj => ?_⟩
      rw [hB.1] at hj
      obtain rfl : j = i := by simpa using hj
      unfold wpOp
      simp only [ho]
      by_cases hw : Region.wanted o (yielded ops a.tmps) = true
      · rw [if_pos hw] at h ⊢
        have : o.wp P a w (fun a' w' => S w' ∧ wpAnyH P .any ops Q S r.length (listed.setIfInBounds j true) a' w') Q ∨ (o.asks P a w ∧ LetsOut Q) :=
          .inl (Oper.wp_mono (fun a' w' h' => ⟨h'.1, wpPlan_sound hs hQ r _ a' w' hB.2 h'.1 h'.2⟩) h)
        exact this
      · rw [if_neg hw] at h ⊢
        exact ⟨hS, wpPlan_sound hs hQ r _ _ w hB.2 hS h⟩
    · exact h.elim

theorem region_plan {P : Program} {l : List Oper} {Q : Exit → Act → World → Prop} {id : Nat} {a : Act} {w : World} (S : World → Prop) (p : List Mv) (hm : P.follows .mixedOrders = true)
    (hB : (Region.noSelect l.toArray && decide (p.length = l.length) && planB l.toArray p (Array.replicate l.length false)) = true) (hQ : ∀ c a x v w, Q (.panic c) (a.put x v) w → Q (.panic c) a w) (hS : S w.drew)
    (h : wpPlan P l.toArray Q S p a w.drew) : (Code.region id l.toArray true).wp P Q a w := by
  simp only [Bool.and_eq_true, decide_eq_true_eq] at hB
  refine wp_region_held_drew (S := S) hm hS fun _ => ?_
  have := wpPlan_sound (P := P) (Q := Q) (S := S) hB.1.1 hQ p (Array.replicate l.length false) a w.drew hB.2 hS h
  rw [hB.1.2] at this
  simpa using this

theorem plan_t {P : Program} {l : List Oper} {Q : Exit → Act → World → Prop} {S : World → Prop} {i : Nat} {r : List Mv} {a : Act} {w : World} {o : Oper} {rest : List Oper} {v : Value} (ho : l.drop i = o :: rest) (hg : o.guard = none)
    (hy : ∀ w', S w' → (execOp a.eval o).run P w' = .ok (.value v) w') (h : wpPlan P l.toArray Q S r (a.put o.dst v) w) : wpPlan P l.toArray Q S (.t i :: r) a w := by
  simp only [wpPlan, at_drop ho, Region.wanted, hg, if_true]
  exact ⟨v, hy, h⟩
theorem plan_tW {P : Program} {l : List Oper} {Q : Exit → Act → World → Prop} {S : World → Prop} {i : Nat} {r : List Mv} {a : Act} {w : World} {o : Oper} {rest : List Oper} {v : Value} (ho : l.drop i = o :: rest) (hg : Region.wanted o (yielded l.toArray a.tmps) = true)
    (hy : ∀ w', S w' → (execOp a.eval o).run P w' = .ok (.value v) w') (h : wpPlan P l.toArray Q S r (a.put o.dst v) w) : wpPlan P l.toArray Q S (.t i :: r) a w := by
  simp only [wpPlan, at_drop ho, hg, if_true]
  exact ⟨v, hy, h⟩
/-- Passed over. -/
theorem plan_ts {P : Program} {l : List Oper} {Q : Exit → Act → World → Prop} {S : World → Prop} {i : Nat} {r : List Mv} {a : Act} {w : World} {o : Oper} {rest : List Oper} (ho : l.drop i = o :: rest) (hg : Region.wanted o (yielded l.toArray a.tmps) = false)
    (h : wpPlan P l.toArray Q S r (a.put o.dst undef) w) : wpPlan P l.toArray Q S (.t i :: r) a w := by
  simp only [wpPlan, at_drop ho, hg, Bool.false_eq_true, if_false]
  exact h
theorem plan_fs {P : Program} {l : List Oper} {Q : Exit → Act → World → Prop} {S : World → Prop} {i : Nat} {r : List Mv} {a : Act} {w : World} {o : Oper} {rest : List Oper} (ho : l.drop i = o :: rest) (hg : Region.wanted o (yielded l.toArray a.tmps) = false)
    (h : wpPlan P l.toArray Q S r (a.put o.dst undef) w) : wpPlan P l.toArray Q S (.f i :: r) a w := by
  simp only [wpPlan, at_drop ho, hg, Bool.false_eq_true, if_false]
  exact h
theorem plan_f {P : Program} {l : List Oper} {Q : Exit → Act → World → Prop} {S : World → Prop} {i : Nat} {r : List Mv} {a : Act} {w : World} {o : Oper} {rest : List Oper} (ho : l.drop i = o :: rest) (hg : o.guard = none)
    (h : ∀ K : Act → World → Prop, (∀ a' w', S w' → wpPlan P l.toArray Q S r a' w' → K a' w') → o.wp P a w K Q) : wpPlan P l.toArray Q S (.f i :: r) a w := by
  simp only [wpPlan, at_drop ho, Region.wanted, hg, if_true]
  exact h _ fun _ _ h1 h2 => ⟨h1, h2⟩
theorem plan_fW {P : Program} {l : List Oper} {Q : Exit → Act → World → Prop} {S : World → Prop} {i : Nat} {r : List Mv} {a : Act} {w : World} {o : Oper} {rest : List Oper} (ho : l.drop i = o :: rest) (hg : Region.wanted o (yielded l.toArray a.tmps) = true)
    (h : ∀ K : Act → World → Prop, (∀ a' w', S w' → wpPlan P l.toArray Q S r a' w' → K a' w') → o.wp P a w K Q) : wpPlan P l.toArray Q S (.f i :: r) a w := by
  simp only [wpPlan, at_drop ho, hg, if_true]
  exact h _ fun _ _ h1 h2 => ⟨h1, h2⟩
theorem plan_nil {P : Program} {ops : Array Oper} {Q : Exit → Act → World → Prop} {S : World → Prop} {a : Act} {w : World} (h : Q .normal a w) : wpPlan P ops Q S [] a w := h
end Go.Proofs.YtbkgcfoilgggjaaDoor
