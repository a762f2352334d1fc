/- A law's row, out of a contract of its function: it answers true, what it was given reads as it did. No program in sight. -/
import Derived.ProofKit
import Derived.Handed
import Derived.HandedShaped
import Derived.SizedLaws
import Derived.Carry
import Derived.JoinedOf
import Derived.LaidLaws
import Derived.LaidHandle
import Derived.Lib.LaidTab
import Derived.Shelf.Vars
import Derived.Stop.Joined
set_option linter.unusedVariables false
set_option linter.unusedSimpArgs false
namespace Go.Proofs.YtbkgcfoilgggjaaDoor
open Go.ChangeShapes Go.WideShapes Go.RowKit

variable {H : Type} {enc : TypeId × Value → H}

/-- Arguments that are read through, behind a call that leaves what was there as it was. -/
theorem trodAll_below {P : Program} (hl : laidOutB P = true) {W W' : World} (hb : Below W.heap.size W W') :
    ∀ (ts : List TypeId) (vs : List Value) (ds : List (DataW H)) (ps : List MemPlace), ts.all (fun t => P.readableRec t && decide (t < P.types.size)) = true →
      DataW.TrodAll enc P W 0 (fun _ => true) true ts vs ds ps → (∀ x ∈ ps, x.block < W.heap.size) → DataW.TrodAll enc P W' 0 (fun b => decide (b < W.heap.size)) true ts vs ds ps
  | [], vs, ds, ps, _, h, _ => by
    obtain ⟨rfl, rfl, rfl⟩ := trodAll_nil h
    exact rfl
  | t :: ts, vs, ds, ps, ht, h, hlt => by
    obtain ⟨v, vs', d, ds', p, q, rfl, rfl, rfl, hd, hr⟩ := trodAll_cons h
    simp only [List.all_cons, Bool.and_eq_true, decide_eq_true_eq] at ht
    exact ⟨p, q, Below.trod hl ht.1.1 ht.1.2 hd hb (fun x hx => hlt x (List.mem_append_left _ hx)), trodAll_below hl hb ts vs' ds' q ht.2 hr (fun x hx => hlt x (List.mem_append_right _ hx)), rfl⟩

/-- THE ROW: laid variables, the world's shape, the reach at once. -/
theorem law_lifted {C : Checked} {os : Os} {f : FuncId} {fn : Func} {s : ChangeSpec} {laid : List (String × DataW Unit)} {tb : TypeId}
    (own : ownKnob C.prog.godebug = none) (started : os.Started) (noInit : C.prog.inits.idxOf? f = none) (hfn : C.prog.funcs[f]? = some fn)
    (hlo : laidOutB C.prog = true) (hvars : s.vars = []) (hspec : ∀ ds : List (DataW H), ds.length = fn.params.size → s.fn H ds = { results := [.lit (.bool true)], args := ds })
    (hps : fn.params.toList.all (fun t => C.prog.readableRec t && decide (t < C.prog.types.size)) = true) (hres : fn.resultTypes = #[tb]) (htb : C.prog.underlying tb = some .bool)
    (witness : ∃ (w : World) (tape : Tape) (i : Input), w.os = os ∧ (w.forCall tape i).Shaped C.prog ∧ i.vars = [] ∧ Input.okWide C.prog (w.forCall tape i) .any w.heap.size f i ∧
      ((s.pre enc C.prog fn [] false (w.forCall tape i).memory i.args ∧ laidMetH C.prog laid (w.forCall tape i).memory) ∧ sizedMet enc C.prog fn (OpenSpec.ofChange s) false (w.forCall tape i).memory i.args) ∧ ({} : Assume).holds C.prog (lone (Frame.enter C.prog f i.args .normal) [] (w.forCall tape i)))
    (contract : ∀ (W : World) (base : Nat) (args : Array Value) (ds : List (DataW H)) (before : List MemPlace),
      (∀ (j : Nat) t v, fn.params[j]? = some t → args[j]? = some v → Value.okWide C.prog W .any base t v) →
      DataW.TrodAll enc C.prog W 0 (fun _ => true) true fn.params.toList args.toList ds before →
      (DataW.weightsEach C.prog fn.params.toList ds).all (· ≤ reachBytes) = true →
      laidMetH C.prog laid W → W.ShapedOpen C.prog →
      Calls C.prog f args W fun e W' => e = .returned (.bool true) ∧ Below W.heap.size W W') :
    ReturnsInHanded {} C os f .any (fun w args => (s.pre enc C.prog fn [] false w args ∧ laidMetH C.prog laid w) ∧ sizedMet enc C.prog fn (OpenSpec.ofChange s) false w args) (s.post enc C.prog fn false true false false) := by
  refine returnsInHanded_of_calls own started noInit witness ?_
  intro w tape i _ hsh _ hok hpre hholds
  obtain ⟨_, _, _, fn', hfn', _, _, _, _, hval⟩ := hok
  have e : fn' = fn := Option.some.inj (hfn'.symm.trans hfn)
  subst e
  obtain ⟨⟨⟨ds, gs, before, hw, hc⟩, hL⟩, hz⟩ := hpre
  have hw' := DataW.Whole.of_heap (w' := w.forCall tape i) (by rfl) hw
  have hz' := hz.weights hw
  have hL' : laidMetH C.prog laid (w.forCall tape i) := laidMetH.of_heap (by rfl) hL
  generalize w.forCall tape i = W at hsh hval hw' hL' hholds ⊢
  obtain ⟨p, q, hA, hV, rfl, hfz, hnd⟩ := id hw'
  rw [hvars] at hV
  obtain ⟨rfl, rfl⟩ : gs = [] ∧ q = [] := by
    cases gs with
    | nil => exact ⟨rfl, hV⟩
    | cons g r => exact absurd hV (by intro h; cases h)
  have hvt : s.plain.varTypes C.prog = [] := by
    unfold DataSpec.varTypes ChangeSpec.plain
    simp [hvars]
  have hz2 : (DataW.weightsEach C.prog fn'.params.toList ds).all (· ≤ reachBytes) = true := by
    have : (DataW.weightsEach C.prog (fn'.params.toList ++ s.plain.varTypes C.prog) (ds ++ [])).all (· ≤ reachBytes) = true := hz'
    rw [hvt, List.append_nil, List.append_nil] at this
    exact this
  refine (contract W _ i.args ds p hval hA hz2 hL' hsh).mono ?_
  rintro e W' ⟨rfl, hb⟩
  refine ChangeSpec.post_blind (?_ : s.post enc C.prog fn' false true false false W i.args (.bool true) W')
  have hlen : ds.length = fn'.params.size := by
    have : ∀ (ts : List TypeId) (vs : List Value) (ds : List (DataW H)) (ps : List MemPlace), DataW.TrodAll enc C.prog W 0 (fun _ => true) true ts vs ds ps → ds.length = ts.length := by
      intro ts
      induction ts with
      | nil => intro vs ds ps h; obtain ⟨_, rfl, _⟩ := trodAll_nil h; rfl
      | cons t ts ih =>
        intro vs ds ps h
        obtain ⟨v, vs', d, ds', p, q, rfl, rfl, rfl, hd, hr⟩ := trodAll_cons h
        simp [ih _ _ _ hr]
    have := this _ _ _ _ hA
    simpa using this
  have e1 := hspec ds hlen
  have hlt : ∀ x ∈ p, x.block < W.heap.size := fun x hx => by
    have := hw'.lt x (by simpa using hx)
    exact this
  refine ⟨ds, [], p ++ [], [], p, [], hw', ?_, ?_, ?_, Below.frame hb _, fun h => by cases h⟩
  · rw [List.append_nil, e1, hres]
    exact trodAll_mk1 (shut_bool htb true)
  · rw [List.append_nil, e1]
    exact trodAll_below hlo hb _ _ _ _ hps hA hlt
  · rw [List.append_nil, e1, hvars]
    rfl

/-! What a value of a struct or array type is, cell by cell. -/
theorem okWide_cells {P : Program} {w : World} {base : Nat} {t : TypeId} {v : Value} {n : Nat} {ts : List TypeId}
    (hd : (match P.underlying t with | some (.struct _) | some (.array _ _) => true | _ => false) = true) (hn : P.cellsOf t = n) (hts : P.cellTypes P.depth t = some ts) (h : Value.okWide P w .any base t v) :
    ∃ cs : Array Value, v = .agg cs ∧ cs.size = n ∧ ∀ i u, cs[i]? = some u → ∃ k, ts[i % ts.length]? = some k ∧ Cell.okWide P w .any base k u := by
  unfold Value.okWide at h
  split at h
  · obtain ⟨cs, h1, h2, ts', h3, h4, h5⟩ := h
    rw [hts] at h3
    obtain rfl := Option.some.inj h3
    exact ⟨cs, h1, h2.trans hn, h5⟩
  · obtain ⟨cs, h1, h2, ts', h3, h4, h5⟩ := h
    rw [hts] at h3
    obtain rfl := Option.some.inj h3
    exact ⟨cs, h1, h2.trans hn, h5⟩
  · rename_i h1 h2
    split at hd
    · rename_i fs h3; exact absurd h3 (h1 _)
    · rename_i a b h3; exact absurd h3 (h2 _ _)
    · cases hd
theorem cell_int {P : Program} {w : World} {base : Nat} {t : TypeId} {k : IntKind} {v : Value} (ht : P.underlying t = some (.int k)) (h : Cell.okWide P w .any base t v) : ∃ n, v = .int k n ∧ k.has n := by
  simp only [Cell.okWide, ht] at h
  cases v <;> simp_all [Cell.ok]
theorem cell_bool {P : Program} {w : World} {base : Nat} {t : TypeId} {v : Value} (ht : P.underlying t = some .bool) (h : Cell.okWide P w .any base t v) : ∃ b, v = .bool b := by
  simp only [Cell.okWide, ht] at h
  cases v <;> simp_all [Cell.ok]
theorem cell_string {P : Program} {w : World} {base : Nat} {t : TypeId} {v : Value} (ht : P.underlying t = some .string) (h : Cell.okWide P w .any base t v) : ∃ s : ByteArray, v = .string s ∧ (s.size : Int) ≤ IntKind.i64.max := by
  simp only [Cell.okWide, ht] at h
  cases v <;> simp_all [Cell.ok]
theorem okWide_intV {P : Program} {w : World} {base : Nat} {t : TypeId} {k : IntKind} {v : Value} (ht : P.underlying t = some (.int k)) (h : Value.okWide P w .any base t v) : ∃ n, v = .int k n ∧ k.has n := by
  simp only [Value.okWide, Cell.okWide, ht] at h
  cases v <;> simp_all [Cell.ok]
theorem okWide_boolV {P : Program} {w : World} {base : Nat} {t : TypeId} {v : Value} (ht : P.underlying t = some .bool) (h : Value.okWide P w .any base t v) : ∃ b, v = .bool b := by
  simp only [Value.okWide, Cell.okWide, ht] at h
  cases v <;> simp_all [Cell.ok]
theorem okWide_stringV {P : Program} {w : World} {base : Nat} {t : TypeId} {v : Value} (ht : P.underlying t = some .string) (h : Value.okWide P w .any base t v) : ∃ s : ByteArray, v = .string s ∧ (s.size : Int) ≤ IntKind.i64.max := by
  simp only [Value.okWide, Cell.okWide, ht] at h
  cases v <;> simp_all [Cell.ok]
end Go.Proofs.YtbkgcfoilgggjaaDoor
