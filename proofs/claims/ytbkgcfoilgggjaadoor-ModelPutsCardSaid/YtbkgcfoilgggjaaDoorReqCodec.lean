/- request: a request into bytes and out of them. -/
import Derived.Test.YtbkgcfoilgggjaaDoorReqPut
set_option linter.unusedVariables false
set_option linter.unusedSimpArgs false
namespace Go.Proofs.YtbkgcfoilgggjaaDoor
open Go.RowKit

def form (k : Int) : Bs :=
  if k = 1 then [115, 102] else if k = 2 ∨ k = 4 ∨ k = 5 then [104, 99, 107] else if k = 3 then [104, 99, 107, 118] else if k = 6 then [104, 99, 107, 109, 102]
  else if k = 7 ∨ k = 8 then [104] else if k = 9 then [115, 99, 116, 107, 114] else if k = 10 then [115, 99] else if k = 11 then [115] else if k = 12 then [115, 99, 109] else []
theorem form_len (k : Int) : (form k).length ≤ 5 := by
  unfold form
  repeat' split
  all_goals simp
set_option maxRecDepth 100000 in
set_option maxHeartbeats 1000000 in
theorem form_any (k : Int) (w : World) : Calls Tryd.prog 46 #[.int .u8 k] w fun e w' => e = .returned (.string (bs (form k))) ∧ w' = w := by
  by_cases h1 : k = 1
  · subst h1; go_enter Tryd.func46, Tryd.ntmps46; go_wp2; go_ret; exact ⟨rfl, rfl⟩
  by_cases h2 : k = 2
  · subst h2; go_enter Tryd.func46, Tryd.ntmps46; go_wp2; go_ret; exact ⟨rfl, rfl⟩
  by_cases h3 : k = 3
  · subst h3; go_enter Tryd.func46, Tryd.ntmps46; go_wp2; go_ret; exact ⟨rfl, rfl⟩
  by_cases h4 : k = 4
  · subst h4; go_enter Tryd.func46, Tryd.ntmps46; go_wp2; go_ret; exact ⟨rfl, rfl⟩
  by_cases h5 : k = 5
  · subst h5; go_enter Tryd.func46, Tryd.ntmps46; go_wp2; go_ret; exact ⟨rfl, rfl⟩
  by_cases h6 : k = 6
  · subst h6; go_enter Tryd.func46, Tryd.ntmps46; go_wp2; go_ret; exact ⟨rfl, rfl⟩
  by_cases h7 : k = 7
  · subst h7; go_enter Tryd.func46, Tryd.ntmps46; go_wp2; go_ret; exact ⟨rfl, rfl⟩
  by_cases h8 : k = 8
  · subst h8; go_enter Tryd.func46, Tryd.ntmps46; go_wp2; go_ret; exact ⟨rfl, rfl⟩
  by_cases h9 : k = 9
  · subst h9; go_enter Tryd.func46, Tryd.ntmps46; go_wp2; go_ret; exact ⟨rfl, rfl⟩
  by_cases h10 : k = 10
  · subst h10; go_enter Tryd.func46, Tryd.ntmps46; go_wp2; go_ret; exact ⟨rfl, rfl⟩
  by_cases h11 : k = 11
  · subst h11; go_enter Tryd.func46, Tryd.ntmps46; go_wp2; go_ret; exact ⟨rfl, rfl⟩
  by_cases h12 : k = 12
  · subst h12; go_enter Tryd.func46, Tryd.ntmps46; go_wp2; go_ret; exact ⟨rfl, rfl⟩
  have e : form k = [] := by simp [form, *]
  rw [e]
  go_enter Tryd.func46, Tryd.ntmps46
  go_wp2
  go_ret
  exact ⟨rfl, rfl⟩

def bytesR (q : Req) : Bs := (form q.kind).foldl (fun b f => b ++ putF f.toNat q) [u8 q.kind]
theorem putF_len {q : Req} (h : WfQ q) (f : Int) : (putF f q).length ≤ 1000020 := by
  obtain ⟨q0, q1, q2, q4, q5, q6, q7, q8, q9, q3⟩ := h
  have a := vbytes_len q.space; have b := vbytes_len q.handle; have c := vbytes_len q.to_; have d := vbytes_len q.rgen; have e := vbytes_len q.key.length; have g := vbytes_len q.value.length; have h := vbytes_len q.most
  unfold putF
  repeat' split
  all_goals simp
  all_goals omega
def puts (q : Req) (F : Bs) (j : Nat) : Bs := (F.take j).foldl (fun b f => b ++ putF f.toNat q) [u8 q.kind]
theorem puts_succ (q : Req) (F : Bs) (j : Nat) (h : j < F.length) : puts q F (j + 1) = puts q F j ++ putF (F[j]).toNat q := by
  unfold puts
  rw [List.take_succ_eq_append_getElem h, List.foldl_append]
  rfl
theorem puts_len {q : Req} (hq : WfQ q) (F : Bs) : ∀ j, j ≤ F.length → (puts q F j).length ≤ 1 + j * 1000020
  | 0, _ => by simp [puts]
  | j + 1, h => by
    have := puts_len hq F j (by omega)
    have := putF_len hq (F[j]'(by omega)).toNat
    rw [puts_succ q F j (by omega)]
    simp
    omega
set_option maxRecDepth 100000 in
set_option maxHeartbeats 2000000 in
theorem bytes_any (q : Req) (hq : WfQ q) (qb : Nat) (w : World) (hb : Blk w qb (reqC q) 34) :
    Calls Tryd.prog 33 #[.pointer (some ⟨qb, 0, none⟩)] w fun e w' => ∃ v', e = .returned v' ∧ OB w' w.heap.size v' (bytesR q) ∧ Below w.heap.size w w' := by
  have HQ := Lib.hid hq
  have hk := hq.1
  have HK := Lib.hid hk
  clear hq hk
  have HB := Lib.hid hb; clear hb
  have hx : ∀ o, w.cell? ⟨qb, o, none⟩ = (reqC q)[o]? := HB.out.cell
  simp only [reqC] at hx
  go_enter Tryd.func33, Tryd.ntmps33
  go_wp2_with fail
  refine (packByte_any _ [] q.kind _ (RB.nil _) (by simp) HK.out.1 HK.out.2).mono ?_
  rintro e w1 ⟨v1, rfl, ho1, hb1⟩
  have HX1 := Lib.hid (HB.out.below hb1)
  have hx1 : ∀ o, w1.cell? ⟨qb, o, none⟩ = (reqC q)[o]? := HX1.out.cell
  simp only [reqC] at hx1
  have HO1 := Lib.hid ho1; have HB1 := Lib.hid hb1
  have hs1 := hb1.size
  clear ho1 hb1 hx
  go_wp2_with fail
  refine (form_any q.kind _).mono ?_
  rintro e w2 ⟨rfl, rfl⟩
  have hcv := conv_run w2 (bs (form q.kind))
  go_wp2_with fail
  obtain ⟨F, hF⟩ : ∃ F, F = form q.kind := ⟨_, rfl⟩
  have hFl := form_len q.kind
  have HF := Lib.hid hF
  have hb2 := conv_below w2 5 (bs F)
  have hr2 := conv_rb w2 F F.length rfl (bs F) (bs_data _) (by rw [hF]; unfold maxLen; omega)
  rw [← hF] at hFl ⊢
  clear hF hx1 hcv
  generalize grownCap w2 F.length 0 5 = cap0 at hr2 ⊢
  have HX2 := Lib.hid (HX1.out.below hb2)
  have HO2 := Lib.hid (HO1.out.kept hb2)
  have HB2 := Lib.hid (below_then HB1.out HB1.out.size hb2)
  have hst := hb2.size
  generalize hW : Lib.bytesWorld w2 5 (bs F) = W2 at hr2 HX2 HO2 HB2 hst ⊢
  have HR2 := Lib.hid hr2
  clear hb2 hr2 hW
  go_loopw [3, 18] (fun x i wr => ∃ (j : Nat), i = .int .i64 j ∧ j ≤ F.length ∧ OB wr w.heap.size x (puts q F j) ∧ Below W2.heap.size W2 wr) (fun _ i _ => F.length - (intOf i).toNat)
  case atStart => exact ⟨0, rfl, by omega, by simpa [puts] using HO2.out, Below.refl _ _⟩
  case round =>
    obtain ⟨j, rfl, hj, ho, hbr⟩ := hrel
    have HO3 := Lib.hid ho
    have HR3 := Lib.hid (HR2.out.below hbr)
    have HX3 := Lib.hid (HX2.out.below hbr)
    have HB3 := Lib.hid hbr
    have hsz := hbr.size
    clear ho hbr
    have hcl : ∀ (i : Nat) (hi : i < F.length), wr.cell? ⟨w2.heap.size, i, none⟩ = some (.int .u8 (F[i]).toNat) := by
      rcases HR3.out.open with ⟨h1, _⟩ | ⟨b, off, c, h1, _, h2⟩
      · injection h1 with h1; cases h1
      · injection h1 with h1 h3 h4
        injection h1 with h1
        injection h1 with h1 h5
        subst h1 h5
        intro i hi
        have := h2 i hi
        rwa [Nat.zero_add] at this
    by_cases hjl : j < F.length
    · have hc := hcl j hjl
      go_wp2_with fail
      have hlen := puts_len HQ.out F j hj
      refine (putq_any (F[j]).toNat q HQ.out _ _ qb _ HX3.out HO3.out.rb (by omega)).mono ?_
      rintro e w4 ⟨v4, rfl, ho4, hb4⟩
      have HO4 := Lib.hid ho4
      have HB4 := Lib.hid (below_then HB3.out HB3.out.size hb4)
      clear ho4 hb4 hc hcl
      go_wp2
      go_roundw
      case rel => exact ⟨j + 1, rfl, by omega, by rw [puts_succ q F j hjl]; exact HO4.out.mono (Nat.le_trans HB2.out.size hsz), HB4.out⟩
      case measure => simp [intOf]; omega
    · have hjl' : j = F.length := by omega
      go_wp2
      go_ret
      exact ⟨_, rfl, by rw [hjl', puts, List.take_length, HF.out] at HO3; exact HO3.out, below_then HB2.out HB2.out.size HB3.out⟩
def zeroQ (k : Int) : Req := ⟨k, 0, 0, 0, 0, 0, [], [], 0, 0, false⟩
def takes (k : Int × Bs × Bool) (F : Bs) (j : Nat) : Req × Bs × Bool := (F.take j).foldl (fun s f => takeF f.toNat s.1 s.2.1 s.2.2) (zeroQ k.1, k.2.1, k.2.2)
def readR (l : Bs) : Req × Bool :=
  let k := rByte l false
  let s := takes k (form k.1) (form k.1).length
  (s.1, decide (doneE s.2.2 s.2.1 = 0) && !(form k.1).isEmpty)
theorem takes_succ (k : Int × Bs × Bool) (F : Bs) (j : Nat) (h : j < F.length) : takes k F (j + 1) = takeF (F[j]).toNat (takes k F j).1 (takes k F j).2.1 (takes k F j).2.2 := by
  unfold takes
  rw [List.take_succ_eq_append_getElem h, List.foldl_append]
  rfl
theorem takeF_kind (f : Int) (q : Req) (l : Bs) (b : Bool) : (takeF f q l b).1.kind = q.kind := by
  unfold takeF
  repeat' split
  all_goals rfl
theorem takes_kind (k : Int × Bs × Bool) (F : Bs) : ∀ j, j ≤ F.length → (takes k F j).1.kind = k.1
  | 0, _ => by simp [takes, zeroQ]
  | j + 1, h => by rw [takes_succ k F j (by omega), takeF_kind, takes_kind k F j (by omega)]
set_option maxRecDepth 100000 in
set_option maxHeartbeats 2000000 in
theorem read_any (v : Value) (l : Bs) (w : World) (h : RB w v l) (hl : l.length ≤ 140737488355000) :
    Calls Tryd.prog 32 #[v] w fun e w' => e = .returned (.tuple #[.agg (reqC (readR l).1), .bool (readR l).2]) ∧ Below w.heap.size w w' := by
  have H := Lib.hid h; clear h
  go_enter Tryd.func32, Tryd.ntmps32
  go_wp2_with fail
  refine (packNew_any _ l _ (by exact H.out.alloc _) hl).mono ?_
  rintro e w1 ⟨g, rfl, hg0, hr1, hb1⟩
  have HR1 := Lib.hid hr1
  have HB1 := Lib.hid (below_then (below_a1 w _) (below_a1 w _).size hb1)
  have HZ1 := Lib.hid ((Blk.new w _ _).below hb1)
  have hs1 := hb1.size
  simp only [World.size_alloc] at hs1 hg0
  clear hr1 hb1
  go_wp2_with fail
  obtain ⟨k, hk⟩ : ∃ k, k = rByte l false := ⟨_, rfl⟩
  have hkr : 0 ≤ k.1 ∧ k.1 < 256 := by rw [hk]; exact rByte_range (l := l) (b := false) (n := (rByte l false).1) (l' := (rByte l false).2.1) (b' := (rByte l false).2.2) rfl
  have HKR := Lib.hid hkr
  refine (rByte_any g l false _ g HR1.out).mono ?_
  rw [← hk]
  rintro e w2 ⟨rfl, hr2, hg2⟩
  have HK := Lib.hid hk
  have HR2 := Lib.hid hr2
  have HB2 := Lib.hid (HB1.out.grown hg2 HB1.out.size (by intro j hj; simp at hj; omega))
  have HZ2 := Lib.hid (HZ1.out.grown hg2 (by omega))
  have hs2 := hg2.size
  clear hr2 hg2 hk hkr HR1 HB1 HZ1
  go_wp2_with fail
  refine (form_any k.1 _).mono ?_
  rintro e w3 ⟨rfl, rfl⟩
  have HRS := Lib.hid (show RSt (w2.alloc (.cells (reqC (zeroQ k.1)) 34)) g w2.heap.size (w2.alloc (.cells (reqC (zeroQ k.1)) 34)) (zeroQ k.1) k.2.1 k.2.2 from
    ⟨Blk.new _ _ _, HR2.out.below (below_a1 _ _), Two.refl _ _ _, HR2.out.lt⟩)
  have HB3 := Lib.hid (below_alloc HB2.out (.cells (reqC (zeroQ k.1)) 34))
  have HZ3 := Lib.hid (HZ2.out.below (below_a1 w2 (.cells (reqC (zeroQ k.1)) 34)))
  have hsz3 : (w2.alloc (.cells (reqC (zeroQ k.1)) 34)).heap.size = w2.heap.size + 1 := by simp
  have hqb : w.heap.size < w2.heap.size := by omega
  generalize hqbe : w2.heap.size = qb at HRS hsz3 hqb ⊢
  have hw3 : w2.alloc (.cells #[.int .u8 k.1, .int .u64 0, .int .u64 0, .int .i64 0, .int .u64 0, .int .u64 0, .string ⟨#[]⟩, .string ⟨#[]⟩, .int .u8 0, .int .u64 0, .bool false] 34) = w2.alloc (.cells (reqC (zeroQ k.1)) 34) := rfl
  rw [hw3]
  clear hw3
  generalize hW3 : w2.alloc (.cells (reqC (zeroQ k.1)) 34) = W3 at HRS HZ3 HB3 hsz3 ⊢
  clear hW3
  have hcv := conv_run W3 (bs (form k.1))
  go_wp2_with fail
  obtain ⟨F, hF⟩ : ∃ F, F = form k.1 := ⟨_, rfl⟩
  have hFl := form_len k.1
  have HF := Lib.hid hF
  have hb2 := conv_below W3 5 (bs F)
  have hr2 := conv_rb W3 F F.length rfl (bs F) (bs_data _) (by rw [hF]; unfold maxLen; omega)
  rw [← hF] at hFl ⊢
  clear hF hcv
  generalize grownCap W3 F.length 0 5 = cap0 at hr2 ⊢
  have HRS4 := Lib.hid (show RSt (Lib.bytesWorld W3 5 (bs F)) g qb (Lib.bytesWorld W3 5 (bs F)) (zeroQ k.1) k.2.1 k.2.2 from ⟨HRS.out.req.below hb2, HRS.out.rd.below hb2, Two.refl _ _ _, HRS.out.gq⟩)
  have HB4 := Lib.hid (below_then HB3.out HB3.out.size hb2)
  have HZ4 := Lib.hid (HZ3.out.below hb2)
  have hst := hb2.size
  generalize hW : Lib.bytesWorld W3 5 (bs F) = W4 at hr2 HRS4 HZ4 HB4 hst ⊢
  have HR4 := Lib.hid hr2
  clear hb2 hr2 hW HRS HZ3 HZ2 HR2 HB2 HB3
  have HSZ := Lib.hid hsz3
  have HQB := Lib.hid hqb
  clear hsz3 hqbe
  have hcl : ∀ (i : Nat) (hi : i < F.length), W4.cell? ⟨W3.heap.size, i, none⟩ = some (.int .u8 (F[i]).toNat) := by
    rcases HR4.out.open with ⟨h1, _⟩ | ⟨b, off, c, h1, _, h2⟩
    · injection h1 with h1; cases h1
    · injection h1 with h1 h3 h4
      injection h1 with h1
      injection h1 with h1 h5
      subst h1 h5
      intro i hi
      have := h2 i hi
      rwa [Nat.zero_add] at this
  have HCL := Lib.hid hcl
  clear hcl
  go_loopw [18] (fun i wr => ∃ (j : Nat), i = .int .i64 j ∧ j ≤ F.length ∧ RSt W4 g qb wr (takes k F j).1 (takes k F j).2.1 (takes k F j).2.2) (fun i _ => F.length - (intOf i).toNat)
  case atStart => exact ⟨0, rfl, by omega, HRS4.out⟩
  case round =>
    obtain ⟨j, rfl, hj, hrs⟩ := hrel
    have HRS5 := Lib.hid hrs
    have hsz := hrs.low.size
    clear hrs
    by_cases hjl : j < F.length
    · have hc : wr.cell? ⟨W3.heap.size, j, none⟩ = some (.int .u8 (F[j]).toNat) := by
        have h0 := HCL.out j hjl
        have hlt := lt_of_cell h0
        have := HRS5.out.low.block W3.heap.size hlt (by have := HRS5.out.gq; have := HSZ.out; omega) (by have := HSZ.out; omega)
        unfold World.cell? at h0 ⊢
        simp only at h0 ⊢
        rw [this]; exact h0
      rw [HSZ.out] at hc
      go_wp2_with fail
      refine (take_any W4 (F[j]).toNat (takes k F j).1 (takes k F j).2.1 (takes k F j).2.2 g qb _ HRS5.out).mono ?_
      rintro e w5 ⟨rfl, hrs, hs5⟩
      rw [← takes_succ k F j hjl] at hrs
      have HRS6 := Lib.hid hrs
      clear hrs hc
      go_wp2
      go_roundw
      case rel => exact ⟨j + 1, rfl, by omega, HRS6.out⟩
      case measure => simp [intOf]; omega
    · have hjl' : j = F.length := by omega
      subst hjl'
      obtain ⟨q', l', b', hq'⟩ : ∃ q' l' b', takes k F F.length = (q', l', b') := ⟨_, _, _, rfl⟩
      have hkk : q'.kind = k.1 := by have := takes_kind k F F.length (Nat.le_refl _); rwa [hq'] at this
      have HKK := Lib.hid hkk
      have HQ' := Lib.hid hq'
      rw [hq'] at HRS5
      clear hq'
      have hx5 : ∀ o, wr.cell? ⟨qb, o, none⟩ = (reqC q')[o]? := HRS5.out.req.cell
      simp only [reqC] at hx5
      go_wp2_with fail
      have hmx : Tryd.prog.follows .mixedOrders = true := by kernel_rfl
      have HS0 := Lib.hid (show Blk wr.drew qb (reqC q') 34 ∧ True from ⟨HRS5.out.req.drew, trivial⟩)
      have HLB := Lib.hid (HRS5.out.low.below HB4.out HB4.out.size (by have := HQB.out; omega) (by have := HQB.out; omega))
      clear hx5
      have HZ5 := Lib.hid (HRS5.out.low.blk HZ4.out (by have := HQB.out; omega) (by have := HQB.out; omega))
      by_cases hd : doneE b' l' = 0
      · have hdz : (doneE b' l' == 0) = true := by simpa using hd
        have HD := Lib.hid hd
        clear hd
        refine wp_region_held_drew (S := fun w' => Blk w' qb (reqC q') 34 ∧ True) hmx HS0.out (fun hHeld => ?_)
        refine take_first (i := 0) (v := ?_) rfl (by kernel_rfl) (by kernel_rfl) (by kernel_rfl) rfl (fun _ _ _ h => h) (by exact HS0.out) ?_ ?_
        rotate_left
        · intro w' hSw
          have hx := hSw.1.cell
          simp only [reqC] at hx
          go_simp
          with_reducible rfl
        try simp only [Act.put, List.setIfInBounds_toArray, List.set_cons_zero, List.set_cons_succ]
        refine take_first (i := 1) (v := ?_) rfl (by kernel_rfl) (by kernel_rfl) (by kernel_rfl) rfl (fun _ _ _ h => h) (by exact HS0.out) ?_ ?_
        rotate_left
        · intro w' hSw
          have hx := hSw.1.cell
          simp only [reqC] at hx
          go_simp
          with_reducible rfl
        try simp only [Act.put, List.setIfInBounds_toArray, List.set_cons_zero, List.set_cons_succ]
        refine wpAnyH_one (i := 2) rfl (by kernel_rfl) rfl fun K hK => ?_
        have HK1 := Lib.hid hK; clear hK
        go_simp
        refine (rdDone_any g l' b' _ g (by exact HRS5.out.rd)).mono ?_
        rintro e w' ⟨rfl, rfl⟩
        refine HK1.out _ _ HS0.out ?_
        clear HK1
        try simp only [Act.put, List.setIfInBounds_toArray, List.set_cons_zero, List.set_cons_succ]
        refine take_first (i := 3) (v := ?_) rfl (by kernel_rfl) (by kernel_rfl) (by kernel_rfl) rfl (fun _ _ _ h => h) (by exact HS0.out) ?_ ?_
        rotate_left
        · intro w' hSw
          have hx := hSw.1.cell
          simp only [reqC] at hx
          go_simp
          with_reducible rfl
        try simp only [Act.put, List.setIfInBounds_toArray, List.set_cons_zero, List.set_cons_succ]
        try rw [hdz]
        refine take_first (i := 4) (v := ?_) rfl (by kernel_rfl) (by kernel_rfl) (by kernel_rfl) rfl (fun _ _ _ h => h) (by exact HS0.out) ?_ ?_
        rotate_left
        · intro w' hSw
          have hx := hSw.1.cell
          simp only [reqC] at hx
          go_simp
          with_reducible rfl
        try simp only [Act.put, List.setIfInBounds_toArray, List.set_cons_zero, List.set_cons_succ]
        refine take_firstW (i := 5) (v := ?_) rfl (by kernel_rfl) (by kernel_rfl) (by kernel_rfl) (by kernel_rfl) (fun _ _ _ h => h) (by exact HS0.out) ?_ ?_
        rotate_left
        · intro w' hSw
          have hx := hSw.1.cell
          simp only [reqC] at hx
          go_simp
          with_reducible rfl
        try simp only [Act.put, List.setIfInBounds_toArray, List.set_cons_zero, List.set_cons_succ]
        refine take_firstW (i := 6) (v := ?_) rfl (by kernel_rfl) (by kernel_rfl) (by kernel_rfl) (by kernel_rfl) (fun _ _ _ h => h) (by exact HS0.out) ?_ ?_
        rotate_left
        · intro w' hSw
          have hx := hSw.1.cell
          simp only [reqC] at hx
          go_simp
          with_reducible rfl
        try simp only [Act.put, List.setIfInBounds_toArray, List.set_cons_zero, List.set_cons_succ]
        refine wpAnyH_oneW (i := 7) rfl (by kernel_rfl) (by kernel_rfl) fun K hK => ?_
        have HK1 := Lib.hid hK; clear hK
        go_simp
        refine (form_any _ _).mono ?_
        rintro e w' ⟨rfl, rfl⟩
        refine HK1.out _ _ HS0.out ?_
        clear HK1
        try simp only [Act.put, List.setIfInBounds_toArray, List.set_cons_zero, List.set_cons_succ]
        refine take_firstW (i := 8) (v := ?_) rfl (by kernel_rfl) (by kernel_rfl) (by kernel_rfl) (by kernel_rfl) (fun _ _ _ h => h) (by exact HS0.out) ?_ ?_
        rotate_left
        · intro w' hSw
          have hx := hSw.1.cell
          simp only [reqC] at hx
          go_simp
          with_reducible rfl
        try simp only [Act.put, List.setIfInBounds_toArray, List.set_cons_zero, List.set_cons_succ]
        refine take_first (i := 9) (v := ?_) rfl (by kernel_rfl) (by kernel_rfl) (by kernel_rfl) rfl (fun _ _ _ h => h) (by exact HS0.out) ?_ ?_
        rotate_left
        · intro w' hSw
          have hx := hSw.1.cell
          simp only [reqC] at hx
          go_simp
          with_reducible rfl
        try simp only [Act.put, List.setIfInBounds_toArray, List.set_cons_zero, List.set_cons_succ]
        refine wpAnyH_forced [10, 11] [_, _] _ _ _ rfl (by kernel_rfl) ?_
        have hz5 := HZ5.out.cell
        have hzf := HZ5.out.frozen
        have HR := Lib.hid (((((((((((HZ5.out.set 0 (.int .u8 k.1)).set 1 (.int .u64 q'.space)).set 2 (.int .u64 q'.handle)).set 3 (.int .i64 q'.rslot)).set 4 (.int .u64 q'.rgen)).set 5 (.int .u64 q'.to_)).set 6 (.string (bs q'.key))).set 7 (.string (bs q'.value))).set 8 (.int .u8 q'.rights)).set 9 (.int .u64 q'.most)).set 10 (.bool q'.flag))
        have HL := Lib.hid (((((((((((HLB.out.setCell (p := ⟨w.heap.size, 0, none⟩) (Nat.le_refl _) (.int .u8 k.1)).setCell (p := ⟨w.heap.size, 1, none⟩) (Nat.le_refl _) (.int .u64 q'.space)).setCell (p := ⟨w.heap.size, 2, none⟩) (Nat.le_refl _) (.int .u64 q'.handle)).setCell (p := ⟨w.heap.size, 3, none⟩) (Nat.le_refl _) (.int .i64 q'.rslot)).setCell (p := ⟨w.heap.size, 4, none⟩) (Nat.le_refl _) (.int .u64 q'.rgen)).setCell (p := ⟨w.heap.size, 5, none⟩) (Nat.le_refl _) (.int .u64 q'.to_)).setCell (p := ⟨w.heap.size, 6, none⟩) (Nat.le_refl _) (.string (bs q'.key))).setCell (p := ⟨w.heap.size, 7, none⟩) (Nat.le_refl _) (.string (bs q'.value))).setCell (p := ⟨w.heap.size, 8, none⟩) (Nat.le_refl _) (.int .u8 q'.rights)).setCell (p := ⟨w.heap.size, 9, none⟩) (Nat.le_refl _) (.int .u64 q'.most)).setCell (p := ⟨w.heap.size, 10, none⟩) (Nat.le_refl _) (.bool q'.flag))
        refine wpListH_plain rfl fun K hK => ?_
        have HK2 := Lib.hid hK; clear hK
        go_simp
        refine HK2.out _ _ ⟨?_, trivial⟩ ?_
        · refine Blk.drew ?_
          iterate 11 (refine Blk.far ?_ (by have := HQB.out; simp; omega) _)
          exact HRS5.out.req
        clear HK2
        refine wpListH_plain rfl fun K hK => ?_
        have HK2 := Lib.hid hK; clear hK
        go_simp
        refine HK2.out _ _ ⟨?_, trivial⟩ ?_
        · refine Blk.drew ?_
          iterate 11 (refine Blk.far ?_ (by have := HQB.out; simp; omega) _)
          exact HRS5.out.req
        clear HK2
        refine wpListH_nil ?_
        clear hz5 hzf
        generalize hWE : ((((((((((((wr.setCell ⟨w.heap.size, 0, none⟩ (.int .u8 k.1)).setCell ⟨w.heap.size, 1, none⟩ (.int .u64 q'.space)).setCell ⟨w.heap.size, 2, none⟩ (.int .u64 q'.handle)).setCell ⟨w.heap.size, 3, none⟩ (.int .i64 q'.rslot)).setCell ⟨w.heap.size, 4, none⟩ (.int .u64 q'.rgen)).setCell ⟨w.heap.size, 5, none⟩ (.int .u64 q'.to_)).setCell ⟨w.heap.size, 6, none⟩ (.string (bs q'.key))).setCell ⟨w.heap.size, 7, none⟩ (.string (bs q'.value))).setCell ⟨w.heap.size, 8, none⟩ (.int .u8 q'.rights)).setCell ⟨w.heap.size, 9, none⟩ (.int .u64 q'.most)).setCell ⟨w.heap.size, 10, none⟩ (.bool q'.flag))) = WE at HR HL ⊢
        have hxe := HR.out.cell
        clear hWE
        go_wp2
        have hres : readR l = (q', (!(form k.1).isEmpty)) := by
          unfold readR
          simp only [← HK.out]
          rw [← HF.out, HQ'.out]
          simp [HD.out]
        simp only [List.setIfInBounds_toArray, List.set_cons_zero, List.set_cons_succ] at hxe
        refine bodyPost_ret (v := .tuple #[.agg (reqC q'), .bool (!(form k.1).isEmpty)]) (by simp [results, Tryd.results32, go_sem, hxe, reqC, hkk]) rfl ?_
        rw [hres]
        exact ⟨rfl, HL.out.drew⟩
      · have hdz : (doneE b' l' == 0) = false := by simpa using hd
        have HD := Lib.hid hd
        clear hd
        refine wp_region_held_drew (S := fun w' => Blk w' qb (reqC q') 34 ∧ True) hmx HS0.out (fun hHeld => ?_)
        refine take_first (i := 0) (v := ?_) rfl (by kernel_rfl) (by kernel_rfl) (by kernel_rfl) rfl (fun _ _ _ h => h) (by exact HS0.out) ?_ ?_
        rotate_left
        · intro w' hSw
          have hx := hSw.1.cell
          simp only [reqC] at hx
          go_simp
          with_reducible rfl
        try simp only [Act.put, List.setIfInBounds_toArray, List.set_cons_zero, List.set_cons_succ]
        refine take_first (i := 1) (v := ?_) rfl (by kernel_rfl) (by kernel_rfl) (by kernel_rfl) rfl (fun _ _ _ h => h) (by exact HS0.out) ?_ ?_
        rotate_left
        · intro w' hSw
          have hx := hSw.1.cell
          simp only [reqC] at hx
          go_simp
          with_reducible rfl
        try simp only [Act.put, List.setIfInBounds_toArray, List.set_cons_zero, List.set_cons_succ]
        refine wpAnyH_one (i := 2) rfl (by kernel_rfl) rfl fun K hK => ?_
        have HK1 := Lib.hid hK; clear hK
        go_simp
        refine (rdDone_any g l' b' _ g (by exact HRS5.out.rd)).mono ?_
        rintro e w' ⟨rfl, rfl⟩
        refine HK1.out _ _ HS0.out ?_
        clear HK1
        try simp only [Act.put, List.setIfInBounds_toArray, List.set_cons_zero, List.set_cons_succ]
        refine take_first (i := 3) (v := ?_) rfl (by kernel_rfl) (by kernel_rfl) (by kernel_rfl) rfl (fun _ _ _ h => h) (by exact HS0.out) ?_ ?_
        rotate_left
        · intro w' hSw
          have hx := hSw.1.cell
          simp only [reqC] at hx
          go_simp
          with_reducible rfl
        try simp only [Act.put, List.setIfInBounds_toArray, List.set_cons_zero, List.set_cons_succ]
        try rw [hdz]
        refine take_first (i := 4) (v := ?_) rfl (by kernel_rfl) (by kernel_rfl) (by kernel_rfl) rfl (fun _ _ _ h => h) (by exact HS0.out) ?_ ?_
        rotate_left
        · intro w' hSw
          have hx := hSw.1.cell
          simp only [reqC] at hx
          go_simp
          with_reducible rfl
        try simp only [Act.put, List.setIfInBounds_toArray, List.set_cons_zero, List.set_cons_succ]
        refine take_skip (i := 5) rfl (by kernel_rfl) (by kernel_rfl) (by kernel_rfl) (by kernel_rfl) (fun _ _ _ h => h) (by exact HS0.out) ?_
        try simp only [Act.put, List.setIfInBounds_toArray, List.set_cons_zero, List.set_cons_succ]
        refine take_skip (i := 6) rfl (by kernel_rfl) (by kernel_rfl) (by kernel_rfl) (by kernel_rfl) (fun _ _ _ h => h) (by exact HS0.out) ?_
        try simp only [Act.put, List.setIfInBounds_toArray, List.set_cons_zero, List.set_cons_succ]
        refine wpAnyH_skip1 (i := 7) rfl (by kernel_rfl) (by kernel_rfl) HS0.out ?_
        try simp only [Act.put, List.setIfInBounds_toArray, List.set_cons_zero, List.set_cons_succ]
        refine take_skip (i := 8) rfl (by kernel_rfl) (by kernel_rfl) (by kernel_rfl) (by kernel_rfl) (fun _ _ _ h => h) (by exact HS0.out) ?_
        try simp only [Act.put, List.setIfInBounds_toArray, List.set_cons_zero, List.set_cons_succ]
        refine take_first (i := 9) (v := ?_) rfl (by kernel_rfl) (by kernel_rfl) (by kernel_rfl) rfl (fun _ _ _ h => h) (by exact HS0.out) ?_ ?_
        rotate_left
        · intro w' hSw
          have hx := hSw.1.cell
          simp only [reqC] at hx
          go_simp
          with_reducible rfl
        try simp only [Act.put, List.setIfInBounds_toArray, List.set_cons_zero, List.set_cons_succ]
        refine wpAnyH_forced [10, 11] [_, _] _ _ _ rfl (by kernel_rfl) ?_
        have hz5 := HZ5.out.cell
        have hzf := HZ5.out.frozen
        have HR := Lib.hid (((((((((((HZ5.out.set 0 (.int .u8 k.1)).set 1 (.int .u64 q'.space)).set 2 (.int .u64 q'.handle)).set 3 (.int .i64 q'.rslot)).set 4 (.int .u64 q'.rgen)).set 5 (.int .u64 q'.to_)).set 6 (.string (bs q'.key))).set 7 (.string (bs q'.value))).set 8 (.int .u8 q'.rights)).set 9 (.int .u64 q'.most)).set 10 (.bool q'.flag))
        have HL := Lib.hid (((((((((((HLB.out.setCell (p := ⟨w.heap.size, 0, none⟩) (Nat.le_refl _) (.int .u8 k.1)).setCell (p := ⟨w.heap.size, 1, none⟩) (Nat.le_refl _) (.int .u64 q'.space)).setCell (p := ⟨w.heap.size, 2, none⟩) (Nat.le_refl _) (.int .u64 q'.handle)).setCell (p := ⟨w.heap.size, 3, none⟩) (Nat.le_refl _) (.int .i64 q'.rslot)).setCell (p := ⟨w.heap.size, 4, none⟩) (Nat.le_refl _) (.int .u64 q'.rgen)).setCell (p := ⟨w.heap.size, 5, none⟩) (Nat.le_refl _) (.int .u64 q'.to_)).setCell (p := ⟨w.heap.size, 6, none⟩) (Nat.le_refl _) (.string (bs q'.key))).setCell (p := ⟨w.heap.size, 7, none⟩) (Nat.le_refl _) (.string (bs q'.value))).setCell (p := ⟨w.heap.size, 8, none⟩) (Nat.le_refl _) (.int .u8 q'.rights)).setCell (p := ⟨w.heap.size, 9, none⟩) (Nat.le_refl _) (.int .u64 q'.most)).setCell (p := ⟨w.heap.size, 10, none⟩) (Nat.le_refl _) (.bool q'.flag))
        refine wpListH_plain rfl fun K hK => ?_
        have HK2 := Lib.hid hK; clear hK
        go_simp
        refine HK2.out _ _ ⟨?_, trivial⟩ ?_
        · refine Blk.drew ?_
          iterate 11 (refine Blk.far ?_ (by have := HQB.out; simp; omega) _)
          exact HRS5.out.req
        clear HK2
        refine wpListH_plain rfl fun K hK => ?_
        have HK2 := Lib.hid hK; clear hK
        go_simp
        refine HK2.out _ _ ⟨?_, trivial⟩ ?_
        · refine Blk.drew ?_
          iterate 11 (refine Blk.far ?_ (by have := HQB.out; simp; omega) _)
          exact HRS5.out.req
        clear HK2
        refine wpListH_nil ?_
        clear hz5 hzf
        generalize hWE : ((((((((((((wr.setCell ⟨w.heap.size, 0, none⟩ (.int .u8 k.1)).setCell ⟨w.heap.size, 1, none⟩ (.int .u64 q'.space)).setCell ⟨w.heap.size, 2, none⟩ (.int .u64 q'.handle)).setCell ⟨w.heap.size, 3, none⟩ (.int .i64 q'.rslot)).setCell ⟨w.heap.size, 4, none⟩ (.int .u64 q'.rgen)).setCell ⟨w.heap.size, 5, none⟩ (.int .u64 q'.to_)).setCell ⟨w.heap.size, 6, none⟩ (.string (bs q'.key))).setCell ⟨w.heap.size, 7, none⟩ (.string (bs q'.value))).setCell ⟨w.heap.size, 8, none⟩ (.int .u8 q'.rights)).setCell ⟨w.heap.size, 9, none⟩ (.int .u64 q'.most)).setCell ⟨w.heap.size, 10, none⟩ (.bool q'.flag))) = WE at HR HL ⊢
        have hxe := HR.out.cell
        clear hWE
        go_wp2
        have hres : readR l = (q', false) := by
          unfold readR
          simp only [← HK.out]
          rw [← HF.out, HQ'.out]
          simp [HD.out]
        simp only [List.setIfInBounds_toArray, List.set_cons_zero, List.set_cons_succ] at hxe
        refine bodyPost_ret (v := .tuple #[.agg (reqC q'), .bool false]) (by simp [results, Tryd.results32, go_sem, hxe, reqC, hkk]) rfl ?_
        rw [hres]
        exact ⟨rfl, HL.out.drew⟩
end Go.Proofs.YtbkgcfoilgggjaaDoor
