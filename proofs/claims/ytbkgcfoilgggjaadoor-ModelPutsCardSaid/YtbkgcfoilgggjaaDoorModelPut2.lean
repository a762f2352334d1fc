/- The law of the model: ModelPuts, where all is in bounds. -/
import Derived.Test.YtbkgcfoilgggjaaDoorModelPuts
set_option linter.unusedVariables false
set_option linter.unusedSimpArgs false
namespace Go.Proofs.YtbkgcfoilgggjaaDoor
open Go.RowKit Go.Maps

theorem Rds.fr1 {M : List Nat} {w w1 : World} {size : Nat} {g c n : Nat} {xs : List Value} (h : Rds w size (.slice (some ⟨g, 0, none⟩) n c) n xs) (hf : Fr M w w1) (hg : g ∉ M) : Rds w1 size (.slice (some ⟨g, 0, none⟩) n c) n xs := by
  refine ⟨h.1, h.2.1, ?_⟩
  rcases h.2.2 with ⟨h1, h2⟩ | ⟨b, off, c', hv, hc, hx⟩
  · exact .inl ⟨h1, h2⟩
  · refine .inr ⟨b, off, c', hv, hc, fun j u hj => ?_⟩
    have h1 := hx j u hj
    injection hv with e1 e2 e3
    injection e1 with e1
    injection e1 with e1 e4
    subst e1
    exact (hf.cell (lt_of_cell h1) hg).trans h1
set_option maxRecDepth 100000 in
set_option maxHeartbeats 4000000 in
theorem puts_ok (key value other : Bs) (keep : Bool) (w : World) (hG : G w) (h1 : 1 ≤ key.length) (h2 : key.length ≤ 39) (h3 : value.length ≤ 2048) (h4 : other.length ≤ 2048) :
    Calls Tryd.prog 3 #[.agg (ofC key value other), .bool keep] w fun e w' => e = .returned (.bool true) ∧ Below w.heap.size w w' := by
  have HG := Lib.hid hG; clear hG
  have hmx : Tryd.prog.follows .mixedOrders = true := by kernel_rfl
  have hk0 : key ≠ [] := by rintro rfl; simp at h1
  have HK0 := Lib.hid hk0
  clear hk0
  simp only [ofC]
  go_enter Tryd.func3, Tryd.ntmps3
  go_wp2_with fail
  refine region_plan (S := fun w' => ∀ o, w'.cell? ⟨w.heap.size, o, none⟩ = #[Value.string (bs key), .string (bs value), .string (bs other)][o]?) [.t 0, .t 1, .t 2, .t 3, .t 4, .t 5, .t 6, .t 7, .t 8] hmx (by kernel_rfl) (fun _ _ x _ _ h => by cases x <;> exact h) (fun o => (Blk.new w _ _).cell o) ?_
  iterate 9
    refine plan_t (v := ?_) rfl rfl ?_ ?_
    rotate_left
    · intro w' hSw
      have hx := hSw
      go_simp
      with_reducible rfl
    try simp only [Act.put, List.setIfInBounds_toArray, List.set_cons_zero, List.set_cons_succ]
  refine plan_nil ?_
  go_wp2_with fail
  -- New
  refine (new_sp2 _).mono ?_
  rintro e w1 ⟨s, lb, rb, rfl, hlb, hlr, hrs, hsz, hs, hl, hb⟩
  have hlb0 : w.heap.size < lb := by simp at hlb; omega
  have HS1 := Lib.hid hs
  have HL1 := Lib.hid hl
  have HB1 := Lib.hid (below_then ((below_a1 w (.cells #[.string (bs key), .string (bs value), .string (bs other)] 22)).drew) (by simp) hb)
  clear hs hl hb hlb
  go_wp2_with fail
  -- a reader begins
  have hbr := begin_read s lb rb 0 0 none 0 (.map []) 0 (toD []) w1 (by omega) (by omega) (by simp [Maps.size]) (by unfold maxLen; omega) HS1.out HL1.out (by omega)
  rw [show (0 : Int) + 1 = 1 from rfl] at hbr
  refine hbr.mono ?_
  clear hbr
  rintro e w2 ⟨vr, rfl, hvr, hs, hl, hv, hg⟩
  have HF := Lib.hid hg.fr
  have HS2 := Lib.hid (show Sp w2 s lb rb 1 0 none 1 (oneR vr) from hs)
  have HL2 := Lib.hid hl
  have HR2 := Lib.hid hv
  have hvr2 : vr < w2.heap.size := hv.lt
  have HB2 := Lib.hid (HF.out.below HB1.out HB1.out.size (by simp; omega))
  have hsz2 := HF.out.size
  clear hs hl hv hg HS1 HL1 HB1 HF
  go_wp2_with fail
  -- a writer begins
  have hbw := begin_write s lb rb 1 none 1 (oneR vr) 0 (toD []) w2 (by omega) (by omega) HS2.out HL2.out (by omega)
  rw [show (1 : Int) + 1 = 2 from rfl] at hbw
  refine hbw.mono ?_
  clear hbw
  rintro e w3 ⟨vw, rfl, hvw, hs, hl, hv, hg⟩
  have HF := Lib.hid (Fr.of_grown hg)
  have HS3 := Lib.hid hs
  have HL3 := Lib.hid hl
  have HW3 := Lib.hid hv
  have hvw2 : vw < w3.heap.size := hv.lt
  have HR3 := Lib.hid (HR2.out.fr HF.out (by simp; omega))
  have HB3 := Lib.hid (HF.out.below HB2.out HB2.out.size (by simp; omega))
  have hsz3 := HF.out.size
  clear hs hl hv hg HS2 HL2 HR2 HB2 HF
  go_wp2_with fail
  -- a: put
  have HK3 := Lib.hid ((Keep.nil w3).new (reqC (plainQ 2 key [])) 34)
  have hdo := do_put2 s lb rb 2 2 1 (oneR vr) (by omega) (by omega) (by omega) key value (by omega) HK0.out h3 vw 0 (by unfold maxLen; omega) [] [(key, value)] SL_nil (w3.alloc (.cells (reqC (plainQ 2 key [])) 34)) ⟨HS3.out.blk.alloc _, World.ownsMap.alloc HS3.out.reads _⟩ (HW3.out.alloc _) false rfl rfl
  simp only [reqC, plainQ] at hdo
  refine hdo.mono ?_
  clear hdo
  rintro e w4 ⟨rfl, hv, hf⟩
  have HS4 := Lib.hid (Sp.fr (M := [vw]) ⟨HS3.out.blk.alloc _, World.ownsMap.alloc HS3.out.reads _⟩ hf (by simp; omega) (by simp; omega))
  have HL4 := Lib.hid ((HL3.out.alloc _).fr hf (by simp; omega))
  have HR4 := Lib.hid ((HR3.out.alloc _).fr hf (by simp; omega))
  have HW4 := Lib.hid hv
  have HK4 := Lib.hid (HK3.out.fr hf (by simp; omega))
  have HB4 := Lib.hid (hf.below (below_alloc HB3.out _) (below_alloc HB3.out _).size (by simp; omega))
  have hsz4 : w3.heap.size < w4.heap.size := by have := hf.size; simp at this; omega
  have hq := (HK4.out (w3.heap.size, reqC (plainQ 2 key []), 34) (by simp)).cell
  simp only [reqC, plainQ] at hq
  clear hv hf HS3 HL3 HR3 HW3 HK3 HB3
  simp only [replyV_def, repC]
  go_wp2_with fail
  -- b: get
  have HK4a := Lib.hid (HK4.out.new (repC false []) 39)
  have hsw : seenV 2 (.map (some vw)) (oneR vr) 2 = .map (some vw) := rfl
  have hse : seenE 2 (oneR vr) 2 = 0 := rfl
  have HSW := Lib.hid hsw
  have HSE := Lib.hid hse
  clear hsw hse hq
  have hdo := fun w' L (hS : Sp w' s lb rb 2 2 (some vw) 1 (oneR vr)) n (hV : VM w' vw n (toD L)) f x hf hx => do_get2 s lb rb 2 2 (some vw) 1 (oneR vr) 2 (by omega) (by omega) key (by omega) HK0.out vw n L w' hS HSW.out HSE.out hV f x hf hx
  simp only [reqC, plainQ] at hdo
  have HDO := Lib.hid hdo
  clear hdo
  refine (HDO.out _ [(key, value)] ⟨HS4.out.blk.alloc _, World.ownsMap.alloc HS4.out.reads _⟩ _ (HW4.out.alloc _) true value (by simp [lget_one]) (by simp [lget_one])).mono ?_
  rintro e w5 ⟨rfl, hb⟩
  have HS5 := Lib.hid (Sp.below ⟨HS4.out.blk.alloc _, World.ownsMap.alloc HS4.out.reads _⟩ hb)
  have HL5 := Lib.hid ((HL4.out.alloc _).below hb)
  have HR5 := Lib.hid ((HR4.out.alloc _).below hb)
  have HW5 := Lib.hid ((HW4.out.alloc _).below hb)
  have HK5 := Lib.hid (HK4a.out.below hb)
  have HB5 := Lib.hid (below_then (below_alloc HB4.out _) (below_alloc HB4.out _).size hb)
  have hsz5 : w4.heap.size < w5.heap.size := by have := hb.size; simp at this; omega
  clear hb HS4 HL4 HR4 HW4 HK4 HK4a HB4
  simp only [replyV_def, repC]
  go_wp2_with fail
  -- c: put
  have HK5a := Lib.hid (HK5.out.new (repC true value) 39)
  have hdo := do_put2 s lb rb 2 2 1 (oneR vr) (by omega) (by omega) (by omega) key other (by omega) HK0.out h4 vw 1 (by unfold maxLen; omega) [(key, value)] [(key, other)] (SL_one _ _) (w5.alloc (.cells (repC true value) 39)) ⟨HS5.out.blk.alloc _, World.ownsMap.alloc HS5.out.reads _⟩ (by have := HW5.out.alloc (.cells (repC true value) 39); exact this) true (by simp [lget_one]) (lput_one _ _ _)
  simp only [reqC, plainQ] at hdo
  refine hdo.mono ?_
  clear hdo
  rintro e w6 ⟨rfl, hv, hf⟩
  have HS6 := Lib.hid (Sp.fr (M := [vw]) ⟨HS5.out.blk.alloc _, World.ownsMap.alloc HS5.out.reads _⟩ hf (by simp; omega) (by simp; omega))
  have HL6 := Lib.hid ((HL5.out.alloc _).fr hf (by simp; omega))
  have HR6 := Lib.hid ((HR5.out.alloc _).fr hf (by simp; omega))
  have HW6 := Lib.hid hv
  have HK6 := Lib.hid (HK5a.out.fr hf (by simp; omega))
  have HB6 := Lib.hid (hf.below (below_alloc HB5.out _) (below_alloc HB5.out _).size (by simp; omega))
  have hsz6 : w5.heap.size < w6.heap.size := by have := hf.size; simp at this; omega
  have hq := (HK6.out (w3.heap.size, reqC (plainQ 2 key []), 34) (by simp)).cell
  have hql : w3.heap.size < w6.heap.size := by omega
  simp only [reqC, plainQ] at hq
  clear hv hf HS5 HL5 HR5 HW5 HK5 HK5a HB5
  simp only [replyV_def, repC]
  go_wp2_with fail
  -- d: get
  clear hq
  have HK6a := Lib.hid (HK6.out.new (repC true []) 39)
  refine (HDO.out _ [(key, other)] ⟨HS6.out.blk.alloc _, World.ownsMap.alloc HS6.out.reads _⟩ _ (HW6.out.alloc _) true other (by simp [lget_one]) (by simp [lget_one])).mono ?_
  rintro e w7 ⟨rfl, hb⟩
  have HS7 := Lib.hid (Sp.below ⟨HS6.out.blk.alloc _, World.ownsMap.alloc HS6.out.reads _⟩ hb)
  have HL7 := Lib.hid ((HL6.out.alloc _).below hb)
  have HR7 := Lib.hid ((HR6.out.alloc _).below hb)
  have HW7 := Lib.hid ((HW6.out.alloc _).below hb)
  have HK7 := Lib.hid (HK6a.out.below hb)
  have HB7 := Lib.hid (below_then (below_alloc HB6.out _) (below_alloc HB6.out _).size hb)
  have hsz7 : w6.heap.size < w7.heap.size := by have := hb.size; simp at this; omega
  have hq := (HK7.out (w3.heap.size, reqC (plainQ 2 key []), 34) (by simp)).cell
  have hql7 : w3.heap.size < w7.heap.size := by omega
  simp only [reqC, plainQ] at hq
  clear hb HS6 HL6 HR6 HW6 HK6 HK6a HB6 hql
  simp only [replyV_def, repC]
  go_wp2_with fail
  -- x: the reader's get
  clear hq
  have HK7a := Lib.hid (HK7.out.new (repC true other) 39)
  have hsv1 : seenV 2 (.map (some vw)) (oneR vr) 1 = .map (some vr) := by simp [seenV, oneR_has, oneR_get]
  have hse1 : seenE 2 (oneR vr) 1 = 0 := by simp [seenE, oneR_has]
  have hdo := do_get2 s lb rb 2 2 (some vw) 1 (oneR vr) 1 (by omega) (by omega) key (by omega) HK0.out vr 0 [] (w7.alloc (.cells (repC true other) 39)) ⟨HS7.out.blk.alloc _, World.ownsMap.alloc HS7.out.reads _⟩ hsv1 hse1 (HR7.out.alloc _) false [] rfl rfl
  simp only [reqC, plainQ] at hdo
  clear hsv1 hse1
  refine hdo.mono ?_
  clear hdo
  rintro e w8 ⟨rfl, hb⟩
  have HS8 := Lib.hid (Sp.below ⟨HS7.out.blk.alloc _, World.ownsMap.alloc HS7.out.reads _⟩ hb)
  have HL8 := Lib.hid ((HL7.out.alloc _).below hb)
  have HR8 := Lib.hid ((HR7.out.alloc _).below hb)
  have HW8 := Lib.hid ((HW7.out.alloc _).below hb)
  have HK8 := Lib.hid (HK7a.out.below hb)
  have HB8 := Lib.hid (below_then (below_alloc HB7.out _) (below_alloc HB7.out _).size hb)
  have hsz8 : w7.heap.size < w8.heap.size := by have := hb.size; simp at this; omega
  have ha := (HK8.out (w4.heap.size, repC false [], 39) (by simp)).cell
  have hbx := (HK8.out (w5.heap.size, repC true value, 39) (by simp)).cell
  have hc := (HK8.out (w6.heap.size, repC true [], 39) (by simp)).cell
  have hd := (HK8.out (w7.heap.size, repC true other, 39) (by simp)).cell
  have hl4 : w4.heap.size < w8.heap.size := by omega
  have hl5 : w5.heap.size < w8.heap.size := by omega
  have hl6 : w6.heap.size < w8.heap.size := by omega
  simp only [repC] at ha hbx hc hd
  clear hb HS7 HL7 HR7 HW7 HK7 HK7a HB7 hql7
  simp only [replyV_def, repC]
  go_wp2_with fail
  -- what lasts is nothing yet
  have HK8a := Lib.hid (HK8.out.new (repC false []) 39)
  refine (data_any s lb rb 2 2 (some vw) 0 [] SL_nil lkey_nil (by simp) _ (HS8.out.blk.alloc _) (HL8.out.alloc _)).mono ?_
  rintro e w9 ⟨v9, rfl, ho, hb⟩
  obtain ⟨A9, c9, rfl⟩ := ho.none
  have HS9 := Lib.hid (Sp.below ⟨HS8.out.blk.alloc _, World.ownsMap.alloc HS8.out.reads _⟩ hb)
  have HL9 := Lib.hid ((HL8.out.alloc _).below hb)
  have HR9 := Lib.hid ((HR8.out.alloc _).below hb)
  have HW9 := Lib.hid ((HW8.out.alloc _).below hb)
  have HK9 := Lib.hid (HK8a.out.below hb)
  have HB9 := Lib.hid (below_then (below_alloc HB8.out _) (below_alloc HB8.out _).size hb)
  have hsz9 : w8.heap.size < w9.heap.size := by have := hb.size; simp at this; omega
  clear ho hb HS8 HL8 HR8 HW8 HK8 HK8a HB8 ha hbx hc hd hl4 hl5 hl6 HDO HSW HSE
  go_wp2_with fail
  cases keep
  · -- its end
    refine (end_drop s lb rb 2 2 vw 1 (oneR vr) (by omega) (by omega) (by omega) w9 HS9.out (by omega)).mono ?_
    rintro e w10 ⟨rfl, hs, hg⟩
    have HF := Lib.hid (Fr.of_grown hg)
    have HS10 := Lib.hid hs
    have HL10 := Lib.hid (HL9.out.fr HF.out (by simp; omega))
    have HR10 := Lib.hid (HR9.out.fr HF.out (by simp; omega))
    have HK10 := Lib.hid (HK9.out.fr HF.out (by simp; omega))
    have HB10 := Lib.hid (HF.out.below HB9.out HB9.out.size (by simp; omega))
    have hsz10 := HF.out.size
    have hq := (HK10.out (w3.heap.size, reqC (plainQ 2 key []), 34) (by simp)).cell
    have hql : w3.heap.size < w10.heap.size := by omega
    simp only [reqC, plainQ] at hq
    clear hs hg HF HS9 HL9 HR9 HK9 HW9 HB9
    go_wp2_with fail
    -- y: the reader's get
    clear hq
    have hsv1 : seenV 0 (.map none) (oneR vr) 1 = .map (some vr) := by simp [seenV, oneR_has, oneR_get]
    have hse1 : seenE 0 (oneR vr) 1 = 0 := by simp [seenE, oneR_has]
    have hdo := do_get2 s lb rb 2 0 none 1 (oneR vr) 1 (by omega) (by omega) key (by omega) HK0.out vr 0 [] w10 HS10.out hsv1 hse1 HR10.out false [] rfl rfl
    simp only [reqC, plainQ] at hdo
    clear hsv1 hse1
    refine hdo.mono ?_
    clear hdo
    rintro e w11 ⟨rfl, hb⟩
    have HS11 := Lib.hid (HS10.out.below hb)
    have HL11 := Lib.hid (HL10.out.below hb)
    have HK11 := Lib.hid (HK10.out.below hb)
    have HB11 := Lib.hid (below_then HB10.out HB10.out.size hb)
    have hsz11 : w10.heap.size ≤ w11.heap.size := hb.size
    clear hb HS10 HL10 HR10 HK10 HB10 hql
    simp only [replyV_def, repC]
    go_wp2_with fail
    -- l: what lasts
    have HK11a := Lib.hid (HK11.out.new (repC false []) 39)
    refine (data_any s lb rb 2 0 none 0 [] SL_nil lkey_nil (by simp) _ (HS11.out.blk.alloc _) (HL11.out.alloc _)).mono ?_
    rintro e w12 ⟨v12, rfl, ho, hb⟩
    obtain ⟨A12, c12, rfl⟩ := ho.none
    have HS12 := Lib.hid (Sp.below ⟨HS11.out.blk.alloc _, World.ownsMap.alloc HS11.out.reads _⟩ hb)
    have HL12 := Lib.hid ((HL11.out.alloc _).below hb)
    have HK12 := Lib.hid (HK11a.out.below hb)
    have HB12 := Lib.hid (below_then (below_alloc HB11.out _) (below_alloc HB11.out _).size hb)
    have hsz12 : w11.heap.size < w12.heap.size := by have := hb.size; simp at this; omega
    clear ho hb HS11 HL11 HK11 HK11a HB11
    go_wp2_with fail
    -- another writer begins
    have hbw := begin_write s lb rb 2 none 1 (oneR vr) 0 (toD []) w12 (by omega) (by omega) HS12.out HL12.out (by omega)
    rw [show (2 : Int) + 1 = 3 from rfl] at hbw
    refine hbw.mono ?_
    clear hbw
    rintro e w13 ⟨vz, rfl, hvz, hs, hl, hv, hg⟩
    have HF := Lib.hid (Fr.of_grown hg)
    have HS13 := Lib.hid hs
    have HW13 := Lib.hid hv
    have hvz2 : vz < w13.heap.size := hv.lt
    have HK13 := Lib.hid (HK12.out.fr HF.out (by simp; omega))
    have HB13 := Lib.hid (HF.out.below HB12.out HB12.out.size (by simp; omega))
    have hsz13 := HF.out.size
    clear hs hl hv hg HS12 HL12 HK12 HB12 HF
    go_wp2_with fail
    -- z: delete
    have hdo := do_del2 s lb rb 3 3 1 (oneR vr) (by omega) (by omega) (by omega) key (by omega) HK0.out vz 0 [] [] w13 HS13.out HW13.out false rfl rfl
    simp only [reqC, plainQ] at hdo
    refine hdo.mono ?_
    clear hdo
    rintro e w14 ⟨rfl, hv, hf⟩
    have HS14 := Lib.hid (HS13.out.fr hf (by simp; omega) (by simp; omega))
    have HW14 := Lib.hid hv
    have HK14 := Lib.hid (HK13.out.fr hf (by simp; omega))
    have HB14 := Lib.hid (hf.below HB13.out HB13.out.size (by simp; omega))
    have hsz14 := hf.size
    have hq := (HK14.out (w3.heap.size, reqC (plainQ 2 key []), 34) (by simp)).cell
    have hql : w3.heap.size < w14.heap.size := by omega
    simp only [reqC, plainQ] at hq
    clear hv hf HS13 HW13 HK13 HB13
    simp only [replyV_def, repC]
    go_wp2_with fail
    -- v: its get
    clear hq hql
    have HK14a := Lib.hid (HK14.out.new (repC false []) 39)
    have hdo := do_get2 s lb rb 3 3 (some vz) 1 (oneR vr) 3 (by omega) (by omega) key (by omega) HK0.out vz 0 [] (w14.alloc (.cells (repC false []) 39)) ⟨HS14.out.blk.alloc _, World.ownsMap.alloc HS14.out.reads _⟩ rfl rfl (HW14.out.alloc _) false [] rfl rfl
    simp only [reqC, plainQ] at hdo
    refine hdo.mono ?_
    clear hdo
    rintro e w15 ⟨rfl, hb⟩
    have HK15 := Lib.hid (HK14a.out.below hb)
    have HB15 := Lib.hid (below_then (below_alloc HB14.out _) (below_alloc HB14.out _).size hb)
    have hsz15 : w14.heap.size < w15.heap.size := by have := hb.size; simp at this; omega
    have hy := (HK15.out (w11.heap.size, repC false [], 39) (by simp)).cell
    have hz := (HK15.out (w14.heap.size, repC false [], 39) (by simp)).cell
    have hl11 : w11.heap.size < w15.heap.size := by omega
    simp only [repC] at hy hz
    clear hb HS14 HW14 HK14 HK14a HB14
    simp only [replyV_def, repC]
    go_wp2_with fail
    -- sure
    refine (sure_any _ (HG.out.below (Nat.le_refl _) (below_alloc HB15.out _))).mono ?_
    rintro e w16 ⟨rfl, hb⟩
    have HB16 := Lib.hid (below_then (below_alloc HB15.out _) (below_alloc HB15.out _).size hb)
    clear hb hy hz
    go_wp2
    all_goals go_ret
    exact ⟨rfl, HB16.out⟩
  · -- its end
    refine (end_keep s lb rb 2 2 vw 1 (oneR vr) (by omega) (by omega) (by omega) w9 HS9.out (by omega)).mono ?_
    rintro e w10 ⟨rfl, hs, hg⟩
    have HF := Lib.hid (Fr.of_grown hg)
    have HS10 := Lib.hid hs
    have HL10 := Lib.hid (HW9.out.fr HF.out (by simp; omega))
    have HR10 := Lib.hid (HR9.out.fr HF.out (by simp; omega))
    have HK10 := Lib.hid (HK9.out.fr HF.out (by simp; omega))
    have HB10 := Lib.hid (HF.out.below HB9.out HB9.out.size (by simp; omega))
    have hsz10 := HF.out.size
    have hq := (HK10.out (w3.heap.size, reqC (plainQ 2 key []), 34) (by simp)).cell
    have hql : w3.heap.size < w10.heap.size := by omega
    simp only [reqC, plainQ] at hq
    clear hs hg HF HS9 HL9 HR9 HK9 HW9 HB9
    go_wp2_with fail
    -- y: the reader's get
    clear hq
    have hsv1 : seenV 0 (.map none) (oneR vr) 1 = .map (some vr) := by simp [seenV, oneR_has, oneR_get]
    have hse1 : seenE 0 (oneR vr) 1 = 0 := by simp [seenE, oneR_has]
    have hdo := do_get2 s vw rb 2 0 none 1 (oneR vr) 1 (by omega) (by omega) key (by omega) HK0.out vr 0 [] w10 HS10.out hsv1 hse1 HR10.out false [] rfl rfl
    simp only [reqC, plainQ] at hdo
    clear hsv1 hse1
    refine hdo.mono ?_
    clear hdo
    rintro e w11 ⟨rfl, hb⟩
    have HS11 := Lib.hid (HS10.out.below hb)
    have HL11 := Lib.hid (HL10.out.below hb)
    have HK11 := Lib.hid (HK10.out.below hb)
    have HB11 := Lib.hid (below_then HB10.out HB10.out.size hb)
    have hsz11 : w10.heap.size ≤ w11.heap.size := hb.size
    clear hb HS10 HL10 HR10 HK10 HB10 hql
    simp only [replyV_def, repC]
    go_wp2_with fail
    -- l: what lasts
    have HK11a := Lib.hid (HK11.out.new (repC false []) 39)
    refine (data_any s vw rb 2 0 none (1 + 1) [(key, other)] (SL_one _ _) (lkey_one (by omega) (by omega)) (by simp) _ (HS11.out.blk.alloc _) (HL11.out.alloc _)).mono ?_
    rintro e w12 ⟨v12, rfl, ho, hb⟩
    obtain ⟨g12, c12, rfl, hc12, hg12, hgl12, hx0, hx1⟩ := ho.one
    have HX := Lib.hid (show Rds w12 2 (.slice (some ⟨g12, 0, none⟩) 1 c12) 1 (entC [(key, other)]) from Rds.of_own ho)
    have HS12 := Lib.hid (Sp.below ⟨HS11.out.blk.alloc _, World.ownsMap.alloc HS11.out.reads _⟩ hb)
    have HL12 := Lib.hid ((HL11.out.alloc _).below hb)
    have HK12 := Lib.hid (HK11a.out.below hb)
    have HB12 := Lib.hid (below_then (below_alloc HB11.out _) (below_alloc HB11.out _).size hb)
    have hsz12 : w11.heap.size < w12.heap.size := by have := hb.size; simp at this; omega
    have hg12b : w11.heap.size < g12 := by simp at hg12; omega
    clear hx0 hx1 hg12
    clear ho hb HS11 HL11 HK11 HK11a HB11
    go_wp2_with fail
    -- another writer begins
    have hbw := begin_write s vw rb 2 none 1 (oneR vr) (1 + 1) (toD [(key, other)]) w12 (by omega) (by omega) HS12.out HL12.out (by omega)
    rw [show (2 : Int) + 1 = 3 from rfl] at hbw
    refine hbw.mono ?_
    clear hbw
    rintro e w13 ⟨vz, rfl, hvz, hs, hl, hv, hg⟩
    have HF := Lib.hid (Fr.of_grown hg)
    have HS13 := Lib.hid hs
    have HW13 := Lib.hid hv
    have hvz2 : vz < w13.heap.size := hv.lt
    have HK13 := Lib.hid (HK12.out.fr HF.out (by simp; omega))
    have HB13 := Lib.hid (HF.out.below HB12.out HB12.out.size (by simp; omega))
    have hsz13 := HF.out.size
    have hx0 : w13.cell? ⟨g12, 0, none⟩ = some (.string (bs key)) := by
      have h := HX.out.fr1 HF.out (by simp; omega)
      rcases h.2.2 with ⟨_, h2⟩ | ⟨b, off, c, hv, hc, hx⟩
      · simp at h2
      · injection hv with e1 e2 e3
        injection e1 with e1
        injection e1 with e1 e4
        subst e1 e4
        exact hx 0 _ rfl
    have hx1 : w13.cell? ⟨g12, 1, none⟩ = some (.string (bs other)) := by
      have h := HX.out.fr1 HF.out (by simp; omega)
      rcases h.2.2 with ⟨_, h2⟩ | ⟨b, off, c, hv, hc, hx⟩
      · simp at h2
      · injection hv with e1 e2 e3
        injection e1 with e1
        injection e1 with e1 e4
        subst e1 e4
        exact hx 1 _ rfl
    have HX0 := Lib.hid hx0
    have HX1 := Lib.hid hx1
    have hgl13 : g12 < w13.heap.size := by omega
    clear hx0 hx1
    clear hs hl hv hg HS12 HL12 HK12 HB12 HF
    go_wp2_with fail
    -- z: delete
    have hdo := do_del2 s vw rb 3 3 1 (oneR vr) (by omega) (by omega) (by omega) key (by omega) HK0.out vz (1 + 1) [(key, other)] [] w13 HS13.out HW13.out true (by simp [lget_one]) (ldel_one _ _)
    simp only [reqC, plainQ] at hdo
    refine hdo.mono ?_
    clear hdo
    rintro e w14 ⟨rfl, hv, hf⟩
    have HS14 := Lib.hid (HS13.out.fr hf (by simp; omega) (by simp; omega))
    have HW14 := Lib.hid hv
    have HK14 := Lib.hid (HK13.out.fr hf (by simp; omega))
    have HB14 := Lib.hid (hf.below HB13.out HB13.out.size (by simp; omega))
    have hsz14 := hf.size
    have HX0b := Lib.hid ((hf.cell hgl13 (by simp; omega)).trans HX0.out)
    have HX1b := Lib.hid ((hf.cell hgl13 (by simp; omega)).trans HX1.out)
    have hgl14 : g12 < w14.heap.size := by omega
    have hq := (HK14.out (w3.heap.size, reqC (plainQ 2 key []), 34) (by simp)).cell
    have hql : w3.heap.size < w14.heap.size := by omega
    simp only [reqC, plainQ] at hq
    clear hv hf HS13 HW13 HK13 HB13
    simp only [replyV_def, repC]
    go_wp2_with fail
    -- v: its get
    clear hq hql
    have HK14a := Lib.hid (HK14.out.new (repC true []) 39)
    have hdo := do_get2 s vw rb 3 3 (some vz) 1 (oneR vr) 3 (by omega) (by omega) key (by omega) HK0.out vz (1 + 1) [] (w14.alloc (.cells (repC true []) 39)) ⟨HS14.out.blk.alloc _, World.ownsMap.alloc HS14.out.reads _⟩ rfl rfl (HW14.out.alloc _) false [] rfl rfl
    simp only [reqC, plainQ] at hdo
    refine hdo.mono ?_
    clear hdo
    rintro e w15 ⟨rfl, hb⟩
    have HK15 := Lib.hid (HK14a.out.below hb)
    have HB15 := Lib.hid (below_then (below_alloc HB14.out _) (below_alloc HB14.out _).size hb)
    have hsz15 : w14.heap.size < w15.heap.size := by have := hb.size; simp at this; omega
    have hx0 := (hb.cell (p := ⟨g12, 0, none⟩) (by simp; omega)).trans ((World.cell?_alloc_lt _ _ _ (lt_of_cell HX0b.out)).trans HX0b.out)
    have hx1 := (hb.cell (p := ⟨g12, 1, none⟩) (by simp; omega)).trans ((World.cell?_alloc_lt _ _ _ (lt_of_cell HX1b.out)).trans HX1b.out)
    have hgl15 : g12 < w15.heap.size := by omega
    have hy := (HK15.out (w11.heap.size, repC false [], 39) (by simp)).cell
    have hz := (HK15.out (w14.heap.size, repC true [], 39) (by simp)).cell
    have hl11 : w11.heap.size < w15.heap.size := by omega
    simp only [repC] at hy hz
    clear hb HS14 HW14 HK14 HK14a HB14
    simp only [replyV_def, repC]
    go_wp2_with fail
    -- sure
    refine (sure_any _ (HG.out.below (Nat.le_refl _) (below_alloc HB15.out _))).mono ?_
    rintro e w16 ⟨rfl, hb⟩
    have HB16 := Lib.hid (below_then (below_alloc HB15.out _) (below_alloc HB15.out _).size hb)
    clear hb hy hz
    go_wp2
    all_goals go_ret
    exact ⟨rfl, HB16.out⟩
end Go.Proofs.YtbkgcfoilgggjaaDoor
