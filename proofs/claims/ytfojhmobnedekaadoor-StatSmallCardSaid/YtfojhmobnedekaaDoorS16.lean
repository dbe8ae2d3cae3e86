/- The law StatTexts. Conditions: the input fits the machine; the table of powers is as the library lays it. -/
import Derived.Test.YtfojhmobnedekaaDoorS11
import Derived.Test.YtfojhmobnedekaaDoorStT
import Derived.Test.YtfojhmobnedekaaDoorTree
namespace Go.Proofs.YtfojhmobnedekaaDoor
open Go.RowKit

theorem zero_in {v : Nat → Int} (h : ∀ j, inI (v j)) (j : Nat) : inI (upd (upd v 3 0) 11 0 j) := by
  have := h j
  unfold inI upd at *
  repeat' split
  all_goals omega
theorem fill1_0 : ((Array.range (1 * 19)).map ((Value.agg (stC v0)).cells[· % (Value.agg (stC v0)).cells.size]!)) = #[.int .i64 0, .int .i64 0, .int .i64 0, .int .i64 0, .int .i64 0, .int .i64 0, .int .i64 0, .int .i64 0, .int .i64 0, .int .i64 0, .int .i64 0, .int .i64 0, .int .i64 0, .int .i64 0, .int .i64 0, .int .i64 0, .int .i64 0, .int .i64 0, .int .i64 0] := by kernel_rfl
set_option maxRecDepth 100000 in
theorem fill1 (u : Nat → Int) : Instr.fill (fun i => some (i * 19, 19)) ((Array.range (1 * 19)).map ((Value.agg (stC v0)).cells[· % (Value.agg (stC v0)).cells.size]!)) #[(0, Value.agg (stC u))].toList = some (stC u) := by
  rw [fill1_0]
  unfold stC
  simp [Instr.fill, Value.cells]
theorem build1 (u : Nat → Int) (w : World) : (Instr.buildSlice 44 1 #[(0, .agg (stC u))]).run Tryd.prog w = .ok (.slice (some ⟨w.heap.size, 0, none⟩) 1 1) (w.alloc (.cells (stC u) 25)) := by
  obtain ⟨i0, hi, hz0, hz1, hz2⟩ := info_parts info25_
  refine run_buildSlice w 44 25 1 _ _ i0 _ Tryd.underlying44 hi hz0 (by rw [hz1]; decide) (by rw [hz1]; decide) ?_
  rw [hz1]
  exact fill1 u
theorem rs_one (u : Nat → Int) (w : World) : RS (w.alloc (.cells (stC u) 25)) (some ⟨w.heap.size, 0, none⟩) 1 1 (fun _ => u) where
  le := Nat.le_refl _
  most := by decide
  at_ k hk := by
    refine ⟨w.heap.size, 0, rfl, fun j x hx => ?_⟩
    rw [cell_of_block (heap_alloc_new w _)]
    obtain rfl : k = 0 := by omega
    rw [Nat.zero_mul, Nat.zero_add, ← Array.getElem?_toList]
    exact hx
theorem right_no (v : Nat → Int) (h : ¬ RightV v) (w : World) : Calls Tryd.prog 18 #[.agg (stC v)] w fun e w' => e = .returned (.bool false) ∧ Below w.heap.size w w' :=
  (Right_any v w).mono fun e w' ⟨⟨t, he, ht⟩, hB⟩ => ⟨by rw [he]; cases t with
    | true => exact absurd (ht.1 rfl) h
    | false => rfl, hB⟩
set_option maxRecDepth 100000 in
set_option maxHeartbeats 8000000 in
theorem texts_any {w : World} {u v : Nat → Int} (hu : ∀ j, inI (u j)) (hv : ∀ j, inI (v j)) (ht : Tab w) : Calls Tryd.prog 6 #[.agg (stC u), .agg (stC v)] w (XPost w) := by
  have hB1 : Below w.heap.size w ((w.alloc (.cells (stC u) 25)).alloc (.cells (stC v) 25)) := ((Below.refl _ _).alloc (Nat.le_refl _) _).alloc (by simp) _
  have hSa : StAt 25 ((w.alloc (.cells (stC u) 25)).alloc (.cells (stC v) 25)) w.heap.size u := (StAt.new w u).below ((Below.refl _ _).alloc (Nat.le_refl _) _) (by simp)
  have hSb : StAt 25 ((w.alloc (.cells (stC u) 25)).alloc (.cells (stC v) 25)) (w.heap.size + 1) v := by
    have := StAt.new (w.alloc (.cells (stC u) 25)) v
    rw [World.size_alloc] at this
    exact this
  have HW := Lib.hid (awake_any (ht.below hB1 ht.lt))
  have HT1 := Lib.hid (ht.below hB1 ht.lt)
  have HB1 := Lib.hid hB1
  have HSA := Lib.hid hSa
  have HSB := Lib.hid hSb
  have hp := ht.lt
  clear hB1 hSa hSb ht
  go_enter Tryd.func6, Tryd.ntmps6
  go_upto_region 1 with fail
  generalize (w.alloc (.cells (stC u) 25)).alloc (.cells (stC v) 25) = W at *
  go_wp2_with fail
  refine HW.out.mono ?_
  rintro e w2 ⟨rfl, hB2⟩
  have hsb := HSB.out.lt
  have HT2 := Lib.hid (HT1.out.below hB2 (by omega))
  have HA2 := Lib.hid (HSA.out.below hB2 (by omega))
  have HC2 := Lib.hid (HSB.out.below hB2 hsb)
  have HB2 := Lib.hid (HB1.out.trans (hB2.mono (by omega)))
  have hz2 := hB2.size
  clear hB2 HW HT1 HB1 HSA HSB
  have f3 := HA2.out.froz 3
  have c3 := HA2.out.cell (k := 3) (by omega)
  go_upto_region 4 with fail
  have HA3 := Lib.hid (HA2.out.set (k := 3) 0 (by omega))
  have HC3 := Lib.hid (HC2.out.kb (Kb.setCell w2 w.heap.size 3 (.int .i64 0)) (by omega))
  have HB3 := Lib.hid (kb_below HB2.out (Kb.setCell w2 w.heap.size 3 (.int .i64 0)) (by omega) (by omega))
  have HT3 := Lib.hid (HT2.out.of_block (heap_setCell_other w2 ⟨w.heap.size, 3, none⟩ 0 (.int .i64 0) (show 0 ≠ w.heap.size by omega)))
  have hz3 : W.heap.size ≤ (w2.setCell ⟨w.heap.size, 3, none⟩ (.int .i64 0)).heap.size := by simp [World.setCell]; omega
  clear f3 c3 HA2 HC2 HB2 HT2 hz2
  generalize w2.setCell ⟨w.heap.size, 3, none⟩ (.int .i64 0) = w3 at *
  have f4 := HA3.out.froz 11
  have c4 := HA3.out.cell (k := 11) (by omega)
  go_upto_region 5 with fail
  have HA4 := Lib.hid (HA3.out.set (k := 11) 0 (by omega))
  have HC4 := Lib.hid (HC3.out.kb (Kb.setCell w3 w.heap.size 11 (.int .i64 0)) (by omega))
  have HB4 := Lib.hid (kb_below HB3.out (Kb.setCell w3 w.heap.size 11 (.int .i64 0)) (by omega) (by omega))
  have HT4 := Lib.hid (HT3.out.of_block (heap_setCell_other w3 ⟨w.heap.size, 11, none⟩ 0 (.int .i64 0) (show 0 ≠ w.heap.size by omega)))
  have hz4 : W.heap.size ≤ (w3.setCell ⟨w.heap.size, 11, none⟩ (.int .i64 0)).heap.size := by simp [World.setCell]; omega
  clear f4 c4 HA3 HC3 HB3 HT3 hz3
  generalize w3.setCell ⟨w.heap.size, 11, none⟩ (.int .i64 0) = w4 at *
  have f5 := HC4.out.froz 3
  have c5 := HC4.out.cell (k := 3) (by omega)
  go_upto_region 6 with fail
  have HC5 := Lib.hid (HC4.out.set (k := 3) 0 (by omega))
  have HA5 := Lib.hid (HA4.out.kb (Kb.setCell w4 (w.heap.size + 1) 3 (.int .i64 0)) (by omega))
  have HB5 := Lib.hid (kb_below HB4.out (Kb.setCell w4 (w.heap.size + 1) 3 (.int .i64 0)) (by omega) (by omega))
  have HT5 := Lib.hid (HT4.out.of_block (heap_setCell_other w4 ⟨(w.heap.size + 1), 3, none⟩ 0 (.int .i64 0) (show 0 ≠ (w.heap.size + 1) by omega)))
  have hz5 : W.heap.size ≤ (w4.setCell ⟨(w.heap.size + 1), 3, none⟩ (.int .i64 0)).heap.size := by simp [World.setCell]; omega
  clear f5 c5 HA4 HC4 HB4 HT4 hz4
  generalize w4.setCell ⟨(w.heap.size + 1), 3, none⟩ (.int .i64 0) = w5 at *
  have f6 := HC5.out.froz 11
  have c6 := HC5.out.cell (k := 11) (by omega)
  go_upto_region 7 with fail
  have HC6 := Lib.hid (HC5.out.set (k := 11) 0 (by omega))
  have HA6 := Lib.hid (HA5.out.kb (Kb.setCell w5 (w.heap.size + 1) 11 (.int .i64 0)) (by omega))
  have HB6 := Lib.hid (kb_below HB5.out (Kb.setCell w5 (w.heap.size + 1) 11 (.int .i64 0)) (by omega) (by omega))
  have HT6 := Lib.hid (HT5.out.of_block (heap_setCell_other w5 ⟨(w.heap.size + 1), 11, none⟩ 0 (.int .i64 0) (show 0 ≠ (w.heap.size + 1) by omega)))
  have hz6 : W.heap.size ≤ (w5.setCell ⟨(w.heap.size + 1), 11, none⟩ (.int .i64 0)).heap.size := by simp [World.setCell]; omega
  clear f6 c6 HA5 HC5 HB5 HT5 hz5
  generalize w5.setCell ⟨(w.heap.size + 1), 11, none⟩ (.int .i64 0) = w6 at *
  have a3 : upd (upd u 3 0) 11 0 3 = 0 := rfl
  have a11 : upd (upd u 3 0) 11 0 11 = 0 := rfl
  have b3 : upd (upd v 3 0) 11 0 3 = 0 := rfl
  have b11 : upd (upd v 3 0) 11 0 11 = 0 := rfl
  have hA : ∀ j, inI (upd (upd u 3 0) 11 0 j) := fun j => zero_in hu j
  have hC : ∀ j, inI (upd (upd v 3 0) 11 0 j) := fun j => zero_in hv j
  generalize upd (upd u 3 0) 11 0 = A at *
  generalize upd (upd v 3 0) 11 0 = C at *
  have hsz6 : w.heap.size + 1 < w6.heap.size := HC6.out.lt
  clear hz6 hsb hp
  go_cut [31] from 15 to 31 (fun s31 wx => s31 = .bool false ∧ Hid (Below w6.heap.size w6 wx))
  case first =>
    by_cases hR : RightV A
    · have HRY := Lib.hid fun w => right_yes A hR w
      have hs1 : stC (foldV v0 (fun _ => A) 1) = stC A := sameV_C (sum_one hR)
      have hs2 : stC (foldV v0 (two A v0) 2) = stC A := sameV_C (sum_none hR)
      have HS1 := Lib.hid fun (w : World) (a : Option Addr) (h : RS w a 1 1 (fun _ => A)) => hs1 ▸ Sum_any h
      have HS2 := Lib.hid fun (w : World) (a : Option Addr) (h : RS w a 2 2 (two A v0)) => hs2 ▸ Sum_any h
      have HB1 := Lib.hid (build1 A)
      have HB2 := Lib.hid (build2 A v0)
      have hq := eq_one A
      clear hs1 hs2
      refine region_tree (fun w' => ∃ x : Lies w6, w' = x.1) (.one [0] 1 (.one [2, 3, 6] 4 (.one [] 5 (.one [7, 8, 9, 10, 13] 11 (.one [] 12 (.fin [14, 15, 16])))))) (by kernel_rfl) (by kernel_rfl) (lies_start w6) ?_
      have B0 := Lib.hid ((Below.refl w6.heap.size w6).drew)
      unfold treeP
      simp only [pickL, List.filterMap_cons, List.filterMap_nil, List.getElem?_toArray, List.getElem?_cons_zero]
      show wpQuiet _ _ _ _ [_] _
      repeat (first | ((refine quiet_load_row (some 15) rfl rfl 25 (.tmp 2) rfl w.heap.size rfl 25 (stC A) (0, 0) _ (lies_block HA6.out) Tryd.underlying25 rfl info25 ?_); simp only [Act.put, List.setIfInBounds_toArray, List.set_cons_succ, List.set_cons_zero]) | ((refine quiet_load_row (some 18) rfl rfl 25 (.tmp 2) rfl w.heap.size rfl 25 (stC A) (0, 0) _ (lies_block HA6.out) Tryd.underlying25 rfl info25 ?_); simp only [Act.put, List.setIfInBounds_toArray, List.set_cons_succ, List.set_cons_zero]) | ((refine quiet_load_row (some 21) rfl rfl 25 (.tmp 2) rfl w.heap.size rfl 25 (stC A) (0, 0) _ (lies_block HA6.out) Tryd.underlying25 rfl info25 ?_); simp only [Act.put, List.setIfInBounds_toArray, List.set_cons_succ, List.set_cons_zero]) | ((refine quiet_load_row (some 24) rfl rfl 25 (.tmp 2) rfl w.heap.size rfl 25 (stC A) (0, 0) _ (lies_block HA6.out) Tryd.underlying25 rfl info25 ?_); simp only [Act.put, List.setIfInBounds_toArray, List.set_cons_succ, List.set_cons_zero]) | ((refine quiet_load_row (some 28) rfl rfl 25 (.tmp 2) rfl w.heap.size rfl 25 (stC A) (0, 0) _ (lies_block HA6.out) Tryd.underlying25 rfl info25 ?_); simp only [Act.put, List.setIfInBounds_toArray, List.set_cons_succ, List.set_cons_zero]) | go_big_quiet_step (fail))
      refine wpQuiet_nil ?_
      refine mv_call (some 16) rfl rfl rfl (by go_simp) (HRY.out _) ?_
      intro x1 hx1
      have S1 := Lib.hid (hx1)
      have B1 := Lib.hid (B0.out.trans (S1.out.mono (Below.size B0.out)))
      refine ⟨⟨⟨_, B1.out⟩, rfl⟩, ?_⟩
      simp only [Act.put, List.setIfInBounds_toArray, List.set_cons_succ, List.set_cons_zero]
      unfold treeP
      simp only [pickL, List.filterMap_cons, List.filterMap_nil, List.getElem?_toArray, List.getElem?_cons_zero, List.getElem?_cons_succ]
      show wpQuiet _ _ _ _ [_, _, _] _
      repeat (first | ((refine quiet_load_row (some 15) rfl rfl 25 (.tmp 2) rfl w.heap.size rfl 25 (stC A) (0, 0) _ (lies_block HA6.out) Tryd.underlying25 rfl info25 ?_); simp only [Act.put, List.setIfInBounds_toArray, List.set_cons_succ, List.set_cons_zero]) | ((refine quiet_load_row (some 18) rfl rfl 25 (.tmp 2) rfl w.heap.size rfl 25 (stC A) (0, 0) _ (lies_block HA6.out) Tryd.underlying25 rfl info25 ?_); simp only [Act.put, List.setIfInBounds_toArray, List.set_cons_succ, List.set_cons_zero]) | ((refine quiet_load_row (some 21) rfl rfl 25 (.tmp 2) rfl w.heap.size rfl 25 (stC A) (0, 0) _ (lies_block HA6.out) Tryd.underlying25 rfl info25 ?_); simp only [Act.put, List.setIfInBounds_toArray, List.set_cons_succ, List.set_cons_zero]) | ((refine quiet_load_row (some 24) rfl rfl 25 (.tmp 2) rfl w.heap.size rfl 25 (stC A) (0, 0) _ (lies_block HA6.out) Tryd.underlying25 rfl info25 ?_); simp only [Act.put, List.setIfInBounds_toArray, List.set_cons_succ, List.set_cons_zero]) | ((refine quiet_load_row (some 28) rfl rfl 25 (.tmp 2) rfl w.heap.size rfl 25 (stC A) (0, 0) _ (lies_block HA6.out) Tryd.underlying25 rfl info25 ?_); simp only [Act.put, List.setIfInBounds_toArray, List.set_cons_succ, List.set_cons_zero]) | go_big_quiet_step (fail))
      refine wpQuiet_nil ?_
      refine mv_value (some 19) rfl rfl rfl (run_exec_buildSlice (parts := [(0, .tmp 18)]) (pv := [(0, .agg (stC A))]) rfl rfl (HB1.out _)) ?_
      have RA2 := Lib.hid (rs_one A x1)
      have S2 := Lib.hid ((Below.refl _ x1).alloc (Nat.le_refl _) (.cells (stC A) 25))
      have B2 := Lib.hid (B1.out.trans (S2.out.mono (Below.size B1.out)))
      refine ⟨⟨⟨_, B2.out⟩, rfl⟩, ?_⟩
      simp only [Act.put, List.setIfInBounds_toArray, List.set_cons_succ, List.set_cons_zero]
      unfold treeP
      refine wpQuiet_nil ?_
      refine mv_call (some 20) rfl rfl rfl (by go_simp) (HS1.out _ _ RA2.out) ?_
      intro x3 hx3
      have S3 := Lib.hid (hx3)
      have B3 := Lib.hid (B2.out.trans (S3.out.mono (Below.size B2.out)))
      have RA3 := Lib.hid (RA2.out.below S3.out)
      refine ⟨⟨⟨_, B3.out⟩, rfl⟩, ?_⟩
      simp only [Act.put, List.setIfInBounds_toArray, List.set_cons_succ, List.set_cons_zero]
      unfold treeP
      simp only [pickL, List.filterMap_cons, List.filterMap_nil, List.getElem?_toArray, List.getElem?_cons_zero, List.getElem?_cons_succ]
      show wpQuiet _ _ _ _ [_, _, _, _, _] _
      repeat (first | ((refine quiet_load_row (some 15) rfl rfl 25 (.tmp 2) rfl w.heap.size rfl 25 (stC A) (0, 0) _ (lies_block HA6.out) Tryd.underlying25 rfl info25 ?_); simp only [Act.put, List.setIfInBounds_toArray, List.set_cons_succ, List.set_cons_zero]) | ((refine quiet_load_row (some 18) rfl rfl 25 (.tmp 2) rfl w.heap.size rfl 25 (stC A) (0, 0) _ (lies_block HA6.out) Tryd.underlying25 rfl info25 ?_); simp only [Act.put, List.setIfInBounds_toArray, List.set_cons_succ, List.set_cons_zero]) | ((refine quiet_load_row (some 21) rfl rfl 25 (.tmp 2) rfl w.heap.size rfl 25 (stC A) (0, 0) _ (lies_block HA6.out) Tryd.underlying25 rfl info25 ?_); simp only [Act.put, List.setIfInBounds_toArray, List.set_cons_succ, List.set_cons_zero]) | ((refine quiet_load_row (some 24) rfl rfl 25 (.tmp 2) rfl w.heap.size rfl 25 (stC A) (0, 0) _ (lies_block HA6.out) Tryd.underlying25 rfl info25 ?_); simp only [Act.put, List.setIfInBounds_toArray, List.set_cons_succ, List.set_cons_zero]) | ((refine quiet_load_row (some 28) rfl rfl 25 (.tmp 2) rfl w.heap.size rfl 25 (stC A) (0, 0) _ (lies_block HA6.out) Tryd.underlying25 rfl info25 ?_); simp only [Act.put, List.setIfInBounds_toArray, List.set_cons_succ, List.set_cons_zero]) | go_big_quiet_step (fail))
      refine wpQuiet_nil ?_
      refine mv_value (some 26) rfl rfl rfl (run_exec_buildSlice (parts := [(0, .tmp 24), (1, .tmp 25)]) (pv := [(0, .agg (stC A)), (1, .agg (stC v0))]) rfl rfl (HB2.out _)) ?_
      have RN4 := Lib.hid (rs_two A v0 x3)
      have S4 := Lib.hid ((Below.refl _ x3).alloc (Nat.le_refl _) (.cells (stC A ++ stC v0) 25))
      have B4 := Lib.hid (B3.out.trans (S4.out.mono (Below.size B3.out)))
      have RA4 := Lib.hid (RA3.out.below S4.out)
      refine ⟨⟨⟨_, B4.out⟩, rfl⟩, ?_⟩
      simp only [Act.put, List.setIfInBounds_toArray, List.set_cons_succ, List.set_cons_zero]
      unfold treeP
      refine wpQuiet_nil ?_
      refine mv_call (some 27) rfl rfl rfl (by go_simp) (HS2.out _ _ RN4.out) ?_
      intro x5 hx5
      have S5 := Lib.hid (hx5)
      have B5 := Lib.hid (B4.out.trans (S5.out.mono (Below.size B4.out)))
      have RA5 := Lib.hid (RA4.out.below S5.out)
      have RN5 := Lib.hid (RN4.out.below S5.out)
      refine ⟨⟨⟨_, B5.out⟩, rfl⟩, ?_⟩
      simp only [Act.put, List.setIfInBounds_toArray, List.set_cons_succ, List.set_cons_zero]
      unfold treeP
      simp only [pickL, List.filterMap_cons, List.filterMap_nil, List.getElem?_toArray, List.getElem?_cons_zero, List.getElem?_cons_succ]
      show wpQuiet _ _ _ _ [_, _, _] _
      repeat (first | ((refine quiet_load_row (some 15) rfl rfl 25 (.tmp 2) rfl w.heap.size rfl 25 (stC A) (0, 0) _ (lies_block HA6.out) Tryd.underlying25 rfl info25 ?_); simp only [Act.put, List.setIfInBounds_toArray, List.set_cons_succ, List.set_cons_zero]) | ((refine quiet_load_row (some 18) rfl rfl 25 (.tmp 2) rfl w.heap.size rfl 25 (stC A) (0, 0) _ (lies_block HA6.out) Tryd.underlying25 rfl info25 ?_); simp only [Act.put, List.setIfInBounds_toArray, List.set_cons_succ, List.set_cons_zero]) | ((refine quiet_load_row (some 21) rfl rfl 25 (.tmp 2) rfl w.heap.size rfl 25 (stC A) (0, 0) _ (lies_block HA6.out) Tryd.underlying25 rfl info25 ?_); simp only [Act.put, List.setIfInBounds_toArray, List.set_cons_succ, List.set_cons_zero]) | ((refine quiet_load_row (some 24) rfl rfl 25 (.tmp 2) rfl w.heap.size rfl 25 (stC A) (0, 0) _ (lies_block HA6.out) Tryd.underlying25 rfl info25 ?_); simp only [Act.put, List.setIfInBounds_toArray, List.set_cons_succ, List.set_cons_zero]) | ((refine quiet_load_row (some 28) rfl rfl 25 (.tmp 2) rfl w.heap.size rfl 25 (stC A) (0, 0) _ (lies_block HA6.out) Tryd.underlying25 rfl info25 ?_); simp only [Act.put, List.setIfInBounds_toArray, List.set_cons_succ, List.set_cons_zero]) | go_big_quiet_step (fail))
      refine wpQuiet_nil ?_
      go_wp2_with fail
      go_meet
      exact ⟨rfl, B5.out⟩
    · have HRN := Lib.hid fun w => right_no A hR w
      refine region_tree (fun w' => ∃ x : Lies w6, w' = x.1) (.one [0] 1 (.one [2, 3, 6] 4 (.one [] 5 (.one [7, 8, 9, 10, 13] 11 (.one [] 12 (.fin [14, 15, 16])))))) (by kernel_rfl) (by kernel_rfl) (lies_start w6) ?_
      have B0 := Lib.hid ((Below.refl w6.heap.size w6).drew)
      unfold treeP
      simp only [pickL, List.filterMap_cons, List.filterMap_nil, List.getElem?_toArray, List.getElem?_cons_zero]
      show wpQuiet _ _ _ _ [_] _
      repeat (first | ((refine quiet_load_row (some 15) rfl rfl 25 (.tmp 2) rfl w.heap.size rfl 25 (stC A) (0, 0) _ (lies_block HA6.out) Tryd.underlying25 rfl info25 ?_); simp only [Act.put, List.setIfInBounds_toArray, List.set_cons_succ, List.set_cons_zero]) | ((refine quiet_load_row (some 18) rfl rfl 25 (.tmp 2) rfl w.heap.size rfl 25 (stC A) (0, 0) _ (lies_block HA6.out) Tryd.underlying25 rfl info25 ?_); simp only [Act.put, List.setIfInBounds_toArray, List.set_cons_succ, List.set_cons_zero]) | ((refine quiet_load_row (some 21) rfl rfl 25 (.tmp 2) rfl w.heap.size rfl 25 (stC A) (0, 0) _ (lies_block HA6.out) Tryd.underlying25 rfl info25 ?_); simp only [Act.put, List.setIfInBounds_toArray, List.set_cons_succ, List.set_cons_zero]) | ((refine quiet_load_row (some 24) rfl rfl 25 (.tmp 2) rfl w.heap.size rfl 25 (stC A) (0, 0) _ (lies_block HA6.out) Tryd.underlying25 rfl info25 ?_); simp only [Act.put, List.setIfInBounds_toArray, List.set_cons_succ, List.set_cons_zero]) | ((refine quiet_load_row (some 28) rfl rfl 25 (.tmp 2) rfl w.heap.size rfl 25 (stC A) (0, 0) _ (lies_block HA6.out) Tryd.underlying25 rfl info25 ?_); simp only [Act.put, List.setIfInBounds_toArray, List.set_cons_succ, List.set_cons_zero]) | go_big_quiet_step (fail))
      refine wpQuiet_nil ?_
      refine mv_call (some 16) rfl rfl rfl (by go_simp) (HRN.out _) ?_
      intro x6 hx6
      have S6 := Lib.hid (hx6)
      have B6 := Lib.hid (B0.out.trans (S6.out.mono (Below.size B0.out)))
      refine ⟨⟨⟨_, B6.out⟩, rfl⟩, ?_⟩
      simp only [Act.put, List.setIfInBounds_toArray, List.set_cons_succ, List.set_cons_zero]
      unfold treeP
      simp only [pickL, List.filterMap_cons, List.filterMap_nil, List.getElem?_toArray, List.getElem?_cons_zero, List.getElem?_cons_succ]
      show wpQuiet _ _ _ _ [_, _, _] _
      repeat (first | ((refine quiet_load_row (some 15) rfl rfl 25 (.tmp 2) rfl w.heap.size rfl 25 (stC A) (0, 0) _ (lies_block HA6.out) Tryd.underlying25 rfl info25 ?_); simp only [Act.put, List.setIfInBounds_toArray, List.set_cons_succ, List.set_cons_zero]) | ((refine quiet_load_row (some 18) rfl rfl 25 (.tmp 2) rfl w.heap.size rfl 25 (stC A) (0, 0) _ (lies_block HA6.out) Tryd.underlying25 rfl info25 ?_); simp only [Act.put, List.setIfInBounds_toArray, List.set_cons_succ, List.set_cons_zero]) | ((refine quiet_load_row (some 21) rfl rfl 25 (.tmp 2) rfl w.heap.size rfl 25 (stC A) (0, 0) _ (lies_block HA6.out) Tryd.underlying25 rfl info25 ?_); simp only [Act.put, List.setIfInBounds_toArray, List.set_cons_succ, List.set_cons_zero]) | ((refine quiet_load_row (some 24) rfl rfl 25 (.tmp 2) rfl w.heap.size rfl 25 (stC A) (0, 0) _ (lies_block HA6.out) Tryd.underlying25 rfl info25 ?_); simp only [Act.put, List.setIfInBounds_toArray, List.set_cons_succ, List.set_cons_zero]) | ((refine quiet_load_row (some 28) rfl rfl 25 (.tmp 2) rfl w.heap.size rfl 25 (stC A) (0, 0) _ (lies_block HA6.out) Tryd.underlying25 rfl info25 ?_); simp only [Act.put, List.setIfInBounds_toArray, List.set_cons_succ, List.set_cons_zero]) | go_big_quiet_step (fail))
      refine wpQuiet_nil ?_
      refine mv_skip (some 19) rfl rfl rfl ?_
      refine ⟨⟨⟨_, B6.out⟩, rfl⟩, ?_⟩
      simp only [Act.put, List.setIfInBounds_toArray, List.set_cons_succ, List.set_cons_zero]
      unfold treeP
      refine wpQuiet_nil ?_
      refine mv_skip (some 20) rfl rfl rfl ?_
      refine ⟨⟨⟨_, B6.out⟩, rfl⟩, ?_⟩
      simp only [Act.put, List.setIfInBounds_toArray, List.set_cons_succ, List.set_cons_zero]
      unfold treeP
      simp only [pickL, List.filterMap_cons, List.filterMap_nil, List.getElem?_toArray, List.getElem?_cons_zero, List.getElem?_cons_succ]
      show wpQuiet _ _ _ _ [_, _, _, _, _] _
      repeat (first | ((refine quiet_load_row (some 15) rfl rfl 25 (.tmp 2) rfl w.heap.size rfl 25 (stC A) (0, 0) _ (lies_block HA6.out) Tryd.underlying25 rfl info25 ?_); simp only [Act.put, List.setIfInBounds_toArray, List.set_cons_succ, List.set_cons_zero]) | ((refine quiet_load_row (some 18) rfl rfl 25 (.tmp 2) rfl w.heap.size rfl 25 (stC A) (0, 0) _ (lies_block HA6.out) Tryd.underlying25 rfl info25 ?_); simp only [Act.put, List.setIfInBounds_toArray, List.set_cons_succ, List.set_cons_zero]) | ((refine quiet_load_row (some 21) rfl rfl 25 (.tmp 2) rfl w.heap.size rfl 25 (stC A) (0, 0) _ (lies_block HA6.out) Tryd.underlying25 rfl info25 ?_); simp only [Act.put, List.setIfInBounds_toArray, List.set_cons_succ, List.set_cons_zero]) | ((refine quiet_load_row (some 24) rfl rfl 25 (.tmp 2) rfl w.heap.size rfl 25 (stC A) (0, 0) _ (lies_block HA6.out) Tryd.underlying25 rfl info25 ?_); simp only [Act.put, List.setIfInBounds_toArray, List.set_cons_succ, List.set_cons_zero]) | ((refine quiet_load_row (some 28) rfl rfl 25 (.tmp 2) rfl w.heap.size rfl 25 (stC A) (0, 0) _ (lies_block HA6.out) Tryd.underlying25 rfl info25 ?_); simp only [Act.put, List.setIfInBounds_toArray, List.set_cons_succ, List.set_cons_zero]) | go_big_quiet_step (fail))
      refine wpQuiet_nil ?_
      refine mv_skip (some 26) rfl rfl rfl ?_
      refine ⟨⟨⟨_, B6.out⟩, rfl⟩, ?_⟩
      simp only [Act.put, List.setIfInBounds_toArray, List.set_cons_succ, List.set_cons_zero]
      unfold treeP
      refine wpQuiet_nil ?_
      refine mv_skip (some 27) rfl rfl rfl ?_
      refine ⟨⟨⟨_, B6.out⟩, rfl⟩, ?_⟩
      simp only [Act.put, List.setIfInBounds_toArray, List.set_cons_succ, List.set_cons_zero]
      unfold treeP
      simp only [pickL, List.filterMap_cons, List.filterMap_nil, List.getElem?_toArray, List.getElem?_cons_zero, List.getElem?_cons_succ]
      show wpQuiet _ _ _ _ [_, _, _] _
      repeat (first | ((refine quiet_load_row (some 15) rfl rfl 25 (.tmp 2) rfl w.heap.size rfl 25 (stC A) (0, 0) _ (lies_block HA6.out) Tryd.underlying25 rfl info25 ?_); simp only [Act.put, List.setIfInBounds_toArray, List.set_cons_succ, List.set_cons_zero]) | ((refine quiet_load_row (some 18) rfl rfl 25 (.tmp 2) rfl w.heap.size rfl 25 (stC A) (0, 0) _ (lies_block HA6.out) Tryd.underlying25 rfl info25 ?_); simp only [Act.put, List.setIfInBounds_toArray, List.set_cons_succ, List.set_cons_zero]) | ((refine quiet_load_row (some 21) rfl rfl 25 (.tmp 2) rfl w.heap.size rfl 25 (stC A) (0, 0) _ (lies_block HA6.out) Tryd.underlying25 rfl info25 ?_); simp only [Act.put, List.setIfInBounds_toArray, List.set_cons_succ, List.set_cons_zero]) | ((refine quiet_load_row (some 24) rfl rfl 25 (.tmp 2) rfl w.heap.size rfl 25 (stC A) (0, 0) _ (lies_block HA6.out) Tryd.underlying25 rfl info25 ?_); simp only [Act.put, List.setIfInBounds_toArray, List.set_cons_succ, List.set_cons_zero]) | ((refine quiet_load_row (some 28) rfl rfl 25 (.tmp 2) rfl w.heap.size rfl 25 (stC A) (0, 0) _ (lies_block HA6.out) Tryd.underlying25 rfl info25 ?_); simp only [Act.put, List.setIfInBounds_toArray, List.set_cons_succ, List.set_cons_zero]) | go_big_quiet_step (fail))
      refine wpQuiet_nil ?_
      go_wp2_with fail
      go_meet
      exact ⟨rfl, B6.out⟩
  obtain ⟨rfl, HD⟩ := hcut
  have HA7 := Lib.hid (HA6.out.below HD.out HA6.out.lt)
  have HC7 := Lib.hid (HC6.out.below HD.out hsz6)
  have HB7 := Lib.hid (HB6.out.trans (HD.out.mono (by omega)))
  have HT7 := Lib.hid (HT6.out.below HD.out HT6.out.lt)
  have HTA := Lib.hid fun (y : World) (hB : Below wc.heap.size wc y) => Text_any (v := A) (fun i _ => hA i) (HT7.out.below hB HT7.out.lt)
  have HTC := Lib.hid fun (y : World) (hB : Below wc.heap.size wc y) => Text_any (v := C) (fun i _ => hC i) (HT7.out.below hB HT7.out.lt)
  have hturn : stC (foldV v0 (two C A) 2) = stC (foldV v0 (two A C) 2) := sameV_C (sum_turn C A)
  have HSAC := Lib.hid fun (w : World) (a : Option Addr) (h : RS w a 2 2 (two A C)) => Sum_any h
  have HSCA := Lib.hid fun (w : World) (a : Option Addr) (h : RS w a 2 2 (two C A)) => hturn ▸ Sum_any h
  have HBAC := Lib.hid (build2 A C)
  have HBCA := Lib.hid (build2 C A)
  have hqs := eq_one (foldV v0 (two A C) 2)
  obtain ⟨t, ht, hq⟩ := eq_stC A C
  have hst := text_eq a3 a11 b3 b11 ht
  generalize (⟨(textV A).toArray⟩ : ByteArray) = sA at *
  generalize (⟨(textV C).toArray⟩ : ByteArray) = sC at *
  generalize foldV v0 (two A C) 2 = SV at *
  clear hturn ht hA hC a3 a11 b3 b11 HA6 HC6 HB6 HT6 HD
  go_wp2_with fail
  refine region_tree (fun w' => ∃ x : Lies wc, w' = x.1) (.one [0, 2, 5, 6, 7] 1 (.one [] 3 (.two [4, 8, 9, 10, 11, 14, 15] 12 16 (.two [] 13 16 (.one [] 16 (.one [] 17 (.fin [18, 19, 20]))) (.one [] 13 (.one [] 17 (.fin [18, 19, 20])))) (.one [] 12 (.one [] 13 (.one [] 17 (.fin [18, 19, 20]))))))) (by kernel_rfl) (by kernel_rfl) (lies_start wc) ?_
  have B0 := Lib.hid ((Below.refl wc.heap.size wc).drew)
  unfold treeP
  simp only [pickL, List.filterMap_cons, List.filterMap_nil, List.getElem?_toArray, List.getElem?_cons_zero, List.getElem?_cons_succ]
  show wpQuiet _ _ _ _ [_, _, _, _, _] _
  repeat (first | ((refine quiet_load_row (some 32) rfl rfl 25 (.tmp 2) rfl w.heap.size rfl 25 (stC A) (0, 0) _ (lies_block HA7.out) Tryd.underlying25 rfl info25 ?_); simp only [Act.put, List.setIfInBounds_toArray, List.set_cons_succ, List.set_cons_zero]) | ((refine quiet_load_row (some 37) rfl rfl 25 (.tmp 2) rfl w.heap.size rfl 25 (stC A) (0, 0) _ (lies_block HA7.out) Tryd.underlying25 rfl info25 ?_); simp only [Act.put, List.setIfInBounds_toArray, List.set_cons_succ, List.set_cons_zero]) | ((refine quiet_load_row (some 42) rfl rfl 25 (.tmp 2) rfl w.heap.size rfl 25 (stC A) (0, 0) _ (lies_block HA7.out) Tryd.underlying25 rfl info25 ?_); simp only [Act.put, List.setIfInBounds_toArray, List.set_cons_succ, List.set_cons_zero]) | ((refine quiet_load_row (some 47) rfl rfl 25 (.tmp 2) rfl w.heap.size rfl 25 (stC A) (0, 0) _ (lies_block HA7.out) Tryd.underlying25 rfl info25 ?_); simp only [Act.put, List.setIfInBounds_toArray, List.set_cons_succ, List.set_cons_zero]) | ((refine quiet_load_row (some 34) rfl rfl 25 (.tmp 3) rfl (w.heap.size + 1) rfl 25 (stC C) (0, 0) _ (lies_block HC7.out) Tryd.underlying25 rfl info25 ?_); simp only [Act.put, List.setIfInBounds_toArray, List.set_cons_succ, List.set_cons_zero]) | ((refine quiet_load_row (some 38) rfl rfl 25 (.tmp 3) rfl (w.heap.size + 1) rfl 25 (stC C) (0, 0) _ (lies_block HC7.out) Tryd.underlying25 rfl info25 ?_); simp only [Act.put, List.setIfInBounds_toArray, List.set_cons_succ, List.set_cons_zero]) | ((refine quiet_load_row (some 43) rfl rfl 25 (.tmp 3) rfl (w.heap.size + 1) rfl 25 (stC C) (0, 0) _ (lies_block HC7.out) Tryd.underlying25 rfl info25 ?_); simp only [Act.put, List.setIfInBounds_toArray, List.set_cons_succ, List.set_cons_zero]) | ((refine quiet_load_row (some 46) rfl rfl 25 (.tmp 3) rfl (w.heap.size + 1) rfl 25 (stC C) (0, 0) _ (lies_block HC7.out) Tryd.underlying25 rfl info25 ?_); simp only [Act.put, List.setIfInBounds_toArray, List.set_cons_succ, List.set_cons_zero]) | go_big_quiet_step (fail))
  refine wpQuiet_nil ?_
  refine mv_call (some 33) rfl rfl rfl (by go_simp) (HTA.out _ B0.out) ?_
  intro x11 hx11
  have S11 := Lib.hid (hx11)
  have B11 := Lib.hid (B0.out.trans (S11.out.mono (Below.size B0.out)))
  refine ⟨⟨⟨_, B11.out⟩, rfl⟩, ?_⟩
  simp only [Act.put, List.setIfInBounds_toArray, List.set_cons_succ, List.set_cons_zero]
  unfold treeP
  refine wpQuiet_nil ?_
  refine mv_call (some 35) rfl rfl rfl (by go_simp) (HTC.out _ B11.out) ?_
  intro x12 hx12
  have S12 := Lib.hid (hx12)
  have B12 := Lib.hid (B11.out.trans (S12.out.mono (Below.size B11.out)))
  refine ⟨⟨⟨_, B12.out⟩, rfl⟩, ?_⟩
  simp only [Act.put, List.setIfInBounds_toArray, List.set_cons_succ, List.set_cons_zero]
  unfold treeP
  simp only [pickL, List.filterMap_cons, List.filterMap_nil, List.getElem?_toArray, List.getElem?_cons_zero, List.getElem?_cons_succ]
  show wpQuiet _ _ _ _ [_, _, _, _, _, _, _] _
  repeat (first | ((refine quiet_load_row (some 32) rfl rfl 25 (.tmp 2) rfl w.heap.size rfl 25 (stC A) (0, 0) _ (lies_block HA7.out) Tryd.underlying25 rfl info25 ?_); simp only [Act.put, List.setIfInBounds_toArray, List.set_cons_succ, List.set_cons_zero]) | ((refine quiet_load_row (some 37) rfl rfl 25 (.tmp 2) rfl w.heap.size rfl 25 (stC A) (0, 0) _ (lies_block HA7.out) Tryd.underlying25 rfl info25 ?_); simp only [Act.put, List.setIfInBounds_toArray, List.set_cons_succ, List.set_cons_zero]) | ((refine quiet_load_row (some 42) rfl rfl 25 (.tmp 2) rfl w.heap.size rfl 25 (stC A) (0, 0) _ (lies_block HA7.out) Tryd.underlying25 rfl info25 ?_); simp only [Act.put, List.setIfInBounds_toArray, List.set_cons_succ, List.set_cons_zero]) | ((refine quiet_load_row (some 47) rfl rfl 25 (.tmp 2) rfl w.heap.size rfl 25 (stC A) (0, 0) _ (lies_block HA7.out) Tryd.underlying25 rfl info25 ?_); simp only [Act.put, List.setIfInBounds_toArray, List.set_cons_succ, List.set_cons_zero]) | ((refine quiet_load_row (some 34) rfl rfl 25 (.tmp 3) rfl (w.heap.size + 1) rfl 25 (stC C) (0, 0) _ (lies_block HC7.out) Tryd.underlying25 rfl info25 ?_); simp only [Act.put, List.setIfInBounds_toArray, List.set_cons_succ, List.set_cons_zero]) | ((refine quiet_load_row (some 38) rfl rfl 25 (.tmp 3) rfl (w.heap.size + 1) rfl 25 (stC C) (0, 0) _ (lies_block HC7.out) Tryd.underlying25 rfl info25 ?_); simp only [Act.put, List.setIfInBounds_toArray, List.set_cons_succ, List.set_cons_zero]) | ((refine quiet_load_row (some 43) rfl rfl 25 (.tmp 3) rfl (w.heap.size + 1) rfl 25 (stC C) (0, 0) _ (lies_block HC7.out) Tryd.underlying25 rfl info25 ?_); simp only [Act.put, List.setIfInBounds_toArray, List.set_cons_succ, List.set_cons_zero]) | ((refine quiet_load_row (some 46) rfl rfl 25 (.tmp 3) rfl (w.heap.size + 1) rfl 25 (stC C) (0, 0) _ (lies_block HC7.out) Tryd.underlying25 rfl info25 ?_); simp only [Act.put, List.setIfInBounds_toArray, List.set_cons_succ, List.set_cons_zero]) | go_big_quiet_step (fail))
  refine wpQuiet_nil ?_
  refine ⟨?_, ?_⟩
  · refine mv_value (some 44) rfl rfl rfl (run_exec_buildSlice (parts := [(0, .tmp 42), (1, .tmp 43)]) (pv := [(0, .agg (stC A)), (1, .agg (stC C))]) rfl rfl (HBAC.out _)) ?_
    have RA13 := Lib.hid (rs_two A C x12)
    have S13 := Lib.hid ((Below.refl _ x12).alloc (Nat.le_refl _) (.cells (stC A ++ stC C) 25))
    have B13 := Lib.hid (B12.out.trans (S13.out.mono (Below.size B12.out)))
    refine ⟨⟨⟨_, B13.out⟩, rfl⟩, ?_⟩
    simp only [Act.put, List.setIfInBounds_toArray, List.set_cons_succ, List.set_cons_zero]
    unfold treeP
    refine wpQuiet_nil ?_
    refine ⟨?_, ?_⟩
    · refine mv_call (some 45) rfl rfl rfl (by go_simp) (HSAC.out _ _ RA13.out) ?_
      intro x14 hx14
      have S14 := Lib.hid (hx14)
      have B14 := Lib.hid (B13.out.trans (S14.out.mono (Below.size B13.out)))
      have RA14 := Lib.hid (RA13.out.below S14.out)
      refine ⟨⟨⟨_, B14.out⟩, rfl⟩, ?_⟩
      simp only [Act.put, List.setIfInBounds_toArray, List.set_cons_succ, List.set_cons_zero]
      unfold treeP
      refine wpQuiet_nil ?_
      refine mv_value (some 48) rfl rfl rfl (run_exec_buildSlice (parts := [(0, .tmp 46), (1, .tmp 47)]) (pv := [(0, .agg (stC C)), (1, .agg (stC A))]) rfl rfl (HBCA.out _)) ?_
      have RC15 := Lib.hid (rs_two C A x14)
      have S15 := Lib.hid ((Below.refl _ x14).alloc (Nat.le_refl _) (.cells (stC C ++ stC A) 25))
      have B15 := Lib.hid (B14.out.trans (S15.out.mono (Below.size B14.out)))
      have RA15 := Lib.hid (RA14.out.below S15.out)
      refine ⟨⟨⟨_, B15.out⟩, rfl⟩, ?_⟩
      simp only [Act.put, List.setIfInBounds_toArray, List.set_cons_succ, List.set_cons_zero]
      unfold treeP
      refine wpQuiet_nil ?_
      refine mv_call (some 49) rfl rfl rfl (by go_simp) (HSCA.out _ _ RC15.out) ?_
      intro x16 hx16
      have S16 := Lib.hid (hx16)
      have B16 := Lib.hid (B15.out.trans (S16.out.mono (Below.size B15.out)))
      have RA16 := Lib.hid (RA15.out.below S16.out)
      have RC16 := Lib.hid (RC15.out.below S16.out)
      refine ⟨⟨⟨_, B16.out⟩, rfl⟩, ?_⟩
      simp only [Act.put, List.setIfInBounds_toArray, List.set_cons_succ, List.set_cons_zero]
      unfold treeP
      simp only [pickL, List.filterMap_cons, List.filterMap_nil, List.getElem?_toArray, List.getElem?_cons_zero, List.getElem?_cons_succ]
      show wpQuiet _ _ _ _ [_, _, _] _
      repeat (first | ((refine quiet_load_row (some 32) rfl rfl 25 (.tmp 2) rfl w.heap.size rfl 25 (stC A) (0, 0) _ (lies_block HA7.out) Tryd.underlying25 rfl info25 ?_); simp only [Act.put, List.setIfInBounds_toArray, List.set_cons_succ, List.set_cons_zero]) | ((refine quiet_load_row (some 37) rfl rfl 25 (.tmp 2) rfl w.heap.size rfl 25 (stC A) (0, 0) _ (lies_block HA7.out) Tryd.underlying25 rfl info25 ?_); simp only [Act.put, List.setIfInBounds_toArray, List.set_cons_succ, List.set_cons_zero]) | ((refine quiet_load_row (some 42) rfl rfl 25 (.tmp 2) rfl w.heap.size rfl 25 (stC A) (0, 0) _ (lies_block HA7.out) Tryd.underlying25 rfl info25 ?_); simp only [Act.put, List.setIfInBounds_toArray, List.set_cons_succ, List.set_cons_zero]) | ((refine quiet_load_row (some 47) rfl rfl 25 (.tmp 2) rfl w.heap.size rfl 25 (stC A) (0, 0) _ (lies_block HA7.out) Tryd.underlying25 rfl info25 ?_); simp only [Act.put, List.setIfInBounds_toArray, List.set_cons_succ, List.set_cons_zero]) | ((refine quiet_load_row (some 34) rfl rfl 25 (.tmp 3) rfl (w.heap.size + 1) rfl 25 (stC C) (0, 0) _ (lies_block HC7.out) Tryd.underlying25 rfl info25 ?_); simp only [Act.put, List.setIfInBounds_toArray, List.set_cons_succ, List.set_cons_zero]) | ((refine quiet_load_row (some 38) rfl rfl 25 (.tmp 3) rfl (w.heap.size + 1) rfl 25 (stC C) (0, 0) _ (lies_block HC7.out) Tryd.underlying25 rfl info25 ?_); simp only [Act.put, List.setIfInBounds_toArray, List.set_cons_succ, List.set_cons_zero]) | ((refine quiet_load_row (some 43) rfl rfl 25 (.tmp 3) rfl (w.heap.size + 1) rfl 25 (stC C) (0, 0) _ (lies_block HC7.out) Tryd.underlying25 rfl info25 ?_); simp only [Act.put, List.setIfInBounds_toArray, List.set_cons_succ, List.set_cons_zero]) | ((refine quiet_load_row (some 46) rfl rfl 25 (.tmp 3) rfl (w.heap.size + 1) rfl 25 (stC C) (0, 0) _ (lies_block HC7.out) Tryd.underlying25 rfl info25 ?_); simp only [Act.put, List.setIfInBounds_toArray, List.set_cons_succ, List.set_cons_zero]) | go_big_quiet_step (fail))
      refine wpQuiet_nil ?_
      go_wp2_with fail
      go_ret
      exact ⟨rfl, HB7.out.trans (B16.out.mono HB7.out.size)⟩
    · refine mv_value (some 48) rfl rfl rfl (run_exec_buildSlice (parts := [(0, .tmp 46), (1, .tmp 47)]) (pv := [(0, .agg (stC C)), (1, .agg (stC A))]) rfl rfl (HBCA.out _)) ?_
      have RC17 := Lib.hid (rs_two C A (x12.alloc (.cells (stC A ++ stC C) 25)))
      have S17 := Lib.hid ((Below.refl _ (x12.alloc (.cells (stC A ++ stC C) 25))).alloc (Nat.le_refl _) (.cells (stC C ++ stC A) 25))
      have B17 := Lib.hid (B13.out.trans (S17.out.mono (Below.size B13.out)))
      have RA17 := Lib.hid (RA13.out.below S17.out)
      refine ⟨⟨⟨_, B17.out⟩, rfl⟩, ?_⟩
      simp only [Act.put, List.setIfInBounds_toArray, List.set_cons_succ, List.set_cons_zero]
      unfold treeP
      refine wpQuiet_nil ?_
      refine mv_call (some 45) rfl rfl rfl (by go_simp) (HSAC.out _ _ RA17.out) ?_
      intro x18 hx18
      have S18 := Lib.hid (hx18)
      have B18 := Lib.hid (B17.out.trans (S18.out.mono (Below.size B17.out)))
      have RA18 := Lib.hid (RA17.out.below S18.out)
      have RC18 := Lib.hid (RC17.out.below S18.out)
      refine ⟨⟨⟨_, B18.out⟩, rfl⟩, ?_⟩
      simp only [Act.put, List.setIfInBounds_toArray, List.set_cons_succ, List.set_cons_zero]
      unfold treeP
      refine wpQuiet_nil ?_
      refine mv_call (some 49) rfl rfl rfl (by go_simp) (HSCA.out _ _ RC18.out) ?_
      intro x19 hx19
      have S19 := Lib.hid (hx19)
      have B19 := Lib.hid (B18.out.trans (S19.out.mono (Below.size B18.out)))
      have RA19 := Lib.hid (RA18.out.below S19.out)
      have RC19 := Lib.hid (RC18.out.below S19.out)
      refine ⟨⟨⟨_, B19.out⟩, rfl⟩, ?_⟩
      simp only [Act.put, List.setIfInBounds_toArray, List.set_cons_succ, List.set_cons_zero]
      unfold treeP
      simp only [pickL, List.filterMap_cons, List.filterMap_nil, List.getElem?_toArray, List.getElem?_cons_zero, List.getElem?_cons_succ]
      show wpQuiet _ _ _ _ [_, _, _] _
      repeat (first | ((refine quiet_load_row (some 32) rfl rfl 25 (.tmp 2) rfl w.heap.size rfl 25 (stC A) (0, 0) _ (lies_block HA7.out) Tryd.underlying25 rfl info25 ?_); simp only [Act.put, List.setIfInBounds_toArray, List.set_cons_succ, List.set_cons_zero]) | ((refine quiet_load_row (some 37) rfl rfl 25 (.tmp 2) rfl w.heap.size rfl 25 (stC A) (0, 0) _ (lies_block HA7.out) Tryd.underlying25 rfl info25 ?_); simp only [Act.put, List.setIfInBounds_toArray, List.set_cons_succ, List.set_cons_zero]) | ((refine quiet_load_row (some 42) rfl rfl 25 (.tmp 2) rfl w.heap.size rfl 25 (stC A) (0, 0) _ (lies_block HA7.out) Tryd.underlying25 rfl info25 ?_); simp only [Act.put, List.setIfInBounds_toArray, List.set_cons_succ, List.set_cons_zero]) | ((refine quiet_load_row (some 47) rfl rfl 25 (.tmp 2) rfl w.heap.size rfl 25 (stC A) (0, 0) _ (lies_block HA7.out) Tryd.underlying25 rfl info25 ?_); simp only [Act.put, List.setIfInBounds_toArray, List.set_cons_succ, List.set_cons_zero]) | ((refine quiet_load_row (some 34) rfl rfl 25 (.tmp 3) rfl (w.heap.size + 1) rfl 25 (stC C) (0, 0) _ (lies_block HC7.out) Tryd.underlying25 rfl info25 ?_); simp only [Act.put, List.setIfInBounds_toArray, List.set_cons_succ, List.set_cons_zero]) | ((refine quiet_load_row (some 38) rfl rfl 25 (.tmp 3) rfl (w.heap.size + 1) rfl 25 (stC C) (0, 0) _ (lies_block HC7.out) Tryd.underlying25 rfl info25 ?_); simp only [Act.put, List.setIfInBounds_toArray, List.set_cons_succ, List.set_cons_zero]) | ((refine quiet_load_row (some 43) rfl rfl 25 (.tmp 3) rfl (w.heap.size + 1) rfl 25 (stC C) (0, 0) _ (lies_block HC7.out) Tryd.underlying25 rfl info25 ?_); simp only [Act.put, List.setIfInBounds_toArray, List.set_cons_succ, List.set_cons_zero]) | ((refine quiet_load_row (some 46) rfl rfl 25 (.tmp 3) rfl (w.heap.size + 1) rfl 25 (stC C) (0, 0) _ (lies_block HC7.out) Tryd.underlying25 rfl info25 ?_); simp only [Act.put, List.setIfInBounds_toArray, List.set_cons_succ, List.set_cons_zero]) | go_big_quiet_step (fail))
      refine wpQuiet_nil ?_
      go_wp2_with fail
      go_ret
      exact ⟨rfl, HB7.out.trans (B19.out.mono HB7.out.size)⟩
  · refine mv_value (some 48) rfl rfl rfl (run_exec_buildSlice (parts := [(0, .tmp 46), (1, .tmp 47)]) (pv := [(0, .agg (stC C)), (1, .agg (stC A))]) rfl rfl (HBCA.out _)) ?_
    have RC20 := Lib.hid (rs_two C A x12)
    have S20 := Lib.hid ((Below.refl _ x12).alloc (Nat.le_refl _) (.cells (stC C ++ stC A) 25))
    have B20 := Lib.hid (B12.out.trans (S20.out.mono (Below.size B12.out)))
    refine ⟨⟨⟨_, B20.out⟩, rfl⟩, ?_⟩
    simp only [Act.put, List.setIfInBounds_toArray, List.set_cons_succ, List.set_cons_zero]
    unfold treeP
    refine wpQuiet_nil ?_
    refine mv_value (some 44) rfl rfl rfl (run_exec_buildSlice (parts := [(0, .tmp 42), (1, .tmp 43)]) (pv := [(0, .agg (stC A)), (1, .agg (stC C))]) rfl rfl (HBAC.out _)) ?_
    have RA21 := Lib.hid (rs_two A C (x12.alloc (.cells (stC C ++ stC A) 25)))
    have S21 := Lib.hid ((Below.refl _ (x12.alloc (.cells (stC C ++ stC A) 25))).alloc (Nat.le_refl _) (.cells (stC A ++ stC C) 25))
    have B21 := Lib.hid (B20.out.trans (S21.out.mono (Below.size B20.out)))
    have RC21 := Lib.hid (RC20.out.below S21.out)
    refine ⟨⟨⟨_, B21.out⟩, rfl⟩, ?_⟩
    simp only [Act.put, List.setIfInBounds_toArray, List.set_cons_succ, List.set_cons_zero]
    unfold treeP
    refine wpQuiet_nil ?_
    refine mv_call (some 45) rfl rfl rfl (by go_simp) (HSAC.out _ _ RA21.out) ?_
    intro x22 hx22
    have S22 := Lib.hid (hx22)
    have B22 := Lib.hid (B21.out.trans (S22.out.mono (Below.size B21.out)))
    have RC22 := Lib.hid (RC21.out.below S22.out)
    have RA22 := Lib.hid (RA21.out.below S22.out)
    refine ⟨⟨⟨_, B22.out⟩, rfl⟩, ?_⟩
    simp only [Act.put, List.setIfInBounds_toArray, List.set_cons_succ, List.set_cons_zero]
    unfold treeP
    refine wpQuiet_nil ?_
    refine mv_call (some 49) rfl rfl rfl (by go_simp) (HSCA.out _ _ RC22.out) ?_
    intro x23 hx23
    have S23 := Lib.hid (hx23)
    have B23 := Lib.hid (B22.out.trans (S23.out.mono (Below.size B22.out)))
    have RC23 := Lib.hid (RC22.out.below S23.out)
    have RA23 := Lib.hid (RA22.out.below S23.out)
    refine ⟨⟨⟨_, B23.out⟩, rfl⟩, ?_⟩
    simp only [Act.put, List.setIfInBounds_toArray, List.set_cons_succ, List.set_cons_zero]
    unfold treeP
    simp only [pickL, List.filterMap_cons, List.filterMap_nil, List.getElem?_toArray, List.getElem?_cons_zero, List.getElem?_cons_succ]
    show wpQuiet _ _ _ _ [_, _, _] _
    repeat (first | ((refine quiet_load_row (some 32) rfl rfl 25 (.tmp 2) rfl w.heap.size rfl 25 (stC A) (0, 0) _ (lies_block HA7.out) Tryd.underlying25 rfl info25 ?_); simp only [Act.put, List.setIfInBounds_toArray, List.set_cons_succ, List.set_cons_zero]) | ((refine quiet_load_row (some 37) rfl rfl 25 (.tmp 2) rfl w.heap.size rfl 25 (stC A) (0, 0) _ (lies_block HA7.out) Tryd.underlying25 rfl info25 ?_); simp only [Act.put, List.setIfInBounds_toArray, List.set_cons_succ, List.set_cons_zero]) | ((refine quiet_load_row (some 42) rfl rfl 25 (.tmp 2) rfl w.heap.size rfl 25 (stC A) (0, 0) _ (lies_block HA7.out) Tryd.underlying25 rfl info25 ?_); simp only [Act.put, List.setIfInBounds_toArray, List.set_cons_succ, List.set_cons_zero]) | ((refine quiet_load_row (some 47) rfl rfl 25 (.tmp 2) rfl w.heap.size rfl 25 (stC A) (0, 0) _ (lies_block HA7.out) Tryd.underlying25 rfl info25 ?_); simp only [Act.put, List.setIfInBounds_toArray, List.set_cons_succ, List.set_cons_zero]) | ((refine quiet_load_row (some 34) rfl rfl 25 (.tmp 3) rfl (w.heap.size + 1) rfl 25 (stC C) (0, 0) _ (lies_block HC7.out) Tryd.underlying25 rfl info25 ?_); simp only [Act.put, List.setIfInBounds_toArray, List.set_cons_succ, List.set_cons_zero]) | ((refine quiet_load_row (some 38) rfl rfl 25 (.tmp 3) rfl (w.heap.size + 1) rfl 25 (stC C) (0, 0) _ (lies_block HC7.out) Tryd.underlying25 rfl info25 ?_); simp only [Act.put, List.setIfInBounds_toArray, List.set_cons_succ, List.set_cons_zero]) | ((refine quiet_load_row (some 43) rfl rfl 25 (.tmp 3) rfl (w.heap.size + 1) rfl 25 (stC C) (0, 0) _ (lies_block HC7.out) Tryd.underlying25 rfl info25 ?_); simp only [Act.put, List.setIfInBounds_toArray, List.set_cons_succ, List.set_cons_zero]) | ((refine quiet_load_row (some 46) rfl rfl 25 (.tmp 3) rfl (w.heap.size + 1) rfl 25 (stC C) (0, 0) _ (lies_block HC7.out) Tryd.underlying25 rfl info25 ?_); simp only [Act.put, List.setIfInBounds_toArray, List.set_cons_succ, List.set_cons_zero]) | go_big_quiet_step (fail))
    refine wpQuiet_nil ?_
    go_wp2_with fail
    go_ret
    exact ⟨rfl, HB7.out.trans (B23.out.mono HB7.out.size)⟩
end Go.Proofs.YtfojhmobnedekaaDoor
