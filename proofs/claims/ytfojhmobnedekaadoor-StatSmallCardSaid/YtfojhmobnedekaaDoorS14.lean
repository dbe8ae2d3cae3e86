/- The walks of the document's And and Of. Conditions: rows are shorter than 2 to the 47. -/
import Derived.Test.YtfojhmobnedekaaDoorS13
namespace Go.Proofs.YtfojhmobnedekaaDoor
open Go.RowKit

def AndRel38 (w : World) (n : Nat) (l : List (Int × Int)) (v : Nat → Int) (i : Value) (wr : World) : Prop := ∃ k : Nat, k ≤ n ∧ i = .int .i64 k ∧ StAt 38 wr w.heap.size (andV v (l.take k)) ∧ StAt 38 wr (w.heap.size + 1) v0 ∧ Below w.heap.size w wr
set_option maxRecDepth 100000 in
set_option maxHeartbeats 1600000 in
theorem rAnd_any {w : World} {a : Option Addr} {n cap : Nat} {l : List (Int × Int)} {v : Nat → Int} (h : RE w a n cap l) :
    Calls Tryd.prog 14 #[.agg (stC v), .slice a n cap] w fun e w' => e = .returned (.agg (stC (andV v l))) ∧ Below w.heap.size w w' := by
  have hm := h.most
  have hle := h.le
  have hlen := h.len
  have H := Lib.hid h
  have HL := Lib.hid hlen
  have HA := Lib.hid radd_any
  clear h hlen
  go_enter Tryd.func14, Tryd.ntmps14
  go_wp2_with fail
  go_loopw [5] (fun i wr => AndRel38 w n l v i wr) (fun i _ => n - (intOf i).toNat)
  case atStart =>
    refine ⟨0, Nat.zero_le _, rfl, ?_, ?_, ((Below.refl _ _).alloc (Nat.le_refl _) _).alloc (by simp) _⟩
    · exact (StAt.new' w v).below ((Below.refl _ _).alloc (Nat.le_refl _) _) (by simp)
    · have := StAt.new' (w.alloc (.cells (stC v) 38)) v0
      rw [World.size_alloc] at this
      exact this
  case round =>
    obtain ⟨k, hk, rfl, hS, hU, hB⟩ := hrel
    have HS := Lib.hid hS
    have HU := Lib.hid hU
    have HB := Lib.hid hB
    have hsz := hU.lt
    clear hS hU hB
    by_cases hk1 : k < n
    · obtain ⟨b, off, x, y, rfl, hx, e0, e1⟩ := (H.out.below HB.out).two hk1
      have HSN := Lib.hid (andV_snoc hx v)
      generalize andV v (l.take k) = V at *
      clear hx
      go_upto_region 5 with fail
      have HB1 := Lib.hid (HB.out.alloc (show w.heap.size ≤ wr.heap.size by omega) (.cells #[.int .i64 x, .int .i64 y] 37))
      have HS1 := Lib.hid (HS.out.below ((Below.refl wr.heap.size wr).alloc (Nat.le_refl _) (.cells #[.int .i64 x, .int .i64 y] 37)) (by omega))
      have HU1 := Lib.hid (HU.out.below ((Below.refl wr.heap.size wr).alloc (Nat.le_refl _) (.cells #[.int .i64 x, .int .i64 y] 37)) (by omega))
      have c0 : (wr.alloc (.cells #[.int .i64 x, .int .i64 y] 37)).cell? ⟨wr.heap.size, 0, none⟩ = some (.int .i64 x) := (cell_of_block (heap_alloc_new wr _)).trans rfl
      have c1 : (wr.alloc (.cells #[.int .i64 x, .int .i64 y] 37)).cell? ⟨wr.heap.size, 1, none⟩ = some (.int .i64 y) := (cell_of_block (heap_alloc_new wr _)).trans rfl
      have hz1 : (wr.alloc (.cells #[.int .i64 x, .int .i64 y] 37)).heap.size = wr.heap.size + 1 := World.size_alloc _ _
      clear HS HU HB e0 e1
      generalize wr.alloc (.cells #[.int .i64 x, .int .i64 y] 37) = W1 at *
      have hb := Lib.hid (rmay_any x y W1)
      by_cases hm : mayI x y = true
      · rw [hm] at hb
        have hmc := may_cases hm
        rw [if_pos hm] at HSN
        clear hm
        go_wp2_with fail
        refine hb.out.mono ?_
        rintro e w2 ⟨rfl, hB2⟩
        have d0 := (hB2.cell (p := ⟨wr.heap.size, 0, none⟩) (show wr.heap.size < W1.heap.size by omega)).trans c0
        have d1 := (hB2.cell (p := ⟨wr.heap.size, 1, none⟩) (show wr.heap.size < W1.heap.size by omega)).trans c1
        have hz2 := hB2.size
        have HS2 := Lib.hid (HS1.out.below hB2 (by omega))
        have HU2 := Lib.hid (HU1.out.below hB2 (by omega))
        have HB2 := Lib.hid (HB1.out.trans (hB2.mono (by omega)))
        clear hB2 hb c0 c1 HS1 HU1 HB1
        rcases hmc with ⟨rfl | rfl, hy⟩ | ⟨rfl, hy⟩ | ⟨rfl, hy⟩ | ⟨rfl | rfl | rfl, rfl⟩
        · have s0 := HS2.out.cell (k := 0) (by omega)
          have f0 := HS2.out.froz 0
          go_wp2_with fail
          refine (HA.out _ _ _).mono ?_
          rintro e w3 ⟨rfl, rfl⟩
          have hK := Kb.setCell w2 w.heap.size 0 (.int .i64 (ad (V 0) 1))
          have HS3 := Lib.hid (HS2.out.set (k := 0) (ad (V 0) 1) (by omega))
          have HU3 := Lib.hid (HU2.out.kb hK (by omega))
          have HB3 := Lib.hid (kb_below HB2.out hK (Nat.le_refl _) (by omega))
          have d3 := hK.cell d1 (show wr.heap.size ≠ w.heap.size by omega)
          have s1 : (w2.setCell ⟨w.heap.size, 0, none⟩ (.int .i64 (ad (V 0) 1))).cell? ⟨w.heap.size, 1, none⟩ = some (.int .i64 (V 1)) := HS3.out.cell (k := 1) (by omega)
          have f1 := HS3.out.froz 1
          go_upto_region 9 with fail
          clear s0 f0 d0 d1 hK
          generalize w2.setCell ⟨w.heap.size, 0, none⟩ (.int .i64 (ad (V 0) 1)) = w3 at *
          go_wp2_with fail
          refine (HA.out _ _ _).mono ?_
          rintro e w4 ⟨rfl, rfl⟩
          go_wp2_with fail
          go_roundw
          case rel => exact ⟨k + 1, by omega, by go_num, by rw [HSN.out]; exact HS3.out.set _ (by omega), (HU3.out.kb (Kb.setCell _ _ _ _) (by omega)), kb_below HB3.out (Kb.setCell _ _ _ _) (Nat.le_refl _) HB3.out.size⟩
          case measure => simp [intOf]; omega
        · have s0 := HS2.out.cell (k := 18) (by omega)
          have f0 := HS2.out.froz 18
          go_wp2_with fail
          refine (HA.out _ _ _).mono ?_
          rintro e w3 ⟨rfl, rfl⟩
          go_wp2_with fail
          go_roundw
          case rel => exact ⟨k + 1, by omega, by go_num, by rw [HSN.out]; exact HS2.out.set _ (by omega), (HU2.out.kb (Kb.setCell _ _ _ _) (by omega)), kb_below HB2.out (Kb.setCell _ _ _ _) (Nat.le_refl _) HB2.out.size⟩
          case measure => simp [intOf]; omega
        · obtain ⟨m, rfl⟩ := Int.eq_ofNat_of_zero_le (show 0 ≤ y by omega)
          have hm8 : ((m : Nat) : Int) < 8 := by omega
          have s0 := HS2.out.cell (k := 2) (by omega)
          have f0 := HS2.out.froz 2
          go_wp2_with fail
          refine (HA.out _ _ _).mono ?_
          rintro e w3 ⟨rfl, rfl⟩
          have hK := Kb.setCell w2 w.heap.size 2 (.int .i64 (ad (V 2) 1))
          have HS3 := Lib.hid (HS2.out.set (k := 2) (ad (V 2) 1) (by omega))
          have HU3 := Lib.hid (HU2.out.kb hK (by omega))
          have HB3 := Lib.hid (kb_below HB2.out hK (Nat.le_refl _) (by omega))
          have d3 := hK.cell d1 (show wr.heap.size ≠ w.heap.size by omega)
          have s1 : (w2.setCell ⟨w.heap.size, 2, none⟩ (.int .i64 (ad (V 2) 1))).cell? ⟨w.heap.size, 3 + m, none⟩ = some (.int .i64 (V (3 + m))) := by
            rw [HS3.out.cell (k := 3 + m) (by omega)]; unfold upd; rw [if_neg (by omega)]
          go_upto_region 12 with fail
          clear s0 f0 d0 d1 hK
          generalize w2.setCell ⟨w.heap.size, 2, none⟩ (.int .i64 (ad (V 2) 1)) = w3 at *
          refine region_quiet_tail 10 (by kernel_rfl) (by kernel_rfl) ?_
          simp only [List.take_succ_cons, List.take_zero, List.drop_succ_cons, List.drop_zero]
          repeat (go_big_quiet_step ((go_at_call 24; exact quiet_same (HA.out _ _ _))))
          refine wpQuiet_nil ?_
          intro _ hw'
          obtain ⟨nq, hw''⟩ := hw'
          subst hw''
          have HS4 := Lib.hid (show StAt 38 (w3.drewN nq) w.heap.size (upd V 2 (ad (V 2) 1)) from HS3.out)
          have HU4 := Lib.hid (show StAt 38 (w3.drewN nq) (w.heap.size + 1) v0 from HU3.out)
          have HB4 := Lib.hid (below_drewN HB3.out nq)
          have f1 := HS4.out.froz (3 + m)
          go_wp2_with fail
          go_roundw
          case rel => exact ⟨k + 1, by omega, by go_num, by rw [HSN.out]; exact HS4.out.set _ (by omega), (HU4.out.kb (Kb.setCell _ _ _ _) (by omega)), kb_below HB4.out (Kb.setCell _ _ _ _) (Nat.le_refl _) HB4.out.size⟩
          case measure => simp [intOf]; omega
        · obtain ⟨m, rfl⟩ := Int.eq_ofNat_of_zero_le (show 0 ≤ y by omega)
          have hm4 : ((m : Nat) : Int) < 4 := by omega
          have s1 := HS2.out.cell (k := 11 + m) (by omega)
          go_upto_region 14 with fail
          refine region_quiet_tail 10 (by kernel_rfl) (by kernel_rfl) ?_
          simp only [List.take_succ_cons, List.take_zero, List.drop_succ_cons, List.drop_zero]
          repeat (go_big_quiet_step ((go_at_call 24; exact quiet_same (HA.out _ _ _))))
          refine wpQuiet_nil ?_
          intro _ hw'
          obtain ⟨nq, hw''⟩ := hw'
          subst hw''
          have HS4 := Lib.hid (show StAt 38 (w2.drewN nq) w.heap.size V from HS2.out)
          have HU4 := Lib.hid (show StAt 38 (w2.drewN nq) (w.heap.size + 1) v0 from HU2.out)
          have HB4 := Lib.hid (below_drewN HB2.out nq)
          have f1 := HS4.out.froz (11 + m)
          go_wp2_with fail
          go_roundw
          case rel => exact ⟨k + 1, by omega, by go_num, by rw [HSN.out]; exact HS4.out.set _ (by omega), (HU4.out.kb (Kb.setCell _ _ _ _) (by omega)), kb_below HB4.out (Kb.setCell _ _ _ _) (Nat.le_refl _) HB4.out.size⟩
          case measure => simp [intOf]; omega
        · have s0 := HS2.out.cell (k := 15) (by omega)
          have f0 := HS2.out.froz 15
          go_wp2_with fail
          refine (HA.out _ _ _).mono ?_
          rintro e w3 ⟨rfl, rfl⟩
          go_wp2_with fail
          go_roundw
          case rel => exact ⟨k + 1, by omega, by go_num, by rw [HSN.out]; exact HS2.out.set _ (by omega), (HU2.out.kb (Kb.setCell _ _ _ _) (by omega)), kb_below HB2.out (Kb.setCell _ _ _ _) (Nat.le_refl _) HB2.out.size⟩
          case measure => simp [intOf]; omega
        · have s0 := HS2.out.cell (k := 16) (by omega)
          have f0 := HS2.out.froz 16
          go_wp2_with fail
          refine (HA.out _ _ _).mono ?_
          rintro e w3 ⟨rfl, rfl⟩
          go_wp2_with fail
          go_roundw
          case rel => exact ⟨k + 1, by omega, by go_num, by rw [HSN.out]; exact HS2.out.set _ (by omega), (HU2.out.kb (Kb.setCell _ _ _ _) (by omega)), kb_below HB2.out (Kb.setCell _ _ _ _) (Nat.le_refl _) HB2.out.size⟩
          case measure => simp [intOf]; omega
        · have s0 := HS2.out.cell (k := 17) (by omega)
          have f0 := HS2.out.froz 17
          go_wp2_with fail
          refine (HA.out _ _ _).mono ?_
          rintro e w3 ⟨rfl, rfl⟩
          go_wp2_with fail
          go_roundw
          case rel => exact ⟨k + 1, by omega, by go_num, by rw [HSN.out]; exact HS2.out.set _ (by omega), (HU2.out.kb (Kb.setCell _ _ _ _) (by omega)), kb_below HB2.out (Kb.setCell _ _ _ _) (Nat.le_refl _) HB2.out.size⟩
          case measure => simp [intOf]; omega
      · rw [show mayI x y = false by simpa using hm] at hb
        rw [if_neg hm] at HSN
        clear hm
        go_wp2_with fail
        refine hb.out.mono ?_
        rintro e w2 ⟨rfl, hB2⟩
        have HB2 := Lib.hid hB2
        have hz := hB2.size
        clear hB2
        go_wp2_with fail
        go_roundw
        case rel => exact ⟨k + 1, by omega, by go_num, by rw [HSN.out]; exact HS1.out.below HB2.out (by omega), HU1.out.below HB2.out (by omega), HB1.out.trans (HB2.out.mono (by omega))⟩
        case measure => simp [intOf]; omega
    · obtain rfl : k = n := by omega
      have HV := Lib.hid (show andV v (l.take k) = andV v l by rw [List.take_of_length_le (by rw [HL.out]; exact Nat.le_refl _)])
      rw [HV.out] at HS
      go_wp2_with (first | (refine wpList_load_row rfl 38 (.tmp 2) rfl w.heap.size rfl 38 (stC (andV v l)) (0, 0) _ HS.out Tryd.underlying38 rfl info38 ?_) | (refine wpList_store_row rfl 38 (.tmp 4) (.tmp 88) rfl (w.heap.size + 1) (stC (andV v l)) rfl rfl 38 (stC v0) HU.out info38 rfl (stC_one _) ?_))
      have h2 : (wr.setRow (w.heap.size + 1) (stC (andV v l))).heap[w.heap.size + 1]? = some (.cells (stC (andV v l)) 38 (0, 0)) := setRow_heap wr _ _ _ _ _ HU.out
      exact bodyPost_ret (v := .agg (stC (andV v l))) (results_cell_row rfl _ _ _ _ _ _ _ rfl h2 Tryd.underlying38 rfl info38) rfl ⟨rfl, below_setRow HB.out (by omega)⟩
set_option maxRecDepth 100000 in
set_option maxHeartbeats 1600000 in
theorem rOf_any {w : World} {a : Option Addr} {n cap : Nat} {l : List (Int × Int)} (h : RE w a n cap l) :
    Calls Tryd.prog 15 #[.slice a n cap] w fun e w' => e = .returned (.agg (stC (andV v0 l))) ∧ Below w.heap.size w w' := by
  have HB1 := Lib.hid ((Below.refl w.heap.size w).alloc (Nat.le_refl _) (.cells (stC v0) 38))
  have H1 := Lib.hid (rAnd_any (v := v0) (h.below ((Below.refl w.heap.size w).alloc (Nat.le_refl _) (.cells (stC v0) 38))))
  have HN := Lib.hid (StAt.new' w v0)
  clear h
  go_enter Tryd.func15, Tryd.ntmps15
  go_wp2_with fail
  refine (show Calls _ _ _ _ _ from H1.out).mono ?_
  rintro e w1 ⟨rfl, hB⟩
  have HB := Lib.hid hB
  have HU := Lib.hid (HN.out.below hB (by simp))
  have hz := hB.size
  rw [World.size_alloc] at hz
  clear hB
  go_wp2_with (refine wpList_store_row rfl 38 (.tmp 2) (.tmp 5) rfl w.heap.size (stC (andV v0 l)) rfl rfl 38 (stC v0) HU.out info38 rfl (stC_one _) ?_)
  have h2 : (w1.setRow w.heap.size (stC (andV v0 l))).heap[w.heap.size]? = some (.cells (stC (andV v0 l)) 38 (0, 0)) := setRow_heap w1 _ _ _ _ _ HU.out
  exact bodyPost_ret (v := .agg (stC (andV v0 l))) (results_cell_row rfl _ _ _ _ _ _ _ rfl h2 Tryd.underlying38 rfl info38) rfl ⟨rfl, below_setRow (HB1.out.trans (HB.out.mono (by simp))) (Nat.le_refl _)⟩
end Go.Proofs.YtfojhmobnedekaaDoor
