/- The walks of stat's May, count, And, Of. Conditions: rows are shorter than 2 to the 40. -/
import Derived.Test.YtfojhmobnedekaaDoorBase
namespace Go.Proofs.YtfojhmobnedekaaDoor
open Go.RowKit

set_option maxRecDepth 100000 in
set_option maxHeartbeats 1600000 in
theorem may_any (k n : Int) (w : World) : Calls Tryd.prog 11 #[.agg #[.int .i64 k, .int .i64 n]] w fun e w' => e = .returned (.bool (mayI k n)) ∧ Below w.heap.size w w' := by
  have hB : Below w.heap.size w (w.alloc (.cells #[.int .i64 k, .int .i64 n] 33)) := (Below.refl _ _).alloc (Nat.le_refl _) _
  have H1 := Lib.hid fun w => within_any n 0 2147483647 w
  have H2 := Lib.hid fun w => within_any n 1 7 w
  have H3 := Lib.hid fun w => within_any n 1 3 w
  have HB := Lib.hid hB
  clear hB
  unfold mayI
  rcases Classical.em (k = 1) with rfl | k1
  · simp only [true_or, if_true]
    generalize decide (0 ≤ n ∧ n ≤ 2147483647) = t at *
    go_enter Tryd.func11, Tryd.ntmps11
    go_wp2_with fail
    refine (H1.out _).mono ?_
    rintro e w1 ⟨rfl, rfl⟩
    go_wp2_with fail
    go_ret
    exact ⟨rfl, HB.out⟩
  rcases Classical.em (k = 7) with rfl | k7
  · simp only [or_true, if_true]
    generalize decide (0 ≤ n ∧ n ≤ 2147483647) = t at *
    go_enter Tryd.func11, Tryd.ntmps11
    go_wp2_with fail
    refine (H1.out _).mono ?_
    rintro e w1 ⟨rfl, rfl⟩
    go_wp2_with fail
    go_ret
    exact ⟨rfl, HB.out⟩
  have q1 : (k == 1) = false := by simp [k1]
  have q7 : (k == 7) = false := by simp [k7]
  rcases Classical.em (k = 2) with rfl | k2
  · rw [if_neg (by omega), if_pos rfl]
    generalize decide (1 ≤ n ∧ n ≤ 7) = t at *
    clear k1 k7 q1 q7
    go_enter Tryd.func11, Tryd.ntmps11
    go_wp2_with fail
    refine (H2.out _).mono ?_
    rintro e w1 ⟨rfl, rfl⟩
    go_wp2_with fail
    go_ret
    exact ⟨rfl, HB.out⟩
  have q2 : (k == 2) = false := by simp [k2]
  rcases Classical.em (k = 3) with rfl | k3
  · rw [if_neg (by omega), if_neg (by omega), if_pos rfl]
    generalize decide (1 ≤ n ∧ n ≤ 3) = t at *
    clear k1 k7 q1 q7 k2 q2
    go_enter Tryd.func11, Tryd.ntmps11
    go_wp2_with fail
    refine (H3.out _).mono ?_
    rintro e w1 ⟨rfl, rfl⟩
    go_wp2_with fail
    go_ret
    exact ⟨rfl, HB.out⟩
  have q3 : (k == 3) = false := by simp [k3]
  rw [if_neg (by omega), if_neg (by omega), if_neg (by omega)]
  by_cases k4 : k = 4 ∨ k = 5 ∨ k = 6
  · rw [if_pos k4]
    rw [show decide (n = 0) = (n == 0) from rfl]
    generalize hn : (n == 0) = t at *
    rcases k4 with rfl | rfl | rfl
    all_goals
      clear k1 k7 k2 k3 q1 q7 q2 q3
      go_enter Tryd.func11, Tryd.ntmps11
      go_wp2_with fail
      go_ret
      exact ⟨rfl, HB.out⟩
  · rw [if_neg k4]
    have q4 : (k == 4) = false := by simp; omega
    have q5 : (k == 5) = false := by simp; omega
    have q6 : (k == 6) = false := by simp; omega
    clear k1 k7 k2 k3 k4
    go_enter Tryd.func11, Tryd.ntmps11
    go_wp2_with fail
    go_ret
    exact ⟨rfl, HB.out⟩

/-- What count asks and leaves. -/
def Counts (w : World) (b : Nat) (v : Nat → Int) (k n : Int) : Prop := Calls Tryd.prog 22 #[.pointer (some ⟨b, 0, none⟩), .agg #[.int .i64 k, .int .i64 n]] w fun e w' => e = .returned (.tuple #[]) ∧ StAt 25 w' b (cnt v k n) ∧ Kb b w w'
theorem StAt.more {w : World} {b k : Nat} {v : Nat → Int} (h : StAt 25 w b v) (hk : k < 19) (x : Int) : Calls Tryd.prog 33 #[.pointer (some ⟨b, k, none⟩), .int .i64 x] w fun e w' => e = .returned (.tuple #[]) ∧ Hid (StAt 25 w' b (upd v k (ad (v k) x))) ∧ Hid (Kb b w w') := by
  refine (more_any (h.cell hk) (h.froz k)).mono ?_
  rintro e w' ⟨rfl, rfl⟩
  exact ⟨rfl, h.set _ hk, Kb.setCell _ _ _ _⟩
theorem StAt.kb {ty : TypeId} {w w' : World} {b c : Nat} {v : Nat → Int} (h : StAt ty w b v) (hk : Kb c w w') (hn : b ≠ c) : StAt ty w' b v := (hk.block b h.lt hn).trans h
/-- The event's box. -/
theorem ev_box (w : World) (k n : Int) : (w.alloc (.cells #[.int .i64 k, .int .i64 n] 33)).cell? ⟨w.heap.size, 0, none⟩ = some (.int .i64 k) ∧ (w.alloc (.cells #[.int .i64 k, .int .i64 n] 33)).cell? ⟨w.heap.size, 1, none⟩ = some (.int .i64 n) :=
  have hb := heap_alloc_new w (.cells #[.int .i64 k, .int .i64 n] 33)
  ⟨(cell_of_block (j := 0) hb).trans rfl, (cell_of_block (j := 1) hb).trans rfl⟩
theorem kb_ev (w : World) (b : Nat) (k n : Int) : Kb b w (w.alloc (.cells #[.int .i64 k, .int .i64 n] 33)) := Kb.of_below ((Below.refl _ _).alloc (Nat.le_refl _) _)

set_option maxRecDepth 100000 in
set_option maxHeartbeats 1600000 in
theorem count_1 {w : World} {b : Nat} {v : Nat → Int} {n : Int} (h : StAt 25 w b v) : Counts w b v 1 n := by
  have hlt := h.lt
  have hs := h.below ((Below.refl w.heap.size w).alloc (Nat.le_refl _) (.cells #[.int .i64 1, .int .i64 n] 33)) hlt
  have HS := Lib.hid hs
  have HK0 := Lib.hid (kb_ev w b 1 n)
  have HC := Lib.hid (ev_box w 1 n).2
  have HN := Lib.hid (show w.heap.size ≠ b by omega)
  unfold Counts
  have H1 := Lib.hid (hs.more (k := 0) (by omega) 1)
  clear h hs hlt
  go_enter Tryd.func22, Tryd.ntmps22
  go_wp2_with fail
  refine H1.out.mono ?_
  rintro e w1 ⟨rfl, HS1, HK1⟩
  have c1 := HK1.out.cell HC.out HN.out
  go_upto_region 4 with fail
  refine region_quiet_tail 5 (by kernel_rfl) (by kernel_rfl) ?_
  simp only [List.take_succ_cons, List.take_zero, List.drop_succ_cons, List.drop_zero]
  repeat (go_big_quiet_step (fail))
  refine wpQuiet_nil ?_
  intro _ hw'
  obtain ⟨nq, hw''⟩ := hw'
  subst hw''
  have H2 := Lib.hid ((show StAt 25 (w1.drewN nq) b _ from HS1.out).more (k := 1) (by omega) n)
  go_wp2_with fail
  refine H2.out.mono ?_
  rintro e w2 ⟨rfl, HS2, HK2⟩
  go_wp2_with fail
  exact bodyPost_end (v := .tuple #[]) (results_none rfl _ _ _) rfl ⟨rfl, HS2.out, (HK0.out.trans HK1.out).trans ((Kb.of_below (below_drewN (Below.refl _ _) _)).trans HK2.out)⟩

set_option maxRecDepth 100000 in
set_option maxHeartbeats 1600000 in
theorem count_4 {w : World} {b : Nat} {v : Nat → Int} {n : Int} (h : StAt 25 w b v) : Counts w b v 4 n := by
  have hlt := h.lt
  have hs := h.below ((Below.refl w.heap.size w).alloc (Nat.le_refl _) (.cells #[.int .i64 4, .int .i64 n] 33)) hlt
  have HS := Lib.hid hs
  have HK0 := Lib.hid (kb_ev w b 4 n)
  have HC := Lib.hid (ev_box w 4 n).2
  have HN := Lib.hid (show w.heap.size ≠ b by omega)
  unfold Counts
  have H1 := Lib.hid (hs.more (k := 15) (by omega) 1)
  clear h hs hlt
  go_enter Tryd.func22, Tryd.ntmps22
  go_wp2_with fail
  refine H1.out.mono ?_
  rintro e w1 ⟨rfl, HS1, HK1⟩
  go_wp2_with fail
  exact bodyPost_end (v := .tuple #[]) (results_none rfl _ _ _) rfl ⟨rfl, HS1.out, HK0.out.trans HK1.out⟩

set_option maxRecDepth 100000 in
set_option maxHeartbeats 1600000 in
theorem count_5 {w : World} {b : Nat} {v : Nat → Int} {n : Int} (h : StAt 25 w b v) : Counts w b v 5 n := by
  have hlt := h.lt
  have hs := h.below ((Below.refl w.heap.size w).alloc (Nat.le_refl _) (.cells #[.int .i64 5, .int .i64 n] 33)) hlt
  have HS := Lib.hid hs
  have HK0 := Lib.hid (kb_ev w b 5 n)
  have HC := Lib.hid (ev_box w 5 n).2
  have HN := Lib.hid (show w.heap.size ≠ b by omega)
  unfold Counts
  have H1 := Lib.hid (hs.more (k := 16) (by omega) 1)
  clear h hs hlt
  go_enter Tryd.func22, Tryd.ntmps22
  go_wp2_with fail
  refine H1.out.mono ?_
  rintro e w1 ⟨rfl, HS1, HK1⟩
  go_wp2_with fail
  exact bodyPost_end (v := .tuple #[]) (results_none rfl _ _ _) rfl ⟨rfl, HS1.out, HK0.out.trans HK1.out⟩

set_option maxRecDepth 100000 in
set_option maxHeartbeats 1600000 in
theorem count_6 {w : World} {b : Nat} {v : Nat → Int} {n : Int} (h : StAt 25 w b v) : Counts w b v 6 n := by
  have hlt := h.lt
  have hs := h.below ((Below.refl w.heap.size w).alloc (Nat.le_refl _) (.cells #[.int .i64 6, .int .i64 n] 33)) hlt
  have HS := Lib.hid hs
  have HK0 := Lib.hid (kb_ev w b 6 n)
  have HC := Lib.hid (ev_box w 6 n).2
  have HN := Lib.hid (show w.heap.size ≠ b by omega)
  unfold Counts
  have H1 := Lib.hid (hs.more (k := 17) (by omega) 1)
  clear h hs hlt
  go_enter Tryd.func22, Tryd.ntmps22
  go_wp2_with fail
  refine H1.out.mono ?_
  rintro e w1 ⟨rfl, HS1, HK1⟩
  go_wp2_with fail
  exact bodyPost_end (v := .tuple #[]) (results_none rfl _ _ _) rfl ⟨rfl, HS1.out, HK0.out.trans HK1.out⟩

set_option maxRecDepth 100000 in
set_option maxHeartbeats 1600000 in
theorem count_7 {w : World} {b : Nat} {v : Nat → Int} {n : Int} (h : StAt 25 w b v) : Counts w b v 7 n := by
  have hlt := h.lt
  have hs := h.below ((Below.refl w.heap.size w).alloc (Nat.le_refl _) (.cells #[.int .i64 7, .int .i64 n] 33)) hlt
  have HS := Lib.hid hs
  have HK0 := Lib.hid (kb_ev w b 7 n)
  have HC := Lib.hid (ev_box w 7 n).2
  have HN := Lib.hid (show w.heap.size ≠ b by omega)
  unfold Counts
  clear h hs hlt
  go_enter Tryd.func22, Tryd.ntmps22
  have c1 := HC.out
  go_upto_region 17 with fail
  refine region_quiet_tail 5 (by kernel_rfl) (by kernel_rfl) ?_
  simp only [List.take_succ_cons, List.take_zero, List.drop_succ_cons, List.drop_zero]
  repeat (go_big_quiet_step (fail))
  refine wpQuiet_nil ?_
  intro _ hw'
  obtain ⟨nq, hw''⟩ := hw'
  subst hw''
  have H2 := Lib.hid ((show StAt 25 ((w.alloc (.cells #[.int .i64 7, .int .i64 n] 33)).drewN nq) b _ from HS.out).more (k := 18) (by omega) n)
  go_wp2_with fail
  refine H2.out.mono ?_
  rintro e w2 ⟨rfl, HS2, HK2⟩
  go_wp2_with fail
  exact bodyPost_end (v := .tuple #[]) (results_none rfl _ _ _) rfl ⟨rfl, HS2.out, HK0.out.trans ((Kb.of_below (below_drewN (Below.refl _ _) _)).trans HK2.out)⟩

set_option maxRecDepth 100000 in
set_option maxHeartbeats 1600000 in
theorem count_3 {w : World} {b : Nat} {v : Nat → Int} {n : Int} (h : StAt 25 w b v) (hn : 1 ≤ n ∧ n ≤ 3) : Counts w b v 3 n := by
  have hlt := h.lt
  have hs := h.below ((Below.refl w.heap.size w).alloc (Nat.le_refl _) (.cells #[.int .i64 3, .int .i64 n] 33)) hlt
  have HS := Lib.hid hs
  have HK0 := Lib.hid (kb_ev w b 3 n)
  have HC := Lib.hid (ev_box w 3 n).2
  have HN := Lib.hid (show w.heap.size ≠ b by omega)
  unfold Counts
  clear h hs hlt
  go_enter Tryd.func22, Tryd.ntmps22
  obtain ⟨m, rfl⟩ := Int.eq_ofNat_of_zero_le (show 0 ≤ n by omega)
  have hm : ((m : Nat) : Int) < 4 := by omega
  have c1 := HC.out
  go_upto_region 9 with fail
  refine region_quiet_tail 6 (by kernel_rfl) (by kernel_rfl) ?_
  simp only [List.take_succ_cons, List.take_zero, List.drop_succ_cons, List.drop_zero]
  repeat (go_big_quiet_step (fail))
  refine wpQuiet_nil ?_
  intro _ hw'
  obtain ⟨nq, hw''⟩ := hw'
  subst hw''
  have H2 := Lib.hid ((show StAt 25 ((w.alloc (.cells #[.int .i64 3, .int .i64 (m : Nat)] 33)).drewN nq) b _ from HS.out).more (k := 11 + m) (by omega) 1)
  go_wp2_with fail
  refine H2.out.mono ?_
  rintro e w2 ⟨rfl, HS2, HK2⟩
  go_wp2_with fail
  exact bodyPost_end (v := .tuple #[]) (results_none rfl _ _ _) rfl ⟨rfl, HS2.out, HK0.out.trans ((Kb.of_below (below_drewN (Below.refl _ _) _)).trans HK2.out)⟩

set_option maxRecDepth 100000 in
set_option maxHeartbeats 1600000 in
theorem count_2 {w : World} {b : Nat} {v : Nat → Int} {n : Int} (h : StAt 25 w b v) (hn : 1 ≤ n ∧ n ≤ 7) : Counts w b v 2 n := by
  have hlt := h.lt
  have hs := h.below ((Below.refl w.heap.size w).alloc (Nat.le_refl _) (.cells #[.int .i64 2, .int .i64 n] 33)) hlt
  have HS := Lib.hid hs
  have HK0 := Lib.hid (kb_ev w b 2 n)
  have HC := Lib.hid (ev_box w 2 n).2
  have HN := Lib.hid (show w.heap.size ≠ b by omega)
  unfold Counts
  have H1 := Lib.hid (hs.more (k := 2) (by omega) 1)
  clear h hs hlt
  go_enter Tryd.func22, Tryd.ntmps22
  obtain ⟨m, rfl⟩ := Int.eq_ofNat_of_zero_le (show 0 ≤ n by omega)
  have hm : ((m : Nat) : Int) < 8 := by omega
  have hm2 : m ≠ 0 := by omega
  go_wp2_with fail
  refine H1.out.mono ?_
  rintro e w1 ⟨rfl, HS1, HK1⟩
  have c1 := HK1.out.cell HC.out HN.out
  go_upto_region 7 with fail
  refine region_quiet_tail 6 (by kernel_rfl) (by kernel_rfl) ?_
  simp only [List.take_succ_cons, List.take_zero, List.drop_succ_cons, List.drop_zero]
  repeat (go_big_quiet_step (fail))
  refine wpQuiet_nil ?_
  intro _ hw'
  obtain ⟨nq, hw''⟩ := hw'
  subst hw''
  have H2 := Lib.hid ((show StAt 25 (w1.drewN nq) b _ from HS1.out).more (k := 3 + m) (by omega) 1)
  rw [show upd v 2 (ad (v 2) 1) (3 + m) = v (3 + m) from if_neg (by omega)] at H2
  go_wp2_with fail
  refine H2.out.mono ?_
  rintro e w2 ⟨rfl, HS2, HK2⟩
  go_wp2_with fail
  exact bodyPost_end (v := .tuple #[]) (results_none rfl _ _ _) rfl ⟨rfl, HS2.out, (HK0.out.trans HK1.out).trans ((Kb.of_below (below_drewN (Below.refl _ _) _)).trans HK2.out)⟩

theorem count_any {w : World} {b : Nat} {v : Nat → Int} {k n : Int} (h : StAt 25 w b v) (hm : mayI k n = true) : Counts w b v k n := by
  unfold mayI at hm
  split at hm
  · rename_i hk
    rcases hk with rfl | rfl
    · exact count_1 h
    · exact count_7 h
  · split at hm
    · rename_i hk; subst hk; exact count_2 h (of_decide_eq_true hm)
    · split at hm
      · rename_i hk; subst hk; exact count_3 h (of_decide_eq_true hm)
      · split at hm
        · rename_i hk
          rcases hk with rfl | rfl | rfl
          · exact count_4 h
          · exact count_5 h
          · exact count_6 h
        · cases hm
end Go.Proofs.YtfojhmobnedekaaDoor
