/- The walks of the document's stat: add, May, And, Of; the law's theirs and ref. Conditions: rows are shorter than 2 to the 47. -/
import Derived.Test.YtfojhmobnedekaaDoorS2
namespace Go.Proofs.YtfojhmobnedekaaDoor
open Go.RowKit

set_option maxRecDepth 100000 in
theorem radd_any (a b : Int) (w : World) : Calls Tryd.prog 24 #[.int .i64 a, .int .i64 b] w fun e w' => e = .returned (.int .i64 (ad a b)) ∧ w = w' := by
  have hw := ad_wrap a b
  unfold ad hl at *
  go_enter Tryd.func24, Tryd.ntmps24
  go_wp2_with fail
  all_goals
    go_ret
    exact ⟨congrArg (fun z => Ending.returned (Value.int .i64 z)) (by omega), rfl⟩
set_option maxRecDepth 100000 in
set_option maxHeartbeats 1600000 in
theorem rmay_any (k n : Int) (w : World) : Calls Tryd.prog 12 #[.agg #[.int .i64 k, .int .i64 n]] w fun e w' => e = .returned (.bool (mayI k n)) ∧ Below w.heap.size w w' := by
  have hB : Below w.heap.size w (w.alloc (.cells #[.int .i64 k, .int .i64 n] 37)) := (Below.refl _ _).alloc (Nat.le_refl _) _
  have HB := Lib.hid hB
  clear hB
  unfold mayI
  rcases Classical.em (k = 1 ∨ k = 7) with k1 | k1
  · rw [if_pos k1]
    rcases k1 with rfl | rfl
    all_goals
      by_cases h1 : 0 ≤ n
      · by_cases h2 : n ≤ 2147483647
        · have d1 : decide (0 ≤ n) = true := decide_eq_true h1
          have d2 : decide (n ≤ 2147483647) = true := decide_eq_true h2
          rw [show decide (0 ≤ n ∧ n ≤ 2147483647) = true from decide_eq_true ⟨h1, h2⟩]
          go_enter Tryd.func12, Tryd.ntmps12
          go_wp2_with fail
          go_ret
          exact ⟨rfl, HB.out⟩
        · have d1 : decide (0 ≤ n) = true := decide_eq_true h1
          have d2 : decide (n ≤ 2147483647) = false := decide_eq_false h2
          rw [show decide (0 ≤ n ∧ n ≤ 2147483647) = false from decide_eq_false (fun h => h2 h.2)]
          go_enter Tryd.func12, Tryd.ntmps12
          go_wp2_with fail
          go_ret
          exact ⟨rfl, HB.out⟩
      · have d1 : decide (0 ≤ n) = false := decide_eq_false h1
        rw [show decide (0 ≤ n ∧ n ≤ 2147483647) = false from decide_eq_false (fun h => h1 h.1)]
        go_enter Tryd.func12, Tryd.ntmps12
        go_wp2_with fail
        go_ret
        exact ⟨rfl, HB.out⟩
  rw [if_neg k1]
  have k1' : k ≠ 1 := fun e => k1 (.inl e)
  have k7' : k ≠ 7 := fun e => k1 (.inr e)
  have q1 : (k == 1) = false := by simp [k1']
  have q7 : (k == 7) = false := by simp [k7']
  rcases Classical.em (k = 2) with rfl | k2
  · rw [if_pos rfl]
    clear k1 k1' k7' q1 q7
    by_cases h1 : 1 ≤ n
    · by_cases h2 : n ≤ 7
      · have d1 : decide (1 ≤ n) = true := decide_eq_true h1
        have d2 : decide (n ≤ 7) = true := decide_eq_true h2
        rw [show decide (1 ≤ n ∧ n ≤ 7) = true from decide_eq_true ⟨h1, h2⟩]
        go_enter Tryd.func12, Tryd.ntmps12
        go_wp2_with fail
        go_ret
        exact ⟨rfl, HB.out⟩
      · have d1 : decide (1 ≤ n) = true := decide_eq_true h1
        have d2 : decide (n ≤ 7) = false := decide_eq_false h2
        rw [show decide (1 ≤ n ∧ n ≤ 7) = false from decide_eq_false (fun h => h2 h.2)]
        go_enter Tryd.func12, Tryd.ntmps12
        go_wp2_with fail
        go_ret
        exact ⟨rfl, HB.out⟩
    · have d1 : decide (1 ≤ n) = false := decide_eq_false h1
      rw [show decide (1 ≤ n ∧ n ≤ 7) = false from decide_eq_false (fun h => h1 h.1)]
      go_enter Tryd.func12, Tryd.ntmps12
      go_wp2_with fail
      go_ret
      exact ⟨rfl, HB.out⟩
  have q2 : (k == 2) = false := by simp [k2]
  rw [if_neg k2]
  rcases Classical.em (k = 3) with rfl | k3
  · rw [if_pos rfl]
    clear k1 k1' k7' q1 q7 k2 q2
    by_cases h1 : 1 ≤ n
    · by_cases h2 : n ≤ 3
      · have d1 : decide (1 ≤ n) = true := decide_eq_true h1
        have d2 : decide (n ≤ 3) = true := decide_eq_true h2
        rw [show decide (1 ≤ n ∧ n ≤ 3) = true from decide_eq_true ⟨h1, h2⟩]
        go_enter Tryd.func12, Tryd.ntmps12
        go_wp2_with fail
        go_ret
        exact ⟨rfl, HB.out⟩
      · have d1 : decide (1 ≤ n) = true := decide_eq_true h1
        have d2 : decide (n ≤ 3) = false := decide_eq_false h2
        rw [show decide (1 ≤ n ∧ n ≤ 3) = false from decide_eq_false (fun h => h2 h.2)]
        go_enter Tryd.func12, Tryd.ntmps12
        go_wp2_with fail
        go_ret
        exact ⟨rfl, HB.out⟩
    · have d1 : decide (1 ≤ n) = false := decide_eq_false h1
      rw [show decide (1 ≤ n ∧ n ≤ 3) = false from decide_eq_false (fun h => h1 h.1)]
      go_enter Tryd.func12, Tryd.ntmps12
      go_wp2_with fail
      go_ret
      exact ⟨rfl, HB.out⟩
  have q3 : (k == 3) = false := by simp [k3]
  rw [if_neg k3]
  by_cases k4 : 4 ≤ k
  · by_cases k6 : k ≤ 6
    · rw [if_pos (by omega)]
      have d4 : decide (4 ≤ k) = true := decide_eq_true k4
      have d6 : decide (k ≤ 6) = true := decide_eq_true k6
      rw [show decide (n = 0) = (n == 0) from rfl]
      generalize hn : (n == 0) = t at *
      clear k1 k1' k7' k2 k3
      go_enter Tryd.func12, Tryd.ntmps12
      go_wp2_with fail
      go_ret
      exact ⟨rfl, HB.out⟩
    · rw [if_neg (by omega)]
      have d4 : decide (4 ≤ k) = true := decide_eq_true k4
      have d6 : decide (k ≤ 6) = false := decide_eq_false k6
      clear k1 k1' k7' k2 k3
      go_enter Tryd.func12, Tryd.ntmps12
      go_wp2_with fail
      go_ret
      exact ⟨rfl, HB.out⟩
  · rw [if_neg (by omega)]
    have d4 : decide (4 ≤ k) = false := decide_eq_false k4
    clear k1 k1' k7' k2 k3
    go_enter Tryd.func12, Tryd.ntmps12
    go_wp2_with fail
    go_ret
    exact ⟨rfl, HB.out⟩
end Go.Proofs.YtfojhmobnedekaaDoor
