/- The walks of fate's and the reference's within, rules, Right. Conditions: numbers fit int. -/
import Derived.Test.YtfojhmobnedekaaOwn
import Derived.Test.YtfojhmobnedekaaFateM
import Derived.Laws.EntriesVeiled
namespace Go.Proofs.Ytfojhmobnedekaa
open Go.RowKit

set_option maxHeartbeats 800000 in
theorem within_any (n l m : Int) (w : World) : Calls Try.prog 59 #[.int .i64 n, .int .i64 l, .int .i64 m] w fun e w' => e = .returned (.bool (decide (l ≤ n ∧ n ≤ m))) ∧ w = w' := by
  by_cases h1 : l ≤ n
  · by_cases h2 : n ≤ m
    · rw [decide_eq_true (And.intro h1 h2)]
      go_enter Try.func59, Try.ntmps59
      go_wp2_with fail
      go_ret
      exact ⟨rfl, rfl⟩
    · rw [decide_eq_false (fun h => h2 h.2)]
      go_enter Try.func59, Try.ntmps59
      go_wp2_with fail
      go_ret
      exact ⟨rfl, rfl⟩
  · rw [decide_eq_false (fun h => h1 h.1)]
    go_enter Try.func59, Try.ntmps59
    go_wp2_with fail
    go_ret
    exact ⟨rfl, rfl⟩
set_option maxHeartbeats 800000 in
theorem rwithin_any (n l m : Int) (w : World) : Calls Try.prog 62 #[.int .i64 n, .int .i64 l, .int .i64 m] w fun e w' => e = .returned (.bool (decide (l ≤ n ∧ n ≤ m))) ∧ w = w' := by
  by_cases h1 : l ≤ n
  · by_cases h2 : n ≤ m
    · rw [decide_eq_true (And.intro h1 h2)]
      go_enter Try.func62, Try.ntmps62
      go_wp2_with fail
      go_ret
      exact ⟨rfl, rfl⟩
    · rw [decide_eq_false (fun h => h2 h.2)]
      go_enter Try.func62, Try.ntmps62
      go_wp2_with fail
      go_ret
      exact ⟨rfl, rfl⟩
  · rw [decide_eq_false (fun h => h1 h.1)]
    go_enter Try.func62, Try.ntmps62
    go_wp2_with fail
    go_ret
    exact ⟨rfl, rfl⟩
theorem info114 : (Try.prog.info? 114).map (·.size) = some 8 := by kernel_rfl
set_option maxHeartbeats 800000 in
set_option maxRecDepth 100000 in
/-- The rules of the kinds. -/
theorem rules_any (w : World) : Calls Try.prog 60 #[] w fun e w' => e = .returned (.agg #[.int .i64 0, .func (.func 87) #[] #[], .int .i64 0, .func (.func 88) #[] #[], .int .i64 2000, .func (.func 89) #[] #[], .int .i64 2147483647, .func (.func 90) #[] #[]]) ∧ Below w.heap.size w w' := by
  go_enter Try.func60, Try.ntmps60
  go_wp2_with fail
  have h2 := heap_alloc_new w (.cells #[.int .i64 0, .func (.func 87) #[] #[], .int .i64 0, .func (.func 88) #[] #[], .int .i64 2000, .func (.func 89) #[] #[], .int .i64 2147483647, .func (.func 90) #[] #[]] 114)
  exact bodyPost_ret (v := .agg #[.int .i64 0, .func (.func 87) #[] #[], .int .i64 0, .func (.func 88) #[] #[], .int .i64 2000, .func (.func 89) #[] #[], .int .i64 2147483647, .func (.func 90) #[] #[]]) (results_cell_row rfl _ _ _ _ _ _ _ rfl h2 Try.underlying114 rfl info114) rfl ⟨rfl, (Below.refl _ _).alloc (Nat.le_refl _) _⟩

/-- May a fate be so? -/
def mostF (k : Int) : Int := if k = 2 then 2000 else if k = 3 then 2147483647 else 0
def RightF (k b a p : Int) : Prop := (0 ≤ k ∧ k ≤ 3) ∧ (0 ≤ b ∧ b ≤ 2000) ∧ (0 ≤ a ∧ a ≤ mostF k) ∧ (-2147483647 ≤ p ∧ p ≤ 2147483647)
instance (k b a p : Int) : Decidable (RightF k b a p) := by unfold RightF; infer_instance
def fateV (k b a p : Int) : Value := .agg #[.int .i64 k, .int .i64 b, .int .i64 a, .int .i64 p]

theorem within_is {n l m : Int} {t : Bool} (h : decide (l ≤ n ∧ n ≤ m) = t) (w : World) : Calls Try.prog 59 #[.int .i64 n, .int .i64 l, .int .i64 m] w fun e w' => e = .returned (.bool t) ∧ w = w' := by
  rw [← h]; exact within_any n l m w
theorem rwithin_is {n l m : Int} {t : Bool} (h : decide (l ≤ n ∧ n ≤ m) = t) (w : World) : Calls Try.prog 62 #[.int .i64 n, .int .i64 l, .int .i64 m] w fun e w' => e = .returned (.bool t) ∧ w = w' := by
  rw [← h]; exact rwithin_any n l m w

set_option maxHeartbeats 3200000 in
set_option maxRecDepth 100000 in
/-- Right, where the kind is one: the tests in order. -/
theorem right_kind {k m b a p : Int} {t1 t2 t3 : Bool} (hk : (k = 0 ∧ m = 0) ∨ (k = 1 ∧ m = 0) ∨ (k = 2 ∧ m = 2000) ∨ (k = 3 ∧ m = 2147483647)) (h1 : decide (0 ≤ b ∧ b ≤ 2000) = t1) (h2 : decide (0 ≤ a ∧ a ≤ m) = t2) (h3 : decide (-2147483647 ≤ p ∧ p ≤ 2147483647) = t3) (w : World) :
    Calls Try.prog 23 #[.agg #[.int .i64 k, .int .i64 b, .int .i64 a, .int .i64 p]] w fun e w' => e = .returned (.bool (t1 && t2 && t3)) ∧ Below w.heap.size w w' := by
  have H60 := Lib.hid fun W => rules_any W
  have H0 := Lib.hid fun W => within_is (n := k) (l := 0) (m := 3) (t := true) (by simp; omega) W
  have H1 := Lib.hid fun W => within_is h1 W
  have H2 := Lib.hid fun W => within_is h2 W
  have H3 := Lib.hid fun W => within_is h3 W
  clear h1 h2 h3
  rcases hk with ⟨rfl, rfl⟩ | ⟨rfl, rfl⟩ | ⟨rfl, rfl⟩ | ⟨rfl, rfl⟩
  all_goals
    go_enter Try.func23, Try.ntmps23
    go_wp2_with fail
    refine (H60.out _).mono ?_
    rintro e w1 ⟨rfl, hB1⟩
    have hBw : Below w.heap.size w w1 := ((Below.refl _ _).alloc (Nat.le_refl _) _).trans (hB1.mono (by simp))
    simp only [World.size_alloc] at hB1
    have hbx := (hB1.block w.heap.size (by simp)).trans (heap_alloc_new _ _)
    have hbx2 := (Below.heap_alloc w1 (.cells #[.int .i64 0, .func (.func 87) #[] #[], .int .i64 0, .func (.func 88) #[] #[], .int .i64 2000, .func (.func 89) #[] #[], .int .i64 2147483647, .func (.func 90) #[] #[]] 114) _ (lt_of_block hbx)).trans hbx
    have hr2 := heap_alloc_new w1 (.cells #[.int .i64 0, .func (.func 87) #[] #[], .int .i64 0, .func (.func 88) #[] #[], .int .i64 2000, .func (.func 89) #[] #[], .int .i64 2147483647, .func (.func 90) #[] #[]] 114)
    have HB2 := Lib.hid (hBw.alloc hBw.size (.cells #[.int .i64 0, .func (.func 87) #[] #[], .int .i64 0, .func (.func 88) #[] #[], .int .i64 2000, .func (.func 89) #[] #[], .int .i64 2147483647, .func (.func 90) #[] #[]] 114))
    have c0 := cell_of_block (j := 0) hbx2
    simp only [List.getElem?_toArray, List.getElem?_cons_zero] at c0
    have c1 : (w1.alloc _).cell? ⟨w.heap.size, 1, none⟩ = some (.int .i64 b) := (cell_of_block (j := 1) hbx2).trans rfl
    have c2 : (w1.alloc _).cell? ⟨w.heap.size, 2, none⟩ = some (.int .i64 a) := (cell_of_block (j := 2) hbx2).trans rfl
    have c3 : (w1.alloc _).cell? ⟨w.heap.size, 3, none⟩ = some (.int .i64 p) := (cell_of_block (j := 3) hbx2).trans rfl
    have r0 : (w1.alloc _).cell? ⟨w1.heap.size, 0, none⟩ = some (.int .i64 0) := (cell_of_block (j := 0) hr2).trans rfl
    have r2 : (w1.alloc _).cell? ⟨w1.heap.size, 2, none⟩ = some (.int .i64 0) := (cell_of_block (j := 2) hr2).trans rfl
    have r4 : (w1.alloc _).cell? ⟨w1.heap.size, 4, none⟩ = some (.int .i64 2000) := (cell_of_block (j := 4) hr2).trans rfl
    have r6 : (w1.alloc _).cell? ⟨w1.heap.size, 6, none⟩ = some (.int .i64 2147483647) := (cell_of_block (j := 6) hr2).trans rfl
    clear hB1 hbx hbx2 hr2 hBw H60
    go_wp2_with fail
    generalize w1.alloc (.cells #[.int .i64 0, .func (.func 87) #[] #[], .int .i64 0, .func (.func 88) #[] #[], .int .i64 2000, .func (.func 89) #[] #[], .int .i64 2147483647, .func (.func 90) #[] #[]] 114) = W at *
    refine (H0.out _).mono ?_
    rintro e w2 ⟨rfl, rfl⟩
    cases t1
    · go_wp2_with fail
      go_quiet ((go_at_call 59; first | with_reducible exact quiet_same (H1.out _) | with_reducible exact quiet_same (H2.out _) | with_reducible exact quiet_same (H3.out _)))
      go_wp2_with fail
      go_ret
      exact ⟨rfl, below_drewN HB2.out _⟩
    · cases t2
      · go_wp2_with fail
        go_quiet ((go_at_call 59; first | with_reducible exact quiet_same (H1.out _) | with_reducible exact quiet_same (H2.out _) | with_reducible exact quiet_same (H3.out _)))
        go_wp2_with fail
        go_ret
        exact ⟨rfl, below_drewN HB2.out _⟩
      · cases t3
        · go_wp2_with fail
          go_quiet ((go_at_call 59; first | with_reducible exact quiet_same (H1.out _) | with_reducible exact quiet_same (H2.out _) | with_reducible exact quiet_same (H3.out _)))
          go_wp2_with fail
          go_ret
          exact ⟨rfl, below_drewN HB2.out _⟩
        · go_wp2_with fail
          go_quiet ((go_at_call 59; first | with_reducible exact quiet_same (H1.out _) | with_reducible exact quiet_same (H2.out _) | with_reducible exact quiet_same (H3.out _)))
          go_wp2_with fail
          go_ret
          exact ⟨rfl, below_drewN HB2.out _⟩

theorem right_any (k b a p : Int) (w : World) : Calls Try.prog 23 #[.agg #[.int .i64 k, .int .i64 b, .int .i64 a, .int .i64 p]] w fun e w' => e = .returned (.bool (decide (RightF k b a p))) ∧ Below w.heap.size w w' := by
  by_cases hk : 0 ≤ k ∧ k ≤ 3
  · have hm : (k = 0 ∧ mostF k = 0) ∨ (k = 1 ∧ mostF k = 0) ∨ (k = 2 ∧ mostF k = 2000) ∨ (k = 3 ∧ mostF k = 2147483647) := by
      rcases (show k = 0 ∨ k = 1 ∨ k = 2 ∨ k = 3 by omega) with rfl | rfl | rfl | rfl
      · exact .inl ⟨rfl, rfl⟩
      · exact .inr (.inl ⟨rfl, rfl⟩)
      · exact .inr (.inr (.inl ⟨rfl, rfl⟩))
      · exact .inr (.inr (.inr ⟨rfl, rfl⟩))
    refine (right_kind hm rfl rfl rfl w).mono fun e w' ⟨h1, h2⟩ => ⟨?_, h2⟩
    rw [h1]
    refine congrArg (fun x => Ending.returned (.bool x)) ?_
    unfold RightF
    by_cases hb : 0 ≤ b ∧ b ≤ 2000 <;> by_cases ha : 0 ≤ a ∧ a ≤ mostF k <;> by_cases hp : -2147483647 ≤ p ∧ p ≤ 2147483647 <;> simp [hk, hb, ha, hp]
  · rw [decide_eq_false (fun h => hk h.1)]
    have H60 := Lib.hid fun W => rules_any W
    have H0 := Lib.hid fun W => within_is (n := k) (l := 0) (m := 3) (t := false) (decide_eq_false hk) W
    clear hk
    go_enter Try.func23, Try.ntmps23
    go_wp2_with fail
    refine (H60.out _).mono ?_
    rintro e w1 ⟨rfl, hB1⟩
    have hBw : Below w.heap.size w w1 := ((Below.refl _ _).alloc (Nat.le_refl _) _).trans (hB1.mono (by simp))
    simp only [World.size_alloc] at hB1
    have hbx := (hB1.block w.heap.size (by simp)).trans (heap_alloc_new _ _)
    have hbx2 := (Below.heap_alloc w1 (.cells #[.int .i64 0, .func (.func 87) #[] #[], .int .i64 0, .func (.func 88) #[] #[], .int .i64 2000, .func (.func 89) #[] #[], .int .i64 2147483647, .func (.func 90) #[] #[]] 114) _ (lt_of_block hbx)).trans hbx
    have HB2 := Lib.hid (hBw.alloc hBw.size (.cells #[.int .i64 0, .func (.func 87) #[] #[], .int .i64 0, .func (.func 88) #[] #[], .int .i64 2000, .func (.func 89) #[] #[], .int .i64 2147483647, .func (.func 90) #[] #[]] 114))
    have c0 : (w1.alloc _).cell? ⟨w.heap.size, 0, none⟩ = some (.int .i64 k) := (cell_of_block (j := 0) hbx2).trans rfl
    clear hB1 hbx hbx2 hBw H60
    go_wp2_with fail
    refine (H0.out _).mono ?_
    rintro e w2 ⟨rfl, rfl⟩
    go_wp2_with fail
    go_ret
    exact ⟨rfl, HB2.out⟩
end Go.Proofs.Ytfojhmobnedekaa
