/- The walk of the reference's Right. Conditions: numbers fit int. -/
import Derived.Test.YtfojhmobnedekaaFate3
namespace Go.Proofs.Ytfojhmobnedekaa
open Go.RowKit

set_option maxHeartbeats 3200000 in
set_option maxRecDepth 100000 in
theorem rright_kind {k m b a p : Int} {t1 t2 t3 : Bool} (hk : (k = 0 ∧ m = 0) ∨ (k = 1 ∧ m = 0) ∨ (k = 2 ∧ m = 2000) ∨ (k = 3 ∧ m = 2147483647)) (h1 : decide (0 ≤ b ∧ b ≤ 2000) = t1) (h2 : decide (0 ≤ a ∧ a ≤ m) = t2) (h3 : decide (-2147483647 ≤ p ∧ p ≤ 2147483647) = t3) (w : World) :
    Calls Try.prog 28 #[.agg #[.int .i64 k, .int .i64 b, .int .i64 a, .int .i64 p]] w fun e w' => e = .returned (.bool (t1 && t2 && t3)) ∧ Below w.heap.size w w' := by
  have H1 := Lib.hid fun W => rwithin_is h1 W
  have H2 := Lib.hid fun W => rwithin_is h2 W
  have H3 := Lib.hid fun W => rwithin_is h3 W
  clear h1 h2 h3
  rcases hk with ⟨rfl, rfl⟩ | ⟨rfl, rfl⟩ | ⟨rfl, rfl⟩ | ⟨rfl, rfl⟩
  all_goals
    cases t1
    · go_enter Try.func28, Try.ntmps28
      go_wp2_with fail
      refine (H1.out _).mono ?_
      rintro e w2 ⟨rfl, rfl⟩
      go_wp2_with fail
      go_ret
      exact ⟨rfl, (Below.refl _ _).alloc (Nat.le_refl _) _⟩
    · cases t2
      · go_enter Try.func28, Try.ntmps28
        go_wp2_with fail
        refine (H1.out _).mono ?_
        rintro e w2 ⟨rfl, rfl⟩
        go_wp2_with fail
        refine (H2.out _).mono ?_
        rintro e w2 ⟨rfl, rfl⟩
        go_wp2_with fail
        go_ret
        exact ⟨rfl, (Below.refl _ _).alloc (Nat.le_refl _) _⟩
      · go_enter Try.func28, Try.ntmps28
        go_wp2_with fail
        refine (H1.out _).mono ?_
        rintro e w2 ⟨rfl, rfl⟩
        go_wp2_with fail
        refine (H2.out _).mono ?_
        rintro e w2 ⟨rfl, rfl⟩
        go_wp2_with fail
        refine (H3.out _).mono ?_
        rintro e w2 ⟨rfl, rfl⟩
        cases t3
        · go_wp2_with fail
          go_ret
          exact ⟨rfl, (Below.refl _ _).alloc (Nat.le_refl _) _⟩
        · go_wp2_with fail
          go_ret
          exact ⟨rfl, (Below.refl _ _).alloc (Nat.le_refl _) _⟩
set_option maxHeartbeats 1600000 in
set_option maxRecDepth 100000 in
theorem rright_any (k b a p : Int) (w : World) : Calls Try.prog 28 #[.agg #[.int .i64 k, .int .i64 b, .int .i64 a, .int .i64 p]] w fun e w' => e = .returned (.bool (decide (RightF k b a p))) ∧ Below w.heap.size w w' := by
  by_cases hk : 0 ≤ k ∧ k ≤ 3
  · have hm : (k = 0 ∧ mostF k = 0) ∨ (k = 1 ∧ mostF k = 0) ∨ (k = 2 ∧ mostF k = 2000) ∨ (k = 3 ∧ mostF k = 2147483647) := by
      rcases (show k = 0 ∨ k = 1 ∨ k = 2 ∨ k = 3 by omega) with rfl | rfl | rfl | rfl
      · exact .inl ⟨rfl, rfl⟩
      · exact .inr (.inl ⟨rfl, rfl⟩)
      · exact .inr (.inr (.inl ⟨rfl, rfl⟩))
      · exact .inr (.inr (.inr ⟨rfl, rfl⟩))
    refine (rright_kind hm rfl rfl rfl w).mono fun e w' ⟨h1, h2⟩ => ⟨?_, h2⟩
    rw [h1]
    refine congrArg (fun x => Ending.returned (.bool x)) ?_
    unfold RightF
    by_cases hb : 0 ≤ b ∧ b ≤ 2000 <;> by_cases ha : 0 ≤ a ∧ a ≤ mostF k <;> by_cases hp : -2147483647 ≤ p ∧ p ≤ 2147483647 <;> simp [hk, hb, ha, hp]
  · rw [decide_eq_false (fun h => hk h.1)]
    have k0 : (k == 0) = false := by simp; omega
    have k1 : (k == 1) = false := by simp; omega
    have k2 : (k == 2) = false := by simp; omega
    have k3 : (k == 3) = false := by simp; omega
    clear hk
    go_enter Try.func28, Try.ntmps28
    go_wp2_with fail
    go_ret
    exact ⟨rfl, (Below.refl _ _).alloc (Nat.le_refl _) _⟩
end Go.Proofs.Ytfojhmobnedekaa
