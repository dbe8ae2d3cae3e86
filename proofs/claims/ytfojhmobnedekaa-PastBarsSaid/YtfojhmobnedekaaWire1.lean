/- The walks of cmp.Compare and cmp.Or. No condition. -/
import Derived.Test.YtfojhmobnedekaaFate1
import Derived.Test.YtfojhmobnedekaaLies
namespace Go.Proofs.Ytfojhmobnedekaa
open Go.RowKit

/-- How two numbers stand. -/
def cmpI (a b : Int) : Int := if a < b then -1 else if b < a then 1 else 0

theorem isNaN_any {w : World} (a : Int) : Calls Try.prog 126 #[.int .i64 a] w fun e w' => e = .returned (.bool false) ∧ w = w' := by
  go_enter Try.func126, Try.ntmps126
  go_wp2_with fail
  go_ret
  exact ⟨rfl, rfl⟩
set_option maxHeartbeats 1600000 in
set_option maxRecDepth 100000 in
theorem Compare_any {w : World} (a b : Int) : Calls Try.prog 106 #[.int .i64 a, .int .i64 b] w fun e w' => e = .returned (.int .i64 (cmpI a b)) ∧ w = w' := by
  have HN := Lib.hid fun (x : Int) => isNaN_any (w := w) x
  unfold cmpI
  by_cases h1 : a < b
  · rw [if_pos h1]
    have d1 : decide (a < b) = true := decide_eq_true h1
    go_enter Try.func106, Try.ntmps106
    go_wp2_with (go_at_call 126; ((with_reducible refine (HN.out _).mono ?_); rintro e w1 ⟨rfl, rfl⟩))
    go_ret
    exact ⟨rfl, rfl⟩
  · have d1 : decide (a < b) = false := decide_eq_false h1
    rw [if_neg h1]
    by_cases h2 : b < a
    · rw [if_pos h2]
      have d2 : decide (b < a) = true := decide_eq_true h2
      clear h1 h2
      go_enter Try.func106, Try.ntmps106
      go_wp2_with (go_at_call 126; ((with_reducible refine (HN.out _).mono ?_); rintro e w1 ⟨rfl, rfl⟩))
      go_ret
      exact ⟨rfl, rfl⟩
    · rw [if_neg h2]
      have d2 : decide (b < a) = false := decide_eq_false h2
      clear h1 h2
      go_enter Try.func106, Try.ntmps106
      go_wp2_with (go_at_call 126; ((with_reducible refine (HN.out _).mono ?_); rintro e w1 ⟨rfl, rfl⟩))
      go_ret
      exact ⟨rfl, rfl⟩
/-- The first of two that is not nought. -/
def orI (x y : Int) : Int := if x = 0 then y else x
set_option maxHeartbeats 1600000 in
set_option maxRecDepth 100000 in
theorem Or_two {w : World} {g : Nat} {x y : Int} (h0 : w.cell? ⟨g, 0, none⟩ = some (.int .i64 x)) (h1 : w.cell? ⟨g, 1, none⟩ = some (.int .i64 y)) :
    Calls Try.prog 105 #[.slice (some ⟨g, 0, none⟩) (2 : Nat) (2 : Nat)] w fun e w' => e = .returned (.int .i64 (orI x y)) ∧ w = w' := by
  have H0 := Lib.hid h0
  have H1 := Lib.hid h1
  clear h0 h1
  go_enter Try.func105, Try.ntmps105
  go_wp2_with fail
  go_loopw [5, 8] (fun _ i wr => ∃ k : Nat, k ≤ 2 ∧ i = .int .i64 k ∧ w = wr ∧ Hid ((1 ≤ k → x = 0) ∧ (2 ≤ k → y = 0))) (fun _ i _ => 2 - (intOf i).toNat)
  case atStart => exact ⟨0, by omega, rfl, rfl, fun h => absurd h (by omega), fun h => absurd h (by omega)⟩
  case round =>
    obtain ⟨k, hk, rfl, rfl, HK⟩ := hrel
    by_cases hk1 : k < 2
    · obtain ⟨u, hu, hc⟩ : ∃ u : Int, Hid (u = if k = 0 then x else y) ∧ w.cell? ⟨g, k, none⟩ = some (.int .i64 u) := by
        by_cases e : k = 0
        · subst e; exact ⟨x, by show x = _; rw [if_pos rfl], H0.out⟩
        · obtain rfl : k = 1 := by omega
          exact ⟨y, by show y = _; rw [if_neg (by omega)], H1.out⟩
      have dk : decide ((k : Int) < 2) = true := by simp; omega
      by_cases h : u = 0
      · subst h
        have HK2 := Lib.hid (show (1 ≤ k + 1 → x = 0) ∧ (2 ≤ k + 1 → y = 0) from by
          have h1 := hu.out
          by_cases e : k = 0
          · rw [if_pos e] at h1; exact ⟨fun _ => h1.symm, fun h => absurd h (by omega)⟩
          · rw [if_neg e] at h1; exact ⟨fun _ => HK.out.1 (by omega), fun _ => h1.symm⟩)
        clear hu HK
        go_wp2_with fail
        go_roundw
        case rel => exact ⟨k + 1, by omega, by go_num, trivial, HK2⟩
        case measure => simp [intOf]; omega
      · have e1 : (u == 0) = false := by simp [h]
        have e2 : decide (u = 0) = false := decide_eq_false h
        have hor : orI x y = u := by
          have h1 := hu.out
          unfold orI
          by_cases e : k = 0
          · rw [if_pos e] at h1; rw [if_neg (by rw [← h1]; exact h), h1]
          · rw [if_neg e] at h1; rw [if_pos (HK.out.1 (by omega)), h1]
        have HO := Lib.hid hor
        clear hu HK hor
        go_wp2_with fail
        go_ret
        exact ⟨by rw [HO.out]; rfl, rfl⟩
    · obtain rfl : k = 2 := by omega
      have hor : orI x y = 0 := by
        unfold orI
        rw [if_pos (HK.out.1 (by omega))]; exact HK.out.2 (by omega)
      have HO := Lib.hid hor
      clear hor
      go_wp2_with fail
      go_ret
      exact ⟨by rw [HO.out]; rfl, rfl⟩
end Go.Proofs.Ytfojhmobnedekaa
