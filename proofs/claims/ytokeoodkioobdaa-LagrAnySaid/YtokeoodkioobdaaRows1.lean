/- The walks of rows' wide and Right, and of the reference's columns and Right. Conditions: there are at most 100000 rows. -/
import Derived.Test.YtokeoodkioobdaaGrid
namespace Go.Proofs.Ytokeoodkioobdaa
open Go.RowKit

/-- How many columns there are, by the first row. -/
def colsX (N : Nat) (X : Nat → List Nat) : Nat := if N = 0 then 0 else (X 0).length
/-- Rows that are alike long. -/
def Uni (N : Nat) (X : Nat → List Nat) : Prop := ∀ k, k < N → (X k).length = colsX N X
instance (N : Nat) (X : Nat → List Nat) : Decidable (Uni N X) := Nat.decidableBallLT N fun k _ => (X k).length = colsX N X
/-- A matrix. -/
def isM (N : Nat) (X : Nat → List Nat) : Prop := N ≤ 255 ∧ colsX N X ≤ 255 ∧ Uni N X
instance (N : Nat) (X : Nat → List Nat) : Decidable (isM N X) := by unfold isM; infer_instance
def wideX (N : Nat) (X : Nat → List Nat) : Int := if Uni N X then colsX N X else -1

set_option maxHeartbeats 1600000 in
set_option maxRecDepth 100000 in
theorem wide_any {w : World} {a : Option Addr} {N c : Nat} {X : Nat → List Nat} (hN : N ≤ 100000) (h : RR w (.slice a N c) N X) : Calls Try.prog 100 #[.slice a N c] w fun e w' => e = .returned (.int .i64 (wideX N X)) ∧ w = w' := by
  have H := Lib.hid h
  clear h
  go_enter Try.func100, Try.ntmps100
  go_wp2_with fail
  go_loopw [3, 8] (fun n i wr => ∃ k : Nat, k ≤ N ∧ i = .int .i64 k ∧ n = .int .i64 (if k = 0 then 0 else ((X 0).length : Int)) ∧ Hid (∀ j, j < k → (X j).length = (X 0).length) ∧ w = wr) (fun _ i _ => N - (intOf i).toNat)
  case atStart => exact ⟨0, by omega, rfl, rfl, fun j hj => absurd hj (Nat.not_lt_zero _), rfl⟩
  case round =>
    obtain ⟨k, hk, rfl, rfl, HU, rfl⟩ := hrel
    by_cases hk1 : k < N
    · have d3 : ((k : Int) < (N : Int)) := by omega
      obtain ⟨a', c', e, hX⟩ := H.out.shape
      injection e with e1 e2 e3
      subst e1; subst e3
      obtain ⟨b1, o1, a1, n1, c1, rfl, hc1, hr1⟩ := hX k hk1
      have hl := hr1.len
      have hm := hr1.most
      clear hX hr1
      by_cases k0 : k = 0
      · subst k0
        have q : decide ((0 : Int) < (N : Int)) = true := by simp; omega
        have q' : (0 : Int) < (N : Int) := by omega
        rw [if_pos rfl]
        rw [Nat.add_zero] at hc1
        have hfin : Hid (∀ j, j < 1 → (X j).length = (X 0).length) := fun j hj => by obtain rfl : j = 0 := by omega
                                                                                     rfl
        have HF := Lib.hid hfin
        have HL := Lib.hid hl
        clear hl hfin
        simp only [show ((0 : Nat) : Int) = 0 from rfl] at *
        go_wp2_with fail
        go_roundw
        case rel => exact ⟨1, by omega, rfl, (by rw [if_neg (by decide), HL.out]), HF.out, trivial⟩
        case measure => simp [intOf]; omega
      · have q0 : ((k : Int) == 0) = false := by simp; omega
        rw [if_neg k0]
        by_cases e : n1 = (X 0).length
        · have hfin : Hid (∀ j, j < k + 1 → (X j).length = (X 0).length) := fun j hj => by
            by_cases e2 : j = k
            · subst e2; omega
            · exact HU.out j (by omega)
          have q1 : ((n1 : Int) != ((X 0).length : Int)) = false := by simp; omega
          have HL := Lib.hid e
          clear e hl
          generalize (X 0).length = z at *
          go_wp2_with fail
          go_roundw
          case rel => exact ⟨k + 1, by omega, by go_num, (by rw [if_neg (by omega)]), hfin, trivial⟩
          case measure => simp [intOf]; omega
        · have q1 : ((n1 : Int) != ((X 0).length : Int)) = true := by simp; omega
          have hno : ¬ Uni N X := fun hu => by
            have h1 := hu k hk1
            unfold colsX at h1
            rw [if_neg (by omega)] at h1
            omega
          have hw : wideX N X = -1 := if_neg hno
          have HW := Lib.hid hw
          clear hno hw e hl
          generalize (X 0).length = z at *
          go_wp2_with fail
          go_ret
          exact ⟨by rw [HW.out]; rfl, rfl⟩
    · obtain rfl : k = N := by omega
      have hw : wideX k X = if k = 0 then 0 else ((X 0).length : Int) := by
        unfold wideX
        have hc : colsX k X = if k = 0 then 0 else (X 0).length := rfl
        rw [if_pos (show Uni k X from fun j hj => by rw [hc, if_neg (by omega)]; exact HU.out j hj), hc]
        split <;> rfl
      have HW := Lib.hid hw
      clear hw
      generalize (if k = 0 then 0 else ((X 0).length : Int)) = z at *
      go_wp2_with fail
      go_ret
      exact ⟨by rw [HW.out]; rfl, rfl⟩

theorem columns_any {w : World} {a : Option Addr} {N c : Nat} {X : Nat → List Nat} (hN : N ≤ 100000) (h : RR w (.slice a N c) N X) : Calls Try.prog 105 #[.slice a N c] w fun e w' => e = .returned (.int .i64 (colsX N X)) ∧ w = w' := by
  obtain ⟨a', c', e, hX⟩ := h.shape
  injection e with e1 e2 e3
  subst e1; subst e3
  by_cases hn : N = 0
  · subst hn
    go_enter Try.func105, Try.ntmps105
    go_wp2_with fail
    go_ret
    exact ⟨rfl, rfl⟩
  · obtain ⟨b1, o1, a1, n1, c1, rfl, hc1, hr1⟩ := hX 0 (by omega)
    rw [Nat.add_zero] at hc1
    have q : ((N : Int) == 0) = false := by simp; omega
    have q' : (0 : Int) < (N : Int) := by omega
    have q'' : 0 < N := by omega
    have HL := Lib.hid hr1.len
    clear hX hr1
    go_enter Try.func105, Try.ntmps105
    go_wp2_with fail
    go_ret
    exact ⟨by unfold colsX; rw [if_neg hn, HL.out]; rfl, rfl⟩

set_option maxRecDepth 100000 in
/-- Right of rows. -/
theorem Right_any {w : World} {a : Option Addr} {N c : Nat} {X : Nat → List Nat} (hN : N ≤ 100000) (h : RR w (.slice a N c) N X) : Calls Try.prog 80 #[.slice a N c] w fun e w' => e = .returned (.bool (decide (isM N X))) ∧ w = w' := by
  have hw := wide_any hN h
  have HW := Lib.hid hw
  have hc0 : (colsX N X : Int) < 9223372036854775808 := by
    unfold colsX
    split
    · decide
    · obtain ⟨a', c', e, hX⟩ := h.shape
      obtain ⟨_, _, _, _, _, _, _, hr⟩ := hX 0 (by omega)
      have := hr.most
      have := hr.len
      omega
  clear hw h
  by_cases hm : isM N X
  · obtain ⟨h1, h2, h3⟩ := hm
    have e : wideX N X = colsX N X := if_pos h3
    rw [e] at HW
    rw [decide_eq_true (show isM N X from ⟨h1, h2, h3⟩)]
    clear e h3
    generalize colsX N X = z at *
    have q1 : decide ((N : Int) ≤ 255) = true := by simp; omega
    have q2 : decide ((0 : Int) ≤ (z : Int)) = true := by simp
    have q3 : decide ((z : Int) ≤ 255) = true := by simp; omega
    go_enter Try.func80, Try.ntmps80
    go_wp2_with (go_at_call 100; refine HW.out.mono ?_; rintro e w' ⟨rfl, rfl⟩)
    go_ret
    exact ⟨rfl, rfl⟩
  · rw [decide_eq_false hm]
    by_cases h3 : Uni N X
    · have e : wideX N X = colsX N X := if_pos h3
      rw [e] at HW
      have hno : ¬ (N ≤ 255 ∧ colsX N X ≤ 255) := fun ⟨h1, h2⟩ => hm ⟨h1, h2, h3⟩
      clear e h3 hm
      generalize colsX N X = z at *
      by_cases h1 : N ≤ 255
      · have q1 : decide ((N : Int) ≤ 255) = true := by simp; omega
        have q2 : decide ((0 : Int) ≤ (z : Int)) = true := by simp
        have q3 : decide ((z : Int) ≤ 255) = false := by simp; omega
        clear hno
        go_enter Try.func80, Try.ntmps80
        go_wp2_with (go_at_call 100; refine HW.out.mono ?_; rintro e w' ⟨rfl, rfl⟩)
        go_ret
        exact ⟨rfl, rfl⟩
      · have q1 : decide ((N : Int) ≤ 255) = false := by simp; omega
        clear hno
        go_enter Try.func80, Try.ntmps80
        go_wp2_with (go_at_call 100; refine HW.out.mono ?_; rintro e w' ⟨rfl, rfl⟩)
        go_ret
        exact ⟨rfl, rfl⟩
    · have e : wideX N X = -1 := if_neg h3
      rw [e] at HW
      clear e h3 hm
      by_cases h1 : N ≤ 255
      · have q1 : decide ((N : Int) ≤ 255) = true := by simp; omega
        go_enter Try.func80, Try.ntmps80
        go_wp2_with (go_at_call 100; refine HW.out.mono ?_; rintro e w' ⟨rfl, rfl⟩)
        go_ret
        exact ⟨rfl, rfl⟩
      · have q1 : decide ((N : Int) ≤ 255) = false := by simp; omega
        go_enter Try.func80, Try.ntmps80
        go_wp2_with (go_at_call 100; refine HW.out.mono ?_; rintro e w' ⟨rfl, rfl⟩)
        go_ret
        exact ⟨rfl, rfl⟩
end Go.Proofs.Ytokeoodkioobdaa
