/- The walks of the Lagrange law's awake and of LagrOnes. Conditions: rows are shorter than 2 to the 47. -/
import Derived.Test.YtokeoodkioobdaaLagr4
import Derived.Deep.AppendLies
namespace Go.Proofs.Ytokeoodkioobdaa
open Go.RowKit

theorem two_rb (w : World) (x y : Nat) (hx : x < 256) (hy : y < 256) : RB (w.alloc (.cells #[.int .u8 (x : Nat), .int .u8 (y : Nat)] 5)) (some ⟨w.heap.size, 0, none⟩) 2 2 [x, y] :=
  RB.of_block (l := [x, y]) (m := []) (heap_alloc_new _ _) (Small.of_mem (by simp; omega)) (Nat.le_refl _) (by omega)
theorem wts_awake : wts [0, 1] 2 2 = [3, 2] := by kernel_rfl
theorem lval_awake : lval [0, 1] [5, 5] 2 2 = 5 := by kernel_rfl
theorem nodup_awake : [0, 1].Nodup := by decide

set_option maxHeartbeats 800000 in
set_option maxRecDepth 100000 in
theorem awake4 (w : World) : Calls Try.prog 48 #[] w fun e w' => e = .returned (.bool true) ∧ Below w.heap.size w w' := by
  have h1 : Calls Try.prog 49 #[.slice (some ⟨w.heap.size, 0, none⟩) 2 2, .int .u8 2] (w.alloc (.cells #[.int .u8 0, .int .u8 1] 5)) fun e w' => ∃ g, e = .returned (.tuple #[.slice (some ⟨g, 0, none⟩) 2 2, .int .i64 0]) ∧ RB w' (some ⟨g, 0, none⟩) 2 2 [3, 2] ∧ Below w.heap.size w w' := by
    refine (Weights_ok (t := 2) (by omega) (two_rb w 0 1 (by omega) (by omega)) nodup_awake).mono ?_
    rintro e w1 ⟨g, rfl, hg, hh, hB⟩
    refine ⟨g, rfl, ?_, ((Below.refl _ _).alloc (Nat.le_refl _) _).trans (hB.mono (by simp))⟩
    have := weights_rb hh (by omega)
    rw [wts_awake] at this
    exact this
  have h2 : ∀ w2 : World, Calls Try.prog 53 #[.slice (some ⟨w2.heap.size, 0, none⟩) 2 2, .slice (some ⟨w2.heap.size + 1, 0, none⟩) 2 2, .int .u8 2] ((w2.alloc (.cells #[.int .u8 0, .int .u8 1] 5)).alloc (.cells #[.int .u8 5, .int .u8 5] 5)) fun e w' => e = .returned (.tuple #[.int .u8 5, .int .i64 0]) ∧ Below w2.heap.size w2 w' := fun w2 => by
    have hv := two_rb (w2.alloc (.cells #[.int .u8 0, .int .u8 1] 5)) 5 5 (by omega) (by omega)
    rw [show (w2.alloc (.cells #[.int .u8 0, .int .u8 1] 5)).heap.size = w2.heap.size + 1 from by simp] at hv
    have := Value_ok (t := 2) (by omega) ((two_rb w2 0 1 (by omega) (by omega)).alloc (.cells #[.int .u8 5, .int .u8 5] 5)) hv nodup_awake
    rw [lval_awake] at this
    refine this.mono ?_
    rintro e w1 ⟨rfl, hB⟩
    exact ⟨rfl, (((Below.refl _ _).alloc (Nat.le_refl _) _).alloc (by simp) _).trans (hB.mono (by simp; omega))⟩
  have h3 : ∀ (w5 : World) (g : Nat), RB w5 (some ⟨g, 0, none⟩) 2 2 [3, 2] → Calls Try.prog 44 #[.slice (some ⟨g, 0, none⟩) 2 2, .slice (some ⟨w5.heap.size, 0, none⟩) 2 2] (w5.alloc (.cells #[.int .u8 3, .int .u8 2] 5)) fun e w' => e = .returned (.bool true) ∧ Below w5.heap.size w5 w' := fun w5 g h => by
    refine (same_any (h.alloc _) (two_rb w5 3 2 (by omega) (by omega))).mono ?_
    rintro e w1 ⟨rfl, q, rfl⟩
    exact ⟨rfl, below_drewN ((Below.refl _ _).alloc (Nat.le_refl _) _) _⟩
  have H1 := Lib.hid h1
  have H2 := Lib.hid h2
  have H3 := Lib.hid h3
  clear h1 h2 h3
  go_enter Try.func48, Try.ntmps48
  go_wp2_with (first
    | (go_at_call 49; ((with_reducible refine H1.out.mono ?_); rintro e w1 ⟨g, rfl, hh, hB⟩; have HB1 := Lib.hid hB; have HH := Lib.hid hh; clear hB hh))
    | (go_at_call 53; ((with_reducible refine (H2.out _).mono ?_); rintro e w2 ⟨rfl, hB⟩; have HB2 := Lib.hid hB; have HH2 := Lib.hid (HH.out.below hB); clear hB))
    | (go_at_call 44; ((with_reducible refine (H3.out _ _ HH2.out).mono ?_); rintro e w3 ⟨rfl, hB⟩; have HB3 := Lib.hid hB; clear hB)))
  go_ret
  exact ⟨rfl, HB1.out.trans ((HB2.out.trans (HB3.out.mono HB2.out.size)).mono HB1.out.size)⟩
end Go.Proofs.Ytokeoodkioobdaa
