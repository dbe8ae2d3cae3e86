/- The walk of the polynomials' law's awake. No condition. -/
import Derived.Test.YtokeoodkioobdaaPoly13
import Derived.Test.YtokeoodkioobdaaLagr5
namespace Go.Proofs.Ytokeoodkioobdaa
open Go.RowKit

theorem thr_awake : lean (thr [0, 1] [5, 5] 2).1 = [5] := by kernel_rfl
theorem vl_awake : vl [1, 0, 3] 2 = 13 := by kernel_rfl
theorem three_rb (w : World) (x y z : Nat) (hx : x < 256) (hy : y < 256) (hz : z < 256) : RB (w.alloc (.cells #[.int .u8 (x : Nat), .int .u8 (y : Nat), .int .u8 (z : Nat)] 5)) (some ⟨w.heap.size, 0, none⟩) 3 3 [x, y, z] :=
  RB.of_block (l := [x, y, z]) (m := []) (heap_alloc_new _ _) (Small.of_mem (by simp; omega)) (Nat.le_refl _) (by omega)
theorem one_rb (w : World) (x : Nat) (hx : x < 256) : RB (w.alloc (.cells #[.int .u8 (x : Nat)] 5)) (some ⟨w.heap.size, 0, none⟩) 1 1 [x] :=
  RB.of_block (l := [x]) (m := []) (heap_alloc_new _ _) (Small.of_mem (by simp; omega)) (Nat.le_refl _) (by omega)

set_option maxHeartbeats 800000 in
set_option maxRecDepth 100000 in
theorem awake2 (w : World) : Calls Try.prog 41 #[] w fun e w' => e = .returned (.bool true) ∧ Below w.heap.size w w' := by
  have h1 : Calls Try.prog 42 #[.slice (some ⟨w.heap.size, 0, none⟩) 2 2, .slice (some ⟨w.heap.size + 1, 0, none⟩) 2 2] ((w.alloc (.cells #[.int .u8 0, .int .u8 1] 5)).alloc (.cells #[.int .u8 5, .int .u8 5] 5)) fun e w' => ∃ a c, e = .returned (.tuple #[.slice a (1 : Nat) c, .int .i64 0]) ∧ RB w' a 1 c [5] ∧ Below w.heap.size w w' := by
    have hv := two_rb (w.alloc (.cells #[.int .u8 0, .int .u8 1] 5)) 5 5 (by omega) (by omega)
    rw [show (w.alloc (.cells #[.int .u8 0, .int .u8 1] 5)).heap.size = w.heap.size + 1 from by simp] at hv
    have := Through_ok ((two_rb w 0 1 (by omega) (by omega)).alloc (.cells #[.int .u8 5, .int .u8 5] 5)) hv nodup_awake (by omega)
    rw [thr_awake] at this
    refine this.mono ?_
    rintro e w1 ⟨v, rfl, ho, hB⟩
    obtain ⟨a, c, rfl, hr⟩ := own_rb ho (Small.of_mem (by simp)) (by simp)
    exact ⟨a, c, rfl, hr, (((Below.refl _ _).alloc (Nat.le_refl _) _).alloc (by simp) _).trans (hB.mono (by simp; omega))⟩
  have h2 : ∀ w2 : World, Calls Try.prog 45 #[.slice (some ⟨w2.heap.size, 0, none⟩) 3 3, .int .u8 2] (w2.alloc (.cells #[.int .u8 1, .int .u8 0, .int .u8 3] 5)) fun e w' => e = .returned (.int .u8 13) ∧ Below w2.heap.size w2 w' := fun w2 => by
    have := Value_any (x := 2) (by omega) (three_rb w2 1 0 3 (by omega) (by omega) (by omega))
    rw [show hval [1, 0, 3] 2 (dn 3 3) = 13 from vl_awake] at this
    refine this.mono ?_
    rintro e w1 ⟨rfl, hB⟩
    exact ⟨rfl, ((Below.refl _ _).alloc (Nat.le_refl _) _).trans (hB.mono (by simp))⟩
  have h3 : ∀ (w5 : World) (a : Option Addr) (c : Nat), RB w5 a 1 c [5] → Calls Try.prog 44 #[.slice a (1 : Nat) c, .slice (some ⟨w5.heap.size, 0, none⟩) 1 1] (w5.alloc (.cells #[.int .u8 5] 5)) fun e w' => e = .returned (.bool true) ∧ Below w5.heap.size w5 w' := fun w5 a c h => by
    refine (same_any (h.alloc _) (one_rb w5 5 (by omega))).mono ?_
    rintro e w1 ⟨rfl, q, rfl⟩
    exact ⟨rfl, below_drewN ((Below.refl _ _).alloc (Nat.le_refl _) _) _⟩
  have H1 := Lib.hid h1
  have H2 := Lib.hid h2
  have H3 := Lib.hid h3
  clear h1 h2 h3
  go_enter Try.func41, Try.ntmps41
  go_wp2_with (first
    | (go_at_call 42; ((with_reducible refine H1.out.mono ?_); rintro e w1 ⟨a, c, rfl, hh, hB⟩; have HB1 := Lib.hid hB; have HH := Lib.hid hh; clear hB hh))
    | (go_at_call 45; ((with_reducible refine (H2.out _).mono ?_); rintro e w2 ⟨rfl, hB⟩; have HB2 := Lib.hid hB; have HH2 := Lib.hid (HH.out.below hB); clear hB))
    | (go_at_call 44; ((with_reducible refine (H3.out _ _ _ HH2.out).mono ?_); rintro e w3 ⟨rfl, hB⟩; have HB3 := Lib.hid hB; clear hB)))
  go_ret
  exact ⟨rfl, HB1.out.trans ((HB2.out.trans (HB3.out.mono HB2.out.size)).mono HB1.out.size)⟩
end Go.Proofs.Ytokeoodkioobdaa
