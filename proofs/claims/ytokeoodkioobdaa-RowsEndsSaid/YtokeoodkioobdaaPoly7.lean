/- The walk of poly's long. Conditions: rows are shorter than 2 to the 47. -/
import Derived.Test.YtokeoodkioobdaaPoly6
namespace Go.Proofs.Ytokeoodkioobdaa
open Go.RowKit

set_option maxHeartbeats 800000 in
set_option maxRecDepth 100000 in
theorem long_any {w : World} {a : Option Addr} {len cap : Nat} {zs : List Nat} (hI : RB w a len cap zs) :
    Calls Try.prog 98 #[.slice a len cap] w fun e W' => e = .returned (.bool (decide (600 < ln zs len))) ∧ Below w.heap.size w W' := by
  have hd := degree_any hI
  obtain ⟨k, hk⟩ : ∃ k, k = ln zs len := ⟨_, rfl⟩
  rw [← hk] at hd ⊢
  have HD := Lib.hid hd
  clear hd hk hI
  go_enter Try.func98, Try.ntmps98
  go_wp2_with (go_at_call 92; ((with_reducible refine HD.out.mono ?_); rintro e w1 ⟨rfl, hB⟩; have HB := Lib.hid hB; clear hB))
  go_ret
  exact ⟨ret_bool (by rw [Bool.eq_iff_iff]; simp; omega), HB.out⟩
end Go.Proofs.Ytokeoodkioobdaa
