/- The walk of poly's Mul. Conditions: rows are shorter than 2 to the 47. -/
import Derived.Test.YtokeoodkioobdaaPoly8
namespace Go.Proofs.Ytokeoodkioobdaa
open Go.RowKit

theorem long_is {w : World} {a : Option Addr} {len cap : Nat} {zs : List Nat} (hI : RB w a len cap zs) (h : 600 < ln zs len) :
    Calls Try.prog 98 #[.slice a len cap] w fun e W' => e = .returned (.bool true) ∧ Below w.heap.size w W' := (long_any hI).mono fun e w' ⟨h1, h2⟩ => ⟨by rw [h1, decide_eq_true h], h2⟩
theorem long_not {w : World} {a : Option Addr} {len cap : Nat} {zs : List Nat} (hI : RB w a len cap zs) (h : ln zs len ≤ 600) :
    Calls Try.prog 98 #[.slice a len cap] w fun e W' => e = .returned (.bool false) ∧ Below w.heap.size w W' := (long_any hI).mono fun e w' ⟨h1, h2⟩ => ⟨by rw [h1, decide_eq_false (by omega)], h2⟩

set_option maxHeartbeats 800000 in
set_option maxRecDepth 100000 in
theorem Mul_long {w : World} {a b : Option Addr} {n c m d : Nat} {x y : List Nat} (hx : RB w a n c x) (hy : RB w b m d y) (h : 600 < ln x n ∨ 600 < ln y m) :
    Calls Try.prog 57 #[.slice a n c, .slice b m d] w fun e w' => e = .returned (.tuple #[.slice none 0 0, .int .i64 3]) ∧ Below w.heap.size w w' := by
  by_cases h1 : 600 < ln x n
  · have H1 := Lib.hid (long_is hx h1)
    clear hx hy h h1
    go_enter Try.func57, Try.ntmps57
    go_wp2_with (go_at_call 98; ((with_reducible refine H1.out.mono ?_); rintro e w1 ⟨rfl, hB⟩; have HB := Lib.hid hB; clear hB))
    go_ret2
    exact ⟨rfl, HB.out⟩
  · have h2 : 600 < ln y m := by omega
    have H1 := Lib.hid (long_not hx (by omega))
    have HY := Lib.hid hy
    have H2 := Lib.hid h2
    clear hx hy h h1 h2
    go_enter Try.func57, Try.ntmps57
    go_wp2_with fail
    refine H1.out.mono ?_
    rintro e w1 ⟨rfl, hB⟩
    have h3 := long_is (HY.out.below hB) H2.out
    have H3 := Lib.hid h3
    have HB := Lib.hid hB
    clear hB h3
    go_wp2_with fail
    refine H3.out.mono ?_
    rintro e w2 ⟨rfl, hB2⟩
    have HB2 := Lib.hid hB2
    clear hB2
    go_wp2_with fail
    go_ret2
    exact ⟨rfl, HB.out.trans (HB2.out.mono HB.out.size)⟩

set_option maxHeartbeats 1600000 in
set_option maxRecDepth 100000 in
theorem Mul_ok {w : World} {a b : Option Addr} {n c m d : Nat} {x y : List Nat} (hx : RB w a n c x) (hy : RB w b m d y) (h1 : ln x n ≤ 600) (h2 : ln y m ≤ 600) :
    Calls Try.prog 57 #[.slice a n c, .slice b m d] w fun e w' => ∃ v, e = .returned (.tuple #[v, .int .i64 0]) ∧ w'.ownsRow w.heap.size 5 1 v (mul2 (lean x) (lean y) 2).length (bs (mul2 (lean x) (lean y) 2)) ∧ Below w.heap.size w w' := by
  have H1 := Lib.hid (long_not hx h1)
  have HX := Lib.hid hx
  have HY := Lib.hid hy
  have K1 := Lib.hid h1
  have K2 := Lib.hid h2
  clear hx hy h1 h2
  go_enter Try.func57, Try.ntmps57
  go_wp2_with fail
  refine H1.out.mono ?_
  rintro e w1 ⟨rfl, hB⟩
  have h3 := long_not (HY.out.below hB) K2.out
  have H3 := Lib.hid h3
  have HB := Lib.hid hB
  clear hB h3
  go_wp2_with fail
  refine H3.out.mono ?_
  rintro e w2 ⟨rfl, hB2⟩
  have hB2 := HB.out.trans (hB2.mono HB.out.size)
  have HB2 := Lib.hid hB2
  clear hB2
  go_wp2_with fail
  refine (new_any _).mono ?_
  rintro e w3 ⟨p, rfl, hp, hf, hB3⟩
  have hB3 := HB2.out.trans (hB3.mono HB2.out.size)
  have HB3 := Lib.hid hB3
  have HF := Lib.hid hf
  clear hB3 hf
  go_wp2_with fail
  refine (Lean_any (HX.out.below HB3.out)).mono ?_
  rintro e w4 ⟨v4, rfl, hown4, hB4⟩
  have hl1 : (lean x).length ≤ 600 := by rw [length_lean, HX.out.len]; exact K1.out
  obtain ⟨a4, c4, rfl, hr4⟩ := own_rb hown4 (lean_small HX.out.small) (by omega)
  have hf4 := HF.out.below hB4 HF.out.lt
  have hB4 := HB3.out.trans (hB4.mono HB3.out.size)
  have HB4 := Lib.hid hB4
  have HR4 := Lib.hid hr4
  have HF4 := Lib.hid hf4
  clear hown4 hB4 hr4 hf4
  go_wp2_with fail
  refine (Lean_any (HY.out.below HB4.out)).mono ?_
  rintro e w5 ⟨v5, rfl, hown5, hB5⟩
  have hl2 : (lean y).length ≤ 600 := by rw [length_lean, HY.out.len]; exact K2.out
  obtain ⟨a5, c5, rfl, hr5⟩ := own_rb hown5 (lean_small HY.out.small) (by omega)
  have hf5 := HF4.out.below hB5 HF4.out.lt
  have hr4 := HR4.out.below hB5
  have hB5 := HB4.out.trans (hB5.mono HB4.out.size)
  have h90 := mul90 (w := w5.alloc (.cells #[.slice a4 (lean x).length c4, .slice a5 (lean y).length c5] 31)) (hf5.below ((Below.refl _ _).alloc (Nat.le_refl _) _) hf5.lt) (heap_alloc_new _ _) (hr4.alloc _) (hr5.alloc _) (by omega)
  have HB5 := Lib.hid hB5
  have H90 := Lib.hid h90
  clear hown5 hB5 hr5 hf5 hr4 h90
  go_wp2_with fail
  refine H90.out.mono ?_
  rintro e w6 ⟨v6, rfl, hown6, hB6⟩
  have hB6 := HB5.out.trans (((Below.refl _ _).alloc (Nat.le_refl _) _).trans (hB6.mono (by simp)) |>.mono HB5.out.size)
  have hown6 := own_mono (B' := w.heap.size) hown6 (by simp; exact Nat.le_succ_of_le HB5.out.size)
  have HB6 := Lib.hid hB6
  have HO6 := Lib.hid hown6
  clear hB6 hown6
  go_wp2_with fail
  go_ret2
  exact ⟨_, rfl, HO6.out, HB6.out⟩
end Go.Proofs.Ytokeoodkioobdaa
