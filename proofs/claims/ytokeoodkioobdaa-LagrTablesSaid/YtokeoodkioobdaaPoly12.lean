/- The walk of poly's Div. Conditions: rows are shorter than 2 to the 47. -/
import Derived.Test.YtokeoodkioobdaaPoly11
namespace Go.Proofs.Ytokeoodkioobdaa
open Go.RowKit

theorem div99 {w : World} {p : Nat} {a b : Option Addr} {n c m d : Nat} {x y : List Nat} (hf : IsF w p) (hx : RB w a n c x) (hy : RB w b m d y) (hy0 : 0 < ln y m) (hl : ln x n ≤ 1000000) :
    Calls Try.prog 99 #[.agg #[.pointer (some ⟨p, 0, none⟩)], .slice a n c, .slice b m d] w fun e w' => ∃ u v : Value, e = .returned (.tuple #[u, v]) ∧
      w'.ownsRow w.heap.size 5 1 u (lean (dvAll x y m).1).length (bs (lean (dvAll x y m).1)) ∧ w'.ownsRow w.heap.size 5 1 v (lean (dvAll x y m).2).length (bs (lean (dvAll x y m).2)) ∧ (∀ g, u.ownBlock = some g → v.ownBlock ≠ some g) ∧ Below w.heap.size w w' :=
  (callsIn_wide (n := 3)).1 (div_in 3 (Nat.le_refl _) hf hx hy hy0 hl)

set_option maxHeartbeats 800000 in
set_option maxRecDepth 100000 in
theorem Div_long {w : World} {a b : Option Addr} {n c m d : Nat} {x y : List Nat} (hx : RB w a n c x) (hy : RB w b m d y) (h : 600 < ln x n ∨ 600 < ln y m) :
    Calls Try.prog 58 #[.slice a n c, .slice b m d] w fun e w' => e = .returned (.tuple #[.slice none 0 0, .slice none 0 0, .int .i64 3]) ∧ Below w.heap.size w w' := by
  by_cases h1 : 600 < ln x n
  · have H1 := Lib.hid (long_is hx h1)
    clear hx hy h h1
    go_enter Try.func58, Try.ntmps58
    go_wp2_with (go_at_call 98; ((with_reducible refine H1.out.mono ?_); rintro e w1 ⟨rfl, hB⟩; have HB := Lib.hid hB; clear hB))
    go_ret3
    exact ⟨rfl, HB.out⟩
  · have h2 : 600 < ln y m := by omega
    have H1 := Lib.hid (long_not hx (by omega))
    have HY := Lib.hid hy
    have H2 := Lib.hid h2
    clear hx hy h h1 h2
    go_enter Try.func58, Try.ntmps58
    go_wp2_with fail
    refine H1.out.mono ?_
    rintro e w1 ⟨rfl, hB⟩
    have h3 := long_is (HY.out.below hB) H2.out
    have H3 := Lib.hid h3
    have HB := Lib.hid hB
    clear hB h3
    go_wp2_with fail
    refine H3.out.mono ?_
    rintro e w2 ⟨rfl, hB2⟩
    have HB2 := Lib.hid hB2
    clear hB2
    go_wp2_with fail
    go_ret3
    exact ⟨rfl, HB.out.trans (HB2.out.mono HB.out.size)⟩

set_option maxHeartbeats 1600000 in
set_option maxRecDepth 100000 in
theorem Div_zero {w : World} {a b : Option Addr} {n c m d : Nat} {x y : List Nat} (hx : RB w a n c x) (hy : RB w b m d y) (h1 : ln x n ≤ 600) (h2 : ln y m = 0) :
    Calls Try.prog 58 #[.slice a n c, .slice b m d] w fun e w' => e = .returned (.tuple #[.slice none 0 0, .slice none 0 0, .int .i64 6]) ∧ Below w.heap.size w w' := by
  have H1 := Lib.hid (long_not hx h1)
  have HY := Lib.hid hy
  have K2 := Lib.hid h2
  clear hx hy h1 h2
  go_enter Try.func58, Try.ntmps58
  go_wp2_with fail
  refine H1.out.mono ?_
  rintro e w1 ⟨rfl, hB⟩
  have H3 := Lib.hid (long_not (HY.out.below hB) (by rw [K2.out]; omega))
  have HB := Lib.hid hB
  clear hB
  go_wp2_with fail
  refine H3.out.mono ?_
  rintro e w2 ⟨rfl, hB2⟩
  have hB2 := HB.out.trans (hB2.mono HB.out.size)
  have HB2 := Lib.hid hB2
  have hd := degree_any (HY.out.below hB2)
  rw [K2.out, show ((0 : Nat) : Int) - 1 = -1 from rfl] at hd
  have HD := Lib.hid hd
  clear hB2 hd
  go_wp2_with fail
  refine HD.out.mono ?_
  rintro e w3 ⟨rfl, hB3⟩
  have HB3 := Lib.hid hB3
  clear hB3
  go_wp2_with fail
  go_ret3
  exact ⟨rfl, HB2.out.trans (HB3.out.mono HB2.out.size)⟩

set_option maxHeartbeats 1600000 in
set_option maxRecDepth 100000 in
theorem Div_ok {w : World} {a b : Option Addr} {n c m d : Nat} {x y : List Nat} (hx : RB w a n c x) (hy : RB w b m d y) (h1 : ln x n ≤ 600) (h2 : ln y m ≤ 600) (h3 : 0 < ln y m) :
    Calls Try.prog 58 #[.slice a n c, .slice b m d] w fun e w' => ∃ u v : Value, e = .returned (.tuple #[u, v, .int .i64 0]) ∧
      w'.ownsRow w.heap.size 5 1 u (lean (dvAll x y m).1).length (bs (lean (dvAll x y m).1)) ∧ w'.ownsRow w.heap.size 5 1 v (lean (dvAll x y m).2).length (bs (lean (dvAll x y m).2)) ∧ (∀ g, u.ownBlock = some g → v.ownBlock ≠ some g) ∧ Below w.heap.size w w' := by
  have H1 := Lib.hid (long_not hx h1)
  have HX := Lib.hid hx
  have HY := Lib.hid hy
  have K1 := Lib.hid h1
  have K2 := Lib.hid h2
  have K3 := Lib.hid h3
  clear hx hy h1 h2 h3
  go_enter Try.func58, Try.ntmps58
  go_wp2_with fail
  refine H1.out.mono ?_
  rintro e w1 ⟨rfl, hB⟩
  have H3 := Lib.hid (long_not (HY.out.below hB) K2.out)
  have HB := Lib.hid hB
  clear hB
  go_wp2_with fail
  refine H3.out.mono ?_
  rintro e w2 ⟨rfl, hB2⟩
  have hB2 := HB.out.trans (hB2.mono HB.out.size)
  have HB2 := Lib.hid hB2
  obtain ⟨k, hk⟩ : ∃ k, k + 1 = ln y m := ⟨ln y m - 1, by have := K3.out; omega⟩
  have hd := degree_any (HY.out.below hB2)
  rw [← hk, show ((k + 1 : Nat) : Int) - 1 = (k : Int) from by omega] at hd
  have HD := Lib.hid hd
  have hk0 : ¬ (k : Int) < 0 := by omega
  clear hB2 hd hk
  go_wp2_with fail
  refine HD.out.mono ?_
  rintro e w3 ⟨rfl, hB3⟩
  have hB3 := HB2.out.trans (hB3.mono HB2.out.size)
  have HB3 := Lib.hid hB3
  clear hB3
  go_wp2_with fail
  refine (new_any _).mono ?_
  rintro e w4 ⟨p, rfl, hp, hf, hB4⟩
  have hB4 := HB3.out.trans (hB4.mono HB3.out.size)
  have h99 := div99 hf (HX.out.below hB4) (HY.out.below hB4) K3.out (Nat.le_trans K1.out (by omega))
  have HB4 := Lib.hid hB4
  have H99 := Lib.hid h99
  clear hB4 hf h99
  go_wp2_with fail
  refine H99.out.mono ?_
  rintro e w5 ⟨u, v, rfl, hu, hv, hne, hB5⟩
  have HU := Lib.hid (own_mono hu HB4.out.size)
  have HV := Lib.hid (own_mono hv HB4.out.size)
  have HN := Lib.hid hne
  have HB5 := Lib.hid (HB4.out.trans (hB5.mono HB4.out.size))
  clear hu hv hne hB5
  go_wp2_with fail
  go_ret3
  exact ⟨_, _, rfl, HU.out, HV.out, HN.out, HB5.out⟩
end Go.Proofs.Ytokeoodkioobdaa
