/- The walk of the law FateTurns. Conditions: the row's place. -/
import Derived.Test.YtfojhmobnedekaaFate9
namespace Go.Proofs.Ytfojhmobnedekaa
open Go.RowKit

theorem turn_rd {w : World} {a : Option Addr} {n c : Nat} {l : List Nat} {bit : Int} (h : RB w a n c l) (hb1 : bit ≤ 9223372036854775807) :
    Calls Try.prog 18 #[.slice a n c, .int .i64 bit] w fun e w' => ∃ a' c', e = .returned (.slice a' n c') ∧ RB w' a' n c' (Fm.turnI l bit) ∧ Below w.heap.size w w' := by
  refine (turn_any h hb1).mono ?_
  rintro e w' ⟨v, rfl, ho, hB⟩
  obtain ⟨a', c', rfl⟩ := own_slice ho
  exact ⟨a', c', rfl, own_rb2 ho (fun i => Fm.turnI_small h.small bit i) h.most, hB⟩
theorem same_rd {w : World} {a b : Option Addr} {n m c d : Nat} {x y : List Nat} {t : Bool} (hx : RB w a n c x) (hy : RB w b m d y) (ht : decide (x = y) = t) :
    Calls Try.prog 19 #[.slice a n c, .slice b m d] w fun e w' => e = .returned (.bool t) ∧ Below w.heap.size w w' := by
  refine (same_any hx hy).mono ?_
  rintro e w' ⟨rfl, q, rfl⟩
  exact ⟨by rw [ht], below_drewN (Below.refl _ _) _⟩

set_option maxHeartbeats 1600000 in
set_option maxRecDepth 100000 in
theorem turns_great {w : World} {a : Option Addr} {n c : Nat} {x y : Int} (h : 3000 < n ∨ (n ≤ 3000 ∧ x < 0) ∨ (n ≤ 3000 ∧ 0 ≤ x ∧ y < 0) ∨ (n ≤ 3000 ∧ 0 ≤ x ∧ 0 ≤ y ∧ 1099511627776 < x) ∨ (n ≤ 3000 ∧ 0 ≤ x ∧ 0 ≤ y ∧ x ≤ 1099511627776 ∧ 1099511627776 < y)) :
    Calls Try.prog 5 #[.slice a n c, .int .i64 x, .int .i64 y] w fun e w' => e = .returned (.bool true) ∧ Below w.heap.size w w' := by
  have H14 := Lib.hid (awake_any w)
  rcases h with h | ⟨h1, h⟩ | ⟨h1, h2, h⟩ | ⟨h1, h2, h3, h⟩ | ⟨h1, h2, h3, h4, h⟩
  · have d1 : decide ((3000 : Int) < (n : Int)) = true := by simp; omega
    clear h
    go_enter Try.func5, Try.ntmps5
    go_wp2_with fail
    refine H14.out.mono ?_
    rintro e w1 ⟨rfl, hB1⟩
    have HB1 := Lib.hid hB1
    clear hB1
    go_wp2_with fail
    go_ret
    exact ⟨rfl, HB1.out⟩
  all_goals
    have d1 : decide ((3000 : Int) < (n : Int)) = false := by simp; omega
    go_enter Try.func5, Try.ntmps5
    go_wp2_with fail
    refine H14.out.mono ?_
    rintro e w1 ⟨rfl, hB1⟩
    have HB1 := Lib.hid hB1
    clear hB1
    go_wp2_with fail
    go_ret
    exact ⟨rfl, HB1.out⟩

set_option maxHeartbeats 6000000 in
set_option maxRecDepth 100000 in
theorem turns_small {w : World} {a : Option Addr} {n c : Nat} {l : List Nat} {x y : Int} (h : RB w a n c l) (hn : n ≤ 3000) (hx0 : 0 ≤ x) (hy0 : 0 ≤ y) (hx1 : x ≤ 1099511627776) (hy1 : y ≤ 1099511627776) :
    Calls Try.prog 5 #[.slice a n c, .int .i64 x, .int .i64 y] w fun e w' => e = .returned (.bool true) ∧ Below w.heap.size w w' := by
  have d1 : decide ((3000 : Int) < (n : Int)) = false := by simp; omega
  have hl := h.len
  have hs := h.small
  have t1 : decide (Fm.turnI (Fm.turnI l x) y = Fm.turnI (Fm.turnI l y) x) = true := decide_eq_true (Fm.turnI_comm l hx0 hy0)
  have t2 : decide (Fm.turnI (Fm.turnI l x) (x + 8 * (n : Int)) = l) = true := decide_eq_true (by rw [← hl]; exact Fm.turnI_round hs hx0)
  have t4 : decide (Fm.turnI l (-1 - x) = l) = true := decide_eq_true (Fm.turnI_neg l (by omega))
  have HT := Lib.hid (And.intro t1 (And.intro t2 t4))
  have H14 := Lib.hid (awake_any w)
  have H := Lib.hid h
  have hxw : IntKind.i64.wrap (x + 8 * (n : Int)) = x + 8 * (n : Int) := IntWalk.i64_in _ (by omega)
  have hmx : IntKind.i64.wrap (-1 - x) = -1 - x := IntWalk.i64_in _ (by omega)
  have H3 : Hid ((0 < n → decide (Fm.turnI l x = l) = false)) := fun h0 => decide_eq_false (Fm.turnI_ne hs (fun e => by rw [e] at hl; simp at hl; omega) hx0)
  clear h t1 t2 t4 hl hs
  go_enter Try.func5, Try.ntmps5
  go_wp2_with fail
  refine H14.out.mono ?_
  rintro e w1 ⟨rfl, hB1⟩
  have HB1 := Lib.hid hB1
  have HR1 := Lib.hid (H.out.below hB1)
  clear hB1 H14
  have k2 := Lib.hid (turn_rd (bit := x) HR1.out (by omega))
  go_wp2_with fail
  refine k2.out.mono ?_
  rintro e w2 ⟨a2, c2, rfl, hr2, hB2⟩
  have HR2 := Lib.hid (HR1.out.below hB2)
  have HB2 := Lib.hid (HB1.out.trans (hB2.mono HB1.out.size))
  have k3 := Lib.hid (turn_rd (bit := y) hr2 (by omega))
  clear k2 hr2 hB2 HB1 HR1
  go_wp2_with fail
  refine k3.out.mono ?_
  rintro e w3 ⟨a3, c3, rfl, hr3, hB3⟩
  have HA3 := Lib.hid hr3
  have HR3 := Lib.hid (HR2.out.below hB3)
  have HB3 := Lib.hid (HB2.out.trans (hB3.mono HB2.out.size))
  have k4 := Lib.hid (turn_rd (bit := y) HR3.out (by omega))
  clear k3 hr3 hB3 HB2 HR2
  go_wp2_with fail
  refine k4.out.mono ?_
  rintro e w4 ⟨a4, c4, rfl, hr4, hB4⟩
  have HA4 := Lib.hid (HA3.out.below hB4)
  have HR4 := Lib.hid (HR3.out.below hB4)
  have HB4 := Lib.hid (HB3.out.trans (hB4.mono HB3.out.size))
  have k5 := Lib.hid (turn_rd (bit := x) hr4 (by omega))
  clear k4 hr4 hB4 HB3 HR3 HA3
  go_wp2_with fail
  refine k5.out.mono ?_
  rintro e w5 ⟨a5, c5, rfl, hr5, hB5⟩
  have HA5 := Lib.hid (HA4.out.below hB5)
  have HC5 := Lib.hid hr5
  have HR5 := Lib.hid (HR4.out.below hB5)
  have HB5 := Lib.hid (HB4.out.trans (hB5.mono HB4.out.size))
  have k6 := Lib.hid (turn_rd (bit := x) HR5.out (by omega))
  clear k5 hr5 hB5 HB4 HR4 HA4
  go_wp2_with fail
  refine k6.out.mono ?_
  rintro e w6 ⟨a6, c6, rfl, hr6, hB6⟩
  have HA6 := Lib.hid (HA5.out.below hB6)
  have HC6 := Lib.hid (HC5.out.below hB6)
  have HR6 := Lib.hid (HR5.out.below hB6)
  have HB6 := Lib.hid (HB5.out.trans (hB6.mono HB5.out.size))
  have k7 := Lib.hid (turn_rd (bit := x + 8 * (n : Int)) hr6 (by omega))
  clear k6 hr6 hB6 HB5 HR5 HA5 HC5
  go_wp2_with fail
  refine k7.out.mono ?_
  rintro e w7 ⟨a7, c7, rfl, hr7, hB7⟩
  have HR7 := Lib.hid (HR6.out.below hB7)
  have HB7 := Lib.hid (HB6.out.trans (hB7.mono HB6.out.size))
  have HD7 := Lib.hid hr7
  have k8 := Lib.hid (same_rd (HA6.out.below hB7) (HC6.out.below hB7) HT.out.1)
  clear k7 hr7 hB7 HB6 HR6 HA6 HC6
  go_wp2_with fail
  refine k8.out.mono ?_
  rintro e w8 ⟨rfl, hB8⟩
  have HR8 := Lib.hid (HR7.out.below hB8)
  have HB8 := Lib.hid (HB7.out.trans (hB8.mono HB7.out.size))
  have k9 := Lib.hid (same_rd (HD7.out.below hB8) HR8.out HT.out.2.1)
  clear k8 hB8 HB7 HR7 HD7
  go_wp2_with fail
  refine k9.out.mono ?_
  rintro e w9 ⟨rfl, hB9⟩
  have HR9 := Lib.hid (HR8.out.below hB9)
  have HB9 := Lib.hid (HB8.out.trans (hB9.mono HB8.out.size))
  clear k9 hB9 HB8 HR8
  by_cases h0 : n = 0
  · have d2 : ((n : Int) == 0) = true := by simp; omega
    have k12 := Lib.hid (turn_rd (bit := -1 - x) HR9.out (by omega))
    clear h0
    go_wp2_with fail
    refine k12.out.mono ?_
    rintro e w12 ⟨a12, c12, rfl, hr12, hB12⟩
    have HR12 := Lib.hid (HR9.out.below hB12)
    have HB12 := Lib.hid (HB9.out.trans (hB12.mono HB9.out.size))
    have k13 := Lib.hid (same_rd hr12 HR12.out HT.out.2.2)
    clear k12 hr12 hB12 HB9 HR9
    go_wp2_with fail
    refine k13.out.mono ?_
    rintro e w13 ⟨rfl, hB13⟩
    have HB13 := Lib.hid (HB12.out.trans (hB13.mono HB12.out.size))
    clear k13 hB13
    go_wp2_with fail
    go_ret
    exact ⟨rfl, HB13.out⟩
  · have d2 : ((n : Int) == 0) = false := by simp; omega
    have hne := H3.out (by omega)
    have HNE := Lib.hid hne
    have k10 := Lib.hid (turn_rd (bit := x) HR9.out (by omega))
    clear h0 hne H3
    go_wp2_with fail
    refine k10.out.mono ?_
    rintro e w10 ⟨a10, c10, rfl, hr10, hB10⟩
    have HR10 := Lib.hid (HR9.out.below hB10)
    have HB10 := Lib.hid (HB9.out.trans (hB10.mono HB9.out.size))
    have k11 := Lib.hid (same_rd hr10 HR10.out HNE.out)
    clear k10 hr10 hB10 HB9 HR9
    go_wp2_with fail
    refine k11.out.mono ?_
    rintro e w11 ⟨rfl, hB11⟩
    have HR11 := Lib.hid (HR10.out.below hB11)
    have HB11 := Lib.hid (HB10.out.trans (hB11.mono HB10.out.size))
    have k12 := Lib.hid (turn_rd (bit := -1 - x) HR11.out (by omega))
    clear k11 hB11 HB10 HR10
    go_wp2_with fail
    refine k12.out.mono ?_
    rintro e w12 ⟨a12, c12, rfl, hr12, hB12⟩
    have HR12 := Lib.hid (HR11.out.below hB12)
    have HB12 := Lib.hid (HB11.out.trans (hB12.mono HB11.out.size))
    have k13 := Lib.hid (same_rd hr12 HR12.out HT.out.2.2)
    clear k12 hr12 hB12 HB11 HR11
    go_wp2_with fail
    refine k13.out.mono ?_
    rintro e w13 ⟨rfl, hB13⟩
    have HB13 := Lib.hid (HB12.out.trans (hB13.mono HB12.out.size))
    clear k13 hB13
    go_wp2_with fail
    go_ret
    exact ⟨rfl, HB13.out⟩
end Go.Proofs.Ytfojhmobnedekaa
