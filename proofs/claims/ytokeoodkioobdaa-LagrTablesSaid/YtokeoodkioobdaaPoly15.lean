/- The walk of the law PolyThrough: true, and nothing that was there has turned. Conditions: rows are shorter than 2 to the 47. -/
import Derived.Test.YtokeoodkioobdaaPr5
import Derived.Test.YtokeoodkioobdaaPoly14
import Derived.Test.YtokeoodkioobdaaLaw5
namespace Go.Proofs.Ytokeoodkioobdaa
open Go.RowKit

set_option maxHeartbeats 1600000 in
set_option maxRecDepth 100000 in
theorem through_great {w : World} {a b : Option Addr} {n m c d : Nat} {x y : List Nat} (hx : RB w a n c x) (hy : RB w b m d y) (h : 80 < n + m) :
    Calls Try.prog 8 #[.slice a n c, .slice b m d] w fun e w' => e = .returned (.bool true) ∧ Below w.heap.size w w' := by
  have hm1 := hx.most
  have hm2 := hy.most
  have hd : decide ((80 : Int) < (n : Int) + (m : Int)) = true := by simp; omega
  clear hx hy
  go_enter Try.func8, Try.ntmps8
  go_wp2_with (go_at_call 41; ((with_reducible refine (awake2 _).mono ?_); rintro e w3 ⟨rfl, hB3⟩; have HB3 := Lib.hid hB3; clear hB3))
  go_ret
  exact ⟨rfl, HB3.out⟩

/-- What both Throughs hand back. -/
def ThrGive (w0 w' : World) (B : Nat) (res : List Nat) (er : Int) (e : Ending) : Prop := ∃ a n c, e = .returned (.tuple #[.slice a n c, .int .i64 er]) ∧ Hid (RB w' a n c res) ∧ Hid (Below B w0 w')
theorem give_nil {w w' : World} {er : Int} {e : Ending} (he : e = .returned (.tuple #[.slice none 0 0, .int .i64 er])) (hB : Below w.heap.size w w') : ThrGive w w' w.heap.size [] er e :=
  ⟨none, 0, 0, he, ⟨rfl, Nat.le_refl _, by omega, Small.nil, fun _ => rfl, fun i hi => absurd hi (by omega)⟩, hB⟩
theorem give_own {w w' : World} {er : Int} {e : Ending} {v : Value} {res : List Nat} (he : e = .returned (.tuple #[v, .int .i64 er])) (ho : w'.ownsRow w.heap.size 5 1 v res.length (bs res)) (hs : Small res) (hl : res.length ≤ 140737488351232) (hB : Below w.heap.size w w') : ThrGive w w' w.heap.size res er e := by
  obtain ⟨a, c, rfl, hr⟩ := own_rb ho hs hl
  exact ⟨a, _, c, he, hr, hB⟩
theorem through_both {n m : Nat} {x y : List Nat} (hxl : x.length = n) (hyl : y.length = m) (hn : n ≤ 1000) : ∃ (res : List Nat) (er : Int), (∀ (w : World) (a b : Option Addr) (c d : Nat), RB w a n c x → RB w b m d y → Calls Try.prog 42 #[.slice a n c, .slice b m d] w fun e w' => ThrGive w w' w.heap.size res er e) ∧
    (∀ (w : World) (a b : Option Addr) (c d : Nat), RB w a n c x → RB w b m d y → Calls Try.prog 43 #[.slice a n c, .slice b m d] w fun e w' => ThrGive w w' w.heap.size res er e) := by
  by_cases hnm : n = m
  · subst hnm
    by_cases hd : x.Nodup
    · refine ⟨lean (rto x y n), 0, fun w a b c d hx hy => ?_, fun w a b c d hx hy => ?_⟩
      · have e : lean (rto x y n) = lean (thr x y n).1 := by rw [← hxl]; exact (through_ref hx.small hy.small hd).symm
        rw [e]
        have hl := thr_len x y n
        have hlb : (lean (thr x y n).1).length ≤ 140737488351232 := by rw [length_lean]; have := ln_le (thr x y n).1 (thr x y n).1.length; omega
        exact (Through_ok hx hy hd hn).mono fun e w' ⟨v, he, ho, hB⟩ => give_own he ho (lean_small (thr_small hy.small n).1) hlb hB
      · have hl := rto_len x y n (by omega)
        have hlb : (lean (rto x y n)).length ≤ 140737488351232 := by rw [length_lean]; have := ln_le (rto x y n) (rto x y n).length; omega
        exact (rThrough_ok hx hy hd hn).mono fun e w' ⟨v, he, ho, hB⟩ => give_own he ho (lean_small (rto_small hy.small n)) hlb hB
    · exact ⟨[], 9, fun w a b c d hx _ => (Through_twice hx hd).mono fun e w' ⟨he, hB⟩ => give_nil he hB, fun w a b c d hx _ => (rThrough_twice hx hd).mono fun e w' ⟨he, hB⟩ => give_nil he hB⟩
  · exact ⟨[], 2, fun w a b c d _ _ => (Through_arg hnm).mono fun e w' ⟨he, hB⟩ => give_nil he hB, fun w a b c d _ _ => (rThrough_arg hnm).mono fun e w' ⟨he, hB⟩ => give_nil he hB⟩

set_option maxHeartbeats 3200000 in
set_option maxRecDepth 100000 in
theorem through_small {w : World} {a b : Option Addr} {n m c d : Nat} {x y : List Nat} (hx : RB w a n c x) (hy : RB w b m d y) (h : n + m ≤ 80) :
    Calls Try.prog 8 #[.slice a n c, .slice b m d] w fun e w' => e = .returned (.bool true) ∧ Below w.heap.size w w' := by
  have hd : decide ((80 : Int) < (n : Int) + (m : Int)) = false := by simp; omega
  obtain ⟨res, er, hc1, hc2⟩ := through_both hx.len hy.len (by omega : n ≤ 1000)
  have HC1 := Lib.hid hc1
  have HC2 := Lib.hid hc2
  have HX := Lib.hid hx
  have HY := Lib.hid hy
  clear hx hy hc1 hc2
  go_enter Try.func8, Try.ntmps8
  go_wp2_with fail
  refine (lent_any HX.out).mono ?_
  rintro e w1 ⟨g1, rfl, hg1, hL1, hB1⟩
  have HB1 := Lib.hid hB1
  have HL1 := Lib.hid hL1
  clear hB1 hL1
  go_wp2_with fail
  refine (lent_any (HY.out.below HB1.out)).mono ?_
  rintro e w2 ⟨g2, rfl, hg2, hL2, hB2⟩
  have l1 : LentAt w2 g1 x := LentAt.below HL1.out hB2 (LentAt.lt HL1.out)
  have l2 : LentAt w2 g2 y := hL2
  have r1 : RB w2 a n c x := (HX.out.below HB1.out).below hB2
  have r2 : RB w2 b m d y := (HY.out.below HB1.out).below hB2
  have hB : Below w.heap.size w w2 := HB1.out.trans (hB2.mono HB1.out.size)
  have s1 : RB w2 (some ⟨g1, 0, none⟩) n (n + 12) x := by have := l1.rb r1.small (by rw [r1.len]; omega); rw [r1.len] at this; exact this
  have s2 : RB w2 (some ⟨g2, 0, none⟩) m (m + 12) y := by have := l2.rb r2.small (by rw [r2.len]; omega); rw [r2.len] at this; exact this
  have H42 := Lib.hid (HC1.out _ _ _ _ _ s1 s2)
  have L1 := Lib.hid l1
  have L2 := Lib.hid l2
  have R1 := Lib.hid r1
  have R2 := Lib.hid r2
  have HB := Lib.hid hB
  clear l1 l2 r1 r2 s1 s2 hB HB1 HL1 hB2 hL2
  go_wp2_with fail
  refine H42.out.mono ?_
  rintro e w3 ⟨a3, n3, c3, rfl, hr3, hB3⟩
  have H43 := Lib.hid (HC2.out _ _ _ _ _ (R1.out.below hB3.out) (R2.out.below hB3.out))
  go_wp2_with fail
  refine H43.out.mono ?_
  rintro e w4 ⟨a4, n4, c4, rfl, hr4, hB4⟩
  have hb24 : Below w2.heap.size w2 w4 := hB3.out.trans (hB4.out.mono hB3.out.size)
  have h44 : Calls Try.prog 44 #[.slice a3 n3 c3, .slice a4 n4 c4] w4 fun e w' => e = .returned (.bool true) ∧ ∃ q, w' = w4.drewN q := (same_any (hr3.out.below hB4.out) hr4.out).mono fun e w' ⟨h1, h2⟩ => ⟨by rw [h1]; simp, h2⟩
  have H44 := Lib.hid h44
  have K1 := Lib.hid (L1.out.below hb24 L1.out.lt)
  have K2 := Lib.hid (L2.out.below hb24 L2.out.lt)
  have Q1 := Lib.hid (R1.out.below hb24)
  have Q2 := Lib.hid (R2.out.below hb24)
  have HB4 := Lib.hid (HB.out.trans (hb24.mono HB.out.size))
  clear hb24 h44
  go_wp2_with (first
    | (go_at_call 44; ((with_reducible refine H44.out.mono ?_); rintro e w' ⟨rfl, q, rfl⟩))
    | (go_at_call 30; ((with_reducible refine (kept_any (Q1.out.drewN _) (K1.out.drewN _)).mono ?_); rintro e w' ⟨rfl, q, rfl⟩))
    | (go_at_call 30; ((with_reducible refine (kept_any (Q2.out.drewN _) (K2.out.drewN _)).mono ?_); rintro e w' ⟨rfl, q, rfl⟩))
    | (go_at_call 41; ((with_reducible refine (awake2 _).mono ?_); rintro e w6 ⟨rfl, hB6⟩; have HB6 := Lib.hid hB6; clear hB6)))
  go_ret
  exact ⟨rfl, (below_drewN HB4.out _).trans (HB6.out.mono HB4.out.size)⟩
end Go.Proofs.Ytokeoodkioobdaa
