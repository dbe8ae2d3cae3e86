/- The walk of the law FieldDots: true, and nothing that was there has turned. Conditions: rows are shorter than 2 to the 47. -/
import Derived.Test.YtokeoodkioobdaaSame
namespace Go.Proofs.Ytokeoodkioobdaa
open Go.RowKit

theorem LentAt.drewN {w : World} {g : Nat} {l : List Nat} (h : LentAt w g l) (q : Nat) : LentAt (w.drewN q) g l := h

set_option maxHeartbeats 1600000 in
set_option maxRecDepth 100000 in
theorem dots_great {w : World} {a b : Option Addr} {n m c d : Nat} {x y : List Nat} (hx : RB w a n c x) (hy : RB w b m d y) (h : 4000 < n + m) :
    Calls Try.prog 4 #[.slice a n c, .slice b m d] w fun e w' => e = .returned (.bool true) ∧ Below w.heap.size w w' := by
  have hm1 := hx.most
  have hl1 := hx.le
  have hm2 := hy.most
  have hl2 := hy.le
  have hd : decide ((4000 : Int) < (n : Int) + (m : Int)) = true := by simp; omega
  clear hx hy
  go_enter Try.func4, Try.ntmps4
  go_wp2_with (go_at_call 21; refine (awake1 _).mono ?_; rintro e w3 ⟨rfl, hB3⟩; have HB3 := Lib.hid hB3; clear hB3)
  go_ret
  exact ⟨rfl, HB3.out⟩

set_option maxHeartbeats 1600000 in
set_option maxRecDepth 100000 in
theorem dots_small {w : World} {a b : Option Addr} {n m c d : Nat} {x y : List Nat} (hx : RB w a n c x) (hy : RB w b m d y) (h : n + m ≤ 4000) :
    Calls Try.prog 4 #[.slice a n c, .slice b m d] w fun e w' => e = .returned (.bool true) ∧ Below w.heap.size w w' := by
  have hd : decide ((4000 : Int) < (n : Int) + (m : Int)) = false := by simp; omega
  have HX := Lib.hid hx
  have HY := Lib.hid hy
  clear hx hy
  go_enter Try.func4, Try.ntmps4
  go_wp2_with fail
  refine (lent_any HX.out).mono ?_
  rintro e w1 ⟨g1, rfl, hg1, hL1, hB1⟩
  have HB1 := Lib.hid hB1
  have HL1 := Lib.hid hL1
  clear hB1 hL1
  go_wp2_with fail
  refine (lent_any (HY.out.below HB1.out)).mono ?_
  rintro e w2 ⟨g2, rfl, hg2, hL2, hB2⟩
  have HB2 := Lib.hid hB2
  have HL2 := Lib.hid hL2
  clear hB2 hL2
  go_wp2_with fail
  refine (new_any _).mono ?_
  rintro e w3 ⟨p, rfl, hp, hf, hB3⟩
  have HB3 := Lib.hid hB3
  have HF := Lib.hid hf
  clear hB3 hf
  have hw3 := HB3.out
  have l1 : LentAt w3 g1 x := LentAt.below (LentAt.below HL1.out HB2.out (LentAt.lt HL1.out)) HB3.out (Nat.lt_of_lt_of_le (LentAt.lt HL1.out) HB2.out.size)
  have l2 : LentAt w3 g2 y := LentAt.below HL2.out HB3.out (LentAt.lt HL2.out)
  have r1 : RB w3 a n c x := ((HX.out.below HB1.out).below HB2.out).below HB3.out
  have r2 : RB w3 b m d y := ((HY.out.below HB1.out).below HB2.out).below HB3.out
  have hB : Below w.heap.size w w3 := (HB1.out.trans (HB2.out.mono HB1.out.size)).trans (HB3.out.mono (Nat.le_trans HB1.out.size HB2.out.size))
  have s1 : RB w3 (some ⟨g1, 0, none⟩) n (n + 12) x := by have := l1.rb r1.small (by rw [r1.len]; omega); rw [r1.len] at this; exact this
  have s2 : RB w3 (some ⟨g2, 0, none⟩) m (m + 12) y := by have := l2.rb r2.small (by rw [r2.len]; omega); rw [r2.len] at this; exact this
  have L1 := Lib.hid l1
  have L2 := Lib.hid l2
  have R1 := Lib.hid r1
  have R2 := Lib.hid r2
  have S1 := Lib.hid s1
  have S2 := Lib.hid s2
  have HB := Lib.hid hB
  clear hw3 l1 l2 r1 r2 s1 s2 hB HB1 HB2 HB3 HL1 HL2
  by_cases hnm : n = m
  · subst hnm
    go_wp2_with (first
      | (go_at_call 28; ((with_reducible refine (dot_same HF.out S1.out S2.out).mono ?_); rintro e w' ⟨rfl, q, rfl⟩))
      | (go_at_call 29; ((with_reducible refine (rdot_same (R1.out.drewN _) (R2.out.drewN _)).mono ?_); rintro e w' ⟨rfl, q, rfl⟩))
      | (go_at_call 30; ((with_reducible refine (kept_any (R1.out.drewN _) (L1.out.drewN _)).mono ?_); rintro e w' ⟨rfl, q, rfl⟩))
      | (go_at_call 30; ((with_reducible refine (kept_any (R2.out.drewN _) (L2.out.drewN _)).mono ?_); rintro e w' ⟨rfl, q, rfl⟩))
      | (go_at_call 21; refine (awake1 _).mono ?_; rintro e w6 ⟨rfl, hB6⟩; have HB6 := Lib.hid hB6; clear hB6))
    go_ret
    exact ⟨rfl, (below_drewN HB.out _).trans (HB6.out.mono HB.out.size)⟩
  · go_wp2_with (first
      | (go_at_call 28; ((with_reducible refine (dot_diff HF.out hnm).mono ?_); rintro e w' ⟨rfl, q, rfl⟩))
      | (go_at_call 29; ((with_reducible refine (rdot_diff hnm).mono ?_); rintro e w' ⟨rfl, q, rfl⟩))
      | (go_at_call 30; ((with_reducible refine (kept_any (R1.out.drewN _) (L1.out.drewN _)).mono ?_); rintro e w' ⟨rfl, q, rfl⟩))
      | (go_at_call 30; ((with_reducible refine (kept_any (R2.out.drewN _) (L2.out.drewN _)).mono ?_); rintro e w' ⟨rfl, q, rfl⟩))
      | (go_at_call 21; refine (awake1 _).mono ?_; rintro e w6 ⟨rfl, hB6⟩; have HB6 := Lib.hid hB6; clear hB6))
    go_ret
    exact ⟨rfl, (below_drewN HB.out _).trans (HB6.out.mono HB.out.size)⟩
end Go.Proofs.Ytokeoodkioobdaa
