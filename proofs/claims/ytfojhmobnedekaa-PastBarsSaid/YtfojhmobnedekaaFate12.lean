/- The walk of the law FateKeeps. Conditions: the places of the fate and of the row. -/
import Derived.Test.YtfojhmobnedekaaFate11
namespace Go.Proofs.Ytfojhmobnedekaa
open Go.RowKit

theorem fate_box (w : World) (k b al pl : Int) : FateAt w.heap.size k b al pl (w.alloc (.cells #[.int .i64 k, .int .i64 b, .int .i64 al, .int .i64 pl] 24)) :=
  have hbl := heap_alloc_new w (.cells #[.int .i64 k, .int .i64 b, .int .i64 al, .int .i64 pl] 24)
  ⟨(cell_of_block (j := 0) hbl).trans rfl, (cell_of_block (j := 1) hbl).trans rfl, (cell_of_block (j := 2) hbl).trans rfl, (cell_of_block (j := 3) hbl).trans rfl⟩

set_option maxHeartbeats 1600000 in
set_option maxRecDepth 100000 in
theorem keeps_great {w : World} {k b al pl now : Int} {a : Option Addr} {n c : Nat} (h : 3000 < n) :
    Calls Try.prog 4 #[.agg #[.int .i64 k, .int .i64 b, .int .i64 al, .int .i64 pl], .slice a n c, .int .i64 now] w fun e w' => e = .returned (.bool true) ∧ Below w.heap.size w w' := by
  have d1 : decide ((3000 : Int) < (n : Int)) = true := by simp; omega
  have H14 := Lib.hid (awake_any (w.alloc (.cells #[.int .i64 k, .int .i64 b, .int .i64 al, .int .i64 pl] 24)))
  have HB0 := Lib.hid (show Below w.heap.size w (w.alloc (.cells #[.int .i64 k, .int .i64 b, .int .i64 al, .int .i64 pl] 24)) from (Below.refl _ _).alloc (Nat.le_refl _) _)
  clear h
  go_enter Try.func4, Try.ntmps4
  go_wp2_with fail
  refine H14.out.mono ?_
  rintro e w1 ⟨rfl, hB1⟩
  have HB1 := Lib.hid (HB0.out.trans (hB1.mono HB0.out.size))
  clear hB1
  go_wp2_with fail
  go_ret
  exact ⟨rfl, HB1.out⟩

set_option maxHeartbeats 1600000 in
set_option maxRecDepth 100000 in
theorem keeps_bad {w : World} {k b al pl now : Int} {a : Option Addr} {n c : Nat} (hn : n ≤ 3000) (h : ¬ (RightF k b al pl ∧ (0 ≤ now ∧ now ≤ 2147483647))) :
    Calls Try.prog 4 #[.agg #[.int .i64 k, .int .i64 b, .int .i64 al, .int .i64 pl], .slice a n c, .int .i64 now] w fun e w' => e = .returned (.bool true) ∧ Below w.heap.size w w' := by
  have d1 : decide ((3000 : Int) < (n : Int)) = false := by simp; omega
  have H14 := Lib.hid (awake_any (w.alloc (.cells #[.int .i64 k, .int .i64 b, .int .i64 al, .int .i64 pl] 24)))
  have HB0 := Lib.hid (show Below w.heap.size w (w.alloc (.cells #[.int .i64 k, .int .i64 b, .int .i64 al, .int .i64 pl] 24)) from (Below.refl _ _).alloc (Nat.le_refl _) _)
  have HF0 := Lib.hid (fate_box w k b al pl)
  have H16 := Lib.hid fun W => lands_bad (w := W) a n c h
  have H23 := Lib.hid fun W => right_any k b al pl W
  by_cases hr : RightF k b al pl
  · have hnow : now < 0 ∨ 2147483647 < now := by
      by_cases h1 : now < 0
      · exact .inl h1
      · by_cases h2 : 2147483647 < now
        · exact .inr h2
        · exact absurd ⟨hr, by omega, by omega⟩ h
    rw [decide_eq_true hr] at H23
    clear h hr
    rcases hnow with h1 | h1
    all_goals
      go_enter Try.func4, Try.ntmps4
      go_wp2_with fail
      refine H14.out.mono ?_
      rintro e w1 ⟨rfl, hB1⟩
      have HB1 := Lib.hid (HB0.out.trans (hB1.mono HB0.out.size))
      have HF1 := HF0.out.below hB1
      have HFH := Lib.hid HF1
      obtain ⟨c0, c1, c2, c3⟩ := HF1
      clear hB1
      go_wp2_with fail
      refine (H16.out w1).mono ?_
      rintro e w2 ⟨rfl, hB2⟩
      have HB2 := Lib.hid (HB1.out.trans (hB2.mono HB1.out.size))
      have HF2 := HFH.out.below hB2
      obtain ⟨c0', c1', c2', c3'⟩ := HF2
      clear hB2 c0 c1 c2 c3
      go_wp2_with fail
      refine (H23.out w2).mono ?_
      rintro e w3 ⟨rfl, hB3⟩
      have HB3 := Lib.hid (HB2.out.trans (hB3.mono HB2.out.size))
      clear hB3
      go_wp2_with fail
      go_ret
      exact ⟨rfl, HB3.out⟩
  · rw [decide_eq_false hr] at H23
    clear h hr
    go_enter Try.func4, Try.ntmps4
    go_wp2_with fail
    refine H14.out.mono ?_
    rintro e w1 ⟨rfl, hB1⟩
    have HB1 := Lib.hid (HB0.out.trans (hB1.mono HB0.out.size))
    have HF1 := HF0.out.below hB1
    have HFH := Lib.hid HF1
    obtain ⟨c0, c1, c2, c3⟩ := HF1
    clear hB1
    go_wp2_with fail
    refine (H16.out w1).mono ?_
    rintro e w2 ⟨rfl, hB2⟩
    have HB2 := Lib.hid (HB1.out.trans (hB2.mono HB1.out.size))
    have HF2 := HFH.out.below hB2
    obtain ⟨c0', c1', c2', c3'⟩ := HF2
    clear hB2 c0 c1 c2 c3
    go_wp2_with fail
    refine (H23.out w2).mono ?_
    rintro e w3 ⟨rfl, hB3⟩
    have HB3 := Lib.hid (HB2.out.trans (hB3.mono HB2.out.size))
    clear hB3
    go_wp2_with fail
    go_ret
    exact ⟨rfl, HB3.out⟩

theorem lands_none {w : World} {k b al pl now : Int} {a : Option Addr} {n c : Nat} {l : List Nat} (h : RB w a n c l) (hr : RightF k b al pl) (hn : 0 ≤ now ∧ now ≤ 2147483647) (hL : landsOf k b al pl now l = []) :
    Calls Try.prog 16 #[.agg #[.int .i64 k, .int .i64 b, .int .i64 al, .int .i64 pl], .slice a n c, .int .i64 now] w fun e w' => ∃ a' c', e = .returned (.tuple #[.slice a' (0 : Nat) c', .int .i64 0]) ∧ Hid (Below w.heap.size w w') := by
  refine (lands_rd h hr hn).mono ?_
  rintro e w' ⟨v, rfl, hR, hB⟩
  rw [hL] at hR
  obtain ⟨a', c', rfl, hk⟩ := hR.shape
  exact ⟨a', c', rfl, hB⟩
theorem lands_one {w : World} {k b al pl now d q : Int} {a : Option Addr} {n c : Nat} {l l' : List Nat} (h : RB w a n c l) (hr : RightF k b al pl) (hn : 0 ≤ now ∧ now ≤ 2147483647) (hL : landsOf k b al pl now l = [(d, q, l')]) (hl : l'.length = n) :
    Calls Try.prog 16 #[.agg #[.int .i64 k, .int .i64 b, .int .i64 al, .int .i64 pl], .slice a n c, .int .i64 now] w fun e w' => ∃ g o c' a1 c1, e = .returned (.tuple #[.slice (some ⟨g, o, none⟩) (1 : Nat) c', .int .i64 0]) ∧ w'.cell? ⟨g, o, none⟩ = some (.int .i64 d) ∧ w'.cell? ⟨g, o + 1, none⟩ = some (.int .i64 q) ∧ w'.cell? ⟨g, o + 2, none⟩ = some (.slice a1 n c1) ∧ Hid (RB w' a1 n c1 l') ∧ Hid (Below w.heap.size w w') := by
  refine (lands_rd h hr hn).mono ?_
  rintro e w' ⟨v, rfl, hR, hB⟩
  rw [hL] at hR
  obtain ⟨a', c', rfl, hk⟩ := hR.shape
  obtain ⟨g, o, a1, n1, c1, rfl, e1, e2, e3, hr⟩ := hk 0 (by simp)
  have hn1 : n1 = n := by rw [← hr.len]; exact hl
  subst hn1
  exact ⟨g, o, c', a1, c1, rfl, by simpa using e1, by simpa using e2, by simpa using e3, hr, hB⟩
theorem lands_two {w : World} {k b al pl now d q d2 q2 : Int} {a : Option Addr} {n c : Nat} {l l' l2 : List Nat} (h : RB w a n c l) (hr : RightF k b al pl) (hn : 0 ≤ now ∧ now ≤ 2147483647) (hL : landsOf k b al pl now l = [(d, q, l'), (d2, q2, l2)]) (hl : l'.length = n) (hl2 : l2.length = n) :
    Calls Try.prog 16 #[.agg #[.int .i64 k, .int .i64 b, .int .i64 al, .int .i64 pl], .slice a n c, .int .i64 now] w fun e w' => ∃ g o c' a1 c1 a2 c2, e = .returned (.tuple #[.slice (some ⟨g, o, none⟩) (2 : Nat) c', .int .i64 0]) ∧ (w'.cell? ⟨g, o, none⟩ = some (.int .i64 d) ∧ w'.cell? ⟨g, o + 1, none⟩ = some (.int .i64 q) ∧ w'.cell? ⟨g, o + 2, none⟩ = some (.slice a1 n c1)) ∧ Hid (RB w' a1 n c1 l') ∧ (w'.cell? ⟨g, o + 3, none⟩ = some (.int .i64 d2) ∧ w'.cell? ⟨g, o + 4, none⟩ = some (.int .i64 q2) ∧ w'.cell? ⟨g, o + 5, none⟩ = some (.slice a2 n c2)) ∧ Hid (RB w' a2 n c2 l2) ∧ Hid (Below w.heap.size w w') := by
  refine (lands_rd h hr hn).mono ?_
  rintro e w' ⟨v, rfl, hR, hB⟩
  rw [hL] at hR
  obtain ⟨a', c', rfl, hk⟩ := hR.shape
  obtain ⟨g, o, a1, n1, c1, rfl, e1, e2, e3, hr⟩ := hk 0 (by simp)
  obtain ⟨g', o', a2, n2, c2, e, f1, f2, f3, hr2⟩ := hk 1 (by simp)
  injection e with e
  injection e with e4 e5
  subst e4; subst e5
  have hn1 : n1 = n := by rw [← hr.len]; exact hl
  have hn2 : n2 = n := by rw [← hr2.len]; exact hl2
  subst hn1; subst hn2
  exact ⟨g, o, c', a1, c1, a2, c2, rfl, ⟨by simpa using e1, by simpa using e2, by simpa using e3⟩, hr, ⟨by simpa using f1, by simpa using f2, by simpa using f3⟩, hr2, hB⟩

set_option maxHeartbeats 6000000 in
set_option maxRecDepth 100000 in
theorem keeps0 {w : World} {b al pl now : Int} {a : Option Addr} {n c : Nat} {l : List Nat} (h : RB w a n c l) (hn : n ≤ 3000) (hr : RightF 0 b al pl) (hnow : 0 ≤ now ∧ now ≤ 2147483647) :
    Calls Try.prog 4 #[.agg #[.int .i64 0, .int .i64 b, .int .i64 al, .int .i64 pl], .slice a n c, .int .i64 now] w fun e w' => e = .returned (.bool true) ∧ Below w.heap.size w w' := by
  have d1 : decide ((3000 : Int) < (n : Int)) = false := by simp; omega
  have hl := h.len
  have H14 := Lib.hid (awake_any (w.alloc (.cells #[.int .i64 0, .int .i64 b, .int .i64 al, .int .i64 pl] 24)))
  have HB0 := Lib.hid (show Below w.heap.size w (w.alloc (.cells #[.int .i64 0, .int .i64 b, .int .i64 al, .int .i64 pl] 24)) from (Below.refl _ _).alloc (Nat.le_refl _) _)
  have HF0 := Lib.hid (fate_box w 0 b al pl)
  have H16 := Lib.hid fun W (hW : RB W a n c l) => lands_one (d := now + b) (q := pl) (l' := l) hW hr hnow rfl hl
  have H := Lib.hid h
  obtain ⟨hk, ⟨hb0, hb1⟩, ⟨ha0, ha1⟩, hp⟩ := hr
  obtain ⟨hnow0, hnow1⟩ := hnow
  have hwb : IntKind.i64.wrap (now + b) = now + b := IntWalk.i64_in _ (by omega)
  have hw2 : IntKind.i64.wrap (now + 2000) = now + 2000 := IntWalk.i64_in _ (by omega)
  have db : decide (now + 2000 < now + b) = false := by simp; omega
  clear h hl hp hk
  go_enter Try.func4, Try.ntmps4
  go_wp2_with fail
  refine H14.out.mono ?_
  rintro e w1 ⟨rfl, hB1⟩
  have HB1 := Lib.hid (HB0.out.trans (hB1.mono HB0.out.size))
  have HF1 := Lib.hid (HF0.out.below hB1)
  have HR1 := Lib.hid (H.out.below HB1.out)
  obtain ⟨c0, c1, c2, c3⟩ := HF1.out
  have k16 := Lib.hid (H16.out w1 HR1.out)
  clear hB1 H14 H16
  go_wp2_with fail
  refine k16.out.mono ?_
  rintro e w2 ⟨g, o, cc, a1, k1, rfl, e1, e2, e3, HX2, HBx⟩
  have HB2 := Lib.hid (HB1.out.trans (HBx.out.mono HB1.out.size))
  have HF2 := Lib.hid (HF1.out.below HBx.out)
  have HR2 := Lib.hid (HR1.out.below HBx.out)
  clear c0 c1 c2 c3 k16 HBx HB1 HF1 HR1
  obtain ⟨c0, c1, c2, c3⟩ := HF2.out
  go_wp2_with fail
  refine wp_loop_rounds 2 ?_
  rw [rounds_succ]
  have HFx3 := Lib.hid (HF2.out.below ((Below.refl _ _).alloc (Nat.le_refl _) (.cells #[.int .i64 (now + b), .int .i64 pl, .slice a1 n k1] 39)))
  obtain ⟨x30, x31, x32, x33⟩ := HFx3.out
  have k19_3 := Lib.hid (same_rd (HX2.out.alloc (.cells #[.int .i64 (now + b), .int .i64 pl, .slice a1 n k1] 39)) (HR2.out.alloc (.cells #[.int .i64 (now + b), .int .i64 pl, .slice a1 n k1] 39)) (decide_eq_true rfl))
  go_wp2_with fail
  refine k19_3.out.mono ?_
  rintro e w39 ⟨rfl, hBx3⟩
  have hBy3 : Below w2.heap.size w2 w39 := ((Below.refl _ _).alloc (Nat.le_refl _) (.cells #[.int .i64 (now + b), .int .i64 pl, .slice a1 n k1] 39)).trans (hBx3.mono (by simp))
  have HB39 := Lib.hid (HB2.out.trans (hBy3.mono HB2.out.size))
  clear hBx3 hBy3 k19_3
  go_wp2_with fail
  rw [rounds_succ]
  go_wp2_with fail
  go_ret
  exact ⟨rfl, HB39.out⟩

set_option maxHeartbeats 6000000 in
set_option maxRecDepth 100000 in
theorem keeps1 {w : World} {b al pl now : Int} {a : Option Addr} {n c : Nat} {l : List Nat} (h : RB w a n c l) (hn : n ≤ 3000) (hr : RightF 1 b al pl) (hnow : 0 ≤ now ∧ now ≤ 2147483647) :
    Calls Try.prog 4 #[.agg #[.int .i64 1, .int .i64 b, .int .i64 al, .int .i64 pl], .slice a n c, .int .i64 now] w fun e w' => e = .returned (.bool true) ∧ Below w.heap.size w w' := by
  have d1 : decide ((3000 : Int) < (n : Int)) = false := by simp; omega
  have hl := h.len
  have H14 := Lib.hid (awake_any (w.alloc (.cells #[.int .i64 1, .int .i64 b, .int .i64 al, .int .i64 pl] 24)))
  have HB0 := Lib.hid (show Below w.heap.size w (w.alloc (.cells #[.int .i64 1, .int .i64 b, .int .i64 al, .int .i64 pl] 24)) from (Below.refl _ _).alloc (Nat.le_refl _) _)
  have HF0 := Lib.hid (fate_box w 1 b al pl)
  have H16 := Lib.hid fun W (hW : RB W a n c l) => lands_none hW hr hnow rfl
  have H := Lib.hid h
  obtain ⟨hk, ⟨hb0, hb1⟩, ⟨ha0, ha1⟩, hp⟩ := hr
  obtain ⟨hnow0, hnow1⟩ := hnow
  have hwb : IntKind.i64.wrap (now + b) = now + b := IntWalk.i64_in _ (by omega)
  have hw2 : IntKind.i64.wrap (now + 2000) = now + 2000 := IntWalk.i64_in _ (by omega)
  have db : decide (now + 2000 < now + b) = false := by simp; omega
  clear h hl hp hk
  go_enter Try.func4, Try.ntmps4
  go_wp2_with fail
  refine H14.out.mono ?_
  rintro e w1 ⟨rfl, hB1⟩
  have HB1 := Lib.hid (HB0.out.trans (hB1.mono HB0.out.size))
  have HF1 := Lib.hid (HF0.out.below hB1)
  have HR1 := Lib.hid (H.out.below HB1.out)
  obtain ⟨c0, c1, c2, c3⟩ := HF1.out
  have k16 := Lib.hid (H16.out w1 HR1.out)
  clear hB1 H14 H16
  go_wp2_with fail
  refine k16.out.mono ?_
  rintro e w2 ⟨a1, k1, rfl, HBx⟩
  have HB2 := Lib.hid (HB1.out.trans (HBx.out.mono HB1.out.size))
  have HF2 := Lib.hid (HF1.out.below HBx.out)
  clear c0 c1 c2 c3 k16 HBx HB1 HF1 HR1
  obtain ⟨c0, c1, c2, c3⟩ := HF2.out
  go_wp2_with fail
  refine wp_loop_rounds 1 ?_
  rw [rounds_succ]
  go_wp2_with fail
  go_ret
  exact ⟨rfl, HB2.out⟩

set_option maxHeartbeats 6000000 in
set_option maxRecDepth 100000 in
theorem keeps2 {w : World} {b al pl now : Int} {a : Option Addr} {n c : Nat} {l : List Nat} (h : RB w a n c l) (hn : n ≤ 3000) (hr : RightF 2 b al pl) (hnow : 0 ≤ now ∧ now ≤ 2147483647) :
    Calls Try.prog 4 #[.agg #[.int .i64 2, .int .i64 b, .int .i64 al, .int .i64 pl], .slice a n c, .int .i64 now] w fun e w' => e = .returned (.bool true) ∧ Below w.heap.size w w' := by
  have d1 : decide ((3000 : Int) < (n : Int)) = false := by simp; omega
  have hl := h.len
  have H14 := Lib.hid (awake_any (w.alloc (.cells #[.int .i64 2, .int .i64 b, .int .i64 al, .int .i64 pl] 24)))
  have HB0 := Lib.hid (show Below w.heap.size w (w.alloc (.cells #[.int .i64 2, .int .i64 b, .int .i64 al, .int .i64 pl] 24)) from (Below.refl _ _).alloc (Nat.le_refl _) _)
  have HF0 := Lib.hid (fate_box w 2 b al pl)
  have H16 := Lib.hid fun W (hW : RB W a n c l) => lands_two (d := now + b) (q := pl) (l' := l) (d2 := now + al) (q2 := pl) (l2 := l) hW hr hnow rfl hl hl
  have H := Lib.hid h
  obtain ⟨hk, ⟨hb0, hb1⟩, ⟨ha0, ha1⟩, hp⟩ := hr
  obtain ⟨hnow0, hnow1⟩ := hnow
  have hwb : IntKind.i64.wrap (now + b) = now + b := IntWalk.i64_in _ (by omega)
  have hw2 : IntKind.i64.wrap (now + 2000) = now + 2000 := IntWalk.i64_in _ (by omega)
  have db : decide (now + 2000 < now + b) = false := by simp; omega
  have ha2 : al ≤ 2000 := ha1
  have hwa : IntKind.i64.wrap (now + al) = now + al := IntWalk.i64_in _ (by omega)
  have da : decide (now + 2000 < now + al) = false := by simp; omega
  clear h hl hp hk
  go_enter Try.func4, Try.ntmps4
  go_wp2_with fail
  refine H14.out.mono ?_
  rintro e w1 ⟨rfl, hB1⟩
  have HB1 := Lib.hid (HB0.out.trans (hB1.mono HB0.out.size))
  have HF1 := Lib.hid (HF0.out.below hB1)
  have HR1 := Lib.hid (H.out.below HB1.out)
  obtain ⟨c0, c1, c2, c3⟩ := HF1.out
  have k16 := Lib.hid (H16.out w1 HR1.out)
  clear hB1 H14 H16
  go_wp2_with fail
  refine k16.out.mono ?_
  rintro e w2 ⟨g, o, cc, a1, k1, a2, k2, rfl, ⟨e1, e2, e3⟩, HX2, ⟨f1, f2, f3⟩, HY2, HBx⟩
  have HB2 := Lib.hid (HB1.out.trans (HBx.out.mono HB1.out.size))
  have HF2 := Lib.hid (HF1.out.below HBx.out)
  have HR2 := Lib.hid (HR1.out.below HBx.out)
  clear c0 c1 c2 c3 k16 HBx HB1 HF1 HR1
  obtain ⟨c0, c1, c2, c3⟩ := HF2.out
  go_wp2_with fail
  refine wp_loop_rounds 3 ?_
  rw [rounds_succ]
  have HFx3 := Lib.hid (HF2.out.below ((Below.refl _ _).alloc (Nat.le_refl _) (.cells #[.int .i64 (now + b), .int .i64 pl, .slice a1 n k1] 39)))
  obtain ⟨x30, x31, x32, x33⟩ := HFx3.out
  have k19_3 := Lib.hid (same_rd (HX2.out.alloc (.cells #[.int .i64 (now + b), .int .i64 pl, .slice a1 n k1] 39)) (HR2.out.alloc (.cells #[.int .i64 (now + b), .int .i64 pl, .slice a1 n k1] 39)) (decide_eq_true rfl))
  go_wp2_with fail
  refine k19_3.out.mono ?_
  rintro e w39 ⟨rfl, hBx3⟩
  have hBy3 : Below w2.heap.size w2 w39 := ((Below.refl _ _).alloc (Nat.le_refl _) (.cells #[.int .i64 (now + b), .int .i64 pl, .slice a1 n k1] 39)).trans (hBx3.mono (by simp))
  have HB39 := Lib.hid (HB2.out.trans (hBy3.mono HB2.out.size))
  have HF3 := Lib.hid (HF2.out.below hBy3)
  have HR3 := Lib.hid (HR2.out.below hBy3)
  have HY3 := Lib.hid (HY2.out.below hBy3)
  have f1' := (hBy3.cell (block_lt_of_cell f1)).trans f1
  have f2' := (hBy3.cell (block_lt_of_cell f2)).trans f2
  have f3' := (hBy3.cell (block_lt_of_cell f3)).trans f3
  clear hBx3 hBy3 k19_3 c0 c1 c2 c3 e1 e2 e3 f1 f2 f3 x30 x31 x32 x33 HF2 HR2 HY2 HX2 HB2
  obtain ⟨c0, c1, c2, c3⟩ := HF3.out
  go_wp2_with fail
  rw [rounds_succ]
  have HFx4 := Lib.hid (HF3.out.below ((Below.refl _ _).alloc (Nat.le_refl _) (.cells #[.int .i64 (now + al), .int .i64 pl, .slice a2 n k2] 39)))
  obtain ⟨x40, x41, x42, x43⟩ := HFx4.out
  have k19_4 := Lib.hid (same_rd (HY3.out.alloc (.cells #[.int .i64 (now + al), .int .i64 pl, .slice a2 n k2] 39)) (HR3.out.alloc (.cells #[.int .i64 (now + al), .int .i64 pl, .slice a2 n k2] 39)) (decide_eq_true rfl))
  go_wp2_with fail
  refine k19_4.out.mono ?_
  rintro e w49 ⟨rfl, hBx4⟩
  have hBy4 : Below w39.heap.size w39 w49 := ((Below.refl _ _).alloc (Nat.le_refl _) (.cells #[.int .i64 (now + al), .int .i64 pl, .slice a2 n k2] 39)).trans (hBx4.mono (by simp))
  have HB49 := Lib.hid (HB39.out.trans (hBy4.mono HB39.out.size))
  clear hBx4 hBy4 k19_4
  go_wp2_with fail
  rw [rounds_succ]
  go_wp2_with fail
  go_ret
  exact ⟨rfl, HB49.out⟩

set_option maxHeartbeats 6000000 in
set_option maxRecDepth 100000 in
theorem keeps3n {w : World} {b al pl now : Int} {a : Option Addr} {n c : Nat} {l : List Nat} (h : RB w a n c l) (_ : n ≤ 3000) (hr : RightF 3 b al pl) (hnow : 0 ≤ now ∧ now ≤ 2147483647) (h0 : n = 0) :
    Calls Try.prog 4 #[.agg #[.int .i64 3, .int .i64 b, .int .i64 al, .int .i64 pl], .slice a n c, .int .i64 now] w fun e w' => e = .returned (.bool true) ∧ Below w.heap.size w w' := by
  have d1 : decide ((3000 : Int) < (n : Int)) = false := by simp; omega
  have hl := h.len
  have H14 := Lib.hid (awake_any (w.alloc (.cells #[.int .i64 3, .int .i64 b, .int .i64 al, .int .i64 pl] 24)))
  have HB0 := Lib.hid (show Below w.heap.size w (w.alloc (.cells #[.int .i64 3, .int .i64 b, .int .i64 al, .int .i64 pl] 24)) from (Below.refl _ _).alloc (Nat.le_refl _) _)
  have HF0 := Lib.hid (fate_box w 3 b al pl)
  have H16 := Lib.hid fun W (hW : RB W a n c l) => lands_one (d := now + b) (q := pl) (l' := Fm.turnI l al) hW hr hnow rfl (by rw [Fm.length_turnI]; exact hl)
  have H := Lib.hid h
  obtain ⟨hk, ⟨hb0, hb1⟩, ⟨ha0, ha1⟩, hp⟩ := hr
  obtain ⟨hnow0, hnow1⟩ := hnow
  have hwb : IntKind.i64.wrap (now + b) = now + b := IntWalk.i64_in _ (by omega)
  have hw2 : IntKind.i64.wrap (now + 2000) = now + 2000 := IntWalk.i64_in _ (by omega)
  have db : decide (now + 2000 < now + b) = false := by simp; omega
  have he : Fm.turnI l al = l := by rw [h0] at hl; rw [List.eq_nil_of_length_eq_zero hl, Fm.turnI_nil]
  have d0 : ((n : Int) == 0) = true := by simp; omega
  rw [he] at H16
  clear h hl hp hk he h0
  go_enter Try.func4, Try.ntmps4
  go_wp2_with fail
  refine H14.out.mono ?_
  rintro e w1 ⟨rfl, hB1⟩
  have HB1 := Lib.hid (HB0.out.trans (hB1.mono HB0.out.size))
  have HF1 := Lib.hid (HF0.out.below hB1)
  have HR1 := Lib.hid (H.out.below HB1.out)
  obtain ⟨c0, c1, c2, c3⟩ := HF1.out
  have k16 := Lib.hid (H16.out w1 HR1.out)
  clear hB1 H14 H16
  go_wp2_with fail
  refine k16.out.mono ?_
  rintro e w2 ⟨g, o, cc, a1, k1, rfl, e1, e2, e3, HX2, HBx⟩
  have HB2 := Lib.hid (HB1.out.trans (HBx.out.mono HB1.out.size))
  have HF2 := Lib.hid (HF1.out.below HBx.out)
  have HR2 := Lib.hid (HR1.out.below HBx.out)
  clear c0 c1 c2 c3 k16 HBx HB1 HF1 HR1
  obtain ⟨c0, c1, c2, c3⟩ := HF2.out
  go_wp2_with fail
  refine wp_loop_rounds 2 ?_
  rw [rounds_succ]
  have HFx3 := Lib.hid (HF2.out.below ((Below.refl _ _).alloc (Nat.le_refl _) (.cells #[.int .i64 (now + b), .int .i64 pl, .slice a1 n k1] 39)))
  obtain ⟨x30, x31, x32, x33⟩ := HFx3.out
  have k19_3 := Lib.hid (same_rd (HX2.out.alloc (.cells #[.int .i64 (now + b), .int .i64 pl, .slice a1 n k1] 39)) (HR2.out.alloc (.cells #[.int .i64 (now + b), .int .i64 pl, .slice a1 n k1] 39)) (decide_eq_true rfl))
  go_wp2_with fail
  refine k19_3.out.mono ?_
  rintro e w39 ⟨rfl, hBx3⟩
  have hBy3 : Below w2.heap.size w2 w39 := ((Below.refl _ _).alloc (Nat.le_refl _) (.cells #[.int .i64 (now + b), .int .i64 pl, .slice a1 n k1] 39)).trans (hBx3.mono (by simp))
  have HB39 := Lib.hid (HB2.out.trans (hBy3.mono HB2.out.size))
  clear hBx3 hBy3 k19_3
  go_wp2_with fail
  rw [rounds_succ]
  go_wp2_with fail
  go_ret
  exact ⟨rfl, HB39.out⟩

set_option maxHeartbeats 6000000 in
set_option maxRecDepth 100000 in
theorem keeps3 {w : World} {b al pl now : Int} {a : Option Addr} {n c : Nat} {l : List Nat} (h : RB w a n c l) (hn : n ≤ 3000) (hr : RightF 3 b al pl) (hnow : 0 ≤ now ∧ now ≤ 2147483647) (h0 : 0 < n) :
    Calls Try.prog 4 #[.agg #[.int .i64 3, .int .i64 b, .int .i64 al, .int .i64 pl], .slice a n c, .int .i64 now] w fun e w' => e = .returned (.bool true) ∧ Below w.heap.size w w' := by
  have d1 : decide ((3000 : Int) < (n : Int)) = false := by simp; omega
  have hl := h.len
  have H14 := Lib.hid (awake_any (w.alloc (.cells #[.int .i64 3, .int .i64 b, .int .i64 al, .int .i64 pl] 24)))
  have HB0 := Lib.hid (show Below w.heap.size w (w.alloc (.cells #[.int .i64 3, .int .i64 b, .int .i64 al, .int .i64 pl] 24)) from (Below.refl _ _).alloc (Nat.le_refl _) _)
  have HF0 := Lib.hid (fate_box w 3 b al pl)
  have H16 := Lib.hid fun W (hW : RB W a n c l) => lands_one (d := now + b) (q := pl) (l' := Fm.turnI l al) hW hr hnow rfl (by rw [Fm.length_turnI]; exact hl)
  have H := Lib.hid h
  obtain ⟨hk, ⟨hb0, hb1⟩, ⟨ha0, ha1⟩, hp⟩ := hr
  obtain ⟨hnow0, hnow1⟩ := hnow
  have hwb : IntKind.i64.wrap (now + b) = now + b := IntWalk.i64_in _ (by omega)
  have hw2 : IntKind.i64.wrap (now + 2000) = now + 2000 := IntWalk.i64_in _ (by omega)
  have db : decide (now + 2000 < now + b) = false := by simp; omega
  have ha2 : al ≤ 2147483647 := ha1
  have d0 : ((n : Int) == 0) = false := by simp; omega
  have hne : l ≠ [] := fun e => by rw [e] at hl; simp at hl; omega
  have hK8 : al.toNat % (8 * l.length) / 8 < n := by rw [← hl]; exact Fm.bit_lt hne _
  have hT : Fm.turnI l al = Fm.turn l (al.toNat % (8 * l.length)) := Fm.turnI_pos hne ha0
  have HT := Lib.hid hT
  have HTW := Lib.hid (Fm.turnI_twice h.small al)
  have HK8 := Lib.hid hK8
  clear h hl hp hk hne hK8 hT h0
  go_enter Try.func4, Try.ntmps4
  go_wp2_with fail
  refine H14.out.mono ?_
  rintro e w1 ⟨rfl, hB1⟩
  have HB1 := Lib.hid (HB0.out.trans (hB1.mono HB0.out.size))
  have HF1 := Lib.hid (HF0.out.below hB1)
  have HR1 := Lib.hid (H.out.below HB1.out)
  obtain ⟨c0, c1, c2, c3⟩ := HF1.out
  have k16 := Lib.hid (H16.out w1 HR1.out)
  clear hB1 H14 H16
  go_wp2_with fail
  refine k16.out.mono ?_
  rintro e w2 ⟨g, o, cc, a1, k1, rfl, e1, e2, e3, HX2, HBx⟩
  have HB2 := Lib.hid (HB1.out.trans (HBx.out.mono HB1.out.size))
  have HF2 := Lib.hid (HF1.out.below HBx.out)
  have HR2 := Lib.hid (HR1.out.below HBx.out)
  clear c0 c1 c2 c3 k16 HBx HB1 HF1 HR1
  obtain ⟨c0, c1, c2, c3⟩ := HF2.out
  have HFx3 := Lib.hid (HF2.out.below ((Below.refl _ _).alloc (Nat.le_refl _) (.cells #[.int .i64 (now + b), .int .i64 pl, .slice a1 n k1] 39)))
  obtain ⟨x30, x31, x32, x33⟩ := HFx3.out
  have k24 := Lib.hid (one_any (K := al.toNat % (8 * l.length)) (by have := HX2.out.alloc (.cells #[.int .i64 (now + b), .int .i64 pl, .slice a1 n k1] 39); rw [HT.out] at this; exact this) (HR2.out.alloc (.cells #[.int .i64 (now + b), .int .i64 pl, .slice a1 n k1] 39)) HK8.out)
  go_wp2_with fail
  refine wp_loop_rounds 2 ?_
  rw [rounds_succ]
  go_wp2_with fail
  refine k24.out.mono ?_
  rintro e w5 ⟨rfl, hBx3⟩
  have hxb := heap_alloc_new w2 (.cells #[.int .i64 (now + b), .int .i64 pl, .slice a1 n k1] 39)
  have hBy3 : Below w2.heap.size w2 w5 := ((Below.refl _ _).alloc (Nat.le_refl _) (.cells #[.int .i64 (now + b), .int .i64 pl, .slice a1 n k1] 39)).trans (hBx3.mono (by simp))
  have hx5 := (hBx3.block w2.heap.size (by simp)).trans hxb
  have y2 : w5.cell? ⟨w2.heap.size, 2, none⟩ = some (.slice a1 n k1) := (cell_of_block (j := 2) hx5).trans rfl
  have HF5 := Lib.hid (HF2.out.below hBy3)
  have HX5 := Lib.hid (HX2.out.below hBy3)
  have HR5 := Lib.hid (HR2.out.below hBy3)
  have HB5 := Lib.hid (HB2.out.trans (hBy3.mono HB2.out.size))
  have k18 := Lib.hid (turn_rd (bit := al) HX5.out (by omega))
  clear c0 c1 c2 c3 e1 e2 e3 x30 x31 x32 x33 HF2 HR2 HX2 HB2 k24 hBx3 hBy3 hxb hx5
  obtain ⟨c0, c1, c2, c3⟩ := HF5.out
  go_wp2_with fail
  refine k18.out.mono ?_
  rintro e w6 ⟨a6, k6, rfl, hr6, hB6⟩
  have HB6 := Lib.hid (HB5.out.trans (hB6.mono HB5.out.size))
  have k19 := Lib.hid (same_rd hr6 (HR5.out.below hB6) (decide_eq_true HTW.out))
  clear c0 c1 c2 c3 k18 hr6 hB6 HB5 HF5 HX5 HR5 y2
  go_wp2_with fail
  refine k19.out.mono ?_
  rintro e w7 ⟨rfl, hB7⟩
  have HB7 := Lib.hid (HB6.out.trans (hB7.mono HB6.out.size))
  clear hB7 k19
  go_wp2_with fail
  rw [rounds_succ]
  go_wp2_with fail
  go_ret
  exact ⟨rfl, HB7.out⟩

theorem keeps_any {w : World} {k b al pl now : Int} {a : Option Addr} {n c : Nat} {l : List Nat} (h : RB w a n c l) :
    Calls Try.prog 4 #[.agg #[.int .i64 k, .int .i64 b, .int .i64 al, .int .i64 pl], .slice a n c, .int .i64 now] w fun e w' => e = .returned (.bool true) ∧ Below w.heap.size w w' := by
  by_cases hn : 3000 < n
  · exact keeps_great hn
  · by_cases hr : RightF k b al pl ∧ (0 ≤ now ∧ now ≤ 2147483647)
    · obtain ⟨hr, hnow⟩ := hr
      have hk := hr.1
      rcases (show k = 0 ∨ k = 1 ∨ k = 2 ∨ k = 3 by omega) with rfl | rfl | rfl | rfl
      · exact keeps0 h (by omega) hr hnow
      · exact keeps1 h (by omega) hr hnow
      · exact keeps2 h (by omega) hr hnow
      · by_cases h0 : n = 0
        · exact keeps3n h (by omega) hr hnow h0
        · exact keeps3 h (by omega) hr hnow (by omega)
    · exact keeps_bad (by omega) hr
end Go.Proofs.Ytfojhmobnedekaa
