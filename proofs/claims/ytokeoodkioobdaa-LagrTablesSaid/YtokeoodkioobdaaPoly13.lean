/- The walk of poly's Through. Conditions: rows are shorter than 2 to the 47, and at most 1000 points. -/
import Derived.Test.YtokeoodkioobdaaPoly12
namespace Go.Proofs.Ytokeoodkioobdaa
open Go.RowKit

/-- A value, from the end on. -/
def vl (l : List Nat) (x : Nat) : Nat := hval l x (dn l.length l.length)
theorem vl_lt {l : List Nat} (h : Small l) (x : Nat) : vl l x < 256 := hval_lt h _ 0 (by omega)
/-- What a point's term is multiplied by. -/
def thrBy (s : List Nat × List Nat) (x y : Nat) : Nat := Gf.mul (y ^^^ vl s.1 x) (Gf.inv (vl s.2 x))
def thrOut (s : List Nat × List Nat) (x y : Nat) : List Nat :=
  lean (sumTo s.1 (mul2 s.2 [thrBy s x y] 2) (max s.1.length (mul2 s.2 [thrBy s x y] 2).length) (mul2 s.2 [thrBy s x y] 2).length)
def thr (xs ys : List Nat) : Nat → List Nat × List Nat
  | 0 => ([], [1])
  | k + 1 => (thrOut (thr xs ys k) (xs.getD k 0) (ys.getD k 0), mul2 (thr xs ys k).2 [xs.getD k 0, 1] 2)
theorem thr_small {xs ys : List Nat} (hy : Small ys) : ∀ k, Small (thr xs ys k).1 ∧ Small (thr xs ys k).2
  | 0 => ⟨Small.nil, one_small⟩
  | k + 1 => by
    obtain ⟨h1, h2⟩ := thr_small (xs := xs) hy k
    exact ⟨lean_small (sumTo_small h1 (mul2_small _ _ _) (by omega) _ (by omega)), by show Small (mul2 _ _ 2); exact mul2_small _ _ _⟩
theorem thr_len (xs ys : List Nat) : ∀ k, (thr xs ys k).1.length ≤ 3 * k ∧ (thr xs ys k).2.length ≤ 3 * k + 1
  | 0 => ⟨Nat.le_refl _, Nat.le_refl _⟩
  | k + 1 => by
    obtain ⟨h1, h2⟩ := thr_len xs ys k
    have e1 := mul2_len (thr xs ys k).2 [thrBy (thr xs ys k) (xs.getD k 0) (ys.getD k 0)] 2
    have e2 := mul2_len (thr xs ys k).2 [xs.getD k 0, 1] 2
    simp only [List.length_cons, List.length_nil] at e1 e2
    refine ⟨?_, by show (mul2 _ _ 2).length ≤ _; omega⟩
    show (lean _).length ≤ _
    rw [length_lean]
    refine Nat.le_trans (ln_le _ _) ?_
    rw [length_sumTo (by omega)]
    omega

set_option maxHeartbeats 800000 in
set_option maxRecDepth 100000 in
theorem Through_arg {w : World} {a b : Option Addr} {n c m d : Nat} (hn : n ≠ m) :
    Calls Try.prog 42 #[.slice a n c, .slice b m d] w fun e w' => e = .returned (.tuple #[.slice none 0 0, .int .i64 2]) ∧ Below w.heap.size w w' := by
  have hd : ((n : Int) == (m : Int)) = false := by simp; omega
  go_enter Try.func42, Try.ntmps42
  go_wp2_with fail
  go_ret2
  exact ⟨rfl, Below.refl _ _⟩

set_option maxHeartbeats 1600000 in
set_option maxRecDepth 100000 in
theorem Through_twice {w : World} {a b : Option Addr} {n c d : Nat} {l : List Nat} (h : RB w a n c l) (hn : ¬ l.Nodup) :
    Calls Try.prog 42 #[.slice a n c, .slice b n d] w fun e w' => e = .returned (.tuple #[.slice none 0 0, .int .i64 9]) ∧ Below w.heap.size w w' := by
  have hm1 := h.most
  have hl1 := h.le
  have H := Lib.hid h
  have HNN : Hid (¬ l.Nodup) := hn
  clear h hn
  go_enter Try.func42, Try.ntmps42
  go_wp2_with fail
  go_loopw [24] (fun i wr => ∃ k : Nat, k ≤ n ∧ i = .int .i64 k ∧ Hid ((l.take k).Nodup) ∧ Hid (wr.heap[w.heap.size]? = some (.cells (seenC (l.take k)) 82 (0, 0))) ∧ Below w.heap.size w wr) (fun i _ => n - (intOf i).toNat)
  case atStart => exact ⟨0, by omega, rfl, (List.nodup_nil : ([] : List Nat).Nodup), by rw [seenC_zero]; exact heap_alloc_new _ _, (Below.refl _ _).alloc (Nat.le_refl _) _⟩
  case round =>
    obtain ⟨k, hk, rfl, hnd, hh, hB⟩ := hrel
    have HB := Lib.hid hB
    by_cases hk1 : k < n
    · obtain ⟨b1, o1, rfl, hc1⟩ := (H.out.below hB).at_ k hk1
      have hu := H.out.small k
      have hf : ∀ i, wr.frozen? ⟨w.heap.size, i, none⟩ = false := fun i => frozen_of_block hh.out
      have hcs := (cell_of_block hh.out).trans (seenC_get (l.take k) (l.getD k 0) hu)
      clear hB
      by_cases hx : l.getD k 0 ∈ l.take k
      · rw [if_pos hx] at hcs
        clear hx
        generalize l.getD k 0 = x at *
        go_wp2_with fail
        go_ret2
        exact ⟨rfl, HB.out.setCell (Nat.le_refl _) _⟩
      · rw [if_neg hx] at hcs
        have hstep := heap_setCell_same wr w.heap.size (l.getD k 0) (seenC (l.take k)) 82 (.int .i64 1) hh.out
        rw [seenC_step _ _ hu, ← take_step (by rw [H.out.len]; exact hk1)] at hstep
        have hn2 := nodup_step (by rw [H.out.len]; exact hk1) hnd.out hx
        have HS := Lib.hid hstep
        have HN := Lib.hid hn2
        clear hstep hn2 hx
        generalize l.getD k 0 = x at *
        go_wp2_with fail
        go_roundw
        case rel => exact ⟨k + 1, by omega, by go_num, HN, HS, HB.out.setCell (Nat.le_refl _) _⟩
        case measure => simp [intOf]; omega
    · obtain rfl : k = n := by omega
      have := hnd.out
      rw [List.take_of_length_le (by rw [H.out.len]; exact Nat.le_refl _)] at this
      exact absurd this HNN.out

set_option maxHeartbeats 6000000 in
set_option maxRecDepth 100000 in
theorem Through_ok {w : World} {a b : Option Addr} {n c d : Nat} {l ys : List Nat} (h : RB w a n c l) (hy : RB w b n d ys) (hn : l.Nodup) (hn1 : n ≤ 1000) :
    Calls Try.prog 42 #[.slice a n c, .slice b n d] w fun e w' => ∃ v, e = .returned (.tuple #[v, .int .i64 0]) ∧ w'.ownsRow w.heap.size 5 1 v (lean (thr l ys n).1).length (bs (lean (thr l ys n).1)) ∧ Below w.heap.size w w' := by
  obtain ⟨i0, hi, hz0, hz1, hz2⟩ := info_parts info5
  have hm1 := h.most
  have hl1 := h.le
  have H := Lib.hid h
  have HY := Lib.hid hy
  have HNN : Hid l.Nodup := hn
  clear h hy hn
  go_enter Try.func42, Try.ntmps42
  go_wp2_with fail
  go_loopw [24] (fun i wr => ∃ k : Nat, k ≤ n ∧ i = .int .i64 k ∧ Hid ((l.take k).Nodup) ∧ Hid (wr.heap[w.heap.size]? = some (.cells (seenC (l.take k)) 82 (0, 0))) ∧ Below w.heap.size w wr) (fun i _ => n - (intOf i).toNat)
  case atStart => exact ⟨0, by omega, rfl, (List.nodup_nil : ([] : List Nat).Nodup), by rw [seenC_zero]; exact heap_alloc_new _ _, (Below.refl _ _).alloc (Nat.le_refl _) _⟩
  case round =>
    obtain ⟨k, hk, rfl, hnd, hh, hB⟩ := hrel
    have HB := Lib.hid hB
    by_cases hk1 : k < n
    · obtain ⟨b1, o1, rfl, hc1⟩ := (H.out.below hB).at_ k hk1
      have hu := H.out.small k
      have hf : ∀ i, wr.frozen? ⟨w.heap.size, i, none⟩ = false := fun i => frozen_of_block hh.out
      have hcs := (cell_of_block hh.out).trans (seenC_get (l.take k) (l.getD k 0) hu)
      have hx : l.getD k 0 ∉ l.take k := fun hx => by have := twice_not (by rw [H.out.len]; exact hk1) hx; rw [decide_eq_true HNN.out] at this; cases this
      clear hB
      rw [if_neg hx] at hcs
      have hstep := heap_setCell_same wr w.heap.size (l.getD k 0) (seenC (l.take k)) 82 (.int .i64 1) hh.out
      rw [seenC_step _ _ hu, ← take_step (by rw [H.out.len]; exact hk1)] at hstep
      have hn2 := nodup_step (by rw [H.out.len]; exact hk1) hnd.out hx
      have HS := Lib.hid hstep
      have HN := Lib.hid hn2
      clear hstep hn2 hx
      generalize l.getD k 0 = x at *
      go_wp2_with fail
      go_roundw
      case rel => exact ⟨k + 1, by omega, by go_num, HN, HS, HB.out.setCell (Nat.le_refl _) _⟩
      case measure => simp [intOf]; omega
    · obtain rfl : k = n := by omega
      clear hnd hh hB
      go_wp2_with fail
      refine (new_any _).mono ?_
      rintro e w1 ⟨p, rfl, hp, hf, hB1⟩
      have hB1 := HB.out.trans (hB1.mono HB.out.size)
      have HB1 := Lib.hid hB1
      have HF1 := Lib.hid hf
      have hsz1 := hB1.size
      have hp1 := hf.lt
      clear hB1 hf
      go_wp2_with fail
      have hst : ((w1.alloc (.cells #[.pointer (some ⟨p, 0, none⟩)] 84)).alloc (.cells #[.int .u8 1] 5)).ownsRow w.heap.size 5 1 (.slice (some ⟨w1.heap.size + 1, 0, none⟩) 1 1) 1 (bs [1]) := by
        have hn := heap_alloc_new (w1.alloc (.cells #[.pointer (some ⟨p, 0, none⟩)] 84)) (.cells #[.int .u8 1] 5)
        rw [World.size_alloc] at hn
        exact ⟨rfl, .inr ⟨w1.heap.size + 1, 1, #[.int .u8 1], rfl, by omega, hn, Nat.le_refl _, by unfold maxLen; omega, rfl, rfl⟩⟩
      have HST := Lib.hid hst
      clear hst
      go_loopw [10, 11, 43] (fun o al i wr => ∃ j : Nat, j ≤ k ∧ i = .int .i64 j ∧ Hid (wr.ownsRow w.heap.size 5 1 o (thr l ys j).1.length (bs (thr l ys j).1)) ∧ Hid (wr.ownsRow w.heap.size 5 1 al (thr l ys j).2.length (bs (thr l ys j).2)) ∧ Below w.heap.size w wr ∧ wr.cell? ⟨w1.heap.size, 0, none⟩ = some (.pointer (some ⟨p, 0, none⟩)) ∧ Hid (IsF wr p)) (fun _ _ i _ => k - (intOf i).toNat)
      case atStart =>
        exact ⟨0, by omega, rfl, World.ownsRow_nil _ _ _ _, HST.out, (HB1.out.alloc hsz1 _).alloc (by simp; omega) _, ((Boxed.new w1 84 _).alloc _).cell, HF1.out.below (((Below.refl _ _).alloc (Nat.le_refl _) _).alloc (by simp) _) hp1⟩
      case round =>
        obtain ⟨j, hj, rfl, ho1, ho2, hBr, hc9, hfr⟩ := hrel
        have HBr := Lib.hid hBr
        have hsw : w.heap.size ≤ wr.heap.size := hBr.size
        have hl9 := block_lt_of_cell hc9
        obtain ⟨hs1, hs2⟩ := thr_small (xs := l) (ys := ys) HY.out.small j
        obtain ⟨hn1', hn2'⟩ := thr_len l ys j
        by_cases hj1 : j < k
        · obtain ⟨b1, o1, rfl, hcx⟩ := (H.out.below hBr).at_ j hj1
          obtain ⟨b2, o2, rfl, hcy⟩ := (HY.out.below hBr).at_ j hj1
          have hly := block_lt_of_cell hcy
          have hx := H.out.small j
          have hy := HY.out.small j
          have hth : thr l ys (j + 1) = (thrOut (thr l ys j) (l.getD j 0) (ys.getD j 0), mul2 (thr l ys j).2 [l.getD j 0, 1] 2) := rfl
          generalize thr l ys j = s at *
          generalize l.getD j 0 = x at *
          generalize ys.getD j 0 = y at *
          obtain ⟨ao, co, rfl, hro⟩ := own_rb ho1.out hs1 (by omega)
          obtain ⟨aa, ca, rfl, hra⟩ := own_rb ho2.out hs2 (by omega)
          have e1 := mul2_len s.2 [thrBy s x y] 2
          have e2 := mul2_len s.2 [x, 1] 2
          simp only [List.length_cons, List.length_nil] at e1 e2
          have hv1 := vl_lt hs1 x
          have hv2 := vl_lt hs2 x
          have hV1 : ∀ W, Below wr.heap.size wr W → Hid (Calls Try.prog 89 #[.agg #[.pointer (some ⟨p, 0, none⟩)], .slice ao s.1.length co, .int .u8 (x : Nat)] W fun e w' => e = .returned (.int .u8 (vl s.1 x : Nat)) ∧ Hid (Below wr.heap.size wr w') ∧ w'.cell? ⟨b2, o2 + j, none⟩ = some (.int .u8 (y : Nat)) ∧ w'.cell? ⟨w1.heap.size, 0, none⟩ = some (.pointer (some ⟨p, 0, none⟩))) := fun W hW => by
            refine (value_any hx (hfr.out.below hW hfr.out.lt) (hro.below hW)).mono ?_
            rintro e w' ⟨rfl, hB⟩
            have hB0 := hW.trans (hB.mono hW.size)
            exact ⟨rfl, hB0, (hB0.cell (p := ⟨b2, o2 + j, none⟩) hly).trans hcy, (hB0.cell (p := ⟨w1.heap.size, 0, none⟩) hl9).trans hc9⟩
          have hV2 : ∀ W, Below wr.heap.size wr W → Hid (Calls Try.prog 89 #[.agg #[.pointer (some ⟨p, 0, none⟩)], .slice aa s.2.length ca, .int .u8 (x : Nat)] W fun e w' => e = .returned (.int .u8 (vl s.2 x : Nat)) ∧ Hid (Below wr.heap.size wr w') ∧ w'.cell? ⟨w1.heap.size, 0, none⟩ = some (.pointer (some ⟨p, 0, none⟩))) := fun W hW => by
            refine (value_any hx (hfr.out.below hW hfr.out.lt) (hra.below hW)).mono ?_
            rintro e w' ⟨rfl, hB⟩
            have hB0 := hW.trans (hB.mono hW.size)
            exact ⟨rfl, hB0, (hB0.cell (p := ⟨w1.heap.size, 0, none⟩) hl9).trans hc9⟩
          have hms : y ^^^ vl s.1 x < 256 := Gf.xor_lt hy hv1
          have hA1 : ∀ W, Hid (Calls Try.prog 24 #[.int .u8 (y : Nat), .int .u8 (vl s.1 x : Nat)] W fun e w' => e = .returned (.int .u8 (y ^^^ vl s.1 x : Nat)) ∧ W = w') := fun W => add_any y (vl s.1 x) hy hv1 W
          have hby : Gf.mul (y ^^^ vl s.1 x) (Gf.inv (vl s.2 x)) = thrBy s x y := rfl
          have hbl : thrBy s x y < 256 := by rw [← hby]; exact Gf.mul_lt hms
          have hD1 : ∀ W, Below wr.heap.size wr W → Hid (Calls Try.prog 25 #[.pointer (some ⟨p, 0, none⟩), .int .u8 (y ^^^ vl s.1 x : Nat), .int .u8 (vl s.2 x : Nat)] W fun e w' => e = .returned (.tuple #[.int .u8 (thrBy s x y : Nat), .int .i64 (zerr (vl s.2 x))]) ∧ ∃ q, w' = W.drewN q) := fun W hW => by rw [← hby]; exact div_any (hfr.out.below hW hfr.out.lt) hms hv2
          have hsm1 : Small [thrBy s x y] := Small.of_mem (by simp; exact hbl)
          have hsm2 : Small [x, 1] := Small.of_mem (by simp; omega)
          have hM1 : ∀ W, Below wr.heap.size wr W → Hid (Calls Try.prog 90 #[.agg #[.pointer (some ⟨p, 0, none⟩)], .slice (some ⟨W.heap.size + 1, 0, none⟩) (2 : Nat) (2 : Nat)] ((W.alloc (.cells #[.int .u8 (thrBy s x y : Nat)] 5)).alloc (.cells #[.slice aa s.2.length ca, .slice (some ⟨W.heap.size, 0, none⟩) 1 1] 31)) fun e w' => ∃ am cm, e = .returned (.slice am (mul2 s.2 [thrBy s x y] 2).length cm) ∧ Hid (RB w' am (mul2 s.2 [thrBy s x y] 2).length cm (mul2 s.2 [thrBy s x y] 2)) ∧ Hid (Below wr.heap.size wr w') ∧ w'.cell? ⟨w1.heap.size, 0, none⟩ = some (.pointer (some ⟨p, 0, none⟩))) := fun W hW => by
            have hB2 : Below wr.heap.size wr ((W.alloc (.cells #[.int .u8 (thrBy s x y : Nat)] 5)).alloc (.cells #[.slice aa s.2.length ca, .slice (some ⟨W.heap.size, 0, none⟩) 1 1] 31)) := (hW.alloc hW.size _).alloc (by have := hW.size; simp; omega) _
            have hr1 : RB (W.alloc (.cells #[.int .u8 (thrBy s x y : Nat)] 5)) (some ⟨W.heap.size, 0, none⟩) 1 1 [thrBy s x y] := RB.of_block (l := [thrBy s x y]) (m := []) (heap_alloc_new _ _) hsm1 (Nat.le_refl _) (by omega)
            have hn := heap_alloc_new (W.alloc (.cells #[.int .u8 (thrBy s x y : Nat)] 5)) (.cells #[.slice aa s.2.length ca, .slice (some ⟨W.heap.size, 0, none⟩) 1 1] 31)
            rw [World.size_alloc] at hn
            refine (mul90 (hfr.out.below hB2 hfr.out.lt) hn (hra.below hB2) (hr1.alloc _) (by omega)).mono ?_
            rintro e w' ⟨v, rfl, ho, hB⟩
            obtain ⟨am, cm, rfl, hrm⟩ := own_rb ho (mul2_small _ _ _) (by omega)
            have hB0 := hB2.trans (hB.mono hB2.size)
            exact ⟨am, cm, rfl, hrm, hB0, (hB0.cell (p := ⟨w1.heap.size, 0, none⟩) hl9).trans hc9⟩
          have hA2 : ∀ W am cm, Below wr.heap.size wr W → RB W am (mul2 s.2 [thrBy s x y] 2).length cm (mul2 s.2 [thrBy s x y] 2) → Hid (Calls Try.prog 56 #[.slice ao s.1.length co, .slice am (mul2 s.2 [thrBy s x y] 2).length cm] W fun e w' => ∃ au cu, e = .returned (.slice au (thrOut s x y).length cu) ∧ Hid (w'.ownsRow w.heap.size 5 1 (.slice au (thrOut s x y).length cu) (thrOut s x y).length (bs (thrOut s x y))) ∧ Hid (Below wr.heap.size wr w') ∧ w'.cell? ⟨w1.heap.size, 0, none⟩ = some (.pointer (some ⟨p, 0, none⟩))) := fun W am cm hW hm => by
            refine (Add_any (N := max s.1.length (mul2 s.2 [thrBy s x y] 2).length) (hro.below hW) hm (by omega) (by omega) (by omega) (by omega)).mono ?_
            rintro e w' ⟨v, rfl, ho, hB⟩
            have hB0 := hW.trans (hB.mono hW.size)
            have hoo : w'.ownsRow W.heap.size 5 1 v (thrOut s x y).length (bs (thrOut s x y)) := ho
            obtain ⟨au, cu, rfl, _⟩ := own_rb hoo (lean_small (sumTo_small hs1 (mul2_small _ _ _) (by omega) _ (by omega))) (by
              show (lean _).length ≤ _
              rw [length_lean]
              refine Nat.le_trans (ln_le _ _) ?_
              rw [length_sumTo (by omega)]; omega)
            exact ⟨au, cu, rfl, own_mono hoo (Nat.le_trans hsw hW.size), hB0, (hB0.cell (p := ⟨w1.heap.size, 0, none⟩) hl9).trans hc9⟩
          have hM2 : ∀ W, Below wr.heap.size wr W → Hid (Calls Try.prog 90 #[.agg #[.pointer (some ⟨p, 0, none⟩)], .slice (some ⟨W.heap.size + 1, 0, none⟩) (2 : Nat) (2 : Nat)] ((W.alloc (.cells #[.int .u8 (x : Nat), .int .u8 1] 5)).alloc (.cells #[.slice aa s.2.length ca, .slice (some ⟨W.heap.size, 0, none⟩) 2 2] 31)) fun e w' => ∃ am cm, e = .returned (.slice am (mul2 s.2 [x, 1] 2).length cm) ∧ Hid (w'.ownsRow w.heap.size 5 1 (.slice am (mul2 s.2 [x, 1] 2).length cm) (mul2 s.2 [x, 1] 2).length (bs (mul2 s.2 [x, 1] 2))) ∧ Hid (Below W.heap.size W w') ∧ w'.cell? ⟨w1.heap.size, 0, none⟩ = some (.pointer (some ⟨p, 0, none⟩))) := fun W hW => by
            have hBW : Below W.heap.size W ((W.alloc (.cells #[.int .u8 (x : Nat), .int .u8 1] 5)).alloc (.cells #[.slice aa s.2.length ca, .slice (some ⟨W.heap.size, 0, none⟩) 2 2] 31)) := ((Below.refl _ _).alloc (Nat.le_refl _) _).alloc (by simp) _
            have hB2 := hW.trans (hBW.mono hW.size)
            have hr1 : RB (W.alloc (.cells #[.int .u8 (x : Nat), .int .u8 1] 5)) (some ⟨W.heap.size, 0, none⟩) 2 2 [x, 1] := RB.of_block (l := [x, 1]) (m := []) (heap_alloc_new _ _) hsm2 (Nat.le_refl _) (by omega)
            have hn := heap_alloc_new (W.alloc (.cells #[.int .u8 (x : Nat), .int .u8 1] 5)) (.cells #[.slice aa s.2.length ca, .slice (some ⟨W.heap.size, 0, none⟩) 2 2] 31)
            rw [World.size_alloc] at hn
            refine (mul90 (hfr.out.below hB2 hfr.out.lt) hn (hra.below hB2) (hr1.alloc _) (by omega)).mono ?_
            rintro e w' ⟨v, rfl, ho, hB⟩
            obtain ⟨am, cm, rfl, hrm⟩ := own_rb ho (mul2_small _ _ _) (by omega)
            have hBB := hBW.trans (hB.mono hBW.size)
            have hB0 := hW.trans (hBB.mono hW.size)
            exact ⟨am, cm, rfl, own_mono ho (Nat.le_trans hsw (Nat.le_trans hW.size hBW.size)), hBB, (hB0.cell (p := ⟨w1.heap.size, 0, none⟩) hl9).trans hc9⟩
          have HV1 := Lib.hid hV1
          have HV2 := Lib.hid hV2
          have HA1 := Lib.hid hA1
          have HD1 := Lib.hid hD1
          have HM1 := Lib.hid hM1
          have HA2 := Lib.hid hA2
          have HM2 := Lib.hid hM2
          have HQ1 : Hid ((thr l ys (j + 1)).1.length = (thrOut s x y).length ∧ bs (thr l ys (j + 1)).1 = bs (thrOut s x y)) := by rw [hth]; exact ⟨rfl, rfl⟩
          have HQ2 : Hid ((thr l ys (j + 1)).2.length = (mul2 s.2 [x, 1] 2).length ∧ bs (thr l ys (j + 1)).2 = bs (mul2 s.2 [x, 1] 2)) := by rw [hth]; exact ⟨rfl, rfl⟩
          clear hV1 hV2 hA1 hD1 hM1 hA2 hM2 hth hby hro hra hsm1 hsm2 hs1 hs2 hBr
          generalize (mul2 s.2 [thrBy s x y] 2).length = lm at *
          generalize (mul2 s.2 [x, 1] 2).length = lx at *
          generalize (thrOut s x y).length = lq at *
          generalize thrBy s x y = by_ at *
          generalize y ^^^ vl s.1 x = ms at *
          generalize vl s.1 x = v1 at *
          generalize vl s.2 x = v2 at *
          generalize zerr v2 = ze at *
          generalize s.1.length = lo at *
          generalize s.2.length = la at *
          go_wp2_with fail
          go_region_held3 (fun w' => w'.cell? ⟨b2, o2 + j, none⟩ = some (.int .u8 (y : Nat)) ∧ w'.cell? ⟨w1.heap.size, 0, none⟩ = some (.pointer (some ⟨p, 0, none⟩))) (go_keep)
            (first
              | (go_at_call 89; ((with_reducible refine (HV1.out _ ?_).out.mono ?_); (exact (Below.refl _ _).drew); rintro e w5 ⟨rfl, HB5, c5a, c5b⟩))
              | (go_at_call 24; ((with_reducible refine (HA1.out _).out.mono ?_); rintro e w' ⟨rfl, rfl⟩)))
          go_wp2_with fail
          go_region_held3 (fun w' => w'.cell? ⟨w1.heap.size, 0, none⟩ = some (.pointer (some ⟨p, 0, none⟩))) (go_keep)
            (first
              | (go_at_call 89; ((with_reducible refine (HV2.out _ ?_).out.mono ?_); (exact HB5.out.drew); rintro e w6 ⟨rfl, HB6, c6b⟩))
              | (go_at_call 25; ((with_reducible refine (HD1.out _ ?_).out.mono ?_); (exact HB6.out); rintro e w' ⟨rfl, nq, rfl⟩)))
          have HB7 := Lib.hid (below_drewN HB6.out nq)
          have HM1' : Hid (Calls Try.prog 90 #[.agg #[.pointer (some ⟨p, 0, none⟩)], .slice (some ⟨w6.heap.size + 1, 0, none⟩) 2 2] (((w6.drewN nq).alloc (.cells #[.int .u8 (by_ : Nat)] 5)).alloc (.cells #[.slice aa la ca, .slice (some ⟨w6.heap.size, 0, none⟩) 1 1] 31)) _) := HM1.out (w6.drewN nq) HB7.out
          go_wp2_with fail
          refine HM1'.out.mono ?_
          rintro e w8 ⟨am, cm, rfl, hrm, HB8, c8b⟩
          clear HM1'
          go_wp2_with (first
            | (go_at_call 56; ((with_reducible refine (HA2.out _ _ _ HB8.out hrm.out).out.mono ?_); rintro e w9 ⟨au, cu, rfl, HO9, HB9, c9b⟩))
            | (go_at_call 90; ((with_reducible refine (HM2.out _ HB9.out).out.mono ?_); rintro e w10 ⟨ax, cx, rfl, HO10, HB10, c10b⟩)))
          go_roundw
          case rel => exact ⟨j + 1, by omega, by go_num, (by rw [HQ1.out.1, HQ1.out.2]; exact own_below HO9.out HB10.out), (by rw [HQ2.out.1, HQ2.out.2]; exact HO10.out), HBr.out.trans ((HB9.out.trans (HB10.out.mono HB9.out.size)).mono hsw), c10b, hfr.out.below (HB9.out.trans (HB10.out.mono HB9.out.size)) hfr.out.lt⟩
          case measure => simp [intOf]; omega
        · obtain rfl : j = k := by omega
          have hlen := thr_len l ys j
          obtain ⟨ao, co, rfl, hro⟩ := own_rb ho1.out hs1 (by omega)
          have HL := Lib.hid (Lean_any hro)
          clear hro hs1 hs2 hBr
          go_wp2_with (go_at_call 47; ((with_reducible refine HL.out.mono ?_); rintro e w5 ⟨v, rfl, hO, hB5⟩; have HO := Lib.hid (own_mono hO hsw); have HB5 := Lib.hid hB5; clear hO hB5))
          go_ret2
          exact ⟨_, rfl, HO.out, HBr.out.trans (HB5.out.mono hsw)⟩
end Go.Proofs.Ytokeoodkioobdaa
