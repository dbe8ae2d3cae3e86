/- The walk of the law FateSmall. -/
import Derived.Test.YtfojhmobnedekaaFate17
namespace Go.Proofs.Ytfojhmobnedekaa
open Go.RowKit

def sml : List Int := [-9223372036854775808, -2147483648, -2147483647, -1, 0, 1, 7, 8, 1999, 2000, 2001, 2147483647, 2147483648, 9223372036854775807]
def smlv : Array Value := #[.int .i64 (-9223372036854775808), .int .i64 (-2147483648), .int .i64 (-2147483647), .int .i64 (-1), .int .i64 0, .int .i64 1, .int .i64 7, .int .i64 8, .int .i64 1999, .int .i64 2000, .int .i64 2001, .int .i64 2147483647, .int .i64 2147483648, .int .i64 9223372036854775807]
theorem sml_at {r : Nat} (h : r < 14) : ∃ v : Int, smlv[r]? = some (.int .i64 v) ∧ -9223372036854775808 ≤ v ∧ v ≤ 9223372036854775807 := by
  have : r = 0 ∨ r = 1 ∨ r = 2 ∨ r = 3 ∨ r = 4 ∨ r = 5 ∨ r = 6 ∨ r = 7 ∨ r = 8 ∨ r = 9 ∨ r = 10 ∨ r = 11 ∨ r = 12 ∨ r = 13 := by omega
  rcases this with rfl | rfl | rfl | rfl | rfl | rfl | rfl | rfl | rfl | rfl | rfl | rfl | rfl | rfl <;> exact ⟨_, rfl, by decide, by decide⟩
/-- Rows of fates from a place on. -/
theorem RF.drop {w : World} {g n k : Nat} {l : List Ft} (hg : w.heap[g]? = some (.cells (fcs l).toArray 24 (0, 0))) (hn : l.length = n) (hk : k ≤ n) (hm : n ≤ 1000000) : RF w (some ⟨g, k * 4, none⟩) (n - k) (n - k) (l.drop k) where
  len := by rw [List.length_drop, hn]
  le := Nat.le_refl _
  most := by omega
  nil h := by cases h
  at_ j u hu := ⟨g, k * 4, rfl, by
    have e : fcs l = fcs (l.take k) ++ fcs (l.drop k) := by rw [← fcs_append, List.take_append_drop]
    have hl : (fcs (l.take k)).length = k * 4 := by rw [length_fcs, List.length_take]; omega
    rw [cell_of_block hg, List.getElem?_toArray, e, List.getElem?_append_right (by omega), hl, Nat.add_sub_cancel_left, hu]⟩

set_option maxHeartbeats 6400000 in
set_option maxRecDepth 100000 in
theorem fsmall_any (w : World) : Calls Try.prog 7 #[] w fun e w' => e = .returned (.bool true) ∧ Below w.heap.size w w' := by
  go_enter Try.func7, Try.ntmps7
  go_upto_region 3 with fail
  have hg1 : ((w.alloc (.cells smlv 3)).alloc (.cells #[.int .u8 0, .int .u8 255, .int .u8 85] 5)).heap[w.heap.size]? = some (.cells smlv 3 (0, 0)) := (Below.heap_alloc _ _ w.heap.size (by simp)).trans (heap_alloc_new _ _)
  have hrb : RB ((w.alloc (.cells smlv 3)).alloc (.cells #[.int .u8 0, .int .u8 255, .int .u8 85] 5)) (some ⟨w.heap.size + 1, 0, none⟩) 3 3 [0, 255, 85] := by
    have := three_rb (w.alloc (.cells smlv 3)) 0 255 85 (by omega) (by omega) (by omega)
    rwa [World.size_alloc] at this
  have hbl : Below w.heap.size w ((w.alloc (.cells smlv 3)).alloc (.cells #[.int .u8 0, .int .u8 255, .int .u8 85] 5)) := ((Below.refl _ _).alloc (Nat.le_refl _) _).alloc (by simp) _
  obtain ⟨W0, hW0⟩ : ∃ W0, W0 = (w.alloc (.cells smlv 3)).alloc (.cells #[.int .u8 0, .int .u8 255, .int .u8 85] 5) := ⟨_, rfl⟩
  change Code.wp _ _ _ _ ((w.alloc (.cells smlv 3)).alloc (.cells #[.int .u8 0, .int .u8 255, .int .u8 85] 5))
  rw [← hW0] at hg1 hrb hbl ⊢
  have HG := Lib.hid hg1
  have HR := Lib.hid hrb
  have HB := Lib.hid hbl
  clear hg1 hrb hbl hW0
  go_wp2_with fail
  go_loopw [3, 4, 5, 6, 7, 8] (fun a3 _ _ _ _ _ wr => ∃ k : Int, -1 ≤ k ∧ k ≤ 5 ∧ a3 = .int .i64 k ∧ Hid (Below W0.heap.size W0 wr)) (fun a3 _ _ _ _ _ _ => (5 - intOf a3).toNat)
  case atStart => exact ⟨-1, by omega, by omega, rfl, Below.refl _ _⟩
  case round =>
    obtain ⟨k, hk0, hk1, rfl, HK⟩ := hrel
    by_cases hk2 : k < 5
    · have d1 : decide (k < 5) = true := decide_eq_true hk2
      go_wp2_with fail
      go_loopw [4, 5, 6, 7, 8] (fun a4 _ _ _ _ wq => ∃ j : Nat, j ≤ 196 ∧ a4 = .int .i64 j ∧ Hid (Below W0.heap.size W0 wq)) (fun a4 _ _ _ _ _ => 196 - (intOf a4).toNat)
      case atStart => exact ⟨0, by omega, rfl, HK.out⟩
      case round =>
        obtain ⟨j, hj0, rfl, HJ⟩ := hrel
        by_cases hj1 : j < 196
        · have d2 : decide ((j : Int) < 196) = true := decide_eq_true (by omega)
          have hm14 : (j : Int) % 14 = ((j % 14 : Nat) : Int) := by omega
          have hq14 : (j : Int) / 14 = ((j / 14 : Nat) : Int) := by omega
          have hm4 : (j : Int) % 4 = ((j % 4 : Nat) : Int) := by omega
          have hm9 : (j : Int) % 9 = ((j % 9 : Nat) : Int) := by omega
          have hr1 : ((j % 14 : Nat) : Int) < 14 := by omega
          have hr2 : ((j / 14 : Nat) : Int) < 14 := by omega
          have hr3 : j % 4 < 4 := by omega
          have hr9 : j % 9 < 9 := by omega
          obtain ⟨v1, e1, h10, h11⟩ := sml_at (r := j % 14) (by omega)
          obtain ⟨v2, e2, h20, h21⟩ := sml_at (r := j / 14) (by omega)
          have f1 := (HJ.out.cell (lt_of_block HG.out)).trans ((cell_of_block (j := j % 14) HG.out).trans e1)
          have f2 := (HJ.out.cell (lt_of_block HG.out)).trans ((cell_of_block (j := j / 14) HG.out).trans e2)
          generalize j % 14 = r1 at *
          generalize j / 14 = r2 at *
          generalize j % 4 = r4 at *
          generalize j % 9 = r9 at *
          have HV := Lib.hid (And.intro (And.intro h10 h11) (And.intro h20 h21))
          clear e1 e2 h10 h11 h20 h21
          go_upto_region 9 with fail
          go_quiet (fail)
          go_upto_region 11 with fail
          obtain ⟨fl, hfl⟩ : ∃ fl : List Ft, fl = [⟨k, v1, v2, 0⟩, ⟨k, 5, v1, v2⟩, ⟨k, 0, 0, v1⟩] := ⟨_, rfl⟩
          have hfc : #[Value.int .i64 k, .int .i64 v1, .int .i64 v2, .int .i64 0, .int .i64 k, .int .i64 5, .int .i64 v1, .int .i64 v2, .int .i64 k, .int .i64 0, .int .i64 0, .int .i64 v1] = (fcs fl).toArray := by rw [hfl]; rfl
          have hfn : fl.length = 3 := by rw [hfl]; rfl
          rw [hfc]
          have hg7 : ((wr.drewN nq).alloc (.cells (fcs fl).toArray 24)).heap[wr.heap.size]? = some (.cells (fcs fl).toArray 24 (0, 0)) := heap_alloc_new (wr.drewN nq) (.cells (fcs fl).toArray 24)
          have hb7 : Below W0.heap.size W0 ((wr.drewN nq).alloc (.cells (fcs fl).toArray 24)) := (below_drewN HJ.out nq).alloc (show W0.heap.size ≤ (wr.drewN nq).heap.size from HJ.out.size) _
          generalize (wr.drewN nq).alloc (.cells (fcs fl).toArray 24) = W1 at *
          generalize wr.heap.size = g7 at *
          have HG7 := Lib.hid hg7
          have HB7 := Lib.hid hb7
          have HFN := Lib.hid hfn
          clear hfl hfc hg7 hb7 hfn f1 f2 HJ HK
          go_wp2_with fail
          go_loopw [8] (fun a8 wx => ∃ i : Nat, i ≤ 3 ∧ a8 = .int .i64 i ∧ Hid (Below W1.heap.size W1 wx)) (fun a8 _ => 3 - (intOf a8).toNat)
          case atStart => exact ⟨0, by omega, rfl, Below.refl _ _⟩
          case round =>
            obtain ⟨i, hi0, rfl, HX⟩ := hrel
            by_cases hi1 : i < 3
            · have d3 : decide ((i : Int) < 3) = true := decide_eq_true (by omega)
              have hg7 := (HX.out.block g7 (lt_of_block HG7.out)).trans HG7.out
              have hrf := RF.drop hg7 HFN.out hi0 (by omega)
              obtain ⟨b, off, x, e, hx, e0, e1, e2, e3⟩ := (RF.drop (k := 0) hg7 HFN.out (by omega) (by omega)).four (k := i) hi1
              obtain ⟨rfl, rfl⟩ : g7 = b ∧ 0 * 4 = off := by injection e with e; injection e with e3 e4; exact ⟨e3, e4⟩
              rw [Nat.zero_mul, Nat.zero_add] at e0 e1 e2 e3
              have F0 := lies_cell e0
              have F1 := lies_cell e1
              have F2 := lies_cell e2
              have F3 := lies_cell e3
              have hrb := (HR.out.below HB7.out).below HX.out
              have H6 := Lib.hid fun x : Lies wr => ftells_any (i := (r4 : Int) - 1) (hrf.below x.below) (by omega) (by omega)
              have hrb4 : RB wr (some ⟨w.heap.size + 1, 0, none⟩) r4 3 ([0, 255, 85].take r4) := ⟨by simp; omega, by omega, by omega, fun i => by
                have := hrb.small i
                rw [List.getD_eq_getElem?_getD, List.getElem?_take]
                split
                · rwa [← List.getD_eq_getElem?_getD]
                · decide, fun h => (by cases h), fun i hi => by
                obtain ⟨b, o, e, hc⟩ := hrb.at_ i (by omega)
                refine ⟨b, o, e, ?_⟩
                rw [hc, List.getD_eq_getElem?_getD, List.getD_eq_getElem?_getD, List.getElem?_take, if_pos hi]⟩
              have H3 := Lib.hid fun x' : Lies wr => flands_any (k := x.k) (b := x.b) (al := x.a) (pl := x.p) (now := v2) (bit := v1) (hrb4.below x'.below) HV.out.1.2
              have H3b := Lib.hid fun x' : Lies wr => flands_any (k := x.k) (b := x.b) (al := x.a) (pl := x.p) (now := (r9 : Int)) (bit := (j : Int) - 4) (hrb.below x'.below) (by omega)
              have hw4 : IntKind.i64.wrap ((r4 : Int) - 1) = (r4 : Int) - 1 := IntWalk.i64_in _ (by omega)
              have hwj : IntKind.i64.wrap ((j : Int) - 4) = (j : Int) - 4 := IntWalk.i64_in _ (by omega)
              have d4 : decide (r4 ≤ 3) = true := decide_eq_true (by omega)
              have d5 : decide ((r4 : Int) ≤ 3) = true := decide_eq_true (by omega)
              clear hg7 hrf hx e e0 e1 e2 e3 hrb hrb4
              go_upto_region 14 with fail
              refine region_lies (by kernel_rfl) (by kernel_rfl) ?_
              repeat (go_big_quiet_step (first
                | (go_at_call 6; exact Lies.call (H6.out _))
                | (go_at_call 3; with_reducible exact Lies.call (H3.out _))
                | (go_at_call 3; with_reducible exact Lies.call (H3b.out _))))
              refine wpQuiet_nil ?_
              intro _ hw'
              obtain ⟨xw, hw''⟩ := hw'
              subst hw''
              go_wp2_with fail
              go_roundw
              case rel => exact ⟨i + 1, by omega, by go_num, HX.out.trans (xw.below.mono HX.out.size)⟩
              case measure => simp [intOf]; omega
            · obtain rfl : i = 3 := by omega
              simp only [show ((3 : Nat) : Int) = 3 from rfl]
              go_wp2_with fail
              go_roundw
              case rel => exact ⟨j + 1, by omega, by go_num, HB7.out.trans (HX.out.mono HB7.out.size)⟩
              case measure => simp [intOf]; omega
        · obtain rfl : j = 196 := by omega
          simp only [show ((196 : Nat) : Int) = 196 from rfl]
          have hwk : IntKind.i64.wrap (k + 1) = k + 1 := IntWalk.i64_in _ (by omega)
          go_wp2_with fail
          go_roundw
          case rel => exact ⟨k + 1, by omega, by omega, rfl, HJ.out⟩
          case measure => simp [intOf]; omega
    · obtain rfl : k = 5 := by omega
      have HK2 := Lib.hid (HB.out.trans (HK.out.mono HB.out.size))
      have hnil : RF wr none 0 0 [] := ⟨rfl, Nat.le_refl _, by omega, fun _ => rfl, fun j u hu => absurd hu (by simp [fcs])⟩
      have H6 := Lib.hid (ftells_any (i := 0) hnil (by omega) (by omega))
      clear hnil
      go_wp2_with fail
      refine H6.out.mono ?_
      rintro e w6 ⟨rfl, hB6⟩
      have HB6 := Lib.hid (HK2.out.trans (hB6.mono HK2.out.size))
      have H3 := Lib.hid (flands_any (k := 0) (b := 0) (al := 0) (pl := 0) (now := 0) (bit := 0) (rb_nil w6) (by omega))
      clear hB6 H6
      go_wp2_with fail
      refine H3.out.mono ?_
      rintro e w7 ⟨rfl, hB7⟩
      have HB7 := Lib.hid (HB6.out.trans (hB7.mono HB6.out.size))
      have H14 := Lib.hid (awake_any w7)
      clear hB7 H3
      go_wp2_with fail
      refine H14.out.mono ?_
      rintro e w8 ⟨rfl, hB8⟩
      have HB8 := Lib.hid (HB7.out.trans (hB8.mono HB7.out.size))
      clear hB8 H14
      go_wp2_with fail
      go_ret
      exact ⟨rfl, HB8.out⟩
end Go.Proofs.Ytfojhmobnedekaa
