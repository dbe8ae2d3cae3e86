/- Rows of fates: KeptFates, and one at a place. Conditions: rows are shorter than 2 to the 40. -/
import Derived.Test.YtfojhmobnedekaaFate15
import Derived.Test.YtfojhmobnedekaaLies
namespace Go.Proofs.Ytfojhmobnedekaa
open Go.RowKit

def FLent (w : World) (g : Nat) (l : List Ft) : Prop := w.heap[g]? = some (.cells (fcs (l ++ fmarks 12)).toArray 24 (0, 0))
theorem FLent.rf {w : World} {g n : Nat} {l : List Ft} (h : FLent w g l) (hn : l.length = n) (hm : n ≤ 1000000) : RF w (some ⟨g, 0, none⟩) n (n + 12) l := by
  subst hn; exact RF.of_block h (by omega) (by omega)
theorem FLent.all {w : World} {g n : Nat} {l : List Ft} (h : FLent w g l) (hn : l.length = n) (hm : n ≤ 1000000) : RF w (some ⟨g, 0, none⟩) (n + 12) (n + 12) (l ++ fmarks 12) := by
  subst hn
  have e : l.length + 12 = (l ++ fmarks 12).length := by rw [List.length_append, length_fmarks]
  rw [e]
  exact RF.of_block (m := []) (by rw [List.append_nil]; exact h) (Nat.le_refl _) (by omega)
theorem FLent.below {w w' : World} {g B : Nat} {l : List Ft} (h : FLent w g l) (hB : Below B w w') (hg : g < B) : FLent w' g l := (hB.block g hg).trans h
theorem FLent.lt {w : World} {g : Nat} {l : List Ft} (h : FLent w g l) : g < w.heap.size := lt_of_block h

set_option maxHeartbeats 3200000 in
set_option maxRecDepth 100000 in
/-- KeptFates: what was lent is as it was. -/
theorem keptF_any {w : World} {a : Option Addr} {n cap g : Nat} {l : List Ft} (h : RF w a n cap l) (hl : FLent w g l) (hn : n ≤ 1000000) :
    Calls Try.prog 31 #[.slice (some ⟨g, 0, none⟩) n (n + 12), .slice a n cap] w fun e w' => e = .returned (.bool true) ∧ Below w.heap.size w w' := by
  have hlen := h.len
  have hmost := h.most
  have hle := h.le
  have H := Lib.hid h
  have HL := Lib.hid hl
  have HN := Lib.hid hlen
  clear h hl hlen
  go_enter Try.func31, Try.ntmps31
  go_wp2_with fail
  go_loopw [6] (fun i wr => ∃ k : Nat, k ≤ n + 12 ∧ i = .int .i64 k ∧ Hid (Below w.heap.size w wr)) (fun i _ => n + 12 - (intOf i).toNat)
  case atStart => exact ⟨0, by omega, rfl, Below.refl _ _⟩
  case round =>
    obtain ⟨k, hk, rfl, HD⟩ := hrel
    have HL2 := Lib.hid (HL.out.below HD.out HL.out.lt)
    by_cases hk1 : k < n
    · obtain ⟨b, off, x, rfl, hx, e0, e1, e2, e3⟩ := (H.out.below HD.out).four hk1
      obtain ⟨b2, off2, y, e, hy, f0, f1, f2, f3⟩ := (HL2.out.all HN.out hn).four (k := k) (by omega)
      obtain ⟨rfl, rfl⟩ : g = b2 ∧ 0 = off2 := by injection e with e; injection e with e3 e4; exact ⟨e3, e4⟩
      obtain rfl : x = y := by
        rw [List.getElem?_append_left (by rw [HN.out]; exact hk1), hx] at hy
        exact Option.some.inj hy
      rw [Nat.zero_add] at f0 f1 f2 f3
      clear hx hy e
      have d1 : decide ((k : Int) < (n : Int)) = true := by simp; omega
      have d2 : decide ((k : Int) < (n : Int) + 12) = true := by simp; omega
      have d3 : ((k : Int) < (n : Int)) := by omega
      have d4 : decide (n ≤ k) = false := by simp; omega
      have d5 : decide (k < n) = true := by simp; omega
      obtain ⟨xk, xb, xa, xp⟩ := x
      go_wp2_with fail
      go_quiet (fail)
      go_wp2_with fail
      go_roundw
      case rel => exact ⟨k + 1, by omega, by go_num, HD.out.trans (below_drewN (Below.refl _ _) _)⟩
      case measure => simp [intOf]; omega
    · by_cases hk2 : k < n + 12
      · obtain ⟨b2, off2, y, e, hy, f0, f1, f2, f3⟩ := (HL2.out.all HN.out hn).four (k := k) hk2
        obtain ⟨rfl, rfl⟩ : g = b2 ∧ 0 = off2 := by injection e with e; injection e with e3 e4; exact ⟨e3, e4⟩
        obtain rfl : y = fmk (k - n) := by
          rw [List.getElem?_append_right (by rw [HN.out]; omega), HN.out, fmarks, List.getElem?_map, List.getElem?_range (by omega)] at hy
          exact (Option.some.inj hy).symm
        have hm := fun w => markFate_any 1 ((k - n : Nat) : Int) w
        have HM := Lib.hid hm
        have hs : (k : Int) - (n : Int) = ((k - n : Nat) : Int) := by omega
        clear hm hy e
        simp only [fmk, Nat.zero_add] at f0 f1 f2 f3
        generalize mkF 1 ((k - n : Nat) : Int) = x at *
        have hj : k - n < 12 := by omega
        generalize k - n = j at *
        have hwj : IntKind.i64.wrap (j : Int) = (j : Int) := IntWalk.i64_in _ (by omega)
        have d1 : decide ((k : Int) < (n : Int)) = false := by simp; omega
        have d2 : decide ((k : Int) < (n : Int) + 12) = true := by simp; omega
        have d3 : ((k : Int) < (n : Int) + 12) := by omega
        have d4 : decide (n ≤ k) = true := by simp; omega
        have d5 : decide (k < n) = false := by simp; omega
        go_upto_region 7 with fail
        have F0 := lies_cell f0
        have F1 := lies_cell f1
        have F2 := lies_cell f2
        have F3 := lies_cell f3
        refine region_lies (by kernel_rfl) (by kernel_rfl) ?_
        repeat (go_big_quiet_step ((go_at_call 66; exact Lies.call ((HM.out _).mono fun e w' h => ⟨h.1, h.2 ▸ (Below.refl _ _).alloc (Nat.le_refl _) _⟩))))
        refine wpQuiet_nil ?_
        intro _ hw'
        obtain ⟨xw, hw''⟩ := hw'
        subst hw''
        go_wp2_with fail
        go_roundw
        case rel => exact ⟨k + 1, by omega, by go_num, HD.out.trans (xw.below.mono HD.out.size)⟩
        case measure => simp [intOf]; omega
      · obtain rfl : k = n + 12 := by omega
        go_wp2_with fail
        go_ret
        exact ⟨rfl, HD.out⟩
end Go.Proofs.Ytfojhmobnedekaa
