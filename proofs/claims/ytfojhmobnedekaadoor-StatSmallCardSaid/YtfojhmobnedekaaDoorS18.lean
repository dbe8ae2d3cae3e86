/- The walk of the document's Right. No condition. -/
import Derived.Test.YtfojhmobnedekaaDoorS17
namespace Go.Proofs.YtfojhmobnedekaaDoor
open Go.RowKit

theorem post_bool {e : Ending} {t : Bool} {R : Prop} (he : e = .returned (.bool t)) (h : t = true ↔ R) : ∃ t, e = .returned (.bool t) ∧ (t = true ↔ R) := ⟨t, he, h⟩
def RRPost (v : Nat → Int) (w : World) (e : Ending) (w' : World) : Prop := (∃ t, e = .returned (.bool t) ∧ (t = true ↔ RightV v)) ∧ Below w.heap.size w w'
theorem rpost {v : Nat → Int} {w w' : World} {e : Ending} {t : Bool} (he : e = .returned (.bool t)) (h : t = true ↔ RightV v) (hB : Below w.heap.size w w') : RRPost v w e w' := ⟨⟨t, he, h⟩, hB⟩
def s7 (v : Nat → Int) : Nat → Int
  | 0 => 0
  | k + 1 => s7 v k + v (4 + k)
theorem s7_in {v : Nat → Int} (h : ∀ j, j < 17 → inR (v (of_ j))) : ∀ k, k ≤ 7 → 0 ≤ s7 v k ∧ s7 v k ≤ k * 2147483647
  | 0, _ => by simp [s7]
  | k + 1, hk => by
    have h1 := s7_in h k (by omega)
    have h2 := h (3 + k) (by omega)
    rw [of7 k (by omega), show 3 + (k + 1) = 4 + k by omega] at h2
    unfold inR at h2
    unfold s7; omega
theorem s7_all (v : Nat → Int) : s7 v 7 = v 4 + (v 5 + (v 6 + (v 7 + (v 8 + (v 9 + v 10))))) := by
  show (((((((0 : Int) + v 4) + v 5) + v 6) + v 7) + v 8) + v 9) + v 10 = _
  omega
set_option maxRecDepth 100000 in
set_option maxHeartbeats 2400000 in
theorem rright_in (v : Nat → Int) (w : World) : Calls Tryd.prog 26 #[.agg (stC v)] w (RRPost v w) := by
  have HS0 := Lib.hid (StAt.new' w v)
  have HB0 := Lib.hid ((Below.refl w.heap.size w).alloc (Nat.le_refl _) (.cells (stC v) 38))
  have HC := Lib.hid (counts38 v (w.alloc (.cells (stC v) 38)))
  go_enter Tryd.func26, Tryd.ntmps26
  go_wp2_with (refine wpList_load_row rfl 38 (.tmp 1) rfl w.heap.size rfl 38 (stC v) (0, 0) _ HS0.out Tryd.underlying38 rfl info38 ?_)
  refine HC.out.mono ?_
  rintro e w1 ⟨⟨a, cap, rfl, b, off, rfl, hr⟩, hB⟩
  have HS1 := Lib.hid (HS0.out.below hB HS0.out.lt)
  have HB1 := Lib.hid (HB0.out.trans (hB.mono (by simp)))
  have HR := Lib.hid hr
  clear hB hr HS0 HB0 HC
  go_wp2_with fail
  go_loop [4] (fun i => ∃ k : Nat, k ≤ 17 ∧ i = .int .i64 k ∧ Hid (∀ j, j < k → inR (v (of_ j)))) (fun i => 17 - (intOf i).toNat)
  case atStart => exact ⟨0, Nat.zero_le _, rfl, fun j hj => absurd hj (by omega)⟩
  case round =>
    obtain ⟨k, hk, rfl, HI⟩ := hrel
    by_cases hk1 : k < 17
    · have c0 := HR.out k hk1
      have HX := Lib.hid (show (∀ j, j < k + 1 → inR (v (of_ j))) ↔ inR (v (of_ k)) from ⟨fun h => h k (by omega), fun h j hj => (by
        by_cases e : j = k
        · rw [e]; exact h
        · exact HI.out j (by omega))⟩)
      have HN := Lib.hid (show RightV v → inR (v (of_ k)) from fun h => h.1 k hk1)
      generalize v (of_ k) = x at *
      have q0 : decide ((k : Int) < 17) = true := by simp; omega
      by_cases h1 : x < 0
      · have d1 : decide (x < 0) = true := decide_eq_true h1
        go_wp2_with fail
        go_ret
        have HH := Lib.hid (show (false = true ↔ RightV v) from ⟨fun h => (by cases h), fun h => (by have := HN.out h; unfold inR at this; omega)⟩)
        exact rpost rfl HH.out HB1.out
      · have d1 : decide (x < 0) = false := decide_eq_false h1
        by_cases h2 : 2147483647 < x
        · have d2 : decide (2147483647 < x) = true := decide_eq_true h2
          go_wp2_with fail
          go_ret
          have HH := Lib.hid (show (false = true ↔ RightV v) from ⟨fun h => (by cases h), fun h => (by have := HN.out h; unfold inR at this; omega)⟩)
          exact rpost rfl HH.out HB1.out
        · have d2 : decide (2147483647 < x) = false := decide_eq_false h2
          go_wp2_with fail
          go_round
          case rel => exact ⟨k + 1, by omega, by go_num, HX.out.2 (by unfold inR; omega)⟩
          case measure => simp [intOf]; omega
    · obtain rfl : k = 17 := by omega
      simp only [show ((17 : Nat) : Int) = 17 from rfl]
      go_wp2_with fail
      go_loop [5, 6] (fun s i => ∃ k : Nat, k ≤ 7 ∧ i = .int .i64 ((k : Int) + 1) ∧ s = .int .i64 (s7 v k)) (fun _ i => 9 - (intOf i).toNat)
      case atStart => exact ⟨0, Nat.zero_le _, rfl, rfl⟩
      case round =>
        obtain ⟨k, hk, rfl, rfl⟩ := hrel
        have p0 := s7_in HI.out k hk
        by_cases hk1 : k < 7
        · have c0 : w1.cell? ⟨w.heap.size, 3 + (k + 1), none⟩ = some (.int .i64 (v (4 + k))) := by rw [HS1.out.cell (k := 3 + (k + 1)) (by omega), show 3 + (k + 1) = 4 + k by omega]
          have HQ := Lib.hid (show s7 v (k + 1) = s7 v k + v (4 + k) from rfl)
          have p1 := s7_in HI.out (k + 1) (by omega)
          rw [HQ.out] at p1
          generalize s7 v k = t at *
          generalize v (4 + k) = x at *
          go_wp2_with fail
          go_round
          case rel => exact ⟨k + 1, by omega, by go_num, by rw [HQ.out]⟩
          case measure => simp [intOf]; omega
        · obtain rfl : k = 7 := by omega
          simp only [show ((7 : Nat) : Int) + 1 = 8 from rfl]
          have c3 := HS1.out.cell (k := 3) (by omega)
          have c11 := HS1.out.cell (k := 11) (by omega)
          have c2 := HS1.out.cell (k := 2) (by omega)
          have HF := Lib.hid (show v 3 = 0 → v 11 = 0 → v 2 = min (s7 v 7) 2147483647 → RightV v from fun h1 h2 h3 => ⟨HI.out, h1, h2, by rw [h3, s7_all]⟩)
          have HG := Lib.hid (show RightV v → v 3 = 0 ∧ v 11 = 0 ∧ v 2 = min (s7 v 7) 2147483647 from fun h => ⟨h.2.1, h.2.2.1, by rw [h.2.2.2, s7_all]⟩)
          generalize s7 v 7 = t at *
          generalize v 3 = y3 at *
          generalize v 11 = y11 at *
          generalize v 2 = y2 at *
          by_cases e3 : y3 = 0
          · subst e3
            by_cases e11 : y11 = 0
            · subst e11
              by_cases e2 : y2 = min t 2147483647
              · have q2 : (y2 == min t 2147483647) = true := by simp [e2]
                have HH := Lib.hid (HF.out rfl rfl e2)
                clear e2
                go_wp2_with fail
                go_ret
                exact rpost (t := true) rfl ⟨fun _ => HH.out, fun _ => rfl⟩ HB1.out
              · have q2 : (y2 == min t 2147483647) = false := by simp [e2]
                have hf : (false = true ↔ RightV v) := ⟨fun h => (by cases h), fun h => absurd (HG.out h).2.2 e2⟩
                have HH := Lib.hid hf
                clear e2 hf
                go_wp2_with fail
                go_ret
                exact rpost rfl HH.out HB1.out
            · have q2 : (y11 == 0) = false := by simp [e11]
              have HH := Lib.hid (show (false = true ↔ RightV v) from ⟨fun h => (by cases h), fun h => absurd (HG.out h).2.1 e11⟩)
              go_wp2_with fail
              go_ret
              exact rpost rfl HH.out HB1.out
          · have q2 : (y3 == 0) = false := by simp [e3]
            have HH := Lib.hid (show (false = true ↔ RightV v) from ⟨fun h => (by cases h), fun h => absurd (HG.out h).1 e3⟩)
            go_wp2_with fail
            go_ret
            exact rpost rfl HH.out HB1.out
theorem rright_any (v : Nat → Int) (w : World) : Calls Tryd.prog 26 #[.agg (stC v)] w fun e w' => (∃ t, e = .returned (.bool t) ∧ (t = true ↔ RightV v)) ∧ Below w.heap.size w w' := rright_in v w
end Go.Proofs.YtfojhmobnedekaaDoor
