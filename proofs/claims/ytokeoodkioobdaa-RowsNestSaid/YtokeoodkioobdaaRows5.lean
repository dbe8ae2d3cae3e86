/- The walks of rows' Unit, Rank, Mul, Apply. Conditions: there are at most 1000 rows, each of at most 1000 places. -/
import Derived.Test.YtokeoodkioobdaaRows4
namespace Go.Proofs.Ytokeoodkioobdaa
open Go.RowKit

theorem Unit_bad {w : World} {n : Int} (h : n < 0 ∨ 255 < n) : Calls Try.prog 70 #[.int .i64 n] w fun e w' => e = .returned (.tuple #[.slice none 0 0, .int .i64 2]) ∧ w = w' := by
  rcases h with h | h
  · go_enter Try.func70, Try.ntmps70
    go_wp2_with fail
    go_ret2
    exact ⟨rfl, rfl⟩
  · have h0 : decide (n < 0) = false := by simp; omega
    go_enter Try.func70, Try.ntmps70
    go_wp2_with fail
    go_ret2
    exact ⟨rfl, rfl⟩

/-- The unit's first k rows. -/
def unitTo (n k : Nat) : Nat → List Nat := fun r => if r < k then Gf.unitX n r else List.replicate n 0
theorem unitTo_len (n k r : Nat) : (unitTo n k r).length = n := by
  unfold unitTo; split
  · exact Gf.unitX_len n r
  · exact List.length_replicate

set_option maxHeartbeats 3200000 in
set_option maxRecDepth 100000 in
theorem Unit_ok {w : World} {n : Nat} (hn : n ≤ 255) : Calls Try.prog 70 #[.int .i64 (n : Nat)] w fun e w' => ∃ g p d, e = .returned (.tuple #[.slice (some ⟨g, 0, none⟩) n n, .int .i64 0]) ∧ GridTo w' w.heap.size (.slice (some ⟨g, 0, none⟩) n n) n n p d (Gf.unitX n) ∧ Below w.heap.size w w' := by
  have d1 : decide ((n : Int) < 0) = false := by simp
  have d2 : decide (255 < (n : Int)) = false := by simp; omega
  have d3 : decide (255 < n) = false := by simp; omega
  go_enter Try.func70, Try.ntmps70
  go_wp2_with fail
  refine (blank_any (by omega) (by omega)).mono ?_
  rintro e w1 ⟨g, p, d, rfl, hG, hB⟩
  have HG0 := Lib.hid (hG.congr (Y := unitTo n 0) fun i _ => if_neg (Nat.not_lt_zero i))
  have HB0 := Lib.hid hB
  clear hG hB
  go_wp2_with fail
  go_loopw [17] (fun i wr => ∃ k : Nat, k ≤ n ∧ i = .int .i64 k ∧ Hid (GridTo wr w.heap.size (.slice (some ⟨g, 0, none⟩) n n) n n p d (unitTo n k)) ∧ Hid (Below w.heap.size w wr)) (fun i _ => n - (intOf i).toNat)
  case atStart => exact ⟨0, Nat.zero_le _, rfl, HG0, HB0⟩
  case round =>
    clear HG0 HB0
    obtain ⟨k, hk, rfl, HG, HB⟩ := hrel
    by_cases hk1 : k < n
    · obtain ⟨hc, hfz, ho, hpg, hps, hle⟩ := HG.out.line (unitTo_len n k) hk1
      have hc2 := own_cell ho (i := k) hk1
      have hc3 := hc2.1
      have hf3 := hc2.2
      have hpb := (own_blk ho).1
      have hst : GridTo (wr.setCell ⟨p k, k, none⟩ (.int .u8 1)) w.heap.size (.slice (some ⟨g, 0, none⟩) n n) n n p d (unitTo n (k + 1)) := by
        have h1 := HG.out.turn (w' := wr.setCell ⟨p k, k, none⟩ (.int .u8 1)) (l := (unitTo n k k).set k 1) hk1 ((Only.refl _ _).set _ _) (by rw [List.length_set]) (by rw [unitTo_len]; exact own_set ho)
        refine h1.congr fun i hi => ?_
        by_cases e : i = k
        · subst e
          rw [if_pos rfl]
          unfold unitTo
          rw [if_pos (by omega), if_neg (by omega)]
          rfl
        · rw [if_neg e]
          unfold unitTo
          by_cases e2 : i < k
          · rw [if_pos e2, if_pos (by omega)]
          · rw [if_neg e2, if_neg (by omega)]
      have HST := Lib.hid hst
      have HB2 := Lib.hid (HB.out.setCell (p := ⟨p k, k, none⟩) hpb (.int .u8 1))
      clear hc2 ho hst
      go_wp2_with fail
      go_roundw
      case rel => exact ⟨k + 1, by omega, by go_num, HST, HB2⟩
      case measure => simp [intOf]; omega
    · obtain rfl : k = n := by omega
      have HF := Lib.hid (HG.out.congr (Y := Gf.unitX k) fun i hi => (if_pos hi).symm)
      clear HG
      go_wp2_with fail
      go_ret2
      exact ⟨_, _, _, rfl, HF.out, HB.out⟩

/-- A matrix' rows, cut to what it has. -/
theorem cut_long {N W : Nat} {X : Nat → List Nat} (h : ∀ i, i < N → (X i).length = W) : Gf.Long (cut N X W) W := fun r => by
  unfold cut; split
  · exact h r (by assumption)
  · exact List.length_replicate
theorem cut_byt {N W : Nat} {X : Nat → List Nat} (h : ∀ i, i < N → Small (X i)) : Gf.Byt (cut N X W) := fun r => by
  unfold cut; split
  · exact small_at0.1 (h r (by assumption))
  · exact small_at0.1 (Small.of_mem fun x hx => by rw [List.eq_of_mem_replicate hx]; omega)
theorem cut_at {N W i : Nat} {X : Nat → List Nat} (h : i < N) : cut N X W i = X i := if_pos h
theorem RR.small {w : World} {v : Value} {N : Nat} {X : Nat → List Nat} (h : RR w v N X) : ∀ i, i < N → Small (X i) := fun i hi => by
  obtain ⟨a, c, rfl, hk⟩ := h.shape
  obtain ⟨b, o, a1, n1, c1, e, hc, hr⟩ := hk i hi
  exact hr.small
theorem isM_len {N : Nat} {X : Nat → List Nat} (h : isM N X) : ∀ i, i < N → (X i).length = colsX N X := fun i hi => h.2.2 i hi
theorem isM_small {N : Nat} {X : Nat → List Nat} (h : isM N X) : ∀ i, i < N → (X i).length ≤ 100000 := fun i hi => by rw [isM_len h i hi]; have := h.2.1; omega

/-- A matrix' rank, as the code reckons it. -/
def rankX (N : Nat) (X : Nat → List Nat) : Nat := if isM N X then Gf.rdN (cut N X (colsX N X)) N (colsX N X) else 0

set_option maxHeartbeats 1600000 in
set_option maxRecDepth 100000 in
theorem Rank_any {w : World} {a : Option Addr} {N c : Nat} {X : Nat → List Nat} (hN : N ≤ 100000) (h : RR w (.slice a N c) N X) : Calls Try.prog 71 #[.slice a N c] w fun e w' => e = .returned (.int .i64 (rankX N X : Nat)) ∧ Below w.heap.size w w' := by
  have hR := Right_any hN h
  by_cases hm : isM N X
  · rw [decide_eq_true hm] at hR
    have HR := Lib.hid hR
    have H := Lib.hid h
    have HM := Lib.hid hm
    have he : (rankX N X : Nat) = Gf.rdN (cut N X (colsX N X)) N (colsX N X) := if_pos hm
    rw [he]
    clear hR h hm he
    have hc1 : colsX N X ≤ 255 := HM.out.2.1
    go_enter Try.func71, Try.ntmps71
    go_wp2_with fail
    refine HR.out.mono ?_
    rintro e w1 ⟨rfl, rfl⟩
    go_wp2_with fail
    refine (new_any _).mono ?_
    rintro e w2 ⟨b, rfl, hb, hf, hB2⟩
    have HF2 := Lib.hid hf
    have HB2 := Lib.hid hB2
    have hcp := copied_any hN (isM_small HM.out) (H.out.below hB2)
    have HCP := Lib.hid hcp
    clear hf hB2 hcp HR
    go_wp2_with fail
    refine HCP.out.mono ?_
    rintro e w3 ⟨g, p, d, rfl, hG, hB3⟩
    have HF3 := Lib.hid (HF2.out.below hB3 HF2.out.lt)
    have hsz := hB3.size
    have hB03 := HB2.out.trans (hB3.mono HB2.out.size)
    have hw := wide_any hN (H.out.below hB03)
    rw [show wideX N X = colsX N X from if_pos HM.out.2.2] at hw
    have HW := Lib.hid hw
    have HG := Lib.hid hG
    have HB3 := Lib.hid hB03
    clear hw hG hB3 hB03 HCP HF2
    go_wp2_with fail
    refine HW.out.mono ?_
    rintro e w4 ⟨rfl, rfl⟩
    have hs := steps_any (C := colsX N X) HF3.out (HG.out.congr (Y := cut N X (colsX N X)) fun i hi => cut_at hi) HG.out.gl.2 (cut_long (isM_len HM.out)) (cut_byt H.out.small) (Nat.le_refl _) hN (by omega)
    have HS := Lib.hid hs
    clear hs HW
    go_wp2_with fail
    refine HS.out.mono ?_
    rintro e w5 ⟨rfl, _, hK⟩
    have HB5 := Lib.hid (HB3.out.trans ((off_below hK HG.out hsz).mono (HB2.out.size)))
    clear hK
    go_wp2_with fail
    go_ret
    exact ⟨rfl, HB5.out⟩
  · rw [decide_eq_false hm] at hR
    have HR := Lib.hid hR
    have he : (rankX N X : Nat) = 0 := if_neg hm
    rw [he]
    clear hR h hm he
    go_enter Try.func71, Try.ntmps71
    go_wp2_with fail
    refine HR.out.mono ?_
    rintro e w1 ⟨rfl, rfl⟩
    go_wp2_with fail
    go_ret
    exact ⟨rfl, Below.refl _ _⟩
end Go.Proofs.Ytokeoodkioobdaa
