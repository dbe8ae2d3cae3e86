/- The walk of the law FieldAll: true, and nothing that was there has turned. No condition. -/
import Derived.Test.YtokeoodkioobdaaNone
namespace Go.Proofs.Ytokeoodkioobdaa
open Go.RowKit

theorem does_int (x y n : Int) (x0 : 0 ≤ x) (x1 : x < 256) (y0 : 0 ≤ y) (y1 : y < 256) (h1 : -9223372036854775808 ≤ n) (h2 : n ≤ 9223372036854775807) (w : World) :
    Calls Try.prog 6 #[.int .u8 x, .int .u8 y, .int .i64 n] w fun e w' => e = .returned (.bool true) ∧ Below w.heap.size w w' := by
  obtain ⟨a, rfl⟩ := Int.eq_ofNat_of_zero_le x0
  obtain ⟨b, rfl⟩ := Int.eq_ofNat_of_zero_le y0
  exact does_any a b n (by omega) (by omega) h1 h2 w

/-- A list of numbers, each an int64's. -/
def Ends (w : World) (E : Nat) : Prop := ∀ t : Nat, t < 12 → ∃ n : Int, w.cell? ⟨E, t, none⟩ = some (.int .i64 n) ∧ Hid (-9223372036854775808 ≤ n ∧ n ≤ 9223372036854775807)
theorem Ends.below {w w' : World} {E B : Nat} (h : Ends w E) (hB : Below B w w') (hE : E < B) : Ends w' E := fun t ht => by
  obtain ⟨n, h1, h2⟩ := h t ht
  exact ⟨n, (hB.cell (p := ⟨E, t, none⟩) hE).trans h1, h2⟩

theorem ends_start (w : World) (k : Nat) (hk : k < 256) : Ends (w.alloc (Obj.cells #[.int .i64 0, .int .i64 1, .int .i64 (-1), .int .i64 2, .int .i64 254, .int .i64 255, .int .i64 256, .int .i64 (-255), .int .i64 9223372036854775807, .int .i64 (-9223372036854775808), .int .i64 (1000 + k), .int .i64 (-k)] 3)) w.heap.size := by
  intro t ht
  rw [cell_of_block (heap_alloc_new _ _)]
  match t, ht with
  | 0, _ | 1, _ | 2, _ | 3, _ | 4, _ | 5, _ | 6, _ | 7, _ | 8, _ | 9, _ | 10, _ | 11, _ => exact ⟨_, rfl, ⟨by omega, by omega⟩⟩

set_option maxHeartbeats 3200000 in
set_option maxRecDepth 100000 in
theorem all_any (w : World) : Calls Try.prog 7 #[] w fun e w' => e = .returned (.bool true) ∧ Below w.heap.size w w' := by
  go_enter Try.func7, Try.ntmps7
  go_wp2_with fail
  refine (new_any _).mono ?_
  rintro e w1 ⟨p, rfl, hpw, hf, hB⟩
  have HB := Lib.hid hB
  clear hB
  go_wp2_with fail
  go_loopw [2] (fun a wr => ∃ k : Nat, k ≤ 256 ∧ a = .int .i64 k ∧ IsF wr p ∧ Below w.heap.size w wr) (fun a _ => big - (intOf a).toNat)
  case atStart => exact ⟨0, by omega, rfl, hf, HB.out⟩
  case round =>
    obtain ⟨k, hk, rfl, hf1, hB1⟩ := hrel
    have HF1 := Lib.hid hf1
    have HB1 := Lib.hid hB1
    clear hf1 hB1
    by_cases hk2 : k < 256
    · have hd : decide ((k : Int) < 256) = true := by simp; omega
      go_wp2_with fail
      obtain ⟨wo, rfl⟩ : ∃ wo : World, wo = wr := ⟨_, rfl⟩
      go_loopw [3] (fun b wr => ∃ j : Nat, j ≤ 256 ∧ b = .int .i64 j ∧ IsF wr p ∧ Below w.heap.size w wr) (fun b _ => big - (intOf b).toNat)
      case atStart => exact ⟨0, by omega, rfl, HF1.out, HB1.out⟩
      case round =>
        obtain ⟨j, hj, rfl, hf2, hB2⟩ := hrel
        have HF2 := Lib.hid hf2
        have HB2 := Lib.hid hB2
        clear hf2 hB2
        by_cases hj2 : j < 256
        · go_wp2_with (first
            | (go_at_call 23; ((with_reducible refine (mul_any HF2.out hk2 hj2).mono ?_); rintro e w' ⟨rfl, n, rfl⟩))
            | (go_at_call 38; ((with_reducible refine (rmul_any _ _ hk2 hj2 _).mono ?_); rintro e w' ⟨rfl, rfl⟩)))
          go_roundw
          case rel => exact ⟨j + 1, by omega, by go_num, HF2.out.drewN _, below_drewN HB2.out _⟩
          case measure => simp [intOf, big]; omega
        · obtain rfl : j = 256 := by omega
          simp only [show ((256 : Nat) : Int) = 256 from rfl]
          go_wp2_with fail
          go_loopw [5] (fun i w3 => ∃ t : Nat, t ≤ 12 ∧ i = .int .i64 t ∧ IsF w3 p ∧ Below w.heap.size w w3 ∧ wr.heap.size < w3.heap.size ∧ Ends w3 wr.heap.size) (fun i _ => big - (intOf i).toNat)
          case atStart => exact ⟨0, by omega, rfl, HF2.out.below (Below.alloc (Below.refl _ _) (Nat.le_refl _) _) HF2.out.lt, HB2.out.alloc HB2.out.size _, by simp, ends_start wr k hk2⟩
          case round =>
            obtain ⟨t, ht, rfl, hf3, hB3, hs3, he3⟩ := hrel
            have HF3 := Lib.hid hf3
            have HB3 := Lib.hid hB3
            have HE3 := Lib.hid he3
            clear hf3 hB3 he3
            by_cases ht2 : t < 12
            · obtain ⟨n, hc, hn⟩ := HE3.out t ht2
              go_wp2_with (go_at_call 6; ((with_reducible refine (does_int _ _ _ (by omega) (by omega) (by omega) (by omega) hn.out.1 hn.out.2 _).mono ?_); rintro e w4 ⟨rfl, hB4⟩; have HB4 := Lib.hid hB4; clear hB4))
              · go_roundw
                case rel => exact ⟨t + 1, by omega, by go_num, HF3.out.below HB4.out HF3.out.lt, HB3.out.trans (HB4.out.mono HB3.out.size), Nat.lt_of_lt_of_le hs3 HB4.out.size, HE3.out.below HB4.out hs3⟩
                case measure => simp [intOf, big]; omega
              · go_roundw
                case rel => exact ⟨t + 1, by omega, by go_num, HF3.out, HB3.out, hs3, HE3.out⟩
                case measure => simp [intOf, big]; omega
            · obtain rfl : t = 12 := by omega
              go_wp2_with (go_at_call 6; ((with_reducible refine (does_int _ _ _ (by omega) (by omega) (by omega) (by omega) (by omega) (by omega) _).mono ?_); rintro e w4 ⟨rfl, hB4⟩; have HB4 := Lib.hid hB4; clear hB4))
              go_roundw
              case rel => exact ⟨k + 1, by omega, by go_num, HF3.out.below HB4.out HF3.out.lt, HB3.out.trans (HB4.out.mono HB3.out.size)⟩
              case measure => simp [intOf, big]; omega
    · obtain rfl : k = 256 := by omega
      go_wp2_with (first
        | (go_at_call 40; refine (none_any _).mono ?_; rintro e w5 ⟨rfl, hB5⟩; have HB5 := Lib.hid hB5; clear hB5)
        | (go_at_call 21; refine (awake1 _).mono ?_; rintro e w6 ⟨rfl, hB6⟩; have HB6 := Lib.hid hB6; clear hB6))
      go_ret
      exact ⟨rfl, (HB1.out.trans (HB5.out.mono HB1.out.size)).trans (HB6.out.mono (Nat.le_trans HB1.out.size HB5.out.size))⟩
end Go.Proofs.Ytokeoodkioobdaa
