/- The walks of the reference's functions on bytes: Mul, Inv, Div, Pow, Exp, Log. Conditions: bytes are below 256, numbers are an int64's. -/
import Derived.Test.YtokeoodkioobdaaField
namespace Go.Proofs.Ytokeoodkioobdaa
open Go.RowKit

theorem bit_u8 (b k : Nat) (hb : b < 256) : bits .and .u8 ((b : Int) / 2 ^ k) 1 = ((b / 2 ^ k % 2 : Nat) : Int) := by
  have h : b / 2 ^ k < 256 := Nat.lt_of_le_of_lt (Nat.div_le_self _ _) hb
  have := u8_and_nat (b / 2 ^ k) 1 h (by decide)
  rw [show ((b : Int) / 2 ^ k) = ((b / 2 ^ k : Nat) : Int) from by simp, show (1 : Int) = ((1 : Nat) : Int) from rfl, this, nat_mask1]
theorem bit_i64 (b k : Nat) (hb : b < 65536) : bits .and .i64 ((b : Int) / 2 ^ k) 1 = ((b / 2 ^ k % 2 : Nat) : Int) := by
  have h : b / 2 ^ k < 65536 := Nat.lt_of_le_of_lt (Nat.div_le_self _ _) hb
  have := i64_and_nat (b / 2 ^ k) 1 (by omega) (by decide)
  rw [show ((b : Int) / 2 ^ k) = ((b / 2 ^ k : Nat) : Int) from by simp, show (1 : Int) = ((1 : Nat) : Int) from rfl, this, nat_mask1]
theorem shl_i64 (a k : Nat) (ha : a < 256) (hk : k < 8) : wrap64 ((a : Int) * 2 ^ k) = ((a * 2 ^ k : Nat) : Int) ∧ a * 2 ^ k < 65536 := by
  have h2 : 2 ^ k ≤ 2 ^ 7 := Nat.pow_le_pow_right (by decide) (by omega)
  have h3 : a * 2 ^ k ≤ 255 * 2 ^ 7 := Nat.mul_le_mul (by omega) h2
  have e : (a : Int) * 2 ^ k = ((a * 2 ^ k : Nat) : Int) := by simp
  rw [e]
  exact ⟨IntWalk.wrap64_in _ (by omega), by omega⟩
theorem one_of {z : Nat} (h : (((z : Nat) : Int) == 1) = true) : z = 1 := by have := beq_iff_eq.1 h; omega
theorem not_one_of {z : Nat} (h : (((z : Nat) : Int) == 1) = false) : ¬ z = 1 := by intro e; subst e; cases h
theorem rp_yes {a b k r : Nat} (ha : a < 256) (hb : b < 256) (hk : k < 8) (hr : r < 65536) (h2 : r = Gf.rp k a b) (h : (bits BinOp.and IntKind.u8 ((b : Int) / 2 ^ k) 1 == 1) = true) :
    ∃ s : Nat, Value.int IntKind.i64 (bits BinOp.xor IntKind.i64 (r : Int) (wrap64 ((a : Int) * 2 ^ k))) = .int .i64 s ∧ s < 65536 ∧ s = Gf.rp (k + 1) a b := by
  obtain ⟨e1, e2⟩ := shl_i64 a k ha hk
  rw [bit_u8 b k hb] at h
  have h' : b / 2 ^ k % 2 = 1 := one_of h
  refine ⟨r ^^^ (a * 2 ^ k), ?_, Nat.xor_lt_two_pow (n := 16) hr e2, ?_⟩
  · rw [e1, i64_xor_nat _ _ (by omega) (by omega)]
  · rw [h2]; simp only [Gf.rp]; rw [if_pos h']
theorem rp_no {a b k r : Nat} (hb : b < 256) (h2 : r = Gf.rp k a b) (h : (bits BinOp.and IntKind.u8 ((b : Int) / 2 ^ k) 1 == 1) = false) : r = Gf.rp (k + 1) a b := by
  rw [bit_u8 b k hb] at h
  have h' : ¬ b / 2 ^ k % 2 = 1 := not_one_of h
  rw [h2]; simp only [Gf.rp]; rw [if_neg h']

theorem shl_285 (k : Nat) (hk : k < 8) : wrap64 (285 * 2 ^ (15 - k - 8)) = ((285 * 2 ^ (15 - k - 8) : Nat) : Int) ∧ 285 * 2 ^ (15 - k - 8) < 65536 := by
  have h2 : 2 ^ (15 - k - 8) ≤ 2 ^ 7 := Nat.pow_le_pow_right (by decide) (by omega)
  have h3 : 285 * 2 ^ (15 - k - 8) ≤ 285 * 2 ^ 7 := Nat.mul_le_mul_left _ h2
  have e : (285 : Int) * 2 ^ (15 - k - 8) = ((285 * 2 ^ (15 - k - 8) : Nat) : Int) := by simp
  rw [e]
  exact ⟨IntWalk.wrap64_in _ (by omega), by omega⟩
theorem rq_yes {p k s : Nat} (hk : k < 8) (hs : s < 65536) (h2 : s = Gf.rq k p) (h : (bits BinOp.and IntKind.i64 ((s : Int) / 2 ^ (15 - k)) 1 == 1) = true) :
    ∃ t : Nat, Value.int IntKind.i64 (bits BinOp.xor IntKind.i64 (s : Int) (wrap64 (285 * 2 ^ (15 - k - 8)))) = .int .i64 t ∧ t < 65536 ∧ t = Gf.rq (k + 1) p := by
  obtain ⟨e1, e2⟩ := shl_285 k hk
  rw [bit_i64 s (15 - k) hs] at h
  have h' : s / 2 ^ (15 - k) % 2 = 1 := one_of h
  refine ⟨s ^^^ (285 * 2 ^ (15 - k - 8)), ?_, Nat.xor_lt_two_pow (n := 16) hs e2, ?_⟩
  · rw [e1, i64_xor_nat _ _ (by omega) (by omega)]
  · subst h2; simp only [Gf.rq]; rw [if_pos h']
theorem rq_no {p k s : Nat} (hs : s < 65536) (h2 : s = Gf.rq k p) (h : (bits BinOp.and IntKind.i64 ((s : Int) / 2 ^ (15 - k)) 1 == 1) = false) : s = Gf.rq (k + 1) p := by
  rw [bit_i64 s (15 - k) hs] at h
  have h' : ¬ s / 2 ^ (15 - k) % 2 = 1 := not_one_of h
  subst h2; simp only [Gf.rq]; rw [if_neg h']
/-- Enough rounds: a number that the walk does not look into. -/
def big : Nat := 1000
theorem ret_u8 {a b : Int} (h : a = b) : Ending.returned (.int .u8 a) = .returned (.int .u8 b) := by rw [h]

set_option maxHeartbeats 800000 in
/-- The reference's product is the field's. -/
theorem rmul_any (a b : Nat) (ha : a < 256) (hb : b < 256) (w : World) : Calls Try.prog 38 #[.int .u8 a, .int .u8 b] w fun e w' => e = .returned (.int .u8 (Gf.mul a b : Nat)) ∧ w = w' := by
  go_enter Try.func38, Try.ntmps38
  go_wp2_with fail
  go_loop [5, 6] (fun p i => ∃ k r : Nat, k ≤ 8 ∧ i = .int .i64 k ∧ p = .int .i64 r ∧ r < 65536 ∧ r = Gf.rp k a b) (fun _ i => 8 - (intOf i).toNat)
  case atStart => exact ⟨0, 0, by omega, rfl, rfl, by omega, rfl⟩
  case round =>
    obtain ⟨k, r, hk, rfl, rfl, hr, hr2⟩ := hrel
    have HR := Lib.hid hr2
    clear hr2
    by_cases hk8 : k < 8
    · go_wp2_with fail
      · go_round
        case rel =>
          obtain ⟨s, h1, h2, h3⟩ := rp_yes ha hb hk8 hr HR.out (by assumption)
          exact ⟨k + 1, s, by omega, by go_num, h1, h2, h3⟩
        case measure => simp [intOf]; omega
      · go_round
        case rel => exact ⟨k + 1, r, by omega, by go_num, rfl, hr, rp_no hb HR.out (by assumption)⟩
        case measure => simp [intOf]; omega
    · obtain rfl : k = 8 := by omega
      have hp : r = Gf.rp 8 a b := HR.out
      have HP := Lib.hid hp
      clear hp HR hk hk8
      go_wp2_with fail
      go_loop [5, 7] (fun p i => ∃ k r' : Nat, k ≤ 8 ∧ i = .int .i64 (15 - (k : Int)) ∧ p = .int .i64 r' ∧ r' < 65536 ∧ r' = Gf.rq k r) (fun _ i => (intOf i).toNat)
      case atStart => exact ⟨0, r, by omega, rfl, rfl, hr, rfl⟩
      case round =>
        obtain ⟨k, s, hk, rfl, rfl, hs, hs2⟩ := hrel
        have HS := Lib.hid hs2
        clear hs2
        by_cases hk8 : k < 8
        · go_wp2_with fail
          · go_round
            case rel =>
              obtain ⟨t, h1, h2, h3⟩ := rq_yes hk8 hs HS.out (by assumption)
              exact ⟨k + 1, t, by omega, by go_num, h1, h2, h3⟩
            case measure => simp [intOf]; omega
          · go_round
            case rel => exact ⟨k + 1, s, by omega, by go_num, rfl, hs, rq_no hs HS.out (by assumption)⟩
            case measure => simp [intOf]; omega
        · obtain rfl : k = 8 := by omega
          have he : s = Gf.mul a b := by rw [HS.out, HP.out]; exact Gf.ref_mul ha b
          have hl : Gf.mul a b < 256 := Gf.mul_lt ha
          have HE := Lib.hid he
          have hs' : s < 256 := by omega
          clear he hl HS HP
          go_wp2_with fail
          go_ret
          exact ⟨ret_u8 (congrArg Nat.cast HE.out), rfl⟩

set_option maxRecDepth 100000 in
/-- The reference's inverse: the first byte whose product is 1. -/
theorem rinv_pos {a : Nat} (ha : a < 256) (a0 : a ≠ 0) (w : World) : Calls Try.prog 34 #[.int .u8 a] w fun e w' => e = .returned (.tuple #[.int .u8 (Gf.inv a : Nat), .int .i64 0]) ∧ w = w' := by
  have hv := Gf.inv_lt (a := a)
  have hv0 := Gf.inv_ne a0
  have hm := Gf.mul_inv ha a0
  have ho : ∀ k, k < 256 → k < Gf.inv a → Gf.mul a k ≠ 1 := fun k hk hlt h => by have := Gf.inv_only ha hk h; omega
  have HM := Lib.hid hm
  have HO := Lib.hid ho
  clear hm ho
  generalize Gf.inv a = v at *
  go_enter Try.func34, Try.ntmps34
  go_wp2_with fail
  go_loop [4] (fun i => ∃ k : Nat, k ≤ v ∧ 1 ≤ k ∧ i = .int .i64 k) (fun i => big - (intOf i).toNat)
  case atStart => exact ⟨1, by omega, by omega, rfl⟩
  case round =>
    obtain ⟨k, hk, hk1, rfl⟩ := hrel
    by_cases hlt : k < v
    · have hne := HO.out k (by omega) hlt
      have hne' : ((Gf.mul a k : Nat) : Int) ≠ 1 := by omega
      clear hne
      go_wp2_with (go_at_call 38; ((with_reducible refine (rmul_any _ _ (by assumption) (by omega) _).mono ?_); rintro e w' ⟨rfl, rfl⟩))
      go_round
      case rel => exact ⟨k + 1, by omega, by omega, by go_num⟩
      case measure => simp [intOf, big]; omega
    · obtain rfl : k = v := by omega
      have hle : Gf.mul a k ≤ 1 := Nat.le_of_eq HM.out
      have hge : 1 ≤ Gf.mul a k := Nat.le_of_eq HM.out.symm
      go_wp2_with (go_at_call 38; ((with_reducible refine (rmul_any _ _ (by assumption) (by omega) _).mono ?_); rintro e w' ⟨rfl, rfl⟩))
      go_ret2
      exact ⟨rfl, rfl⟩
theorem rmul_0by (b : Nat) (hb : b < 256) (w : World) : Calls Try.prog 38 #[.int .u8 0, .int .u8 b] w fun e w' => e = .returned (.int .u8 0) ∧ w = w' := by
  have h := rmul_any 0 b (by decide) hb w
  rw [Gf.zero_mul] at h
  exact h
set_option maxRecDepth 100000 in
theorem rinv_zero (w : World) : Calls Try.prog 34 #[.int .u8 0] w fun e w' => e = .returned (.tuple #[.int .u8 0, .int .i64 6]) ∧ w = w' := by
  go_enter Try.func34, Try.ntmps34
  go_wp2_with fail
  go_loop [4] (fun i => ∃ k : Nat, k ≤ 256 ∧ 1 ≤ k ∧ i = .int .i64 k) (fun i => big - (intOf i).toNat)
  case atStart => exact ⟨1, by omega, by omega, rfl⟩
  case round =>
    obtain ⟨k, hk, hk1, rfl⟩ := hrel
    by_cases hlt : k < 256
    · go_wp2_with (go_at_call 38; ((with_reducible refine (rmul_0by _ (by omega) _).mono ?_); rintro e w' ⟨rfl, rfl⟩))
      go_round
      case rel => exact ⟨k + 1, by omega, by omega, by go_num⟩
      case measure => simp [intOf, big]; omega
    · obtain rfl : k = 256 := by omega
      go_wp2_with fail
      go_ret2
      exact ⟨rfl, rfl⟩

theorem rdiv_pos {a b : Nat} (ha : a < 256) (hb : b < 256) (b0 : b ≠ 0) (w : World) : Calls Try.prog 35 #[.int .u8 a, .int .u8 b] w fun e w' => e = .returned (.tuple #[.int .u8 (Gf.mul a (Gf.inv b) : Nat), .int .i64 0]) ∧ w = w' := by
  have hv := Gf.inv_lt (a := b)
  go_enter Try.func35, Try.ntmps35
  go_wp2_with (first | (go_at_call 34; ((with_reducible refine (rinv_pos hb b0 _).mono ?_); rintro e w' ⟨rfl, rfl⟩)) | (go_at_call 38; ((with_reducible refine (rmul_any _ _ ha hv _).mono ?_); rintro e w' ⟨rfl, rfl⟩)))
  go_ret2
  exact ⟨rfl, rfl⟩
theorem rdiv_zero (a : Nat) (w : World) : Calls Try.prog 35 #[.int .u8 a, .int .u8 0] w fun e w' => e = .returned (.tuple #[.int .u8 0, .int .i64 6]) ∧ w = w' := by
  go_enter Try.func35, Try.ntmps35
  go_wp2_with (go_at_call 34; ((with_reducible refine (rinv_zero _).mono ?_); rintro e w' ⟨rfl, rfl⟩))
  go_ret2
  exact ⟨rfl, rfl⟩

set_option maxRecDepth 100000 in
/-- The reference's logarithm: the first power of 2. -/
theorem rlog_pos {a : Nat} (ha : a < 256) (a0 : a ≠ 0) (w : World) : Calls Try.prog 37 #[.int .u8 a] w fun e w' => e = .returned (.tuple #[.int .i64 (Gf.lg a : Nat), .int .i64 0]) ∧ w = w' := by
  have hl := Gf.lg_lt ha a0
  have hm := Gf.ex_lg ha a0
  have ho : ∀ k, k < Gf.lg a → Gf.ex k ≠ a := fun k hlt h => by
    have := Gf.lg_ex (n := k) (by omega)
    rw [h] at this; omega
  have HM := Lib.hid hm
  have HO := Lib.hid ho
  clear hm ho
  generalize Gf.lg a = v at *
  go_enter Try.func37, Try.ntmps37
  go_wp2_with fail
  go_loop [4, 5] (fun p i => ∃ k q : Nat, k ≤ v ∧ i = .int .i64 k ∧ p = .int .u8 q ∧ q < 256 ∧ q = Gf.ex k) (fun _ i => big - (intOf i).toNat)
  case atStart => exact ⟨0, 1, by omega, rfl, rfl, by omega, rfl⟩
  case round =>
    obtain ⟨k, q, hk, rfl, rfl, hq, hq2⟩ := hrel
    have HQ := Lib.hid hq2
    by_cases hlt : k < v
    · have hne : q ≠ a := by rw [hq2]; exact HO.out k hlt
      have hne' : ((q : Nat) : Int) ≠ (a : Int) := by omega
      clear hne hq2
      have h2 := rmul_any q 2 hq (by decide) w
      have e2 : Gf.mul q 2 = Gf.ex (k + 1) := by
        rw [HQ.out, show (2 : Nat) = Gf.ex 1 from by decide, Gf.ex_add]
      rw [e2] at h2
      have hl2 := Gf.ex_lt (k + 1)
      have H2 := Lib.hid h2
      clear h2 e2
      go_wp2_with (go_at_call 38; refine H2.out.mono ?_; rintro e w' ⟨rfl, rfl⟩)
      go_round
      case rel => exact ⟨k + 1, Gf.ex (k + 1), by omega, by go_num, rfl, hl2, rfl⟩
      case measure => simp [intOf, big]; omega
    · obtain rfl : k = v := by omega
      obtain rfl : q = a := by rw [hq2]; exact HM.out
      clear hq2
      go_wp2_with fail
      go_ret2
      exact ⟨rfl, rfl⟩
set_option maxRecDepth 100000 in
theorem rlog_zero (w : World) : Calls Try.prog 37 #[.int .u8 0] w fun e w' => e = .returned (.tuple #[.int .i64 0, .int .i64 6]) ∧ w = w' := by
  go_enter Try.func37, Try.ntmps37
  go_wp2_with fail
  go_loop [4, 5] (fun p i => ∃ k q : Nat, k ≤ 255 ∧ i = .int .i64 k ∧ p = .int .u8 q ∧ q < 256 ∧ 1 ≤ q) (fun _ i => big - (intOf i).toNat)
  case atStart => exact ⟨0, 1, by omega, rfl, rfl, by omega, by omega⟩
  case round =>
    obtain ⟨k, q, hk, rfl, rfl, hq, hq2⟩ := hrel
    by_cases hlt : k < 255
    · have h2 := rmul_any q 2 hq (by decide) w
      have hl2 := Gf.mul_lt (b := 2) hq
      have hp2 : 1 ≤ Gf.mul q 2 := Nat.pos_of_ne_zero (Gf.mul_ne hq (by decide) (by omega) (by decide))
      have H2 := Lib.hid h2
      clear h2
      generalize Gf.mul q 2 = t at *
      go_wp2_with (go_at_call 38; refine H2.out.mono ?_; rintro e w' ⟨rfl, rfl⟩)
      go_round
      case rel => exact ⟨k + 1, t, by omega, by go_num, rfl, hl2, hp2⟩
      case measure => simp [intOf, big]; omega
    · obtain rfl : k = 255 := by omega
      go_wp2_with fail
      go_ret2
      exact ⟨rfl, rfl⟩
end Go.Proofs.Ytokeoodkioobdaa
