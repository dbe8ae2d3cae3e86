/- The walk of the law FieldPowers: true, and nothing that was there has turned. Conditions: bytes are below 256, numbers are an int64's. -/
import Derived.Test.YtokeoodkioobdaaLaw1
namespace Go.Proofs.Ytokeoodkioobdaa
open Go.RowKit

theorem beq_n0 {a : Nat} (h : a ≠ 0) : ((a : Int) == 0) = false := by simp; omega
theorem ret_beq {x y : Nat} (h : x = y) : Ending.returned (.bool (((x : Nat) : Int) == ((y : Nat) : Int))) = .returned (.bool true) := by rw [h]; simp
theorem exI_lt (n : Int) : exI n < 256 := Gf.ex_lt _
theorem exI_add (m n : Int) : exI (m + n) = Gf.mul (exI m) (exI n) := by
  unfold exI
  rw [Gf.ex_add, ← Gf.ex_mod ((m % 255).toNat + (n % 255).toNat)]
  congr 1; omega
theorem exI_up (m : Int) : exI (m + 255) = exI m := by unfold exI; congr 2; omega
theorem exI_lg {a : Nat} (ha : a < 256) (a0 : a ≠ 0) : exI (Gf.lg a : Nat) = a := by
  have h := Gf.lg_lt ha a0
  unfold exI
  rw [show ((Gf.lg a : Nat) : Int) % 255 = (Gf.lg a : Nat) from by omega, Int.toNat_natCast, Gf.ex_lg ha a0]
theorem lg_mul {a b : Nat} (ha : a < 256) (hb : b < 256) (a0 : a ≠ 0) (b0 : b ≠ 0) : Gf.lg (Gf.mul a b) = (Gf.lg a + Gf.lg b) % 255 := by
  rw [Gf.mul_ex ha hb a0 b0, Gf.lg_ex_mod]
theorem powI_lt (a : Nat) (n : Int) : powI a n < 256 := by
  unfold powI; split
  · decide
  · split
    · decide
    · exact exI_lt _
theorem powI_pos {a : Nat} (a0 : a ≠ 0) (n : Int) : powI a n = exI (n * Gf.lg a) := by
  unfold powI
  by_cases h : n = 0
  · subst h; rw [if_pos rfl, Int.zero_mul]; rfl
  · rw [if_neg h, if_neg a0]
theorem powI_add {a : Nat} (a0 : a ≠ 0) (m n : Int) : powI a (m + n) = Gf.mul (powI a m) (powI a n) := by
  rw [powI_pos a0, powI_pos a0, powI_pos a0, Int.add_mul, exI_add]
theorem pow_pos {w : World} {p a : Nat} (hf : IsF w p) (ha : a < 256) (a0 : a ≠ 0) (n : Int) (h1 : -9223372036854775808 ≤ n) (h2 : n ≤ 9223372036854775807) : Calls Try.prog 33 #[.pointer (some ⟨p, 0, none⟩), .int .u8 a, .int .i64 n] w fun e w' => e = .returned (.tuple #[.int .u8 (powI a n : Nat), .int .i64 0]) ∧ w = w' := by
  have h := pow_any hf ha n h1 h2
  unfold powE at h
  rw [if_neg (fun h => a0 h.1)] at h
  exact h

set_option maxHeartbeats 1600000 in
set_option maxRecDepth 100000 in
theorem powers_pos (a b : Nat) (m n : Int) (ha : a < 256) (hb : b < 256) (a0 : a ≠ 0) (b0 : b ≠ 0) (m1 : -1099511627776 ≤ m) (m2 : m ≤ 1099511627776) (n1 : -1099511627776 ≤ n) (n2 : n ≤ 1099511627776) (w : World) :
    Calls Try.prog 5 #[.int .u8 a, .int .u8 b, .int .i64 m, .int .i64 n] w fun e w' => e = .returned (.bool true) ∧ Below w.heap.size w w' := by
  have q1 := exI_lt m
  have q2 := exI_lt n
  have q3 := powI_lt a m
  have q4 := powI_lt a n
  have q5 : Gf.mul a b < 256 := Gf.mul_lt ha
  have q6 := Gf.mul_ne ha hb a0 b0
  have q7 := Gf.lg_lt ha a0
  have q8 := Gf.lg_lt hb b0
  have t1 := Nat.le_of_eq (exI_add m n)
  have u1 := Nat.le_of_eq (exI_add m n).symm
  have t2 := Nat.le_of_eq (exI_up m)
  have u2 := Nat.le_of_eq (exI_up m).symm
  have t3 := Nat.le_of_eq (exI_lg ha a0)
  have u3 := Nat.le_of_eq (exI_lg ha a0).symm
  have t4 := Nat.le_of_eq (lg_mul ha hb a0 b0)
  have u4 := Nat.le_of_eq (lg_mul ha hb a0 b0).symm
  have t5 := Nat.le_of_eq (powI_add a0 m n)
  have u5 := Nat.le_of_eq (powI_add a0 m n).symm
  have z1 := beq_n0 a0
  have z2 := beq_n0 b0
  go_enter Try.func5, Try.ntmps5
  go_wp2_with fail
  refine (awake1 _).mono ?_
  rintro e w0 ⟨rfl, hB0⟩
  have HB0 := Lib.hid hB0
  clear hB0
  go_wp2_with fail
  refine (new_any _).mono ?_
  rintro e w1 ⟨p, rfl, hp, hf, hB⟩
  have HB := Lib.hid hB
  clear hB
  go_wp2_with (first
    | (go_at_call 31; ((with_reducible refine (exp_any hf _ (by omega) (by omega)).mono ?_); rintro e w' ⟨rfl, rfl⟩))
    | (go_at_call 31; ((with_reducible refine (exp_any (hf.drewN _) _ (by omega) (by omega)).mono ?_); rintro e w' ⟨rfl, rfl⟩))
    | (go_at_call 23; ((with_reducible refine (mul_any hf (by assumption) (by assumption)).mono ?_); rintro e w' ⟨rfl, k, rfl⟩))
    | (go_at_call 23; ((with_reducible refine (mul_any (hf.drewN _) (by assumption) (by assumption)).mono ?_); rintro e w' ⟨rfl, k, rfl⟩))
    | (go_at_call 32; ((with_reducible refine (log_pos (hf.drewN _) (by assumption) (by assumption)).mono ?_); rintro e w' ⟨rfl, rfl⟩))
    | (go_at_call 33; ((with_reducible refine (pow_pos (hf.drewN _) (by assumption) a0 _ (by omega) (by omega)).mono ?_); rintro e w' ⟨rfl, rfl⟩)))
  go_ret
  exact ⟨ret_beq (powI_add a0 m n).symm, HB0.out.trans ((below_drewN HB.out _).mono HB0.out.size)⟩
theorem log_of0 {w : World} {p : Nat} (hf : IsF w p) : Calls Try.prog 32 #[.pointer (some ⟨p, 0, none⟩), .int .u8 0] w fun e w' => e = .returned (.tuple #[.int .i64 0, .int .i64 6]) ∧ w = w' := log_zero hf
set_option maxHeartbeats 1600000 in
set_option maxRecDepth 100000 in
theorem powers_00 (m n : Int) (m1 : -1099511627776 ≤ m) (m2 : m ≤ 1099511627776) (n1 : -1099511627776 ≤ n) (n2 : n ≤ 1099511627776) (w : World) :
    Calls Try.prog 5 #[.int .u8 0, .int .u8 0, .int .i64 m, .int .i64 n] w fun e w' => e = .returned (.bool true) ∧ Below w.heap.size w w' := by
  have q1 := exI_lt m
  have q2 := exI_lt n
  have t1 := Nat.le_of_eq (exI_add m n)
  have u1 := Nat.le_of_eq (exI_add m n).symm
  have t2 := Nat.le_of_eq (exI_up m)
  have u2 := Nat.le_of_eq (exI_up m).symm
  go_enter Try.func5, Try.ntmps5
  go_wp2_with fail
  refine (awake1 _).mono ?_
  rintro e w0 ⟨rfl, hB0⟩
  have HB0 := Lib.hid hB0
  clear hB0
  go_wp2_with fail
  refine (new_any _).mono ?_
  rintro e w1 ⟨p, rfl, hp, hf, hB⟩
  have HB := Lib.hid hB
  clear hB
  go_wp2_with (first
    | (go_at_call 31; ((with_reducible refine (exp_any hf _ (by omega) (by omega)).mono ?_); rintro e w' ⟨rfl, rfl⟩))
    | (go_at_call 31; ((with_reducible refine (exp_any (hf.drewN _) _ (by omega) (by omega)).mono ?_); rintro e w' ⟨rfl, rfl⟩))
    | (go_at_call 23; ((with_reducible refine (mul_any hf (by assumption) (by assumption)).mono ?_); rintro e w' ⟨rfl, k, rfl⟩))
    | (go_at_call 23; ((with_reducible refine (mul_any (hf.drewN _) (by assumption) (by assumption)).mono ?_); rintro e w' ⟨rfl, k, rfl⟩))
    | (go_at_call 32; ((with_reducible refine (log_of0 (hf.drewN _)).mono ?_); rintro e w' ⟨rfl, rfl⟩))
    | (go_at_call 32; ((with_reducible refine (log_pos (hf.drewN _) (by assumption) (by assumption)).mono ?_); rintro e w' ⟨rfl, rfl⟩)))
  go_ret
  exact ⟨rfl, HB0.out.trans ((below_drewN HB.out _).mono HB0.out.size)⟩
set_option maxHeartbeats 1600000 in
set_option maxRecDepth 100000 in
theorem powers_0b (b : Nat) (m n : Int) (hb : b < 256) (b0 : b ≠ 0) (m1 : -1099511627776 ≤ m) (m2 : m ≤ 1099511627776) (n1 : -1099511627776 ≤ n) (n2 : n ≤ 1099511627776) (w : World) :
    Calls Try.prog 5 #[.int .u8 0, .int .u8 b, .int .i64 m, .int .i64 n] w fun e w' => e = .returned (.bool true) ∧ Below w.heap.size w w' := by
  have q1 := exI_lt m
  have q2 := exI_lt n
  have t1 := Nat.le_of_eq (exI_add m n)
  have u1 := Nat.le_of_eq (exI_add m n).symm
  have t2 := Nat.le_of_eq (exI_up m)
  have u2 := Nat.le_of_eq (exI_up m).symm
  have z2 := beq_n0 b0
  go_enter Try.func5, Try.ntmps5
  go_wp2_with fail
  refine (awake1 _).mono ?_
  rintro e w0 ⟨rfl, hB0⟩
  have HB0 := Lib.hid hB0
  clear hB0
  go_wp2_with fail
  refine (new_any _).mono ?_
  rintro e w1 ⟨p, rfl, hp, hf, hB⟩
  have HB := Lib.hid hB
  clear hB
  go_wp2_with (first
    | (go_at_call 31; ((with_reducible refine (exp_any hf _ (by omega) (by omega)).mono ?_); rintro e w' ⟨rfl, rfl⟩))
    | (go_at_call 31; ((with_reducible refine (exp_any (hf.drewN _) _ (by omega) (by omega)).mono ?_); rintro e w' ⟨rfl, rfl⟩))
    | (go_at_call 23; ((with_reducible refine (mul_any hf (by assumption) (by assumption)).mono ?_); rintro e w' ⟨rfl, k, rfl⟩))
    | (go_at_call 23; ((with_reducible refine (mul_any (hf.drewN _) (by assumption) (by assumption)).mono ?_); rintro e w' ⟨rfl, k, rfl⟩))
    | (go_at_call 32; ((with_reducible refine (log_of0 (hf.drewN _)).mono ?_); rintro e w' ⟨rfl, rfl⟩))
    | (go_at_call 32; ((with_reducible refine (log_pos (hf.drewN _) (by assumption) (by assumption)).mono ?_); rintro e w' ⟨rfl, rfl⟩)))
  go_ret
  exact ⟨rfl, HB0.out.trans ((below_drewN HB.out _).mono HB0.out.size)⟩
set_option maxHeartbeats 1600000 in
set_option maxRecDepth 100000 in
theorem powers_a0 (a : Nat) (m n : Int) (ha : a < 256) (a0 : a ≠ 0) (m1 : -1099511627776 ≤ m) (m2 : m ≤ 1099511627776) (n1 : -1099511627776 ≤ n) (n2 : n ≤ 1099511627776) (w : World) :
    Calls Try.prog 5 #[.int .u8 a, .int .u8 0, .int .i64 m, .int .i64 n] w fun e w' => e = .returned (.bool true) ∧ Below w.heap.size w w' := by
  have q1 := exI_lt m
  have q2 := exI_lt n
  have t1 := Nat.le_of_eq (exI_add m n)
  have u1 := Nat.le_of_eq (exI_add m n).symm
  have t2 := Nat.le_of_eq (exI_up m)
  have u2 := Nat.le_of_eq (exI_up m).symm
  have z1 := beq_n0 a0
  go_enter Try.func5, Try.ntmps5
  go_wp2_with fail
  refine (awake1 _).mono ?_
  rintro e w0 ⟨rfl, hB0⟩
  have HB0 := Lib.hid hB0
  clear hB0
  go_wp2_with fail
  refine (new_any _).mono ?_
  rintro e w1 ⟨p, rfl, hp, hf, hB⟩
  have HB := Lib.hid hB
  clear hB
  go_wp2_with (first
    | (go_at_call 31; ((with_reducible refine (exp_any hf _ (by omega) (by omega)).mono ?_); rintro e w' ⟨rfl, rfl⟩))
    | (go_at_call 31; ((with_reducible refine (exp_any (hf.drewN _) _ (by omega) (by omega)).mono ?_); rintro e w' ⟨rfl, rfl⟩))
    | (go_at_call 23; ((with_reducible refine (mul_any hf (by assumption) (by assumption)).mono ?_); rintro e w' ⟨rfl, k, rfl⟩))
    | (go_at_call 23; ((with_reducible refine (mul_any (hf.drewN _) (by assumption) (by assumption)).mono ?_); rintro e w' ⟨rfl, k, rfl⟩))
    | (go_at_call 32; ((with_reducible refine (log_of0 (hf.drewN _)).mono ?_); rintro e w' ⟨rfl, rfl⟩))
    | (go_at_call 32; ((with_reducible refine (log_pos (hf.drewN _) (by assumption) (by assumption)).mono ?_); rintro e w' ⟨rfl, rfl⟩)))
  go_ret
  exact ⟨rfl, HB0.out.trans ((below_drewN HB.out _).mono HB0.out.size)⟩
set_option maxHeartbeats 1600000 in
set_option maxRecDepth 100000 in
theorem powers_out (a b : Nat) (m n : Int) (h : 1099511627776 < m ∨ (m ≤ 1099511627776 ∧ m < -1099511627776) ∨ ((m ≤ 1099511627776 ∧ -1099511627776 ≤ m) ∧ 1099511627776 < n) ∨ ((m ≤ 1099511627776 ∧ -1099511627776 ≤ m) ∧ n ≤ 1099511627776 ∧ n < -1099511627776)) (w : World) :
    Calls Try.prog 5 #[.int .u8 a, .int .u8 b, .int .i64 m, .int .i64 n] w fun e w' => e = .returned (.bool true) ∧ Below w.heap.size w w' := by
  rcases h with h | ⟨h, h1⟩ | ⟨⟨h, h1⟩, h2⟩ | ⟨⟨h, h1⟩, h2, h3⟩
  all_goals
    go_enter Try.func5, Try.ntmps5
    go_wp2_with fail
    refine (awake1 _).mono ?_
    rintro e w0 ⟨rfl, hB0⟩
    have HB0 := Lib.hid hB0
    clear hB0
    go_wp2_with fail
    go_ret
    exact ⟨rfl, HB0.out⟩
theorem powers_any (a b : Nat) (m n : Int) (ha : a < 256) (hb : b < 256) (w : World) :
    Calls Try.prog 5 #[.int .u8 a, .int .u8 b, .int .i64 m, .int .i64 n] w fun e w' => e = .returned (.bool true) ∧ Below w.heap.size w w' := by
  by_cases h : 1099511627776 < m ∨ (m ≤ 1099511627776 ∧ m < -1099511627776) ∨ ((m ≤ 1099511627776 ∧ -1099511627776 ≤ m) ∧ 1099511627776 < n) ∨ ((m ≤ 1099511627776 ∧ -1099511627776 ≤ m) ∧ n ≤ 1099511627776 ∧ n < -1099511627776)
  · exact powers_out a b m n h w
  · by_cases a0 : a = 0
    · by_cases b0 : b = 0
      · subst a0 b0; exact powers_00 m n (by omega) (by omega) (by omega) (by omega) w
      · subst a0; exact powers_0b b m n hb b0 (by omega) (by omega) (by omega) (by omega) w
    · by_cases b0 : b = 0
      · subst b0; exact powers_a0 a m n ha a0 (by omega) (by omega) (by omega) (by omega) w
      · exact powers_pos a b m n ha hb a0 b0 (by omega) (by omega) (by omega) (by omega) w
end Go.Proofs.Ytokeoodkioobdaa
