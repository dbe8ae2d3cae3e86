/- The walks of the reference's powers of bytes: Pow, Exp. Conditions: bytes are below 256. -/
import Derived.Test.YtokeoodkioobdaaRef1
import Derived.Test.YtokeoodkioobdaaLaw2
namespace Go.Proofs.Ytokeoodkioobdaa
open Go.RowKit

theorem rpow_0neg (n : Int) (h : n < 0) (w : World) : Calls Try.prog 36 #[.int .u8 0, .int .i64 n] w fun e w' => e = .returned (.tuple #[.int .u8 0, .int .i64 6]) ∧ w = w' := by
  go_enter Try.func36, Try.ntmps36
  go_wp2_with fail
  go_ret2
  exact ⟨rfl, rfl⟩
theorem rpow_00 (w : World) : Calls Try.prog 36 #[.int .u8 0, .int .i64 0] w fun e w' => e = .returned (.tuple #[.int .u8 1, .int .i64 0]) ∧ w = w' := by
  go_enter Try.func36, Try.ntmps36
  go_wp2_with fail
  go_ret2
  exact ⟨rfl, rfl⟩
theorem rpow_0pos (n : Int) (h : 0 < n) (w : World) : Calls Try.prog 36 #[.int .u8 0, .int .i64 n] w fun e w' => e = .returned (.tuple #[.int .u8 0, .int .i64 0]) ∧ w = w' := by
  have h0 : (n == 0) = false := by simp; omega
  go_enter Try.func36, Try.ntmps36
  go_wp2_with fail
  go_ret2
  exact ⟨rfl, rfl⟩

theorem tmod_bd (n : Int) : -255 < n.tmod 255 ∧ n.tmod 255 < 255 := by
  by_cases h : n < 0
  · have := tmod_neg h; omega
  · rw [Int.tmod_eq_emod_of_nonneg (by omega)]; omega
theorem pow_steps {a : Nat} (a0 : a ≠ 0) (n : Int) (M : Nat) (hM : (n.tmod 255 + 255) % 255 = M) : Gf.ex (M * Gf.lg a) = powI a n := by
  rw [powI_pos a0]
  unfold exI
  rw [← Gf.ex_mod]
  congr 1
  have h1 : ((M * Gf.lg a % 255 : Nat) : Int) = n * (Gf.lg a : Nat) % 255 := by
    have e : ((M : Int)) % 255 = n % 255 := by rw [← hM, ← tmod_emod n]; omega
    rw [Int.natCast_emod, Int.natCast_mul, Int.mul_emod, show ((255 : Nat) : Int) = 255 from rfl, e, ← Int.mul_emod]
  omega

set_option maxRecDepth 100000 in
theorem rpow_pos {a : Nat} (ha : a < 256) (a0 : a ≠ 0) (n : Int) (w : World) : Calls Try.prog 36 #[.int .u8 a, .int .i64 n] w fun e w' => e = .returned (.tuple #[.int .u8 (powI a n : Nat), .int .i64 0]) ∧ w = w' := by
  have hz := beq_n0 a0
  obtain ⟨b1, b2⟩ := tmod_bd n
  obtain ⟨M, hM⟩ : ∃ M : Nat, (n.tmod 255 + 255) % 255 = (M : Int) := ⟨((n.tmod 255 + 255) % 255).toNat, by omega⟩
  have hM2 : M < 255 := by omega
  have he := pow_steps a0 n M hM
  have hal := Gf.ex_lg ha a0
  have HE := Lib.hid he
  have HA := Lib.hid hal
  have HM := Lib.hid hM
  clear he hal hM
  generalize powI a n = r at *
  go_enter Try.func36, Try.ntmps36
  go_wp2_with fail
  simp only [HM.out]
  go_loop [7, 8] (fun p i => ∃ k q : Nat, k ≤ M ∧ i = .int .i64 k ∧ p = .int .u8 q ∧ q < 256 ∧ q = Gf.ex (k * Gf.lg a)) (fun _ i => big - (intOf i).toNat)
  case atStart => exact ⟨0, 1, by omega, rfl, rfl, by omega, by rw [Nat.zero_mul]; rfl⟩
  case round =>
    obtain ⟨k, q, hk, rfl, rfl, hq, hq2⟩ := hrel
    have HQ := Lib.hid hq2
    clear hq2
    by_cases hlt : k < M
    · have h2 := rmul_any q a hq ha w
      have e2 : Gf.mul q a = Gf.ex ((k + 1) * Gf.lg a) := by
        conv => lhs; rw [HQ.out, ← HA.out, Gf.ex_add, HA.out]
        rw [Nat.add_mul, Nat.one_mul]
      rw [e2] at h2
      have hl2 := Gf.ex_lt ((k + 1) * Gf.lg a)
      have H2 := Lib.hid h2
      clear h2 e2
      go_wp2_with (go_at_call 38; refine H2.out.mono ?_; rintro e w' ⟨rfl, rfl⟩)
      go_round
      case rel => exact ⟨k + 1, _, by omega, by go_num, rfl, hl2, rfl⟩
      case measure => simp [intOf, big]; omega
    · obtain rfl : k = M := by omega
      obtain rfl : q = r := by rw [HQ.out]; exact HE.out
      clear HQ HE
      go_wp2_with fail
      go_ret2
      exact ⟨rfl, rfl⟩
theorem powI_two (n : Int) : powI 2 n = exI n := by
  rw [powI_pos (by decide), show Gf.lg 2 = 1 from by decide +kernel]
  rw [show n * ((1 : Nat) : Int) = n from by omega]
theorem rexp_any (n : Int) (w : World) : Calls Try.prog 39 #[.int .i64 n] w fun e w' => e = .returned (.int .u8 (exI n : Nat)) ∧ w = w' := by
  have h := rpow_pos (a := 2) (by decide) (by decide) n w
  rw [powI_two] at h
  have H := Lib.hid h
  clear h
  go_enter Try.func39, Try.ntmps39
  go_wp2_with (go_at_call 36; refine H.out.mono ?_; rintro e w' ⟨rfl, rfl⟩)
  go_ret
  exact ⟨rfl, rfl⟩
end Go.Proofs.Ytokeoodkioobdaa
