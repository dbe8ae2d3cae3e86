/- Plain: the reference's product of bytes, by definition, is the field's. No condition but that both are bytes. -/
import Derived.Test.YtokeoodkioobdaaGf
namespace Go.Proofs.Ytokeoodkioobdaa.Gf

/-- The reference's first loop. -/
def rp : Nat → Nat → Nat → Nat
  | 0, _, _ => 0
  | i + 1, a, b => if b / 2 ^ i % 2 = 1 then rp i a b ^^^ (a * 2 ^ i) else rp i a b

/-- The reference's second loop: j rounds, of i = 15, 14, .. -/
def rq : Nat → Nat → Nat
  | 0, p => p
  | j + 1, p => if rq j p / 2 ^ (15 - j) % 2 = 1 then rq j p ^^^ (285 * 2 ^ (15 - j - 8)) else rq j p

theorem bit_iff (n i : Nat) : (n / 2 ^ i % 2 = 1) ↔ n.testBit i = true := by
  rw [Nat.testBit_eq_decide_div_mod_eq]; simp

theorem rq_xor (p q : Nat) : ∀ j, rq j (p ^^^ q) = rq j p ^^^ rq j q
  | 0 => rfl
  | j + 1 => by
    show (if _ then _ else _) = (if _ then _ else _) ^^^ (if _ then _ else _)
    rw [rq_xor p q j]
    simp only [bit_iff, Nat.testBit_xor]
    cases (rq j p).testBit (15 - j) <;> cases (rq j q).testBit (15 - j) <;> simp
    · exact Nat.xor_assoc _ _ _
    · rw [Nat.xor_assoc, Nat.xor_assoc]; congr 1; exact Nat.xor_comm _ _
    · rw [xor4, Nat.xor_self]; simp
theorem rq_zero : ∀ j, rq j 0 = 0
  | 0 => rfl
  | j + 1 => by
    show (if _ then _ else _) = 0
    rw [rq_zero j]; simp
theorem rq_shift : ∀ a, a < 256 → ∀ i, i < 8 → rq 8 (a * 2 ^ i) = dbl i a := by decide +kernel
theorem rq_rp {a : Nat} (ha : a < 256) (b : Nat) : ∀ i, i ≤ 8 → rq 8 (rp i a b) = mulTo i a b
  | 0, _ => rq_zero 8
  | i + 1, hi => by
    simp only [rp, mulTo, bit_iff]
    split
    · rw [rq_xor, rq_rp ha b i (by omega), rq_shift a ha i (by omega)]
    · rw [rq_rp ha b i (by omega)]; simp
theorem ref_mul {a : Nat} (ha : a < 256) (b : Nat) : rq 8 (rp 8 a b) = mul a b := rq_rp ha b 8 (Nat.le_refl _)

theorem rp_lt {a : Nat} (ha : a < 256) (b : Nat) : ∀ i, i ≤ 8 → rp i a b < 65536
  | 0, _ => by show 0 < 65536; decide
  | i + 1, hi => by
    show (if _ then _ else _) < 65536
    have h := rp_lt ha b i (by omega)
    split
    · refine Nat.xor_lt_two_pow (n := 16) h ?_
      have : 2 ^ i ≤ 2 ^ 7 := Nat.pow_le_pow_right (by decide) (by omega)
      calc a * 2 ^ i ≤ 255 * 2 ^ 7 := Nat.mul_le_mul (by omega) this
        _ < 2 ^ 16 := by decide
    · exact h
theorem rq_lt {p : Nat} (hp : p < 65536) : ∀ j, j ≤ 8 → rq j p < 65536
  | 0, _ => hp
  | j + 1, hj => by
    show (if _ then _ else _) < 65536
    have h := rq_lt hp j (by omega)
    split
    · refine Nat.xor_lt_two_pow (n := 16) h ?_
      have : 2 ^ (15 - j - 8) ≤ 2 ^ 7 := Nat.pow_le_pow_right (by decide) (by omega)
      calc 285 * 2 ^ (15 - j - 8) ≤ 285 * 2 ^ 7 := Nat.mul_le_mul (by omega) this
        _ < 2 ^ 16 := by decide
    · exact h
end Go.Proofs.Ytokeoodkioobdaa.Gf
