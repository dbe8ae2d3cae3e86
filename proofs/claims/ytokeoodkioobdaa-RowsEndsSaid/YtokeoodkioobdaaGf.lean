/- Plain: bytes (numbers below 256) as a field, with no program in sight: products, powers of 2, logarithms, inverses. No condition. -/
namespace Go.Proofs.Ytokeoodkioobdaa.Gf

/-- Twice a byte. -/
def xt (x : Nat) : Nat := if 127 < x then (2 * x) ^^^ 285 else 2 * x

/-- Powers of 2. -/
def ex : Nat → Nat
  | 0 => 1
  | n + 1 => xt (ex n)

/-- Doubled so often. -/
def dbl : Nat → Nat → Nat
  | 0, a => a
  | i + 1, a => xt (dbl i a)

/-- The product by the low bits of the second one. -/
def mulTo : Nat → Nat → Nat → Nat
  | 0, _, _ => 0
  | i + 1, a, b => mulTo i a b ^^^ (if b.testBit i then dbl i a else 0)

def mul (a b : Nat) : Nat := mulTo 8 a b

def lgGo : Nat → Nat → Nat → Nat → Nat
  | 0, _, _, _ => 0
  | f + 1, p, n, a => if p = a then n else lgGo f (xt p) (n + 1) a

def lg (a : Nat) : Nat := lgGo 255 1 0 a

def inv (a : Nat) : Nat := if a = 0 then 0 else ex (255 - lg a)

theorem xor_lt {a b : Nat} (ha : a < 256) (hb : b < 256) : a ^^^ b < 256 := Nat.xor_lt_two_pow (n := 8) ha hb
theorem xt_lt {x : Nat} (h : x < 256) : xt x < 256 := (by decide +kernel : ∀ x, x < 256 → xt x < 256) x h
theorem xt_shift {x : Nat} (h : x < 256) : xt x = (x <<< 1) ^^^ (if x.testBit 7 then 285 else 0) :=
  (by decide +kernel : ∀ x, x < 256 → xt x = (x <<< 1) ^^^ (if x.testBit 7 then 285 else 0)) x h
theorem xor4 (a b c d : Nat) : (a ^^^ b) ^^^ (c ^^^ d) = (a ^^^ c) ^^^ (b ^^^ d) := by
  rw [Nat.xor_assoc, Nat.xor_assoc]; congr 1; rw [← Nat.xor_assoc, ← Nat.xor_assoc, Nat.xor_comm b c]
theorem xt_xor {x y : Nat} (hx : x < 256) (hy : y < 256) : xt (x ^^^ y) = xt x ^^^ xt y := by
  rw [xt_shift hx, xt_shift hy, xt_shift (xor_lt hx hy), xor4, Nat.shiftLeft_xor_distrib, Nat.testBit_xor]
  congr 1
  cases x.testBit 7 <;> cases y.testBit 7 <;> rfl
theorem xt_zero : xt 0 = 0 := rfl
theorem xt_ne {x : Nat} (h : x < 256) (h0 : x ≠ 0) : xt x ≠ 0 := (by decide +kernel : ∀ x, x < 256 → x ≠ 0 → xt x ≠ 0) x h h0

theorem dbl_lt {a : Nat} (h : a < 256) : ∀ i, dbl i a < 256
  | 0 => h
  | i + 1 => xt_lt (dbl_lt h i)
theorem dbl_xor {a b : Nat} (ha : a < 256) (hb : b < 256) : ∀ i, dbl i (a ^^^ b) = dbl i a ^^^ dbl i b
  | 0 => rfl
  | i + 1 => by show xt (dbl i (a ^^^ b)) = _; rw [dbl_xor ha hb i, xt_xor (dbl_lt ha i) (dbl_lt hb i)]; rfl
theorem dbl_xt (a : Nat) : ∀ i, dbl i (xt a) = xt (dbl i a)
  | 0 => rfl
  | i + 1 => by show xt (dbl i (xt a)) = _; rw [dbl_xt a i]; rfl
theorem dbl_zero : ∀ i, dbl i 0 = 0
  | 0 => rfl
  | i + 1 => by show xt (dbl i 0) = 0; rw [dbl_zero i]; rfl

theorem mulTo_lt {a : Nat} (h : a < 256) (b : Nat) : ∀ i, mulTo i a b < 256
  | 0 => by show 0 < 256; decide
  | i + 1 => by
    show mulTo i a b ^^^ _ < 256
    refine xor_lt (mulTo_lt h b i) ?_
    split
    · exact dbl_lt h i
    · decide
theorem mul_lt {a b : Nat} (h : a < 256) : mul a b < 256 := mulTo_lt h b 8

theorem mulTo_xor_left {a b : Nat} (ha : a < 256) (hb : b < 256) (c : Nat) : ∀ i, mulTo i (a ^^^ b) c = mulTo i a c ^^^ mulTo i b c
  | 0 => by simp [mulTo]
  | i + 1 => by
    show mulTo i (a ^^^ b) c ^^^ _ = (mulTo i a c ^^^ _) ^^^ (mulTo i b c ^^^ _)
    rw [xor4, mulTo_xor_left ha hb c i]
    congr 1
    split
    · exact dbl_xor ha hb i
    · rfl
theorem mulTo_xor_right (a b c : Nat) : ∀ i, mulTo i a (b ^^^ c) = mulTo i a b ^^^ mulTo i a c
  | 0 => by simp [mulTo]
  | i + 1 => by
    show mulTo i a (b ^^^ c) ^^^ _ = (mulTo i a b ^^^ _) ^^^ (mulTo i a c ^^^ _)
    rw [xor4, mulTo_xor_right a b c i, Nat.testBit_xor]
    congr 1
    cases b.testBit i <;> cases c.testBit i <;> simp
theorem mul_xor_left {a b : Nat} (ha : a < 256) (hb : b < 256) (c : Nat) : mul (a ^^^ b) c = mul a c ^^^ mul b c := mulTo_xor_left ha hb c 8
theorem mul_xor_right (a b c : Nat) : mul a (b ^^^ c) = mul a b ^^^ mul a c := mulTo_xor_right a b c 8

theorem mulTo_xt {a : Nat} (ha : a < 256) (b : Nat) : ∀ i, mulTo i (xt a) b = xt (mulTo i a b)
  | 0 => rfl
  | i + 1 => by
    show mulTo i (xt a) b ^^^ _ = xt (mulTo i a b ^^^ _)
    rw [mulTo_xt ha b i]
    split
    · rw [dbl_xt, xt_xor (mulTo_lt ha b i) (dbl_lt ha i)]
    · simp
theorem mul_xt {a : Nat} (ha : a < 256) (b : Nat) : mul (xt a) b = xt (mul a b) := mulTo_xt ha b 8
theorem one_mul {b : Nat} (h : b < 256) : mul 1 b = b := (by decide +kernel : ∀ b, b < 256 → mul 1 b = b) b h
theorem mulTo_zero_left (b : Nat) : ∀ i, mulTo i 0 b = 0
  | 0 => rfl
  | i + 1 => by show mulTo i 0 b ^^^ _ = 0; rw [mulTo_zero_left b i, dbl_zero]; simp
theorem zero_mul (b : Nat) : mul 0 b = 0 := mulTo_zero_left b 8
theorem mulTo_zero_right (a : Nat) : ∀ i, mulTo i a 0 = 0
  | 0 => rfl
  | i + 1 => by show mulTo i a 0 ^^^ _ = 0; rw [mulTo_zero_right a i]; simp
theorem mul_zero (a : Nat) : mul a 0 = 0 := mulTo_zero_right a 8

theorem ex_lt : ∀ n, ex n < 256
  | 0 => by decide
  | n + 1 => xt_lt (ex_lt n)
theorem ex_ne : ∀ n, ex n ≠ 0
  | 0 => by decide
  | n + 1 => xt_ne (ex_lt n) (ex_ne n)
theorem ex_mul (n : Nat) {b : Nat} (hb : b < 256) : mul (ex n) b = dbl n b := by
  induction n with
  | zero => exact one_mul hb
  | succ n ih => show mul (xt (ex n)) b = xt (dbl n b); rw [mul_xt (ex_lt n), ih]
theorem dbl_ex (n m : Nat) : dbl n (ex m) = ex (n + m) := by
  induction n with
  | zero => show ex m = _; rw [Nat.zero_add]
  | succ n ih => show xt (dbl n (ex m)) = _; rw [ih, show n + 1 + m = (n + m) + 1 from by omega]; rfl
theorem ex_add (n m : Nat) : mul (ex n) (ex m) = ex (n + m) := by rw [ex_mul n (ex_lt m), dbl_ex]
theorem ex_255 : ex 255 = 1 := by decide +kernel
theorem ex_up (n : Nat) : ex (n + 255) = ex n := by rw [← ex_add, ex_255, ex_mul n (by decide), ← ex.eq_1, dbl_ex]; rfl
theorem ex_mod (n : Nat) : ex (n % 255) = ex n := by
  have h : ∀ q r, ex (r + 255 * q) = ex r := by
    intro q; induction q with
    | zero => intro r; rfl
    | succ q ih => intro r; rw [show r + 255 * (q + 1) = (r + 255 * q) + 255 from by omega, ex_up, ih]
  conv => rhs; rw [← Nat.mod_add_div n 255]
  rw [h]

theorem lg_all : ∀ a, a < 256 → a ≠ 0 → lg a < 255 ∧ ex (lg a) = a := by decide +kernel
theorem lg_lt {a : Nat} (h : a < 256) (h0 : a ≠ 0) : lg a < 255 := (lg_all a h h0).1
theorem ex_lg {a : Nat} (h : a < 256) (h0 : a ≠ 0) : ex (lg a) = a := (lg_all a h h0).2
theorem lg_ex_all : ∀ n, n < 255 → lg (ex n) = n := by decide +kernel
theorem lg_ex {n : Nat} (h : n < 255) : lg (ex n) = n := lg_ex_all n h
theorem lg_ex_mod (n : Nat) : lg (ex n) = n % 255 := by rw [← ex_mod]; exact lg_ex (Nat.mod_lt _ (by decide))

theorem mul_ex {a b : Nat} (ha : a < 256) (hb : b < 256) (ha0 : a ≠ 0) (hb0 : b ≠ 0) : mul a b = ex (lg a + lg b) := by
  conv => lhs; rw [← ex_lg ha ha0, ← ex_lg hb hb0]
  exact ex_add _ _
theorem mul_ne {a b : Nat} (ha : a < 256) (hb : b < 256) (ha0 : a ≠ 0) (hb0 : b ≠ 0) : mul a b ≠ 0 := by rw [mul_ex ha hb ha0 hb0]; exact ex_ne _
theorem mul_eq_zero {a b : Nat} (ha : a < 256) (hb : b < 256) (h : mul a b = 0) : a = 0 ∨ b = 0 := by
  by_cases a0 : a = 0
  · exact Or.inl a0
  · by_cases b0 : b = 0
    · exact Or.inr b0
    · exact absurd h (mul_ne ha hb a0 b0)

theorem mul_comm {a b : Nat} (ha : a < 256) (hb : b < 256) : mul a b = mul b a := by
  by_cases ha0 : a = 0
  · subst ha0; rw [zero_mul, mul_zero]
  · by_cases hb0 : b = 0
    · subst hb0; rw [zero_mul, mul_zero]
    · rw [mul_ex ha hb ha0 hb0, mul_ex hb ha hb0 ha0, Nat.add_comm]
theorem mul_assoc {a b c : Nat} (ha : a < 256) (hb : b < 256) (hc : c < 256) : mul (mul a b) c = mul a (mul b c) := by
  by_cases ha0 : a = 0
  · subst ha0; rw [zero_mul, zero_mul, zero_mul]
  · by_cases hb0 : b = 0
    · subst hb0; rw [zero_mul, mul_zero, zero_mul]
    · by_cases hc0 : c = 0
      · subst hc0; rw [mul_zero, mul_zero, mul_zero]
      · conv => lhs; rw [← ex_lg ha ha0, ← ex_lg hb hb0, ← ex_lg hc hc0]
        conv => rhs; rw [← ex_lg ha ha0, ← ex_lg hb hb0, ← ex_lg hc hc0]
        rw [ex_add, ex_add, ex_add, ex_add, Nat.add_assoc]
theorem mul_one {a : Nat} (h : a < 256) : mul a 1 = a := by rw [mul_comm h (by decide), one_mul h]
theorem inv_lt {a : Nat} : inv a < 256 := by unfold inv; split; · decide
                                             · exact ex_lt _
theorem inv_zero : inv 0 = 0 := rfl
theorem inv_ne {a : Nat} (h0 : a ≠ 0) : inv a ≠ 0 := by unfold inv; rw [if_neg h0]; exact ex_ne _
theorem mul_inv {a : Nat} (h : a < 256) (h0 : a ≠ 0) : mul a (inv a) = 1 := by
  have hl := lg_lt h h0
  unfold inv; rw [if_neg h0]
  conv => lhs; rw [← ex_lg h h0]
  rw [lg_ex hl, ex_add, show lg a + (255 - lg a) = 255 from by omega, ex_255]
theorem inv_mul {a : Nat} (h : a < 256) (h0 : a ≠ 0) : mul (inv a) a = 1 := by rw [mul_comm inv_lt h, mul_inv h h0]
/-- An inverse is one alone. -/
theorem inv_only {a b : Nat} (ha : a < 256) (hb : b < 256) (h : mul a b = 1) : b = inv a := by
  have h0 : a ≠ 0 := by intro e; subst e; rw [zero_mul] at h; exact absurd h (by decide)
  have := mul_assoc (inv_lt (a := a)) ha hb
  rw [inv_mul ha h0, one_mul hb, h, mul_one inv_lt] at this
  exact this
theorem mul_div_cancel {a b : Nat} (ha : a < 256) (hb : b < 256) (h0 : b ≠ 0) : mul (mul a (inv b)) b = a := by
  rw [mul_assoc ha inv_lt hb, inv_mul hb h0, mul_one ha]

end Go.Proofs.Ytokeoodkioobdaa.Gf
