/- The walks of the chapter's example and of the law FieldLaws: true, and nothing that was there has turned. Conditions: bytes are below 256. -/
import Derived.Test.YtokeoodkioobdaaField
namespace Go.Proofs.Ytokeoodkioobdaa
open Go.RowKit

theorem awake1 (w : World) : Calls Try.prog 21 #[] w fun e w' => e = .returned (.bool true) ∧ Below w.heap.size w w' := by
  have g1 : Gf.mul 2 128 = 29 := by decide +kernel
  have g2 : Gf.inv 2 = 142 := by decide +kernel
  have g3 : Gf.lg 4 = 2 := by decide +kernel
  go_enter Try.func21, Try.ntmps21
  go_wp2_with fail
  refine (new_any _).mono ?_
  rintro e w1 ⟨p, rfl, hp, hf, hB⟩
  have HB := Lib.hid hB
  clear hB
  have h1 := inv_pos (a := 2) hf (by decide) (by decide)
  rw [g2] at h1
  have H1 := Lib.hid h1
  have H2 : ∀ n, Hid _ := fun n => Lib.hid (log_pos (a := 4) (hf.drewN n) (by decide) (by decide))
  rw [g3] at H2
  have H3 : ∀ n, Hid _ := fun n => Lib.hid (mul_any (a := 2) (b := 128) (hf.drewN n) (by decide) (by decide))
  rw [g1] at H3
  clear h1 g1 g2 g3
  go_wp2_with (first | (go_at_call 26; refine H1.out.mono ?_; rintro e w' ⟨rfl, n, rfl⟩) | (go_at_call 32; refine (H2 _).out.mono ?_; rintro e w' ⟨rfl, rfl⟩) | (go_at_call 23; refine (H3 _).out.mono ?_; rintro e w' ⟨rfl, m, rfl⟩))
  go_ret
  exact ⟨rfl, below_drewN HB.out _⟩

theorem mul_by0 {w : World} {p a : Nat} (hf : IsF w p) (ha : a < 256) : Calls Try.prog 23 #[.pointer (some ⟨p, 0, none⟩), .int .u8 a, .int .u8 0] w fun e w' => e = .returned (.int .u8 0) ∧ ∃ n, w' = w.drewN n := by
  have h := mul_any (b := 0) hf ha (by decide)
  rw [Gf.mul_zero] at h
  exact h
theorem mul_by1 {w : World} {p a : Nat} (hf : IsF w p) (ha : a < 256) : Calls Try.prog 23 #[.pointer (some ⟨p, 0, none⟩), .int .u8 a, .int .u8 1] w fun e w' => e = .returned (.int .u8 a) ∧ ∃ n, w' = w.drewN n := by
  have h := mul_any (b := 1) hf ha (by decide)
  rw [Gf.mul_one ha] at h
  exact h
theorem div_pos {w : World} {p a b : Nat} (hf : IsF w p) (ha : a < 256) (hb : b < 256) (hb0 : b ≠ 0) : Calls Try.prog 25 #[.pointer (some ⟨p, 0, none⟩), .int .u8 a, .int .u8 b] w fun e w' => e = .returned (.tuple #[.int .u8 (Gf.mul a (Gf.inv b) : Nat), .int .i64 0]) ∧ ∃ n, w' = w.drewN n := by
  have h := div_any hf ha hb
  unfold zerr at h
  rw [if_neg hb0] at h
  exact h
theorem div_zero {w : World} {p a : Nat} (hf : IsF w p) (ha : a < 256) : Calls Try.prog 25 #[.pointer (some ⟨p, 0, none⟩), .int .u8 a, .int .u8 0] w fun e w' => e = .returned (.tuple #[.int .u8 0, .int .i64 6]) ∧ ∃ n, w' = w.drewN n := by
  have h := div_any (b := 0) hf ha (by decide)
  rw [Gf.inv_zero, Gf.mul_zero] at h
  exact h
theorem mul_0by {w : World} {p a : Nat} (hf : IsF w p) (ha : a < 256) : Calls Try.prog 23 #[.pointer (some ⟨p, 0, none⟩), .int .u8 0, .int .u8 a] w fun e w' => e = .returned (.int .u8 0) ∧ ∃ n, w' = w.drewN n := by
  have h := mul_any (a := 0) hf (by decide) ha
  rw [Gf.zero_mul] at h
  exact h
theorem mul_00 {w : World} {p : Nat} (hf : IsF w p) : Calls Try.prog 23 #[.pointer (some ⟨p, 0, none⟩), .int .u8 0, .int .u8 0] w fun e w' => e = .returned (.int .u8 0) ∧ ∃ n, w' = w.drewN n := mul_0by (a := 0) hf (by decide)
theorem add_0by (a : Nat) (ha : a < 256) (w : World) : Calls Try.prog 24 #[.int .u8 0, .int .u8 a] w fun e w' => e = .returned (.int .u8 a) ∧ w = w' := by
  have h := add_any 0 a (by decide) ha w
  rw [Nat.zero_xor] at h
  exact h
theorem add_by0 (a : Nat) (ha : a < 256) (w : World) : Calls Try.prog 24 #[.int .u8 a, .int .u8 0] w fun e w' => e = .returned (.int .u8 a) ∧ w = w' := by
  have h := add_any a 0 ha (by decide) w
  rw [Nat.xor_zero] at h
  exact h
theorem add_self (a : Nat) (ha : a < 256) (w : World) : Calls Try.prog 24 #[.int .u8 a, .int .u8 a] w fun e w' => e = .returned (.int .u8 0) ∧ w = w' := by
  have h := add_any a a ha ha w
  rw [Nat.xor_self] at h
  exact h
theorem inv_of0 {w : World} {p : Nat} (hf : IsF w p) : Calls Try.prog 26 #[.pointer (some ⟨p, 0, none⟩), .int .u8 0] w fun e w' => e = .returned (.tuple #[.int .u8 0, .int .i64 6]) ∧ ∃ n, w' = w.drewN n :=
  (Go.Proofs.Ytokeoodkioobdaa.inv_zero hf).mono fun _ _ ⟨h1, h2⟩ => ⟨h1, 0, h2.symm⟩
theorem beq_not {a b : Nat} (h : a ≠ b) : (((a : Nat) : Int) == ((b : Nat) : Int)) = false := by simp; omega

set_option maxHeartbeats 1600000 in
set_option maxRecDepth 100000 in
theorem laws_pos (a b c : Nat) (ha : a < 256) (hb : b < 256) (hc : c < 256) (hb0 : b ≠ 0) (w : World) : Calls Try.prog 3 #[.int .u8 a, .int .u8 b, .int .u8 c] w fun e w' => e = .returned (.bool true) ∧ Below w.heap.size w w' := by
  have l1 : ∀ x y, x < 256 → Gf.mul x y < 256 := fun x y h => Gf.mul_lt h
  have l2 : ∀ x y, x < 256 → y < 256 → x ^^^ y < 256 := fun x y h k => Gf.xor_lt h k
  have l3 := Gf.inv_lt (a := b)
  have q1 := l1 b c hb
  have q2 := l1 a b ha
  have q3 := l1 a c ha
  have q4 := l2 b c hb hc
  have q5 := l2 a b ha hb
  have q6 := l1 a (Gf.inv b) ha
  have t1 := Nat.le_of_eq ((Gf.mul_comm ha hb))
  have u1 := Nat.le_of_eq ((Gf.mul_comm ha hb)).symm
  have t2 := Nat.le_of_eq ((Gf.mul_assoc ha hb hc).symm)
  have u2 := Nat.le_of_eq ((Gf.mul_assoc ha hb hc).symm).symm
  have t3 := Nat.le_of_eq ((Gf.mul_xor_right a b c))
  have u3 := Nat.le_of_eq ((Gf.mul_xor_right a b c)).symm
  have t4 := Nat.le_of_eq ((Nat.xor_comm a b))
  have u4 := Nat.le_of_eq ((Nat.xor_comm a b)).symm
  have t5 := Nat.le_of_eq ((Nat.xor_assoc a b c).symm)
  have u5 := Nat.le_of_eq ((Nat.xor_assoc a b c).symm).symm
  have t6 := Nat.le_of_eq ((Nat.xor_self a))
  have u6 := Nat.le_of_eq ((Nat.xor_self a)).symm
  have t7 := Nat.le_of_eq ((Gf.mul_zero a))
  have u7 := Nat.le_of_eq ((Gf.mul_zero a)).symm
  have t8 := Nat.le_of_eq ((Gf.mul_one ha))
  have u8 := Nat.le_of_eq ((Gf.mul_one ha)).symm
  have t9 := Nat.le_of_eq ((Gf.mul_div_cancel ha hb hb0))
  have u9 := Nat.le_of_eq ((Gf.mul_div_cancel ha hb hb0)).symm
  have t10 := Nat.le_of_eq ((Gf.inv_mul hb hb0))
  have u10 := Nat.le_of_eq ((Gf.inv_mul hb hb0)).symm
  have t11 := beq_not hb0
  have q7 := l1 b a hb
  have c1 := Gf.mul_comm ha hb
  rw [c1] at t2 u2 t3 u3
  have t12 : a ≤ 0 ∨ 1 ≤ a ∧ 1 ≤ Gf.mul b a := by
    by_cases h : a = 0
    · exact Or.inl (by omega)
    · exact Or.inr ⟨by omega, Nat.pos_of_ne_zero (Gf.mul_ne hb ha hb0 h)⟩
  have q8 : b ^^^ a < 256 := Gf.xor_lt hb ha
  rw [Nat.xor_comm a b] at t5 u5
  clear c1
  clear l1 l2
  rcases t12 with t12 | ⟨t12, t13⟩
  all_goals
    go_enter Try.func3, Try.ntmps3
    go_wp2_with fail
    refine (awake1 _).mono ?_
    rintro e w0 ⟨rfl, hB0⟩
    have HB0 := Lib.hid hB0
    clear hB0
    go_wp2_with fail
    refine (new_any _).mono ?_
    rintro e w1 ⟨p, rfl, hp, hf, hB⟩
    have HB := Lib.hid hB
    clear hB
    go_wp2_with (first
      | (go_at_call 24; ((with_reducible refine (add_any _ _ (by assumption) (by assumption) _).mono ?_); rintro e w' ⟨rfl, rfl⟩))
      | (go_at_call 23; ((with_reducible refine (mul_any hf (by assumption) (by assumption)).mono ?_); rintro e w' ⟨rfl, n, rfl⟩))
      | (go_at_call 23; ((with_reducible refine (mul_any (hf.drewN _) (by assumption) (by assumption)).mono ?_); rintro e w' ⟨rfl, n, rfl⟩))
      | (go_at_call 23; ((with_reducible refine (mul_by0 (hf.drewN _) (by assumption)).mono ?_); rintro e w' ⟨rfl, n, rfl⟩))
      | (go_at_call 23; ((with_reducible refine (mul_by1 (hf.drewN _) (by assumption)).mono ?_); rintro e w' ⟨rfl, n, rfl⟩))
      | (go_at_call 25; ((with_reducible refine (div_pos (hf.drewN _) (by assumption) (by assumption) hb0).mono ?_); rintro e w' ⟨rfl, n, rfl⟩))
      | (go_at_call 26; ((with_reducible refine (inv_pos (hf.drewN _) (by assumption) hb0).mono ?_); rintro e w' ⟨rfl, n, rfl⟩)))
  · go_ret
    exact ⟨rfl, HB0.out.trans ((below_drewN HB.out _).mono HB0.out.size)⟩
  · go_ret
    refine ⟨?_, HB0.out.trans ((below_drewN HB.out _).mono HB0.out.size)⟩
    congr 2
    simp
    omega

set_option maxHeartbeats 1600000 in
set_option maxRecDepth 100000 in
theorem laws_zero (a c : Nat) (ha : a < 256) (hc : c < 256) (w : World) : Calls Try.prog 3 #[.int .u8 a, .int .u8 0, .int .u8 c] w fun e w' => e = .returned (.bool true) ∧ Below w.heap.size w w' := by
  have q3 : Gf.mul a c < 256 := Gf.mul_lt ha
  have q4 : a ^^^ c < 256 := Gf.xor_lt ha hc
  go_enter Try.func3, Try.ntmps3
  go_wp2_with fail
  refine (awake1 _).mono ?_
  rintro e w0 ⟨rfl, hB0⟩
  have HB0 := Lib.hid hB0
  clear hB0
  go_wp2_with fail
  refine (new_any _).mono ?_
  rintro e w1 ⟨p, rfl, hp, hf, hB⟩
  have HB := Lib.hid hB
  clear hB
  go_wp2_with (first
    | (go_at_call 24; ((with_reducible refine (add_0by _ (by assumption) _).mono ?_); rintro e w' ⟨rfl, rfl⟩))
    | (go_at_call 24; ((with_reducible refine (add_by0 _ (by assumption) _).mono ?_); rintro e w' ⟨rfl, rfl⟩))
    | (go_at_call 24; ((with_reducible refine (add_self _ (by assumption) _).mono ?_); rintro e w' ⟨rfl, rfl⟩))
    | (go_at_call 24; ((with_reducible refine (add_any _ _ (by assumption) (by assumption) _).mono ?_); rintro e w' ⟨rfl, rfl⟩))
    | (go_at_call 23; ((with_reducible refine (mul_by0 hf (by assumption)).mono ?_); rintro e w' ⟨rfl, n, rfl⟩))
    | (go_at_call 23; ((with_reducible refine (mul_00 (hf.drewN _)).mono ?_); rintro e w' ⟨rfl, n, rfl⟩))
    | (go_at_call 23; ((with_reducible refine (mul_by0 (hf.drewN _) (by assumption)).mono ?_); rintro e w' ⟨rfl, n, rfl⟩))
    | (go_at_call 23; ((with_reducible refine (mul_0by (hf.drewN _) (by assumption)).mono ?_); rintro e w' ⟨rfl, n, rfl⟩))
    | (go_at_call 23; ((with_reducible refine (mul_by1 (hf.drewN _) (by assumption)).mono ?_); rintro e w' ⟨rfl, n, rfl⟩))
    | (go_at_call 23; ((with_reducible refine (mul_any (hf.drewN _) (by assumption) (by assumption)).mono ?_); rintro e w' ⟨rfl, n, rfl⟩))
    | (go_at_call 25; ((with_reducible refine (div_zero (hf.drewN _) (by assumption)).mono ?_); rintro e w' ⟨rfl, n, rfl⟩))
    | (go_at_call 26; ((with_reducible refine (inv_of0 (hf.drewN _)).mono ?_); rintro e w' ⟨rfl, n, rfl⟩)))
  go_ret
  exact ⟨rfl, HB0.out.trans ((below_drewN HB.out _).mono HB0.out.size)⟩
theorem laws_any (a b c : Nat) (ha : a < 256) (hb : b < 256) (hc : c < 256) (w : World) : Calls Try.prog 3 #[.int .u8 a, .int .u8 b, .int .u8 c] w fun e w' => e = .returned (.bool true) ∧ Below w.heap.size w w' := by
  by_cases h : b = 0
  · subst h; exact laws_zero a c ha hc w
  · exact laws_pos a b c ha hb hc h w
end Go.Proofs.Ytokeoodkioobdaa
