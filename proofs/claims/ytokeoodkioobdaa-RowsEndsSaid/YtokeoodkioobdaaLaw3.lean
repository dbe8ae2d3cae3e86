/- The walk of the law FieldDoes: true, and nothing that was there has turned. Conditions: bytes are below 256, the number is an int64's. -/
import Derived.Test.YtokeoodkioobdaaRef2
namespace Go.Proofs.Ytokeoodkioobdaa
open Go.RowKit

theorem lg_zero : Gf.lg 0 = 0 := by decide +kernel
theorem inv_all {w : World} {p a : Nat} (hf : IsF w p) (ha : a < 256) : Calls Try.prog 26 #[.pointer (some ⟨p, 0, none⟩), .int .u8 a] w fun e w' => e = .returned (.tuple #[.int .u8 (Gf.inv a : Nat), .int .i64 (zerr a)]) ∧ ∃ n, w' = w.drewN n := inv_any hf ha
theorem rinv_all {a : Nat} (ha : a < 256) (w : World) : Calls Try.prog 34 #[.int .u8 a] w fun e w' => e = .returned (.tuple #[.int .u8 (Gf.inv a : Nat), .int .i64 (zerr a)]) ∧ w = w' := by
  unfold zerr
  by_cases a0 : a = 0
  · subst a0; exact rinv_zero w
  · rw [if_neg a0]; exact rinv_pos ha a0 w
theorem rdiv_all {a b : Nat} (ha : a < 256) (hb : b < 256) (w : World) : Calls Try.prog 35 #[.int .u8 a, .int .u8 b] w fun e w' => e = .returned (.tuple #[.int .u8 (Gf.mul a (Gf.inv b) : Nat), .int .i64 (zerr b)]) ∧ w = w' := by
  unfold zerr
  by_cases b0 : b = 0
  · subst b0; rw [Gf.inv_zero, Gf.mul_zero]; exact rdiv_zero a w
  · rw [if_neg b0]; exact rdiv_pos ha hb b0 w
theorem rpow_all {a : Nat} (ha : a < 256) (n : Int) (w : World) : Calls Try.prog 36 #[.int .u8 a, .int .i64 n] w fun e w' => e = .returned (.tuple #[.int .u8 (powI a n : Nat), .int .i64 (powE a n)]) ∧ w = w' := by
  unfold powE
  by_cases a0 : a = 0
  · subst a0
    by_cases h : n < 0
    · rw [if_pos ⟨rfl, h⟩, show powI 0 n = 0 from by unfold powI; rw [if_neg (by omega), if_pos rfl]]; exact rpow_0neg n h w
    · rw [if_neg (fun k => h k.2)]
      by_cases h0 : n = 0
      · subst h0; exact rpow_00 w
      · rw [show powI 0 n = 0 from by unfold powI; rw [if_neg h0, if_pos rfl]]; exact rpow_0pos n (by omega) w
  · rw [if_neg (fun k => a0 k.1)]; exact rpow_pos ha a0 n w
theorem log_all {w : World} {p a : Nat} (hf : IsF w p) (ha : a < 256) : Calls Try.prog 32 #[.pointer (some ⟨p, 0, none⟩), .int .u8 a] w fun e w' => e = .returned (.tuple #[.int .i64 (Gf.lg a : Nat), .int .i64 (zerr a)]) ∧ w = w' := by
  unfold zerr
  by_cases a0 : a = 0
  · subst a0; rw [lg_zero]; exact log_zero hf
  · rw [if_neg a0]; exact log_pos hf ha a0
theorem rlog_all {a : Nat} (ha : a < 256) (w : World) : Calls Try.prog 37 #[.int .u8 a] w fun e w' => e = .returned (.tuple #[.int .i64 (Gf.lg a : Nat), .int .i64 (zerr a)]) ∧ w = w' := by
  unfold zerr
  by_cases a0 : a = 0
  · subst a0; rw [lg_zero]; exact rlog_zero w
  · rw [if_neg a0]; exact rlog_pos ha a0 w

set_option maxHeartbeats 1600000 in
set_option maxRecDepth 100000 in
theorem does_any (a b : Nat) (n : Int) (ha : a < 256) (hb : b < 256) (h1 : -9223372036854775808 ≤ n) (h2 : n ≤ 9223372036854775807) (w : World) :
    Calls Try.prog 6 #[.int .u8 a, .int .u8 b, .int .i64 n] w fun e w' => e = .returned (.bool true) ∧ Below w.heap.size w w' := by
  have hp : ∀ {w : World} {p : Nat} (_ : IsF w p), Hid _ := fun {w} {p} hf => Lib.hid (pow_any hf ha n h1 h2)
  have hx : ∀ {w : World} {p : Nat} (_ : IsF w p), Hid _ := fun {w} {p} hf => Lib.hid (exp_any hf n h1 h2)
  have hxor := u8_xor_nat a b ha hb
  clear h1 h2
  go_enter Try.func6, Try.ntmps6
  go_wp2_with fail
  refine (new_any _).mono ?_
  rintro e w1 ⟨p, rfl, hpw, hf, hB⟩
  have HB := Lib.hid hB
  clear hB
  go_wp2_with (first
    | (go_at_call 26; ((with_reducible refine (inv_all hf ha).mono ?_); rintro e w' ⟨rfl, k, rfl⟩))
    | (go_at_call 34; ((with_reducible refine (rinv_all ha _).mono ?_); rintro e w' ⟨rfl, rfl⟩))
    | (go_at_call 25; ((with_reducible refine (div_any (hf.drewN _) ha hb).mono ?_); rintro e w' ⟨rfl, k, rfl⟩))
    | (go_at_call 35; ((with_reducible refine (rdiv_all ha hb _).mono ?_); rintro e w' ⟨rfl, rfl⟩))
    | (go_at_call 33; ((with_reducible refine (hp (hf.drewN _)).out.mono ?_); rintro e w' ⟨rfl, rfl⟩))
    | (go_at_call 36; ((with_reducible refine (rpow_all ha n _).mono ?_); rintro e w' ⟨rfl, rfl⟩))
    | (go_at_call 32; ((with_reducible refine (log_all (hf.drewN _) ha).mono ?_); rintro e w' ⟨rfl, rfl⟩))
    | (go_at_call 37; ((with_reducible refine (rlog_all ha _).mono ?_); rintro e w' ⟨rfl, rfl⟩))
    | (go_at_call 24; ((with_reducible refine (add_any _ _ ha hb _).mono ?_); rintro e w' ⟨rfl, rfl⟩))
    | (go_at_call 23; ((with_reducible refine (mul_any (hf.drewN _) ha hb).mono ?_); rintro e w' ⟨rfl, k, rfl⟩))
    | (go_at_call 38; ((with_reducible refine (rmul_any _ _ ha hb _).mono ?_); rintro e w' ⟨rfl, rfl⟩))
    | (go_at_call 31; ((with_reducible refine (hx (hf.drewN _)).out.mono ?_); rintro e w' ⟨rfl, rfl⟩))
    | (go_at_call 39; ((with_reducible refine (rexp_any n _).mono ?_); rintro e w' ⟨rfl, rfl⟩))
    | (go_at_call 21; ((with_reducible refine (awake1 _).mono ?_); rintro e w3 ⟨rfl, hB3⟩; have HB3 := Lib.hid hB3; clear hB3)))
  go_ret
  exact ⟨rfl, (below_drewN HB.out _).trans (HB3.out.mono HB.out.size)⟩
end Go.Proofs.Ytokeoodkioobdaa
