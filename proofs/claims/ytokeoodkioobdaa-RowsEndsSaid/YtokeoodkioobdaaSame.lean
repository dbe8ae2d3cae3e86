/- The walks of SameBytes and of the sums of products, the field's and the reference's. Conditions: rows are shorter than 2 to the 47. -/
import Derived.Test.YtokeoodkioobdaaBytes
import Derived.Test.YtokeoodkioobdaaLaw3
namespace Go.Proofs.Ytokeoodkioobdaa
open Go.RowKit

theorem take_step {l : List Nat} {k : Nat} (h : k < l.length) : l.take (k + 1) = l.take k ++ [l.getD k 0] := by
  rw [List.take_succ_eq_append_getElem h]; simp [List.getD, h]

theorem ret_bool {a b : Bool} (h : a = b) : Ending.returned (.bool a) = .returned (.bool b) := by rw [h]
theorem not_same {x y : List Nat} {k u v : Nat} (hu : u = x.getD k 0) (hv : v = y.getD k 0) (h : (((u : Nat) : Int) != ((v : Nat) : Int)) = true) : false = decide (x = y) := by
  symm; rw [decide_eq_false_iff_not]; intro e; subst e; subst hu; subst hv; simp at h
theorem same_on {x y : List Nat} {k u v : Nat} (hp : x.take k = y.take k) (hx : k < x.length) (hy : k < y.length) (hu : u = x.getD k 0) (hv : v = y.getD k 0) (h : (((u : Nat) : Int) != ((v : Nat) : Int)) = false) : x.take (k + 1) = y.take (k + 1) := by
  rw [take_step hx, take_step hy, hp, ← hu, ← hv]
  have : u = v := by simp at h; omega
  rw [this]
theorem not_long {x y : List Nat} {n m : Nat} (hx : x.length = n) (hy : y.length = m) (h : n ≠ m) : false = decide (x = y) := by
  symm; rw [decide_eq_false_iff_not]; intro e; subst e; omega

set_option maxHeartbeats 800000 in
set_option maxRecDepth 100000 in
/-- SameBytes: are two rows the same bytes? -/
theorem same_any {w : World} {a b : Option Addr} {n m c d : Nat} {x y : List Nat} (hx : RB w a n c x) (hy : RB w b m d y) :
    Calls Try.prog 44 #[.slice a n c, .slice b m d] w fun e w' => e = .returned (.bool (decide (x = y))) ∧ Drawn w w' := by
  have hm1 := hx.most
  have hm2 := hy.most
  have hl1 := hx.le
  have hl2 := hy.le
  by_cases hnm : n = m
  · subst hnm
    have HX := Lib.hid hx
    have HY := Lib.hid hy
    have hpre : (fun (k : Nat) => x.take k = y.take k) 0 := rfl
    have HP := Lib.hid hpre
    clear hx hy hpre
    go_enter Try.func44, Try.ntmps44
    go_wp2_with fail
    go_loopw [5] (fun i wr => ∃ k : Nat, k ≤ n ∧ i = .int .i64 k ∧ Hid (x.take k = y.take k) ∧ Drawn w wr) (fun i _ => n - (intOf i).toNat)
    case atStart => exact ⟨0, by omega, rfl, rfl, Drawn.refl _⟩
    case round =>
      obtain ⟨k, hk, rfl, hpk, hD⟩ := hrel
      have HD := Lib.hid hD
      by_cases hk1 : k < n
      · obtain ⟨b1, o1, rfl, hc1⟩ := HX.out.at_ k hk1
        obtain ⟨b2, o2, rfl, hc2⟩ := HY.out.at_ k hk1
        have c1 := (hD.cell _).trans hc1
        have c2 := (hD.cell _).trans hc2
        clear hD hc1 hc2
        obtain ⟨u, hu⟩ : ∃ u, u = x.getD k 0 := ⟨_, rfl⟩
        obtain ⟨v, hv⟩ : ∃ v, v = y.getD k 0 := ⟨_, rfl⟩
        rw [← hu] at c1
        rw [← hv] at c2
        have HU := Lib.hid hu
        have HV := Lib.hid hv
        clear hu hv
        have d3 : ((k : Int) < (n : Int)) := by omega
        go_wp2_with fail
        go_quiet (fail)
        go_wp2_with fail
        · go_ret
          exact ⟨ret_bool (not_same HU.out HV.out (by assumption)), HD.out.more _⟩
        · go_roundw
          case rel => exact ⟨k + 1, by omega, by go_num, same_on hpk.out (by rw [HX.out.len]; exact hk1) (by rw [HY.out.len]; exact hk1) HU.out HV.out (by assumption), HD.out.more _⟩
          case measure => simp [intOf]; omega
      · obtain rfl : k = n := by omega
        have he : true = decide (x = y) := by
          symm; rw [decide_eq_true_iff]
          have := hpk.out
          rw [List.take_of_length_le (by rw [HX.out.len]; exact Nat.le_refl _), List.take_of_length_le (by rw [HY.out.len]; exact Nat.le_refl _)] at this
          exact this
        have HE := Lib.hid he
        clear he hpk
        go_wp2_with fail
        go_ret
        exact ⟨ret_bool HE.out, HD.out⟩
  · have he := not_long hx.len hy.len hnm
    have HE := Lib.hid he
    clear he hx hy
    have hne : ((n : Int) == (m : Int)) = false := by simp; omega
    go_enter Try.func44, Try.ntmps44
    go_wp2_with fail
    go_ret
    exact ⟨ret_bool HE.out, Drawn.refl _⟩

theorem ret_two {x y : Nat} {v : Value} (h : x = y) : Ending.returned (.tuple #[.int .u8 (x : Nat), v]) = .returned (.tuple #[.int .u8 (y : Nat), v]) := by rw [h]
/-- The sum of products of the first k. -/
def dotTo (x y : List Nat) : Nat → Nat
  | 0 => 0
  | k + 1 => dotTo x y k ^^^ Gf.mul (x.getD k 0) (y.getD k 0)
theorem dotTo_lt {x : List Nat} (hx : Small x) (y : List Nat) : ∀ k, dotTo x y k < 256
  | 0 => by show 0 < 256; decide
  | k + 1 => Gf.xor_lt (dotTo_lt hx y k) (Gf.mul_lt (hx k))

set_option maxHeartbeats 800000 in
set_option maxRecDepth 100000 in
theorem dot_same {w : World} {p : Nat} {a b : Option Addr} {n c d : Nat} {x y : List Nat} (hf : IsF w p) (hx : RB w a n c x) (hy : RB w b n d y) :
    Calls Try.prog 28 #[.pointer (some ⟨p, 0, none⟩), .slice a n c, .slice b n d] w fun e w' => e = .returned (.tuple #[.int .u8 (dotTo x y n : Nat), .int .i64 0]) ∧ Drawn w w' := by
  have hm1 := hx.most
  have hl1 := hx.le
  have hthere := hf.there
  have HF := Lib.hid hf
  have HX := Lib.hid hx
  have HY := Lib.hid hy
  clear hx hy hf
  go_enter Try.func28, Try.ntmps28
  go_wp2_with (go_at_call 87; refine (is_any hthere).mono ?_; rintro e w' ⟨rfl, rfl⟩)
  go_loopw [6, 21] (fun s i wr => ∃ k t : Nat, k ≤ n ∧ i = .int .i64 k ∧ s = .int .u8 t ∧ t < 256 ∧ Hid (t = dotTo x y k) ∧ Drawn w wr) (fun _ i _ => n - (intOf i).toNat)
  case atStart => exact ⟨0, 0, by omega, rfl, rfl, by omega, rfl, Drawn.refl _⟩
  case round =>
    obtain ⟨k, t, hk, rfl, rfl, ht, hpk, hD⟩ := hrel
    have HD := Lib.hid hD
    by_cases hk1 : k < n
    · obtain ⟨b1, o1, rfl, hc1⟩ := HX.out.at_ k hk1
      obtain ⟨b2, o2, rfl, hc2⟩ := HY.out.at_ k hk1
      have c1 := (hD.cell _).trans hc1
      have c2 := (hD.cell _).trans hc2
      have hu := HX.out.small k
      have hv := HY.out.small k
      have hml : Gf.mul (x.getD k 0) (y.getD k 0) < 256 := Gf.mul_lt hu
      have hq : ∀ q, Hid (Calls Try.prog 23 #[.pointer (some ⟨p, 0, none⟩), .int .u8 (x.getD k 0 : Nat), .int .u8 (y.getD k 0 : Nat)] (wr.drewN q) fun e w' => e = .returned (.int .u8 (Gf.mul (x.getD k 0) (y.getD k 0) : Nat)) ∧ ∃ n, w' = (wr.drewN q).drewN n) := fun q => mul_any (by obtain ⟨q0, rfl⟩ := hD; exact HF.out) hu hv
      have hn : t ^^^ Gf.mul (x.getD k 0) (y.getD k 0) = dotTo x y (k + 1) := by rw [hpk.out]; rfl
      have hxor := u8_xor_nat t (Gf.mul (x.getD k 0) (y.getD k 0)) ht hml
      rw [hn] at hxor
      have hl2 := dotTo_lt HX.out.small y (k + 1)
      clear hD hc1 hc2 hn
      have HQ := Lib.hid hq
      clear hq
      obtain ⟨s, hs⟩ : ∃ s, s = dotTo x y (k + 1) := ⟨_, rfl⟩
      rw [← hs] at hxor hl2
      have HS := Lib.hid hs
      clear hs
      generalize Gf.mul (x.getD k 0) (y.getD k 0) = r at *
      generalize x.getD k 0 = u at *
      generalize y.getD k 0 = v at *
      have d3 : ((k : Int) < (n : Int)) := by omega
      go_wp2_with fail
      go_quiet ((go_at_call 23; exact Calls.quiet_of (HQ.out _).out))
      go_wp2_with fail
      go_roundw
      case rel => exact ⟨k + 1, s, by omega, by go_num, rfl, hl2, HS.out, HD.out.more _⟩
      case measure => simp [intOf]; omega
    · obtain rfl : k = n := by omega
      go_wp2_with fail
      go_ret2
      exact ⟨ret_two hpk.out, HD.out⟩
theorem dot_diff {w : World} {p : Nat} {a b : Option Addr} {n m c d : Nat} (hf : IsF w p) (hnm : n ≠ m) :
    Calls Try.prog 28 #[.pointer (some ⟨p, 0, none⟩), .slice a n c, .slice b m d] w fun e w' => e = .returned (.tuple #[.int .u8 0, .int .i64 2]) ∧ Drawn w w' := by
  have hthere := hf.there
  have hne : ((n : Int) == (m : Int)) = false := by simp; omega
  go_enter Try.func28, Try.ntmps28
  go_wp2_with (go_at_call 87; refine (is_any hthere).mono ?_; rintro e w' ⟨rfl, rfl⟩)
  go_ret2
  exact ⟨rfl, Drawn.refl _⟩

set_option maxHeartbeats 800000 in
set_option maxRecDepth 100000 in
theorem rdot_same {w : World} {a b : Option Addr} {n c d : Nat} {x y : List Nat} (hx : RB w a n c x) (hy : RB w b n d y) :
    Calls Try.prog 29 #[.slice a n c, .slice b n d] w fun e w' => e = .returned (.tuple #[.int .u8 (dotTo x y n : Nat), .int .i64 0]) ∧ Drawn w w' := by
  have hm1 := hx.most
  have hl1 := hx.le
  have HX := Lib.hid hx
  have HY := Lib.hid hy
  clear hx hy
  go_enter Try.func29, Try.ntmps29
  go_wp2_with fail
  go_loopw [6, 7] (fun s i wr => ∃ k t : Nat, k ≤ n ∧ i = .int .i64 k ∧ s = .int .u8 t ∧ t < 256 ∧ Hid (t = dotTo x y k) ∧ Drawn w wr) (fun _ i _ => n - (intOf i).toNat)
  case atStart => exact ⟨0, 0, by omega, rfl, rfl, by omega, rfl, Drawn.refl _⟩
  case round =>
    obtain ⟨k, t, hk, rfl, rfl, ht, hpk, hD⟩ := hrel
    have HD := Lib.hid hD
    by_cases hk1 : k < n
    · obtain ⟨b1, o1, rfl, hc1⟩ := HX.out.at_ k hk1
      obtain ⟨b2, o2, rfl, hc2⟩ := HY.out.at_ k hk1
      have c1 := (hD.cell _).trans hc1
      have c2 := (hD.cell _).trans hc2
      have hu := HX.out.small k
      have hv := HY.out.small k
      have hml : Gf.mul (x.getD k 0) (y.getD k 0) < 256 := Gf.mul_lt hu
      have hq : ∀ W, Hid (Calls Try.prog 38 #[.int .u8 (x.getD k 0 : Nat), .int .u8 (y.getD k 0 : Nat)] W fun e w' => e = .returned (.int .u8 (Gf.mul (x.getD k 0) (y.getD k 0) : Nat)) ∧ W = w') := fun W => rmul_any _ _ hu hv W
      have hn : t ^^^ Gf.mul (x.getD k 0) (y.getD k 0) = dotTo x y (k + 1) := by rw [hpk.out]; rfl
      have hxor := u8_xor_nat t (Gf.mul (x.getD k 0) (y.getD k 0)) ht hml
      rw [hn] at hxor
      have hl2 := dotTo_lt HX.out.small y (k + 1)
      clear hD hc1 hc2 hn
      have HQ := Lib.hid hq
      clear hq
      obtain ⟨s, hs⟩ : ∃ s, s = dotTo x y (k + 1) := ⟨_, rfl⟩
      rw [← hs] at hxor hl2
      have HS := Lib.hid hs
      clear hs
      generalize Gf.mul (x.getD k 0) (y.getD k 0) = r at *
      generalize x.getD k 0 = u at *
      generalize y.getD k 0 = v at *
      have d3 : ((k : Int) < (n : Int)) := by omega
      go_wp2_with fail
      go_quiet ((go_at_call 38; exact quiet_same (HQ.out _).out))
      go_wp2_with fail
      go_roundw
      case rel => exact ⟨k + 1, s, by omega, by go_num, rfl, hl2, HS.out, HD.out.more _⟩
      case measure => simp [intOf]; omega
    · obtain rfl : k = n := by omega
      go_wp2_with fail
      go_ret2
      exact ⟨ret_two hpk.out, HD.out⟩
theorem rdot_diff {w : World} {a b : Option Addr} {n m c d : Nat} (hnm : n ≠ m) :
    Calls Try.prog 29 #[.slice a n c, .slice b m d] w fun e w' => e = .returned (.tuple #[.int .u8 0, .int .i64 2]) ∧ Drawn w w' := by
  have hne : ((n : Int) == (m : Int)) = false := by simp; omega
  go_enter Try.func29, Try.ntmps29
  go_wp2_with fail
  go_ret2
  exact ⟨rfl, Drawn.refl _⟩
end Go.Proofs.Ytokeoodkioobdaa
