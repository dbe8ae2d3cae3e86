/- The walk of the law's one: two rows that part in one bit. Conditions: rows are shorter than 2 to the 40. -/
import Derived.Test.YtfojhmobnedekaaFate10
namespace Go.Proofs.Ytfojhmobnedekaa
open Go.RowKit

theorem pop_step : ∀ x : Fin 256, (x : Nat) ≠ 0 → Fm.pop 256 (x : Nat) = (x : Nat) % 2 + Fm.pop 256 ((x : Nat) / 2) := by decide +kernel
theorem flip_xor (x j : Nat) : Fm.flip x j ^^^ x = 2 ^ j := by
  unfold Fm.flip
  rw [Nat.xor_comm x, Nat.xor_assoc, Nat.xor_self, Nat.xor_zero]
/-- How the two rows part. -/
theorem part_at {l : List Nat} {K : Nat} (hK : K / 8 < l.length) (i : Nat) : (Fm.turn l K).getD i 0 ^^^ l.getD i 0 = if i = K / 8 then 2 ^ (K % 8) else 0 := by
  rw [Fm.turn_get l hK]
  by_cases e : K / 8 = i
  · rw [if_pos e, if_pos e.symm, flip_xor]
  · rw [if_neg e, if_neg (fun h => e h.symm), Nat.xor_self]

set_option maxHeartbeats 1600000 in
set_option maxRecDepth 100000 in
theorem one_any {w : World} {a b : Option Addr} {n c d K : Nat} {l : List Nat} (hx : RB w a n c (Fm.turn l K)) (hy : RB w b n d l) (hK : K / 8 < n) :
    Calls Try.prog 24 #[.slice a n c, .slice b n d] w fun e w' => e = .returned (.bool true) ∧ Below w.heap.size w w' := by
  have hm := hx.most
  have hl := hy.len
  have HX := Lib.hid hx
  have HY := Lib.hid hy
  have HP := Lib.hid fun i => part_at (l := l) (K := K) (by omega) i
  have HK8 := Lib.hid (Fm.pop_pow ⟨K % 8, Nat.mod_lt _ (by omega)⟩)
  have HPW := Lib.hid (pow_small ⟨K % 8, Nat.mod_lt _ (by omega)⟩)
  clear hx hy hl
  go_enter Try.func24, Try.ntmps24
  go_wp2_with fail
  go_loopw [5, 6] (fun s i wr => ∃ k t : Nat, k ≤ n ∧ i = .int .i64 k ∧ s = .int .i64 t ∧ t ≤ 1 ∧ Hid (t = if K / 8 < k then 1 else 0) ∧ Hid (Drawn w wr)) (fun _ i _ => n - (intOf i).toNat)
  case atStart => exact ⟨0, 0, Nat.zero_le _, rfl, rfl, by omega, Lib.hid (by rw [if_neg (by omega)]), Drawn.refl _⟩
  case round =>
    obtain ⟨k, t, hk, rfl, rfl, ht, HT, HD⟩ := hrel
    by_cases hk1 : k < n
    · obtain ⟨b1, o1, rfl, hc1⟩ := HX.out.at_ k hk1
      obtain ⟨b2, o2, rfl, hc2⟩ := HY.out.at_ k hk1
      have c1 := (HD.out.cell _).trans hc1
      have c2 := (HD.out.cell _).trans hc2
      have hx1 := HX.out.small k
      have hy1 := HY.out.small k
      have hxy := u8_xor_nat _ _ hx1 hy1
      have hpt := HP.out k
      rw [hpt] at hxy
      obtain ⟨z, hz⟩ : ∃ z : Nat, z = if k = K / 8 then 2 ^ (K % 8) else 0 := ⟨_, rfl⟩
      rw [← hz] at hxy
      have hz8 : z < 256 := by
        rw [hz]; split
        · have := HPW.out.1; omega
        · omega
      have hpz : Fm.pop 256 z = if k = K / 8 then 1 else 0 := by
        rw [hz]; split
        · exact HK8.out
        · rfl
      have HPZ := Lib.hid hpz
      clear hc1 hc2 hpt hz hpz
      generalize (Fm.turn l K).getD k 0 = x at *
      generalize l.getD k 0 = y at *
      go_wp2_with fail
      go_quiet (fail)
      go_wp2_with fail
      go_loopw [5, 7] (fun s v wq => ∃ m x' : Nat, s = .int .i64 m ∧ v = .int .u8 x' ∧ x' < 256 ∧ m ≤ 300 ∧ Hid (m + Fm.pop 256 x' = t + Fm.pop 256 z) ∧ Hid (Drawn w wq)) (fun _ v _ => (intOf v).toNat)
      case atStart => exact ⟨t, z, rfl, rfl, hz8, by omega, rfl, HD.out.more _⟩
      case round =>
        obtain ⟨m, x', rfl, rfl, hx', hm3, HE, HD2⟩ := hrel
        by_cases hx0 : 0 < x'
        · have hst := pop_step ⟨x', hx'⟩ (by show x' ≠ 0; omega)
          have hpz1 := HPZ.out
          have he := HE.out
          have hpz2 : Fm.pop 256 z ≤ 1 := by rw [hpz1]; split <;> omega
          have hE2 : m + x' % 2 + Fm.pop 256 (x' / 2) = t + Fm.pop 256 z := by simp only at hst; omega
          have hm5 : m + x' % 2 ≤ 2 := by omega
          have HE2 := Lib.hid hE2
          have hdx : decide ((0 : Int) < (x' : Int)) = true := by simp; omega
          clear hst hpz1 he hpz2 hE2 HE
          go_wp2_with fail
          go_roundw
          case rel => exact ⟨m + x' % 2, x' / 2, by go_num, by go_num, by omega, by omega, HE2, HD2⟩
          case measure => simp [intOf]; omega
        · obtain rfl : x' = 0 := by omega
          have hme : m = if K / 8 < k + 1 then 1 else 0 := by
            have h1 := HE.out
            rw [Fm.pop_zero, HPZ.out, HT.out] at h1
            rcases Nat.lt_trichotomy k (K / 8) with h | h | h
            · rw [if_neg (by omega)]; rw [if_neg (by omega), if_neg (by omega)] at h1; omega
            · rw [if_pos (by omega)]; rw [if_neg (by omega), if_pos h] at h1; omega
            · rw [if_pos (by omega)]; rw [if_pos (by omega), if_neg (by omega)] at h1; omega
          have HM := Lib.hid hme
          have hm1 : m ≤ 1 := by rw [hme]; split <;> omega
          clear hme HE
          go_wp2_with fail
          go_roundw
          case rel => exact ⟨k + 1, m, by omega, by go_num, rfl, hm1, HM, HD2⟩
          case measure => simp [intOf]; omega
    · obtain rfl : k = n := by omega
      have ht1 : t = 1 := by rw [HT.out, if_pos hK]
      subst ht1
      go_wp2_with fail
      go_ret
      obtain ⟨q, rfl⟩ := HD.out
      exact ⟨rfl, below_drewN (Below.refl _ _) q⟩
end Go.Proofs.Ytfojhmobnedekaa
