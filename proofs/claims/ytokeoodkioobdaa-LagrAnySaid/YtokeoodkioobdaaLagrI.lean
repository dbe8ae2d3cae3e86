/- Plain: rows of weights at unlike places, as many as points, turn to the unit. No program in sight. Conditions: bytes are below 256, points and places are unlike. -/
import Derived.Test.YtokeoodkioobdaaRowsC
import Derived.Test.YtokeoodkioobdaaLagrM
namespace Go.Proofs.Ytokeoodkioobdaa.Gf

theorem F_xs (l v : List Nat) (n t : Nat) : ∀ k, F l v n t k = xs (fun c => mul (W l n c t) (v.getD c 0)) k
  | 0 => rfl
  | k + 1 => by show F l v n t k ^^^ _ = xs _ k ^^^ _; rw [F_xs l v n t k]
/-- Fewer steps than columns: something, not nothing, that all rows take to 0. -/
theorem kernel {S : Nat → List Nat} {R n : Nat} (hl : Long S n) (hb : Byt S) (h : rdN S R n < n) : ∃ (y : Nat → Nat) (q : Nat), q < n ∧ y q = 1 ∧ (∀ c, y c < 256) ∧ ∀ r, r < R → xs (fun c => mul (at0 (S r) c) (y c)) n = 0 := by
  obtain ⟨p, hp⟩ := rd_steps (R := R) hl hb n
  have hX := hb.rdX hl R n
  have hL := hl.rdX R n
  have hs2 := (rd_sub (R := R) hl hb n).2
  have hn := (rdN_le S R n).1
  generalize rdX S R n = X at *
  generalize rdN S R n = s at *
  have hq : ∃ q, q < n ∧ ∀ j, j < s → p j ≠ q := by
    apply Classical.byContradiction
    intro hno
    have : n ≤ s := inc_le (p := fun i => i) (fun i j h _ => h) hp.inc fun q hq => Classical.byContradiction fun h2 => hno ⟨q, hq, fun j hj e => h2 ⟨j, hj, e⟩⟩
    omega
  obtain ⟨q, hq, hqp⟩ := hq
  have hinj : ∀ i j, i < s → j < s → p i = p j → i = j := fun i j hi hj e => by
    rcases Nat.lt_trichotomy i j with h1 | h1 | h1
    · have := hp.inc i j h1 hj; omega
    · exact h1
    · have := hp.inc j i h1 hi; omega
  obtain ⟨y, hy1, hyp, hy0, hyb⟩ : ∃ y : Nat → Nat, y q = 1 ∧ (∀ j, j < s → y (p j) = at0 (X j) q) ∧ (∀ c, c ≠ q → (∀ j, j < s → p j ≠ c) → y c = 0) ∧ ∀ c, y c < 256 := by
    refine ⟨fun c => if c = q then 1 else open Classical in if h : ∃ j, j < s ∧ p j = c then at0 (X (Classical.choose h)) q else 0, if_pos rfl, fun j hj => ?_, fun c h1 h2 => ?_, fun c => ?_⟩
    · show (if p j = q then 1 else _) = _
      rw [if_neg (hqp j hj)]
      have hex : ∃ i, i < s ∧ p i = p j := ⟨j, hj, rfl⟩
      rw [dif_pos hex]
      have hc := Classical.choose_spec hex
      rw [hinj _ j hc.1 hj hc.2]
    · show (if c = q then 1 else _) = 0
      rw [if_neg h1, dif_neg (fun ⟨j, hj, e⟩ => h2 j hj e)]
    · show (if c = q then 1 else _) < 256
      split
      · decide
      · split
        · exact hX _ q
        · decide
  refine ⟨y, q, hq, hy1, hyb, fun r hr => ?_⟩
  have hv := hp.made hn hL (hs2 r hr)
  have hrow : ∀ j, j < s → xs (fun c => mul (at0 (X j) c) (y c)) n = 0 := fun j hj => by
    have e : xs (fun c => mul (at0 (X j) c) (y c)) n = xs (fun c => (if c = q then at0 (X j) q else 0) ^^^ (if c = p j then at0 (X j) q else 0)) n := by
      refine xs_congr fun c _ => ?_
      by_cases h1 : c = q
      · subst h1
        rw [if_pos rfl, if_neg (fun e => hqp j hj e.symm), hy1, mul_one (hX j c), Nat.xor_zero]
      · rw [if_neg h1, Nat.zero_xor]
        by_cases h2 : c = p j
        · subst h2
          rw [if_pos rfl, hyp j hj, hp.one j hj j (by omega), if_pos rfl, one_mul (hX j q)]
        · rw [if_neg h2]
          by_cases h3 : ∃ i, i < s ∧ p i = c
          · obtain ⟨i, hi, rfl⟩ := h3
            rw [hp.one i hi j (by omega), if_neg (fun e => h2 (by rw [e])), zero_mul]
          · rw [hy0 c h1 fun i hi e => h3 ⟨i, hi, e⟩, mul_zero]
    rw [e, xs_xor, xs_one hq (fun i _ hi => if_neg hi), xs_one (hp.lt j hj) (fun i _ hi => if_neg hi), if_pos rfl, if_pos rfl, Nat.xor_self]
  have e1 : xs (fun c => mul (at0 (S r) c) (y c)) n = xs (fun c => xs (fun j => mul (mul (at0 (S r) (p j)) (at0 (X j) c)) (y c)) s) n :=
    xs_congr fun c _ => by rw [hv c, xs_mul' (fun j => mul_lt (hb r _))]
  rw [e1, xs_swap]
  refine xs_none fun j hj => ?_
  have e2 : xs (fun c => mul (mul (at0 (S r) (p j)) (at0 (X j) c)) (y c)) n = mul (at0 (S r) (p j)) (xs (fun c => mul (at0 (X j) c) (y c)) n) := by
    rw [xs_mul]; exact xs_congr fun c _ => mul_assoc (hb r _) (hX j c) (hyb c)
  show xs (fun c => mul (mul (at0 (S r) (p j)) (at0 (X j) c)) (y c)) n = 0
  rw [e2, hrow j hj, mul_zero]
theorem table_inv {l ts : List Nat} {S : Nat → List Nat} (hl : SmD l) (hn : l.Nodup) (ht : ts.length = l.length) (htn : ts.Nodup) (hts : ∀ x ∈ ts, x < 256) (hS : Long S l.length) (hb : Byt S)
    (h : ∀ r c, r < l.length → c < l.length → at0 (S r) c = W l l.length c (ts.getD r 0)) : rdN S l.length l.length = l.length := by
  refine Nat.le_antisymm (rdN_le _ _ _).1 (Nat.le_of_not_lt fun hlt => ?_)
  obtain ⟨y, q, hq, hy1, hyb, hz⟩ := kernel hS hb hlt
  have hvg : ∀ c, ((List.range l.length).map y).getD c 0 = if c < l.length then y c else 0 := fun c => by
    unfold List.getD
    rw [List.getElem?_map]
    by_cases hc : c < l.length
    · rw [List.getElem?_range hc, if_pos hc]; rfl
    · rw [List.getElem?_eq_none (by simpa using hc), if_neg hc]; rfl
  have hv : SmD ((List.range l.length).map y) := fun c => by
    rw [hvg]; split
    · exact hyb c
    · decide
  have hP := F_isP hl hv (n := l.length) l.length (Nat.le_refl _)
  rw [← ht] at hP
  have h0 := IsP.none ts hP htn hts (fun x hx => by
    obtain ⟨r, hr, rfl⟩ := mem_getD hx
    rw [ht, F_xs]
    refine Eq.trans ?_ (hz r (by omega))
    refine xs_congr fun c hc => ?_
    rw [h r c (by omega) hc, hvg, if_pos hc]) (l.getD q 0) (hl q)
  have h1 := F_at hl hv (un_of_nodup hn) hq l.length (Nat.le_refl _)
  rw [if_pos hq, hvg, if_pos hq, hy1] at h1
  rw [ht] at h0
  rw [h0] at h1
  exact absurd h1 (by decide)
end Go.Proofs.Ytokeoodkioobdaa.Gf
