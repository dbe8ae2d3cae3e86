/- The walk of the reference's Through. Conditions: rows are shorter than 2 to the 46, at most 1000 points. -/
import Derived.Test.YtokeoodkioobdaaPm3
namespace Go.Proofs.Ytokeoodkioobdaa
open Go.RowKit

/-- The polynomial that is 0 at the first k points but the i-th. -/
def rt (l : List Nat) (i : Nat) : Nat → List Nat
  | 0 => [1]
  | k + 1 => if k = i then rt l i k else conv [l.getD k 0, 1] (rt l i k)
def rtC (l ys : List Nat) (i : Nat) : Nat := Gf.mul (ys.getD i 0) (Gf.inv (sval (rt l i l.length) (l.getD i 0) (rt l i l.length).length))
def rto (l ys : List Nat) : Nat → List Nat
  | 0 => []
  | i + 1 => lean (sumTo (rto l ys i) (conv [rtC l ys i] (rt l i l.length)) (max (rto l ys i).length (conv [rtC l ys i] (rt l i l.length)).length) (conv [rtC l ys i] (rt l i l.length)).length)
theorem rt_small {l : List Nat} (hl : Small l) (i : Nat) : ∀ k, Small (rt l i k)
  | 0 => one_small
  | k + 1 => by
    show Small (if _ then _ else _)
    split
    · exact rt_small hl i k
    · exact conv_small (small2 (hl k) (by omega))
theorem rt_len (l : List Nat) (i : Nat) : ∀ k, (rt l i k).length ≤ 2 * k + 1
  | 0 => Nat.le_refl _
  | k + 1 => by
    show (if _ then _ else _ : List Nat).length ≤ _
    have := rt_len l i k
    split
    · omega
    · have h := length_conv [l.getD k 0, 1] (rt l i k)
      simp only [List.length_cons, List.length_nil] at h
      omega
theorem rtC_lt {l ys : List Nat} (hy : Small ys) (i : Nat) : rtC l ys i < 256 := Gf.mul_lt (hy i)
theorem rto_small {l ys : List Nat} (hy : Small ys) : ∀ i, Small (rto l ys i)
  | 0 => Small.nil
  | i + 1 => lean_small (sumTo_small (rto_small hy i) (conv_small (small1 (rtC_lt hy i))) (by omega) _ (by omega))
theorem rto_len (l ys : List Nat) : ∀ i, i ≤ l.length → (rto l ys i).length ≤ 2 * l.length + 2
  | 0, _ => Nat.zero_le _
  | i + 1, h => by
    have h1 := rto_len l ys i (by omega)
    have h2 := rt_len l i l.length
    have h3 := length_conv [rtC l ys i] (rt l i l.length)
    simp only [List.length_cons, List.length_nil] at h3
    show (lean _).length ≤ _
    rw [length_lean]
    refine Nat.le_trans (ln_le _ _) ?_
    rw [length_sumTo (by omega)]
    omega

/-- Its values. -/
theorem rt_zero {l : List Nat} (hl : Small l) (i : Nat) : ∀ k j, j < k → j ≠ i → Gf.ev (rt l i k) (l.getD j 0) = 0
  | 0, _, h, _ => absurd h (by omega)
  | k + 1, j, h, hne => by
    show Gf.ev (if _ then _ else _) _ = 0
    split
    · rename_i e; exact rt_zero hl i k j (by omega) hne
    · rw [ev_conv (hl j) (small2 (hl k) (by omega)) (rt_small hl i k), ev_two (hl j)]
      by_cases e : j = k
      · subst e; rw [Nat.xor_self, Gf.zero_mul]
      · rw [rt_zero hl i k j (by omega) hne, Gf.mul_zero]
theorem rt_ne {l : List Nat} (hl : Small l) (hn : l.Nodup) {i : Nat} (hi : i < l.length) : ∀ k, k ≤ l.length → Gf.ev (rt l i k) (l.getD i 0) ≠ 0
  | 0, _ => by show Gf.ev [1] _ ≠ 0; rw [ev_one]; decide
  | k + 1, h => by
    have ih := rt_ne hl hn hi k (by omega)
    show Gf.ev (if _ then _ else _) _ ≠ 0
    split
    · exact ih
    · rename_i e
      rw [ev_conv (hl i) (small2 (hl k) (by omega)) (rt_small hl i k), ev_two (hl i)]
      refine Gf.mul_ne (Gf.xor_lt (hl k) (hl i)) (Gf.ev_lt (rt_small hl i k).sm (hl i)) (Gf.xor_ne ?_) ih
      rcases Nat.lt_or_gt_of_ne e with h2 | h2
      · exact nodup_getD hn h2 hi
      · exact (nodup_getD hn h2 (by omega)).symm
theorem rt_far {l : List Nat} (hl : Small l) {i : Nat} : ∀ k j, (if i < k then k - 1 else k) < j → (rt l i k).getD j 0 = 0
  | 0, j, h => getD_far (by show 1 ≤ j; split at h <;> omega)
  | k + 1, j, h => by
    show (if _ then _ else _ : List Nat).getD j 0 = 0
    split
    · rename_i e
      refine rt_far hl k j ?_
      rw [if_neg (by omega)]
      rw [if_pos (by omega)] at h
      omega
    · rename_i e
      rw [conv_get]
      refine cv_far (a := 1) (b := if i < k then k - 1 else k) (fun j hj => getD_far (by simp; omega)) (rt_far hl k) j ?_
      split at h <;> split <;> omega
theorem rto_ok {l ys : List Nat} (hl : Small l) (hy : Small ys) (hn : l.Nodup) : ∀ i, i ≤ l.length → (∀ j, l.length ≤ j → (rto l ys i).getD j 0 = 0) ∧ (∀ j, j < i → Gf.ev (rto l ys i) (l.getD j 0) = ys.getD j 0) ∧ (∀ j, i ≤ j → j < l.length → Gf.ev (rto l ys i) (l.getD j 0) = 0)
  | 0, _ => ⟨fun j _ => getD_far (Nat.zero_le _), fun j h => absurd h (by omega), fun j _ _ => rfl⟩
  | i + 1, hi => by
    obtain ⟨h1, h2, h3⟩ := rto_ok hl hy hn i (by omega)
    have hs := rto_small (l := l) hy (i + 1)
    have hs0 := rto_small (l := l) hy i
    have hcs : Small (conv [rtC l ys i] (rt l i l.length)) := conv_small (small1 (rtC_lt hy i))
    have hco : ∀ j, (rto l ys (i + 1)).getD j 0 = (rto l ys i).getD j 0 ^^^ (conv [rtC l ys i] (rt l i l.length)).getD j 0 := fun j => by
      show (lean _).getD j 0 = _
      rw [lean_get, sumTo_all (by omega) (by omega)]
    have hev : ∀ z, z < 256 → Gf.ev (rto l ys (i + 1)) z = Gf.ev (rto l ys i) z ^^^ Gf.mul (rtC l ys i) (Gf.ev (rt l i l.length) z) := fun z hz => by
      rw [ev_xor hz hs hs0 hcs hco, ev_conv hz (small1 (rtC_lt hy i)) (rt_small hl i _), ev_single]
    refine ⟨fun j hj => ?_, fun j hj => ?_, fun j hj hj2 => ?_⟩
    · rw [hco, h1 j hj, conv_get, cv_far (a := 0) (b := l.length - 1) (fun j hj => getD_far (by simp; exact hj)) (fun j hj => rt_far hl _ j (by rw [if_pos (by omega)]; exact hj)) j (by omega)]; rfl
    · rw [hev _ (hl j)]
      by_cases e : j = i
      · subst e
        have hel := Gf.ev_lt (rt_small hl j l.length).sm (hl j)
        rw [h3 j (by omega) (by omega), Nat.zero_xor]
        unfold rtC
        rw [sval_ev (hl j) (rt_small hl j _)]
        exact Gf.mul_div_cancel (hy j) hel (rt_ne hl hn (by omega) _ (Nat.le_refl _))
      · rw [h2 j (by omega), rt_zero hl i _ j (by omega) e, Gf.mul_zero, Nat.xor_zero]
    · rw [hev _ (hl j), h3 j (by omega) hj2, rt_zero hl i _ j hj2 (by omega), Gf.mul_zero]; rfl
/-- The program's polynomial through points is the reference's. -/
theorem through_ref {l ys : List Nat} (hl : Small l) (hy : Small ys) (hn : l.Nodup) : lean (thr l ys l.length).1 = lean (rto l ys l.length) := by
  have a := thr_ok hl hy hn l.length (Nat.le_refl _)
  have b := rto_ok hl hy hn l.length (Nat.le_refl _)
  refine lean_ext (through_only a.o (rto_small hy _) a.of b.1 hn (fun x hx => hl.mem hx) fun x hx => ?_)
  obtain ⟨i, hi, rfl⟩ := List.getElem_of_mem hx
  have e : l[i] = l.getD i 0 := by simp [List.getD_eq_getElem?_getD, hi]
  rw [e, a.at_ i hi, b.2.1 i hi]
end Go.Proofs.Ytokeoodkioobdaa
