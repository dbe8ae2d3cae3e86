/- Plain: Lagrange's weights over bytes: they tell the value anywhere of the polynomial through points. No program in sight. Conditions: bytes are below 256, points are unlike. -/
import Derived.Test.YtokeoodkioobdaaPolyM
namespace Go.Proofs.Ytokeoodkioobdaa.Gf

/-- The product of the distances of t from the first m points, but the one at k. -/
def pEx (l : List Nat) (k t : Nat) : Nat → Nat
  | 0 => 1
  | m + 1 => if m = k then pEx l k t m else mul (pEx l k t m) (t ^^^ l.getD m 0)
/-- .. from all. -/
def pAll (l : List Nat) (t : Nat) : Nat → Nat
  | 0 => 1
  | m + 1 => mul (pAll l t m) (t ^^^ l.getD m 0)

def SmD (l : List Nat) : Prop := ∀ i, l.getD i 0 < 256

theorem pEx_lt (l : List Nat) (k t : Nat) : ∀ m, pEx l k t m < 256
  | 0 => by show 1 < 256; decide
  | m + 1 => by
    show (if _ then _ else _) < 256
    split
    · exact pEx_lt l k t m
    · exact mul_lt (pEx_lt l k t m)
theorem pAll_lt (l : List Nat) (t : Nat) : ∀ m, pAll l t m < 256
  | 0 => by show 1 < 256; decide
  | m + 1 => mul_lt (pAll_lt l t m)
theorem pEx_isP {l : List Nat} (hl : SmD l) (k : Nat) : ∀ m, IsP (if k < m then m else m + 1) fun t => pEx l k t m
  | 0 => by simpa [pEx] using isP_const (a := 1) (by decide)
  | m + 1 => by
    have ih := pEx_isP hl k m
    by_cases h : m = k
    · subst h
      rw [if_pos (by omega)]
      rw [if_neg (by omega)] at ih
      exact ih.congr fun x _ => by show (if _ then _ else _) = _; rw [if_pos rfl]
    · have e : ∀ x, x < 256 → pEx l k x (m + 1) = mul (x ^^^ l.getD m 0) (pEx l k x m) := fun x hx => by
        show (if _ then _ else _) = _
        rw [if_neg h, mul_comm (pEx_lt l k x m) (xor_lt hx (hl m))]
      by_cases hk : k < m
      · rw [if_pos (by omega)]
        rw [if_pos hk] at ih
        exact (ih.lin (hl m)).congr e
      · rw [if_neg (by omega)]
        rw [if_neg hk] at ih
        exact (ih.lin (hl m)).congr e
theorem pEx_zero {l : List Nat} {k t j : Nat} (hj : l.getD j 0 = t) (hjk : j ≠ k) : ∀ m, j < m → pEx l k t m = 0
  | 0, h => absurd h (by omega)
  | m + 1, h => by
    show (if _ then _ else _) = 0
    by_cases e : j = m
    · subst e; rw [if_neg hjk, hj, Nat.xor_self, mul_zero]
    · have := pEx_zero hj hjk m (by omega)
      rw [this, zero_mul]; simp
theorem pEx_ne {l : List Nat} (hl : SmD l) {k t : Nat} (ht : t < 256) : ∀ m, (∀ j, j < m → j ≠ k → l.getD j 0 ≠ t) → pEx l k t m ≠ 0
  | 0, _ => by show 1 ≠ 0; decide
  | m + 1, h => by
    show (if _ then _ else _) ≠ 0
    have ih := pEx_ne hl ht m fun j hj => h j (by omega)
    split
    · exact ih
    · rename_i e
      exact mul_ne (pEx_lt l k t m) (xor_lt ht (hl m)) ih (xor_ne fun e2 => h m (by omega) e e2.symm)
theorem pEx_skip (l : List Nat) (k t : Nat) : pEx l k t (k + 1) = pEx l k t k := by simp only [pEx, if_true]
theorem pEx_more (l : List Nat) {k m : Nat} (t : Nat) (e : ¬ m = k) : pEx l k t (m + 1) = mul (pEx l k t m) (t ^^^ l.getD m 0) := by simp only [pEx, if_neg e]
theorem pAll_more (l : List Nat) (t m : Nat) : pAll l t (m + 1) = mul (pAll l t m) (t ^^^ l.getD m 0) := by simp only [pAll]
theorem pAll_split {l : List Nat} (hl : SmD l) {k t : Nat} (ht : t < 256) : ∀ m, pAll l t m = if k < m then mul (t ^^^ l.getD k 0) (pEx l k t m) else pEx l k t m
  | 0 => by rw [if_neg (by omega)]; rfl
  | m + 1 => by
    have ih := pAll_split hl (k := k) ht m
    rw [pAll_more, ih]
    have h1 := pEx_lt l k t m
    have h2 := xor_lt ht (hl m)
    have h3 := xor_lt ht (hl k)
    by_cases e : m = k
    · subst e
      rw [if_neg (by omega), if_pos (by omega), pEx_skip, mul_comm h1 h2]
    · rw [pEx_more l t e]
      by_cases hk : k < m
      · rw [if_pos hk, if_pos (by omega), mul_assoc h3 h1 h2]
      · rw [if_neg hk, if_neg (by omega)]

/-- The weight of the point at k, at t. -/
def W (l : List Nat) (n k t : Nat) : Nat := mul (pEx l k t n) (inv (pEx l k (l.getD k 0) n))
theorem W_lt (l : List Nat) (n k t : Nat) : W l n k t < 256 := mul_lt (pEx_lt l k t n)
theorem W_isP {l : List Nat} (hl : SmD l) {n k : Nat} (hk : k < n) : IsP n fun t => W l n k t := by
  have h := pEx_isP hl k n
  rw [if_pos hk] at h
  exact (h.smul (inv_lt (a := pEx l k (l.getD k 0) n))).congr fun x _ => mul_comm (pEx_lt l k x n) inv_lt

/-- Points that are unlike, as places tell it. -/
def Un (l : List Nat) (n : Nat) : Prop := ∀ i j, i < n → j < n → l.getD i 0 = l.getD j 0 → i = j
theorem W_at {l : List Nat} (hl : SmD l) {n : Nat} (hu : Un l n) {k j : Nat} (hk : k < n) (hj : j < n) : W l n k (l.getD j 0) = if j = k then 1 else 0 := by
  unfold W
  by_cases e : j = k
  · subst e
    rw [if_pos rfl]
    exact mul_inv (pEx_lt _ _ _ _) (pEx_ne hl (hl j) n fun i hi hik h => hik (hu i j hi hj h))
  · rw [if_neg e, pEx_zero rfl e n hj, zero_mul]
/-- Away from all points the weight is a quotient of products. -/
theorem W_off {l : List Nat} (hl : SmD l) {n k t : Nat} (hk : k < n) (ht : t < 256) (ho : ∀ j, j < n → l.getD j 0 ≠ t) :
    W l n k t = mul (pAll l t n) (inv (mul (t ^^^ l.getD k 0) (pEx l k (l.getD k 0) n))) := by
  rw [pAll_split hl (k := k) ht n, if_pos hk]
  have h1 := xor_lt ht (hl k)
  have h2 := pEx_lt l k t n
  have h3 := pEx_lt l k (l.getD k 0) n
  have n1 : t ^^^ l.getD k 0 ≠ 0 := xor_ne fun e => ho k hk e.symm
  unfold W
  generalize pEx l k (l.getD k 0) n = b at *
  generalize pEx l k t n = a at *
  generalize t ^^^ l.getD k 0 = d at *
  by_cases hb : b = 0
  · subst hb; rw [mul_zero, inv_zero, mul_zero, mul_zero]
  · have e : inv (mul d b) = mul (inv d) (inv b) := by
      symm
      refine inv_only (mul_lt h1) (mul_lt inv_lt) ?_
      rw [mul_assoc h1 h3 (mul_lt inv_lt), ← mul_assoc h3 inv_lt inv_lt, mul_comm h3 inv_lt, mul_assoc inv_lt h3 inv_lt, mul_inv h3 hb, mul_one inv_lt, mul_inv h1 n1]
    rw [e, mul_comm h1 h2, mul_assoc h2 h1 (mul_lt inv_lt), ← mul_assoc h1 inv_lt inv_lt, mul_inv h1 n1, one_mul inv_lt]

/-- The sum of values by weights. -/
def F (l v : List Nat) (n t : Nat) : Nat → Nat
  | 0 => 0
  | k + 1 => F l v n t k ^^^ mul (W l n k t) (v.getD k 0)
theorem F_isP {l v : List Nat} (hl : SmD l) (hv : SmD v) {n : Nat} : ∀ k, k ≤ n → IsP n fun t => F l v n t k
  | 0, _ => isP_zero.mono (Nat.zero_le _)
  | k + 1, h => (F_isP hl hv k (by omega)).add (((W_isP hl (by omega)).smul (hv k)).congr fun x _ => mul_comm (W_lt l n k x) (hv k))
theorem F_at {l v : List Nat} (hl : SmD l) (hv : SmD v) {n : Nat} (hu : Un l n) {j : Nat} (hj : j < n) : ∀ k, k ≤ n → F l v n (l.getD j 0) k = if j < k then v.getD j 0 else 0
  | 0, _ => by rw [if_neg (by omega)]; rfl
  | k + 1, h => by
    show F l v n (l.getD j 0) k ^^^ mul (W l n k (l.getD j 0)) (v.getD k 0) = _
    rw [F_at hl hv hu hj k (by omega), W_at hl hu (by omega) hj]
    by_cases e : j = k
    · subst e; rw [if_neg (by omega), if_pos rfl, if_pos (by omega), one_mul (hv j)]; simp
    · rw [if_neg e, zero_mul]
      by_cases hk : j < k
      · rw [if_pos hk, if_pos (by omega)]; simp
      · rw [if_neg hk, if_neg (by omega)]; simp
theorem un_of_nodup {l : List Nat} (h : l.Nodup) : Un l l.length := fun i j hi hj e => by
  have hi' : l.getD i 0 = l[i] := by simp [List.getD, hi]
  have hj' : l.getD j 0 = l[j] := by simp [List.getD, hj]
  rw [hi', hj'] at e
  have hp := List.pairwise_iff_getElem.1 h
  rcases Nat.lt_trichotomy i j with hlt | heq | hgt
  · exact absurd e (hp i j hi hj hlt)
  · exact heq
  · exact absurd e.symm (hp j i hj hi hgt)
theorem mem_getD {l : List Nat} {x : Nat} (h : x ∈ l) : ∃ j, j < l.length ∧ l.getD j 0 = x := by
  obtain ⟨j, hj, rfl⟩ := List.getElem_of_mem h
  exact ⟨j, hj, by simp [List.getD, hj]⟩
/-- THE VALUE ELSEWHERE: of any polynomial of no more coefficients than there are points. -/
theorem F_eq {l v : List Nat} (hl : SmD l) (hv : SmD v) (hn : l.Nodup) {f : Nat → Nat} (hf : IsP l.length f) (h : ∀ j, j < l.length → f (l.getD j 0) = v.getD j 0) {t : Nat} (ht : t < 256) : F l v l.length t l.length = f t := by
  refine (F_isP hl hv l.length (Nat.le_refl _)).eq hf hn (fun x hx => ?_) (fun x hx => ?_) t ht
  · obtain ⟨j, _, rfl⟩ := mem_getD hx; exact hl j
  · obtain ⟨j, hj, rfl⟩ := mem_getD hx
    rw [F_at hl hv (un_of_nodup hn) hj l.length (Nat.le_refl _), if_pos hj, h j hj]
/-- Weights add up to 1. -/
theorem sum_one {l v : List Nat} (hl : SmD l) (hn : l.Nodup) (h1 : ∀ j, j < l.length → v.getD j 0 = 1) (hv : SmD v) (hl0 : 0 < l.length) {t : Nat} (ht : t < 256) : F l v l.length t l.length = 1 :=
  F_eq hl hv hn ((isP_const (a := 1) (by decide)).mono hl0) (fun j hj => (h1 j hj).symm) ht
theorem F_add {l u v s : List Nat} {n t : Nat} (h : ∀ k, k < n → s.getD k 0 = u.getD k 0 ^^^ v.getD k 0) : ∀ k, k ≤ n → F l s n t k = F l u n t k ^^^ F l v n t k
  | 0, _ => by simp [F]
  | k + 1, hk => by
    show F l s n t k ^^^ mul _ _ = (F l u n t k ^^^ mul _ _) ^^^ (F l v n t k ^^^ mul _ _)
    rw [F_add h k (by omega), h k (by omega), mul_xor_right, xor4]
end Go.Proofs.Ytokeoodkioobdaa.Gf
