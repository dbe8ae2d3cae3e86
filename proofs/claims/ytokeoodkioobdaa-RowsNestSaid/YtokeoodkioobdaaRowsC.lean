/- Rows that are alike as far as they count reduce alike; a column by a matrix and back. Plain: no program in sight. -/
import Derived.Test.YtokeoodkioobdaaRowsI
namespace Go.Proofs.Ytokeoodkioobdaa.Gf

theorem fndGo_congr {M M' : Nat → List Nat} {R c : Nat} (h : ∀ i, i < R → M i = M' i) : ∀ d a, a + d ≤ R → fndGo M c d a = fndGo M' c d a
  | 0, _, _ => rfl
  | d + 1, a, ha => by
    unfold fndGo
    rw [h a (by omega), fndGo_congr h d (a + 1) (by omega)]
theorem fnd_congr {M M' : Nat → List Nat} {R c n : Nat} (h : ∀ i, i < R → M i = M' i) (hn : n ≤ R) : fnd M R c n = fnd M' R c n := fndGo_congr h _ _ (by omega)
theorem swp_congr {M M' : Nat → List Nat} {R n a : Nat} (h : ∀ i, i < R → M i = M' i) (hn : n < R) (ha : a < R) : ∀ i, i < R → swp M n a i = swp M' n a i := fun i hi => by
  unfold swp
  rw [h n hn, h a ha, h i hi]
theorem elimB_congr {M M' Y Y' : Nat → List Nat} {R n c : Nat} (h : ∀ i, i < R → M i = M' i) (hY : ∀ i, i < R → Y i = Y' i) (hn : n < R) : ∀ i, i < R → elimB M Y n c i = elimB M' Y' n c i := fun i hi => by
  unfold elimB
  rw [h n hn, hY n hn, h i hi, hY i hi]
theorem rd_congr {M M' : Nat → List Nat} {R : Nat} (h : ∀ i, i < R → M i = M' i) : ∀ c, rdN M R c = rdN M' R c ∧ ∀ i, i < R → rdX M R c i = rdX M' R c i
  | 0 => ⟨rfl, h⟩
  | c + 1 => by
    obtain ⟨h1, h2⟩ := rd_congr h c
    have hn := (rdN_le M R c).1
    have hf : fnd (rdX M R c) R c (rdN M R c) = fnd (rdX M' R c) R c (rdN M' R c) := by rw [← h1]; exact fnd_congr h2 hn
    by_cases hlt : fnd (rdX M R c) R c (rdN M R c) < R
    · have hlt' : fnd (rdX M' R c) R c (rdN M' R c) < R := by rw [← hf]; exact hlt
      obtain ⟨e1, e2⟩ := rd_some hlt
      obtain ⟨f1, f2⟩ := rd_some hlt'
      have hle := (fnd_le (M := rdX M R c) (c := c) hn).1
      refine ⟨by rw [e1, f1, h1], fun i hi => ?_⟩
      rw [e2, f2, ← hf, ← h1]
      exact elimB_congr (swp_congr h2 (by omega) hlt) (swp_congr h2 (by omega) hlt) (by omega) i hi
    · have hlt' : ¬ fnd (rdX M' R c) R c (rdN M' R c) < R := by rw [← hf]; exact hlt
      obtain ⟨e1, e2⟩ := rd_none hlt
      obtain ⟨f1, f2⟩ := rd_none hlt'
      exact ⟨by rw [e1, f1, h1], fun i hi => by rw [e2, f2]; exact h2 i hi⟩
theorem rdY_congr {M M' Y Y' : Nat → List Nat} {R : Nat} (h : ∀ i, i < R → M i = M' i) (hY : ∀ i, i < R → Y i = Y' i) : ∀ c i, i < R → rdY M Y R c i = rdY M' Y' R c i
  | 0, i, hi => hY i hi
  | c + 1, i, hi => by
    obtain ⟨h1, h2⟩ := rd_congr h c
    have h3 := rdY_congr h hY c
    have hn := (rdN_le M R c).1
    have hf : fnd (rdX M R c) R c (rdN M R c) = fnd (rdX M' R c) R c (rdN M' R c) := by rw [← h1]; exact fnd_congr h2 hn
    by_cases hlt : fnd (rdX M R c) R c (rdN M R c) < R
    · have hlt' : fnd (rdX M' R c) R c (rdN M' R c) < R := by rw [← hf]; exact hlt
      have hle := (fnd_le (M := rdX M R c) (c := c) hn).1
      rw [rdY_some hlt, rdY_some hlt', ← hf, ← h1]
      exact elimB_congr (swp_congr h2 (by omega) hlt) (swp_congr h3 (by omega) hlt) (by omega) i hi
    · have hlt' : ¬ fnd (rdX M' R c) R c (rdN M' R c) < R := by rw [← hf]; exact hlt
      rw [rdY_none hlt, rdY_none hlt']
      exact h3 i hi
theorem invX_congr {A A' : Nat → List Nat} {n : Nat} (h : ∀ i, i < n → A i = A' i) : ∀ i, i < n → invX A n i = invX A' n i := rdY_congr h (fun _ _ => rfl) n

/-- A column as rows of one place. -/
def col (v : List Nat) : Nat → List Nat := fun c => [at0 v c]
theorem col_long (v : List Nat) : Long (col v) 1 := fun _ => rfl
theorem at0_col (v : List Nat) (c : Nat) : at0 (col v c) 0 = at0 v c := rfl
theorem col_byt {v : List Nat} (h : ∀ c, at0 v c < 256) : Byt (col v) := fun r c => by
  unfold col
  by_cases e : c = 0
  · subst e; exact h r
  · rw [at0_out (by simp; omega)]; decide
theorem mmr_col (A : List Nat) (v : List Nat) (n : Nat) : at0 (mmr A (col v) 1 n) 0 = xs (fun i => mul (at0 A i) (at0 v i)) n := at0_mmr (by omega)
theorem mmr_col1 (A : List Nat) (v : List Nat) (n : Nat) : mmr A (col v) 1 n = [xs (fun i => mul (at0 A i) (at0 v i)) n] := by
  refine ext0 (by rw [mmr_len]; rfl) fun c hc => ?_
  rw [mmr_len] at hc
  obtain rfl : c = 0 := by omega
  rw [mmr_col]; rfl
/-- What a matrix makes of a column its inverse makes back. -/
theorem apply_back {A B : Nat → List Nat} {v : List Nat} {n r : Nat} (hA : Byt A) (hB : Byt B) (hv : ∀ c, at0 v c < 256) (hr : r < n) (h : mmr (B r) A n n = unitX n r) :
    xs (fun i => mul (at0 (B r) i) (xs (fun c => mul (at0 (A i) c) (at0 v c)) n)) n = at0 v r := by
  have h1 := mmr_assoc (A := B r) (B := A) (C := col v) (n := n) (m := n) (cols := 1) (hB r) hA (col_byt hv)
  rw [h, unit_mmr (cols := 1) hr rfl (col_byt hv)] at h1
  have h2 : at0 (col v r) 0 = at0 (mmr (B r) (fun i => mmr (A i) (col v) 1 n) 1 n) 0 := by rw [h1]
  rw [at0_col, at0_mmr (by omega)] at h2
  rw [h2]
  exact xs_congr fun i _ => by rw [mmr_col]
end Go.Proofs.Ytokeoodkioobdaa.Gf
