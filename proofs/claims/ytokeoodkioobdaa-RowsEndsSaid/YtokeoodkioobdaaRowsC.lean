/- Plain: rows of bytes turned to steps (reduction), beside rows that follow; products. No program in sight. Conditions: bytes are below 256. -/
import Derived.Test.YtokeoodkioobdaaGf
namespace Go.Proofs.Ytokeoodkioobdaa.Gf

/-- What stands at a place of a row, 0 beyond. -/
def at0 (l : List Nat) (c : Nat) : Nat := l[c]?.getD 0
/-- A row by a byte; a row and another one by a byte. -/
def sc (b : Nat) (l : List Nat) : List Nat := l.map fun x => mul x b
def ad (b : Nat) (l o : List Nat) : List Nat := List.zipWith (fun x y => x ^^^ mul y b) l o
/-- Two rows change places. -/
def swp (M : Nat → List Nat) (n a : Nat) : Nat → List Nat := fun r => if r = a then M n else if r = n then M a else M r
def elimB (M Y : Nat → List Nat) (n c : Nat) : Nat → List Nat := fun r => if r = n then sc (inv (at0 (M n) c)) (Y n) else ad (at0 (M r) c) (Y r) (sc (inv (at0 (M n) c)) (Y n))
def elim (M : Nat → List Nat) (n c : Nat) : Nat → List Nat := elimB M M n c
def fndGo (M : Nat → List Nat) (c : Nat) : Nat → Nat → Nat
  | 0, a => a
  | d + 1, a => if at0 (M a) c ≠ 0 then a else fndGo M c d (a + 1)
/-- The first row, from one on, that has something in a column; else how many rows there are. -/
def fnd (M : Nat → List Nat) (R c n : Nat) : Nat := fndGo M c (R - n) n

theorem fndGo_le (M : Nat → List Nat) (c : Nat) : ∀ d a, a ≤ fndGo M c d a ∧ fndGo M c d a ≤ a + d
  | 0, a => ⟨Nat.le_refl _, by show a ≤ a + 0; omega⟩
  | d + 1, a => by
    unfold fndGo
    split
    · exact ⟨Nat.le_refl _, by omega⟩
    · have := fndGo_le M c d (a + 1); omega
theorem fndGo_zero (M : Nat → List Nat) (c : Nat) : ∀ d a i, a ≤ i → i < fndGo M c d a → at0 (M i) c = 0
  | 0, a, i, h1, h2 => by
    have e : fndGo M c 0 a = a := rfl
    omega
  | d + 1, a, i, h1, h2 => by
    unfold fndGo at h2
    by_cases h : at0 (M a) c ≠ 0
    · rw [if_pos h] at h2; omega
    · rw [if_neg h] at h2
      by_cases e : i = a
      · subst e; exact Classical.not_not.1 h
      · exact fndGo_zero M c d (a + 1) i (by omega) h2
theorem fndGo_ne (M : Nat → List Nat) (c : Nat) : ∀ d a, fndGo M c d a < a + d → at0 (M (fndGo M c d a)) c ≠ 0
  | 0, a, h => by
    have e : fndGo M c 0 a = a := rfl
    omega
  | d + 1, a, h => by
    unfold fndGo at h ⊢
    by_cases h1 : at0 (M a) c ≠ 0
    · rw [if_pos h1]; exact h1
    · rw [if_neg h1] at h ⊢
      exact fndGo_ne M c d (a + 1) (by omega)
theorem fnd_le {M : Nat → List Nat} {R c n : Nat} (h : n ≤ R) : n ≤ fnd M R c n ∧ fnd M R c n ≤ R := by
  have := fndGo_le M c (R - n) n
  unfold fnd; omega
theorem fnd_zero {M : Nat → List Nat} {R c n i : Nat} (h1 : n ≤ i) (h2 : i < fnd M R c n) : at0 (M i) c = 0 := fndGo_zero M c _ _ i h1 h2
theorem fnd_ne {M : Nat → List Nat} {R c n : Nat} (hn : n ≤ R) (h : fnd M R c n < R) : at0 (M (fnd M R c n)) c ≠ 0 := fndGo_ne M c _ _ (by unfold fnd at h; omega)
theorem fnd_at {M : Nat → List Nat} {R c n a : Nat} (h1 : n ≤ a) (h2 : a < R) (hz : ∀ i, n ≤ i → i < a → at0 (M i) c = 0) (hne : at0 (M a) c ≠ 0) : fnd M R c n = a := by
  have h3 := fnd_le (M := M) (c := c) (show n ≤ R by omega)
  rcases Nat.lt_trichotomy (fnd M R c n) a with h | h | h
  · exact absurd (hz _ h3.1 h) (fnd_ne (by omega) (by omega))
  · exact h
  · exact absurd (fnd_zero h1 h) hne
theorem fnd_none {M : Nat → List Nat} {R c n : Nat} (h : n ≤ R) (hz : ∀ i, n ≤ i → i < R → at0 (M i) c = 0) : fnd M R c n = R := by
  have h3 := fnd_le (M := M) (c := c) h
  rcases Nat.lt_or_ge (fnd M R c n) R with h4 | h4
  · exact absurd (hz _ h3.1 h4) (fnd_ne h h4)
  · omega

/-- Rows turned to steps in their first columns: how many steps; the rows; those that follow. -/
def redN (M : Nat → List Nat) (R : Nat) : Nat → (Nat → List Nat) × Nat
  | 0 => (M, 0)
  | c + 1 => if fnd (redN M R c).1 R c (redN M R c).2 < R then (elim (swp (redN M R c).1 (redN M R c).2 (fnd (redN M R c).1 R c (redN M R c).2)) (redN M R c).2 c, (redN M R c).2 + 1) else redN M R c
def rdN (M : Nat → List Nat) (R c : Nat) : Nat := (redN M R c).2
def rdX (M : Nat → List Nat) (R c : Nat) : Nat → List Nat := (redN M R c).1
def rdY (M Y : Nat → List Nat) (R : Nat) : Nat → Nat → List Nat
  | 0 => Y
  | c + 1 => if fnd (rdX M R c) R c (rdN M R c) < R then elimB (swp (rdX M R c) (rdN M R c) (fnd (rdX M R c) R c (rdN M R c))) (swp (rdY M Y R c) (rdN M R c) (fnd (rdX M R c) R c (rdN M R c))) (rdN M R c) c else rdY M Y R c
theorem rd_zero (M : Nat → List Nat) (R : Nat) : rdN M R 0 = 0 ∧ rdX M R 0 = M := ⟨rfl, rfl⟩
theorem rd_none {M : Nat → List Nat} {R c : Nat} (h : ¬ fnd (rdX M R c) R c (rdN M R c) < R) : rdN M R (c + 1) = rdN M R c ∧ rdX M R (c + 1) = rdX M R c := by
  have e : redN M R (c + 1) = redN M R c := if_neg h
  exact ⟨by unfold rdN; rw [e], by unfold rdX; rw [e]⟩
theorem rd_some {M : Nat → List Nat} {R c : Nat} (h : fnd (rdX M R c) R c (rdN M R c) < R) : rdN M R (c + 1) = rdN M R c + 1 ∧ rdX M R (c + 1) = elim (swp (rdX M R c) (rdN M R c) (fnd (rdX M R c) R c (rdN M R c))) (rdN M R c) c := by
  have e : redN M R (c + 1) = _ := if_pos h
  exact ⟨by show (redN M R (c + 1)).2 = _; rw [e]; rfl, by show (redN M R (c + 1)).1 = _; rw [e]; rfl⟩
theorem rdY_none {M Y : Nat → List Nat} {R c : Nat} (h : ¬ fnd (rdX M R c) R c (rdN M R c) < R) : rdY M Y R (c + 1) = rdY M Y R c := if_neg h
theorem rdY_some {M Y : Nat → List Nat} {R c : Nat} (h : fnd (rdX M R c) R c (rdN M R c) < R) : rdY M Y R (c + 1) = elimB (swp (rdX M R c) (rdN M R c) (fnd (rdX M R c) R c (rdN M R c))) (swp (rdY M Y R c) (rdN M R c) (fnd (rdX M R c) R c (rdN M R c))) (rdN M R c) c := if_pos h
theorem rdN_le (M : Nat → List Nat) (R : Nat) : ∀ c, rdN M R c ≤ R ∧ rdN M R c ≤ c
  | 0 => ⟨Nat.zero_le _, Nat.zero_le _⟩
  | c + 1 => by
    have h := rdN_le M R c
    by_cases h1 : fnd (rdX M R c) R c (rdN M R c) < R
    · rw [(rd_some h1).1]
      have := fnd_le (M := rdX M R c) (c := c) h.1
      omega
    · rw [(rd_none h1).1]; omega
theorem rdX_eqY (M : Nat → List Nat) (R : Nat) : ∀ c, rdX M R c = rdY M M R c
  | 0 => rfl
  | c + 1 => by
    by_cases h1 : fnd (rdX M R c) R c (rdN M R c) < R
    · rw [(rd_some h1).2, rdY_some h1, ← rdX_eqY M R c]; rfl
    · rw [(rd_none h1).2, rdY_none h1, rdX_eqY M R c]

theorem sc_len (b : Nat) (l : List Nat) : (sc b l).length = l.length := by simp [sc]
theorem ad_len {b : Nat} {l o : List Nat} (h : l.length = o.length) : (ad b l o).length = l.length := by simp [ad, h]
theorem sc_app (b : Nat) (l o : List Nat) : sc b (l ++ o) = sc b l ++ sc b o := by simp [sc]
theorem ad_app {b : Nat} {l o l' o' : List Nat} (h : l.length = o.length) : ad b (l ++ l') (o ++ o') = ad b l o ++ ad b l' o' := by
  unfold ad; rw [List.zipWith_append h]
theorem ad_zero {l o : List Nat} (h : l.length = o.length) : ad 0 l o = l := by
  apply List.ext_getElem (by simp [ad, h])
  intro i h1 h2
  simp [ad, mul_zero]
theorem at0_app {l o : List Nat} {c : Nat} (h : c < l.length) : at0 (l ++ o) c = at0 l c := by unfold at0; rw [List.getElem?_append_left h]
theorem at0_app2 {l o : List Nat} {c : Nat} (h : l.length ≤ c) : at0 (l ++ o) c = at0 o (c - l.length) := by unfold at0; rw [List.getElem?_append_right h]
theorem at0_lt {l : List Nat} (h : ∀ (i x : Nat), l[i]? = some x → x < 256) (c : Nat) : at0 l c < 256 := by
  unfold at0
  cases e : l[c]? with
  | none => show 0 < 256; decide
  | some x => exact h c x e
theorem at0_of {l : List Nat} {c x : Nat} (h : l[c]? = some x) : at0 l c = x := by unfold at0; rw [h]; rfl
theorem at0_get {l : List Nat} {c : Nat} (h : c < l.length) : l[c]? = some (at0 l c) := by unfold at0; rw [List.getElem?_eq_getElem h]; rfl
theorem at0_out {l : List Nat} {c : Nat} (h : l.length ≤ c) : at0 l c = 0 := by unfold at0; rw [List.getElem?_eq_none h]; rfl
theorem at0_sc {b : Nat} (l : List Nat) (c : Nat) : at0 (sc b l) c = mul (at0 l c) b := by
  unfold at0 sc
  rw [List.getElem?_map]
  cases l[c]? with
  | none => exact (zero_mul b).symm
  | some x => rfl
theorem at0_ad {b : Nat} {l o : List Nat} (h : l.length = o.length) (c : Nat) : at0 (ad b l o) c = at0 l c ^^^ mul (at0 o c) b := by
  unfold at0 ad
  rw [List.getElem?_zipWith]
  by_cases hc : c < l.length
  · rw [List.getElem?_eq_getElem hc, List.getElem?_eq_getElem (show c < o.length by omega)]; rfl
  · rw [List.getElem?_eq_none (show l.length ≤ c by omega), List.getElem?_eq_none (show o.length ≤ c by omega)]
    show 0 = 0 ^^^ mul 0 b
    rw [zero_mul]; rfl

/-- All rows are so long. -/
def Long (M : Nat → List Nat) (W : Nat) : Prop := ∀ r, (M r).length = W
theorem Long.swp {M : Nat → List Nat} {W : Nat} (h : Long M W) (n a : Nat) : Long (swp M n a) W := fun r => by
  unfold Gf.swp; split
  · exact h n
  · split
    · exact h a
    · exact h r
theorem Long.elimB {M Y : Nat → List Nat} {W : Nat} (h : Long Y W) (n c : Nat) : Long (elimB M Y n c) W := fun r => by
  unfold Gf.elimB; split
  · rw [sc_len]; exact h n
  · rw [ad_len]
    · exact h r
    · rw [sc_len, h r, h n]
theorem Long.rdY {M Y : Nat → List Nat} {W : Nat} (h : Long Y W) (R : Nat) : ∀ c, Long (rdY M Y R c) W
  | 0 => h
  | c + 1 => by
    by_cases h1 : fnd (rdX M R c) R c (rdN M R c) < R
    · rw [rdY_some h1]; exact ((h.rdY R c).swp _ _).elimB _ _
    · rw [rdY_none h1]; exact h.rdY R c
theorem Long.rdX {M : Nat → List Nat} {W : Nat} (h : Long M W) (R c : Nat) : Long (rdX M R c) W := by rw [rdX_eqY]; exact h.rdY R c

/-- All are bytes. -/
def Byt (M : Nat → List Nat) : Prop := ∀ r c, at0 (M r) c < 256
theorem Byt.swp {M : Nat → List Nat} (h : Byt M) (n a : Nat) : Byt (swp M n a) := fun r => by
  unfold Gf.swp; split
  · exact h n
  · split
    · exact h a
    · exact h r
theorem Byt.elimB {M Y : Nat → List Nat} {W : Nat} (hl : Long Y W) (h : Byt Y) (n c : Nat) : Byt (elimB M Y n c) := fun r i => by
  unfold Gf.elimB; split
  · rw [at0_sc]; exact mul_lt (h n i)
  · rw [at0_ad (by rw [sc_len, hl r, hl n]), at0_sc]
    exact xor_lt (h r i) (mul_lt (mul_lt (h n i)))
theorem Byt.rdY {M Y : Nat → List Nat} {W : Nat} (hl : Long Y W) (h : Byt Y) (R : Nat) : ∀ c, Byt (rdY M Y R c)
  | 0 => h
  | c + 1 => by
    by_cases h1 : fnd (rdX M R c) R c (rdN M R c) < R
    · rw [rdY_some h1]; exact ((h.rdY hl R c).swp _ _).elimB ((hl.rdY R c).swp _ _) _ _
    · rw [rdY_none h1]; exact h.rdY hl R c
theorem Byt.rdX {M : Nat → List Nat} {W : Nat} (hl : Long M W) (h : Byt M) (R c : Nat) : Byt (rdX M R c) := by rw [rdX_eqY]; exact h.rdY hl R c

/-- Rows beside rows: the reduction of both is that of the first ones, and of those that follow. -/
def bes (A B : Nat → List Nat) : Nat → List Nat := fun r => A r ++ B r
theorem bes_swp (A B : Nat → List Nat) (n a : Nat) : swp (bes A B) n a = bes (swp A n a) (swp B n a) := by
  funext r
  unfold swp bes
  by_cases h : r = a
  · simp only [if_pos h]
  · simp only [if_neg h]
    by_cases h2 : r = n
    · simp only [if_pos h2]
    · simp only [if_neg h2]
theorem bes_elim {A B : Nat → List Nat} {W n c : Nat} (hA : Long A W) (hc : c < W) : elim (bes A B) n c = bes (elim A n c) (elimB A B n c) := by
  funext r
  have e : ∀ r, at0 (bes A B r) c = at0 (A r) c := fun r => at0_app (by rw [hA r]; exact hc)
  show elimB (bes A B) (bes A B) n c r = elimB A A n c r ++ elimB A B n c r
  unfold elimB
  rw [e r, e n]
  by_cases h : r = n
  · rw [if_pos h, if_pos h, if_pos h]; exact sc_app _ _ _
  · rw [if_neg h, if_neg h, if_neg h]
    show ad _ (A r ++ B r) (sc _ (A n ++ B n)) = _
    rw [sc_app, ad_app (by rw [sc_len, hA r, hA n])]
theorem fndGo_bes {A B : Nat → List Nat} {W c : Nat} (hA : Long A W) (hc : c < W) : ∀ d a, fndGo (bes A B) c d a = fndGo A c d a
  | 0, _ => rfl
  | d + 1, a => by
    have e : at0 (bes A B a) c = at0 (A a) c := at0_app (by rw [hA a]; exact hc)
    unfold fndGo
    rw [e, fndGo_bes hA hc d (a + 1)]
theorem rd_bes {A B : Nat → List Nat} {W R : Nat} (hA : Long A W) : ∀ c, c ≤ W → rdN (bes A B) R c = rdN A R c ∧ rdX (bes A B) R c = bes (rdX A R c) (rdY A B R c)
  | 0, _ => ⟨rfl, rfl⟩
  | c + 1, hc => by
    obtain ⟨h1, h2⟩ := rd_bes (B := B) (R := R) hA c (by omega)
    have e : fnd (rdX (bes A B) R c) R c (rdN (bes A B) R c) = fnd (rdX A R c) R c (rdN A R c) := by
      rw [h1, h2]; exact fndGo_bes (hA.rdX R c) (by omega) _ _
    by_cases h3 : fnd (rdX A R c) R c (rdN A R c) < R
    · obtain ⟨g1, g2⟩ := rd_some (by rw [e]; exact h3)
      rw [g1, g2, e, h1, h2, (rd_some h3).1, (rd_some h3).2, rdY_some h3, bes_swp, bes_elim ((hA.rdX R c).swp _ _) (by omega)]
      exact ⟨rfl, rfl⟩
    · obtain ⟨g1, g2⟩ := rd_none (by rw [e]; exact h3)
      rw [g1, g2, h1, h2, (rd_none h3).1, (rd_none h3).2, rdY_none h3]
      exact ⟨rfl, rfl⟩

/-- Sums of some. -/
def xs (f : Nat → Nat) : Nat → Nat
  | 0 => 0
  | k + 1 => xs f k ^^^ f k
theorem xs_lt {f : Nat → Nat} (h : ∀ i, f i < 256) : ∀ k, xs f k < 256
  | 0 => by show 0 < 256; decide
  | k + 1 => xor_lt (xs_lt h k) (h k)
theorem xs_congr {f g : Nat → Nat} : ∀ {k : Nat}, (∀ i, i < k → f i = g i) → xs f k = xs g k
  | 0, _ => rfl
  | k + 1, h => by show xs f k ^^^ f k = xs g k ^^^ g k; rw [xs_congr (fun i hi => h i (by omega)), h k (by omega)]
/-- A row of a product, so many rows of the second one long. -/
def mmr (A : List Nat) (B : Nat → List Nat) (cols n : Nat) : List Nat := (List.range cols).map fun c => xs (fun i => mul (at0 A i) (at0 (B i) c)) n
theorem mmr_len (A : List Nat) (B : Nat → List Nat) (cols n : Nat) : (mmr A B cols n).length = cols := by simp [mmr]
theorem mmr_zero (A : List Nat) (B : Nat → List Nat) (cols : Nat) : mmr A B cols 0 = List.replicate cols 0 := by
  apply List.ext_getElem (by simp [mmr])
  intro i h1 h2
  simp [mmr, xs]
theorem at0_mmr {A : List Nat} {B : Nat → List Nat} {cols n c : Nat} (h : c < cols) : at0 (mmr A B cols n) c = xs (fun i => mul (at0 A i) (at0 (B i) c)) n := by
  unfold at0 mmr
  rw [List.getElem?_map, List.getElem?_range h]; rfl
theorem ext0 {l o : List Nat} (hl : l.length = o.length) (h : ∀ c, c < l.length → at0 l c = at0 o c) : l = o := by
  apply List.ext_getElem hl
  intro i h1 h2
  have := h i h1
  unfold at0 at this
  rw [List.getElem?_eq_getElem h1, List.getElem?_eq_getElem h2] at this
  exact this
theorem mmr_step {A : List Nat} {B : Nat → List Nat} {cols n : Nat} (hl : (B n).length = cols) (ha : at0 A n < 256) (hb : ∀ c, at0 (B n) c < 256) : mmr A B cols (n + 1) = ad (at0 A n) (mmr A B cols n) (B n) := by
  have e : (mmr A B cols n).length = (B n).length := by rw [mmr_len, hl]
  refine ext0 (by rw [mmr_len, ad_len e, mmr_len]) fun c hc => ?_
  rw [mmr_len] at hc
  rw [at0_mmr hc, at0_ad e, at0_mmr hc, mul_comm (hb c) ha]
  rfl
/-- A row of the unit. -/
def unitX (n : Nat) (r : Nat) : List Nat := (List.replicate n 0).set r 1
theorem unitX_len (n r : Nat) : (unitX n r).length = n := by simp [unitX]
theorem at0_unit {n r c : Nat} (hc : c < n) : at0 (unitX n r) c = if c = r then 1 else 0 := by
  unfold at0 unitX
  rw [List.getElem?_set]
  by_cases h : r = c
  · subst h; simp [hc]
  · rw [if_neg h, if_neg (fun e => h e.symm), List.getElem?_replicate]; simp [hc]
theorem unitX_byt (n : Nat) : Byt (unitX n) := fun r c => by
  by_cases hc : c < n
  · rw [at0_unit hc]; split <;> decide
  · rw [at0_out (by rw [unitX_len]; omega)]; decide
end Go.Proofs.Ytokeoodkioobdaa.Gf

/- Plain: spans of rows; what a reduction to steps leaves; ranks; inverses. No program in sight. Conditions: bytes are below 256, rows are alike long. -/
namespace Go.Proofs.Ytokeoodkioobdaa.Gf

theorem xs_xor (f g : Nat → Nat) : ∀ k, xs (fun i => f i ^^^ g i) k = xs f k ^^^ xs g k
  | 0 => (Nat.xor_self 0).symm
  | k + 1 => by show xs _ k ^^^ (f k ^^^ g k) = (xs f k ^^^ f k) ^^^ (xs g k ^^^ g k); rw [xs_xor f g k, xor4]
theorem xs_zero : ∀ k, xs (fun _ => 0) k = 0
  | 0 => rfl
  | k + 1 => by show xs (fun _ => 0) k ^^^ 0 = 0; rw [xs_zero k]; rfl
theorem xs_none {f : Nat → Nat} {k : Nat} (h : ∀ i, i < k → f i = 0) : xs f k = 0 := (xs_congr h).trans (xs_zero k)
theorem xs_mul {b : Nat} (f : Nat → Nat) : ∀ k, mul b (xs f k) = xs (fun i => mul b (f i)) k
  | 0 => mul_zero b
  | k + 1 => by show mul b (xs f k ^^^ f k) = xs _ k ^^^ mul b (f k); rw [mul_xor_right, xs_mul f k]
theorem xs_mul' {b : Nat} {f : Nat → Nat} (hf : ∀ i, f i < 256) : ∀ k, mul (xs f k) b = xs (fun i => mul (f i) b) k
  | 0 => zero_mul b
  | k + 1 => by show mul (xs f k ^^^ f k) b = xs _ k ^^^ mul (f k) b; rw [mul_xor_left (xs_lt hf k) (hf k), xs_mul' hf k]
theorem xs_swap (f : Nat → Nat → Nat) (n : Nat) : ∀ k, xs (fun i => xs (f i) n) k = xs (fun j => xs (fun i => f i j) k) n
  | 0 => (xs_zero n).symm
  | k + 1 => by
    show xs (fun i => xs (f i) n) k ^^^ xs (f k) n = xs (fun j => xs (fun i => f i j) k ^^^ f k j) n
    rw [xs_swap f n k, xs_xor]
/-- A sum in which just one counts. -/
theorem xs_one {f : Nat → Nat} {j : Nat} : ∀ {k : Nat}, j < k → (∀ i, i < k → i ≠ j → f i = 0) → xs f k = f j
  | 0, h, _ => absurd h (by omega)
  | k + 1, h, hz => by
    show xs f k ^^^ f k = f j
    by_cases e : j = k
    · subst e; rw [xs_none (fun i hi => hz i (by omega) (by omega))]; exact Nat.zero_xor _
    · rw [xs_one (show j < k by omega) (fun i hi => hz i (by omega)), hz k (by omega) (fun e' => e e'.symm)]; exact Nat.xor_zero _
theorem xor_undo (a b : Nat) : (a ^^^ b) ^^^ b = a := by rw [Nat.xor_assoc, Nat.xor_self, Nat.xor_zero]

/-- A sum of rows, each by a byte. -/
def comb (k : Nat → Nat) (M : Nat → List Nat) (R c : Nat) : Nat := xs (fun j => mul (k j) (at0 (M j) c)) R
/-- What such sums make. -/
def InS (M : Nat → List Nat) (R : Nat) (v : Nat → Nat) : Prop := ∃ k : Nat → Nat, (∀ j, k j < 256) ∧ ∀ c, v c = comb k M R c
theorem InS.congr {M : Nat → List Nat} {R : Nat} {v u : Nat → Nat} (h : InS M R v) (e : ∀ c, u c = v c) : InS M R u := by
  obtain ⟨k, h1, h2⟩ := h
  exact ⟨k, h1, fun c => (e c).trans (h2 c)⟩
theorem InS.row {M : Nat → List Nat} {R r : Nat} (hb : Byt M) (h : r < R) : InS M R (at0 (M r)) := by
  refine ⟨fun j => if j = r then 1 else 0, fun j => by show (if j = r then 1 else 0) < 256; split <;> decide, fun c => ?_⟩
  unfold comb
  rw [xs_one h]
  · show _ = mul (if r = r then 1 else 0) _
    rw [if_pos rfl, one_mul (hb r c)]
  · intro i _ hi
    show mul (if i = r then 1 else 0) _ = 0
    rw [if_neg hi, zero_mul]
theorem InS.add {M : Nat → List Nat} {R : Nat} {v u : Nat → Nat} (h : InS M R v) (g : InS M R u) : InS M R (fun c => v c ^^^ u c) := by
  obtain ⟨k, h1, h2⟩ := h
  obtain ⟨l, g1, g2⟩ := g
  refine ⟨fun j => k j ^^^ l j, fun j => xor_lt (h1 j) (g1 j), fun c => ?_⟩
  show v c ^^^ u c = _
  rw [h2, g2]
  unfold comb
  rw [← xs_xor]
  exact xs_congr fun i _ => (mul_xor_left (h1 i) (g1 i) _).symm
theorem InS.by_ {M : Nat → List Nat} {R b : Nat} {v : Nat → Nat} (hM : Byt M) (h : InS M R v) (hb : b < 256) : InS M R (fun c => mul b (v c)) := by
  obtain ⟨k, h1, h2⟩ := h
  refine ⟨fun j => mul b (k j), fun j => mul_lt hb, fun c => ?_⟩
  show mul b (v c) = _
  rw [h2]
  unfold comb
  rw [xs_mul]
  exact xs_congr fun i _ => (mul_assoc hb (h1 i) (hM i c)).symm
theorem InS.zero (M : Nat → List Nat) (R : Nat) : InS M R (fun _ => 0) := ⟨fun _ => 0, fun _ => by show 0 < 256; decide, fun c => by
  unfold comb; exact (xs_none fun i _ => zero_mul _).symm⟩
theorem InS.sum {M : Nat → List Nat} {R : Nat} {f : Nat → Nat → Nat} : ∀ {k : Nat}, (∀ i, i < k → InS M R (f i)) → InS M R (fun c => xs (fun i => f i c) k)
  | 0, _ => InS.zero M R
  | k + 1, h => (InS.sum (k := k) fun i hi => h i (by omega)).add (h k (by omega))
/-- Each of these rows is made of those. -/
def Sub (M : Nat → List Nat) (R : Nat) (M' : Nat → List Nat) (R' : Nat) : Prop := ∀ r, r < R → InS M' R' (at0 (M r))
theorem Sub.of {M M' : Nat → List Nat} {R R' : Nat} {v : Nat → Nat} (hb : Byt M') (hs : Sub M R M' R') (h : InS M R v) : InS M' R' v := by
  obtain ⟨k, h1, h2⟩ := h
  exact (InS.sum (k := R) (f := fun j c => mul (k j) (at0 (M j) c)) fun j hj => (hs j hj).by_ hb (h1 j)).congr h2
theorem Sub.trans {M M' M'' : Nat → List Nat} {R R' R'' : Nat} (hb : Byt M'') (h : Sub M R M' R') (g : Sub M' R' M'' R'') : Sub M R M'' R'' := fun r hr => g.of hb (h r hr)
theorem Sub.refl {M : Nat → List Nat} (hb : Byt M) (R : Nat) : Sub M R M R := fun _ hr => InS.row hb hr

theorem sub_swp {M : Nat → List Nat} {R n a : Nat} (hb : Byt M) (hn : n < R) (ha : a < R) : Sub (swp M n a) R M R := fun r hr => by
  unfold swp; split
  · exact InS.row hb hn
  · split
    · exact InS.row hb ha
    · exact InS.row hb hr
theorem swp_swp (M : Nat → List Nat) (n a : Nat) : swp (swp M n a) n a = M := by
  funext r
  by_cases h : r = a
  · subst h
    by_cases h2 : n = r
    · subst h2; simp [swp]
    · simp [swp, h2]
  · by_cases h2 : r = n
    · subst h2; simp [swp, h]
    · simp [swp, h, h2]
theorem swp_sub {M : Nat → List Nat} {R n a : Nat} (hb : Byt M) (hn : n < R) (ha : a < R) : Sub M R (swp M n a) R := by
  have h := sub_swp (hb.swp n a) hn ha
  rwa [swp_swp] at h
theorem sub_elim {M : Nat → List Nat} {W R n c : Nat} (hl : Long M W) (hb : Byt M) (hn : n < R) : Sub (elim M n c) R M R := fun r hr => by
  have e : ∀ i, at0 (sc (inv (at0 (M n) c)) (M n)) i = mul (inv (at0 (M n) c)) (at0 (M n) i) := fun i => by rw [at0_sc, mul_comm (hb n i) inv_lt]
  have h1 : InS M R (at0 (sc (inv (at0 (M n) c)) (M n))) := ((InS.row hb hn).by_ hb inv_lt).congr e
  unfold elim elimB; split
  · exact h1
  · refine ((InS.row hb hr).add (h1.by_ hb (hb r c))).congr fun i => ?_
    rw [at0_ad (by rw [sc_len, hl r, hl n]), mul_comm (by rw [e]; exact mul_lt inv_lt) (hb r c)]
theorem elim_byt {M : Nat → List Nat} {W n c : Nat} (hl : Long M W) (hb : Byt M) : Byt (elim M n c) := hb.elimB hl n c
theorem elim_sub {M : Nat → List Nat} {W R n c : Nat} (hl : Long M W) (hb : Byt M) (hn : n < R) (h0 : at0 (M n) c ≠ 0) : Sub M R (elim M n c) R := fun r hr => by
  have hB : Byt (elim M n c) := elim_byt hl hb
  have en : elim M n c n = sc (inv (at0 (M n) c)) (M n) := if_pos rfl
  by_cases h : r = n
  · subst h
    refine ((InS.row hB hr).by_ hB (hb r c)).congr fun i => ?_
    show at0 (M r) i = mul _ (at0 (elim M r c r) i)
    rw [en, at0_sc, mul_comm (hb r i) inv_lt, ← mul_assoc (hb r c) inv_lt (hb r i), mul_inv (hb r c) h0, one_mul (hb r i)]
  · have er : elim M n c r = ad (at0 (M r) c) (M r) (elim M n c n) := by rw [en]; exact if_neg h
    refine ((InS.row hB hr).add ((InS.row hB hn).by_ hB (hb r c))).congr fun i => ?_
    show at0 (M r) i = at0 (elim M n c r) i ^^^ mul _ (at0 (elim M n c n) i)
    rw [er, at0_ad (by rw [en, sc_len, hl r, hl n]), mul_comm (hB n i) (hb r c), xor_undo]
/-- The reduction keeps what the rows make. -/
theorem rd_sub {M : Nat → List Nat} {W R : Nat} (hl : Long M W) (hb : Byt M) : ∀ c, Sub (rdX M R c) R M R ∧ Sub M R (rdX M R c) R
  | 0 => ⟨Sub.refl hb R, Sub.refl hb R⟩
  | c + 1 => by
    obtain ⟨h1, h2⟩ := rd_sub (R := R) hl hb c
    by_cases h : fnd (rdX M R c) R c (rdN M R c) < R
    · have hX := hb.rdX hl R c
      have hL := hl.rdX R c
      have hn := (rdN_le M R c).1
      have hf := fnd_le (M := rdX M R c) (c := c) hn
      have hne := fnd_ne hn h
      rw [(rd_some h).2]
      generalize fnd (rdX M R c) R c (rdN M R c) = a at *
      have hS := hX.swp (rdN M R c) a
      have hSL := hL.swp (rdN M R c) a
      have h0 : at0 (swp (rdX M R c) (rdN M R c) a (rdN M R c)) c ≠ 0 := by
        by_cases e : rdN M R c = a
        · unfold swp; rw [if_pos e, e]; exact hne
        · unfold swp; rw [if_neg e, if_pos rfl]; exact hne
      exact ⟨((sub_elim hSL hS (by omega)).trans hX (sub_swp hX (by omega) (by omega))).trans hb h1,
        (h2.trans hS (swp_sub hX (by omega) (by omega))).trans (elim_byt hSL hS) (elim_sub hSL hS (by omega) h0)⟩
    · rw [(rd_none h).2]; exact ⟨h1, h2⟩

/-- Rows that are steps, in their first columns. -/
structure Steps (X : Nat → List Nat) (R n c : Nat) (p : Nat → Nat) : Prop where
  inc : ∀ i j, i < j → j < n → p i < p j
  lt : ∀ j, j < n → p j < c
  one : ∀ j, j < n → ∀ r, r < R → at0 (X r) (p j) = if r = j then 1 else 0
  low : ∀ r, n ≤ r → r < R → ∀ i, i < c → at0 (X r) i = 0
  lead : ∀ j, j < n → ∀ i, i < p j → at0 (X j) i = 0
theorem rd_steps {M : Nat → List Nat} {W R : Nat} (hl : Long M W) (hb : Byt M) : ∀ c, ∃ p, Steps (rdX M R c) R (rdN M R c) c p
  | 0 => ⟨fun _ => 0, ⟨fun i j _ h => absurd h (Nat.not_lt_zero _), fun j h => absurd h (Nat.not_lt_zero _), fun j h => absurd h (Nat.not_lt_zero _), fun r _ _ i hi => absurd hi (Nat.not_lt_zero _), fun j h => absurd h (Nat.not_lt_zero _)⟩⟩
  | c + 1 => by
    obtain ⟨p, hp⟩ := rd_steps (R := R) hl hb c
    have hX := hb.rdX hl R c
    have hL := hl.rdX R c
    have hn := (rdN_le M R c).1
    by_cases h : fnd (rdX M R c) R c (rdN M R c) < R
    · have hf := fnd_le (M := rdX M R c) (c := c) hn
      have hne := fnd_ne hn h
      rw [(rd_some h).1, (rd_some h).2]
      generalize fnd (rdX M R c) R c (rdN M R c) = a at *
      generalize rdN M R c = n at *
      generalize rdX M R c = X at *
      have hS := hX.swp n a
      have hSL := hL.swp n a
      have hnn : swp X n a n = X a := by
        unfold swp
        by_cases e : n = a
        · rw [if_pos e, e]
        · rw [if_neg e, if_pos rfl]
      have s0 : at0 (swp X n a n) c ≠ 0 := by rw [hnn]; exact hne
      have slow : ∀ r, n ≤ r → r < R → ∀ i, i < c → at0 (swp X n a r) i = 0 := by
        intro r h1 h2 i hi
        unfold swp; split
        · exact hp.low _ (Nat.le_refl _) (by omega) i hi
        · split
          · exact hp.low _ (by omega) (by omega) i hi
          · exact hp.low _ h1 h2 i hi
      have sup : ∀ r, r < n → swp X n a r = X r := by
        intro r hr
        unfold swp; rw [if_neg (by omega), if_neg (by omega)]
      generalize hZ : swp X n a = Z at *
      have en : elim Z n c n = sc (inv (at0 (Z n) c)) (Z n) := if_pos rfl
      have er : ∀ r, r ≠ n → elim Z n c r = ad (at0 (Z r) c) (Z r) (sc (inv (at0 (Z n) c)) (Z n)) := fun r hr => if_neg hr
      have e1 : at0 (elim Z n c n) c = 1 := by rw [en, at0_sc, mul_inv (hS n c) s0]
      have e0 : ∀ i, i < c → at0 (elim Z n c n) i = 0 := fun i hi => by rw [en, at0_sc, slow n (Nat.le_refl _) (by omega) i hi, zero_mul]
      have eo : ∀ r, r ≠ n → ∀ i, at0 (elim Z n c r) i = at0 (Z r) i ^^^ mul (at0 (elim Z n c n) i) (at0 (Z r) c) := fun r hr i => by
        rw [er r hr, at0_ad (by rw [sc_len, hSL r, hSL n]), en]
      have eq : ∀ r, r ≠ n → ∀ i, i < c → at0 (elim Z n c r) i = at0 (Z r) i := fun r hr i hi => by rw [eo r hr, e0 i hi, zero_mul, Nat.xor_zero]
      refine ⟨fun j => if j = n then c else p j, ⟨?_, ?_, ?_, ?_, ?_⟩⟩
      · intro i j h1 h2
        show (if i = n then c else p i) < (if j = n then c else p j)
        rw [if_neg (show i ≠ n by omega)]
        split
        · exact hp.lt i (by omega)
        · exact hp.inc i j h1 (by omega)
      · intro j h1
        show (if j = n then c else p j) < c + 1
        split
        · omega
        · have := hp.lt j (by omega); omega
      · intro j h1 r h2
        show at0 (elim Z n c r) (if j = n then c else p j) = _
        by_cases ej : j = n
        · subst ej
          rw [if_pos rfl]
          by_cases e : r = j
          · subst e; rw [if_pos rfl, e1]
          · rw [if_neg e, eo r e, e1, one_mul (hS r c), Nat.xor_self]
        · rw [if_neg ej]
          have hj := hp.lt j (by omega)
          by_cases e : r = n
          · subst e; rw [e0 _ hj, if_neg (fun e' => ej e'.symm)]
          · rw [eq r e _ hj]
            by_cases h3 : r < n
            · rw [sup r h3]; exact hp.one j (by omega) r h2
            · rw [slow r (by omega) h2 _ hj, if_neg (by omega)]
      · intro r h1 h2 i hi
        by_cases e : i = c
        · subst e
          rw [eo r (by omega), e1, one_mul (hS r i), Nat.xor_self]
        · rw [eq r (by omega) i (by omega)]
          exact slow r (by omega) h2 i (by omega)
      · intro j h1 i hi
        have hi : i < (if j = n then c else p j) := hi
        by_cases e : j = n
        · subst e; rw [if_pos rfl] at hi; exact e0 i hi
        · rw [if_neg e] at hi
          have hj := hp.lt j (by omega)
          rw [eq j e i (by omega), sup j (by omega)]
          exact hp.lead j (by omega) i hi
    · rw [(rd_none h).1, (rd_none h).2]
      have hf := fnd_le (M := rdX M R c) (c := c) hn
      refine ⟨p, ⟨hp.inc, fun j hj => by have := hp.lt j hj; omega, hp.one, fun r h1 h2 i hi => ?_, hp.lead⟩⟩
      by_cases e : i = c
      · subst e; exact fnd_zero (R := R) h1 (by omega)
      · exact hp.low r h1 h2 i (by omega)

/-- What steps make is told by what stands at their columns. -/
theorem Steps.made {X : Nat → List Nat} {R n W : Nat} {p : Nat → Nat} (hs : Steps X R n W p) (hn : n ≤ R) (hl : Long X W) {v : Nat → Nat} (h : InS X R v) : ∀ c, v c = xs (fun j => mul (v (p j)) (at0 (X j) c)) n := by
  obtain ⟨k, h1, h2⟩ := h
  have hk : ∀ j, j < n → v (p j) = k j := fun j hj => by
    rw [h2]
    unfold comb
    rw [xs_one (show j < R by omega)]
    · rw [hs.one j hj j (by omega), if_pos rfl, mul_one (h1 j)]
    · intro i hi hne
      rw [hs.one j hj i hi, if_neg hne, mul_zero]
  intro c
  rw [h2]
  unfold comb
  have h3 : ∀ m, n ≤ m → m ≤ R → xs (fun j => mul (k j) (at0 (X j) c)) m = xs (fun j => mul (k j) (at0 (X j) c)) n := by
    intro m
    induction m with
    | zero => intro h3 _; obtain rfl : n = 0 := by omega
              rfl
    | succ m ih =>
      intro h3 h4
      by_cases e : n = m + 1
      · subst e; rfl
      · show xs _ m ^^^ mul (k m) (at0 (X m) c) = _
        have : at0 (X m) c = 0 := by
          by_cases hc : c < W
          · exact hs.low m (by omega) (by omega) c hc
          · exact at0_out (by rw [hl m]; omega)
        rw [ih (by omega) (by omega), this, mul_zero, Nat.xor_zero]
  rw [h3 R hn (Nat.le_refl _)]
  exact xs_congr fun j hj => by rw [hk j hj]
theorem Steps.lead_of {X : Nat → List Nat} {R n W : Nat} {p : Nat → Nat} (hs : Steps X R n W p) (hn : n ≤ R) (hl : Long X W) {v : Nat → Nat} (h : InS X R v) {q : Nat} (hz : ∀ i, i < q → v i = 0) (hq : v q ≠ 0) : ∃ j, j < n ∧ p j = q := by
  apply Classical.byContradiction
  intro hno
  apply hq
  rw [hs.made hn hl h q]
  refine xs_none fun j hj => ?_
  rcases Nat.lt_trichotomy (p j) q with h1 | h1 | h1
  · rw [hz _ h1, zero_mul]
  · exact absurd ⟨j, hj, h1⟩ hno
  · rw [hs.lead j hj q h1, mul_zero]
theorem inc_le {n n' : Nat} {p p' : Nat → Nat} (h : ∀ i j, i < j → j < n → p i < p j) (h' : ∀ i j, i < j → j < n' → p' i < p' j) (hf : ∀ j, j < n → ∃ i, i < n' ∧ p' i = p j) : n ≤ n' := by
  have hk : ∀ j, j < n → ∃ i, j ≤ i ∧ i < n' ∧ p' i = p j := by
    intro j
    induction j with
    | zero => intro hj; obtain ⟨i, h1, h2⟩ := hf 0 hj; exact ⟨i, Nat.zero_le _, h1, h2⟩
    | succ j ih =>
      intro hj
      obtain ⟨i, h1, h2, h3⟩ := ih (by omega)
      obtain ⟨i', g1, g2⟩ := hf (j + 1) hj
      refine ⟨i', ?_, g1, g2⟩
      have := h j (j + 1) (by omega) hj
      rcases Nat.lt_trichotomy i i' with e | e | e
      · omega
      · subst e; omega
      · have := h' i' i e h2; omega
  rcases Nat.eq_zero_or_pos n with e | e
  · omega
  · obtain ⟨i, h1, h2, _⟩ := hk (n - 1) (by omega); omega
/-- A rank is not below that of rows which these ones make. -/
theorem rank_mono {M M' : Nat → List Nat} {R R' W : Nat} (hl : Long M W) (hb : Byt M) (hl' : Long M' W) (hb' : Byt M') (h : Sub M R M' R') : rdN M R W ≤ rdN M' R' W := by
  obtain ⟨p, hp⟩ := rd_steps (R := R) hl hb W
  obtain ⟨p', hp'⟩ := rd_steps (R := R') hl' hb' W
  refine inc_le hp.inc hp'.inc fun j hj => ?_
  have hR := (rdN_le M R W).1
  have hv : InS (rdX M' R' W) R' (at0 (rdX M R W j)) := (rd_sub hl' hb' W).2.of (hb'.rdX hl' R' W) (h.of hb' ((rd_sub hl hb W).1 j (by omega)))
  refine hp'.lead_of (rdN_le M' R' W).1 (hl'.rdX R' W) hv (fun i hi => hp.lead j hj i hi) ?_
  rw [hp.one j hj j (by omega), if_pos rfl]; decide
end Go.Proofs.Ytokeoodkioobdaa.Gf

/- Plain: products, inverses, ranks of products. No program in sight. Conditions: bytes are below 256, rows are alike long. -/
namespace Go.Proofs.Ytokeoodkioobdaa.Gf

theorem mmr_congr {A : List Nat} {B B' : Nat → List Nat} {cols n : Nat} (h : ∀ i, i < n → B i = B' i) : mmr A B cols n = mmr A B' cols n := by
  refine ext0 (by rw [mmr_len, mmr_len]) fun c hc => ?_
  rw [mmr_len] at hc
  rw [at0_mmr hc, at0_mmr hc]
  exact xs_congr fun i hi => by rw [h i hi]
theorem mmr_byt {A : List Nat} {B : Nat → List Nat} {cols n : Nat} (hA : ∀ c, at0 A c < 256) (c : Nat) : at0 (mmr A B cols n) c < 256 := by
  by_cases hc : c < cols
  · rw [at0_mmr hc]; exact xs_lt (fun i => mul_lt (hA i)) _
  · rw [at0_out (by rw [mmr_len]; omega)]; decide
/-- Products are the same however they are nested. -/
theorem mmr_assoc {A : List Nat} {B C : Nat → List Nat} {n m cols : Nat} (hA : ∀ c, at0 A c < 256) (hB : Byt B) (hC : Byt C) :
    mmr (mmr A B m n) C cols m = mmr A (fun i => mmr (B i) C cols m) cols n := by
  refine ext0 (by rw [mmr_len, mmr_len]) fun c hc => ?_
  rw [mmr_len] at hc
  rw [at0_mmr hc, at0_mmr hc]
  have e1 : xs (fun i => mul (at0 (mmr A B m n) i) (at0 (C i) c)) m = xs (fun i => xs (fun j => mul (mul (at0 A j) (at0 (B j) i)) (at0 (C i) c)) n) m :=
    xs_congr fun i hi => by rw [at0_mmr hi, xs_mul' (fun j => mul_lt (hA j))]
  rw [e1, xs_swap]
  refine xs_congr fun j _ => ?_
  rw [at0_mmr hc, xs_mul]
  exact xs_congr fun i _ => mul_assoc (hA j) (hB j i) (hC i c)
/-- The unit changes nothing, from either side. -/
theorem mmr_unit {A : List Nat} {B : Nat → List Nat} {n : Nat} (hA : ∀ c, at0 A c < 256) (hl : A.length = n) (hB : ∀ i, i < n → B i = unitX n i) : mmr A B n n = A := by
  refine ext0 (by rw [mmr_len, hl]) fun c hc => ?_
  rw [mmr_len] at hc
  rw [at0_mmr hc, xs_one hc]
  · rw [hB c hc, at0_unit hc, if_pos rfl, mul_one (hA c)]
  · intro i hi hne
    rw [hB i hi, at0_unit hc, if_neg (fun e => hne e.symm), mul_zero]
theorem unit_mmr {B : Nat → List Nat} {n cols r : Nat} (hr : r < n) (hl : (B r).length = cols) (hB : Byt B) : mmr (unitX n r) B cols n = B r := by
  refine ext0 (by rw [mmr_len, hl]) fun c hc => ?_
  rw [mmr_len] at hc
  rw [at0_mmr hc, xs_one hr]
  · rw [at0_unit hr, if_pos rfl, one_mul (hB r c)]
  · intro i hi hne
    rw [at0_unit hi, if_neg hne, zero_mul]
/-- Rows that make all: as many steps as columns. -/
theorem rank_full {M : Nat → List Nat} {R n : Nat} (hl : Long M n) (hb : Byt M) (h : ∀ q, q < n → InS M R (at0 (unitX n q))) : n ≤ rdN M R n := by
  obtain ⟨p, hp⟩ := rd_steps (R := R) hl hb n
  refine inc_le (p := fun i => i) (fun i j h _ => h) hp.inc fun q hq => ?_
  refine hp.lead_of (rdN_le M R n).1 (hl.rdX R n) ((rd_sub hl hb n).2.of (hb.rdX hl R n) (h q hq)) (fun i hi => ?_) ?_
  · rw [at0_unit (show i < n by omega), if_neg (by omega)]
  · rw [at0_unit hq, if_pos rfl]; decide
/-- As many steps as rows and columns: the unit. -/
theorem rd_unit {M : Nat → List Nat} {n : Nat} (hl : Long M n) (hb : Byt M) (h : rdN M n n = n) {r : Nat} (hr : r < n) : rdX M n n r = unitX n r := by
  obtain ⟨p, hp⟩ := rd_steps (R := n) hl hb n
  rw [h] at hp
  have hpj : ∀ j, j < n → j ≤ p j := by
    intro j
    induction j with
    | zero => intro _; exact Nat.zero_le _
    | succ j ih => intro hj; have := ih (by omega); have := hp.inc j (j + 1) (by omega) hj; omega
  have hpu : ∀ d j, j + d + 1 = n → p j ≤ j := by
    intro d
    induction d with
    | zero => intro j hj; have := hp.lt j (by omega); omega
    | succ d ih => intro j hj; have := ih (j + 1) (by omega); have := hp.inc j (j + 1) (by omega) (by omega); omega
  refine ext0 (by rw [hl.rdX n n r, unitX_len]) fun c hc => ?_
  rw [hl.rdX n n r] at hc
  have e : p c = c := Nat.le_antisymm (hpu (n - 1 - c) c (by omega)) (hpj c hc)
  have h1 := hp.one c hc r hr
  rw [e] at h1
  rw [h1, at0_unit hc]
  by_cases e2 : r = c
  · rw [if_pos e2, if_pos e2.symm]
  · rw [if_neg e2, if_neg (fun e3 => e2 e3.symm)]
theorem bes_long {A B : Nat → List Nat} {n m : Nat} (hA : Long A n) (hB : Long B m) : Long (bes A B) (n + m) := fun r => by
  unfold bes; rw [List.length_append, hA r, hB r]
theorem bes_byt {A B : Nat → List Nat} (hA : Byt A) (hB : Byt B) : Byt (bes A B) := fun r c => by
  unfold bes
  by_cases h : c < (A r).length
  · rw [at0_app h]; exact hA r c
  · rw [at0_app2 (by omega)]; exact hB r _
/-- What turns the unit's rows, when the first ones turn to the unit. -/
def invX (A : Nat → List Nat) (n : Nat) : Nat → List Nat := rdY A (unitX n) n n
theorem invX_long (A : Nat → List Nat) (n : Nat) : Long (invX A n) n := Long.rdY (fun r => unitX_len n r) n n
theorem invX_byt (A : Nat → List Nat) (n : Nat) : Byt (invX A n) := Byt.rdY (fun r => unitX_len n r) (unitX_byt n) n n
theorem inv_both {A : Nat → List Nat} {n : Nat} (hl : Long A n) (hb : Byt A) (h : rdN A n n = n) : ∀ r, r < n → mmr (A r) (invX A n) n n = unitX n r ∧ mmr (invX A n r) A n n = unitX n r := by
  have hM : Long (bes A (unitX n)) (n + n) := bes_long hl fun r => unitX_len n r
  have hMb : Byt (bes A (unitX n)) := bes_byt hb (unitX_byt n)
  obtain ⟨s1, s2⟩ := rd_sub (R := n) hM hMb n
  rw [(rd_bes hl n (Nat.le_refl _)).2] at s1 s2
  have hYl := invX_long A n
  have hX : ∀ r, r < n → rdX A n n r = unitX n r := fun r hr => rd_unit hl hb h hr
  have hXl : Long (rdX A n n) n := hl.rdX n n
  change Sub (bes (rdX A n n) (invX A n)) n _ n at s1
  change Sub _ n (bes (rdX A n n) (invX A n)) n at s2
  intro r hr
  constructor
  · obtain ⟨k, k1, k2⟩ := s2 r hr
    have hk : ∀ c, c < n → at0 (A r) c = k c := fun c hc => by
      have := k2 c
      unfold comb at this
      have e : at0 (bes A (unitX n) r) c = at0 (A r) c := at0_app (by rw [hl r]; exact hc)
      rw [e] at this
      rw [this, xs_one hc]
      · have e2 : at0 (bes (rdX A n n) (invX A n) c) c = at0 (rdX A n n c) c := at0_app (by rw [hXl c]; exact hc)
        rw [e2, hX c hc, at0_unit hc, if_pos rfl, mul_one (k1 c)]
      · intro i hi hne
        have e2 : at0 (bes (rdX A n n) (invX A n) i) c = at0 (rdX A n n i) c := at0_app (by rw [hXl i]; exact hc)
        rw [e2, hX i hi, at0_unit hc, if_neg (fun e => hne e.symm), mul_zero]
    refine ext0 (by rw [mmr_len, unitX_len]) fun c hc => ?_
    rw [mmr_len] at hc
    have := k2 (n + c)
    unfold comb at this
    have e : at0 (bes A (unitX n) r) (n + c) = at0 (unitX n r) c := by
      unfold bes; rw [at0_app2 (by rw [hl r]; omega), hl r, Nat.add_sub_cancel_left]
    rw [e] at this
    rw [this, at0_mmr hc]
    refine xs_congr fun i hi => ?_
    have e2 : at0 (bes (rdX A n n) (invX A n) i) (n + c) = at0 (invX A n i) c := by
      unfold bes; rw [at0_app2 (by rw [hXl i]; omega), hXl i, Nat.add_sub_cancel_left]
    rw [e2, hk i hi]
  · obtain ⟨k, k1, k2⟩ := s1 r hr
    have hk : ∀ c, c < n → at0 (invX A n r) c = k c := fun c hc => by
      have := k2 (n + c)
      unfold comb at this
      have e : at0 (bes (rdX A n n) (invX A n) r) (n + c) = at0 (invX A n r) c := by
        unfold bes; rw [at0_app2 (by rw [hXl r]; omega), hXl r, Nat.add_sub_cancel_left]
      rw [e] at this
      rw [this, xs_one hc]
      · have e2 : at0 (bes A (unitX n) c) (n + c) = at0 (unitX n c) c := by
          unfold bes; rw [at0_app2 (by rw [hl c]; omega), hl c, Nat.add_sub_cancel_left]
        rw [e2, at0_unit hc, if_pos rfl, mul_one (k1 c)]
      · intro i hi hne
        have e2 : at0 (bes A (unitX n) i) (n + c) = at0 (unitX n i) c := by
          unfold bes; rw [at0_app2 (by rw [hl i]; omega), hl i, Nat.add_sub_cancel_left]
        rw [e2, at0_unit hc, if_neg (fun e => hne e.symm), mul_zero]
    refine ext0 (by rw [mmr_len, unitX_len]) fun c hc => ?_
    rw [mmr_len] at hc
    have := k2 c
    unfold comb at this
    have e : at0 (bes (rdX A n n) (invX A n) r) c = at0 (rdX A n n r) c := at0_app (by rw [hXl r]; exact hc)
    rw [e, hX r hr] at this
    rw [this, at0_mmr hc]
    refine xs_congr fun i hi => ?_
    have e2 : at0 (bes A (unitX n) i) c = at0 (A i) c := at0_app (by rw [hl i]; exact hc)
    rw [e2, hk i hi]
/-- A row of a product is made of the second one's rows. -/
theorem mmr_made {A : List Nat} {B : Nat → List Nat} {cols n : Nat} (hA : ∀ c, at0 A c < 256) (hl : Long B cols) : InS B n (at0 (mmr A B cols n)) := by
  refine ⟨at0 A, hA, fun c => ?_⟩
  by_cases hc : c < cols
  · exact at0_mmr hc
  · rw [at0_out (by rw [mmr_len]; omega)]
    unfold comb
    exact (xs_none fun i _ => by rw [show at0 (B i) c = 0 from at0_out (by rw [hl i]; omega), mul_zero]).symm
/-- The inverse has one, and it is the matrix. -/
theorem inv_back {A : Nat → List Nat} {n : Nat} (hl : Long A n) (hb : Byt A) (h : rdN A n n = n) : rdN (invX A n) n n = n ∧ ∀ r, r < n → invX (invX A n) n r = A r := by
  have hYl := invX_long A n
  have hYb := invX_byt A n
  have hB := inv_both hl hb h
  have h1 : rdN (invX A n) n n = n := by
    refine Nat.le_antisymm (rdN_le _ _ _).1 (rank_full hYl hYb fun q hq => ?_)
    rw [← (hB q hq).1]
    exact mmr_made (hb q) hYl
  refine ⟨h1, fun r hr => ?_⟩
  have hZ := (inv_both hYl hYb h1 r hr).2
  have e1 : mmr (mmr (invX (invX A n) n r) (invX A n) n n) A n n = invX (invX A n) n r := by
    rw [mmr_assoc (invX_byt _ _ r) hYb hb]
    exact mmr_unit (invX_byt _ _ r) (invX_long _ _ r) fun i hi => (hB i hi).2
  rw [← e1, hZ]
  exact unit_mmr hr (hl r) hb
/-- Of a product the rank is not above those of its factors. -/
theorem rank_mul {A B : Nat → List Nat} {R n cols : Nat} (hA : Long A n) (hAb : Byt A) (hB : Long B cols) (hBb : Byt B) :
    rdN (fun r => mmr (A r) B cols n) R cols ≤ rdN A R n ∧ rdN (fun r => mmr (A r) B cols n) R cols ≤ rdN B n cols := by
  have pl : ∀ M : Nat → List Nat, Long (fun r => mmr (M r) B cols n) cols := fun M r => mmr_len _ _ _ _
  have pb : ∀ M : Nat → List Nat, Byt M → Byt (fun r => mmr (M r) B cols n) := fun M hM r c => mmr_byt (hM r) c
  constructor
  · have hX := hAb.rdX hA R n
    obtain ⟨p, hp⟩ := rd_steps (R := R) hA hAb n
    have hn := (rdN_le A R n).1
    refine Nat.le_trans (rank_mono (R' := rdN A R n) (pl A) (pb A hAb) (pl (rdX A R n)) (pb _ hX) fun r hr => ?_) (rdN_le _ _ _).1
    have hv := hp.made hn (hA.rdX R n) ((rd_sub hA hAb n).2 r hr)
    refine ⟨fun j => at0 (A r) (p j), fun j => hAb r _, fun c => ?_⟩
    unfold comb
    by_cases hc : c < cols
    · rw [at0_mmr hc]
      have e1 : xs (fun i => mul (at0 (A r) i) (at0 (B i) c)) n = xs (fun i => xs (fun j => mul (mul (at0 (A r) (p j)) (at0 (rdX A R n j) i)) (at0 (B i) c)) (rdN A R n)) n :=
        xs_congr fun i _ => by rw [hv i, xs_mul' (fun j => mul_lt (hAb r _))]
      rw [e1, xs_swap]
      refine xs_congr fun j _ => ?_
      rw [at0_mmr hc, xs_mul]
      exact xs_congr fun i _ => mul_assoc (hAb r _) (hX j i) (hBb i c)
    · rw [at0_out (by rw [mmr_len]; omega)]
      exact (xs_none fun i _ => by rw [at0_out (by rw [mmr_len]; omega), mul_zero]).symm
  · exact rank_mono (pl A) (pb A hAb) hB hBb fun r _ => mmr_made (hAb r) hB
/-- With a row that is the sum of two the rank stays. -/
theorem rank_more {A M : Nat → List Nat} {R W i j : Nat} (hl : Long A W) (hb : Byt A) (hM : Long M W) (hMb : Byt M) (hi : i < R) (hj : j < R) (h : ∀ r, r < R → M r = A r) (hs : ∀ c, at0 (M R) c = at0 (A i) c ^^^ at0 (A j) c) :
    rdN M (R + 1) W = rdN A R W := by
  refine Nat.le_antisymm (rank_mono hM hMb hl hb fun r hr => ?_) (rank_mono hl hb hM hMb fun r hr => ?_)
  · by_cases e : r < R
    · rw [h r e]; exact InS.row hb e
    · obtain rfl : r = R := by omega
      exact ((InS.row hb hi).add (InS.row hb hj)).congr hs
  · rw [← h r hr]; exact InS.row hMb (by omega)
end Go.Proofs.Ytokeoodkioobdaa.Gf

/- Rows that are alike as far as they count reduce alike; a column by a matrix and back. Plain: no program in sight. -/
namespace Go.Proofs.Ytokeoodkioobdaa.Gf

theorem fndGo_congr {M M' : Nat → List Nat} {R c : Nat} (h : ∀ i, i < R → M i = M' i) : ∀ d a, a + d ≤ R → fndGo M c d a = fndGo M' c d a
  | 0, _, _ => rfl
  | d + 1, a, ha => by
    unfold fndGo
    rw [h a (by omega), fndGo_congr h d (a + 1) (by omega)]
theorem fnd_congr {M M' : Nat → List Nat} {R c n : Nat} (h : ∀ i, i < R → M i = M' i) (hn : n ≤ R) : fnd M R c n = fnd M' R c n := fndGo_congr h _ _ (by omega)
theorem swp_congr {M M' : Nat → List Nat} {R n a : Nat} (h : ∀ i, i < R → M i = M' i) (hn : n < R) (ha : a < R) : ∀ i, i < R → swp M n a i = swp M' n a i := fun i hi => by
  unfold swp
  rw [h n hn, h a ha, h i hi]
theorem elimB_congr {M M' Y Y' : Nat → List Nat} {R n c : Nat} (h : ∀ i, i < R → M i = M' i) (hY : ∀ i, i < R → Y i = Y' i) (hn : n < R) : ∀ i, i < R → elimB M Y n c i = elimB M' Y' n c i := fun i hi => by
  unfold elimB
  rw [h n hn, hY n hn, h i hi, hY i hi]
theorem rd_congr {M M' : Nat → List Nat} {R : Nat} (h : ∀ i, i < R → M i = M' i) : ∀ c, rdN M R c = rdN M' R c ∧ ∀ i, i < R → rdX M R c i = rdX M' R c i
  | 0 => ⟨rfl, h⟩
  | c + 1 => by
    obtain ⟨h1, h2⟩ := rd_congr h c
    have hn := (rdN_le M R c).1
    have hf : fnd (rdX M R c) R c (rdN M R c) = fnd (rdX M' R c) R c (rdN M' R c) := by rw [← h1]; exact fnd_congr h2 hn
    by_cases hlt : fnd (rdX M R c) R c (rdN M R c) < R
    · have hlt' : fnd (rdX M' R c) R c (rdN M' R c) < R := by rw [← hf]; exact hlt
      obtain ⟨e1, e2⟩ := rd_some hlt
      obtain ⟨f1, f2⟩ := rd_some hlt'
      have hle := (fnd_le (M := rdX M R c) (c := c) hn).1
      refine ⟨by rw [e1, f1, h1], fun i hi => ?_⟩
      rw [e2, f2, ← hf, ← h1]
      exact elimB_congr (swp_congr h2 (by omega) hlt) (swp_congr h2 (by omega) hlt) (by omega) i hi
    · have hlt' : ¬ fnd (rdX M' R c) R c (rdN M' R c) < R := by rw [← hf]; exact hlt
      obtain ⟨e1, e2⟩ := rd_none hlt
      obtain ⟨f1, f2⟩ := rd_none hlt'
      exact ⟨by rw [e1, f1, h1], fun i hi => by rw [e2, f2]; exact h2 i hi⟩
theorem rdY_congr {M M' Y Y' : Nat → List Nat} {R : Nat} (h : ∀ i, i < R → M i = M' i) (hY : ∀ i, i < R → Y i = Y' i) : ∀ c i, i < R → rdY M Y R c i = rdY M' Y' R c i
  | 0, i, hi => hY i hi
  | c + 1, i, hi => by
    obtain ⟨h1, h2⟩ := rd_congr h c
    have h3 := rdY_congr h hY c
    have hn := (rdN_le M R c).1
    have hf : fnd (rdX M R c) R c (rdN M R c) = fnd (rdX M' R c) R c (rdN M' R c) := by rw [← h1]; exact fnd_congr h2 hn
    by_cases hlt : fnd (rdX M R c) R c (rdN M R c) < R
    · have hlt' : fnd (rdX M' R c) R c (rdN M' R c) < R := by rw [← hf]; exact hlt
      have hle := (fnd_le (M := rdX M R c) (c := c) hn).1
      rw [rdY_some hlt, rdY_some hlt', ← hf, ← h1]
      exact elimB_congr (swp_congr h2 (by omega) hlt) (swp_congr h3 (by omega) hlt) (by omega) i hi
    · have hlt' : ¬ fnd (rdX M' R c) R c (rdN M' R c) < R := by rw [← hf]; exact hlt
      rw [rdY_none hlt, rdY_none hlt']
      exact h3 i hi
theorem invX_congr {A A' : Nat → List Nat} {n : Nat} (h : ∀ i, i < n → A i = A' i) : ∀ i, i < n → invX A n i = invX A' n i := rdY_congr h (fun _ _ => rfl) n

/-- A column as rows of one place. -/
def col (v : List Nat) : Nat → List Nat := fun c => [at0 v c]
theorem col_long (v : List Nat) : Long (col v) 1 := fun _ => rfl
theorem at0_col (v : List Nat) (c : Nat) : at0 (col v c) 0 = at0 v c := rfl
theorem col_byt {v : List Nat} (h : ∀ c, at0 v c < 256) : Byt (col v) := fun r c => by
  unfold col
  by_cases e : c = 0
  · subst e; exact h r
  · rw [at0_out (by simp; omega)]; decide
theorem mmr_col (A : List Nat) (v : List Nat) (n : Nat) : at0 (mmr A (col v) 1 n) 0 = xs (fun i => mul (at0 A i) (at0 v i)) n := at0_mmr (by omega)
theorem mmr_col1 (A : List Nat) (v : List Nat) (n : Nat) : mmr A (col v) 1 n = [xs (fun i => mul (at0 A i) (at0 v i)) n] := by
  refine ext0 (by rw [mmr_len]; rfl) fun c hc => ?_
  rw [mmr_len] at hc
  obtain rfl : c = 0 := by omega
  rw [mmr_col]; rfl
/-- What a matrix makes of a column its inverse makes back. -/
theorem apply_back {A B : Nat → List Nat} {v : List Nat} {n r : Nat} (hA : Byt A) (hB : Byt B) (hv : ∀ c, at0 v c < 256) (hr : r < n) (h : mmr (B r) A n n = unitX n r) :
    xs (fun i => mul (at0 (B r) i) (xs (fun c => mul (at0 (A i) c) (at0 v c)) n)) n = at0 v r := by
  have h1 := mmr_assoc (A := B r) (B := A) (C := col v) (n := n) (m := n) (cols := 1) (hB r) hA (col_byt hv)
  rw [h, unit_mmr (cols := 1) hr rfl (col_byt hv)] at h1
  have h2 : at0 (col v r) 0 = at0 (mmr (B r) (fun i => mmr (A i) (col v) 1 n) 1 n) 0 := by rw [h1]
  rw [at0_col, at0_mmr (by omega)] at h2
  rw [h2]
  exact xs_congr fun i _ => by rw [mmr_col]
end Go.Proofs.Ytokeoodkioobdaa.Gf
