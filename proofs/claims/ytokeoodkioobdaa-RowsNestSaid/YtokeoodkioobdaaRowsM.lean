/- Plain: rows of bytes turned to steps (reduction), beside rows that follow; products. No program in sight. Conditions: bytes are below 256. -/
import Derived.Test.YtokeoodkioobdaaGf
namespace Go.Proofs.Ytokeoodkioobdaa.Gf

/-- What stands at a place of a row, 0 beyond. -/
def at0 (l : List Nat) (c : Nat) : Nat := l[c]?.getD 0
/-- A row by a byte; a row and another one by a byte. -/
def sc (b : Nat) (l : List Nat) : List Nat := l.map fun x => mul x b
def ad (b : Nat) (l o : List Nat) : List Nat := List.zipWith (fun x y => x ^^^ mul y b) l o
/-- Two rows change places. -/
def swp (M : Nat → List Nat) (n a : Nat) : Nat → List Nat := fun r => if r = a then M n else if r = n then M a else M r
def elimB (M Y : Nat → List Nat) (n c : Nat) : Nat → List Nat := fun r => if r = n then sc (inv (at0 (M n) c)) (Y n) else ad (at0 (M r) c) (Y r) (sc (inv (at0 (M n) c)) (Y n))
def elim (M : Nat → List Nat) (n c : Nat) : Nat → List Nat := elimB M M n c
def fndGo (M : Nat → List Nat) (c : Nat) : Nat → Nat → Nat
  | 0, a => a
  | d + 1, a => if at0 (M a) c ≠ 0 then a else fndGo M c d (a + 1)
/-- The first row, from one on, that has something in a column; else how many rows there are. -/
def fnd (M : Nat → List Nat) (R c n : Nat) : Nat := fndGo M c (R - n) n

theorem fndGo_le (M : Nat → List Nat) (c : Nat) : ∀ d a, a ≤ fndGo M c d a ∧ fndGo M c d a ≤ a + d
  | 0, a => ⟨Nat.le_refl _, by show a ≤ a + 0; omega⟩
  | d + 1, a => by
    unfold fndGo
    split
    · exact ⟨Nat.le_refl _, by omega⟩
    · have := fndGo_le M c d (a + 1); omega
theorem fndGo_zero (M : Nat → List Nat) (c : Nat) : ∀ d a i, a ≤ i → i < fndGo M c d a → at0 (M i) c = 0
  | 0, a, i, h1, h2 => by
    have e : fndGo M c 0 a = a := rfl
    omega
  | d + 1, a, i, h1, h2 => by
    unfold fndGo at h2
    by_cases h : at0 (M a) c ≠ 0
    · rw [if_pos h] at h2; omega
    · rw [if_neg h] at h2
      by_cases e : i = a
      · subst e; exact Classical.not_not.1 h
      · exact fndGo_zero M c d (a + 1) i (by omega) h2
theorem fndGo_ne (M : Nat → List Nat) (c : Nat) : ∀ d a, fndGo M c d a < a + d → at0 (M (fndGo M c d a)) c ≠ 0
  | 0, a, h => by
    have e : fndGo M c 0 a = a := rfl
    omega
  | d + 1, a, h => by
    unfold fndGo at h ⊢
    by_cases h1 : at0 (M a) c ≠ 0
    · rw [if_pos h1]; exact h1
    · rw [if_neg h1] at h ⊢
      exact fndGo_ne M c d (a + 1) (by omega)
theorem fnd_le {M : Nat → List Nat} {R c n : Nat} (h : n ≤ R) : n ≤ fnd M R c n ∧ fnd M R c n ≤ R := by
  have := fndGo_le M c (R - n) n
  unfold fnd; omega
theorem fnd_zero {M : Nat → List Nat} {R c n i : Nat} (h1 : n ≤ i) (h2 : i < fnd M R c n) : at0 (M i) c = 0 := fndGo_zero M c _ _ i h1 h2
theorem fnd_ne {M : Nat → List Nat} {R c n : Nat} (hn : n ≤ R) (h : fnd M R c n < R) : at0 (M (fnd M R c n)) c ≠ 0 := fndGo_ne M c _ _ (by unfold fnd at h; omega)
theorem fnd_at {M : Nat → List Nat} {R c n a : Nat} (h1 : n ≤ a) (h2 : a < R) (hz : ∀ i, n ≤ i → i < a → at0 (M i) c = 0) (hne : at0 (M a) c ≠ 0) : fnd M R c n = a := by
  have h3 := fnd_le (M := M) (c := c) (show n ≤ R by omega)
  rcases Nat.lt_trichotomy (fnd M R c n) a with h | h | h
  · exact absurd (hz _ h3.1 h) (fnd_ne (by omega) (by omega))
  · exact h
  · exact absurd (fnd_zero h1 h) hne
theorem fnd_none {M : Nat → List Nat} {R c n : Nat} (h : n ≤ R) (hz : ∀ i, n ≤ i → i < R → at0 (M i) c = 0) : fnd M R c n = R := by
  have h3 := fnd_le (M := M) (c := c) h
  rcases Nat.lt_or_ge (fnd M R c n) R with h4 | h4
  · exact absurd (hz _ h3.1 h4) (fnd_ne h h4)
  · omega

/-- Rows turned to steps in their first columns: how many steps; the rows; those that follow. -/
def redN (M : Nat → List Nat) (R : Nat) : Nat → (Nat → List Nat) × Nat
  | 0 => (M, 0)
  | c + 1 => if fnd (redN M R c).1 R c (redN M R c).2 < R then (elim (swp (redN M R c).1 (redN M R c).2 (fnd (redN M R c).1 R c (redN M R c).2)) (redN M R c).2 c, (redN M R c).2 + 1) else redN M R c
def rdN (M : Nat → List Nat) (R c : Nat) : Nat := (redN M R c).2
def rdX (M : Nat → List Nat) (R c : Nat) : Nat → List Nat := (redN M R c).1
def rdY (M Y : Nat → List Nat) (R : Nat) : Nat → Nat → List Nat
  | 0 => Y
  | c + 1 => if fnd (rdX M R c) R c (rdN M R c) < R then elimB (swp (rdX M R c) (rdN M R c) (fnd (rdX M R c) R c (rdN M R c))) (swp (rdY M Y R c) (rdN M R c) (fnd (rdX M R c) R c (rdN M R c))) (rdN M R c) c else rdY M Y R c
theorem rd_zero (M : Nat → List Nat) (R : Nat) : rdN M R 0 = 0 ∧ rdX M R 0 = M := ⟨rfl, rfl⟩
theorem rd_none {M : Nat → List Nat} {R c : Nat} (h : ¬ fnd (rdX M R c) R c (rdN M R c) < R) : rdN M R (c + 1) = rdN M R c ∧ rdX M R (c + 1) = rdX M R c := by
  have e : redN M R (c + 1) = redN M R c := if_neg h
  exact ⟨by unfold rdN; rw [e], by unfold rdX; rw [e]⟩
theorem rd_some {M : Nat → List Nat} {R c : Nat} (h : fnd (rdX M R c) R c (rdN M R c) < R) : rdN M R (c + 1) = rdN M R c + 1 ∧ rdX M R (c + 1) = elim (swp (rdX M R c) (rdN M R c) (fnd (rdX M R c) R c (rdN M R c))) (rdN M R c) c := by
  have e : redN M R (c + 1) = _ := if_pos h
  exact ⟨by show (redN M R (c + 1)).2 = _; rw [e]; rfl, by show (redN M R (c + 1)).1 = _; rw [e]; rfl⟩
theorem rdY_none {M Y : Nat → List Nat} {R c : Nat} (h : ¬ fnd (rdX M R c) R c (rdN M R c) < R) : rdY M Y R (c + 1) = rdY M Y R c := if_neg h
theorem rdY_some {M Y : Nat → List Nat} {R c : Nat} (h : fnd (rdX M R c) R c (rdN M R c) < R) : rdY M Y R (c + 1) = elimB (swp (rdX M R c) (rdN M R c) (fnd (rdX M R c) R c (rdN M R c))) (swp (rdY M Y R c) (rdN M R c) (fnd (rdX M R c) R c (rdN M R c))) (rdN M R c) c := if_pos h
theorem rdN_le (M : Nat → List Nat) (R : Nat) : ∀ c, rdN M R c ≤ R ∧ rdN M R c ≤ c
  | 0 => ⟨Nat.zero_le _, Nat.zero_le _⟩
  | c + 1 => by
    have h := rdN_le M R c
    by_cases h1 : fnd (rdX M R c) R c (rdN M R c) < R
    · rw [(rd_some h1).1]
      have := fnd_le (M := rdX M R c) (c := c) h.1
      omega
    · rw [(rd_none h1).1]; omega
theorem rdX_eqY (M : Nat → List Nat) (R : Nat) : ∀ c, rdX M R c = rdY M M R c
  | 0 => rfl
  | c + 1 => by
    by_cases h1 : fnd (rdX M R c) R c (rdN M R c) < R
    · rw [(rd_some h1).2, rdY_some h1, ← rdX_eqY M R c]; rfl
    · rw [(rd_none h1).2, rdY_none h1, rdX_eqY M R c]

theorem sc_len (b : Nat) (l : List Nat) : (sc b l).length = l.length := by simp [sc]
theorem ad_len {b : Nat} {l o : List Nat} (h : l.length = o.length) : (ad b l o).length = l.length := by simp [ad, h]
theorem sc_app (b : Nat) (l o : List Nat) : sc b (l ++ o) = sc b l ++ sc b o := by simp [sc]
theorem ad_app {b : Nat} {l o l' o' : List Nat} (h : l.length = o.length) : ad b (l ++ l') (o ++ o') = ad b l o ++ ad b l' o' := by
  unfold ad; rw [List.zipWith_append h]
theorem ad_zero {l o : List Nat} (h : l.length = o.length) : ad 0 l o = l := by
  apply List.ext_getElem (by simp [ad, h])
  intro i h1 h2
  simp [ad, mul_zero]
theorem at0_app {l o : List Nat} {c : Nat} (h : c < l.length) : at0 (l ++ o) c = at0 l c := by unfold at0; rw [List.getElem?_append_left h]
theorem at0_app2 {l o : List Nat} {c : Nat} (h : l.length ≤ c) : at0 (l ++ o) c = at0 o (c - l.length) := by unfold at0; rw [List.getElem?_append_right h]
theorem at0_lt {l : List Nat} (h : ∀ (i x : Nat), l[i]? = some x → x < 256) (c : Nat) : at0 l c < 256 := by
  unfold at0
  cases e : l[c]? with
  | none => show 0 < 256; decide
  | some x => exact h c x e
theorem at0_of {l : List Nat} {c x : Nat} (h : l[c]? = some x) : at0 l c = x := by unfold at0; rw [h]; rfl
theorem at0_get {l : List Nat} {c : Nat} (h : c < l.length) : l[c]? = some (at0 l c) := by unfold at0; rw [List.getElem?_eq_getElem h]; rfl
theorem at0_out {l : List Nat} {c : Nat} (h : l.length ≤ c) : at0 l c = 0 := by unfold at0; rw [List.getElem?_eq_none h]; rfl
theorem at0_sc {b : Nat} (l : List Nat) (c : Nat) : at0 (sc b l) c = mul (at0 l c) b := by
  unfold at0 sc
  rw [List.getElem?_map]
  cases l[c]? with
  | none => exact (zero_mul b).symm
  | some x => rfl
theorem at0_ad {b : Nat} {l o : List Nat} (h : l.length = o.length) (c : Nat) : at0 (ad b l o) c = at0 l c ^^^ mul (at0 o c) b := by
  unfold at0 ad
  rw [List.getElem?_zipWith]
  by_cases hc : c < l.length
  · rw [List.getElem?_eq_getElem hc, List.getElem?_eq_getElem (show c < o.length by omega)]; rfl
  · rw [List.getElem?_eq_none (show l.length ≤ c by omega), List.getElem?_eq_none (show o.length ≤ c by omega)]
    show 0 = 0 ^^^ mul 0 b
    rw [zero_mul]; rfl

/-- All rows are so long. -/
def Long (M : Nat → List Nat) (W : Nat) : Prop := ∀ r, (M r).length = W
theorem Long.swp {M : Nat → List Nat} {W : Nat} (h : Long M W) (n a : Nat) : Long (swp M n a) W := fun r => by
  unfold Gf.swp; split
  · exact h n
  · split
    · exact h a
    · exact h r
theorem Long.elimB {M Y : Nat → List Nat} {W : Nat} (h : Long Y W) (n c : Nat) : Long (elimB M Y n c) W := fun r => by
  unfold Gf.elimB; split
  · rw [sc_len]; exact h n
  · rw [ad_len]
    · exact h r
    · rw [sc_len, h r, h n]
theorem Long.rdY {M Y : Nat → List Nat} {W : Nat} (h : Long Y W) (R : Nat) : ∀ c, Long (rdY M Y R c) W
  | 0 => h
  | c + 1 => by
    by_cases h1 : fnd (rdX M R c) R c (rdN M R c) < R
    · rw [rdY_some h1]; exact ((h.rdY R c).swp _ _).elimB _ _
    · rw [rdY_none h1]; exact h.rdY R c
theorem Long.rdX {M : Nat → List Nat} {W : Nat} (h : Long M W) (R c : Nat) : Long (rdX M R c) W := by rw [rdX_eqY]; exact h.rdY R c

/-- All are bytes. -/
def Byt (M : Nat → List Nat) : Prop := ∀ r c, at0 (M r) c < 256
theorem Byt.swp {M : Nat → List Nat} (h : Byt M) (n a : Nat) : Byt (swp M n a) := fun r => by
  unfold Gf.swp; split
  · exact h n
  · split
    · exact h a
    · exact h r
theorem Byt.elimB {M Y : Nat → List Nat} {W : Nat} (hl : Long Y W) (h : Byt Y) (n c : Nat) : Byt (elimB M Y n c) := fun r i => by
  unfold Gf.elimB; split
  · rw [at0_sc]; exact mul_lt (h n i)
  · rw [at0_ad (by rw [sc_len, hl r, hl n]), at0_sc]
    exact xor_lt (h r i) (mul_lt (mul_lt (h n i)))
theorem Byt.rdY {M Y : Nat → List Nat} {W : Nat} (hl : Long Y W) (h : Byt Y) (R : Nat) : ∀ c, Byt (rdY M Y R c)
  | 0 => h
  | c + 1 => by
    by_cases h1 : fnd (rdX M R c) R c (rdN M R c) < R
    · rw [rdY_some h1]; exact ((h.rdY hl R c).swp _ _).elimB ((hl.rdY R c).swp _ _) _ _
    · rw [rdY_none h1]; exact h.rdY hl R c
theorem Byt.rdX {M : Nat → List Nat} {W : Nat} (hl : Long M W) (h : Byt M) (R c : Nat) : Byt (rdX M R c) := by rw [rdX_eqY]; exact h.rdY hl R c

/-- Rows beside rows: the reduction of both is that of the first ones, and of those that follow. -/
def bes (A B : Nat → List Nat) : Nat → List Nat := fun r => A r ++ B r
theorem bes_swp (A B : Nat → List Nat) (n a : Nat) : swp (bes A B) n a = bes (swp A n a) (swp B n a) := by
  funext r
  unfold swp bes
  by_cases h : r = a
  · simp only [if_pos h]
  · simp only [if_neg h]
    by_cases h2 : r = n
    · simp only [if_pos h2]
    · simp only [if_neg h2]
theorem bes_elim {A B : Nat → List Nat} {W n c : Nat} (hA : Long A W) (hc : c < W) : elim (bes A B) n c = bes (elim A n c) (elimB A B n c) := by
  funext r
  have e : ∀ r, at0 (bes A B r) c = at0 (A r) c := fun r => at0_app (by rw [hA r]; exact hc)
  show elimB (bes A B) (bes A B) n c r = elimB A A n c r ++ elimB A B n c r
  unfold elimB
  rw [e r, e n]
  by_cases h : r = n
  · rw [if_pos h, if_pos h, if_pos h]; exact sc_app _ _ _
  · rw [if_neg h, if_neg h, if_neg h]
    show ad _ (A r ++ B r) (sc _ (A n ++ B n)) = _
    rw [sc_app, ad_app (by rw [sc_len, hA r, hA n])]
theorem fndGo_bes {A B : Nat → List Nat} {W c : Nat} (hA : Long A W) (hc : c < W) : ∀ d a, fndGo (bes A B) c d a = fndGo A c d a
  | 0, _ => rfl
  | d + 1, a => by
    have e : at0 (bes A B a) c = at0 (A a) c := at0_app (by rw [hA a]; exact hc)
    unfold fndGo
    rw [e, fndGo_bes hA hc d (a + 1)]
theorem rd_bes {A B : Nat → List Nat} {W R : Nat} (hA : Long A W) : ∀ c, c ≤ W → rdN (bes A B) R c = rdN A R c ∧ rdX (bes A B) R c = bes (rdX A R c) (rdY A B R c)
  | 0, _ => ⟨rfl, rfl⟩
  | c + 1, hc => by
    obtain ⟨h1, h2⟩ := rd_bes (B := B) (R := R) hA c (by omega)
    have e : fnd (rdX (bes A B) R c) R c (rdN (bes A B) R c) = fnd (rdX A R c) R c (rdN A R c) := by
      rw [h1, h2]; exact fndGo_bes (hA.rdX R c) (by omega) _ _
    by_cases h3 : fnd (rdX A R c) R c (rdN A R c) < R
    · obtain ⟨g1, g2⟩ := rd_some (by rw [e]; exact h3)
      rw [g1, g2, e, h1, h2, (rd_some h3).1, (rd_some h3).2, rdY_some h3, bes_swp, bes_elim ((hA.rdX R c).swp _ _) (by omega)]
      exact ⟨rfl, rfl⟩
    · obtain ⟨g1, g2⟩ := rd_none (by rw [e]; exact h3)
      rw [g1, g2, h1, h2, (rd_none h3).1, (rd_none h3).2, rdY_none h3]
      exact ⟨rfl, rfl⟩

/-- Sums of some. -/
def xs (f : Nat → Nat) : Nat → Nat
  | 0 => 0
  | k + 1 => xs f k ^^^ f k
theorem xs_lt {f : Nat → Nat} (h : ∀ i, f i < 256) : ∀ k, xs f k < 256
  | 0 => by show 0 < 256; decide
  | k + 1 => xor_lt (xs_lt h k) (h k)
theorem xs_congr {f g : Nat → Nat} : ∀ {k : Nat}, (∀ i, i < k → f i = g i) → xs f k = xs g k
  | 0, _ => rfl
  | k + 1, h => by show xs f k ^^^ f k = xs g k ^^^ g k; rw [xs_congr (fun i hi => h i (by omega)), h k (by omega)]
/-- A row of a product, so many rows of the second one long. -/
def mmr (A : List Nat) (B : Nat → List Nat) (cols n : Nat) : List Nat := (List.range cols).map fun c => xs (fun i => mul (at0 A i) (at0 (B i) c)) n
theorem mmr_len (A : List Nat) (B : Nat → List Nat) (cols n : Nat) : (mmr A B cols n).length = cols := by simp [mmr]
theorem mmr_zero (A : List Nat) (B : Nat → List Nat) (cols : Nat) : mmr A B cols 0 = List.replicate cols 0 := by
  apply List.ext_getElem (by simp [mmr])
  intro i h1 h2
  simp [mmr, xs]
theorem at0_mmr {A : List Nat} {B : Nat → List Nat} {cols n c : Nat} (h : c < cols) : at0 (mmr A B cols n) c = xs (fun i => mul (at0 A i) (at0 (B i) c)) n := by
  unfold at0 mmr
  rw [List.getElem?_map, List.getElem?_range h]; rfl
theorem ext0 {l o : List Nat} (hl : l.length = o.length) (h : ∀ c, c < l.length → at0 l c = at0 o c) : l = o := by
  apply List.ext_getElem hl
  intro i h1 h2
  have := h i h1
  unfold at0 at this
  rw [List.getElem?_eq_getElem h1, List.getElem?_eq_getElem h2] at this
  exact this
theorem mmr_step {A : List Nat} {B : Nat → List Nat} {cols n : Nat} (hl : (B n).length = cols) (ha : at0 A n < 256) (hb : ∀ c, at0 (B n) c < 256) : mmr A B cols (n + 1) = ad (at0 A n) (mmr A B cols n) (B n) := by
  have e : (mmr A B cols n).length = (B n).length := by rw [mmr_len, hl]
  refine ext0 (by rw [mmr_len, ad_len e, mmr_len]) fun c hc => ?_
  rw [mmr_len] at hc
  rw [at0_mmr hc, at0_ad e, at0_mmr hc, mul_comm (hb c) ha]
  rfl
/-- A row of the unit. -/
def unitX (n : Nat) (r : Nat) : List Nat := (List.replicate n 0).set r 1
theorem unitX_len (n r : Nat) : (unitX n r).length = n := by simp [unitX]
theorem at0_unit {n r c : Nat} (hc : c < n) : at0 (unitX n r) c = if c = r then 1 else 0 := by
  unfold at0 unitX
  rw [List.getElem?_set]
  by_cases h : r = c
  · subst h; simp [hc]
  · rw [if_neg h, if_neg (fun e => h e.symm), List.getElem?_replicate]; simp [hc]
theorem unitX_byt (n : Nat) : Byt (unitX n) := fun r c => by
  by_cases hc : c < n
  · rw [at0_unit hc]; split <;> decide
  · rw [at0_out (by rw [unitX_len]; omega)]; decide
end Go.Proofs.Ytokeoodkioobdaa.Gf
