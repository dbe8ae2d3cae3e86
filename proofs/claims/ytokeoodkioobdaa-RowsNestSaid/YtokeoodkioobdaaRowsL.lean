/- Plain: spans of rows; what a reduction to steps leaves; ranks; inverses. No program in sight. Conditions: bytes are below 256, rows are alike long. -/
import Derived.Test.YtokeoodkioobdaaRowsM
namespace Go.Proofs.Ytokeoodkioobdaa.Gf

theorem xs_xor (f g : Nat → Nat) : ∀ k, xs (fun i => f i ^^^ g i) k = xs f k ^^^ xs g k
  | 0 => (Nat.xor_self 0).symm
  | k + 1 => by show xs _ k ^^^ (f k ^^^ g k) = (xs f k ^^^ f k) ^^^ (xs g k ^^^ g k); rw [xs_xor f g k, xor4]
theorem xs_zero : ∀ k, xs (fun _ => 0) k = 0
  | 0 => rfl
  | k + 1 => by show xs (fun _ => 0) k ^^^ 0 = 0; rw [xs_zero k]; rfl
theorem xs_none {f : Nat → Nat} {k : Nat} (h : ∀ i, i < k → f i = 0) : xs f k = 0 := (xs_congr h).trans (xs_zero k)
theorem xs_mul {b : Nat} (f : Nat → Nat) : ∀ k, mul b (xs f k) = xs (fun i => mul b (f i)) k
  | 0 => mul_zero b
  | k + 1 => by show mul b (xs f k ^^^ f k) = xs _ k ^^^ mul b (f k); rw [mul_xor_right, xs_mul f k]
theorem xs_mul' {b : Nat} {f : Nat → Nat} (hf : ∀ i, f i < 256) : ∀ k, mul (xs f k) b = xs (fun i => mul (f i) b) k
  | 0 => zero_mul b
  | k + 1 => by show mul (xs f k ^^^ f k) b = xs _ k ^^^ mul (f k) b; rw [mul_xor_left (xs_lt hf k) (hf k), xs_mul' hf k]
theorem xs_swap (f : Nat → Nat → Nat) (n : Nat) : ∀ k, xs (fun i => xs (f i) n) k = xs (fun j => xs (fun i => f i j) k) n
  | 0 => (xs_zero n).symm
  | k + 1 => by
    show xs (fun i => xs (f i) n) k ^^^ xs (f k) n = xs (fun j => xs (fun i => f i j) k ^^^ f k j) n
    rw [xs_swap f n k, xs_xor]
/-- A sum in which just one counts. -/
theorem xs_one {f : Nat → Nat} {j : Nat} : ∀ {k : Nat}, j < k → (∀ i, i < k → i ≠ j → f i = 0) → xs f k = f j
  | 0, h, _ => absurd h (by omega)
  | k + 1, h, hz => by
    show xs f k ^^^ f k = f j
    by_cases e : j = k
    · subst e; rw [xs_none (fun i hi => hz i (by omega) (by omega))]; exact Nat.zero_xor _
    · rw [xs_one (show j < k by omega) (fun i hi => hz i (by omega)), hz k (by omega) (fun e' => e e'.symm)]; exact Nat.xor_zero _
theorem xor_undo (a b : Nat) : (a ^^^ b) ^^^ b = a := by rw [Nat.xor_assoc, Nat.xor_self, Nat.xor_zero]

/-- A sum of rows, each by a byte. -/
def comb (k : Nat → Nat) (M : Nat → List Nat) (R c : Nat) : Nat := xs (fun j => mul (k j) (at0 (M j) c)) R
/-- What such sums make. -/
def InS (M : Nat → List Nat) (R : Nat) (v : Nat → Nat) : Prop := ∃ k : Nat → Nat, (∀ j, k j < 256) ∧ ∀ c, v c = comb k M R c
theorem InS.congr {M : Nat → List Nat} {R : Nat} {v u : Nat → Nat} (h : InS M R v) (e : ∀ c, u c = v c) : InS M R u := by
  obtain ⟨k, h1, h2⟩ := h
  exact ⟨k, h1, fun c => (e c).trans (h2 c)⟩
theorem InS.row {M : Nat → List Nat} {R r : Nat} (hb : Byt M) (h : r < R) : InS M R (at0 (M r)) := by
  refine ⟨fun j => if j = r then 1 else 0, fun j => by show (if j = r then 1 else 0) < 256; split <;> decide, fun c => ?_⟩
  unfold comb
  rw [xs_one h]
  · show _ = mul (if r = r then 1 else 0) _
    rw [if_pos rfl, one_mul (hb r c)]
  · intro i _ hi
    show mul (if i = r then 1 else 0) _ = 0
    rw [if_neg hi, zero_mul]
theorem InS.add {M : Nat → List Nat} {R : Nat} {v u : Nat → Nat} (h : InS M R v) (g : InS M R u) : InS M R (fun c => v c ^^^ u c) := by
  obtain ⟨k, h1, h2⟩ := h
  obtain ⟨l, g1, g2⟩ := g
  refine ⟨fun j => k j ^^^ l j, fun j => xor_lt (h1 j) (g1 j), fun c => ?_⟩
  show v c ^^^ u c = _
  rw [h2, g2]
  unfold comb
  rw [← xs_xor]
  exact xs_congr fun i _ => (mul_xor_left (h1 i) (g1 i) _).symm
theorem InS.by_ {M : Nat → List Nat} {R b : Nat} {v : Nat → Nat} (hM : Byt M) (h : InS M R v) (hb : b < 256) : InS M R (fun c => mul b (v c)) := by
  obtain ⟨k, h1, h2⟩ := h
  refine ⟨fun j => mul b (k j), fun j => mul_lt hb, fun c => ?_⟩
  show mul b (v c) = _
  rw [h2]
  unfold comb
  rw [xs_mul]
  exact xs_congr fun i _ => (mul_assoc hb (h1 i) (hM i c)).symm
theorem InS.zero (M : Nat → List Nat) (R : Nat) : InS M R (fun _ => 0) := ⟨fun _ => 0, fun _ => by show 0 < 256; decide, fun c => by
  unfold comb; exact (xs_none fun i _ => zero_mul _).symm⟩
theorem InS.sum {M : Nat → List Nat} {R : Nat} {f : Nat → Nat → Nat} : ∀ {k : Nat}, (∀ i, i < k → InS M R (f i)) → InS M R (fun c => xs (fun i => f i c) k)
  | 0, _ => InS.zero M R
  | k + 1, h => (InS.sum (k := k) fun i hi => h i (by omega)).add (h k (by omega))
/-- Each of these rows is made of those. -/
def Sub (M : Nat → List Nat) (R : Nat) (M' : Nat → List Nat) (R' : Nat) : Prop := ∀ r, r < R → InS M' R' (at0 (M r))
theorem Sub.of {M M' : Nat → List Nat} {R R' : Nat} {v : Nat → Nat} (hb : Byt M') (hs : Sub M R M' R') (h : InS M R v) : InS M' R' v := by
  obtain ⟨k, h1, h2⟩ := h
  exact (InS.sum (k := R) (f := fun j c => mul (k j) (at0 (M j) c)) fun j hj => (hs j hj).by_ hb (h1 j)).congr h2
theorem Sub.trans {M M' M'' : Nat → List Nat} {R R' R'' : Nat} (hb : Byt M'') (h : Sub M R M' R') (g : Sub M' R' M'' R'') : Sub M R M'' R'' := fun r hr => g.of hb (h r hr)
theorem Sub.refl {M : Nat → List Nat} (hb : Byt M) (R : Nat) : Sub M R M R := fun _ hr => InS.row hb hr

theorem sub_swp {M : Nat → List Nat} {R n a : Nat} (hb : Byt M) (hn : n < R) (ha : a < R) : Sub (swp M n a) R M R := fun r hr => by
  unfold swp; split
  · exact InS.row hb hn
  · split
    · exact InS.row hb ha
    · exact InS.row hb hr
theorem swp_swp (M : Nat → List Nat) (n a : Nat) : swp (swp M n a) n a = M := by
  funext r
  by_cases h : r = a
  · subst h
    by_cases h2 : n = r
    · subst h2; simp [swp]
    · simp [swp, h2]
  · by_cases h2 : r = n
    · subst h2; simp [swp, h]
    · simp [swp, h, h2]
theorem swp_sub {M : Nat → List Nat} {R n a : Nat} (hb : Byt M) (hn : n < R) (ha : a < R) : Sub M R (swp M n a) R := by
  have h := sub_swp (hb.swp n a) hn ha
  rwa [swp_swp] at h
theorem sub_elim {M : Nat → List Nat} {W R n c : Nat} (hl : Long M W) (hb : Byt M) (hn : n < R) : Sub (elim M n c) R M R := fun r hr => by
  have e : ∀ i, at0 (sc (inv (at0 (M n) c)) (M n)) i = mul (inv (at0 (M n) c)) (at0 (M n) i) := fun i => by rw [at0_sc, mul_comm (hb n i) inv_lt]
  have h1 : InS M R (at0 (sc (inv (at0 (M n) c)) (M n))) := ((InS.row hb hn).by_ hb inv_lt).congr e
  unfold elim elimB; split
  · exact h1
  · refine ((InS.row hb hr).add (h1.by_ hb (hb r c))).congr fun i => ?_
    rw [at0_ad (by rw [sc_len, hl r, hl n]), mul_comm (by rw [e]; exact mul_lt inv_lt) (hb r c)]
theorem elim_byt {M : Nat → List Nat} {W n c : Nat} (hl : Long M W) (hb : Byt M) : Byt (elim M n c) := hb.elimB hl n c
theorem elim_sub {M : Nat → List Nat} {W R n c : Nat} (hl : Long M W) (hb : Byt M) (hn : n < R) (h0 : at0 (M n) c ≠ 0) : Sub M R (elim M n c) R := fun r hr => by
  have hB : Byt (elim M n c) := elim_byt hl hb
  have en : elim M n c n = sc (inv (at0 (M n) c)) (M n) := if_pos rfl
  by_cases h : r = n
  · subst h
    refine ((InS.row hB hr).by_ hB (hb r c)).congr fun i => ?_
    show at0 (M r) i = mul _ (at0 (elim M r c r) i)
    rw [en, at0_sc, mul_comm (hb r i) inv_lt, ← mul_assoc (hb r c) inv_lt (hb r i), mul_inv (hb r c) h0, one_mul (hb r i)]
  · have er : elim M n c r = ad (at0 (M r) c) (M r) (elim M n c n) := by rw [en]; exact if_neg h
    refine ((InS.row hB hr).add ((InS.row hB hn).by_ hB (hb r c))).congr fun i => ?_
    show at0 (M r) i = at0 (elim M n c r) i ^^^ mul _ (at0 (elim M n c n) i)
    rw [er, at0_ad (by rw [en, sc_len, hl r, hl n]), mul_comm (hB n i) (hb r c), xor_undo]
/-- The reduction keeps what the rows make. -/
theorem rd_sub {M : Nat → List Nat} {W R : Nat} (hl : Long M W) (hb : Byt M) : ∀ c, Sub (rdX M R c) R M R ∧ Sub M R (rdX M R c) R
  | 0 => ⟨Sub.refl hb R, Sub.refl hb R⟩
  | c + 1 => by
    obtain ⟨h1, h2⟩ := rd_sub (R := R) hl hb c
    by_cases h : fnd (rdX M R c) R c (rdN M R c) < R
    · have hX := hb.rdX hl R c
      have hL := hl.rdX R c
      have hn := (rdN_le M R c).1
      have hf := fnd_le (M := rdX M R c) (c := c) hn
      have hne := fnd_ne hn h
      rw [(rd_some h).2]
      generalize fnd (rdX M R c) R c (rdN M R c) = a at *
      have hS := hX.swp (rdN M R c) a
      have hSL := hL.swp (rdN M R c) a
      have h0 : at0 (swp (rdX M R c) (rdN M R c) a (rdN M R c)) c ≠ 0 := by
        by_cases e : rdN M R c = a
        · unfold swp; rw [if_pos e, e]; exact hne
        · unfold swp; rw [if_neg e, if_pos rfl]; exact hne
      exact ⟨((sub_elim hSL hS (by omega)).trans hX (sub_swp hX (by omega) (by omega))).trans hb h1,
        (h2.trans hS (swp_sub hX (by omega) (by omega))).trans (elim_byt hSL hS) (elim_sub hSL hS (by omega) h0)⟩
    · rw [(rd_none h).2]; exact ⟨h1, h2⟩

/-- Rows that are steps, in their first columns. -/
structure Steps (X : Nat → List Nat) (R n c : Nat) (p : Nat → Nat) : Prop where
  inc : ∀ i j, i < j → j < n → p i < p j
  lt : ∀ j, j < n → p j < c
  one : ∀ j, j < n → ∀ r, r < R → at0 (X r) (p j) = if r = j then 1 else 0
  low : ∀ r, n ≤ r → r < R → ∀ i, i < c → at0 (X r) i = 0
  lead : ∀ j, j < n → ∀ i, i < p j → at0 (X j) i = 0
theorem rd_steps {M : Nat → List Nat} {W R : Nat} (hl : Long M W) (hb : Byt M) : ∀ c, ∃ p, Steps (rdX M R c) R (rdN M R c) c p
  | 0 => ⟨fun _ => 0, ⟨fun i j _ h => absurd h (Nat.not_lt_zero _), fun j h => absurd h (Nat.not_lt_zero _), fun j h => absurd h (Nat.not_lt_zero _), fun r _ _ i hi => absurd hi (Nat.not_lt_zero _), fun j h => absurd h (Nat.not_lt_zero _)⟩⟩
  | c + 1 => by
    obtain ⟨p, hp⟩ := rd_steps (R := R) hl hb c
    have hX := hb.rdX hl R c
    have hL := hl.rdX R c
    have hn := (rdN_le M R c).1
    by_cases h : fnd (rdX M R c) R c (rdN M R c) < R
    · have hf := fnd_le (M := rdX M R c) (c := c) hn
      have hne := fnd_ne hn h
      rw [(rd_some h).1, (rd_some h).2]
      generalize fnd (rdX M R c) R c (rdN M R c) = a at *
      generalize rdN M R c = n at *
      generalize rdX M R c = X at *
      have hS := hX.swp n a
      have hSL := hL.swp n a
      have hnn : swp X n a n = X a := by
        unfold swp
        by_cases e : n = a
        · rw [if_pos e, e]
        · rw [if_neg e, if_pos rfl]
      have s0 : at0 (swp X n a n) c ≠ 0 := by rw [hnn]; exact hne
      have slow : ∀ r, n ≤ r → r < R → ∀ i, i < c → at0 (swp X n a r) i = 0 := by
        intro r h1 h2 i hi
        unfold swp; split
        · exact hp.low _ (Nat.le_refl _) (by omega) i hi
        · split
          · exact hp.low _ (by omega) (by omega) i hi
          · exact hp.low _ h1 h2 i hi
      have sup : ∀ r, r < n → swp X n a r = X r := by
        intro r hr
        unfold swp; rw [if_neg (by omega), if_neg (by omega)]
      generalize hZ : swp X n a = Z at *
      have en : elim Z n c n = sc (inv (at0 (Z n) c)) (Z n) := if_pos rfl
      have er : ∀ r, r ≠ n → elim Z n c r = ad (at0 (Z r) c) (Z r) (sc (inv (at0 (Z n) c)) (Z n)) := fun r hr => if_neg hr
      have e1 : at0 (elim Z n c n) c = 1 := by rw [en, at0_sc, mul_inv (hS n c) s0]
      have e0 : ∀ i, i < c → at0 (elim Z n c n) i = 0 := fun i hi => by rw [en, at0_sc, slow n (Nat.le_refl _) (by omega) i hi, zero_mul]
      have eo : ∀ r, r ≠ n → ∀ i, at0 (elim Z n c r) i = at0 (Z r) i ^^^ mul (at0 (elim Z n c n) i) (at0 (Z r) c) := fun r hr i => by
        rw [er r hr, at0_ad (by rw [sc_len, hSL r, hSL n]), en]
      have eq : ∀ r, r ≠ n → ∀ i, i < c → at0 (elim Z n c r) i = at0 (Z r) i := fun r hr i hi => by rw [eo r hr, e0 i hi, zero_mul, Nat.xor_zero]
      refine ⟨fun j => if j = n then c else p j, ⟨?_, ?_, ?_, ?_, ?_⟩⟩
      · intro i j h1 h2
        show (if i = n then c else p i) < (if j = n then c else p j)
        rw [if_neg (show i ≠ n by omega)]
        split
        · exact hp.lt i (by omega)
        · exact hp.inc i j h1 (by omega)
      · intro j h1
        show (if j = n then c else p j) < c + 1
        split
        · omega
        · have := hp.lt j (by omega); omega
      · intro j h1 r h2
        show at0 (elim Z n c r) (if j = n then c else p j) = _
        by_cases ej : j = n
        · subst ej
          rw [if_pos rfl]
          by_cases e : r = j
          · subst e; rw [if_pos rfl, e1]
          · rw [if_neg e, eo r e, e1, one_mul (hS r c), Nat.xor_self]
        · rw [if_neg ej]
          have hj := hp.lt j (by omega)
          by_cases e : r = n
          · subst e; rw [e0 _ hj, if_neg (fun e' => ej e'.symm)]
          · rw [eq r e _ hj]
            by_cases h3 : r < n
            · rw [sup r h3]; exact hp.one j (by omega) r h2
            · rw [slow r (by omega) h2 _ hj, if_neg (by omega)]
      · intro r h1 h2 i hi
        by_cases e : i = c
        · subst e
          rw [eo r (by omega), e1, one_mul (hS r i), Nat.xor_self]
        · rw [eq r (by omega) i (by omega)]
          exact slow r (by omega) h2 i (by omega)
      · intro j h1 i hi
        have hi : i < (if j = n then c else p j) := hi
        by_cases e : j = n
        · subst e; rw [if_pos rfl] at hi; exact e0 i hi
        · rw [if_neg e] at hi
          have hj := hp.lt j (by omega)
          rw [eq j e i (by omega), sup j (by omega)]
          exact hp.lead j (by omega) i hi
    · rw [(rd_none h).1, (rd_none h).2]
      have hf := fnd_le (M := rdX M R c) (c := c) hn
      refine ⟨p, ⟨hp.inc, fun j hj => by have := hp.lt j hj; omega, hp.one, fun r h1 h2 i hi => ?_, hp.lead⟩⟩
      by_cases e : i = c
      · subst e; exact fnd_zero (R := R) h1 (by omega)
      · exact hp.low r h1 h2 i (by omega)

/-- What steps make is told by what stands at their columns. -/
theorem Steps.made {X : Nat → List Nat} {R n W : Nat} {p : Nat → Nat} (hs : Steps X R n W p) (hn : n ≤ R) (hl : Long X W) {v : Nat → Nat} (h : InS X R v) : ∀ c, v c = xs (fun j => mul (v (p j)) (at0 (X j) c)) n := by
  obtain ⟨k, h1, h2⟩ := h
  have hk : ∀ j, j < n → v (p j) = k j := fun j hj => by
    rw [h2]
    unfold comb
    rw [xs_one (show j < R by omega)]
    · rw [hs.one j hj j (by omega), if_pos rfl, mul_one (h1 j)]
    · intro i hi hne
      rw [hs.one j hj i hi, if_neg hne, mul_zero]
  intro c
  rw [h2]
  unfold comb
  have h3 : ∀ m, n ≤ m → m ≤ R → xs (fun j => mul (k j) (at0 (X j) c)) m = xs (fun j => mul (k j) (at0 (X j) c)) n := by
    intro m
    induction m with
    | zero => intro h3 _; obtain rfl : n = 0 := by omega
              rfl
    | succ m ih =>
      intro h3 h4
      by_cases e : n = m + 1
      · subst e; rfl
      · show xs _ m ^^^ mul (k m) (at0 (X m) c) = _
        have : at0 (X m) c = 0 := by
          by_cases hc : c < W
          · exact hs.low m (by omega) (by omega) c hc
          · exact at0_out (by rw [hl m]; omega)
        rw [ih (by omega) (by omega), this, mul_zero, Nat.xor_zero]
  rw [h3 R hn (Nat.le_refl _)]
  exact xs_congr fun j hj => by rw [hk j hj]
theorem Steps.lead_of {X : Nat → List Nat} {R n W : Nat} {p : Nat → Nat} (hs : Steps X R n W p) (hn : n ≤ R) (hl : Long X W) {v : Nat → Nat} (h : InS X R v) {q : Nat} (hz : ∀ i, i < q → v i = 0) (hq : v q ≠ 0) : ∃ j, j < n ∧ p j = q := by
  apply Classical.byContradiction
  intro hno
  apply hq
  rw [hs.made hn hl h q]
  refine xs_none fun j hj => ?_
  rcases Nat.lt_trichotomy (p j) q with h1 | h1 | h1
  · rw [hz _ h1, zero_mul]
  · exact absurd ⟨j, hj, h1⟩ hno
  · rw [hs.lead j hj q h1, mul_zero]
theorem inc_le {n n' : Nat} {p p' : Nat → Nat} (h : ∀ i j, i < j → j < n → p i < p j) (h' : ∀ i j, i < j → j < n' → p' i < p' j) (hf : ∀ j, j < n → ∃ i, i < n' ∧ p' i = p j) : n ≤ n' := by
  have hk : ∀ j, j < n → ∃ i, j ≤ i ∧ i < n' ∧ p' i = p j := by
    intro j
    induction j with
    | zero => intro hj; obtain ⟨i, h1, h2⟩ := hf 0 hj; exact ⟨i, Nat.zero_le _, h1, h2⟩
    | succ j ih =>
      intro hj
      obtain ⟨i, h1, h2, h3⟩ := ih (by omega)
      obtain ⟨i', g1, g2⟩ := hf (j + 1) hj
      refine ⟨i', ?_, g1, g2⟩
      have := h j (j + 1) (by omega) hj
      rcases Nat.lt_trichotomy i i' with e | e | e
      · omega
      · subst e; omega
      · have := h' i' i e h2; omega
  rcases Nat.eq_zero_or_pos n with e | e
  · omega
  · obtain ⟨i, h1, h2, _⟩ := hk (n - 1) (by omega); omega
/-- A rank is not below that of rows which these ones make. -/
theorem rank_mono {M M' : Nat → List Nat} {R R' W : Nat} (hl : Long M W) (hb : Byt M) (hl' : Long M' W) (hb' : Byt M') (h : Sub M R M' R') : rdN M R W ≤ rdN M' R' W := by
  obtain ⟨p, hp⟩ := rd_steps (R := R) hl hb W
  obtain ⟨p', hp'⟩ := rd_steps (R := R') hl' hb' W
  refine inc_le hp.inc hp'.inc fun j hj => ?_
  have hR := (rdN_le M R W).1
  have hv : InS (rdX M' R' W) R' (at0 (rdX M R W j)) := (rd_sub hl' hb' W).2.of (hb'.rdX hl' R' W) (h.of hb' ((rd_sub hl hb W).1 j (by omega)))
  refine hp'.lead_of (rdN_le M' R' W).1 (hl'.rdX R' W) hv (fun i hi => hp.lead j hj i hi) ?_
  rw [hp.one j hj j (by omega), if_pos rfl]; decide
end Go.Proofs.Ytokeoodkioobdaa.Gf
