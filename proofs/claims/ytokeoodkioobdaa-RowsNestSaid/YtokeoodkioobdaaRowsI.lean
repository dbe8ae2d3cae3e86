/- Plain: products, inverses, ranks of products. No program in sight. Conditions: bytes are below 256, rows are alike long. -/
import Derived.Test.YtokeoodkioobdaaRowsL
namespace Go.Proofs.Ytokeoodkioobdaa.Gf

theorem mmr_congr {A : List Nat} {B B' : Nat → List Nat} {cols n : Nat} (h : ∀ i, i < n → B i = B' i) : mmr A B cols n = mmr A B' cols n := by
  refine ext0 (by rw [mmr_len, mmr_len]) fun c hc => ?_
  rw [mmr_len] at hc
  rw [at0_mmr hc, at0_mmr hc]
  exact xs_congr fun i hi => by rw [h i hi]
theorem mmr_byt {A : List Nat} {B : Nat → List Nat} {cols n : Nat} (hA : ∀ c, at0 A c < 256) (c : Nat) : at0 (mmr A B cols n) c < 256 := by
  by_cases hc : c < cols
  · rw [at0_mmr hc]; exact xs_lt (fun i => mul_lt (hA i)) _
  · rw [at0_out (by rw [mmr_len]; omega)]; decide
/-- Products are the same however they are nested. -/
theorem mmr_assoc {A : List Nat} {B C : Nat → List Nat} {n m cols : Nat} (hA : ∀ c, at0 A c < 256) (hB : Byt B) (hC : Byt C) :
    mmr (mmr A B m n) C cols m = mmr A (fun i => mmr (B i) C cols m) cols n := by
  refine ext0 (by rw [mmr_len, mmr_len]) fun c hc => ?_
  rw [mmr_len] at hc
  rw [at0_mmr hc, at0_mmr hc]
  have e1 : xs (fun i => mul (at0 (mmr A B m n) i) (at0 (C i) c)) m = xs (fun i => xs (fun j => mul (mul (at0 A j) (at0 (B j) i)) (at0 (C i) c)) n) m :=
    xs_congr fun i hi => by rw [at0_mmr hi, xs_mul' (fun j => mul_lt (hA j))]
  rw [e1, xs_swap]
  refine xs_congr fun j _ => ?_
  rw [at0_mmr hc, xs_mul]
  exact xs_congr fun i _ => mul_assoc (hA j) (hB j i) (hC i c)
/-- The unit changes nothing, from either side. -/
theorem mmr_unit {A : List Nat} {B : Nat → List Nat} {n : Nat} (hA : ∀ c, at0 A c < 256) (hl : A.length = n) (hB : ∀ i, i < n → B i = unitX n i) : mmr A B n n = A := by
  refine ext0 (by rw [mmr_len, hl]) fun c hc => ?_
  rw [mmr_len] at hc
  rw [at0_mmr hc, xs_one hc]
  · rw [hB c hc, at0_unit hc, if_pos rfl, mul_one (hA c)]
  · intro i hi hne
    rw [hB i hi, at0_unit hc, if_neg (fun e => hne e.symm), mul_zero]
theorem unit_mmr {B : Nat → List Nat} {n cols r : Nat} (hr : r < n) (hl : (B r).length = cols) (hB : Byt B) : mmr (unitX n r) B cols n = B r := by
  refine ext0 (by rw [mmr_len, hl]) fun c hc => ?_
  rw [mmr_len] at hc
  rw [at0_mmr hc, xs_one hr]
  · rw [at0_unit hr, if_pos rfl, one_mul (hB r c)]
  · intro i hi hne
    rw [at0_unit hi, if_neg hne, zero_mul]
/-- Rows that make all: as many steps as columns. -/
theorem rank_full {M : Nat → List Nat} {R n : Nat} (hl : Long M n) (hb : Byt M) (h : ∀ q, q < n → InS M R (at0 (unitX n q))) : n ≤ rdN M R n := by
  obtain ⟨p, hp⟩ := rd_steps (R := R) hl hb n
  refine inc_le (p := fun i => i) (fun i j h _ => h) hp.inc fun q hq => ?_
  refine hp.lead_of (rdN_le M R n).1 (hl.rdX R n) ((rd_sub hl hb n).2.of (hb.rdX hl R n) (h q hq)) (fun i hi => ?_) ?_
  · rw [at0_unit (show i < n by omega), if_neg (by omega)]
  · rw [at0_unit hq, if_pos rfl]; decide
/-- As many steps as rows and columns: the unit. -/
theorem rd_unit {M : Nat → List Nat} {n : Nat} (hl : Long M n) (hb : Byt M) (h : rdN M n n = n) {r : Nat} (hr : r < n) : rdX M n n r = unitX n r := by
  obtain ⟨p, hp⟩ := rd_steps (R := n) hl hb n
  rw [h] at hp
  have hpj : ∀ j, j < n → j ≤ p j := by
    intro j
    induction j with
    | zero => intro _; exact Nat.zero_le _
    | succ j ih => intro hj; have := ih (by omega); have := hp.inc j (j + 1) (by omega) hj; omega
  have hpu : ∀ d j, j + d + 1 = n → p j ≤ j := by
    intro d
    induction d with
    | zero => intro j hj; have := hp.lt j (by omega); omega
    | succ d ih => intro j hj; have := ih (j + 1) (by omega); have := hp.inc j (j + 1) (by omega) (by omega); omega
  refine ext0 (by rw [hl.rdX n n r, unitX_len]) fun c hc => ?_
  rw [hl.rdX n n r] at hc
  have e : p c = c := Nat.le_antisymm (hpu (n - 1 - c) c (by omega)) (hpj c hc)
  have h1 := hp.one c hc r hr
  rw [e] at h1
  rw [h1, at0_unit hc]
  by_cases e2 : r = c
  · rw [if_pos e2, if_pos e2.symm]
  · rw [if_neg e2, if_neg (fun e3 => e2 e3.symm)]
theorem bes_long {A B : Nat → List Nat} {n m : Nat} (hA : Long A n) (hB : Long B m) : Long (bes A B) (n + m) := fun r => by
  unfold bes; rw [List.length_append, hA r, hB r]
theorem bes_byt {A B : Nat → List Nat} (hA : Byt A) (hB : Byt B) : Byt (bes A B) := fun r c => by
  unfold bes
  by_cases h : c < (A r).length
  · rw [at0_app h]; exact hA r c
  · rw [at0_app2 (by omega)]; exact hB r _
/-- What turns the unit's rows, when the first ones turn to the unit. -/
def invX (A : Nat → List Nat) (n : Nat) : Nat → List Nat := rdY A (unitX n) n n
theorem invX_long (A : Nat → List Nat) (n : Nat) : Long (invX A n) n := Long.rdY (fun r => unitX_len n r) n n
theorem invX_byt (A : Nat → List Nat) (n : Nat) : Byt (invX A n) := Byt.rdY (fun r => unitX_len n r) (unitX_byt n) n n
theorem inv_both {A : Nat → List Nat} {n : Nat} (hl : Long A n) (hb : Byt A) (h : rdN A n n = n) : ∀ r, r < n → mmr (A r) (invX A n) n n = unitX n r ∧ mmr (invX A n r) A n n = unitX n r := by
  have hM : Long (bes A (unitX n)) (n + n) := bes_long hl fun r => unitX_len n r
  have hMb : Byt (bes A (unitX n)) := bes_byt hb (unitX_byt n)
  obtain ⟨s1, s2⟩ := rd_sub (R := n) hM hMb n
  rw [(rd_bes hl n (Nat.le_refl _)).2] at s1 s2
  have hYl := invX_long A n
  have hX : ∀ r, r < n → rdX A n n r = unitX n r := fun r hr => rd_unit hl hb h hr
  have hXl : Long (rdX A n n) n := hl.rdX n n
  change Sub (bes (rdX A n n) (invX A n)) n _ n at s1
  change Sub _ n (bes (rdX A n n) (invX A n)) n at s2
  intro r hr
  constructor
  · obtain ⟨k, k1, k2⟩ := s2 r hr
    have hk : ∀ c, c < n → at0 (A r) c = k c := fun c hc => by
      have := k2 c
      unfold comb at this
      have e : at0 (bes A (unitX n) r) c = at0 (A r) c := at0_app (by rw [hl r]; exact hc)
      rw [e] at this
      rw [this, xs_one hc]
      · have e2 : at0 (bes (rdX A n n) (invX A n) c) c = at0 (rdX A n n c) c := at0_app (by rw [hXl c]; exact hc)
        rw [e2, hX c hc, at0_unit hc, if_pos rfl, mul_one (k1 c)]
      · intro i hi hne
        have e2 : at0 (bes (rdX A n n) (invX A n) i) c = at0 (rdX A n n i) c := at0_app (by rw [hXl i]; exact hc)
        rw [e2, hX i hi, at0_unit hc, if_neg (fun e => hne e.symm), mul_zero]
    refine ext0 (by rw [mmr_len, unitX_len]) fun c hc => ?_
    rw [mmr_len] at hc
    have := k2 (n + c)
    unfold comb at this
    have e : at0 (bes A (unitX n) r) (n + c) = at0 (unitX n r) c := by
      unfold bes; rw [at0_app2 (by rw [hl r]; omega), hl r, Nat.add_sub_cancel_left]
    rw [e] at this
    rw [this, at0_mmr hc]
    refine xs_congr fun i hi => ?_
    have e2 : at0 (bes (rdX A n n) (invX A n) i) (n + c) = at0 (invX A n i) c := by
      unfold bes; rw [at0_app2 (by rw [hXl i]; omega), hXl i, Nat.add_sub_cancel_left]
    rw [e2, hk i hi]
  · obtain ⟨k, k1, k2⟩ := s1 r hr
    have hk : ∀ c, c < n → at0 (invX A n r) c = k c := fun c hc => by
      have := k2 (n + c)
      unfold comb at this
      have e : at0 (bes (rdX A n n) (invX A n) r) (n + c) = at0 (invX A n r) c := by
        unfold bes; rw [at0_app2 (by rw [hXl r]; omega), hXl r, Nat.add_sub_cancel_left]
      rw [e] at this
      rw [this, xs_one hc]
      · have e2 : at0 (bes A (unitX n) c) (n + c) = at0 (unitX n c) c := by
          unfold bes; rw [at0_app2 (by rw [hl c]; omega), hl c, Nat.add_sub_cancel_left]
        rw [e2, at0_unit hc, if_pos rfl, mul_one (k1 c)]
      · intro i hi hne
        have e2 : at0 (bes A (unitX n) i) (n + c) = at0 (unitX n i) c := by
          unfold bes; rw [at0_app2 (by rw [hl i]; omega), hl i, Nat.add_sub_cancel_left]
        rw [e2, at0_unit hc, if_neg (fun e => hne e.symm), mul_zero]
    refine ext0 (by rw [mmr_len, unitX_len]) fun c hc => ?_
    rw [mmr_len] at hc
    have := k2 c
    unfold comb at this
    have e : at0 (bes (rdX A n n) (invX A n) r) c = at0 (rdX A n n r) c := at0_app (by rw [hXl r]; exact hc)
    rw [e, hX r hr] at this
    rw [this, at0_mmr hc]
    refine xs_congr fun i hi => ?_
    have e2 : at0 (bes A (unitX n) i) c = at0 (A i) c := at0_app (by rw [hl i]; exact hc)
    rw [e2, hk i hi]
/-- A row of a product is made of the second one's rows. -/
theorem mmr_made {A : List Nat} {B : Nat → List Nat} {cols n : Nat} (hA : ∀ c, at0 A c < 256) (hl : Long B cols) : InS B n (at0 (mmr A B cols n)) := by
  refine ⟨at0 A, hA, fun c => ?_⟩
  by_cases hc : c < cols
  · exact at0_mmr hc
  · rw [at0_out (by rw [mmr_len]; omega)]
    unfold comb
    exact (xs_none fun i _ => by rw [show at0 (B i) c = 0 from at0_out (by rw [hl i]; omega), mul_zero]).symm
/-- The inverse has one, and it is the matrix. -/
theorem inv_back {A : Nat → List Nat} {n : Nat} (hl : Long A n) (hb : Byt A) (h : rdN A n n = n) : rdN (invX A n) n n = n ∧ ∀ r, r < n → invX (invX A n) n r = A r := by
  have hYl := invX_long A n
  have hYb := invX_byt A n
  have hB := inv_both hl hb h
  have h1 : rdN (invX A n) n n = n := by
    refine Nat.le_antisymm (rdN_le _ _ _).1 (rank_full hYl hYb fun q hq => ?_)
    rw [← (hB q hq).1]
    exact mmr_made (hb q) hYl
  refine ⟨h1, fun r hr => ?_⟩
  have hZ := (inv_both hYl hYb h1 r hr).2
  have e1 : mmr (mmr (invX (invX A n) n r) (invX A n) n n) A n n = invX (invX A n) n r := by
    rw [mmr_assoc (invX_byt _ _ r) hYb hb]
    exact mmr_unit (invX_byt _ _ r) (invX_long _ _ r) fun i hi => (hB i hi).2
  rw [← e1, hZ]
  exact unit_mmr hr (hl r) hb
/-- Of a product the rank is not above those of its factors. -/
theorem rank_mul {A B : Nat → List Nat} {R n cols : Nat} (hA : Long A n) (hAb : Byt A) (hB : Long B cols) (hBb : Byt B) :
    rdN (fun r => mmr (A r) B cols n) R cols ≤ rdN A R n ∧ rdN (fun r => mmr (A r) B cols n) R cols ≤ rdN B n cols := by
  have pl : ∀ M : Nat → List Nat, Long (fun r => mmr (M r) B cols n) cols := fun M r => mmr_len _ _ _ _
  have pb : ∀ M : Nat → List Nat, Byt M → Byt (fun r => mmr (M r) B cols n) := fun M hM r c => mmr_byt (hM r) c
  constructor
  · have hX := hAb.rdX hA R n
    obtain ⟨p, hp⟩ := rd_steps (R := R) hA hAb n
    have hn := (rdN_le A R n).1
    refine Nat.le_trans (rank_mono (R' := rdN A R n) (pl A) (pb A hAb) (pl (rdX A R n)) (pb _ hX) fun r hr => ?_) (rdN_le _ _ _).1
    have hv := hp.made hn (hA.rdX R n) ((rd_sub hA hAb n).2 r hr)
    refine ⟨fun j => at0 (A r) (p j), fun j => hAb r _, fun c => ?_⟩
    unfold comb
    by_cases hc : c < cols
    · rw [at0_mmr hc]
      have e1 : xs (fun i => mul (at0 (A r) i) (at0 (B i) c)) n = xs (fun i => xs (fun j => mul (mul (at0 (A r) (p j)) (at0 (rdX A R n j) i)) (at0 (B i) c)) (rdN A R n)) n :=
        xs_congr fun i _ => by rw [hv i, xs_mul' (fun j => mul_lt (hAb r _))]
      rw [e1, xs_swap]
      refine xs_congr fun j _ => ?_
      rw [at0_mmr hc, xs_mul]
      exact xs_congr fun i _ => mul_assoc (hAb r _) (hX j i) (hBb i c)
    · rw [at0_out (by rw [mmr_len]; omega)]
      exact (xs_none fun i _ => by rw [at0_out (by rw [mmr_len]; omega), mul_zero]).symm
  · exact rank_mono (pl A) (pb A hAb) hB hBb fun r _ => mmr_made (hAb r) hB
/-- With a row that is the sum of two the rank stays. -/
theorem rank_more {A M : Nat → List Nat} {R W i j : Nat} (hl : Long A W) (hb : Byt A) (hM : Long M W) (hMb : Byt M) (hi : i < R) (hj : j < R) (h : ∀ r, r < R → M r = A r) (hs : ∀ c, at0 (M R) c = at0 (A i) c ^^^ at0 (A j) c) :
    rdN M (R + 1) W = rdN A R W := by
  refine Nat.le_antisymm (rank_mono hM hMb hl hb fun r hr => ?_) (rank_mono hl hb hM hMb fun r hr => ?_)
  · by_cases e : r < R
    · rw [h r e]; exact InS.row hb e
    · obtain rfl : r = R := by omega
      exact ((InS.row hb hi).add (InS.row hb hj)).congr hs
  · rw [← h r hr]; exact InS.row hMb (by omega)
end Go.Proofs.Ytokeoodkioobdaa.Gf
