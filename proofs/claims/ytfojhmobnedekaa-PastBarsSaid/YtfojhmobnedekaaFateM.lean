/- Plain: a bit of bytes, turned. No program in sight. -/
namespace Go.Proofs.Ytfojhmobnedekaa.Fm

/-- The byte x with bit j turned. -/
def flip (x j : Nat) : Nat := x ^^^ 2 ^ j
theorem flip_tab : ∀ x : Fin 256, ∀ j : Fin 8, flip x j < 256 ∧ flip (flip x j) j = (x : Nat) ∧ flip x j ≠ (x : Nat) ∧ ((x : Nat) / 2 ^ (j : Nat) % 2 = 1 → flip x j + 2 ^ (j : Nat) = (x : Nat)) ∧ ((x : Nat) / 2 ^ (j : Nat) % 2 ≠ 1 → flip x j = (x : Nat) + 2 ^ (j : Nat)) := by decide +kernel
theorem flip_all {x j : Nat} (hx : x < 256) (hj : j < 8) : flip x j < 256 ∧ flip (flip x j) j = x ∧ flip x j ≠ x ∧ (x / 2 ^ j % 2 = 1 → flip x j + 2 ^ j = x) ∧ (x / 2 ^ j % 2 ≠ 1 → flip x j = x + 2 ^ j) := flip_tab ⟨x, hx⟩ ⟨j, hj⟩
theorem flip_comm (x i j : Nat) : flip (flip x i) j = flip (flip x j) i := by unfold flip; rw [Nat.xor_assoc, Nat.xor_comm (2 ^ i), ← Nat.xor_assoc]

/-- The bytes with the bit at k turned. -/
def turn (b : List Nat) (k : Nat) : List Nat := b.set (k / 8) (flip (b.getD (k / 8) 0) (k % 8))
/-- The program's Turn. -/
def turnI (b : List Nat) (bit : Int) : List Nat := if b = [] ∨ bit < 0 then b else turn b (bit.toNat % (8 * b.length))
theorem length_turn (b : List Nat) (k : Nat) : (turn b k).length = b.length := by simp [turn]
theorem length_turnI (b : List Nat) (bit : Int) : (turnI b bit).length = b.length := by unfold turnI; split; rfl; exact length_turn _ _
theorem turn_get (b : List Nat) {k : Nat} (h : k / 8 < b.length) (i : Nat) : (turn b k).getD i 0 = if k / 8 = i then flip (b.getD i 0) (k % 8) else b.getD i 0 := by
  unfold turn
  rw [List.getD_eq_getElem?_getD, List.getElem?_set]
  by_cases e : k / 8 = i
  · subst e; simp [h]
  · simp [e, List.getD_eq_getElem?_getD]
theorem ext_getD {a b : List Nat} (hl : a.length = b.length) (h : ∀ i, a.getD i 0 = b.getD i 0) : a = b := by
  apply List.ext_getElem? 
  intro i
  by_cases hi : i < a.length
  · have := h i
    simp only [List.getD_eq_getElem?_getD, List.getElem?_eq_getElem hi, List.getElem?_eq_getElem (hl ▸ hi), Option.getD_some] at this
    rw [List.getElem?_eq_getElem hi, List.getElem?_eq_getElem (hl ▸ hi), this]
  · rw [List.getElem?_eq_none (by omega), List.getElem?_eq_none (by omega)]
theorem turn_comm (b : List Nat) {k m : Nat} (hk : k / 8 < b.length) (hm : m / 8 < b.length) : turn (turn b k) m = turn (turn b m) k := by
  apply ext_getD (by simp [length_turn])
  intro i
  rw [turn_get (turn b k) (by rw [length_turn]; exact hm), turn_get (turn b m) (by rw [length_turn]; exact hk), turn_get _ hk, turn_get _ hm]
  by_cases e1 : k / 8 = i <;> by_cases e2 : m / 8 = i <;> simp [e1, e2, flip_comm]
theorem turn_twice {b : List Nat} (hs : ∀ i, b.getD i 0 < 256) {k : Nat} (hk : k / 8 < b.length) : turn (turn b k) k = b := by
  apply ext_getD (by simp [length_turn])
  intro i
  rw [turn_get _ (by rw [length_turn]; exact hk), turn_get _ hk]
  by_cases e : k / 8 = i
  · simp only [e, if_true]; exact (flip_all (hs i) (by omega)).2.1
  · simp [e]
theorem turn_ne {b : List Nat} (hs : ∀ i, b.getD i 0 < 256) {k : Nat} (hk : k / 8 < b.length) : turn b k ≠ b := by
  intro h
  have := turn_get b hk (k / 8)
  rw [h, if_pos rfl] at this
  exact (flip_all (hs (k / 8)) (Nat.mod_lt k (by omega))).2.2.1 this.symm
theorem turn_small {b : List Nat} (hs : ∀ i, b.getD i 0 < 256) {k : Nat} (hk : k / 8 < b.length) : ∀ i, (turn b k).getD i 0 < 256 := by
  intro i
  rw [turn_get _ hk]
  split
  · exact (flip_all (hs i) (Nat.mod_lt k (by omega))).1
  · exact hs i
theorem bit_lt {b : List Nat} (h : b ≠ []) (n : Nat) : n % (8 * b.length) / 8 < b.length := by
  have h0 : 0 < b.length := List.length_pos_iff.2 h
  have := Nat.mod_lt n (show 8 * b.length > 0 by omega)
  omega
theorem turnI_small {b : List Nat} (hs : ∀ i, b.getD i 0 < 256) (bit : Int) : ∀ i, (turnI b bit).getD i 0 < 256 := by
  unfold turnI
  split
  · exact hs
  · rename_i h
    exact turn_small hs (bit_lt (fun e => h (.inl e)) _)
theorem turnI_neg (b : List Nat) {bit : Int} (h : bit < 0) : turnI b bit = b := by unfold turnI; rw [if_pos (.inr h)]
theorem turnI_nil (bit : Int) : turnI [] bit = [] := by unfold turnI; rw [if_pos (.inl rfl)]
theorem turnI_pos {b : List Nat} (hb : b ≠ []) {bit : Int} (h : 0 ≤ bit) : turnI b bit = turn b (bit.toNat % (8 * b.length)) := by
  unfold turnI; rw [if_neg]; rintro (h1 | h1); exact hb h1; omega
theorem turnI_comm (b : List Nat) {x y : Int} (hx : 0 ≤ x) (hy : 0 ≤ y) : turnI (turnI b x) y = turnI (turnI b y) x := by
  by_cases hb : b = []
  · subst hb; simp only [turnI_nil]
  · have hn : ∀ k, turn b k ≠ [] := fun k e => hb (List.eq_nil_of_length_eq_zero (by rw [← length_turn b k, e]; rfl))
    rw [turnI_pos hb hx, turnI_pos hb hy, turnI_pos (hn _) hy, turnI_pos (hn _) hx, length_turn, length_turn]
    exact turn_comm b (bit_lt hb _) (bit_lt hb _)
theorem turnI_round {b : List Nat} (hs : ∀ i, b.getD i 0 < 256) {x : Int} (hx : 0 ≤ x) : turnI (turnI b x) (x + 8 * (b.length : Nat)) = b := by
  by_cases hb : b = []
  · subst hb; simp only [turnI_nil]
  · have hn : ∀ k, turn b k ≠ [] := fun k e => hb (List.eq_nil_of_length_eq_zero (by rw [← length_turn b k, e]; rfl))
    rw [turnI_pos hb hx, turnI_pos (hn _) (by omega), length_turn]
    have e : (x + 8 * (b.length : Nat)).toNat % (8 * b.length) = x.toNat % (8 * b.length) := by
      have : (x + 8 * (b.length : Nat)).toNat = x.toNat + 8 * b.length := by omega
      rw [this, Nat.add_mod_right]
    rw [e]
    exact turn_twice hs (bit_lt hb _)
theorem turnI_twice {b : List Nat} (hs : ∀ i, b.getD i 0 < 256) (x : Int) : turnI (turnI b x) x = b := by
  by_cases hx : x < 0
  · rw [turnI_neg _ hx, turnI_neg _ hx]
  · by_cases hb : b = []
    · subst hb; simp only [turnI_nil]
    · have hn : ∀ k, turn b k ≠ [] := fun k e => hb (List.eq_nil_of_length_eq_zero (by rw [← length_turn b k, e]; rfl))
      rw [turnI_pos hb (by omega), turnI_pos (hn _) (by omega), length_turn]
      exact turn_twice hs (bit_lt hb _)
theorem turnI_ne {b : List Nat} (hs : ∀ i, b.getD i 0 < 256) (hb : b ≠ []) {x : Int} (hx : 0 ≤ x) : turnI b x ≠ b := by
  rw [turnI_pos hb hx]; exact turn_ne hs (bit_lt hb _)

/-- How many bits. -/
def pop : Nat → Nat → Nat
  | 0, _ => 0
  | n + 1, x => if x = 0 then 0 else x % 2 + pop n (x / 2)
theorem pop_pow : ∀ j : Fin 8, pop 256 (2 ^ (j : Nat)) = 1 := by decide +kernel
theorem pop_zero (n : Nat) : pop n 0 = 0 := by cases n <;> rfl
end Go.Proofs.Ytfojhmobnedekaa.Fm
