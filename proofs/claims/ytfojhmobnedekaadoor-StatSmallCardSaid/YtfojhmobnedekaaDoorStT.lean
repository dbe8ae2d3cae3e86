/- Texts, in plain words: numerals of unlike numbers are unlike, lines part at their ends; sums of stats. No condition. -/
import Derived.Test.YtfojhmobnedekaaDoorS9
import Derived.Test.YtfojhmobnedekaaDoorS7
import Derived.Test.YtfojhmobnedekaaDoorEq
namespace Go.Proofs.YtfojhmobnedekaaDoor

theorem dec_chars : ∀ u : Nat, ∀ c ∈ Lib.decDigits u, 48 ≤ c.toNat ∧ c.toNat ≤ 57 := by
  intro u
  induction u using Nat.strongRecOn with
  | _ u ih =>
    intro c hc
    rw [Lib.decDigits] at hc
    split at hc
    · rename_i h
      rw [List.mem_singleton] at hc
      subst hc
      simp only [UInt8.toNat_ofNat']
      omega
    · rename_i h
      rw [List.mem_append, List.mem_singleton] at hc
      rcases hc with hc | rfl
      · exact ih (u / 10) (by omega) c hc
      · simp only [UInt8.toNat_ofNat']
        omega
/-- The number that digits tell. -/
def numOf (l : List UInt8) : Nat := l.foldl (fun a c => 10 * a + (c.toNat - 48)) 0
theorem num_dec : ∀ u : Nat, numOf (Lib.decDigits u) = u := by
  intro u
  induction u using Nat.strongRecOn with
  | _ u ih =>
    rw [Lib.decDigits]
    split
    · rename_i h
      simp only [numOf, List.foldl_cons, List.foldl_nil, UInt8.toNat_ofNat']
      omega
    · rename_i h
      have := ih (u / 10) (by omega)
      unfold numOf at *
      rw [List.foldl_append, this]
      simp only [List.foldl_cons, List.foldl_nil, UInt8.toNat_ofNat']
      omega
theorem dec_inj {u v : Nat} (h : Lib.decDigits u = Lib.decDigits v) : u = v := by rw [← num_dec u, h, num_dec]
theorem dec_ne (u : Nat) : Lib.decDigits u ≠ [] := by
  rw [Lib.decDigits]
  split
  · simp
  · simp
theorem no_minus {u v : Nat} : 45 :: Lib.decDigits u ≠ Lib.decDigits v := fun h => by
  have h1 := dec_chars v 45 (by rw [← h]; simp)
  revert h1; decide
theorem itoa_inj {m n : Int} (h : Lib.itoa m = Lib.itoa n) : m = n := by
  unfold Lib.itoa at h
  split at h
  · split at h
    · have := dec_inj (List.cons.inj h).2; omega
    · exact absurd h no_minus
  · split at h
    · exact absurd h.symm no_minus
    · have := dec_inj h; omega
theorem itoa_line (n : Int) : ∀ c ∈ Lib.itoa n, c ≠ 10 := by
  intro c hc e
  subst e
  unfold Lib.itoa at hc
  split at hc
  · rw [List.mem_cons] at hc
    rcases hc with hc | hc
    · revert hc; decide
    · have := dec_chars _ _ hc; revert this; decide
  · have := dec_chars _ _ hc; revert this; decide
/-- Two rows that end a line alike: their lines are one, and what is behind them. -/
theorem line_split : ∀ {x y r s : List UInt8}, (∀ c ∈ x, c ≠ 10) → (∀ c ∈ y, c ≠ 10) → x ++ 10 :: r = y ++ 10 :: s → x = y ∧ r = s
  | [], [], r, s, _, _, h => ⟨rfl, (List.cons.inj h).2⟩
  | [], c :: y, r, s, _, hy, h => absurd (List.cons.inj h).1.symm (hy c (by simp))
  | c :: x, [], r, s, hx, _, h => absurd (List.cons.inj h).1 (hx c (by simp))
  | c :: x, d :: y, r, s, hx, hy, h => by
    have h1 := List.cons.inj h
    obtain ⟨h2, h3⟩ := line_split (fun c hc => hx c (by simp [hc])) (fun c hc => hy c (by simp [hc])) h1.2
    exact ⟨by rw [h1.1, h2], h3⟩
theorem textTo_inj {u v : Nat → Int} : ∀ {is : List Nat}, textTo u is = textTo v is → ∀ j ∈ is, u (of_ j) = v (of_ j)
  | [], _, j, hj => by cases hj
  | i :: is, h, j, hj => by
    unfold textTo at h
    rw [List.flatMap_cons, List.flatMap_cons] at h
    unfold lineV at h
    simp only [List.append_assoc] at h
    have h1 := List.append_cancel_left (List.append_cancel_left h)
    obtain ⟨h2, h3⟩ := line_split (itoa_line _) (itoa_line _) (by simpa using h1)
    rcases List.mem_cons.1 hj with rfl | hj
    · exact itoa_inj h2
    · exact textTo_inj (is := is) (by unfold textTo lineV; simpa using h3) j hj
theorem places (i : Nat) (hi : i < 19) : i = 3 ∨ i = 11 ∨ ∃ j, j < 17 ∧ of_ j = i := by
  have : i = 0 ∨ i = 1 ∨ i = 2 ∨ i = 3 ∨ i = 4 ∨ i = 5 ∨ i = 6 ∨ i = 7 ∨ i = 8 ∨ i = 9 ∨ i = 10 ∨ i = 11 ∨ i = 12 ∨ i = 13 ∨ i = 14 ∨ i = 15 ∨ i = 16 ∨ i = 17 ∨ i = 18 := by omega
  rcases this with rfl | rfl | rfl | rfl | rfl | rfl | rfl | rfl | rfl | rfl | rfl | rfl | rfl | rfl | rfl | rfl | rfl | rfl | rfl
  · exact .inr (.inr ⟨0, by decide, rfl⟩)
  · exact .inr (.inr ⟨1, by decide, rfl⟩)
  · exact .inr (.inr ⟨2, by decide, rfl⟩)
  · exact .inl rfl
  · exact .inr (.inr ⟨3, by decide, rfl⟩)
  · exact .inr (.inr ⟨4, by decide, rfl⟩)
  · exact .inr (.inr ⟨5, by decide, rfl⟩)
  · exact .inr (.inr ⟨6, by decide, rfl⟩)
  · exact .inr (.inr ⟨7, by decide, rfl⟩)
  · exact .inr (.inr ⟨8, by decide, rfl⟩)
  · exact .inr (.inr ⟨9, by decide, rfl⟩)
  · exact .inr (.inl rfl)
  · exact .inr (.inr ⟨10, by decide, rfl⟩)
  · exact .inr (.inr ⟨11, by decide, rfl⟩)
  · exact .inr (.inr ⟨12, by decide, rfl⟩)
  · exact .inr (.inr ⟨13, by decide, rfl⟩)
  · exact .inr (.inr ⟨14, by decide, rfl⟩)
  · exact .inr (.inr ⟨15, by decide, rfl⟩)
  · exact .inr (.inr ⟨16, by decide, rfl⟩)
theorem text_inj {u v : Nat → Int} (hu3 : u 3 = 0) (hu11 : u 11 = 0) (hv3 : v 3 = 0) (hv11 : v 11 = 0) (h : textV u = textV v) : SameV u v := by
  have h1 := textTo_inj (is := List.range 17) h
  intro i hi
  have := places i hi
  rcases this with rfl | rfl | ⟨j, hj, rfl⟩
  · rw [hu3, hv3]
  · rw [hu11, hv11]
  · exact h1 j (List.mem_range.2 hj)
theorem text_same {u v : Nat → Int} (h : SameV u v) : textV u = textV v := by
  unfold textV textTo
  rw [List.flatMap_eq_foldl, List.flatMap_eq_foldl]
  have : ∀ j, lineV u j = lineV v j := fun j => by unfold lineV; rw [h _ (of_lt j)]
  simp only [this]
theorem toList_loop (bs : ByteArray) : ∀ (n i : Nat) (r : List UInt8), bs.size - i = n → ByteArray.toList.loop bs i r = r.reverse ++ bs.data.toList.drop i := by
  intro n
  induction n with
  | zero =>
    intro i r h
    rw [ByteArray.toList.loop, if_neg (by omega), List.drop_eq_nil_of_le (by have : bs.data.toList.length = bs.size := rfl; omega), List.append_nil]
  | succ n ih =>
    intro i r h
    have hl : bs.data.toList.length = bs.size := rfl
    rw [ByteArray.toList.loop, if_pos (by omega), ih (i + 1) _ (by omega), List.drop_eq_getElem_cons (by omega : i < bs.data.toList.length)]
    have : bs.get! i = bs.data.toList[i]'(by omega) := by
      show bs.data[i]! = _
      rw [getElem!_pos bs.data i (by show i < bs.size; omega)]
      simp
    rw [this]
    simp
theorem toList_eq (bs : ByteArray) : bs.toList = bs.data.toList := by
  unfold ByteArray.toList
  rw [toList_loop bs _ 0 [] rfl]; simp
/-- Whether two texts are one. -/
theorem text_eq {u v : Nat → Int} (hu3 : u 3 = 0) (hu11 : u 11 = 0) (hv3 : v 3 = 0) (hv11 : v 11 = 0) {t : Bool} (ht : t = true ↔ SameV u v) : ((⟨(textV u).toArray⟩ : ByteArray).toList == (⟨(textV v).toArray⟩ : ByteArray).toList) = t := by
  rw [toList_eq, toList_eq]
  show (textV u == textV v) = t
  cases t with
  | true => rw [text_same (ht.1 rfl)]; simp
  | false =>
    rw [beq_eq_false_iff_ne]
    intro e
    have := ht.2 (text_inj hu3 hu11 hv3 hv11 e)
    cases this
/-- Sums. -/
theorem right_all {v : Nat → Int} (h : RightV v) (i : Nat) (hi : i < 19) : 0 ≤ v i ∧ v i ≤ 2147483647 := by
  have : i = 3 ∨ i = 11 ∨ ∃ j, j < 17 ∧ of_ j = i := places i hi
  rcases this with rfl | rfl | ⟨j, hj, rfl⟩
  · rw [h.2.1]; omega
  · rw [h.2.2.1]; omega
  · exact h.1 j hj
theorem sum_one {v : Nat → Int} (h : RightV v) : SameV (sumV v0 v) v := fun i hi => by
  have := right_all h i hi
  show ad 0 (v i) = v i
  unfold ad hl; omega
theorem sum_none {v : Nat → Int} (h : RightV v) : SameV (sumV (sumV v0 v) v0) v := fun i hi => by
  have := right_all h i hi
  show ad (ad 0 (v i)) 0 = v i
  unfold ad hl; omega
theorem sum_turn (u v : Nat → Int) : SameV (sumV (sumV v0 u) v) (sumV (sumV v0 v) u) := fun i _ => by
  show ad (ad 0 (u i)) (v i) = ad (ad 0 (v i)) (u i)
  unfold ad hl; omega
end Go.Proofs.YtfojhmobnedekaaDoor
