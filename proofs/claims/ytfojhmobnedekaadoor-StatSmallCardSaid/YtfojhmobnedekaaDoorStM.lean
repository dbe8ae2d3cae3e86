/- Stats, in plain words: what events add. No condition. -/
import Derived.Test.YtfojhmobnedekaaDoorS5
namespace Go.Proofs.YtfojhmobnedekaaDoor

/-- What an event adds to a count. -/
def evC (i : Nat) (k n : Int) : Int :=
  if mayI k n = false then 0
  else if k = 1 then (if i = 0 then 1 else if i = 1 then n else 0)
  else if k = 2 then (if i = 2 then 1 else if i = 3 + n.toNat then 1 else 0)
  else if k = 3 then (if i = 11 + n.toNat then 1 else 0)
  else if k = 4 then (if i = 15 then 1 else 0)
  else if k = 5 then (if i = 16 then 1 else 0)
  else if k = 6 then (if i = 17 then 1 else 0)
  else (if i = 18 then n else 0)
def tot (i : Nat) (l : List (Int × Int)) : Int := (l.map fun p => evC i p.1 p.2).sum
theorem ad_in {a b : Int} (h0 : 0 ≤ a) (h1 : a ≤ 2147483647) (h2 : 0 ≤ b) : ad a b = min (a + b) 2147483647 := by unfold ad hl; omega
theorem may_cases {k n : Int} (h : mayI k n = true) : (k = 1 ∨ k = 7) ∧ 0 ≤ n ∧ n ≤ 2147483647 ∨ k = 2 ∧ 1 ≤ n ∧ n ≤ 7 ∨ k = 3 ∧ 1 ≤ n ∧ n ≤ 3 ∨ (k = 4 ∨ k = 5 ∨ k = 6) ∧ n = 0 := by
  unfold mayI at h
  split at h
  · exact .inl ⟨‹_›, of_decide_eq_true h⟩
  · split at h
    · exact .inr (.inl ⟨‹_›, of_decide_eq_true h⟩)
    · split at h
      · exact .inr (.inr (.inl ⟨‹_›, of_decide_eq_true h⟩))
      · split at h
        · exact .inr (.inr (.inr ⟨‹_›, of_decide_eq_true h⟩))
        · cases h
theorem evC_0 (i : Nat) (k n : Int) : 0 ≤ evC i k n := by
  unfold evC
  split
  · omega
  · rename_i h
    have := may_cases (by simpa using h)
    repeat' split
    all_goals omega
theorem cnt_min {v : Nat → Int} {k n : Int} {i : Nat} (h : mayI k n = true) (h0 : 0 ≤ v i) (h1 : v i ≤ 2147483647) : cnt v k n i = min (v i + evC i k n) 2147483647 := by
  have hc := may_cases h
  unfold cnt evC
  rw [if_neg (show ¬ (mayI k n = false) by simp [h])]
  rcases hc with ⟨rfl | rfl, hn⟩ | ⟨rfl, hn⟩ | ⟨rfl, hn⟩ | ⟨rfl | rfl | rfl, hn⟩
  · simp only [if_true]
    unfold upd
    by_cases e1 : i = 1
    · subst e1; rw [if_pos rfl, if_neg (by omega), if_pos rfl, ad_in h0 h1 (by omega)]
    · rw [if_neg e1]
      by_cases e0 : i = 0
      · subst e0; rw [if_pos rfl, if_pos rfl, ad_in h0 h1 (by omega)]
      · rw [if_neg e0, if_neg e0, if_neg e1]; omega
  · simp only [show ((7 : Int) = 1) = False by simp, show ((7 : Int) = 2) = False by simp, show ((7 : Int) = 3) = False by simp, show ((7 : Int) = 4) = False by simp, show ((7 : Int) = 5) = False by simp, show ((7 : Int) = 6) = False by simp, if_false]
    unfold upd
    by_cases e1 : i = 18
    · subst e1; rw [if_pos rfl, if_pos rfl, ad_in h0 h1 (by omega)]
    · rw [if_neg e1, if_neg e1]; omega
  · simp only [show ((2 : Int) = 1) = False by simp, if_false, if_true]
    unfold upd
    by_cases e1 : i = 3 + n.toNat
    · subst e1; rw [if_pos rfl, if_neg (by omega), if_pos rfl, ad_in h0 h1 (by omega)]
    · rw [if_neg e1]
      by_cases e0 : i = 2
      · subst e0; rw [if_pos rfl, if_pos rfl, ad_in h0 h1 (by omega)]
      · rw [if_neg e0, if_neg e0, if_neg e1]; omega
  · simp only [show ((3 : Int) = 1) = False by simp, show ((3 : Int) = 2) = False by simp, if_false, if_true]
    unfold upd
    by_cases e1 : i = 11 + n.toNat
    · subst e1; rw [if_pos rfl, if_pos rfl, ad_in h0 h1 (by omega)]
    · rw [if_neg e1, if_neg e1]; omega
  · simp only [show ((4 : Int) = 1) = False by simp, show ((4 : Int) = 2) = False by simp, show ((4 : Int) = 3) = False by simp, if_false, if_true]
    unfold upd
    by_cases e1 : i = 15
    · subst e1; rw [if_pos rfl, if_pos rfl, ad_in h0 h1 (by omega)]
    · rw [if_neg e1, if_neg e1]; omega
  · simp only [show ((5 : Int) = 1) = False by simp, show ((5 : Int) = 2) = False by simp, show ((5 : Int) = 3) = False by simp, show ((5 : Int) = 4) = False by simp, if_false, if_true]
    unfold upd
    by_cases e1 : i = 16
    · subst e1; rw [if_pos rfl, if_pos rfl, ad_in h0 h1 (by omega)]
    · rw [if_neg e1, if_neg e1]; omega
  · simp only [show ((6 : Int) = 1) = False by simp, show ((6 : Int) = 2) = False by simp, show ((6 : Int) = 3) = False by simp, show ((6 : Int) = 4) = False by simp, show ((6 : Int) = 5) = False by simp, if_false, if_true]
    unfold upd
    by_cases e1 : i = 17
    · subst e1; rw [if_pos rfl, if_pos rfl, ad_in h0 h1 (by omega)]
    · rw [if_neg e1, if_neg e1]; omega
theorem andV_min {i : Nat} : ∀ (l : List (Int × Int)) (v : Nat → Int), 0 ≤ v i → v i ≤ 2147483647 → andV v l i = min (v i + tot i l) 2147483647
  | [], v, h0, h1 => by simp [andV, tot]; omega
  | (k, n) :: l, v, h0, h1 => by
    show andV (if mayI k n = true then cnt v k n else v) l i = min (v i + (evC i k n + tot i l)) 2147483647
    have h2 := evC_0 i k n
    have h3 : 0 ≤ tot i l := by
      unfold tot
      induction l with
      | nil => simp
      | cons p l ih => simp only [List.map_cons, List.sum_cons]; have := evC_0 i p.1 p.2; omega
    by_cases hm : mayI k n = true
    · rw [if_pos hm]
      have hc := cnt_min (i := i) hm h0 h1
      rw [andV_min l _ (by omega) (by omega), hc]; omega
    · rw [if_neg hm, andV_min l v h0 h1]
      have : evC i k n = 0 := by unfold evC; rw [if_pos (by simpa using hm)]
      omega
theorem tot_append (i : Nat) (a b : List (Int × Int)) : tot i (a ++ b) = tot i a + tot i b := by simp [tot]
theorem tot_0 (i : Nat) : ∀ l : List (Int × Int), 0 ≤ tot i l
  | [] => by simp [tot]
  | p :: l => by have := evC_0 i p.1 p.2; have := tot_0 i l; unfold tot at *; simp only [List.map_cons, List.sum_cons]; omega
theorem of_min (i : Nat) (l : List (Int × Int)) : andV v0 l i = min (tot i l) 2147483647 := by
  have h : v0 i = 0 := rfl
  rw [andV_min l v0 (by omega) (by omega)]
  omega
theorem of_0 (i : Nat) (l : List (Int × Int)) : 0 ≤ andV v0 l i ∧ andV v0 l i ≤ 2147483647 := by
  rw [of_min]; have := tot_0 i l; omega
/-- The events' order is nothing. -/
theorem of_turned (a b : List (Int × Int)) : andV v0 (a ++ b) = andV v0 (b ++ a) := by
  funext i
  rw [of_min, of_min, tot_append, tot_append]; omega
theorem sum_of (a b : List (Int × Int)) (i : Nat) : ad (ad 0 (andV v0 a i)) (andV v0 b i) = andV v0 (a ++ b) i := by
  have h1 := of_0 i a
  have h2 := of_0 i b
  have e1 : ad 0 (andV v0 a i) = andV v0 a i := by rw [ad_in (by omega) (by omega) h1.1]; omega
  rw [e1, ad_in h1.1 h1.2 h2.1, of_min, of_min, of_min, tot_append]
  have := tot_0 i a
  have := tot_0 i b
  omega
theorem evC_none {i : Nat} (h : i = 3 ∨ i = 11 ∨ 19 ≤ i) (k n : Int) : evC i k n = 0 := by
  unfold evC
  split
  · rfl
  · rename_i hm
    have := may_cases (by simpa using hm)
    repeat' split
    all_goals omega
theorem tot_none {i : Nat} (h : i = 3 ∨ i = 11 ∨ 19 ≤ i) : ∀ l, tot i l = 0
  | [] => rfl
  | p :: l => by have := evC_none h p.1 p.2; have := tot_none h l; unfold tot at *; simp only [List.map_cons, List.sum_cons]; omega
theorem evC_came (k n : Int) : evC 2 k n = evC 4 k n + (evC 5 k n + (evC 6 k n + (evC 7 k n + (evC 8 k n + (evC 9 k n + evC 10 k n))))) := by
  unfold evC
  by_cases hm : mayI k n = false
  · simp only [if_pos hm]; omega
  · simp only [if_neg hm]
    have hc := may_cases (by simpa using hm)
    rcases hc with ⟨rfl | rfl, hn⟩ | ⟨rfl, hn⟩ | ⟨rfl, hn⟩ | ⟨rfl | rfl | rfl, hn⟩
    · simp
    · simp
    · have : n = 1 ∨ n = 2 ∨ n = 3 ∨ n = 4 ∨ n = 5 ∨ n = 6 ∨ n = 7 := by omega
      rcases this with rfl | rfl | rfl | rfl | rfl | rfl | rfl <;> rfl
    · have : n = 1 ∨ n = 2 ∨ n = 3 := by omega
      rcases this with rfl | rfl | rfl <;> rfl
    · simp
    · simp
    · simp
theorem tot_came : ∀ l, tot 2 l = tot 4 l + (tot 5 l + (tot 6 l + (tot 7 l + (tot 8 l + (tot 9 l + tot 10 l)))))
  | [] => rfl
  | p :: l => by have := evC_came p.1 p.2; have := tot_came l; unfold tot at *; simp only [List.map_cons, List.sum_cons]; omega
theorem right_of (l : List (Int × Int)) : RightV (andV v0 l) := by
  refine ⟨fun i _ => of_0 _ l, ?_, ?_, ?_⟩
  · rw [of_min, tot_none (by omega)]; rfl
  · rw [of_min, tot_none (by omega)]; rfl
  · simp only [of_min]
    rw [tot_came l]
    have := tot_0 4 l; have := tot_0 5 l; have := tot_0 6 l; have := tot_0 7 l; have := tot_0 8 l; have := tot_0 9 l; have := tot_0 10 l
    omega
end Go.Proofs.YtfojhmobnedekaaDoor
