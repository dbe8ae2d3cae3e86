/- The order of landings, plain: total, transitive; where a landing is put into a list that is in order. No condition. -/
import Derived.Test.YtfojhmobnedekaaWire3
namespace Go.Proofs.Ytfojhmobnedekaa

theorem ordI_le {d q d2 q2 : Int} : ordI d q d2 q2 ≤ 0 ↔ d < d2 ∨ (d = d2 ∧ q ≤ q2) := by
  unfold ordI orI cmpI
  by_cases h1 : d < d2
  · simp [h1]
  · by_cases h2 : d2 < d
    · simp [h1, h2]; omega
    · obtain rfl : d = d2 := by omega
      by_cases h3 : q < q2
      · simp [h3]; omega
      · by_cases h4 : q2 < q
        · simp [h3, h4]
        · simp [h3, h4]; omega
theorem Wl.le_iff {x y : Wl} : x.le y ↔ x.d < y.d ∨ (x.d = y.d ∧ x.q ≤ y.q) := ordI_le
theorem Wl.le_refl (x : Wl) : x.le x := Wl.le_iff.2 (.inr ⟨rfl, Int.le_refl _⟩)
theorem Wl.le_total (x y : Wl) : x.le y ∨ y.le x := by rw [Wl.le_iff, Wl.le_iff]; omega
theorem Wl.le_trans {x y z : Wl} (h1 : x.le y) (h2 : y.le z) : x.le z := by rw [Wl.le_iff] at *; omega
theorem Wl.not_le {x y : Wl} (h : ¬ x.le y) : y.le x := (Wl.le_total x y).resolve_left h
/-- A list in order. -/
def Srt (l : List Wl) : Prop := l.Pairwise Wl.le
/-- Put behind all that stand at or ahead of it. -/
def insW (x : Wl) : List Wl → List Wl
  | [] => [x]
  | y :: l => if y.le x then y :: insW x l else x :: y :: l
/-- In a list in order the search's place is where it is put. -/
theorem ins_at {x : Wl} : ∀ {l : List Wl} {k : Nat}, Srt l → k ≤ l.length → (∀ y, 0 < k → l[k - 1]? = some y → y.le x) → (∀ y, l[k]? = some y → ¬ y.le x) → insW x l = l.take k ++ x :: l.drop k
  | [], k, _, _, _, _ => by simp [insW]
  | y :: l, 0, _, _, _, h2 => by
    have := h2 y rfl
    simp [insW, this]
  | y :: l, k + 1, hs, hk, h1, h2 => by
    have hs' := List.pairwise_cons.1 hs
    have hy : y.le x := by
      by_cases e : k = 0
      · subst e; exact h1 y (by omega) rfl
      · obtain ⟨m, rfl⟩ : ∃ m, k = m + 1 := ⟨k - 1, by omega⟩
        have hk' : m < l.length := by simp at hk; omega
        have hz := h1 (l[m]) (by omega) (by
          rw [Nat.add_sub_cancel, List.getElem?_cons_succ]
          exact List.getElem?_eq_getElem hk')
        exact Wl.le_trans (hs'.1 _ (List.getElem_mem hk')) hz
    have ih := ins_at (x := x) (l := l) (k := k) hs'.2 (by simpa using hk) (fun z hk0 hz => h1 z (by omega) (by
      rw [Nat.add_sub_cancel, show k = (k - 1) + 1 by omega, List.getElem?_cons_succ]; exact hz)) (fun z hz => h2 z (by simpa using hz))
    simp [insW, hy, ih]
theorem mem_insW {x z : Wl} : ∀ {l : List Wl}, z ∈ insW x l ↔ z = x ∨ z ∈ l
  | [] => by simp [insW]
  | y :: l => by
    unfold insW
    split
    · simp [mem_insW (l := l)]; constructor <;> (intro h; rcases h with h | h | h <;> simp [h])
    · simp
theorem srt_insW {x : Wl} : ∀ {l : List Wl}, Srt l → Srt (insW x l)
  | [], _ => List.pairwise_singleton _ _
  | y :: l, hs => by
    have hs' := List.pairwise_cons.1 hs
    unfold insW
    split
    · rename_i h
      refine List.pairwise_cons.2 ⟨fun z hz => ?_, srt_insW hs'.2⟩
      rcases mem_insW.1 hz with rfl | hz
      · exact h
      · exact hs'.1 z hz
    · rename_i h
      refine List.pairwise_cons.2 ⟨fun z hz => ?_, hs⟩
      have hxy := Wl.not_le h
      rcases List.mem_cons.1 hz with rfl | hz
      · exact hxy
      · exact Wl.le_trans hxy (hs'.1 z hz)
end Go.Proofs.Ytfojhmobnedekaa
