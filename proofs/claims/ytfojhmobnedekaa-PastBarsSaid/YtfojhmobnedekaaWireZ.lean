/- Landings as they are told, plain: in order of sending, and put in order; the first least. No condition. -/
import Derived.Test.YtfojhmobnedekaaWireM
namespace Go.Proofs.Ytfojhmobnedekaa

/-- A landing and to whom, as it is told: its tick, its place, to whom, its bytes. -/
structure Zl where
  d : Int
  q : Int
  t : Int
  l : List Nat
instance : Inhabited Zl := ⟨⟨0, 0, 0, []⟩⟩
def Zl.le (x y : Zl) : Prop := ordI x.d x.q y.d y.q ≤ 0
instance (x y : Zl) : Decidable (x.le y) := by unfold Zl.le; infer_instance
theorem Zl.le_iff {x y : Zl} : x.le y ↔ x.d < y.d ∨ (x.d = y.d ∧ x.q ≤ y.q) := ordI_le
theorem Zl.le_refl (x : Zl) : x.le x := Zl.le_iff.2 (.inr ⟨rfl, Int.le_refl _⟩)
theorem Zl.le_total (x y : Zl) : x.le y ∨ y.le x := by rw [Zl.le_iff, Zl.le_iff]; omega
theorem Zl.le_trans {x y z : Zl} (h1 : x.le y) (h2 : y.le z) : x.le z := by rw [Zl.le_iff] at *; omega
theorem Zl.not_le {x y : Zl} (h : ¬ x.le y) : y.le x := (Zl.le_total x y).resolve_left h
/-- A list in order. -/
def SrtZ (l : List Zl) : Prop := l.Pairwise Zl.le
/-- Put behind all that stand at or ahead of it. -/
def insZ (x : Zl) : List Zl → List Zl
  | [] => [x]
  | y :: l => if y.le x then y :: insZ x l else x :: y :: l
/-- In a list in order the search's place is where it is put. -/
theorem insZ_at {x : Zl} : ∀ {l : List Zl} {k : Nat}, SrtZ l → k ≤ l.length → (∀ y, 0 < k → l[k - 1]? = some y → y.le x) → (∀ y, l[k]? = some y → ¬ y.le x) → insZ x l = l.take k ++ x :: l.drop k
  | [], k, _, _, _, _ => by simp [insZ]
  | y :: l, 0, _, _, _, h2 => by
    have := h2 y rfl
    simp [insZ, this]
  | y :: l, k + 1, hs, hk, h1, h2 => by
    have hs' := List.pairwise_cons.1 hs
    have hy : y.le x := by
      by_cases e : k = 0
      · subst e; exact h1 y (by omega) rfl
      · obtain ⟨m, rfl⟩ : ∃ m, k = m + 1 := ⟨k - 1, by omega⟩
        have hk' : m < l.length := by simp at hk; omega
        have hz := h1 (l[m]) (by omega) (by
          rw [Nat.add_sub_cancel, List.getElem?_cons_succ]
          exact List.getElem?_eq_getElem hk')
        exact Zl.le_trans (hs'.1 _ (List.getElem_mem hk')) hz
    have ih := insZ_at (x := x) (l := l) (k := k) hs'.2 (by simpa using hk) (fun z hk0 hz => h1 z (by omega) (by
      rw [Nat.add_sub_cancel, show k = (k - 1) + 1 by omega, List.getElem?_cons_succ]; exact hz)) (fun z hz => h2 z (by simpa using hz))
    simp [insZ, hy, ih]
theorem mem_insZ {x z : Zl} : ∀ {l : List Zl}, z ∈ insZ x l ↔ z = x ∨ z ∈ l
  | [] => by simp [insZ]
  | y :: l => by
    unfold insZ
    split
    · simp [mem_insZ (l := l)]; constructor <;> (intro h; rcases h with h | h | h <;> simp [h])
    · simp
theorem srt_insZ {x : Zl} : ∀ {l : List Zl}, SrtZ l → SrtZ (insZ x l)
  | [], _ => List.pairwise_singleton _ _
  | y :: l, hs => by
    have hs' := List.pairwise_cons.1 hs
    unfold insZ
    split
    · rename_i h
      refine List.pairwise_cons.2 ⟨fun z hz => ?_, srt_insZ hs'.2⟩
      rcases mem_insZ.1 hz with rfl | hz
      · exact h
      · exact hs'.1 z hz
    · rename_i h
      refine List.pairwise_cons.2 ⟨fun z hz => ?_, hs⟩
      have hxy := Zl.not_le h
      rcases List.mem_cons.1 hz with rfl | hz
      · exact hxy
      · exact Zl.le_trans hxy (hs'.1 z hz)
def ordZ (l : List Zl) : List Zl := l.foldl (fun s x => insZ x s) []
theorem ordZ_snoc (l : List Zl) (x : Zl) : ordZ (l ++ [x]) = insZ x (ordZ l) := by simp [ordZ]
/-- Strictly ahead. -/
def Zl.lt (x y : Zl) : Prop := ¬ y.le x
instance (x y : Zl) : Decidable (x.lt y) := by unfold Zl.lt; infer_instance
/-- The place of the first least, of the first k. -/
def bestZ (l : List Zl) : Nat → Option Nat
  | 0 => none
  | k + 1 => match bestZ l k with
    | none => some k
    | some b => if (l.getD k default).lt (l.getD b default) then some k else some b
theorem srt_ordZ (l : List Zl) : SrtZ (ordZ l) := by
  suffices ∀ s, SrtZ s → SrtZ (l.foldl (fun s x => insZ x s) s) from this [] List.Pairwise.nil
  induction l with
  | nil => exact fun s h => h
  | cons x l ih => exact fun s h => ih _ (srt_insZ h)
theorem headZ_ins {x y : Zl} {l : List Zl} (h : x.lt y) : insZ x (y :: l) = x :: y :: l := by unfold insZ; rw [if_neg h]
theorem headZ_keep {x y : Zl} {l : List Zl} (h : ¬ x.lt y) : insZ x (y :: l) = y :: insZ x l := by
  show (if y.le x then y :: insZ x l else x :: y :: l) = _
  rw [if_pos (Decidable.of_not_not h)]
/-- The head of the list put in order is the first least. -/
theorem bestZ_head (l : List Zl) : ∀ k, k ≤ l.length → match bestZ l k with
    | none => k = 0
    | some b => b < k ∧ ∃ t, ordZ (l.take k) = l.getD b default :: t
  | 0, _ => rfl
  | k + 1, hk => by
    have ih := bestZ_head l k (by omega)
    have htk : l.take (k + 1) = l.take k ++ [l.getD k default] := by
      rw [List.take_add_one, List.getD_eq_getElem?_getD, List.getElem?_eq_getElem (by omega)]; rfl
    unfold bestZ
    cases hb : bestZ l k with
    | none =>
      rw [hb] at ih
      obtain rfl : k = 0 := ih
      refine ⟨by omega, [], ?_⟩
      rw [htk, ordZ_snoc]; rfl
    | some b =>
      rw [hb] at ih
      obtain ⟨h1, t, ht⟩ := ih
      show match (if (l.getD k default).lt (l.getD b default) then some k else some b) with
        | none => k + 1 = 0
        | some b => b < k + 1 ∧ ∃ t, ordZ (l.take (k + 1)) = l.getD b default :: t
      by_cases h : (l.getD k default).lt (l.getD b default)
      · rw [if_pos h]
        exact ⟨by omega, _, by rw [htk, ordZ_snoc, ht, headZ_ins h]⟩
      · rw [if_neg h]
        exact ⟨by omega, _, by rw [htk, ordZ_snoc, ht, headZ_keep h]⟩
/-- What stays, the first least taken, put in order, is the rest of the list put in order. -/
theorem bestZ_rest (l : List Zl) : ∀ k, k ≤ l.length → match bestZ l k with
    | none => k = 0
    | some b => b < k ∧ ordZ (l.take k) = l.getD b default :: ordZ ((l.take k).eraseIdx b)
  | 0, _ => rfl
  | k + 1, hk => by
    have ih := bestZ_rest l k (by omega)
    have htk : l.take (k + 1) = l.take k ++ [l.getD k default] := by
      rw [List.take_add_one, List.getD_eq_getElem?_getD, List.getElem?_eq_getElem (by omega)]; rfl
    have hlen : (l.take k).length = k := by simp; omega
    have hek : (l.take (k + 1)).eraseIdx k = l.take k := by
      rw [htk, List.eraseIdx_append_of_length_le (by omega), hlen, Nat.sub_self]; simp
    unfold bestZ
    cases hb : bestZ l k with
    | none =>
      rw [hb] at ih
      obtain rfl : k = 0 := ih
      refine ⟨by omega, ?_⟩
      rw [hek, htk, ordZ_snoc]; rfl
    | some b =>
      rw [hb] at ih
      obtain ⟨h1, ht⟩ := ih
      show match (if (l.getD k default).lt (l.getD b default) then some k else some b) with
        | none => k + 1 = 0
        | some b => b < k + 1 ∧ ordZ (l.take (k + 1)) = l.getD b default :: ordZ ((l.take (k + 1)).eraseIdx b)
      by_cases h : (l.getD k default).lt (l.getD b default)
      · rw [if_pos h]
        refine ⟨by omega, ?_⟩
        rw [hek, htk, ordZ_snoc, ht, headZ_ins h]
      · rw [if_neg h]
        refine ⟨by omega, ?_⟩
        rw [htk, ordZ_snoc, ht, headZ_keep h, List.eraseIdx_append_of_lt_length (by omega), ordZ_snoc]
/-- A landing in memory, and what is told of it. -/
structure Wz where
  d : Int
  q : Int
  t : Int
  r : R1
def Wz.w (x : Wz) : Wl := ⟨x.d, x.q, x.r.a, x.r.n, x.r.c, x.t⟩
def Wz.z (x : Wz) : Zl := ⟨x.d, x.q, x.t, x.r.l⟩
theorem Wz.le_iff {x y : Wz} : x.w.le y.w ↔ x.z.le y.z := Iff.rfl
/-- Put behind all that stand at or ahead of it. -/
def insM (x : Wz) : List Wz → List Wz
  | [] => [x]
  | y :: l => if y.z.le x.z then y :: insM x l else x :: y :: l
theorem insM_w (x : Wz) : ∀ l : List Wz, (insM x l).map Wz.w = insW x.w (l.map Wz.w)
  | [] => rfl
  | y :: l => by
    unfold insM
    rw [List.map_cons]
    unfold insW
    by_cases h : y.z.le x.z
    · rw [if_pos h, if_pos (Wz.le_iff.2 h), List.map_cons, insM_w x l]
    · rw [if_neg h, if_neg (fun h2 => h (Wz.le_iff.1 h2))]; rfl
theorem insM_z (x : Wz) : ∀ l : List Wz, (insM x l).map Wz.z = insZ x.z (l.map Wz.z)
  | [] => rfl
  | y :: l => by
    unfold insM
    rw [List.map_cons]
    unfold insZ
    by_cases h : y.z.le x.z
    · rw [if_pos h, if_pos h, List.map_cons, insM_z x l]
    · rw [if_neg h, if_neg h]; rfl
theorem insM_perm (x : Wz) : ∀ l : List Wz, (insM x l).Perm (x :: l)
  | [] => List.Perm.refl _
  | y :: l => by
    unfold insM
    split
    · exact ((insM_perm x l).cons y).trans (List.Perm.swap x y l)
    · exact List.Perm.refl _
end Go.Proofs.Ytfojhmobnedekaa
