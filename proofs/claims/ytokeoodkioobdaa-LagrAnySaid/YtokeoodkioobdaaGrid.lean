/- Rows of rows that a call owns, no two rows in one block: cells, stores, frames. Conditions: none. -/
import Derived.Test.YtokeoodkioobdaaRRow
import Derived.Test.YtokeoodkioobdaaRowsC
namespace Go.Proofs.Ytokeoodkioobdaa
open Go.RowKit

/-- A list by an owned row: its block, its cells. -/
theorem own_blk {w : World} {B n c q : Nat} {e : TypeId} {xs : List Value} (h : w.ownsRow B e 1 (.slice (some ⟨q, 0, none⟩) n c) n xs) : B ≤ q ∧ n ≤ c ∧ ∃ cur, w.heap[q]? = some (.cells cur e (0, 0)) ∧ n ≤ cur.size ∧ cur.toList.take n = xs := by
  rcases h.2 with ⟨h2, _⟩ | ⟨g, cap, cur, e1, hg, hh, hn2, hc, hsz, ht⟩
  · cases h2
  · injection e1 with e1 e2 e3
    injection e1 with e1
    injection e1 with e1 _ _
    subst e1; subst e3
    rw [Nat.mul_one] at hsz ht
    exact ⟨hg, hn2, cur, hh, by omega, ht⟩
theorem own_fr {w w' : World} {B n c q : Nat} {e : TypeId} {xs : List Value} (h : w.ownsRow B e 1 (.slice (some ⟨q, 0, none⟩) n c) n xs) (hq : w'.heap[q]? = w.heap[q]?) : w'.ownsRow B e 1 (.slice (some ⟨q, 0, none⟩) n c) n xs :=
  own_frame h fun g hg _ => by cases hg; exact hq
theorem own_cellV {w : World} {B n i : Nat} {e : TypeId} {v u : Value} {xs : List Value} (h : w.ownsRow B e 1 v n xs) (hu : xs[i]? = some u) : ∃ g c, v = .slice (some ⟨g, 0, none⟩) n c ∧ B ≤ g ∧ g < w.heap.size ∧ w.cell? ⟨g, i, none⟩ = some u ∧ w.frozen? ⟨g, i, none⟩ = false ∧ ∃ cur, w.heap[g]? = some (.cells cur e (0, 0)) := by
  obtain ⟨h1, h2⟩ := h
  rw [Nat.mul_one] at h1
  have hi := (List.getElem?_eq_some_iff.1 hu).1
  rcases h2 with ⟨h2, h3⟩ | ⟨g, cap, cur, e1, hg, hh, hn2, hc, hsz, ht⟩
  · omega
  · subst e1
    rw [Nat.mul_one] at ht
    refine ⟨g, cap, rfl, hg, lt_of_block hh, ?_, frozen_of_block hh, cur, hh⟩
    rw [cell_of_block hh, ← hu, ← ht, List.getElem?_take, if_pos (by omega), Array.getElem?_toList]
theorem own_setV {w : World} {B n c g i : Nat} {e : TypeId} {xs : List Value} (u : Value) (h : w.ownsRow B e 1 (.slice (some ⟨g, 0, none⟩) n c) n xs) : (w.setCell ⟨g, i, none⟩ u).ownsRow B e 1 (.slice (some ⟨g, 0, none⟩) n c) n (xs.set i u) := by
  obtain ⟨h1, h2⟩ := h
  rw [Nat.mul_one] at h1
  rcases h2 with ⟨h2, _⟩ | ⟨g', cap, cur, e1, hg, hh, hn2, hc, hsz, ht⟩
  · cases h2
  · injection e1 with e1 e2 e3
    injection e1 with e1
    injection e1 with e1 _ _
    subst e1; subst e3
    refine ⟨by rw [List.length_set, Nat.mul_one]; exact h1, .inr ⟨g, c, cur.setIfInBounds i u, rfl, hg, heap_setCell_same w g i cur e _ hh, hn2, hc, by simpa using hsz, ?_⟩⟩
    rw [Nat.mul_one] at ht ⊢
    rw [← ht, Array.toList_setIfInBounds, List.take_set]

/-- A row's header. -/
def hdr (p c : Nat → Nat) (X : Nat → List Nat) (i : Nat) : Value := .slice (some ⟨p i, 0, none⟩) (X i).length (c i)
/-- Rows of rows, the first K of them laid. -/
structure GridTo (w : World) (B : Nat) (v : Value) (N K : Nat) (p c : Nat → Nat) (X : Nat → List Nat) : Prop where
  own : ∃ vs, w.ownsRow B 31 1 v N vs ∧ ∀ i, i < K → vs[i]? = some (hdr p c X i)
  row : ∀ i, i < K → w.ownsRow B 5 1 (hdr p c X i) (X i).length (bs (X i))
  inj : ∀ i j, i < K → j < K → p i = p j → i = j
  le : K ≤ N
theorem GridTo.heap {w w' : World} {B N K : Nat} {v : Value} {p c : Nat → Nat} {X : Nat → List Nat} (h : GridTo w B v N K p c X) (hb : ∀ b, B ≤ b → b < w.heap.size → w'.heap[b]? = w.heap[b]?) : GridTo w' B v N K p c X := by
  obtain ⟨⟨vs, h1, h2⟩, h3, h4, h5⟩ := h
  exact ⟨⟨vs, own_frame h1 fun g hg hl => hb g (own_lt h1 hg).1 hl, h2⟩, fun i hi => own_frame (h3 i hi) fun g hg hl => hb g (own_lt (h3 i hi) hg).1 hl, h4, h5⟩
theorem GridTo.below {w w' : World} {B N K : Nat} {v : Value} {p c : Nat → Nat} {X : Nat → List Nat} (h : GridTo w B v N K p c X) (hB : Below w.heap.size w w') : GridTo w' B v N K p c X := h.heap fun b _ hb => hB.block b hb
theorem GridTo.mono {w : World} {B B' N K : Nat} {v : Value} {p c : Nat → Nat} {X : Nat → List Nat} (h : GridTo w B v N K p c X) (hb : B' ≤ B) : GridTo w B' v N K p c X := by
  obtain ⟨⟨vs, ⟨h0, h1⟩, h2⟩, h3, h4, h5⟩ := h
  refine ⟨⟨vs, ⟨h0, ?_⟩, h2⟩, fun i hi => own_mono (h3 i hi) hb, h4, h5⟩
  rcases h1 with h1 | ⟨g, cap, cur, rfl, hg, hh, hn⟩
  · exact .inl h1
  · exact .inr ⟨g, cap, cur, rfl, Nat.le_trans hb hg, hh, hn⟩
theorem GridTo.congr {w : World} {B N K : Nat} {v : Value} {p c : Nat → Nat} {X Y : Nat → List Nat} (h : GridTo w B v N K p c X) (e : ∀ i, i < K → Y i = X i) : GridTo w B v N K p c Y := by
  obtain ⟨⟨vs, h1, h2⟩, h3, h4, h5⟩ := h
  have eh : ∀ i, i < K → hdr p c Y i = hdr p c X i := fun i hi => by unfold hdr; rw [e i hi]
  exact ⟨⟨vs, h1, fun i hi => (h2 i hi).trans (by rw [eh i hi])⟩, fun i hi => by rw [eh i hi, e i hi]; exact h3 i hi, h4, h5⟩
theorem GridTo.slice {w : World} {B N K : Nat} {v : Value} {p c : Nat → Nat} {X : Nat → List Nat} (h : GridTo w B v N K p c X) : ∃ a d, v = .slice a N d := by
  obtain ⟨vs, h1, h2⟩ := h.own
  rcases h1.2 with ⟨rfl, rfl⟩ | ⟨g, cap, cur, rfl, _⟩
  · exact ⟨_, _, rfl⟩
  · exact ⟨_, _, rfl⟩
/-- What can be read of it. -/
theorem GridTo.cell {w : World} {B N K i : Nat} {v : Value} {p c : Nat → Nat} {X : Nat → List Nat} (h : GridTo w B v N K p c X) (hi : i < K) : ∃ g d, v = .slice (some ⟨g, 0, none⟩) N d ∧ B ≤ g ∧ g < w.heap.size ∧ w.cell? ⟨g, i, none⟩ = some (.slice (some ⟨p i, 0, none⟩) (X i).length (c i)) ∧ w.frozen? ⟨g, i, none⟩ = false ∧ (∀ j, j < K → p j ≠ g) ∧ B ≤ p i ∧ p i < w.heap.size ∧ (X i).length ≤ c i := by
  obtain ⟨vs, h1, h2⟩ := h.own
  obtain ⟨g, d, rfl, hg, hlt, hc, hf, cur, hcur⟩ := own_cellV h1 (h2 i hi)
  obtain ⟨b1, b2, cur', hcur', _⟩ := own_blk (h.row i hi)
  refine ⟨g, d, rfl, hg, hlt, hc, hf, fun j hj e => ?_, b1, lt_of_block hcur', b2⟩
  obtain ⟨_, _, cur2, hcur2, _⟩ := own_blk (h.row j hj)
  rw [e, hcur] at hcur2
  injection hcur2 with hcur2
  injection hcur2 with _ h3 _
  exact absurd h3 (by decide)
theorem GridTo.rb {w : World} {B N K i : Nat} {v : Value} {p c : Nat → Nat} {X : Nat → List Nat} (h : GridTo w B v N K p c X) (hi : i < K) (hs : Small (X i)) (hl : (X i).length ≤ 100000) : RB w (some ⟨p i, 0, none⟩) (X i).length (c i) (X i) := own_rb2 (h.row i hi) hs (by omega)
theorem GridTo.rr {w : World} {B N : Nat} {v : Value} {p c : Nat → Nat} {X : Nat → List Nat} (h : GridTo w B v N N p c X) (hs : ∀ i, i < N → Small (X i) ∧ (X i).length ≤ 100000) : RR w v N X := by
  obtain ⟨a, d, hv⟩ := h.slice
  refine ⟨a, d, hv, fun k hk => ?_⟩
  obtain ⟨g, d', e, _, _, hc, _⟩ := h.cell hk
  rw [hv] at e
  injection e with e1 _ _
  exact ⟨g, 0, _, _, _, e1, (by rw [Nat.zero_add]; exact hc), h.rb hk (hs k hk).1 (hs k hk).2⟩
/-- One row's bytes have turned. -/
theorem GridTo.turn {w w' : World} {B N K i : Nat} {v : Value} {p c : Nat → Nat} {X : Nat → List Nat} {l : List Nat} (h : GridTo w B v N K p c X) (hi : i < K) (hO : Only (p i) w w') (hl : l.length = (X i).length) (hr : w'.ownsRow B 5 1 (.slice (some ⟨p i, 0, none⟩) (X i).length (c i)) (X i).length (bs l)) :
    GridTo w' B v N K p c fun j => if j = i then l else X j := by
  obtain ⟨g, d, hv, _, hg, _, _, hne, _⟩ := h.cell hi
  obtain ⟨⟨vs, h1, h2⟩, h3, h4, h5⟩ := h
  have el : ∀ j, (if j = i then l else X j).length = (X j).length := fun j => by
    by_cases e : j = i
    · subst e; rw [if_pos rfl, hl]
    · rw [if_neg e]
  have eh : ∀ j, hdr p c (fun j => if j = i then l else X j) j = hdr p c X j := fun j => by unfold hdr; rw [el j]
  refine ⟨⟨vs, own_frame h1 fun b hb hlt => hO.block b hlt (fun e => ?_), fun j hj => by rw [eh j]; exact h2 j hj⟩, fun j hj => ?_, h4, h5⟩
  · rw [hv] at hb
    cases hb
    exact hne i hi e.symm
  · show w'.ownsRow B 5 1 (hdr p c _ j) (if j = i then l else X j).length (bs (if j = i then l else X j))
    rw [eh j, el j]
    by_cases e : j = i
    · subst e; rw [if_pos rfl]; exact hr
    · rw [if_neg e]
      refine own_frame (h3 j hj) fun b hb hlt => hO.block b hlt fun e2 => ?_
      cases hb
      exact e (h4 j i hj hi e2)
/-- A row is stored: the next one, or in place of one. -/
theorem GridTo.put {w w' : World} {B N K i q d g n : Nat} {v : Value} {p c : Nat → Nat} {X : Nat → List Nat} {l : List Nat} (h : GridTo w B v N K p c X) (hv : v = .slice (some ⟨g, 0, none⟩) N n) (hi : i < N) (hiK : i ≤ K) (hr : w.ownsRow B 5 1 (.slice (some ⟨q, 0, none⟩) l.length d) l.length (bs l))
    (hq : ∀ j, j < K → j ≠ i → p j ≠ q) (hw : w' = w.setCell ⟨g, i, none⟩ (.slice (some ⟨q, 0, none⟩) l.length d)) :
    GridTo w' B v N (max K (i + 1)) (fun j => if j = i then q else p j) (fun j => if j = i then d else c j) fun j => if j = i then l else X j := by
  subst hw
  obtain ⟨⟨vs, h1, h2⟩, h3, h4, h5⟩ := h
  subst hv
  obtain ⟨_, _, cur, hcur, _⟩ := own_blk h1
  have hlen : vs.length = N := by have := h1.1; rwa [Nat.mul_one] at this
  have hne : ∀ {b m e : Nat} {y : List Nat}, w.ownsRow B 5 1 (.slice (some ⟨b, 0, none⟩) m e) m (bs y) → b ≠ g := fun ho e => by
    obtain ⟨_, _, cur2, hcur2, _⟩ := own_blk ho
    subst e
    rw [hcur] at hcur2
    injection hcur2 with hcur2
    injection hcur2 with _ h3 _
    exact absurd h3 (by decide)
  refine ⟨⟨vs.set i (.slice (some ⟨q, 0, none⟩) l.length d), own_setV _ h1, fun j hj => ?_⟩, fun j hj => ?_, fun j k hj hk e => ?_, by omega⟩
  · rw [List.getElem?_set]
    by_cases e : i = j
    · subst e
      rw [if_pos rfl, if_pos (by omega)]
      unfold hdr
      simp only [if_pos]
    · rw [if_neg e, h2 j (by omega)]
      unfold hdr
      simp only [if_neg (fun e' : j = i => e e'.symm)]
  · by_cases e : j = i
    · subst e
      unfold hdr
      simp only [if_pos]
      exact own_fr hr (heap_setCell_other w ⟨g, _, none⟩ q _ (hne hr))
    · have := h3 j (by omega)
      unfold hdr at this ⊢
      simp only [if_neg e]
      exact own_fr this (heap_setCell_other w ⟨g, _, none⟩ (p j) _ (hne this))
  · by_cases ej : j = i
    · by_cases ek : k = i
      · omega
      · rw [if_pos ej, if_neg ek] at e
        exact absurd e.symm (hq k (by omega) ek)
    · by_cases ek : k = i
      · rw [if_neg ej, if_pos ek] at e
        exact absurd e (hq j (by omega) ej)
      · rw [if_neg ej, if_neg ek] at e
        exact h4 j k (by omega) (by omega) e
/-- Two rows change places. -/
theorem GridTo.swap {w w' : World} {B N a b g n : Nat} {v : Value} {p c : Nat → Nat} {X : Nat → List Nat} (h : GridTo w B v N N p c X) (hv : v = .slice (some ⟨g, 0, none⟩) N n) (ha : a < N) (hb : b < N)
    (hw : w'.heap = ((w.setCell ⟨g, a, none⟩ (.slice (some ⟨p b, 0, none⟩) (X b).length (c b))).setCell ⟨g, b, none⟩ (.slice (some ⟨p a, 0, none⟩) (X a).length (c a))).heap) :
    GridTo w' B v N N (fun j => if j = b then p a else if j = a then p b else p j) (fun j => if j = b then c a else if j = a then c b else c j) (Gf.swp X a b) := by
  obtain ⟨⟨vs, h1, h2⟩, h3, h4, h5⟩ := h
  subst hv
  obtain ⟨_, _, cur, hcur, _⟩ := own_blk h1
  have hlen : vs.length = N := by have := h1.1; rwa [Nat.mul_one] at this
  have hne : ∀ j, j < N → p j ≠ g := fun j hj e => by
    obtain ⟨_, _, cur2, hcur2, _⟩ := own_blk (h3 j hj)
    rw [e, hcur] at hcur2
    injection hcur2 with hcur2
    injection hcur2 with _ h3 _
    exact absurd h3 (by decide)
  have hblk : ∀ j, j < N → w'.heap[p j]? = w.heap[p j]? := fun j hj => by
    rw [hw, heap_setCell_other _ ⟨g, _, none⟩ (p j) _ (hne j hj), heap_setCell_other _ ⟨g, _, none⟩ (p j) _ (hne j hj)]
  have hout : w'.ownsRow B 31 1 (.slice (some ⟨g, 0, none⟩) N n) N ((vs.set a (.slice (some ⟨p b, 0, none⟩) (X b).length (c b))).set b (.slice (some ⟨p a, 0, none⟩) (X a).length (c a))) := by
    have := own_setV (i := b) (.slice (some ⟨p a, 0, none⟩) (X a).length (c a)) (own_setV (i := a) (.slice (some ⟨p b, 0, none⟩) (X b).length (c b)) h1)
    unfold World.ownsRow at this ⊢
    rw [hw]; exact this
  have eh : ∀ j, j < N → hdr (fun j => if j = b then p a else if j = a then p b else p j) (fun j => if j = b then c a else if j = a then c b else c j) (Gf.swp X a b) j = if j = b then hdr p c X a else if j = a then hdr p c X b else hdr p c X j := fun j _ => by
    unfold hdr Gf.swp
    by_cases e1 : j = b
    · simp only [if_pos e1]
    · simp only [if_neg e1]
      by_cases e2 : j = a
      · simp only [if_pos e2]
      · simp only [if_neg e2]
  refine ⟨⟨_, hout, fun j hj => ?_⟩, fun j hj => ?_, fun j k hj hk e => ?_, Nat.le_refl _⟩
  · rw [eh j hj, List.getElem?_set, List.length_set]
    by_cases e1 : j = b
    · subst e1
      rw [if_pos rfl, if_pos (by omega), if_pos rfl]; rfl
    · rw [if_neg (fun e => e1 e.symm), if_neg e1, List.getElem?_set]
      by_cases e2 : j = a
      · subst e2
        rw [if_pos rfl, if_pos (by omega), if_pos rfl]; rfl
      · rw [if_neg (fun e => e2 e.symm), if_neg e2]; exact h2 j hj
  · rw [eh j hj]
    unfold Gf.swp
    by_cases e1 : j = b
    · simp only [if_pos e1]; exact own_fr (h3 a ha) (hblk a ha)
    · simp only [if_neg e1]
      by_cases e2 : j = a
      · simp only [if_pos e2]; exact own_fr (h3 b hb) (hblk b hb)
      · simp only [if_neg e2]; exact own_fr (h3 j hj) (hblk j hj)
  · by_cases j1 : j = b
    · by_cases k1 : k = b
      · omega
      · rw [if_pos j1, if_neg k1] at e
        by_cases k2 : k = a
        · rw [if_pos k2] at e; have := h4 a b ha hb e; omega
        · rw [if_neg k2] at e; have := h4 a k ha hk e; omega
    · rw [if_neg j1] at e
      by_cases k1 : k = b
      · rw [if_pos k1] at e
        by_cases j2 : j = a
        · rw [if_pos j2] at e; have := h4 b a hb ha e; omega
        · rw [if_neg j2] at e; have := h4 j a hj ha e; omega
      · rw [if_neg k1] at e
        by_cases j2 : j = a
        · rw [if_pos j2] at e
          by_cases k2 : k = a
          · omega
          · rw [if_neg k2] at e; have := h4 b k hb hk e; omega
        · rw [if_neg j2] at e
          by_cases k2 : k = a
          · rw [if_pos k2] at e; have := h4 j b hj hb e; omega
          · rw [if_neg k2] at e; exact h4 j k hj hk e
end Go.Proofs.Ytokeoodkioobdaa
