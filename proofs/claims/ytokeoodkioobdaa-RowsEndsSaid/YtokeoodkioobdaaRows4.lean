/- Rows of rows that a call owns, no two rows in one block: cells, stores, frames. Conditions: none. -/
import Derived.Test.YtokeoodkioobdaaRRow
import Derived.Test.YtokeoodkioobdaaRowsC
namespace Go.Proofs.Ytokeoodkioobdaa
open Go.RowKit

/-- A list by an owned row: its block, its cells. -/
theorem own_blk {w : World} {B n c q : Nat} {e : TypeId} {xs : List Value} (h : w.ownsRow B e 1 (.slice (some ⟨q, 0, none⟩) n c) n xs) : B ≤ q ∧ n ≤ c ∧ ∃ cur, w.heap[q]? = some (.cells cur e (0, 0)) ∧ n ≤ cur.size ∧ cur.toList.take n = xs := by
  rcases h.2 with ⟨h2, _⟩ | ⟨g, cap, cur, e1, hg, hh, hn2, hc, hsz, ht⟩
  · cases h2
  · injection e1 with e1 e2 e3
    injection e1 with e1
    injection e1 with e1 _ _
    subst e1; subst e3
    rw [Nat.mul_one] at hsz ht
    exact ⟨hg, hn2, cur, hh, by omega, ht⟩
theorem own_fr {w w' : World} {B n c q : Nat} {e : TypeId} {xs : List Value} (h : w.ownsRow B e 1 (.slice (some ⟨q, 0, none⟩) n c) n xs) (hq : w'.heap[q]? = w.heap[q]?) : w'.ownsRow B e 1 (.slice (some ⟨q, 0, none⟩) n c) n xs :=
  own_frame h fun g hg _ => by cases hg; exact hq
theorem own_cellV {w : World} {B n i : Nat} {e : TypeId} {v u : Value} {xs : List Value} (h : w.ownsRow B e 1 v n xs) (hu : xs[i]? = some u) : ∃ g c, v = .slice (some ⟨g, 0, none⟩) n c ∧ B ≤ g ∧ g < w.heap.size ∧ w.cell? ⟨g, i, none⟩ = some u ∧ w.frozen? ⟨g, i, none⟩ = false ∧ ∃ cur, w.heap[g]? = some (.cells cur e (0, 0)) := by
  obtain ⟨h1, h2⟩ := h
  rw [Nat.mul_one] at h1
  have hi := (List.getElem?_eq_some_iff.1 hu).1
  rcases h2 with ⟨h2, h3⟩ | ⟨g, cap, cur, e1, hg, hh, hn2, hc, hsz, ht⟩
  · omega
  · subst e1
    rw [Nat.mul_one] at ht
    refine ⟨g, cap, rfl, hg, lt_of_block hh, ?_, frozen_of_block hh, cur, hh⟩
    rw [cell_of_block hh, ← hu, ← ht, List.getElem?_take, if_pos (by omega), Array.getElem?_toList]
theorem own_setV {w : World} {B n c g i : Nat} {e : TypeId} {xs : List Value} (u : Value) (h : w.ownsRow B e 1 (.slice (some ⟨g, 0, none⟩) n c) n xs) : (w.setCell ⟨g, i, none⟩ u).ownsRow B e 1 (.slice (some ⟨g, 0, none⟩) n c) n (xs.set i u) := by
  obtain ⟨h1, h2⟩ := h
  rw [Nat.mul_one] at h1
  rcases h2 with ⟨h2, _⟩ | ⟨g', cap, cur, e1, hg, hh, hn2, hc, hsz, ht⟩
  · cases h2
  · injection e1 with e1 e2 e3
    injection e1 with e1
    injection e1 with e1 _ _
    subst e1; subst e3
    refine ⟨by rw [List.length_set, Nat.mul_one]; exact h1, .inr ⟨g, c, cur.setIfInBounds i u, rfl, hg, heap_setCell_same w g i cur e _ hh, hn2, hc, by simpa using hsz, ?_⟩⟩
    rw [Nat.mul_one] at ht ⊢
    rw [← ht, Array.toList_setIfInBounds, List.take_set]

/-- A row's header. -/
def hdr (p c : Nat → Nat) (X : Nat → List Nat) (i : Nat) : Value := .slice (some ⟨p i, 0, none⟩) (X i).length (c i)
/-- Rows of rows, the first K of them laid. -/
structure GridTo (w : World) (B : Nat) (v : Value) (N K : Nat) (p c : Nat → Nat) (X : Nat → List Nat) : Prop where
  own : ∃ vs, w.ownsRow B 31 1 v N vs ∧ ∀ i, i < K → vs[i]? = some (hdr p c X i)
  row : ∀ i, i < K → w.ownsRow B 5 1 (hdr p c X i) (X i).length (bs (X i))
  inj : ∀ i j, i < K → j < K → p i = p j → i = j
  le : K ≤ N
theorem GridTo.heap {w w' : World} {B N K : Nat} {v : Value} {p c : Nat → Nat} {X : Nat → List Nat} (h : GridTo w B v N K p c X) (hb : ∀ b, B ≤ b → b < w.heap.size → w'.heap[b]? = w.heap[b]?) : GridTo w' B v N K p c X := by
  obtain ⟨⟨vs, h1, h2⟩, h3, h4, h5⟩ := h
  exact ⟨⟨vs, own_frame h1 fun g hg hl => hb g (own_lt h1 hg).1 hl, h2⟩, fun i hi => own_frame (h3 i hi) fun g hg hl => hb g (own_lt (h3 i hi) hg).1 hl, h4, h5⟩
theorem GridTo.below {w w' : World} {B N K : Nat} {v : Value} {p c : Nat → Nat} {X : Nat → List Nat} (h : GridTo w B v N K p c X) (hB : Below w.heap.size w w') : GridTo w' B v N K p c X := h.heap fun b _ hb => hB.block b hb
theorem GridTo.mono {w : World} {B B' N K : Nat} {v : Value} {p c : Nat → Nat} {X : Nat → List Nat} (h : GridTo w B v N K p c X) (hb : B' ≤ B) : GridTo w B' v N K p c X := by
  obtain ⟨⟨vs, ⟨h0, h1⟩, h2⟩, h3, h4, h5⟩ := h
  refine ⟨⟨vs, ⟨h0, ?_⟩, h2⟩, fun i hi => own_mono (h3 i hi) hb, h4, h5⟩
  rcases h1 with h1 | ⟨g, cap, cur, rfl, hg, hh, hn⟩
  · exact .inl h1
  · exact .inr ⟨g, cap, cur, rfl, Nat.le_trans hb hg, hh, hn⟩
theorem GridTo.congr {w : World} {B N K : Nat} {v : Value} {p c : Nat → Nat} {X Y : Nat → List Nat} (h : GridTo w B v N K p c X) (e : ∀ i, i < K → Y i = X i) : GridTo w B v N K p c Y := by
  obtain ⟨⟨vs, h1, h2⟩, h3, h4, h5⟩ := h
  have eh : ∀ i, i < K → hdr p c Y i = hdr p c X i := fun i hi => by unfold hdr; rw [e i hi]
  exact ⟨⟨vs, h1, fun i hi => (h2 i hi).trans (by rw [eh i hi])⟩, fun i hi => by rw [eh i hi, e i hi]; exact h3 i hi, h4, h5⟩
theorem GridTo.slice {w : World} {B N K : Nat} {v : Value} {p c : Nat → Nat} {X : Nat → List Nat} (h : GridTo w B v N K p c X) : ∃ a d, v = .slice a N d := by
  obtain ⟨vs, h1, h2⟩ := h.own
  rcases h1.2 with ⟨rfl, rfl⟩ | ⟨g, cap, cur, rfl, _⟩
  · exact ⟨_, _, rfl⟩
  · exact ⟨_, _, rfl⟩
/-- What can be read of it. -/
theorem GridTo.cell {w : World} {B N K i : Nat} {v : Value} {p c : Nat → Nat} {X : Nat → List Nat} (h : GridTo w B v N K p c X) (hi : i < K) : ∃ g d, v = .slice (some ⟨g, 0, none⟩) N d ∧ B ≤ g ∧ g < w.heap.size ∧ w.cell? ⟨g, i, none⟩ = some (.slice (some ⟨p i, 0, none⟩) (X i).length (c i)) ∧ w.frozen? ⟨g, i, none⟩ = false ∧ (∀ j, j < K → p j ≠ g) ∧ B ≤ p i ∧ p i < w.heap.size ∧ (X i).length ≤ c i := by
  obtain ⟨vs, h1, h2⟩ := h.own
  obtain ⟨g, d, rfl, hg, hlt, hc, hf, cur, hcur⟩ := own_cellV h1 (h2 i hi)
  obtain ⟨b1, b2, cur', hcur', _⟩ := own_blk (h.row i hi)
  refine ⟨g, d, rfl, hg, hlt, hc, hf, fun j hj e => ?_, b1, lt_of_block hcur', b2⟩
  obtain ⟨_, _, cur2, hcur2, _⟩ := own_blk (h.row j hj)
  rw [e, hcur] at hcur2
  injection hcur2 with hcur2
  injection hcur2 with _ h3 _
  exact absurd h3 (by decide)
theorem GridTo.rb {w : World} {B N K i : Nat} {v : Value} {p c : Nat → Nat} {X : Nat → List Nat} (h : GridTo w B v N K p c X) (hi : i < K) (hs : Small (X i)) (hl : (X i).length ≤ 100000) : RB w (some ⟨p i, 0, none⟩) (X i).length (c i) (X i) := own_rb2 (h.row i hi) hs (by omega)
theorem GridTo.rr {w : World} {B N : Nat} {v : Value} {p c : Nat → Nat} {X : Nat → List Nat} (h : GridTo w B v N N p c X) (hs : ∀ i, i < N → Small (X i) ∧ (X i).length ≤ 100000) : RR w v N X := by
  obtain ⟨a, d, hv⟩ := h.slice
  refine ⟨a, d, hv, fun k hk => ?_⟩
  obtain ⟨g, d', e, _, _, hc, _⟩ := h.cell hk
  rw [hv] at e
  injection e with e1 _ _
  exact ⟨g, 0, _, _, _, e1, (by rw [Nat.zero_add]; exact hc), h.rb hk (hs k hk).1 (hs k hk).2⟩
/-- One row's bytes have turned. -/
theorem GridTo.turn {w w' : World} {B N K i : Nat} {v : Value} {p c : Nat → Nat} {X : Nat → List Nat} {l : List Nat} (h : GridTo w B v N K p c X) (hi : i < K) (hO : Only (p i) w w') (hl : l.length = (X i).length) (hr : w'.ownsRow B 5 1 (.slice (some ⟨p i, 0, none⟩) (X i).length (c i)) (X i).length (bs l)) :
    GridTo w' B v N K p c fun j => if j = i then l else X j := by
  obtain ⟨g, d, hv, _, hg, _, _, hne, _⟩ := h.cell hi
  obtain ⟨⟨vs, h1, h2⟩, h3, h4, h5⟩ := h
  have el : ∀ j, (if j = i then l else X j).length = (X j).length := fun j => by
    by_cases e : j = i
    · subst e; rw [if_pos rfl, hl]
    · rw [if_neg e]
  have eh : ∀ j, hdr p c (fun j => if j = i then l else X j) j = hdr p c X j := fun j => by unfold hdr; rw [el j]
  refine ⟨⟨vs, own_frame h1 fun b hb hlt => hO.block b hlt (fun e => ?_), fun j hj => by rw [eh j]; exact h2 j hj⟩, fun j hj => ?_, h4, h5⟩
  · rw [hv] at hb
    cases hb
    exact hne i hi e.symm
  · show w'.ownsRow B 5 1 (hdr p c _ j) (if j = i then l else X j).length (bs (if j = i then l else X j))
    rw [eh j, el j]
    by_cases e : j = i
    · subst e; rw [if_pos rfl]; exact hr
    · rw [if_neg e]
      refine own_frame (h3 j hj) fun b hb hlt => hO.block b hlt fun e2 => ?_
      cases hb
      exact e (h4 j i hj hi e2)
/-- A row is stored: the next one, or in place of one. -/
theorem GridTo.put {w w' : World} {B N K i q d g n : Nat} {v : Value} {p c : Nat → Nat} {X : Nat → List Nat} {l : List Nat} (h : GridTo w B v N K p c X) (hv : v = .slice (some ⟨g, 0, none⟩) N n) (hi : i < N) (hiK : i ≤ K) (hr : w.ownsRow B 5 1 (.slice (some ⟨q, 0, none⟩) l.length d) l.length (bs l))
    (hq : ∀ j, j < K → j ≠ i → p j ≠ q) (hw : w' = w.setCell ⟨g, i, none⟩ (.slice (some ⟨q, 0, none⟩) l.length d)) :
    GridTo w' B v N (max K (i + 1)) (fun j => if j = i then q else p j) (fun j => if j = i then d else c j) fun j => if j = i then l else X j := by
  subst hw
  obtain ⟨⟨vs, h1, h2⟩, h3, h4, h5⟩ := h
  subst hv
  obtain ⟨_, _, cur, hcur, _⟩ := own_blk h1
  have hlen : vs.length = N := by have := h1.1; rwa [Nat.mul_one] at this
  have hne : ∀ {b m e : Nat} {y : List Nat}, w.ownsRow B 5 1 (.slice (some ⟨b, 0, none⟩) m e) m (bs y) → b ≠ g := fun ho e => by
    obtain ⟨_, _, cur2, hcur2, _⟩ := own_blk ho
    subst e
    rw [hcur] at hcur2
    injection hcur2 with hcur2
    injection hcur2 with _ h3 _
    exact absurd h3 (by decide)
  refine ⟨⟨vs.set i (.slice (some ⟨q, 0, none⟩) l.length d), own_setV _ h1, fun j hj => ?_⟩, fun j hj => ?_, fun j k hj hk e => ?_, by omega⟩
  · rw [List.getElem?_set]
    by_cases e : i = j
    · subst e
      rw [if_pos rfl, if_pos (by omega)]
      unfold hdr
      simp only [if_pos]
    · rw [if_neg e, h2 j (by omega)]
      unfold hdr
      simp only [if_neg (fun e' : j = i => e e'.symm)]
  · by_cases e : j = i
    · subst e
      unfold hdr
      simp only [if_pos]
      exact own_fr hr (heap_setCell_other w ⟨g, _, none⟩ q _ (hne hr))
    · have := h3 j (by omega)
      unfold hdr at this ⊢
      simp only [if_neg e]
      exact own_fr this (heap_setCell_other w ⟨g, _, none⟩ (p j) _ (hne this))
  · by_cases ej : j = i
    · by_cases ek : k = i
      · omega
      · rw [if_pos ej, if_neg ek] at e
        exact absurd e.symm (hq k (by omega) ek)
    · by_cases ek : k = i
      · rw [if_neg ej, if_pos ek] at e
        exact absurd e (hq j (by omega) ej)
      · rw [if_neg ej, if_neg ek] at e
        exact h4 j k (by omega) (by omega) e
/-- Two rows change places. -/
theorem GridTo.swap {w w' : World} {B N a b g n : Nat} {v : Value} {p c : Nat → Nat} {X : Nat → List Nat} (h : GridTo w B v N N p c X) (hv : v = .slice (some ⟨g, 0, none⟩) N n) (ha : a < N) (hb : b < N)
    (hw : w'.heap = ((w.setCell ⟨g, a, none⟩ (.slice (some ⟨p b, 0, none⟩) (X b).length (c b))).setCell ⟨g, b, none⟩ (.slice (some ⟨p a, 0, none⟩) (X a).length (c a))).heap) :
    GridTo w' B v N N (fun j => if j = b then p a else if j = a then p b else p j) (fun j => if j = b then c a else if j = a then c b else c j) (Gf.swp X a b) := by
  obtain ⟨⟨vs, h1, h2⟩, h3, h4, h5⟩ := h
  subst hv
  obtain ⟨_, _, cur, hcur, _⟩ := own_blk h1
  have hlen : vs.length = N := by have := h1.1; rwa [Nat.mul_one] at this
  have hne : ∀ j, j < N → p j ≠ g := fun j hj e => by
    obtain ⟨_, _, cur2, hcur2, _⟩ := own_blk (h3 j hj)
    rw [e, hcur] at hcur2
    injection hcur2 with hcur2
    injection hcur2 with _ h3 _
    exact absurd h3 (by decide)
  have hblk : ∀ j, j < N → w'.heap[p j]? = w.heap[p j]? := fun j hj => by
    rw [hw, heap_setCell_other _ ⟨g, _, none⟩ (p j) _ (hne j hj), heap_setCell_other _ ⟨g, _, none⟩ (p j) _ (hne j hj)]
  have hout : w'.ownsRow B 31 1 (.slice (some ⟨g, 0, none⟩) N n) N ((vs.set a (.slice (some ⟨p b, 0, none⟩) (X b).length (c b))).set b (.slice (some ⟨p a, 0, none⟩) (X a).length (c a))) := by
    have := own_setV (i := b) (.slice (some ⟨p a, 0, none⟩) (X a).length (c a)) (own_setV (i := a) (.slice (some ⟨p b, 0, none⟩) (X b).length (c b)) h1)
    unfold World.ownsRow at this ⊢
    rw [hw]; exact this
  have eh : ∀ j, j < N → hdr (fun j => if j = b then p a else if j = a then p b else p j) (fun j => if j = b then c a else if j = a then c b else c j) (Gf.swp X a b) j = if j = b then hdr p c X a else if j = a then hdr p c X b else hdr p c X j := fun j _ => by
    unfold hdr Gf.swp
    by_cases e1 : j = b
    · simp only [if_pos e1]
    · simp only [if_neg e1]
      by_cases e2 : j = a
      · simp only [if_pos e2]
      · simp only [if_neg e2]
  refine ⟨⟨_, hout, fun j hj => ?_⟩, fun j hj => ?_, fun j k hj hk e => ?_, Nat.le_refl _⟩
  · rw [eh j hj, List.getElem?_set, List.length_set]
    by_cases e1 : j = b
    · subst e1
      rw [if_pos rfl, if_pos (by omega), if_pos rfl]; rfl
    · rw [if_neg (fun e => e1 e.symm), if_neg e1, List.getElem?_set]
      by_cases e2 : j = a
      · subst e2
        rw [if_pos rfl, if_pos (by omega), if_pos rfl]; rfl
      · rw [if_neg (fun e => e2 e.symm), if_neg e2]; exact h2 j hj
  · rw [eh j hj]
    unfold Gf.swp
    by_cases e1 : j = b
    · simp only [if_pos e1]; exact own_fr (h3 a ha) (hblk a ha)
    · simp only [if_neg e1]
      by_cases e2 : j = a
      · simp only [if_pos e2]; exact own_fr (h3 b hb) (hblk b hb)
      · simp only [if_neg e2]; exact own_fr (h3 j hj) (hblk j hj)
  · by_cases j1 : j = b
    · by_cases k1 : k = b
      · omega
      · rw [if_pos j1, if_neg k1] at e
        by_cases k2 : k = a
        · rw [if_pos k2] at e; have := h4 a b ha hb e; omega
        · rw [if_neg k2] at e; have := h4 a k ha hk e; omega
    · rw [if_neg j1] at e
      by_cases k1 : k = b
      · rw [if_pos k1] at e
        by_cases j2 : j = a
        · rw [if_pos j2] at e; have := h4 b a hb ha e; omega
        · rw [if_neg j2] at e; have := h4 j a hj ha e; omega
      · rw [if_neg k1] at e
        by_cases j2 : j = a
        · rw [if_pos j2] at e
          by_cases k2 : k = a
          · omega
          · rw [if_neg k2] at e; have := h4 b k hb hk e; omega
        · rw [if_neg j2] at e
          by_cases k2 : k = a
          · rw [if_pos k2] at e; have := h4 j b hj hb e; omega
          · rw [if_neg k2] at e; exact h4 j k hj hk e
end Go.Proofs.Ytokeoodkioobdaa

/- The walks of rows' wide and Right, and of the reference's columns and Right. Conditions: there are at most 100000 rows. -/
namespace Go.Proofs.Ytokeoodkioobdaa
open Go.RowKit

/-- How many columns there are, by the first row. -/
def colsX (N : Nat) (X : Nat → List Nat) : Nat := if N = 0 then 0 else (X 0).length
/-- Rows that are alike long. -/
def Uni (N : Nat) (X : Nat → List Nat) : Prop := ∀ k, k < N → (X k).length = colsX N X
instance (N : Nat) (X : Nat → List Nat) : Decidable (Uni N X) := Nat.decidableBallLT N fun k _ => (X k).length = colsX N X
/-- A matrix. -/
def isM (N : Nat) (X : Nat → List Nat) : Prop := N ≤ 255 ∧ colsX N X ≤ 255 ∧ Uni N X
instance (N : Nat) (X : Nat → List Nat) : Decidable (isM N X) := by unfold isM; infer_instance
def wideX (N : Nat) (X : Nat → List Nat) : Int := if Uni N X then colsX N X else -1

set_option maxHeartbeats 1600000 in
set_option maxRecDepth 100000 in
theorem wide_any {w : World} {a : Option Addr} {N c : Nat} {X : Nat → List Nat} (hN : N ≤ 100000) (h : RR w (.slice a N c) N X) : Calls Try.prog 100 #[.slice a N c] w fun e w' => e = .returned (.int .i64 (wideX N X)) ∧ w = w' := by
  have H := Lib.hid h
  clear h
  go_enter Try.func100, Try.ntmps100
  go_wp2_with fail
  go_loopw [3, 8] (fun n i wr => ∃ k : Nat, k ≤ N ∧ i = .int .i64 k ∧ n = .int .i64 (if k = 0 then 0 else ((X 0).length : Int)) ∧ Hid (∀ j, j < k → (X j).length = (X 0).length) ∧ w = wr) (fun _ i _ => N - (intOf i).toNat)
  case atStart => exact ⟨0, by omega, rfl, rfl, fun j hj => absurd hj (Nat.not_lt_zero _), rfl⟩
  case round =>
    obtain ⟨k, hk, rfl, rfl, HU, rfl⟩ := hrel
    by_cases hk1 : k < N
    · have d3 : ((k : Int) < (N : Int)) := by omega
      obtain ⟨a', c', e, hX⟩ := H.out.shape
      injection e with e1 e2 e3
      subst e1; subst e3
      obtain ⟨b1, o1, a1, n1, c1, rfl, hc1, hr1⟩ := hX k hk1
      have hl := hr1.len
      have hm := hr1.most
      clear hX hr1
      by_cases k0 : k = 0
      · subst k0
        have q : decide ((0 : Int) < (N : Int)) = true := by simp; omega
        have q' : (0 : Int) < (N : Int) := by omega
        rw [if_pos rfl]
        rw [Nat.add_zero] at hc1
        have hfin : Hid (∀ j, j < 1 → (X j).length = (X 0).length) := fun j hj => by obtain rfl : j = 0 := by omega
                                                                                     rfl
        have HF := Lib.hid hfin
        have HL := Lib.hid hl
        clear hl hfin
        simp only [show ((0 : Nat) : Int) = 0 from rfl] at *
        go_wp2_with fail
        go_roundw
        case rel => exact ⟨1, by omega, rfl, (by rw [if_neg (by decide), HL.out]), HF.out, trivial⟩
        case measure => simp [intOf]; omega
      · have q0 : ((k : Int) == 0) = false := by simp; omega
        rw [if_neg k0]
        by_cases e : n1 = (X 0).length
        · have hfin : Hid (∀ j, j < k + 1 → (X j).length = (X 0).length) := fun j hj => by
            by_cases e2 : j = k
            · subst e2; omega
            · exact HU.out j (by omega)
          have q1 : ((n1 : Int) != ((X 0).length : Int)) = false := by simp; omega
          have HL := Lib.hid e
          clear e hl
          generalize (X 0).length = z at *
          go_wp2_with fail
          go_roundw
          case rel => exact ⟨k + 1, by omega, by go_num, (by rw [if_neg (by omega)]), hfin, trivial⟩
          case measure => simp [intOf]; omega
        · have q1 : ((n1 : Int) != ((X 0).length : Int)) = true := by simp; omega
          have hno : ¬ Uni N X := fun hu => by
            have h1 := hu k hk1
            unfold colsX at h1
            rw [if_neg (by omega)] at h1
            omega
          have hw : wideX N X = -1 := if_neg hno
          have HW := Lib.hid hw
          clear hno hw e hl
          generalize (X 0).length = z at *
          go_wp2_with fail
          go_ret
          exact ⟨by rw [HW.out]; rfl, rfl⟩
    · obtain rfl : k = N := by omega
      have hw : wideX k X = if k = 0 then 0 else ((X 0).length : Int) := by
        unfold wideX
        have hc : colsX k X = if k = 0 then 0 else (X 0).length := rfl
        rw [if_pos (show Uni k X from fun j hj => by rw [hc, if_neg (by omega)]; exact HU.out j hj), hc]
        split <;> rfl
      have HW := Lib.hid hw
      clear hw
      generalize (if k = 0 then 0 else ((X 0).length : Int)) = z at *
      go_wp2_with fail
      go_ret
      exact ⟨by rw [HW.out]; rfl, rfl⟩

theorem columns_any {w : World} {a : Option Addr} {N c : Nat} {X : Nat → List Nat} (hN : N ≤ 100000) (h : RR w (.slice a N c) N X) : Calls Try.prog 105 #[.slice a N c] w fun e w' => e = .returned (.int .i64 (colsX N X)) ∧ w = w' := by
  obtain ⟨a', c', e, hX⟩ := h.shape
  injection e with e1 e2 e3
  subst e1; subst e3
  by_cases hn : N = 0
  · subst hn
    go_enter Try.func105, Try.ntmps105
    go_wp2_with fail
    go_ret
    exact ⟨rfl, rfl⟩
  · obtain ⟨b1, o1, a1, n1, c1, rfl, hc1, hr1⟩ := hX 0 (by omega)
    rw [Nat.add_zero] at hc1
    have q : ((N : Int) == 0) = false := by simp; omega
    have q' : (0 : Int) < (N : Int) := by omega
    have q'' : 0 < N := by omega
    have HL := Lib.hid hr1.len
    clear hX hr1
    go_enter Try.func105, Try.ntmps105
    go_wp2_with fail
    go_ret
    exact ⟨by unfold colsX; rw [if_neg hn, HL.out]; rfl, rfl⟩

set_option maxRecDepth 100000 in
/-- Right of rows. -/
theorem Right_any {w : World} {a : Option Addr} {N c : Nat} {X : Nat → List Nat} (hN : N ≤ 100000) (h : RR w (.slice a N c) N X) : Calls Try.prog 80 #[.slice a N c] w fun e w' => e = .returned (.bool (decide (isM N X))) ∧ w = w' := by
  have hw := wide_any hN h
  have HW := Lib.hid hw
  have hc0 : (colsX N X : Int) < 9223372036854775808 := by
    unfold colsX
    split
    · decide
    · obtain ⟨a', c', e, hX⟩ := h.shape
      obtain ⟨_, _, _, _, _, _, _, hr⟩ := hX 0 (by omega)
      have := hr.most
      have := hr.len
      omega
  clear hw h
  by_cases hm : isM N X
  · obtain ⟨h1, h2, h3⟩ := hm
    have e : wideX N X = colsX N X := if_pos h3
    rw [e] at HW
    rw [decide_eq_true (show isM N X from ⟨h1, h2, h3⟩)]
    clear e h3
    generalize colsX N X = z at *
    have q1 : decide ((N : Int) ≤ 255) = true := by simp; omega
    have q2 : decide ((0 : Int) ≤ (z : Int)) = true := by simp
    have q3 : decide ((z : Int) ≤ 255) = true := by simp; omega
    go_enter Try.func80, Try.ntmps80
    go_wp2_with (go_at_call 100; refine HW.out.mono ?_; rintro e w' ⟨rfl, rfl⟩)
    go_ret
    exact ⟨rfl, rfl⟩
  · rw [decide_eq_false hm]
    by_cases h3 : Uni N X
    · have e : wideX N X = colsX N X := if_pos h3
      rw [e] at HW
      have hno : ¬ (N ≤ 255 ∧ colsX N X ≤ 255) := fun ⟨h1, h2⟩ => hm ⟨h1, h2, h3⟩
      clear e h3 hm
      generalize colsX N X = z at *
      by_cases h1 : N ≤ 255
      · have q1 : decide ((N : Int) ≤ 255) = true := by simp; omega
        have q2 : decide ((0 : Int) ≤ (z : Int)) = true := by simp
        have q3 : decide ((z : Int) ≤ 255) = false := by simp; omega
        clear hno
        go_enter Try.func80, Try.ntmps80
        go_wp2_with (go_at_call 100; refine HW.out.mono ?_; rintro e w' ⟨rfl, rfl⟩)
        go_ret
        exact ⟨rfl, rfl⟩
      · have q1 : decide ((N : Int) ≤ 255) = false := by simp; omega
        clear hno
        go_enter Try.func80, Try.ntmps80
        go_wp2_with (go_at_call 100; refine HW.out.mono ?_; rintro e w' ⟨rfl, rfl⟩)
        go_ret
        exact ⟨rfl, rfl⟩
    · have e : wideX N X = -1 := if_neg h3
      rw [e] at HW
      clear e h3 hm
      by_cases h1 : N ≤ 255
      · have q1 : decide ((N : Int) ≤ 255) = true := by simp; omega
        go_enter Try.func80, Try.ntmps80
        go_wp2_with (go_at_call 100; refine HW.out.mono ?_; rintro e w' ⟨rfl, rfl⟩)
        go_ret
        exact ⟨rfl, rfl⟩
      · have q1 : decide ((N : Int) ≤ 255) = false := by simp; omega
        go_enter Try.func80, Try.ntmps80
        go_wp2_with (go_at_call 100; refine HW.out.mono ?_; rintro e w' ⟨rfl, rfl⟩)
        go_ret
        exact ⟨rfl, rfl⟩
end Go.Proofs.Ytokeoodkioobdaa

/- What stays where the rows of a grid turn; a row by a byte, a row and another one by a byte, told place by place. Conditions: none. -/
namespace Go.Proofs.Ytokeoodkioobdaa
open Go.RowKit

theorem Kpt.only {S : Nat → Prop} {w w' w2 : World} {q : Nat} (h : Kpt S w w') (hO : Only q w' w2) (hq : ¬ S q) (hl : ∀ k, S k → k < w.heap.size) : Kpt S w w2 :=
  h.then (hO.below 0 (Nat.zero_le _) (Nat.zero_le _)) fun k hk => hO.block k (Nat.lt_of_lt_of_le (hl k hk) h.size) (fun e => hq (e ▸ hk))
theorem Kpt.mono {S S' : Nat → Prop} {a b : World} (h : Kpt S a b) (hs : ∀ k, S' k → S k) : Kpt S' a b := ⟨h.os, h.tape, h.output, h.size, fun k hk => h.block k (hs k hk)⟩
theorem Kpt.low {S : Nat → Prop} {a b : World} {B : Nat} (h : Kpt S a b) (hs : ∀ k, k < B → S k) : Below B a b := ⟨h.os, h.tape, h.output, h.size, fun k hk => h.block k (hs k hk)⟩
theorem Kpt.of_below {S : Nat → Prop} {a b : World} {B : Nat} (h : Below B a b) (hs : ∀ k, S k → k < B) : Kpt S a b := ⟨h.os, h.tape, h.output, h.size, fun k hk => h.block k (hs k hk)⟩
theorem Kpt.isF {S : Nat → Prop} {w w' : World} {q : Nat} (h : Kpt S w w') (hf : IsF w q) (hq : S q) : IsF w' q := (h.block q hq).trans hf

/-- The blocks that lay, but a grid's own. -/
def Off (w : World) (g N : Nat) (p : Nat → Nat) (b : Nat) : Prop := b < w.heap.size ∧ b ≠ g ∧ ∀ i, i < N → p i ≠ b
theorem Off.lt {w : World} {g N b : Nat} {p : Nat → Nat} (h : Off w g N p b) : b < w.heap.size := h.1
theorem isF_off {w : World} {B N g d q : Nat} {p c : Nat → Nat} {X : Nat → List Nat} (hf : IsF w q) (h : GridTo w B (.slice (some ⟨g, 0, none⟩) N d) N N p c X) : Off w g N p q := by
  refine ⟨hf.lt, fun e => ?_, fun i hi e => ?_⟩
  · obtain ⟨vs, h1, _⟩ := h.own
    obtain ⟨_, _, cur, hcur, _⟩ := own_blk h1
    subst e
    have := hcur.symm.trans hf
    injection this with this
    injection this with _ h3 _
    exact absurd h3 (by decide)
  · obtain ⟨_, _, cur, hcur, _⟩ := own_blk (h.row i hi)
    subst e
    have := hcur.symm.trans hf
    injection this with this
    injection this with _ h3 _
    exact absurd h3 (by decide)
theorem off_below {w w' : World} {B N g d : Nat} {p c : Nat → Nat} {X : Nat → List Nat} (hk : Kpt (Off w g N p) w w') (h : GridTo w B (.slice (some ⟨g, 0, none⟩) N d) N N p c X) (hB : B ≤ w.heap.size) : Below B w w' := by
  refine hk.low fun k hlt => ⟨(by omega : k < w.heap.size), fun e => ?_, fun i hi e => ?_⟩
  · obtain ⟨vs, h1, _⟩ := h.own
    have := (own_blk h1).1
    omega
  · have := (own_blk (h.row i hi)).1
    omega

/-- A row by a byte, the first k places. -/
def scTo (X : List Nat) (y : Nat) : Nat → List Nat
  | 0 => X
  | k + 1 => (scTo X y k).set k (Gf.mul ((scTo X y k).getD k 0) y)
theorem scTo_len (X : List Nat) (y : Nat) : ∀ k, (scTo X y k).length = X.length
  | 0 => rfl
  | k + 1 => by show (List.set _ _ _).length = _; rw [List.length_set, scTo_len X y k]
theorem scTo_get {X : List Nat} {y : Nat} : ∀ {k : Nat}, k ≤ X.length → ∀ j, (scTo X y k).getD j 0 = if j < k then Gf.mul (X.getD j 0) y else X.getD j 0
  | 0, _, j => by rw [if_neg (by omega)]; rfl
  | k + 1, h, j => by
    show (List.set _ _ _).getD j 0 = _
    rw [getD_set _ _ _ _ (by rw [scTo_len]; omega), scTo_get (by omega), scTo_get (by omega)]
    by_cases e : k = j
    · subst e; rw [if_pos rfl, if_neg (by omega), if_pos (by omega)]
    · rw [if_neg e]
      by_cases h2 : j < k
      · rw [if_pos h2, if_pos (by omega)]
      · rw [if_neg h2, if_neg (by omega)]
theorem scTo_small {X : List Nat} {y k : Nat} (hX : Small X) (h : k ≤ X.length) : Small (scTo X y k) := fun j => by
  rw [scTo_get h]
  split
  · exact Gf.mul_lt (hX j)
  · exact hX j
theorem at0_getD (l : List Nat) (c : Nat) : Gf.at0 l c = l.getD c 0 := by rw [List.getD_eq_getElem?_getD]; rfl
theorem scTo_all (X : List Nat) (y : Nat) : scTo X y X.length = Gf.sc y X := by
  refine Gf.ext0 (by rw [scTo_len, Gf.sc_len]) fun c hc => ?_
  rw [scTo_len] at hc
  rw [Gf.at0_sc, at0_getD, at0_getD, scTo_get (Nat.le_refl _), if_pos hc]
theorem xadd_all {X l : List Nat} {y : Nat} (h : X.length = l.length) : xadd X 0 l y l.length = Gf.ad y X l := by
  refine Gf.ext0 (by rw [length_xadd, Gf.ad_len h]) fun c hc => ?_
  rw [length_xadd] at hc
  rw [Gf.at0_ad h, at0_getD, at0_getD, at0_getD, xadd_get (by omega), if_pos (by omega), Nat.sub_zero]
theorem small_at0 {l : List Nat} : Small l ↔ ∀ c, Gf.at0 l c < 256 := by
  constructor
  · intro h c; rw [at0_getD]; exact h c
  · intro h c; rw [← at0_getD]; exact h c
theorem byt_small {X : Nat → List Nat} (h : Gf.Byt X) (r : Nat) : Small (X r) := small_at0.2 (h r)
/-- The rows of a list, those beyond it left out. -/
def cut (N : Nat) (X : Nat → List Nat) (W : Nat) : Nat → List Nat := fun r => if r < N then X r else List.replicate W 0
section
variable {w w' : World} {B N K i g d : Nat} {v : Value} {p c : Nat → Nat} {X : Nat → List Nat} {l : List Nat}
theorem GridTo.drewN (h : GridTo w B v N K p c X) (q : Nat) : GridTo (w.drewN q) B v N K p c X := h.heap fun _ _ _ => rfl
theorem GridTo.start {vs : List Value} (hv : w.ownsRow B 31 1 v N vs) (p c : Nat → Nat) (X : Nat → List Nat) : GridTo w B v N 0 p c X :=
  ⟨⟨vs, hv, fun i hi => absurd hi (Nat.not_lt_zero i)⟩, fun i hi => absurd hi (Nat.not_lt_zero i), fun i _ hi => absurd hi (Nat.not_lt_zero i), Nat.zero_le _⟩
theorem GridTo.slot (h : GridTo w B (.slice (some ⟨g, 0, none⟩) N d) N K p c X) (hi : i < N) : (∃ u, w.cell? ⟨g, i, none⟩ = some u) ∧ w.frozen? ⟨g, i, none⟩ = false ∧ B ≤ g ∧ g < w.heap.size := by
  obtain ⟨vs, h1, _⟩ := h.own
  have hlen : vs.length = N := by have := h1.1; rwa [Nat.mul_one] at this
  obtain ⟨g', c', e, h2, h3, h4, h5, _⟩ := own_cellV (i := i) (u := vs[i]'(by omega)) h1 (by rw [List.getElem?_eq_getElem])
  injection e with e
  injection e with e
  injection e with e
  subst e
  exact ⟨⟨_, h4⟩, h5, h2, h3⟩
theorem GridTo.gl (h : GridTo w B (.slice (some ⟨g, 0, none⟩) N d) N K p c X) : B ≤ g ∧ g < w.heap.size := by
  obtain ⟨vs, h1, _⟩ := h.own
  obtain ⟨h2, _, cur, hcur, _⟩ := own_blk h1
  exact ⟨h2, lt_of_block hcur⟩
/-- One row's bytes have turned; the list and the other rows lie as they lay. -/
theorem GridTo.turn2 (h : GridTo w B v N K p c X) (hi : i < K) (hg : ∀ g, v.ownBlock = some g → w'.heap[g]? = w.heap[g]?) (hp : ∀ j, j < K → j ≠ i → w'.heap[p j]? = w.heap[p j]?) (hl : l.length = (X i).length) (hr : w'.ownsRow B 5 1 (.slice (some ⟨p i, 0, none⟩) (X i).length (c i)) (X i).length (bs l)) :
    GridTo w' B v N K p c fun j => if j = i then l else X j := by
  obtain ⟨⟨vs, h1, h2⟩, h3, h4, h5⟩ := h
  have el : ∀ j, (if j = i then l else X j).length = (X j).length := fun j => by
    by_cases e : j = i
    · subst e; rw [if_pos rfl, hl]
    · rw [if_neg e]
  have eh : ∀ j, hdr p c (fun j => if j = i then l else X j) j = hdr p c X j := fun j => by unfold hdr; rw [el j]
  refine ⟨⟨vs, own_frame h1 fun b hb _ => hg b hb, fun j hj => by rw [eh j]; exact h2 j hj⟩, fun j hj => ?_, h4, h5⟩
  show w'.ownsRow B 5 1 (hdr p c _ j) (if j = i then l else X j).length (bs (if j = i then l else X j))
  rw [eh j, el j]
  by_cases e : j = i
  · subst e; rw [if_pos rfl]; exact hr
  · rw [if_neg e]
    refine own_frame (h3 j hj) fun b hb _ => ?_
    cases hb
    exact hp j hj e
/-- What can be read of a row, where all are alike long. -/
theorem GridTo.line {W : Nat} (h : GridTo w B (.slice (some ⟨g, 0, none⟩) N d) N K p c X) (hl : Gf.Long X W) (hi : i < K) :
    w.cell? ⟨g, i, none⟩ = some (.slice (some ⟨p i, 0, none⟩) W (c i)) ∧ w.frozen? ⟨g, i, none⟩ = false ∧ w.ownsRow B 5 1 (.slice (some ⟨p i, 0, none⟩) W (c i)) W (bs (X i)) ∧ p i ≠ g ∧ p i < w.heap.size ∧ W ≤ c i := by
  obtain ⟨g', d', e, h1, h2, h3, h4, h5, h6, h7, h8⟩ := h.cell hi
  injection e with e
  injection e with e
  injection e with e
  subst e
  have hr := h.row i hi
  unfold hdr at hr
  rw [hl i] at h3 hr h8
  exact ⟨h3, h4, hr, h5 i hi, h7, h8⟩
end
/-- The address behind a cut at the front, cells of one place. -/
def adv1 (a : Option Addr) (r cap : Nat) : Option Addr := match a with
  | none => none
  | some ad => if cap - r = 0 then some ad else some (ad.add r)
end Go.Proofs.Ytokeoodkioobdaa

/- The walks of rows' scale, add, IndexFunc at rows and its closure. Conditions: rows have at most 100000 places. -/
namespace Go.Proofs.Ytokeoodkioobdaa
open Go.RowKit

theorem field_apart {w : World} {B p g n c : Nat} {xs : List Value} (hf : IsF w p) (ho : w.ownsRow B 5 1 (.slice (some ⟨g, 0, none⟩) n c) n xs) : p ≠ g := fun e => by
  obtain ⟨_, _, cur, hcur, _⟩ := own_blk ho
  subst e
  have := hcur.symm.trans hf
  injection this with this
  injection this with _ h3 _
  exact absurd h3 (by decide)

set_option maxHeartbeats 1600000 in
set_option maxRecDepth 100000 in
theorem scale_any {w : World} {B p g n c y : Nat} {X : List Nat} (hy : y < 256) (hf : IsF w p) (ho : w.ownsRow B 5 1 (.slice (some ⟨g, 0, none⟩) n c) n (bs X)) (hX : Small X) (hn : n ≤ 100000) :
    Calls Try.prog 128 #[.agg #[.pointer (some ⟨p, 0, none⟩)], .slice (some ⟨g, 0, none⟩) n c, .int .u8 (y : Nat)] w fun e w' => (∃ v, e = .returned v) ∧ w'.ownsRow B 5 1 (.slice (some ⟨g, 0, none⟩) n c) n (bs (Gf.sc y X)) ∧ Only g w w' := by
  have hXl := own_len ho
  have hg := own_block ho
  have hpg := field_apart hf ho
  have HF := Lib.hid hf
  have HO := Lib.hid ho
  have HX := Lib.hid hX
  have HXL := Lib.hid hXl
  clear hf ho hX hXl
  go_enter Try.func128, Try.ntmps128
  go_wp2_with fail
  go_loopw [9] (fun i wr => ∃ k : Nat, k ≤ n ∧ i = .int .i64 k ∧ Hid (wr.ownsRow B 5 1 (.slice (some ⟨g, 0, none⟩) n c) n (bs (scTo X y k))) ∧ Only g w wr ∧ wr.cell? ⟨w.heap.size, 0, none⟩ = some (.pointer (some ⟨p, 0, none⟩))) (fun i _ => n - (intOf i).toNat)
  case atStart =>
    exact ⟨0, by omega, rfl, HO.out.alloc _, (Only.refl _ _).alloc _, (cell_of_block (heap_alloc_new _ _)).trans rfl⟩
  case round =>
    obtain ⟨k, hk, rfl, hown, hO, hbx⟩ := hrel
    have HO2 := Lib.hid hO
    by_cases hk1 : k < n
    · have hc2 := own_cell hown.out (i := k) hk1
      have hfr := hc2.2
      have hc3 := hc2.1
      have hsm : (scTo X y k).getD k 0 < 256 := scTo_small HX.out (by rw [HXL.out]; omega) _
      have hst : ∀ q, ((wr.drewN q).setCell ⟨g, k, none⟩ (.int .u8 (Gf.mul ((scTo X y k).getD k 0) y : Nat))).ownsRow B 5 1 (.slice (some ⟨g, 0, none⟩) n c) n (bs (scTo X y (k + 1))) := fun q => own_set hown.out
      have HST := Lib.hid hst
      generalize (scTo X y k).getD k 0 = x at *
      have hq2 : ∀ q, Hid (Calls Try.prog 23 #[.pointer (some ⟨p, 0, none⟩), .int .u8 (x : Nat), .int .u8 (y : Nat)] (wr.drewN q) fun e w' => e = .returned (.int .u8 (Gf.mul x y : Nat)) ∧ ∃ n, w' = (wr.drewN q).drewN n) := fun q => mul_any ((HF.out.only hO hpg).drewN q) hsm hy
      have HQ2 := Lib.hid hq2
      have hl3 : Gf.mul x y < 256 := Gf.mul_lt hsm
      generalize Gf.mul x y = t at *
      have hn2 : w.heap.size ≠ g := by omega
      clear hc2 hq2 hown hO hst
      go_wp2_with fail
      refine region_quiet_tail 11 (by kernel_rfl) (by kernel_rfl) ?_
      simp only [List.take_succ_cons, List.take_zero, List.drop_succ_cons, List.drop_zero]
      repeat (go_big_quiet_step ((go_at_call 23; exact Calls.quiet_of (HQ2.out _).out)))
      refine wpQuiet_nil ?_
      intro _ hw'
      obtain ⟨nq, rfl⟩ := hw'
      go_wp2_with fail
      go_roundw
      case rel => exact ⟨k + 1, by omega, by go_num, HST.out nq, (HO2.out.drawn _).set _ _, (World.cell?_of_block (heap_setCell_other (wr.drewN _) ⟨g, _, none⟩ w.heap.size _ hn2)).trans hbx⟩
      case measure => simp [intOf]; omega
    · obtain rfl : k = n := by omega
      have hfin := hown.out
      have e : scTo X y k = Gf.sc y X := by rw [← HXL.out]; exact scTo_all X y
      rw [e] at hfin
      have HFN := Lib.hid hfin
      clear hO hfin e hown
      go_wp2_with fail
      go_end0
      exact ⟨⟨_, rfl⟩, HFN.out, HO2.out⟩

set_option maxHeartbeats 1600000 in
set_option maxRecDepth 100000 in
theorem addr_any {w : World} {B p g n c c2 y : Nat} {a : Option Addr} {X l : List Nat} (hy : y < 256) (hf : IsF w p) (ho : w.ownsRow B 5 1 (.slice (some ⟨g, 0, none⟩) n c) n (bs X)) (hX : Small X) (hl : RB w a n c2 l) (hab : 0 < n → ∀ b off, a = some ⟨b, off, none⟩ → b ≠ g) (hn : n ≤ 100000) :
    Calls Try.prog 102 #[.agg #[.pointer (some ⟨p, 0, none⟩)], .slice (some ⟨g, 0, none⟩) n c, .slice a n c2, .int .u8 (y : Nat)] w fun e w' => (∃ v, e = .returned v) ∧ w'.ownsRow B 5 1 (.slice (some ⟨g, 0, none⟩) n c) n (bs (Gf.ad y X l)) ∧ Only g w w' := by
  have hXl := own_len ho
  have hg := own_block ho
  have hpg := field_apart hf ho
  have hll := hl.len
  have HF := Lib.hid hf
  have HO := Lib.hid ho
  have HX := Lib.hid hX
  have HL := Lib.hid hl
  have HAB := Lib.hid hab
  have HXL := Lib.hid hXl
  have HLL := Lib.hid hll
  clear hf ho hX hXl hl hab hll
  by_cases y0 : y = 0
  · subst y0
    have e : Gf.ad 0 X l = X := Gf.ad_zero (by rw [HXL.out, HLL.out])
    rw [e]
    clear e
    have y1 : (((0 : Nat) : Int) == 0) = true := rfl
    go_enter Try.func102, Try.ntmps102
    go_wp2_with fail
    refine bodyPost_ret (results_none rfl _ _ _) rfl ?_
    exact ⟨⟨_, rfl⟩, HO.out.alloc _, (Only.refl _ _).alloc _⟩
  · have y1 : ((y : Int) == 0) = false := by simp; omega
    have y2 : decide (y = 0) = false := by simp; omega
    go_enter Try.func102, Try.ntmps102
    go_wp2_with fail
    go_loopw [13] (fun i wr => ∃ k : Nat, k ≤ n ∧ i = .int .i64 k ∧ Hid (wr.ownsRow B 5 1 (.slice (some ⟨g, 0, none⟩) n c) n (bs (xadd X 0 l y k))) ∧ Only g w wr ∧ wr.cell? ⟨w.heap.size, 0, none⟩ = some (.pointer (some ⟨p, 0, none⟩))) (fun i _ => n - (intOf i).toNat)
    case atStart =>
      exact ⟨0, by omega, rfl, HO.out.alloc _, (Only.refl _ _).alloc _, (cell_of_block (heap_alloc_new _ _)).trans rfl⟩
    case round =>
      obtain ⟨k, hk, rfl, hown, hO, hbx⟩ := hrel
      have HO2 := Lib.hid hO
      by_cases hk1 : k < n
      · obtain ⟨b1, o1, rfl, hc1⟩ := (HL.out.only hO (HAB.out (by omega))).at_ k hk1
        have hx := HL.out.small k
        have hc2 := own_cell hown.out (i := k) hk1
        have hfr := hc2.2
        have hc3 := hc2.1
        have hsm : (xadd X 0 l y k).getD k 0 < 256 := xadd_small HX.out HL.out.small (by rw [HXL.out]; omega) _
        have hst : ∀ q, ((wr.drewN q).setCell ⟨g, k, none⟩ (.int .u8 ((xadd X 0 l y k).getD k 0 ^^^ Gf.mul (l.getD k 0) y : Nat))).ownsRow B 5 1 (.slice (some ⟨g, 0, none⟩) n c) n (bs (xadd X 0 l y (k + 1))) := fun q => by
          show ((wr.drewN q).setCell ⟨g, k, none⟩ _).ownsRow B 5 1 _ n (bs ((xadd X 0 l y k).set (0 + k) ((xadd X 0 l y k).getD (0 + k) 0 ^^^ Gf.mul (l.getD k 0) y)))
          rw [Nat.zero_add]
          exact own_set hown.out
        have HST := Lib.hid hst
        generalize l.getD k 0 = x at *
        generalize (xadd X 0 l y k).getD k 0 = u at *
        have hl3 : Gf.mul x y < 256 := Gf.mul_lt hx
        have hq2 : ∀ q, Hid (Calls Try.prog 23 #[.pointer (some ⟨p, 0, none⟩), .int .u8 (x : Nat), .int .u8 (y : Nat)] (wr.drewN q) fun e w' => e = .returned (.int .u8 (Gf.mul x y : Nat)) ∧ ∃ n, w' = (wr.drewN q).drewN n) := fun q => mul_any ((HF.out.only hO hpg).drewN q) hx hy
        have HQ2 := Lib.hid hq2
        have hq3 : ∀ q, Hid (Calls Try.prog 24 #[.int .u8 (u : Nat), .int .u8 (Gf.mul x y : Nat)] (wr.drewN q) fun e w' => e = .returned (.int .u8 (u ^^^ Gf.mul x y : Nat)) ∧ wr.drewN q = w') := fun q => add_any _ _ hsm hl3 _
        have HQ3 := Lib.hid hq3
        generalize u ^^^ Gf.mul x y = r at *
        generalize Gf.mul x y = t at *
        have hn2 : w.heap.size ≠ g := by omega
        clear hc2 hq2 hq3 hown hO hst
        go_wp2_with fail
        refine region_quiet_tail 16 (by kernel_rfl) (by kernel_rfl) ?_
        simp only [List.take_succ_cons, List.take_zero, List.drop_succ_cons, List.drop_zero]
        repeat (go_big_quiet_step (first | (go_at_call 23; exact Calls.quiet_of (HQ2.out _).out) | (go_at_call 24; exact quiet_same (HQ3.out _).out)))
        refine wpQuiet_nil ?_
        intro _ hw'
        obtain ⟨nq, rfl⟩ := hw'
        go_wp2_with fail
        go_roundw
        case rel => exact ⟨k + 1, by omega, by go_num, HST.out nq, (HO2.out.drawn _).set _ _, (World.cell?_of_block (heap_setCell_other (wr.drewN _) ⟨g, _, none⟩ w.heap.size _ hn2)).trans hbx⟩
        case measure => simp [intOf]; omega
      · obtain rfl : k = n := by omega
        have hfin := hown.out
        have e : xadd X 0 l y k = Gf.ad y X l := by rw [← HLL.out]; exact xadd_all (by rw [HXL.out, HLL.out])
        rw [e] at hfin
        have HFN := Lib.hid hfin
        clear hO hfin e hown
        go_wp2_with fail
        go_end0
        exact ⟨⟨_, rfl⟩, HFN.out, HO2.out⟩

theorem nz_no {w : World} {a : Option Addr} {n c cc b : Nat} {l : List Nat} (h : RB w a n c l) (hcc : cc < n) (hb : w.cell? ⟨b, 0, none⟩ = some (.int .i64 (cc : Nat))) (h0 : Gf.at0 l cc = 0) :
    Calls Try.prog 127 #[.slice a n c, .pointer (some ⟨b, 0, none⟩)] w fun e w' => e = .returned (.bool false) ∧ w = w' := by
  obtain ⟨b1, o1, rfl, hc1⟩ := h.at_ cc hcc
  rw [at0_getD] at h0
  rw [h0] at hc1
  have hm := h.most
  clear h h0
  go_enter Try.func127, Try.ntmps127
  go_wp2_with fail
  go_ret
  exact ⟨rfl, rfl⟩
theorem nz_yes {w : World} {a : Option Addr} {n c cc b : Nat} {l : List Nat} (h : RB w a n c l) (hcc : cc < n) (hb : w.cell? ⟨b, 0, none⟩ = some (.int .i64 (cc : Nat))) (h0 : Gf.at0 l cc ≠ 0) :
    Calls Try.prog 127 #[.slice a n c, .pointer (some ⟨b, 0, none⟩)] w fun e w' => e = .returned (.bool true) ∧ w = w' := by
  obtain ⟨b1, o1, rfl, hc1⟩ := h.at_ cc hcc
  rw [at0_getD] at h0
  have hm := h.most
  clear h
  generalize l.getD cc 0 = x at *
  have x1 : ((x : Int) != 0) = true := by simp; omega
  have x2 : decide (x = 0) = false := by simp; omega
  go_enter Try.func127, Try.ntmps127
  go_wp2_with fail
  go_ret
  exact ⟨rfl, rfl⟩

theorem indexf_nil {w : World} {a : Option Addr} {c : Nat} {f : Value} : Calls Try.prog 126 #[.slice a (0 : Nat) c, f] w fun e w' => e = .returned (.int .i64 (-1)) ∧ w = w' := by
  go_enter Try.func126, Try.ntmps126
  go_wp2_with fail
  go_loop [8] (fun i => i = .int .i64 0) (fun _ => 0)
  case atStart => rfl
  case round =>
    obtain rfl := hrel
    go_wp2_with fail
    go_ret
    exact ⟨rfl, rfl⟩

set_option maxHeartbeats 1600000 in
set_option maxRecDepth 100000 in
/-- The first row, from one on, that has something in a column. -/
theorem indexf_any {w : World} {g off L cp cc b W R : Nat} {p c : Nat → Nat} {M : Nat → List Nat} (hR : off + L = R) (hRm : R ≤ 100000) (hcc : cc < W)
    (hrow : ∀ i, i < L → w.cell? ⟨g, off + i, none⟩ = some (.slice (some ⟨p (off + i), 0, none⟩) W (c (off + i))) ∧ RB w (some ⟨p (off + i), 0, none⟩) W (c (off + i)) (M (off + i)))
    (hb : w.cell? ⟨b, 0, none⟩ = some (.int .i64 (cc : Nat))) :
    Calls Try.prog 126 #[.slice (some ⟨g, off, none⟩) L cp, .func (.func 127) #[] #[.pointer (some ⟨b, 0, none⟩)]] w fun e w' => e = .returned (.int .i64 (if Gf.fnd M R cc off < R then ((Gf.fnd M R cc off - off : Nat) : Int) else -1)) ∧ w = w' := by
  have HR := Lib.hid hrow
  obtain ⟨r, hr⟩ : ∃ r : Int, r = if Gf.fnd M R cc off < R then ((Gf.fnd M R cc off - off : Nat) : Int) else -1 := ⟨_, rfl⟩
  rw [← hr]
  have HRES := Lib.hid hr
  clear hrow hr
  subst hR
  go_enter Try.func126, Try.ntmps126
  go_wp2_with fail
  go_loop [8] (fun i => ∃ k : Nat, k ≤ L ∧ i = .int .i64 k ∧ Hid (∀ i, off ≤ i → i < off + k → Gf.at0 (M i) cc = 0)) (fun i => L - (intOf i).toNat)
  case atStart => exact ⟨0, by omega, rfl, fun i h1 h2 => absurd h2 (by omega)⟩
  case round =>
    obtain ⟨k, hk, rfl, hz⟩ := hrel
    by_cases hk1 : k < L
    · obtain ⟨hc1, hr1⟩ := HR.out k hk1
      by_cases h0 : Gf.at0 (M (off + k)) cc = 0
      · have hnz := nz_no hr1 hcc hb h0
        have HN := Lib.hid hnz
        have hz2 : ∀ i, off ≤ i → i < off + (k + 1) → Gf.at0 (M i) cc = 0 := fun i h1 h2 => by
          by_cases e : i = off + k
          · rw [e]; exact h0
          · exact hz.out i h1 (by omega)
        have HZ := Lib.hid hz2
        clear hr1 h0 hnz hz2
        go_wp2_with (go_at_call 127; ((with_reducible refine HN.out.mono ?_); rintro e w' ⟨rfl, rfl⟩))
        go_round
        case rel => exact ⟨k + 1, by omega, by go_num, HZ⟩
        case measure => simp [intOf]; omega
      · have hnz := nz_yes hr1 hcc hb h0
        have HN := Lib.hid hnz
        have hf : Gf.fnd M (off + L) cc off = off + k := Gf.fnd_at (by omega) (by omega) (fun i h1 h2 => hz.out i h1 h2) h0
        have he : r = (k : Int) := by rw [HRES.out, hf, if_pos (by omega)]; omega
        have HE := Lib.hid he
        clear hr1 h0 hnz hf he
        go_wp2_with (go_at_call 127; ((with_reducible refine HN.out.mono ?_); rintro e w' ⟨rfl, rfl⟩))
        go_ret
        exact ⟨ret_i64 HE.out.symm, rfl⟩
    · obtain rfl : k = L := by omega
      have hf : Gf.fnd M (off + k) cc off = off + k := Gf.fnd_none (by omega) (fun i h1 h2 => hz.out i h1 (by omega))
      have he : r = -1 := by rw [HRES.out, hf, if_neg (by omega)]
      have HE := Lib.hid he
      clear hf he
      go_wp2_with fail
      go_ret
      exact ⟨ret_i64 HE.out.symm, rfl⟩
end Go.Proofs.Ytokeoodkioobdaa

/- The walks of rows' copied and blank. Conditions: there are at most 100000 rows, each of at most 100000 places. -/
namespace Go.Proofs.Ytokeoodkioobdaa
open Go.RowKit

/-- A row is made, stored as the next one, and filled. -/
theorem grid_lay {wr w5 w6 : World} {B N k g d n : Nat} {p c : Nat → Nat} {X : Nat → List Nat} {z : List Nat} (hG : GridTo wr B (.slice (some ⟨g, 0, none⟩) N d) N k p c X) (hk : k < N) (hB : B ≤ wr.heap.size) (h5 : Below wr.heap.size wr w5)
    (hz : w5.ownsRow wr.heap.size 5 1 (.slice (some ⟨wr.heap.size, 0, none⟩) n n) n (bs z)) (hh : w6.heap[wr.heap.size]? = some (.cells (bs (X k)).toArray 5 (0, 0)))
    (h6 : Below wr.heap.size (w5.setCell ⟨g, k, none⟩ (.slice (some ⟨wr.heap.size, 0, none⟩) n n)) w6) (hl : (X k).length = n) (hn : n ≤ 100000) :
    ∃ p' c', GridTo w6 B (.slice (some ⟨g, 0, none⟩) N d) N (k + 1) p' c' X := by
  obtain ⟨_, _, _, hg⟩ := hG.slot hk
  have hp : ∀ j, j < k → p j < wr.heap.size := fun j hj => by
    obtain ⟨_, _, cur, hcur, _⟩ := own_blk (hG.row j hj)
    exact lt_of_block hcur
  have hzl := own_len hz
  subst hzl
  have h1 := (hG.below h5).put rfl hk (Nat.le_refl _) (own_mono hz hB) (fun j hj _ => Nat.ne_of_lt (hp j hj)) rfl
  rw [show max k (k + 1) = k + 1 by omega] at h1
  refine ⟨_, _, (h1.turn2 (i := k) (l := X k) (Nat.lt_succ_self k) (fun g' e => ?_) (fun j hj hne => ?_) ?_ ?_).congr fun i hi => ?_⟩
  · injection e with e
    rw [← e]
    exact h6.block g hg
  · rw [if_neg hne]
    exact h6.block _ (hp j (by omega))
  · rw [if_pos rfl, hl]
  · rw [if_pos rfl, if_pos rfl, if_pos rfl]
    exact own_full hh hl (by unfold maxLen; omega) hB
  · by_cases e : i = k
    · rw [if_pos e, e]
    · rw [if_neg e, if_neg e]

theorem splice_full {l : List Nat} {n : Nat} (h : l.length = n) : splice (bs (List.replicate n 0)) 0 (bs l) = bs l := by
  subst h
  simp [splice, bs]

set_option maxHeartbeats 3200000 in
set_option maxRecDepth 100000 in
/-- A copy, in memory of its own. -/
theorem copied_any {w : World} {a : Option Addr} {N c : Nat} {X : Nat → List Nat} (hN : N ≤ 100000) (hX : ∀ i, i < N → (X i).length ≤ 100000) (h : RR w (.slice a N c) N X) :
    Calls Try.prog 104 #[.slice a N c] w fun e w' => ∃ g p d, e = .returned (.slice (some ⟨g, 0, none⟩) N N) ∧ GridTo w' w.heap.size (.slice (some ⟨g, 0, none⟩) N N) N N p d X ∧ Below w.heap.size w w' := by
  obtain ⟨i0, hi, hz0, hz1, hz2⟩ := info_parts info5
  obtain ⟨i31, hj, hy0, hy1, hy2⟩ := info_parts info31
  have H := Lib.hid h
  have HXL := Lib.hid hX
  clear h hX
  go_enter Try.func104, Try.ntmps104
  go_wp2_with (refine wpList_make_full _ rfl (.tmp 7) (.tmp 7) 112 rfl w.heap.size 31 i31 (.slice none 0 0) 1 Try.underlying112 hj hy0 hy1 .i64 .i64 _ _ N rfl rfl (by omega) (by omega) ?_ ?_ (Nat.le_refl _) ?_)
  · rw [hy2]; omega
  · unfold maxLen; omega
  intro w1 hown1 hg1
  have HG1 := Lib.hid (GridTo.start (N := N) hown1 (fun _ => 0) (fun _ => 0) X)
  have HB1 := Lib.hid ((Below.refl w.heap.size w).grown hg1 (Nat.le_refl _) (fun j e => by cases e))
  clear hown1 hg1
  go_wp2_with fail
  go_loopw [11] (fun i wr => ∃ k : Nat, k ≤ N ∧ i = .int .i64 k ∧ (∃ p d, Hid (GridTo wr w.heap.size (.slice (some ⟨w.heap.size, 0, none⟩) N N) N k p d X)) ∧ Hid (Below w.heap.size w wr)) (fun i _ => N - (intOf i).toNat)
  case atStart => exact ⟨0, Nat.zero_le _, rfl, ⟨_, _, HG1⟩, HB1⟩
  case round =>
    obtain ⟨k, hk, rfl, ⟨p, d, HG⟩, HB⟩ := hrel
    by_cases hk1 : k < N
    · obtain ⟨a', c', e, hX⟩ := H.out.shape
      injection e with e1 e2 e3
      subst e1; subst e3; clear e2
      obtain ⟨b1, o1, a1, n1, c1, rfl, hc0, hr1⟩ := hX k hk1
      have hc1 := (HB.out.cell (p := ⟨b1, o1 + k, none⟩) (block_lt_of_cell hc0)).trans hc0
      have hl1 := hr1.len
      have hm1 : n1 ≤ 100000 := by rw [← hl1]; exact HXL.out k hk1
      have HR := Lib.hid hr1
      have HL1 := Lib.hid hl1
      clear hX hr1 hc0 hl1
      have hsw : w.heap.size ≤ wr.heap.size := HB.out.size
      go_wp2_with (refine wpList_make_full _ rfl (.tmp 19) (.tmp 19) 31 rfl wr.heap.size 5 i0 (.int .u8 0) 1 Try.underlying31 hi hz0 hz1 .i64 .i64 _ _ n1 rfl rfl (by omega) (by omega) ?_ ?_ (Nat.le_refl _) ?_)
      · rw [hz2]; omega
      · unfold maxLen; omega
      intro w5 hown5 hg5
      have hB5 : Below wr.heap.size wr w5 := (Below.refl _ _).grown hg5 (Nat.le_refl _) (fun j e => by cases e)
      have hz := own_zeros hown5
      have hf := full_row hz
      obtain ⟨⟨u, hu⟩, hfz, hg0, hg⟩ := (HG.out.below hB5).slot hk1
      have hgr : w.heap.size < wr.heap.size := (HG.out.slot hk1).2.2.2
      have hne : wr.heap.size ≠ w.heap.size := by omega
      have HF2 := Lib.hid ((heap_setCell_other w5 ⟨w.heap.size, k, none⟩ wr.heap.size (.slice (some ⟨wr.heap.size, 0, none⟩) n1 n1) hne).trans hf)
      have HZ := Lib.hid hz
      have HB5 := Lib.hid hB5
      have hBx : Below w.heap.size w (w5.setCell ⟨w.heap.size, k, none⟩ (.slice (some ⟨wr.heap.size, 0, none⟩) n1 n1)) := (HB.out.trans (hB5.mono hsw)).setCell (Nat.le_refl _) _
      have HBX := Lib.hid hBx
      have HRB := Lib.hid (HR.out.below hBx)
      clear hown5 hg5 hB5 hz hf hBx hg0 HR
      go_wp2_with (refine wpList_copy_splice rfl (.tmp 25) (.tmp 26) 31 31 rfl 5 Try.underlying31 (by kernel_rfl) _ _ _ _ _ _ rfl rfl wr.heap.size 0 (bs (List.replicate n1 0)) 5 HF2.out (bs (X k)) ?_ ?_ ?_ (bs_one _) wr.heap.size _ (Below.refl _ _) (Nat.le_refl _) ?_)
      · rw [length_bs, HL1.out]; exact (Nat.min_self n1).symm
      · exact src_of HRB.out
      · rw [length_bs, length_bs, HL1.out, List.length_replicate]; omega
      · intro w6 hh6 hB6
        have hh := hh6.out
        rw [splice_full HL1.out] at hh
        obtain ⟨p', d', hG'⟩ := grid_lay HG.out hk1 hsw HB5.out HZ.out hh hB6 HL1.out hm1
        have HG' := Lib.hid hG'
        have HB' := Lib.hid (HBX.out.trans (hB6.mono hsw))
        clear hh6 hB6 hh hG'
        go_wp2_with fail
        go_roundw
        case rel => exact ⟨k + 1, by omega, by go_num, ⟨p', d', HG'⟩, HB'⟩
        case measure => simp [intOf]; omega
    · obtain rfl : k = N := by omega
      go_wp2_with fail
      go_ret
      exact ⟨_, _, _, rfl, HG.out, HB.out⟩

set_option maxHeartbeats 3200000 in
set_option maxRecDepth 100000 in
/-- Rows of noughts. -/
theorem blank_any {w : World} {N C : Nat} (hN : N ≤ 100000) (hC : C ≤ 100000) :
    Calls Try.prog 101 #[.int .i64 (N : Nat), .int .i64 (C : Nat)] w fun e w' => ∃ g p d, e = .returned (.slice (some ⟨g, 0, none⟩) N N) ∧ GridTo w' w.heap.size (.slice (some ⟨g, 0, none⟩) N N) N N p d (fun _ => List.replicate C 0) ∧ Below w.heap.size w w' := by
  obtain ⟨i0, hi, hz0, hz1, hz2⟩ := info_parts info5
  obtain ⟨i31, hj, hy0, hy1, hy2⟩ := info_parts info31
  go_enter Try.func101, Try.ntmps101
  go_wp2_with (refine wpList_make_full _ rfl (.tmp 7) (.tmp 7) 112 rfl w.heap.size 31 i31 (.slice none 0 0) 1 Try.underlying112 hj hy0 hy1 .i64 .i64 _ _ N rfl rfl (by omega) (by omega) ?_ ?_ (Nat.le_refl _) ?_)
  · rw [hy2]; omega
  · unfold maxLen; omega
  intro w1 hown1 hg1
  have HG1 := Lib.hid (GridTo.start (N := N) hown1 (fun _ => 0) (fun _ => 0) (fun _ => List.replicate C 0))
  have HB1 := Lib.hid ((Below.refl w.heap.size w).grown hg1 (Nat.le_refl _) (fun j e => by cases e))
  clear hown1 hg1
  go_wp2_with fail
  go_loopw [11] (fun i wr => ∃ k : Nat, k ≤ N ∧ i = .int .i64 k ∧ (∃ p d, Hid (GridTo wr w.heap.size (.slice (some ⟨w.heap.size, 0, none⟩) N N) N k p d (fun _ => List.replicate C 0))) ∧ Hid (Below w.heap.size w wr)) (fun i _ => N - (intOf i).toNat)
  case atStart => exact ⟨0, Nat.zero_le _, rfl, ⟨_, _, HG1⟩, HB1⟩
  case round =>
    obtain ⟨k, hk, rfl, ⟨p, d, HG⟩, HB⟩ := hrel
    by_cases hk1 : k < N
    · have hsw : w.heap.size ≤ wr.heap.size := HB.out.size
      go_wp2_with (refine wpList_make_full _ rfl (.tmp 16) (.tmp 16) 31 rfl wr.heap.size 5 i0 (.int .u8 0) 1 Try.underlying31 hi hz0 hz1 .i64 .i64 _ _ C rfl rfl (by omega) (by omega) ?_ ?_ (Nat.le_refl _) ?_)
      · rw [hz2]; omega
      · unfold maxLen; omega
      intro w5 hown5 hg5
      have hB5 : Below wr.heap.size wr w5 := (Below.refl _ _).grown hg5 (Nat.le_refl _) (fun j e => by cases e)
      have hz := own_zeros hown5
      have hf := full_row hz
      obtain ⟨⟨u, hu⟩, hfz, hg0, hg⟩ := (HG.out.below hB5).slot hk1
      have hgr : w.heap.size < wr.heap.size := (HG.out.slot hk1).2.2.2
      have hne : wr.heap.size ≠ w.heap.size := by omega
      have hf2 := (heap_setCell_other w5 ⟨w.heap.size, k, none⟩ wr.heap.size (.slice (some ⟨wr.heap.size, 0, none⟩) C C) hne).trans hf
      obtain ⟨p', d', hG'⟩ := grid_lay HG.out hk1 hsw hB5 hz hf2 (Below.refl _ _) List.length_replicate hC
      have HG' := Lib.hid hG'
      have hBx : Below w.heap.size w (w5.setCell ⟨w.heap.size, k, none⟩ (.slice (some ⟨wr.heap.size, 0, none⟩) C C)) := (HB.out.trans (hB5.mono hsw)).setCell (Nat.le_refl _) _
      have HBX := Lib.hid hBx
      clear hown5 hg5 hB5 hz hf hf2 hBx hg0 hG'
      go_wp2_with fail
      go_roundw
      case rel => exact ⟨k + 1, by omega, by go_num, ⟨p', d', HG'⟩, HBX⟩
      case measure => simp [intOf]; omega
    · obtain rfl : k = N := by omega
      go_wp2_with fail
      go_ret
      exact ⟨_, _, _, rfl, HG.out, HB.out⟩
end Go.Proofs.Ytokeoodkioobdaa

/- The walk of rows' steps. Conditions: there are at most 100000 rows, each of at most 100000 places. -/
namespace Go.Proofs.Ytokeoodkioobdaa
open Go.RowKit

/-- What holds while rows are turned to steps. -/
structure StepSt (w : World) (B g N pf : Nat) (p : Nat → Nat) (Y : Nat → List Nat) (wr : World) (p' c' : Nat → Nat) : Prop where
  grid : GridTo wr B (.slice (some ⟨g, 0, none⟩) N N) N N p' c' Y
  img : ∀ i, i < N → ∃ j, j < N ∧ p' i = p j
  kpt : Kpt (Off w g N p) w wr
  box : wr.heap[w.heap.size]? = some (.cells #[.pointer (some ⟨pf, 0, none⟩)] 113 (0, 0))
  field : IsF wr pf
  low : ∀ j, j < N → p j < w.heap.size
  gl : g < w.heap.size
section
variable {w wr w2 : World} {B g N pf : Nat} {p p' c' : Nat → Nat} {Y : Nat → List Nat}
theorem StepSt.below (h : StepSt w B g N pf p Y wr p' c') (hB : Below wr.heap.size wr w2) : StepSt w B g N pf p Y w2 p' c' :=
  ⟨h.grid.below hB, h.img, h.kpt.then (hB.mono (Nat.zero_le _)) fun k hk => hB.block k (Nat.lt_of_lt_of_le hk.lt h.kpt.size), (hB.block _ (lt_of_block h.box)).trans h.box, h.field.below hB h.field.lt, h.low, h.gl⟩
theorem StepSt.drewN (h : StepSt w B g N pf p Y wr p' c') (q : Nat) : StepSt w B g N pf p Y (wr.drewN q) p' c' := h.below (below_drewN (Below.refl _ _) q)
theorem StepSt.alloc (h : StepSt w B g N pf p Y wr p' c') (o : Obj) : StepSt w B g N pf p Y (wr.alloc o) p' c' := h.below ((Below.refl _ _).alloc (Nat.le_refl _) o)
theorem StepSt.low' (h : StepSt w B g N pf p Y wr p' c') {i : Nat} (hi : i < N) : p' i < w.heap.size := by
  obtain ⟨j, hj, e⟩ := h.img i hi
  rw [e]; exact h.low j hj
theorem StepSt.turn {i : Nat} {l : List Nat} (h : StepSt w B g N pf p Y wr p' c') (hi : i < N) (hO : Only (p' i) wr w2) (hl : l.length = (Y i).length) (hr : w2.ownsRow B 5 1 (.slice (some ⟨p' i, 0, none⟩) (Y i).length (c' i)) (Y i).length (bs l)) :
    StepSt w B g N pf p (fun j => if j = i then l else Y j) w2 p' c' := by
  refine ⟨h.grid.turn hi hO hl hr, h.img, h.kpt.only hO (fun hn => ?_) fun k hk => hk.lt, ?_, h.field.only hO (field_apart h.field (h.grid.row i hi)), h.low, h.gl⟩
  · obtain ⟨j, hj, e⟩ := h.img i hi
    exact hn.2.2 j hj e.symm
  · have := h.low' hi
    exact (hO.block _ (lt_of_block h.box) (by omega)).trans h.box
theorem StepSt.swap {a b : Nat} (h : StepSt w B g N pf p Y wr p' c') (ha : a < N) (hb : b < N)
    (hw : w2.heap = ((wr.setCell ⟨g, a, none⟩ (.slice (some ⟨p' b, 0, none⟩) (Y b).length (c' b))).setCell ⟨g, b, none⟩ (.slice (some ⟨p' a, 0, none⟩) (Y a).length (c' a))).heap) (hB : Below 0 wr w2) :
    StepSt w B g N pf p (Gf.swp Y a b) w2 (fun j => if j = b then p' a else if j = a then p' b else p' j) (fun j => if j = b then c' a else if j = a then c' b else c' j) := by
  have hbl : ∀ k, k ≠ g → w2.heap[k]? = wr.heap[k]? := fun k hk => by
    rw [hw, heap_setCell_other _ ⟨g, _, none⟩ k _ hk, heap_setCell_other _ ⟨g, _, none⟩ k _ hk]
  have hfg : pf ≠ g := fun e => by
    obtain ⟨vs, h1, _⟩ := h.grid.own
    obtain ⟨_, _, cur, hcur, _⟩ := own_blk h1
    have hf := h.field
    subst e
    have := hcur.symm.trans hf
    injection this with this
    injection this with _ h3 _
    exact absurd h3 (by decide)
  have hgl := h.gl
  refine ⟨h.grid.swap rfl ha hb hw, fun i hi => ?_, h.kpt.then hB fun k hk => hbl k hk.2.1, (hbl _ (by omega)).trans h.box, (hbl _ hfg).trans h.field, h.low, h.gl⟩
  by_cases e : i = b
  · rw [if_pos e]; exact h.img a ha
  · rw [if_neg e]
    by_cases e2 : i = a
    · rw [if_pos e2]; exact h.img b hb
    · rw [if_neg e2]; exact h.img i hi
theorem StepSt.congr {Z : Nat → List Nat} (h : StepSt w B g N pf p Y wr p' c') (e : ∀ i, i < N → Z i = Y i) : StepSt w B g N pf p Z wr p' c' := ⟨h.grid.congr e, h.img, h.kpt, h.box, h.field, h.low, h.gl⟩
end

/-- And the column's number in a box of its own. -/
structure StepC (w : World) (B g N pf : Nat) (p : Nat → Nat) (Y : Nat → List Nat) (wr : World) (p' c' : Nat → Nat) (bc k : Nat) : Prop where
  st : StepSt w B g N pf p Y wr p' c'
  cb : wr.heap[bc]? = some (.cells #[.int .i64 (k : Nat)] 3 (0, 0))
  bcl : w.heap.size ≤ bc
section
variable {w wr w2 : World} {B g N pf bc k : Nat} {p p' c' : Nat → Nat} {Y : Nat → List Nat}
theorem StepC.drewN (h : StepC w B g N pf p Y wr p' c' bc k) (q : Nat) : StepC w B g N pf p Y (wr.drewN q) p' c' bc k := ⟨h.st.drewN q, h.cb, h.bcl⟩
theorem StepC.turn {i : Nat} {l : List Nat} (h : StepC w B g N pf p Y wr p' c' bc k) (hi : i < N) (hO : Only (p' i) wr w2) (hl : l.length = (Y i).length) (hr : w2.ownsRow B 5 1 (.slice (some ⟨p' i, 0, none⟩) (Y i).length (c' i)) (Y i).length (bs l)) :
    StepC w B g N pf p (fun j => if j = i then l else Y j) w2 p' c' bc k :=
  ⟨h.st.turn hi hO hl hr, (hO.block _ (lt_of_block h.cb) (by have := h.st.low' hi; have := h.bcl; omega)).trans h.cb, h.bcl⟩
theorem StepC.congr {Z : Nat → List Nat} (h : StepC w B g N pf p Y wr p' c' bc k) (e : ∀ i, i < N → Z i = Y i) : StepC w B g N pf p Z wr p' c' bc k := ⟨h.st.congr e, h.cb, h.bcl⟩
theorem StepC.col (h : StepC w B g N pf p Y wr p' c' bc k) : wr.cell? ⟨bc, 0, none⟩ = some (.int .i64 (k : Nat)) := (cell_of_block h.cb).trans rfl
theorem StepC.fld (h : StepC w B g N pf p Y wr p' c' bc k) : wr.cell? ⟨w.heap.size, 0, none⟩ = some (.pointer (some ⟨pf, 0, none⟩)) := (cell_of_block h.st.box).trans rfl
theorem StepC.swap {a b W : Nat} (h : StepC w B g N pf p Y wr p' c' bc k) (hL : Gf.Long Y W) (ha : a < N) (hb : b < N)
    (hw : w2.heap = ((wr.setCell ⟨g, a, none⟩ (.slice (some ⟨p' b, 0, none⟩) W (c' b))).setCell ⟨g, b, none⟩ (.slice (some ⟨p' a, 0, none⟩) W (c' a))).heap) (hB : Below 0 wr w2) :
    ∃ p2 c2, StepC w B g N pf p (Gf.swp Y a b) w2 p2 c2 bc k := by
  have hg := h.st.gl
  have hl := h.bcl
  refine ⟨_, _, h.st.swap ha hb (by rw [hL a, hL b]; exact hw) hB, ?_, h.bcl⟩
  have hne : bc ≠ g := by omega
  rw [hw, heap_setCell_other _ ⟨g, _, none⟩ bc _ hne, heap_setCell_other _ ⟨g, _, none⟩ bc _ hne]
  exact h.cb
end
/-- The rows of an elimination, the first r of them turned. -/
def elTo (M : Nat → List Nat) (n k r : Nat) : Nat → List Nat := fun j => if j = n then Gf.sc (Gf.inv (Gf.at0 (M n) k)) (M n) else if j < r then Gf.ad (Gf.at0 (M j) k) (M j) (Gf.sc (Gf.inv (Gf.at0 (M n) k)) (M n)) else M j
theorem elTo_long {M : Nat → List Nat} {W n k r : Nat} (h : Gf.Long M W) : Gf.Long (elTo M n k r) W := fun j => by
  unfold elTo; split
  · rw [Gf.sc_len]; exact h n
  · split
    · rw [Gf.ad_len (by rw [Gf.sc_len, h j, h n])]; exact h j
    · exact h j
theorem elTo_byt {M : Nat → List Nat} {W n k r : Nat} (hl : Gf.Long M W) (h : Gf.Byt M) : Gf.Byt (elTo M n k r) := fun j i => by
  unfold elTo; split
  · rw [Gf.at0_sc]; exact Gf.mul_lt (h n i)
  · split
    · rw [Gf.at0_ad (by rw [Gf.sc_len, hl j, hl n]), Gf.at0_sc]; exact Gf.xor_lt (h j i) (Gf.mul_lt (Gf.mul_lt (h n i)))
    · exact h j i

theorem cut_rows {g N r : Nat} (h : r < N) (w : World) : (Instr.sliceAt 112 (.slice (some ⟨g, 0, none⟩) N N) (some (.int .i64 r)) none none).run Try.prog w = .ok (.slice (some ⟨g, r, none⟩) (N - r) (N - r)) w := by
  have h1 : (r : Int) ≤ N := by omega
  go_simp
  intro e
  omega
theorem cut_end {g N : Nat} (w : World) : (Instr.sliceAt 112 (.slice (some ⟨g, 0, none⟩) N N) (some (.int .i64 N)) none none).run Try.prog w = .ok (.slice (some ⟨g, 0, none⟩) 0 0) w := by
  go_simp

set_option maxHeartbeats 6000000 in
set_option maxRecDepth 100000 in
theorem steps_any {w : World} {B pf g N W C : Nat} {p c : Nat → Nat} {X : Nat → List Nat} (hf : IsF w pf) (hG : GridTo w B (.slice (some ⟨g, 0, none⟩) N N) N N p c X) (hg : g < w.heap.size) (hL : Gf.Long X W) (hb : Gf.Byt X) (hC : C ≤ W) (hN : N ≤ 100000) (hW : W ≤ 100000) :
    Calls Try.prog 103 #[.agg #[.pointer (some ⟨pf, 0, none⟩)], .slice (some ⟨g, 0, none⟩) N N, .int .i64 (C : Nat)] w fun e w' => e = .returned (.int .i64 (Gf.rdN X N C : Nat)) ∧ (∃ p' c', GridTo w' B (.slice (some ⟨g, 0, none⟩) N N) N N p' c' (Gf.rdX X N C)) ∧ Kpt (Off w g N p) w w' := by
  have hlow : ∀ j, j < N → p j < w.heap.size := fun j hj => by
    obtain ⟨_, _, cur, hcur, _⟩ := own_blk (hG.row j hj)
    exact lt_of_block hcur
  have hb1 := (Below.refl w.heap.size w).alloc (Nat.le_refl _) (.cells #[.pointer (some ⟨pf, 0, none⟩)] 113)
  have HS0 := Lib.hid (StepSt.mk (w := w) (hG.below hb1) (fun i hi => ⟨i, hi, rfl⟩) (Kpt.of_below hb1 fun k hk => hk.lt) (heap_alloc_new _ _) (hf.below hb1 hf.lt) hlow hg)
  have HL := Lib.hid hL
  have HBy := Lib.hid hb
  clear hf hG hL hb hlow hb1
  go_enter Try.func103, Try.ntmps103
  go_wp2_with fail
  go_loopw [6, 13] (fun nn i wr => ∃ k : Nat, k ≤ C ∧ i = .int .i64 k ∧ nn = .int .i64 (Gf.rdN X N k : Nat) ∧ ∃ p' c', Hid (StepSt w B g N pf p (Gf.rdX X N k) wr p' c')) (fun _ i _ => C - (intOf i).toNat)
  case atStart => exact ⟨0, Nat.zero_le _, rfl, rfl, _, _, HS0⟩
  case round =>
    obtain ⟨k, hk, rfl, rfl, p', c', HS⟩ := hrel
    obtain ⟨wo, rfl⟩ : ∃ wo, wo = wr := ⟨_, rfl⟩
    by_cases hk1 : k < C
    · have hn := (Gf.rdN_le X N k).1
      have HE0 := Lib.hid (fun h : ¬ Gf.fnd (Gf.rdX X N k) N k (Gf.rdN X N k) < N => Gf.rd_none h)
      have HE1 := Lib.hid (fun h : Gf.fnd (Gf.rdX X N k) N k (Gf.rdN X N k) < N => Gf.rd_some h)
      have HLM := Lib.hid (HL.out.rdX N k)
      have HBM := Lib.hid (HBy.out.rdX HL.out N k)
      generalize Gf.rdX X N k = M at *
      generalize Gf.rdN X N k = n at *
      have HS1 := Lib.hid (StepC.mk (bc := wo.heap.size) (k := k) (HS.out.alloc (.cells #[.int .i64 (k : Nat)] 3)) (heap_alloc_new _ _) HS.out.kpt.size)
      have hbc := HS1.out.col
      clear HS
      by_cases hnN : n < N
      · have hix := indexf_any (cp := N - n) (R := N) (M := M) (cc := k) (W := W) (show n + (N - n) = N by omega) hN (by omega) (fun i hi => by
          obtain ⟨h1, h2, h3, _⟩ := HS1.out.st.grid.line HLM.out (i := n + i) (by omega)
          exact ⟨h1, own_rb2 h3 (byt_small HBM.out _) (by omega)⟩) hbc
        have HIX := Lib.hid hix
        clear hix
        have hcr := fun w => cut_rows (g := g) hnN w
        by_cases hfd : Gf.fnd M N k n < N
        · have hna := (Gf.fnd_le (M := M) (c := k) (show n ≤ N by omega)).1
          have hne := Gf.fnd_ne (by omega) hfd
          rw [if_pos hfd] at HIX
          have HE := Lib.hid (HE1.out hfd)
          clear HE0 HE1
          generalize Gf.fnd M N k n = a at *
          have hne2 : Gf.at0 (Gf.swp M n a n) k ≠ 0 := by
            unfold Gf.swp
            by_cases e : n = a
            · rw [if_pos e]; rw [← e] at hne; exact hne
            · rw [if_neg e, if_pos rfl]; exact hne
          have HNE := Lib.hid hne2
          clear hne hne2
          go_wp2_with fail
          refine HIX.out.mono ?_
          rintro e w1 ⟨rfl, rfl⟩
          clear HIX
          have hw : IntKind.i64.wrap ((n : Int) + ((a - n : Nat) : Int)) = (a : Int) := by rw [show (n : Int) + ((a - n : Nat) : Int) = (a : Int) by omega]; exact IntWalk.i64_in _ (by omega)
          generalize a - n = e at *
          have hd0 : decide ((e : Int) < 0) = false := by simp
          obtain ⟨W1, hW1⟩ : ∃ W1, W1 = wo.alloc (.cells #[.int .i64 (k : Nat)] 3) := ⟨_, rfl⟩
          rw [← hW1] at HS1 hbc ⊢
          clear hW1
          generalize wo.heap.size = bc at *
          obtain ⟨l1, l2, l3, l4, l5, l6⟩ := HS1.out.st.grid.line HLM.out hnN
          obtain ⟨m1, m2, m3, m4, m5, m6⟩ := HS1.out.st.grid.line HLM.out hfd
          clear l3 m3
          obtain ⟨v', hv'⟩ := cell?_setCell_some (w := W1) (p := ⟨g, n, none⟩) (x := .slice (some ⟨p' a, 0, none⟩) W (c' a)) (q := ⟨g, a, none⟩) (v := .slice (some ⟨p' a, 0, none⟩) W (c' a)) m1
          go_wp2_with fail
          go_region
          obtain ⟨W2, hW2⟩ : ∃ W2, W2 = ((W1.setCell ⟨g, n, none⟩ (.slice (some ⟨p' a, 0, none⟩) W (c' a))).setCell ⟨g, a, none⟩ (.slice (some ⟨p' n, 0, none⟩) W (c' n))).drew := ⟨_, rfl⟩
          obtain ⟨p2, c2, hS2⟩ := HS1.out.swap (w2 := W2) HLM.out hnN hfd (by rw [hW2]; rfl) (by rw [hW2]; exact (((Below.refl _ _).setCell (Nat.zero_le _) _).setCell (Nat.zero_le _) _).drew)
          rw [← hW2]
          clear hW2 l1 l2 l4 l5 l6 m1 m2 m4 m5 m6 hv' HS1 hw hbc
          have HLM2 := Lib.hid (HLM.out.swp n a)
          have HBM2 := Lib.hid (HBM.out.swp n a)
          clear HLM HBM
          generalize Gf.swp M n a = M2 at *
          have HS2 := Lib.hid hS2
          have hx := byt_small HBM2.out n k
          have hinv : ∀ q, Hid (Calls Try.prog 26 #[.pointer (some ⟨pf, 0, none⟩), .int .u8 ((M2 n).getD k 0 : Nat)] (W2.drewN q) fun e w' => e = .returned (.tuple #[.int .u8 (Gf.inv ((M2 n).getD k 0) : Nat), .int .i64 0]) ∧ ∃ n, w' = (W2.drewN q).drewN n) := fun q => inv_pos (hS2.st.field.drewN q) hx (by rw [← at0_getD]; exact HNE.out)
          have HINV := Lib.hid hinv
          obtain ⟨l1, l2, l3, l4, l5, l6⟩ := hS2.st.grid.line HLM2.out hnN
          have hcell := (own_cell l3 (i := k) (by omega)).1
          have hb0 := hS2.col
          have hb1 := hS2.fld
          have hil : Gf.inv ((M2 n).getD k 0) < 256 := Gf.inv_lt
          have hkW : k < W := by omega
          have hsc : ∀ q, Hid (Calls Try.prog 128 #[.agg #[.pointer (some ⟨pf, 0, none⟩)], .slice (some ⟨p2 n, 0, none⟩) W (c2 n), .int .u8 (Gf.inv ((M2 n).getD k 0) : Nat)] (W2.drewN q) fun e w' => (∃ v, e = .returned v) ∧ w'.ownsRow B 5 1 (.slice (some ⟨p2 n, 0, none⟩) W (c2 n)) W (bs (Gf.sc (Gf.inv ((M2 n).getD k 0)) (M2 n))) ∧ Only (p2 n) (W2.drewN q) w') := fun q => scale_any hil (hS2.st.field.drewN q) l3 (byt_small HBM2.out n) hW
          have HSC := Lib.hid hsc
          clear hinv hsc hS2 l3
          have HIV := Lib.hid (show Gf.inv (Gf.at0 (M2 n) k) = Gf.inv ((M2 n).getD k 0) by rw [at0_getD])
          generalize Gf.inv ((M2 n).getD k 0) = iv at *
          generalize (M2 n).getD k 0 = x at *
          go_wp2_with fail
          refine wp_region_quiet_lit (by kernel_rfl) (by kernel_rfl) ?_
          repeat (go_big_quiet_step ((go_at_call 26; exact Calls.quiet_of (HINV.out _).out)))
          refine wpQuiet_nil ?_
          intro _ hw'
          obtain ⟨nq, rfl⟩ := hw'
          obtain ⟨W3, hW3⟩ : ∃ W3, W3 = W2.drewN nq := ⟨_, rfl⟩
          have hS3 : StepC w B g N pf p M2 W3 p2 c2 bc k := by rw [hW3]; exact HS2.out.drewN nq
          have HSC3 : Hid (∀ q, Hid (Calls Try.prog 128 #[.agg #[.pointer (some ⟨pf, 0, none⟩)], .slice (some ⟨p2 n, 0, none⟩) W (c2 n), .int .u8 (iv : Nat)] (W3.drewN q) fun e w' => (∃ v, e = .returned v) ∧ w'.ownsRow B 5 1 (.slice (some ⟨p2 n, 0, none⟩) W (c2 n)) W (bs (Gf.sc iv (M2 n))) ∧ Only (p2 n) (W3.drewN q) w')) := by
            rw [hW3]; intro q; rw [World.drewN_drewN]; exact HSC.out _
          rw [← hW3]
          clear hW3 HS2 HSC HINV hcell hb0 hb1 l1 l2 l4 l5 l6
          have HS3 := Lib.hid hS3
          obtain ⟨l1, l2, l3, l4, l5, l6⟩ := hS3.st.grid.line HLM2.out hnN
          have hb1 := hS3.fld
          clear l3 hS3
          go_wp2_with fail
          refine region_quiet_tail 6 (by kernel_rfl) (by kernel_rfl) ?_
          simp only [List.take_succ_cons, List.take_zero, List.drop_succ_cons, List.drop_zero]
          repeat (go_big_quiet_step (fail))
          refine wpQuiet_nil ?_
          intro _ hw'
          obtain ⟨nq, rfl⟩ := hw'
          go_wp2_with (go_at_call 128; ((with_reducible refine (HSC3.out _).out.mono ?_); rintro e w4 ⟨⟨v4, rfl⟩, ho4, hO4⟩; have HO4 := Lib.hid ho4; have HN4 := Lib.hid hO4; clear ho4 hO4))
          have hS4 : StepC w B g N pf p (elTo M2 n k 0) w4 p2 c2 bc k := ((HS3.out.drewN nq).turn (l := Gf.sc iv (M2 n)) hnN HN4.out (Gf.sc_len _ _) (by rw [HLM2.out n]; exact HO4.out)).congr fun j _ => by
            unfold elTo
            rw [HIV.out]
            split
            · rfl
            · rw [if_neg (Nat.not_lt_zero _)]
          have HS4 := Lib.hid hS4
          clear hS4 HS3 HSC3 HO4 HN4 l1 l2 l4 l5 l6 hb1 HIV
          go_loopw [63] (fun i wr => ∃ r : Nat, r ≤ N ∧ i = .int .i64 r ∧ Hid (StepC w B g N pf p (elTo M2 n k r) wr p2 c2 bc k)) (fun i _ => N - (intOf i).toNat)
          case atStart => exact ⟨0, Nat.zero_le _, rfl, HS4⟩
          case round =>
            clear HS4
            obtain ⟨r, hr, rfl, HS⟩ := hrel
            by_cases hr1 : r < N
            · by_cases hrn : r = n
              · subst hrn
                have HS5 := Lib.hid (HS.out.congr (Z := elTo M2 r k (r + 1)) fun j _ => by
                  unfold elTo
                  by_cases e : j = r
                  · rw [if_pos e, if_pos e]
                  · rw [if_neg e, if_neg e]
                    by_cases e2 : j < r
                    · rw [if_pos e2, if_pos (by omega)]
                    · rw [if_neg e2, if_neg (by omega)])
                go_wp2_with fail
                go_roundw
                case rel => exact ⟨r + 1, by omega, by go_num, HS5⟩
                case measure => simp [intOf]; omega
              · have q1 : ((r : Int) != (n : Int)) = true := by simp; omega
                have q2 : decide (r = n) = false := by simp; omega
                have HLE := Lib.hid (elTo_long (n := n) (k := k) (r := r) HLM2.out)
                have HBE := Lib.hid (elTo_byt (n := n) (k := k) (r := r) HLM2.out HBM2.out)
                obtain ⟨l1, l2, l3, l4, l5, l6⟩ := HS.out.st.grid.line HLE.out hnN
                obtain ⟨m1, m2, m3, m4, m5, m6⟩ := HS.out.st.grid.line HLE.out hr1
                have hcell := (own_cell m3 (i := k) (by omega)).1
                have hb0 := HS.out.col
                have hb1 := HS.out.fld
                have hpp : p2 n ≠ p2 r := fun e => hrn (HS.out.st.grid.inj n r hnN hr1 e).symm
                have hadd : ∀ q, Hid (Calls Try.prog 102 #[.agg #[.pointer (some ⟨pf, 0, none⟩)], .slice (some ⟨p2 r, 0, none⟩) W (c2 r), .slice (some ⟨p2 n, 0, none⟩) W (c2 n), .int .u8 ((elTo M2 n k r r).getD k 0 : Nat)] (wr.drewN q) fun e w' => (∃ v, e = .returned v) ∧ w'.ownsRow B 5 1 (.slice (some ⟨p2 r, 0, none⟩) W (c2 r)) W (bs (Gf.ad ((elTo M2 n k r r).getD k 0) (elTo M2 n k r r) (elTo M2 n k r n))) ∧ Only (p2 r) (wr.drewN q) w') := fun q =>
                  addr_any (byt_small HBE.out r k) (HS.out.st.field.drewN q) m3 (byt_small HBE.out r) ((own_rb2 l3 (byt_small HBE.out n) (by omega)).drewN q) (fun _ b off e => by injection e with e; injection e with e; rw [← e]; exact hpp) hW
                have hst : ∀ q w5, w5.ownsRow B 5 1 (.slice (some ⟨p2 r, 0, none⟩) W (c2 r)) W (bs (Gf.ad ((elTo M2 n k r r).getD k 0) (elTo M2 n k r r) (elTo M2 n k r n))) → Only (p2 r) (wr.drewN q) w5 → Hid (StepC w B g N pf p (elTo M2 n k (r + 1)) w5 p2 c2 bc k) := fun q w5 h5 h6 =>
                  ((HS.out.drewN q).turn (l := Gf.ad ((elTo M2 n k r r).getD k 0) (elTo M2 n k r r) (elTo M2 n k r n)) hr1 h6 (by rw [Gf.ad_len (by rw [HLE.out r, HLE.out n])]) (by rw [HLE.out r]; exact h5)).congr fun j _ => by
                    have e1 : elTo M2 n k r r = M2 r := by unfold elTo; rw [if_neg hrn, if_neg (Nat.lt_irrefl r)]
                    have e2 : elTo M2 n k r n = Gf.sc (Gf.inv (Gf.at0 (M2 n) k)) (M2 n) := by unfold elTo; rw [if_pos rfl]
                    rw [e1, e2, ← at0_getD]
                    unfold elTo
                    by_cases e : j = r
                    · subst e
                      rw [if_pos rfl, if_neg hrn, if_pos (Nat.lt_succ_self _)]
                    · rw [if_neg e]
                      by_cases e3 : j = n
                      · rw [if_pos e3, if_pos e3]
                      · rw [if_neg e3, if_neg e3]
                        by_cases e4 : j < r
                        · rw [if_pos e4, if_pos (by omega)]
                        · rw [if_neg e4, if_neg (by omega)]
                have HADD := Lib.hid hadd
                have HSTP := Lib.hid hst
                clear hadd hst l3 m3 hpp HS
                generalize (elTo M2 n k r r).getD k 0 = y at *
                go_wp2_with fail
                refine region_quiet_tail 16 (by kernel_rfl) (by kernel_rfl) ?_
                simp only [List.take_succ_cons, List.take_zero, List.drop_succ_cons, List.drop_zero]
                repeat (go_big_quiet_step (fail))
                refine wpQuiet_nil ?_
                intro _ hw'
                obtain ⟨nq, rfl⟩ := hw'
                go_wp2_with (go_at_call 102; ((with_reducible refine (HADD.out _).out.mono ?_); rintro e w5 ⟨⟨v5, rfl⟩, ho5, hO5⟩; have HS5 := HSTP.out _ _ ho5 hO5; clear ho5 hO5))
                go_roundw
                case rel => exact ⟨r + 1, by omega, by go_num, HS5⟩
                case measure => simp [intOf]; omega
            · obtain rfl : r = N := by omega
              have hS5 : StepSt w B g r pf p (Gf.elim M2 n k) wr p2 c2 := HS.out.st.congr fun j hj => by
                unfold elTo Gf.elim Gf.elimB
                by_cases e : j = n
                · rw [if_pos e, if_pos e]
                · rw [if_neg e, if_neg e, if_pos hj]
              have hfin : Gf.rdN X r (k + 1) = n + 1 ∧ Hid (StepSt w B g r pf p (Gf.rdX X r (k + 1)) wr p2 c2) := ⟨HE.out.1, by rw [HE.out.2]; exact hS5⟩
              have HFN := Lib.hid hfin
              clear hS5 hfin HS
              go_wp2_with fail
              go_roundw
              case rel => exact ⟨k + 1, by omega, by go_num, by rw [HFN.out.1]; go_num, p2, c2, HFN.out.2⟩
              case measure => simp [intOf]; omega
        · rw [if_neg hfd] at HIX
          have HFN := Lib.hid (HE0.out hfd)
          clear HE0 HE1 hfd
          go_wp2_with fail
          refine HIX.out.mono ?_
          rintro e w1 ⟨rfl, rfl⟩
          go_wp2_with fail
          go_roundw
          case rel => exact ⟨k + 1, by omega, by go_num, by rw [HFN.out.1], _, _, by rw [HFN.out.2]; exact HS1.out.st⟩
          case measure => simp [intOf]; omega
      · obtain rfl : n = N := by omega
        have hnf : ¬ Gf.fnd M n k n < n := by
          have := Gf.fnd_le (M := M) (c := k) (show n ≤ n by omega)
          omega
        have HFN := Lib.hid (HE0.out hnf)
        have hcr := fun w => cut_end (g := g) (N := n) w
        clear HE0 HE1 hnf
        go_wp2_with fail
        refine indexf_nil.mono ?_
        rintro e w1 ⟨rfl, rfl⟩
        go_wp2_with fail
        go_roundw
        case rel => exact ⟨k + 1, by omega, by go_num, by rw [HFN.out.1], _, _, by rw [HFN.out.2]; exact HS1.out.st⟩
        case measure => simp [intOf]; omega
    · obtain rfl : k = C := by omega
      go_wp2_with fail
      go_ret
      exact ⟨rfl, ⟨_, _, HS.out.grid⟩, HS.out.kpt⟩
end Go.Proofs.Ytokeoodkioobdaa
