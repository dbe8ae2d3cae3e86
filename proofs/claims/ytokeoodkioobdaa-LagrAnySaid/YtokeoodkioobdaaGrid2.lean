/- What stays where the rows of a grid turn; a row by a byte, a row and another one by a byte, told place by place. Conditions: none. -/
import Derived.Test.YtokeoodkioobdaaRows1
import Derived.Test.YtokeoodkioobdaaRowsC
namespace Go.Proofs.Ytokeoodkioobdaa
open Go.RowKit

theorem Kpt.only {S : Nat → Prop} {w w' w2 : World} {q : Nat} (h : Kpt S w w') (hO : Only q w' w2) (hq : ¬ S q) (hl : ∀ k, S k → k < w.heap.size) : Kpt S w w2 :=
  h.then (hO.below 0 (Nat.zero_le _) (Nat.zero_le _)) fun k hk => hO.block k (Nat.lt_of_lt_of_le (hl k hk) h.size) (fun e => hq (e ▸ hk))
theorem Kpt.mono {S S' : Nat → Prop} {a b : World} (h : Kpt S a b) (hs : ∀ k, S' k → S k) : Kpt S' a b := ⟨h.os, h.tape, h.output, h.size, fun k hk => h.block k (hs k hk)⟩
theorem Kpt.low {S : Nat → Prop} {a b : World} {B : Nat} (h : Kpt S a b) (hs : ∀ k, k < B → S k) : Below B a b := ⟨h.os, h.tape, h.output, h.size, fun k hk => h.block k (hs k hk)⟩
theorem Kpt.of_below {S : Nat → Prop} {a b : World} {B : Nat} (h : Below B a b) (hs : ∀ k, S k → k < B) : Kpt S a b := ⟨h.os, h.tape, h.output, h.size, fun k hk => h.block k (hs k hk)⟩
theorem Kpt.isF {S : Nat → Prop} {w w' : World} {q : Nat} (h : Kpt S w w') (hf : IsF w q) (hq : S q) : IsF w' q := (h.block q hq).trans hf

/-- The blocks that lay, but a grid's own. -/
def Off (w : World) (g N : Nat) (p : Nat → Nat) (b : Nat) : Prop := b < w.heap.size ∧ b ≠ g ∧ ∀ i, i < N → p i ≠ b
theorem Off.lt {w : World} {g N b : Nat} {p : Nat → Nat} (h : Off w g N p b) : b < w.heap.size := h.1
theorem isF_off {w : World} {B N g d q : Nat} {p c : Nat → Nat} {X : Nat → List Nat} (hf : IsF w q) (h : GridTo w B (.slice (some ⟨g, 0, none⟩) N d) N N p c X) : Off w g N p q := by
  refine ⟨hf.lt, fun e => ?_, fun i hi e => ?_⟩
  · obtain ⟨vs, h1, _⟩ := h.own
    obtain ⟨_, _, cur, hcur, _⟩ := own_blk h1
    subst e
    have := hcur.symm.trans hf
    injection this with this
    injection this with _ h3 _
    exact absurd h3 (by decide)
  · obtain ⟨_, _, cur, hcur, _⟩ := own_blk (h.row i hi)
    subst e
    have := hcur.symm.trans hf
    injection this with this
    injection this with _ h3 _
    exact absurd h3 (by decide)
theorem off_below {w w' : World} {B N g d : Nat} {p c : Nat → Nat} {X : Nat → List Nat} (hk : Kpt (Off w g N p) w w') (h : GridTo w B (.slice (some ⟨g, 0, none⟩) N d) N N p c X) (hB : B ≤ w.heap.size) : Below B w w' := by
  refine hk.low fun k hlt => ⟨(by omega : k < w.heap.size), fun e => ?_, fun i hi e => ?_⟩
  · obtain ⟨vs, h1, _⟩ := h.own
    have := (own_blk h1).1
    omega
  · have := (own_blk (h.row i hi)).1
    omega

/-- A row by a byte, the first k places. -/
def scTo (X : List Nat) (y : Nat) : Nat → List Nat
  | 0 => X
  | k + 1 => (scTo X y k).set k (Gf.mul ((scTo X y k).getD k 0) y)
theorem scTo_len (X : List Nat) (y : Nat) : ∀ k, (scTo X y k).length = X.length
  | 0 => rfl
  | k + 1 => by show (List.set _ _ _).length = _; rw [List.length_set, scTo_len X y k]
theorem scTo_get {X : List Nat} {y : Nat} : ∀ {k : Nat}, k ≤ X.length → ∀ j, (scTo X y k).getD j 0 = if j < k then Gf.mul (X.getD j 0) y else X.getD j 0
  | 0, _, j => by rw [if_neg (by omega)]; rfl
  | k + 1, h, j => by
    show (List.set _ _ _).getD j 0 = _
    rw [getD_set _ _ _ _ (by rw [scTo_len]; omega), scTo_get (by omega), scTo_get (by omega)]
    by_cases e : k = j
    · subst e; rw [if_pos rfl, if_neg (by omega), if_pos (by omega)]
    · rw [if_neg e]
      by_cases h2 : j < k
      · rw [if_pos h2, if_pos (by omega)]
      · rw [if_neg h2, if_neg (by omega)]
theorem scTo_small {X : List Nat} {y k : Nat} (hX : Small X) (h : k ≤ X.length) : Small (scTo X y k) := fun j => by
  rw [scTo_get h]
  split
  · exact Gf.mul_lt (hX j)
  · exact hX j
theorem at0_getD (l : List Nat) (c : Nat) : Gf.at0 l c = l.getD c 0 := by rw [List.getD_eq_getElem?_getD]; rfl
theorem scTo_all (X : List Nat) (y : Nat) : scTo X y X.length = Gf.sc y X := by
  refine Gf.ext0 (by rw [scTo_len, Gf.sc_len]) fun c hc => ?_
  rw [scTo_len] at hc
  rw [Gf.at0_sc, at0_getD, at0_getD, scTo_get (Nat.le_refl _), if_pos hc]
theorem xadd_all {X l : List Nat} {y : Nat} (h : X.length = l.length) : xadd X 0 l y l.length = Gf.ad y X l := by
  refine Gf.ext0 (by rw [length_xadd, Gf.ad_len h]) fun c hc => ?_
  rw [length_xadd] at hc
  rw [Gf.at0_ad h, at0_getD, at0_getD, at0_getD, xadd_get (by omega), if_pos (by omega), Nat.sub_zero]
theorem small_at0 {l : List Nat} : Small l ↔ ∀ c, Gf.at0 l c < 256 := by
  constructor
  · intro h c; rw [at0_getD]; exact h c
  · intro h c; rw [← at0_getD]; exact h c
theorem byt_small {X : Nat → List Nat} (h : Gf.Byt X) (r : Nat) : Small (X r) := small_at0.2 (h r)
/-- The rows of a list, those beyond it left out. -/
def cut (N : Nat) (X : Nat → List Nat) (W : Nat) : Nat → List Nat := fun r => if r < N then X r else List.replicate W 0
section
variable {w w' : World} {B N K i g d : Nat} {v : Value} {p c : Nat → Nat} {X : Nat → List Nat} {l : List Nat}
theorem GridTo.drewN (h : GridTo w B v N K p c X) (q : Nat) : GridTo (w.drewN q) B v N K p c X := h.heap fun _ _ _ => rfl
theorem GridTo.start {vs : List Value} (hv : w.ownsRow B 31 1 v N vs) (p c : Nat → Nat) (X : Nat → List Nat) : GridTo w B v N 0 p c X :=
  ⟨⟨vs, hv, fun i hi => absurd hi (Nat.not_lt_zero i)⟩, fun i hi => absurd hi (Nat.not_lt_zero i), fun i _ hi => absurd hi (Nat.not_lt_zero i), Nat.zero_le _⟩
theorem GridTo.slot (h : GridTo w B (.slice (some ⟨g, 0, none⟩) N d) N K p c X) (hi : i < N) : (∃ u, w.cell? ⟨g, i, none⟩ = some u) ∧ w.frozen? ⟨g, i, none⟩ = false ∧ B ≤ g ∧ g < w.heap.size := by
  obtain ⟨vs, h1, _⟩ := h.own
  have hlen : vs.length = N := by have := h1.1; rwa [Nat.mul_one] at this
  obtain ⟨g', c', e, h2, h3, h4, h5, _⟩ := own_cellV (i := i) (u := vs[i]'(by omega)) h1 (by rw [List.getElem?_eq_getElem])
  injection e with e
  injection e with e
  injection e with e
  subst e
  exact ⟨⟨_, h4⟩, h5, h2, h3⟩
theorem GridTo.gl (h : GridTo w B (.slice (some ⟨g, 0, none⟩) N d) N K p c X) : B ≤ g ∧ g < w.heap.size := by
  obtain ⟨vs, h1, _⟩ := h.own
  obtain ⟨h2, _, cur, hcur, _⟩ := own_blk h1
  exact ⟨h2, lt_of_block hcur⟩
/-- One row's bytes have turned; the list and the other rows lie as they lay. -/
theorem GridTo.turn2 (h : GridTo w B v N K p c X) (hi : i < K) (hg : ∀ g, v.ownBlock = some g → w'.heap[g]? = w.heap[g]?) (hp : ∀ j, j < K → j ≠ i → w'.heap[p j]? = w.heap[p j]?) (hl : l.length = (X i).length) (hr : w'.ownsRow B 5 1 (.slice (some ⟨p i, 0, none⟩) (X i).length (c i)) (X i).length (bs l)) :
    GridTo w' B v N K p c fun j => if j = i then l else X j := by
  obtain ⟨⟨vs, h1, h2⟩, h3, h4, h5⟩ := h
  have el : ∀ j, (if j = i then l else X j).length = (X j).length := fun j => by
    by_cases e : j = i
    · subst e; rw [if_pos rfl, hl]
    · rw [if_neg e]
  have eh : ∀ j, hdr p c (fun j => if j = i then l else X j) j = hdr p c X j := fun j => by unfold hdr; rw [el j]
  refine ⟨⟨vs, own_frame h1 fun b hb _ => hg b hb, fun j hj => by rw [eh j]; exact h2 j hj⟩, fun j hj => ?_, h4, h5⟩
  show w'.ownsRow B 5 1 (hdr p c _ j) (if j = i then l else X j).length (bs (if j = i then l else X j))
  rw [eh j, el j]
  by_cases e : j = i
  · subst e; rw [if_pos rfl]; exact hr
  · rw [if_neg e]
    refine own_frame (h3 j hj) fun b hb _ => ?_
    cases hb
    exact hp j hj e
/-- What can be read of a row, where all are alike long. -/
theorem GridTo.line {W : Nat} (h : GridTo w B (.slice (some ⟨g, 0, none⟩) N d) N K p c X) (hl : Gf.Long X W) (hi : i < K) :
    w.cell? ⟨g, i, none⟩ = some (.slice (some ⟨p i, 0, none⟩) W (c i)) ∧ w.frozen? ⟨g, i, none⟩ = false ∧ w.ownsRow B 5 1 (.slice (some ⟨p i, 0, none⟩) W (c i)) W (bs (X i)) ∧ p i ≠ g ∧ p i < w.heap.size ∧ W ≤ c i := by
  obtain ⟨g', d', e, h1, h2, h3, h4, h5, h6, h7, h8⟩ := h.cell hi
  injection e with e
  injection e with e
  injection e with e
  subst e
  have hr := h.row i hi
  unfold hdr at hr
  rw [hl i] at h3 hr h8
  exact ⟨h3, h4, hr, h5 i hi, h7, h8⟩
end
/-- The address behind a cut at the front, cells of one place. -/
def adv1 (a : Option Addr) (r cap : Nat) : Option Addr := match a with
  | none => none
  | some ad => if cap - r = 0 then some ad else some (ad.add r)
end Go.Proofs.Ytokeoodkioobdaa
