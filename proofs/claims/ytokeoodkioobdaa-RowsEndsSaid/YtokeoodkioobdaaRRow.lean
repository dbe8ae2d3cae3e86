/- Lists of rows: read, and owned; the walk of SameRows at lists that are alike. Conditions: rows are shorter than 2 to the 47. -/
import Derived.Test.YtokeoodkioobdaaFlat6
import Derived.Deep.RegionHeld3
namespace Go.Proofs.Ytokeoodkioobdaa
open Go.RowKit

/-- A list of rows that can be read. -/
structure RR (w : World) (v : Value) (N : Nat) (X : Nat → List Nat) : Prop where
  shape : ∃ a c, v = .slice a N c ∧ ∀ k, k < N → ∃ b o a1 n1 c1, a = some ⟨b, o, none⟩ ∧ w.cell? ⟨b, o + k, none⟩ = some (.slice a1 n1 c1) ∧ RB w a1 n1 c1 (X k)
theorem RR.below {w w' : World} {v : Value} {N : Nat} {X : Nat → List Nat} (h : RR w v N X) (hB : Below w.heap.size w w') : RR w' v N X := by
  obtain ⟨a, c, rfl, hk⟩ := h.shape
  refine ⟨a, c, rfl, fun k hk1 => ?_⟩
  obtain ⟨b, o, a1, n1, c1, e, hc, hr⟩ := hk k hk1
  exact ⟨b, o, a1, n1, c1, e, (hB.cell (block_lt_of_cell hc)).trans hc, hr.below hB⟩
theorem RR.drewN {w : World} {v : Value} {N : Nat} {X : Nat → List Nat} (h : RR w v N X) (q : Nat) : RR (w.drewN q) v N X := h.below (below_drewN (Below.refl _ _) q)
theorem RR.drawn {w w' : World} {v : Value} {N : Nat} {X : Nat → List Nat} (h : RR w v N X) (hD : Drawn w w') : RR w' v N X := by obtain ⟨q, rfl⟩ := hD; exact h.drewN q

/-- Rows, each in a block of its own element type. -/
def RowsAt (w : World) (B N : Nat) (vs : List Value) (X : Nat → List Nat) : Prop := ∀ i, i < N → ∃ a n c, vs[i]? = some (.slice a n c) ∧ w.ownsRow B 5 1 (.slice a n c) n (bs (X i))
/-- A list of rows that the call owns. -/
def TabAt (w : World) (B : Nat) (v : Value) (N : Nat) (X : Nat → List Nat) : Prop := ∃ vs, w.ownsRow B 31 1 v N vs ∧ RowsAt w B N vs X

theorem unl_types {w : World} {B B' n n' : Nat} {e e' : TypeId} {v v' : Value} {xs xs' : List Value} (hne : e ≠ e') (h : w.ownsRow B e 1 v n xs) (h' : w.ownsRow B' e' 1 v' n' xs') : Unl v v' := by
  intro g e1 e2
  rcases h.2 with ⟨rfl, _⟩ | ⟨g1, cap, cur, rfl, hb, hh, _⟩
  · cases e1
  · rcases h'.2 with ⟨rfl, _⟩ | ⟨g2, cap2, cur2, rfl, hb2, hh2, _⟩
    · cases e2
    · injection e1 with e1
      injection e2 with e2
      subst e1; subst e2
      rw [hh] at hh2
      injection hh2 with hh2
      injection hh2 with _ h3 _
      exact hne h3
theorem own_below' {w w' : World} {B n : Nat} {e : TypeId} {v : Value} {xs : List Value} (h : w.ownsRow B e 1 v n xs) (hB : Below w.heap.size w w') : w'.ownsRow B e 1 v n xs :=
  own_frame h fun g _ hg => hB.block g hg
theorem RowsAt.below {w w' : World} {B N : Nat} {vs : List Value} {X : Nat → List Nat} (h : RowsAt w B N vs X) (hB : Below w.heap.size w w') : RowsAt w' B N vs X := fun i hi => by
  obtain ⟨a, n, c, e, ho⟩ := h i hi
  exact ⟨a, n, c, e, own_below ho hB⟩
theorem TabAt.below {w w' : World} {B N : Nat} {v : Value} {X : Nat → List Nat} (h : TabAt w B v N X) (hB : Below w.heap.size w w') : TabAt w' B v N X := by
  obtain ⟨vs, h1, h2⟩ := h
  exact ⟨vs, own_below' h1 hB, h2.below hB⟩
theorem TabAt.nil (w : World) (B : Nat) (X : Nat → List Nat) : TabAt w B (.slice none 0 0) 0 X := ⟨[], ⟨rfl, .inl ⟨rfl, rfl⟩⟩, fun i hi => absurd hi (by omega)⟩
theorem TabAt.slice {w : World} {B N : Nat} {v : Value} {X : Nat → List Nat} (h : TabAt w B v N X) : ∃ a c, v = .slice a N c := by
  obtain ⟨vs, h1, h2⟩ := h
  rcases h1.2 with ⟨rfl, rfl⟩ | ⟨g, cap, cur, rfl, _⟩
  · exact ⟨_, _, rfl⟩
  · exact ⟨_, _, rfl⟩
theorem TabAt.mono {w : World} {B B' N : Nat} {v : Value} {X : Nat → List Nat} (h : TabAt w B v N X) (hb : B' ≤ B) : TabAt w B' v N X := by
  obtain ⟨vs, ⟨h1, h2⟩, h3⟩ := h
  refine ⟨vs, ⟨h1, ?_⟩, fun i hi => ?_⟩
  · rcases h2 with h2 | ⟨g, cap, cur, rfl, hg, hh, hn⟩
    · exact .inl h2
    · exact .inr ⟨g, cap, cur, rfl, Nat.le_trans hb hg, hh, hn⟩
  · obtain ⟨a, n, c, e, ho⟩ := h3 i hi
    exact ⟨a, n, c, e, own_mono ho hb⟩
/-- Behind an append of a row. -/
theorem TabAt.put {w w' : World} {B N n c : Nat} {a : Option Addr} {v v' : Value} {X : Nat → List Nat} {vs : List Value} (hv : w.ownsRow B 31 1 v N vs) (hr : RowsAt w B N vs X) (ho : w.ownsRow B 5 1 (.slice a n c) n (bs (X N)))
    (hv' : w'.ownsRow B 31 1 v' (N + 1) (vs ++ [.slice a n c])) (hk : KeepRows w w' v N) : TabAt w' B v' (N + 1) X := by
  refine ⟨_, hv', fun i hi => ?_⟩
  have hl : vs.length = N := by have := hv.1; rwa [Nat.mul_one] at this
  by_cases h : i < N
  · obtain ⟨a1, n1, c1, e, ho1⟩ := hr i h
    exact ⟨a1, n1, c1, by rw [List.getElem?_append_left (by omega)]; exact e, hk _ _ _ _ _ ho1 (.inr (unl_types (by decide) ho1 hv))⟩
  · obtain rfl : i = N := by omega
    exact ⟨a, n, c, by rw [List.getElem?_append_right (by omega), hl, Nat.sub_self]; rfl, hk _ _ _ _ _ ho (.inr (unl_types (by decide) ho hv))⟩
theorem TabAt.rr {w : World} {B N : Nat} {v : Value} {X : Nat → List Nat} (h : TabAt w B v N X) (hs : ∀ i, i < N → Small (X i) ∧ (X i).length ≤ 100000) : RR w v N X := by
  obtain ⟨vs, h1, h2⟩ := h
  rcases h1.2 with ⟨rfl, rfl⟩ | ⟨g, cap, cur, rfl, hb, hh, hn⟩
  · exact ⟨none, 0, rfl, fun k hk => absurd hk (by omega)⟩
  · refine ⟨_, cap, rfl, fun k hk => ?_⟩
    obtain ⟨a1, n1, c1, e, ho⟩ := h2 k hk
    have hc := h1.cells (g := g) rfl k _ e
    rw [Addr.add_lit] at hc
    have hl := own_len ho
    exact ⟨g, 0, a1, n1, c1, rfl, hc, own_rb2 ho (hs k hk).1 (by have := (hs k hk).2; omega)⟩

set_option maxHeartbeats 1600000 in
set_option maxRecDepth 100000 in
theorem rows_same {w : World} {a b : Option Addr} {N c d : Nat} {X Y : Nat → List Nat} (hN : N ≤ 100000) (hx : RR w (.slice a N c) N X) (hy : RR w (.slice b N d) N Y) (he : ∀ i, i < N → X i = Y i) :
    Calls Try.prog 66 #[.slice a N c, .slice b N d] w fun e w' => e = .returned (.bool true) ∧ Drawn w w' := by
  have HX := Lib.hid hx
  have HY := Lib.hid hy
  have HE := Lib.hid he
  clear hx hy he
  go_enter Try.func66, Try.ntmps66
  go_wp2_with fail
  go_loopw [5] (fun i wr => ∃ k : Nat, k ≤ N ∧ i = .int .i64 k ∧ Hid (Drawn w wr)) (fun i _ => N - (intOf i).toNat)
  case atStart => exact ⟨0, by omega, rfl, Drawn.refl _⟩
  case round =>
    obtain ⟨k, hk, rfl, HD⟩ := hrel
    by_cases hk1 : k < N
    · have d3 : ((k : Int) < (N : Int)) := by omega
      obtain ⟨a', c', e, hX⟩ := (HX.out.drawn HD.out).shape
      injection e with e1 e2 e3
      subst e1; subst e3
      obtain ⟨a', c', e, hY⟩ := (HY.out.drawn HD.out).shape
      injection e with e1 e2 e3
      subst e1; subst e3
      obtain ⟨b1, o1, a1, n1, c1, rfl, hc1, hr1⟩ := hX k hk1
      obtain ⟨b2, o2, a2, n2, c2, rfl, hc2, hr2⟩ := hY k hk1
      have hs : ∀ q, Hid (Calls Try.prog 44 #[.slice a1 n1 c1, .slice a2 n2 c2] (wr.drewN q) fun e w' => e = .returned (.bool true) ∧ ∃ n, w' = (wr.drewN q).drewN n) := fun q =>
        (same_any (hr1.drewN q) (hr2.drewN q)).mono fun e w' ⟨h1, h2⟩ => ⟨by rw [h1, decide_eq_true (HE.out k hk1)], h2⟩
      have HS := Lib.hid hs
      clear hs hX hY hr1 hr2
      go_wp2_with fail
      go_quiet (first | (go_at_call 44; exact Calls.quiet_of (HS.out _).out))
      go_wp2_with fail
      go_roundw
      case rel => exact ⟨k + 1, by omega, by go_num, HD.out.more _⟩
      case measure => simp [intOf]; omega
    · obtain rfl : k = N := by omega
      go_wp2_with fail
      go_ret
      exact ⟨rfl, HD.out⟩
end Go.Proofs.Ytokeoodkioobdaa
