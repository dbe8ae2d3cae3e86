/- Rows that a law made, for ApartBytes; contracts that hand back rows that are owned. -/
import Derived.Test.YtokeoodkioobdaaFlat5
namespace Go.Proofs.Ytokeoodkioobdaa
open Go.RowKit

structure R1 where
  a : Option Addr
  n : Nat
  c : Nat
  l : List Nat
def R1.v (r : R1) : Value := .slice r.a r.n r.c
instance : Inhabited R1 := ⟨⟨none, 0, 0, []⟩⟩
/-- The rows are owned and lie apart. -/
structure Made (B : Nat) (rs : List R1) (w : World) : Prop where
  own : ∀ r ∈ rs, w.ownsRow B 5 1 r.v r.n (bs r.l)
  unl : rs.Pairwise fun r s => Unl r.v s.v
theorem Made.nil (B : Nat) (w : World) : Made B [] w := ⟨fun r h => absurd h (by simp), List.Pairwise.nil⟩
theorem Made.keep {B : Nat} {rs : List R1} {w w' : World} (h : Made B rs w) (hk : ∀ g, g < w.heap.size → w'.heap[g]? = w.heap[g]?) : Made B rs w' :=
  ⟨fun r hr => own_frame (h.own r hr) fun g _ hg => hk g hg, h.unl⟩
theorem Made.below {B : Nat} {rs : List R1} {w w' : World} (h : Made B rs w) (hB : Below w.heap.size w w') : Made B rs w' := h.keep hB.block
theorem Made.drewN {B : Nat} {rs : List R1} {w : World} (h : Made B rs w) (q : Nat) : Made B rs (w.drewN q) := h.keep fun _ _ => rfl
theorem Made.add {B n c : Nat} {rs : List R1} {w w' : World} {a : Option Addr} {l : List Nat} (h : Made B rs w) (hB : Below w.heap.size w w') (hs : B ≤ w.heap.size) (ho : w'.ownsRow w.heap.size 5 1 (.slice a n c) n (bs l)) : Made B (rs ++ [⟨a, n, c, l⟩]) w' := by
  have h1 := h.below hB
  refine ⟨fun r hr => ?_, List.pairwise_append.2 ⟨h.unl, List.pairwise_singleton _ _, fun r hr s hs2 g h2 h3 => ?_⟩⟩
  · rcases List.mem_append.1 hr with hr | hr
    · exact h1.own r hr
    · rw [List.mem_singleton.1 hr]; exact own_mono ho hs
  · rw [List.mem_singleton.1 hs2] at h3
    have := (own_lt (h.own r hr) h2).2
    have := (own_lt ho h3).1
    omega
theorem Made.add2 {B n c n2 c2 : Nat} {rs : List R1} {w w' : World} {a a2 : Option Addr} {l l2 : List Nat} (h : Made B rs w) (hB : Below w.heap.size w w') (hs : B ≤ w.heap.size) (ho : w'.ownsRow w.heap.size 5 1 (.slice a n c) n (bs l)) (ho2 : w'.ownsRow w.heap.size 5 1 (.slice a2 n2 c2) n2 (bs l2))
    (hu : Unl (.slice a n c) (.slice a2 n2 c2)) : Made B (rs ++ [⟨a, n, c, l⟩, ⟨a2, n2, c2, l2⟩]) w' := by
  have h1 := h.below hB
  refine ⟨fun r hr => ?_, List.pairwise_append.2 ⟨h.unl, List.pairwise_cons.2 ⟨fun s hs2 => by rw [List.mem_singleton.1 hs2]; exact hu, List.pairwise_singleton _ _⟩, fun r hr s hs2 g h2 h3 => ?_⟩⟩
  · rcases List.mem_append.1 hr with hr | hr
    · exact h1.own r hr
    · rcases List.mem_cons.1 hr with rfl | hr
      · exact own_mono ho hs
      · rw [List.mem_singleton.1 hr]; exact own_mono ho2 hs
  · have hlt := (own_lt (h.own r hr) h2).2
    rcases List.mem_cons.1 hs2 with rfl | hs2
    · have := (own_lt ho h3).1; omega
    · rw [List.mem_singleton.1 hs2] at h3
      have := (own_lt ho2 h3).1; omega

def ra (rs : List R1) (k : Nat) : Option Addr := (rs.getD k default).a
def rn (rs : List R1) (k : Nat) : Nat := (rs.getD k default).n
def rc (rs : List R1) (k : Nat) : Nat := (rs.getD k default).c
theorem at_get {rs : List R1} {k : Nat} (h : k < rs.length) : Value.slice (ra rs k) (rn rs k) (rc rs k) = (rs[k]).v := by
  unfold ra rn rc R1.v
  rw [List.getD_eq_getElem?_getD, List.getElem?_eq_getElem h]
  rfl
/-- Rows that were made, in a list of their own: ApartBytes tells true. -/
theorem rows_apart {B Lb C : Nat} {rs : List R1} {w : World} (h : Made B rs w) (hB : B ≤ w.heap.size) (hn : ∀ r ∈ rs, r.n ≤ 1000000) (hr : rs.length ≤ 1000000)
    (hL : w.heap[Lb]? = some (.cells (rs.map R1.v).toArray 31 (0, 0))) (hne : ∀ r ∈ rs, r.v.ownBlock ≠ some Lb) :
    Calls Try.prog 55 #[.slice (some ⟨Lb, 0, none⟩) rs.length C] w fun e w' => e = .returned (.bool true) ∧ Below B w w' := by
  have hmem : ∀ k (hk : k < rs.length), rs[k] ∈ rs := fun k hk => List.getElem_mem hk
  have hS : Sep (some ⟨Lb, 0, none⟩) rs.length (ra rs) (rn rs) (rc rs) := by
    refine ⟨fun i j hi hj hne => ?_, fun b o k e hk => ?_, fun k hk => ?_, hr⟩
    · rw [at_get hi, at_get hj]
      rcases Nat.lt_or_gt_of_ne hne with hlt | hlt
      · exact List.pairwise_iff_getElem.1 h.unl i j hi hj hlt
      · exact (List.pairwise_iff_getElem.1 h.unl j i hj hi hlt).symm
    · injection e with e; injection e with e; subst e
      rw [at_get hk]; exact hne _ (hmem k hk)
    · have := hn _ (hmem k hk)
      unfold rn
      rwa [List.getD_eq_getElem?_getD, List.getElem?_eq_getElem hk]
  have hF : Fam B (some ⟨Lb, 0, none⟩) rs.length (ra rs) (rn rs) (rc rs) (fun k i => ((rs.getD k default).l).getD i 0) w := by
    refine ⟨fun k hk => ⟨Lb, 0, rfl, ?_⟩, fun k hk => ?_⟩
    · rw [cell_of_block hL, at_get hk]; simp [hk]
    · have h1 := own_rowf (h.own _ (hmem k hk))
      rw [at_get hk]
      have e1 : rn rs k = (rs[k]).n := by unfold rn; rw [List.getD_eq_getElem?_getD, List.getElem?_eq_getElem hk]; rfl
      have e2 : rs.getD k default = rs[k] := by rw [List.getD_eq_getElem?_getD, List.getElem?_eq_getElem hk]; rfl
      rw [e1, e2]; exact h1
  refine (apart_bytes hB hS hF).mono fun e w' ⟨h1, h2⟩ => ⟨h1, h2.os, h2.tape, h2.output, h2.size, fun g hg => h2.block g ⟨by omega, fun k hk e => ?_⟩⟩
  rw [at_get hk] at e
  have := (own_lt (h.own _ (hmem k hk)) e).1
  omega
/-- The list of the rows is made where they are asked. -/
theorem rows_apart_new {B C : Nat} {rs : List R1} {w : World} (h : Made B rs w) (hB : B ≤ w.heap.size) (hn : ∀ r ∈ rs, r.n ≤ 100000) (hr : rs.length ≤ 1000000) :
    Calls Try.prog 55 #[.slice (some ⟨w.heap.size, 0, none⟩) rs.length C] (w.alloc (.cells (rs.map R1.v).toArray 31)) fun e w' => e = .returned (.bool true) ∧ Below B w w' := by
  have h1 := h.keep (w' := w.alloc (.cells (rs.map R1.v).toArray 31)) fun g hg => Below.heap_alloc w _ g hg
  refine (rows_apart (Lb := w.heap.size) (C := C) h1 (by simp; omega) (fun r hr => by have := hn r hr; omega) hr (heap_alloc_new _ _) fun r hr e => ?_).mono fun e w' ⟨h2, h3⟩ => ⟨h2, ((Below.refl B w).alloc hB _).trans h3⟩
  have := (own_lt (h.own r hr) e).2
  omega
theorem own_len {w : World} {B n : Nat} {v : Value} {l : List Nat} (h : w.ownsRow B 5 1 v n (bs l)) : l.length = n := by have := h.1; rwa [length_bs, Nat.mul_one] at this
theorem own_rb2 {w : World} {B n c : Nat} {a : Option Addr} {l : List Nat} (h : w.ownsRow B 5 1 (.slice a n c) n (bs l)) (hs : Small l) (hn : n ≤ 140737488351232) : RB w a n c l := by
  obtain ⟨a', c', e, hr⟩ := own_rb h hs hn
  injection e with e1 e2 e3
  subst e1; subst e3
  exact hr
theorem own_slice {w : World} {B n : Nat} {v : Value} {xs : List Value} (h : w.ownsRow B 5 1 v n xs) : ∃ a c, v = .slice a n c := by
  rcases h.2 with ⟨rfl, rfl⟩ | ⟨g, cap, cur, rfl, _⟩
  · exact ⟨_, _, rfl⟩
  · exact ⟨_, _, rfl⟩
end Go.Proofs.Ytokeoodkioobdaa
