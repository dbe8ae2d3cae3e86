/- The walk of poly's div. Conditions: rows are shorter than 2 to the 47. -/
import Derived.Test.YtokeoodkioobdaaPoly10
import Derived.Deep.DeepCutAuto
import Derived.Deep.RegionHeld3
namespace Go.Proofs.Ytokeoodkioobdaa
open Go.RowKit Go.Shelf

attribute [local go_sem] Oper.semAt_some

/-- One round of a division: the quotient, the rest. -/
def dvStep (y : List Nat) (top lead : Nat) (s : List Nat × List Nat) (k : Nat) : List Nat × List Nat :=
  (s.1.set k (Gf.mul (s.2.getD (k + top) 0) lead), xadd s.2 k (y.take (top + 1)) (Gf.mul (s.2.getD (k + top) 0) lead) (top + 1))
def dvTo (x y : List Nat) (top lead N : Nat) (pre : List Nat) : List Nat × List Nat := pre.foldl (dvStep y top lead) (List.replicate N 0, x)
theorem dvTo_snoc (x y : List Nat) (top lead N : Nat) (pre : List Nat) (k : Nat) : dvTo x y top lead N (pre ++ [k]) = dvStep y top lead (dvTo x y top lead N pre) k := by simp [dvTo]
theorem dvTo_len (x y : List Nat) (top lead N : Nat) (pre : List Nat) : (dvTo x y top lead N pre).1.length = N ∧ (dvTo x y top lead N pre).2.length = x.length := by
  suffices h : ∀ (pre : List Nat) s, (pre.foldl (dvStep y top lead) s).1.length = s.1.length ∧ (pre.foldl (dvStep y top lead) s).2.length = s.2.length by
    have := h pre (List.replicate N 0, x); simpa [dvTo] using this
  intro pre
  induction pre with
  | nil => intro s; exact ⟨rfl, rfl⟩
  | cons k pre ih =>
    intro s
    rw [List.foldl_cons, (ih _).1, (ih _).2]
    exact ⟨by simp [dvStep], by simp [dvStep, length_xadd]⟩
theorem dvTo_small {x y : List Nat} {top lead N : Nat} (hx : Small x) (hy : Small y) (hN : 0 < N → N + top ≤ x.length) (pre : List Nat) (hk : ∀ k ∈ pre, k < N) : Small (dvTo x y top lead N pre).1 ∧ Small (dvTo x y top lead N pre).2 := by
  suffices h : ∀ (pre : List Nat) (s : List Nat × List Nat), (∀ k ∈ pre, k < N) → Small s.1 → Small s.2 → s.1.length = N → s.2.length = x.length → Small (pre.foldl (dvStep y top lead) s).1 ∧ Small (pre.foldl (dvStep y top lead) s).2 from
    h pre _ hk (Small.of_mem fun z hz => by rw [List.eq_of_mem_replicate hz]; omega) hx (by simp) rfl
  intro pre
  induction pre with
  | nil => intro s _ h1 h2 _ _; exact ⟨h1, h2⟩
  | cons k pre ih =>
    intro s hk h1 h2 l1 l2
    have hk1 := hk k (by simp)
    have := hN (by omega)
    rw [List.foldl_cons]
    have hc : Gf.mul (s.2.getD (k + top) 0) lead < 256 := Gf.mul_lt (h2 _)
    refine ih _ (fun j hj => hk j (by simp [hj])) (fun j => ?_) (xadd_small h2 (hy.take _) (by rw [l2]; omega)) (by simp [dvStep, l1]) (by simp [dvStep, length_xadd, l2])
    show (List.set _ _ _).getD j 0 < 256
    rw [getD_set _ _ _ _ (by rw [l1]; exact hk1)]
    split
    · exact hc
    · exact h1 j
/-- The quotient and the rest. -/
def dvAll (x y : List Nat) (m : Nat) : List Nat × List Nat :=
  dvTo (lean x) y (ln y m - 1) (Gf.inv (y.getD (ln y m - 1) 0)) ((lean x).length - (ln y m - 1)) (dn ((lean x).length - (ln y m - 1)) ((lean x).length - (ln y m - 1)))
theorem RB.take {w : World} {a : Option Addr} {n c : Nat} {l : List Nat} (h : RB w a n c l) (k : Nat) (hk : k ≤ n) : RB w a k c (l.take k) :=
  ⟨by rw [List.length_take, h.len]; omega, Nat.le_trans hk h.le, Nat.le_trans hk h.most, h.small.take k, h.nil, fun i hi => by
    obtain ⟨b, off, e, hc⟩ := h.at_ i (by omega)
    refine ⟨b, off, e, ?_⟩
    rw [hc, List.getD_eq_getElem?_getD, List.getD_eq_getElem?_getD, List.getElem?_take_of_lt hi]⟩
theorem own_kept {A B : World} {row : Option Nat} {base n : Nat} {v : Value} {xs : List Value} (h : A.ownsRow base 5 1 v n xs) (hg : A.grownBy B row) (hr : ∀ r, row = some r → ∃ o : Obj, A.heap[r]? = some o ∧ o.isCells = false) : B.ownsRow base 5 1 v n xs := by
  refine h.kept hg ?_
  rcases h.2 with ⟨rfl, _⟩ | ⟨g, cap, cur, rfl, _, hgb, _⟩
  · exact .inl rfl
  · refine .inr fun e' => ?_
    obtain ⟨o, ho, hc⟩ := hr g (by simpa [Value.ownBlock] using e'.symm)
    rw [hgb] at ho; cases ho; cases hc

/-- What stands ahead of the division's loop. -/
structure DvS (w : World) (p yb yo m d : Nat) (a0 : Option Addr) (lr cr top lead b8 b9 : Nat) (X : List Nat) (wx : World) : Prop where
  c3 : wx.cell? ⟨w.heap.size, 0, none⟩ = some (.pointer (some ⟨p, 0, none⟩))
  c5 : wx.cell? ⟨w.heap.size + 1, 0, none⟩ = some (.slice (some ⟨yb, yo, none⟩) m d)
  c6 : wx.cell? ⟨w.heap.size + 1 + 1, 0, none⟩ = some (.slice none 0 0)
  c7 : wx.cell? ⟨w.heap.size + 1 + 1 + 1, 0, none⟩ = some (.slice a0 lr cr)
  f6 : wx.frozen? ⟨w.heap.size + 1 + 1, 0, none⟩ = false
  f7 : wx.frozen? ⟨w.heap.size + 1 + 1 + 1, 0, none⟩ = false
  c8 : wx.cell? ⟨b8, 0, none⟩ = some (.int .i64 (top : Nat))
  c9 : wx.cell? ⟨b9, 0, none⟩ = some (.int .u8 (lead : Nat))
  n8 : w.heap.size + 4 ≤ b8
  n89 : b8 < b9
  n9 : b9 < wx.heap.size
  below : Below w.heap.size w wx
  own : wx.ownsRow (w.heap.size + 4) 5 1 (.slice a0 lr cr) lr (bs X)
  row : ∀ g, (Value.slice a0 lr cr).ownBlock = some g → g < b8

/-- .. and at its rounds' heads: the quotient Q stands at block gq, the rest X. -/
structure DvL (w : World) (p yb yo m d : Nat) (a0 : Option Addr) (lr cr top lead b8 b9 gq N : Nat) (s : List Nat × List Nat) (wx : World) : Prop where
  c3 : wx.cell? ⟨w.heap.size, 0, none⟩ = some (.pointer (some ⟨p, 0, none⟩))
  c5 : wx.cell? ⟨w.heap.size + 1, 0, none⟩ = some (.slice (some ⟨yb, yo, none⟩) m d)
  c6 : wx.cell? ⟨w.heap.size + 1 + 1, 0, none⟩ = some (.slice (some ⟨gq, 0, none⟩) N N)
  c7 : wx.cell? ⟨w.heap.size + 1 + 1 + 1, 0, none⟩ = some (.slice a0 lr cr)
  c8 : wx.cell? ⟨b8, 0, none⟩ = some (.int .i64 (top : Nat))
  c9 : wx.cell? ⟨b9, 0, none⟩ = some (.int .u8 (lead : Nat))
  f6 : wx.frozen? ⟨w.heap.size + 1 + 1, 0, none⟩ = false
  f7 : wx.frozen? ⟨w.heap.size + 1 + 1 + 1, 0, none⟩ = false
  n8 : w.heap.size + 4 ≤ b8
  n89 : b8 < b9
  n9 : b9 < gq
  below : Below w.heap.size w wx
  rest : wx.ownsRow (w.heap.size + 4) 5 1 (.slice a0 lr cr) lr (bs s.2)
  quo : wx.ownsRow (w.heap.size + 4) 5 1 (.slice (some ⟨gq, 0, none⟩) N N) N (bs s.1)
  row : ∀ g, (Value.slice a0 lr cr).ownBlock = some g → g < b8

section
variable {w : World} {p yb yo m d : Nat} {a0 : Option Addr} {lr cr top lead b8 b9 gq N : Nat} {s : List Nat × List Nat}
theorem DvL.own {α : Type} (f : α → List Nat × List Nat) {B₀ : Nat} (hB₀ : w.heap.size ≤ B₀) : OwnFrom B₀ (fun (x : α) W => DvL w p yb yo m d a0 lr cr top lead b8 b9 gq N (f x) W) := fun _ A _ row h hg hr =>
  have k : ∀ r, row = some r → ∃ o : Obj, A.heap[r]? = some o ∧ o.isCells = false := fun r e => (hr r e).2
  ⟨cell_kept h.c3 hg k, cell_kept h.c5 hg k, cell_kept h.c6 hg k, cell_kept h.c7 hg k, cell_kept h.c8 hg k, cell_kept h.c9 hg k, (frozen_kept h.c6 hg k).trans h.f6, (frozen_kept h.c7 hg k).trans h.f7, h.n8, h.n89, h.n9,
    h.below.grown hg h.below.size (fun r e => Nat.le_trans hB₀ (hr r e).1), own_kept h.rest hg k, own_kept h.quo hg k, h.row⟩
theorem DvL.gq_lt {W : World} (h : DvL w p yb yo m d a0 lr cr top lead b8 b9 gq N s W) : gq < W.heap.size := own_block h.quo
theorem DvL.drewN {W : World} (h : DvL w p yb yo m d a0 lr cr top lead b8 b9 gq N s W) (q : Nat) : DvL w p yb yo m d a0 lr cr top lead b8 b9 gq N s (W.drewN q) :=
  ⟨h.c3, h.c5, h.c6, h.c7, h.c8, h.c9, h.f6, h.f7, h.n8, h.n89, h.n9, below_drewN h.below q, h.rest, h.quo, h.row⟩
/-- All but one block stays. -/
theorem DvL.turn {W W' : World} {g : Nat} {s' : List Nat × List Nat} (h : DvL w p yb yo m d a0 lr cr top lead b8 b9 gq N s W) (hk : ∀ b, b < W.heap.size → b ≠ g → W'.heap[b]? = W.heap[b]?) (hg : w.heap.size + 4 ≤ g) (g8 : g ≠ b8) (g9 : g ≠ b9) (hb : Below w.heap.size w W')
    (hr : W'.ownsRow (w.heap.size + 4) 5 1 (.slice a0 lr cr) lr (bs s'.2)) (hq : W'.ownsRow (w.heap.size + 4) 5 1 (.slice (some ⟨gq, 0, none⟩) N N) N (bs s'.1)) : DvL w p yb yo m d a0 lr cr top lead b8 b9 gq N s' W' :=
  have c : ∀ b v, W.cell? ⟨b, 0, none⟩ = some v → b ≠ g → W'.cell? ⟨b, 0, none⟩ = some v := fun b v e n => (World.cell?_of_block (hk b (block_lt_of_cell e) n)).trans e
  ⟨c _ _ h.c3 (by omega), c _ _ h.c5 (by omega), c _ _ h.c6 (by omega), c _ _ h.c7 (by omega), c _ _ h.c8 (by omega), c _ _ h.c9 (by omega),
    (World.frozen?_of_block (hk _ (block_lt_of_cell h.c6) (by show w.heap.size + 1 + 1 ≠ g; omega))).trans h.f6, (World.frozen?_of_block (hk _ (block_lt_of_cell h.c7) (by show w.heap.size + 1 + 1 + 1 ≠ g; omega))).trans h.f7, h.n8, h.n89, h.n9, hb, hr, hq, h.row⟩
theorem own_keep {W W' : World} {base n g : Nat} {v : Value} {xs : List Value} (h : W.ownsRow base 5 1 v n xs) (hk : ∀ b, b < W.heap.size → b ≠ g → W'.heap[b]? = W.heap[b]?) (hg : ∀ b, v.ownBlock = some b → b ≠ g) : W'.ownsRow base 5 1 v n xs := by
  obtain ⟨h1, h2⟩ := h
  refine ⟨h1, ?_⟩
  rcases h2 with h2 | ⟨g', cap, cur, rfl, hb, hh, hn⟩
  · exact .inl h2
  · exact .inr ⟨g', cap, cur, rfl, hb, (hk g' (lt_of_block hh) (hg g' rfl)).trans hh, hn⟩
end

theorem DvS.made {w : World} {p yb yo m d : Nat} {a0 : Option Addr} {lr cr top lead b8 b9 N : Nat} {X : List Nat} {wc w10 : World} (h : DvS w p yb yo m d a0 lr cr top lead b8 b9 X wc) (hB : Below wc.heap.size wc w10)
    (ho : w10.ownsRow (w.heap.size + 4) 5 1 (.slice (some ⟨wc.heap.size, 0, none⟩) N N) N (bs (List.replicate N 0))) : DvL w p yb yo m d a0 lr cr top lead b8 b9 wc.heap.size N (List.replicate N 0, X) (w10.setCell ⟨w.heap.size + 1 + 1, 0, none⟩ (.slice (some ⟨wc.heap.size, 0, none⟩) N N)) := by
  have n8 := h.n8
  have n89 := h.n89
  have n9 := h.n9
  have k : ∀ b v, wc.cell? ⟨b, 0, none⟩ = some v → w10.cell? ⟨b, 0, none⟩ = some v := fun b v e => (hB.cell (p := ⟨b, 0, none⟩) (block_lt_of_cell e)).trans e
  have q : ∀ b v, w10.cell? ⟨b, 0, none⟩ = some v → b ≠ w.heap.size + 1 + 1 → (w10.setCell ⟨w.heap.size + 1 + 1, 0, none⟩ (.slice (some ⟨wc.heap.size, 0, none⟩) N N)).cell? ⟨b, 0, none⟩ = some v := fun b v e n =>
    (World.cell?_of_block (heap_setCell_other w10 ⟨w.heap.size + 1 + 1, 0, none⟩ b _ n)).trans e
  refine ⟨q _ _ (k _ _ h.c3) (by omega), q _ _ (k _ _ h.c5) (by omega), World.cell?_setCell_same' _ _ _ (by rw [k _ _ h.c6]; rfl), q _ _ (k _ _ h.c7) (by omega), q _ _ (k _ _ h.c8) (by omega), q _ _ (k _ _ h.c9) (by omega), ?_, ?_, n8, n89, n9,
    (h.below.trans (hB.mono (by omega))).setCell (p := ⟨w.heap.size + 1 + 1, 0, none⟩) (by show _ ≤ _ + 1 + 1; omega) _, ?_, ?_, h.row⟩
  · rw [World.frozen?_setCell]; exact (hB.frozen (p := ⟨w.heap.size + 1 + 1, 0, none⟩) (block_lt_of_cell h.c6)).trans h.f6
  · rw [World.frozen?_setCell]; exact (hB.frozen (p := ⟨w.heap.size + 1 + 1 + 1, 0, none⟩) (block_lt_of_cell h.c7)).trans h.f7
  · refine own_keep (own_below h.own hB) (fun b _ hb => Below.heap_setCell w10 ⟨w.heap.size + 1 + 1, 0, none⟩ _ b hb) (fun b e => ?_)
    have := (h.own.lt b e).1
    show b ≠ w.heap.size + 1 + 1
    omega
  · refine own_keep ho (fun b _ hb => Below.heap_setCell w10 ⟨w.heap.size + 1 + 1, 0, none⟩ _ b hb) (fun b e => ?_)
    have := (ho.lt b e).1
    show b ≠ w.heap.size + 1 + 1
    omega

theorem back_any (a : Option Addr) (len cap : Nat) (w : World) :
    Calls Try.prog 110 #[.slice a len cap] w fun e w' => e = .returned (.func (.func 131) #[] #[.pointer (some ⟨w.heap.size, 0, none⟩)]) ∧ w' = w.alloc (.cells #[.slice a len cap] 31) :=
  (callsIn_wide (n := 3)).1 (back_in Fence.wide 3 trivial rfl a len cap w)

theorem div_end {w W X : World} {D nu nv : Nat} {U V a b : Value} {xu xv : List Value} (hw : Below w.heap.size w W) (hX : Below W.heap.size W X) (hz : w.heap.size + 4 ≤ W.heap.size) (hD : w.heap.size ≤ D) (hK : W.heap[D]? = some (.deferred (some [])))
    (c6 : X.cell? ⟨w.heap.size + 1 + 1, 0, none⟩ = some a) (c7 : X.cell? ⟨w.heap.size + 1 + 1 + 1, 0, none⟩ = some b) (hU : X.ownsRow W.heap.size 5 1 U nu xu) (hV : X.ownsRow W.heap.size 5 1 V nv xv) :
    ((X.setCell ⟨w.heap.size + 1 + 1, 0, none⟩ U).setCell ⟨w.heap.size + 1 + 1 + 1, 0, none⟩ V).heap[D]? = some (.deferred (some [])) ∧
    (((X.setCell ⟨w.heap.size + 1 + 1, 0, none⟩ U).setCell ⟨w.heap.size + 1 + 1 + 1, 0, none⟩ V).putObj D (.deferred none)).cell? ⟨w.heap.size + 1 + 1, 0, none⟩ = some U ∧
    (((X.setCell ⟨w.heap.size + 1 + 1, 0, none⟩ U).setCell ⟨w.heap.size + 1 + 1 + 1, 0, none⟩ V).putObj D (.deferred none)).cell? ⟨w.heap.size + 1 + 1 + 1, 0, none⟩ = some V ∧
    (((X.setCell ⟨w.heap.size + 1 + 1, 0, none⟩ U).setCell ⟨w.heap.size + 1 + 1 + 1, 0, none⟩ V).putObj D (.deferred none)).ownsRow w.heap.size 5 1 U nu xu ∧
    (((X.setCell ⟨w.heap.size + 1 + 1, 0, none⟩ U).setCell ⟨w.heap.size + 1 + 1 + 1, 0, none⟩ V).putObj D (.deferred none)).ownsRow w.heap.size 5 1 V nv xv ∧
    Below w.heap.size w (((X.setCell ⟨w.heap.size + 1 + 1, 0, none⟩ U).setCell ⟨w.heap.size + 1 + 1 + 1, 0, none⟩ V).putObj D (.deferred none)) := by
  have hDX : X.heap[D]? = some (.deferred (some [])) := (hX.block D (Array.getElem?_eq_some_iff.1 hK).1).trans hK
  have n6 : D ≠ w.heap.size + 1 + 1 := fun e => by
    subst e
    obtain ⟨o, ho, hc⟩ := cells_of_cell c6
    rw [hDX] at ho; cases ho; cases hc
  have n7 : D ≠ w.heap.size + 1 + 1 + 1 := fun e => by
    subst e
    obtain ⟨o, ho, hc⟩ := cells_of_cell c7
    rw [hDX] at ho; cases ho; cases hc
  obtain ⟨X1, hX1⟩ : ∃ X1, X1 = X.setCell ⟨w.heap.size + 1 + 1, 0, none⟩ U := ⟨_, rfl⟩
  have k1 : ∀ q, q ≠ w.heap.size + 1 + 1 → X1.heap[q]? = X.heap[q]? := fun q hq => by rw [hX1]; exact Below.heap_setCell X ⟨w.heap.size + 1 + 1, 0, none⟩ U q hq
  have d6 : X1.cell? ⟨w.heap.size + 1 + 1, 0, none⟩ = some U := by rw [hX1]; exact World.cell?_setCell_same' _ _ _ (by rw [c6]; rfl)
  have d7 : X1.cell? ⟨w.heap.size + 1 + 1 + 1, 0, none⟩ = some b := (World.cell?_of_block (k1 (w.heap.size + 1 + 1 + 1) (by omega))).trans c7
  have B1 : Below w.heap.size w X1 := by rw [hX1]; exact (hw.trans (hX.mono (by omega))).setCell (p := ⟨w.heap.size + 1 + 1, 0, none⟩) (by show _ ≤ _ + 1 + 1; omega) _
  have u1 : X1.ownsRow W.heap.size 5 1 U nu xu := own_keep hU (fun q _ hq => k1 q hq) (fun q e => by have := (hU.lt q e).1; omega)
  have v1 : X1.ownsRow W.heap.size 5 1 V nv xv := own_keep hV (fun q _ hq => k1 q hq) (fun q e => by have := (hV.lt q e).1; omega)
  rw [← hX1]
  obtain ⟨X2, hX2⟩ : ∃ X2, X2 = X1.setCell ⟨w.heap.size + 1 + 1 + 1, 0, none⟩ V := ⟨_, rfl⟩
  have k2 : ∀ q, q ≠ w.heap.size + 1 + 1 + 1 → X2.heap[q]? = X1.heap[q]? := fun q hq => by rw [hX2]; exact Below.heap_setCell X1 ⟨w.heap.size + 1 + 1 + 1, 0, none⟩ V q hq
  have e6 : X2.cell? ⟨w.heap.size + 1 + 1, 0, none⟩ = some U := (World.cell?_of_block (k2 (w.heap.size + 1 + 1) (by omega))).trans d6
  have e7 : X2.cell? ⟨w.heap.size + 1 + 1 + 1, 0, none⟩ = some V := by rw [hX2]; exact World.cell?_setCell_same' _ _ _ (by rw [d7]; rfl)
  have B2 : Below w.heap.size w X2 := by rw [hX2]; exact B1.setCell (p := ⟨w.heap.size + 1 + 1 + 1, 0, none⟩) (by show _ ≤ _ + 1 + 1 + 1; omega) _
  have u2 : X2.ownsRow W.heap.size 5 1 U nu xu := own_keep u1 (fun q _ hq => k2 q hq) (fun q e => by have := (hU.lt q e).1; omega)
  have v2 : X2.ownsRow W.heap.size 5 1 V nv xv := own_keep v1 (fun q _ hq => k2 q hq) (fun q e => by have := (hV.lt q e).1; omega)
  rw [← hX2]
  have hK2 : X2.heap[D]? = some (.deferred (some [])) := (k2 D n7).trans ((k1 D n6).trans hDX)
  have hrow : ∀ r, (some D : Option Nat) = some r → ∃ o : Obj, X2.heap[r]? = some o ∧ o.isCells = false := fun r e => by cases e; exact ⟨_, hK2, rfl⟩
  exact ⟨hK2, cell_kept e6 (grownBy_putObj' _ D _) hrow, cell_kept e7 (grownBy_putObj' _ D _) hrow, own_mono (own_kept u2 (grownBy_putObj' _ D _) hrow) (by omega), own_mono (own_kept v2 (grownBy_putObj' _ D _) hrow) (by omega),
    B2.trans (belowK_b (w := w) (Nat.le_refl _) _ D _ _ hD hK2 rfl rfl)⟩

set_option maxHeartbeats 4000000 in
set_option maxRecDepth 100000 in
theorem div_in (nn : Nat) (hnn : 3 ≤ nn) {w : World} {p : Nat} {a b : Option Addr} {n c m d : Nat} {x y : List Nat} (hf : IsF w p) (hx : RB w a n c x) (hy : RB w b m d y) (hy0 : 0 < ln y m) (hl : ln x n ≤ 1000000) :
    CallsIn Fence.wide nn Try.prog 99 #[.agg #[.pointer (some ⟨p, 0, none⟩)], .slice a n c, .slice b m d] w fun e w' => ∃ u v : Value, e = .returned (.tuple #[u, v]) ∧
      w'.ownsRow w.heap.size 5 1 u (lean (dvAll x y m).1).length (bs (lean (dvAll x y m).1)) ∧ w'.ownsRow w.heap.size 5 1 v (lean (dvAll x y m).2).length (bs (lean (dvAll x y m).2)) ∧ (∀ g, u.ownBlock = some g → v.ownBlock ≠ some g) ∧ Below w.heap.size w w' := by
  have hdv : dvAll x y m = dvTo (lean x) y (ln y m - 1) (Gf.inv (y.getD (ln y m - 1) 0)) ((lean x).length - (ln y m - 1)) (dn ((lean x).length - (ln y m - 1)) ((lean x).length - (ln y m - 1))) := rfl
  have HDV := Lib.hid hdv
  clear hdv
  obtain ⟨i0, hi, hz0, hz1, hz2⟩ := info_parts info5
  have hdeg : ∀ W (hW : Below w.heap.size w W), Calls Try.prog 92 #[.slice b m d] W fun e W' => e = .returned (.int .i64 ((ln y m - 1 : Nat))) ∧ Below W.heap.size W W' := fun W hW => (degree_any (hy.below hW)).mono fun e w' ⟨h1, h2⟩ => ⟨by rw [h1]; congr 2; omega, h2⟩
  have htop : ln y m - 1 < m := by have := ln_le y m; omega
  have hlead := hy.small (ln y m - 1)
  obtain ⟨yb, yo, rfl, hyc⟩ := hy.at_ (ln y m - 1) htop
  obtain ⟨top, htp⟩ : ∃ top, top = ln y m - 1 := ⟨_, rfl⟩
  rw [← htp] at hdeg htop hlead hyc
  have hm := hy.most
  have HD := Lib.hid hdeg
  have HX := Lib.hid hx
  have HY := Lib.hid hy
  have HF := Lib.hid hf
  have HTP := Lib.hid htp
  have HL := Lib.hid hl
  have hflt := hf.lt
  clear hdeg hx hf htp hl hy0
  clear hy
  refine callsIn_of_wp_marks Try.func99 rfl trivial ?_ rfl
  simp only [Try.ntmps99, List.size_toArray, List.length_cons, List.length_nil, Nat.reduceAdd, Nat.reduceSub, Array.replicate_succ, Array.replicate_zero, List.push_toArray, List.append_toArray, List.nil_append, List.cons_append]
  refine wpIn_wide.2 ?_
  go_wp2_with fail
  obtain ⟨w1, hw1⟩ : ∃ w1, w1 = w.alloc (.cells #[.pointer (some ⟨p, 0, none⟩)] 84) := ⟨_, rfl⟩
  have b1 : Boxed w1 w.heap.size 84 (.pointer (some ⟨p, 0, none⟩)) := by rw [hw1]; exact Boxed.new w 84 _
  have z1 : w1.heap.size = w.heap.size + 1 := by rw [hw1]; exact World.size_alloc _ _
  have B1 : Below w.heap.size w w1 := by rw [hw1]; exact (Below.refl _ _).alloc (Nat.le_refl _) _
  rw [← hw1]
  obtain ⟨w2, hw2⟩ : ∃ w2, w2 = w1.alloc (.cells #[.slice (some ⟨yb, yo, none⟩) m d] 31) := ⟨_, rfl⟩
  have b2 : Boxed w2 (w.heap.size + 1) 31 (.slice (some ⟨yb, yo, none⟩) m d) := by rw [hw2, ← z1]; exact Boxed.new w1 31 _
  have b21 : Boxed w2 w.heap.size 84 (.pointer (some ⟨p, 0, none⟩)) := by rw [hw2]; exact b1.alloc _
  have z2 : w2.heap.size = w.heap.size + 1 + 1 := by rw [hw2, World.size_alloc, z1]
  have B2 : Below w.heap.size w w2 := by rw [hw2]; exact B1.alloc (by omega) _
  rw [← hw2]
  obtain ⟨w3, hw3⟩ : ∃ w3, w3 = w2.alloc (.cells #[.slice none 0 0] 31) := ⟨_, rfl⟩
  have b3 : Boxed w3 (w.heap.size + 1 + 1) 31 (.slice none 0 0) := by rw [hw3, ← z2]; exact Boxed.new w2 31 _
  have b32 : Boxed w3 (w.heap.size + 1) 31 (.slice (some ⟨yb, yo, none⟩) m d) := by rw [hw3]; exact b2.alloc _
  have b31 : Boxed w3 w.heap.size 84 (.pointer (some ⟨p, 0, none⟩)) := by rw [hw3]; exact b21.alloc _
  have z3 : w3.heap.size = w.heap.size + 1 + 1 + 1 := by rw [hw3, World.size_alloc, z2]
  have B3 : Below w.heap.size w w3 := by rw [hw3]; exact B2.alloc (by omega) _
  rw [← hw3]
  obtain ⟨w4, hw4⟩ : ∃ w4, w4 = w3.alloc (.cells #[.slice none 0 0] 31) := ⟨_, rfl⟩
  have b4 : Boxed w4 (w.heap.size + 1 + 1 + 1) 31 (.slice none 0 0) := by rw [hw4, ← z3]; exact Boxed.new w3 31 _
  have b43 : Boxed w4 (w.heap.size + 1 + 1) 31 (.slice none 0 0) := by rw [hw4]; exact b3.alloc _
  have b42 : Boxed w4 (w.heap.size + 1) 31 (.slice (some ⟨yb, yo, none⟩) m d) := by rw [hw4]; exact b32.alloc _
  have b41 : Boxed w4 w.heap.size 84 (.pointer (some ⟨p, 0, none⟩)) := by rw [hw4]; exact b31.alloc _
  have z4 : w4.heap.size = w.heap.size + 1 + 1 + 1 + 1 := by rw [hw4, World.size_alloc, z3]
  have B4 : Below w.heap.size w w4 := by rw [hw4]; exact B3.alloc (by omega) _
  rw [← hw4]
  clear hw1 hw2 hw3 hw4 b1 b2 b21 b3 b32 b31 z1 z2 z3 B1 B2 B3
  refine (Lean_any (HX.out.below B4)).mono ?_
  rintro e w5 ⟨v0, rfl, hown, hB5⟩
  have hls : (lean x).length ≤ 1000000 := by rw [length_lean, HX.out.len]; exact HL.out
  obtain ⟨a0, cr, rfl, hr0⟩ := own_rb hown (lean_small HX.out.small) (by omega)
  have c3 := (hB5.cell (p := ⟨w.heap.size, 0, none⟩) (by show w.heap.size < _; omega)).trans b41.cell
  have c5 := (hB5.cell (p := ⟨w.heap.size + 1, 0, none⟩) (by show w.heap.size + 1 < _; omega)).trans b42.cell
  have c6 := (hB5.cell (p := ⟨w.heap.size + 1 + 1, 0, none⟩) (by show w.heap.size + 1 + 1 < _; omega)).trans b43.cell
  have c7 := (hB5.cell (p := ⟨w.heap.size + 1 + 1 + 1, 0, none⟩) (by show w.heap.size + 1 + 1 + 1 < _; omega)).trans b4.cell
  have f6 := (hB5.frozen (p := ⟨w.heap.size + 1 + 1, 0, none⟩) (by show w.heap.size + 1 + 1 < _; omega)).trans b43.frozen
  have f7 := (hB5.frozen (p := ⟨w.heap.size + 1 + 1 + 1, 0, none⟩) (by show w.heap.size + 1 + 1 + 1 < _; omega)).trans b4.frozen
  have z5 : w.heap.size + 1 + 1 + 1 + 1 ≤ w5.heap.size := by have := hB5.size; omega
  have hB5' : Below w.heap.size w w5 := B4.trans (hB5.mono (by omega))
  have HB5 := Lib.hid hB5'
  have HO := Lib.hid (own_mono (B' := w.heap.size + 4) hown (by omega))
  obtain ⟨lr, hlr⟩ : ∃ lr, lr = (lean x).length := ⟨_, rfl⟩
  rw [← hlr] at hls hr0 HO ⊢
  have HLR := Lib.hid hlr
  have HR0 := Lib.hid hr0
  clear hB5 hB5' hown hlr hr0 b4 b43 b42 b41 B4 z4
  go_wp2_with fail
  obtain ⟨w6, hw6⟩ : ∃ w6, w6 = w5.setCell ⟨w.heap.size + 1 + 1 + 1, 0, none⟩ (.slice a0 lr cr) := ⟨_, rfl⟩
  have hB6 : Below w.heap.size w w6 := by rw [hw6]; exact HB5.out.setCell (by show _ ≤ _ + 1 + 1 + 1; omega) _
  have z6 : w5.heap.size ≤ w6.heap.size := by rw [hw6]; exact ((Below.refl 0 w5).setCell (Nat.zero_le _) _).size
  have z65 : w6.heap.size ≤ w5.heap.size := by rw [hw6]; simp [World.setCell]
  have d3 : w6.cell? ⟨w.heap.size, 0, none⟩ = some (.pointer (some ⟨p, 0, none⟩)) := by rw [hw6]; exact (World.cell?_of_block (heap_setCell_other w5 ⟨w.heap.size + 1 + 1 + 1, 0, none⟩ w.heap.size _ (by show _ ≠ _ + 1 + 1 + 1; omega))).trans c3
  have d5 : w6.cell? ⟨w.heap.size + 1, 0, none⟩ = some (.slice (some ⟨yb, yo, none⟩) m d) := by rw [hw6]; exact (World.cell?_of_block (heap_setCell_other w5 ⟨w.heap.size + 1 + 1 + 1, 0, none⟩ (w.heap.size + 1) _ (by show _ ≠ _ + 1 + 1 + 1; omega))).trans c5
  have d6 : w6.cell? ⟨w.heap.size + 1 + 1, 0, none⟩ = some (.slice none 0 0) := by rw [hw6]; exact (World.cell?_of_block (heap_setCell_other w5 ⟨w.heap.size + 1 + 1 + 1, 0, none⟩ (w.heap.size + 1 + 1) _ (by show _ ≠ _ + 1 + 1 + 1; omega))).trans c6
  have d7 : w6.cell? ⟨w.heap.size + 1 + 1 + 1, 0, none⟩ = some (.slice a0 lr cr) := by rw [hw6]; exact World.cell?_setCell_same' _ _ _ (by rw [c7]; rfl)
  have e6 : w6.frozen? ⟨w.heap.size + 1 + 1, 0, none⟩ = false := by rw [hw6, World.frozen?_setCell]; exact f6
  have e7 : w6.frozen? ⟨w.heap.size + 1 + 1 + 1, 0, none⟩ = false := by rw [hw6, World.frozen?_setCell]; exact f7
  have hO6 : w6.ownsRow (w.heap.size + 4) 5 1 (.slice a0 lr cr) lr (bs (lean x)) := by
    rw [hw6]
    refine ownsRow_setCell_other HO.out ?_ _
    intro e
    obtain ⟨_, h2⟩ := HO.out
    rcases h2 with ⟨h2, _⟩ | ⟨g', cap, cur, e1, hg, hh, _⟩
    · rw [h2] at e; cases e
    · rw [e1] at e
      have : g' = w.heap.size + 1 + 1 + 1 := by injection e
      omega
  rw [← hw6]
  have HB6 := Lib.hid hB6
  have HO6 := Lib.hid hO6
  clear hw6 hB6 hO6 c3 c5 c6 c7 f6 f7
  refine (HD.out _ HB6.out).mono ?_
  rintro e w7 ⟨rfl, hB7⟩
  have g3 := (hB7.cell (p := ⟨w.heap.size, 0, none⟩) (by show w.heap.size < _; omega)).trans d3
  have g5 := (hB7.cell (p := ⟨w.heap.size + 1, 0, none⟩) (by show w.heap.size + 1 < _; omega)).trans d5
  have g6 := (hB7.cell (p := ⟨w.heap.size + 1 + 1, 0, none⟩) (by show w.heap.size + 1 + 1 < _; omega)).trans d6
  have g7 := (hB7.cell (p := ⟨w.heap.size + 1 + 1 + 1, 0, none⟩) (by show w.heap.size + 1 + 1 + 1 < _; omega)).trans d7
  have i6 := (hB7.frozen (p := ⟨w.heap.size + 1 + 1, 0, none⟩) (by show w.heap.size + 1 + 1 < _; omega)).trans e6
  have i7 := (hB7.frozen (p := ⟨w.heap.size + 1 + 1 + 1, 0, none⟩) (by show w.heap.size + 1 + 1 + 1 < _; omega)).trans e7
  have z7 : w.heap.size + 1 + 1 + 1 + 1 ≤ w7.heap.size := by have := hB7.size; omega
  have hB7' : Below w.heap.size w w7 := HB6.out.trans (hB7.mono (by omega))
  have HO7 := Lib.hid (own_below HO6.out hB7)
  have hr7 : ∀ g, (Value.slice a0 lr cr).ownBlock = some g → g < w7.heap.size := fun g e => Nat.lt_of_lt_of_le (HO6.out.lt g e).2 hB7.size
  have HR7 := Lib.hid hr7
  clear hr7
  have HB7 := Lib.hid hB7'
  have hF7 := HF.out.below hB7' hflt
  have hy7 := (hB7'.cell (p := ⟨yb, yo + top, none⟩) (block_lt_of_cell hyc)).trans hyc
  have HF7 := Lib.hid hF7
  have hinv : ∀ W, IsF W p → Hid (Calls Try.prog 26 #[.pointer (some ⟨p, 0, none⟩), .int .u8 (y.getD top 0 : Nat)] W fun e w' => e = .returned (.tuple #[.int .u8 (Gf.inv (y.getD top 0) : Nat), .int .i64 (if y.getD top 0 = 0 then 6 else 0)]) ∧ ∃ n, w' = W.drewN n) := fun W hW => inv_any hW hlead
  have HINV := Lib.hid hinv
  have hyb : yb < w7.heap.size := block_lt_of_cell hy7
  have hp7 : p < w7.heap.size := hF7.lt
  clear hB7 hB7' d3 d5 d6 d7 e6 e7 HB6 HO6 HB5 HO z65 z6 z5 hyc hF7 hinv
  obtain ⟨y0, hy0⟩ : ∃ y0, y0 = y.getD top 0 := ⟨_, rfl⟩
  rw [← hy0] at HINV hy7 hlead
  obtain ⟨er, her⟩ : ∃ er : Int, er = if y0 = 0 then 6 else 0 := ⟨_, rfl⟩
  rw [← her] at HINV
  have HY0 := Lib.hid hy0
  clear hy0 her
  go_upto_region 3 with fail
  obtain ⟨w8, hw8⟩ : ∃ w8, w8 = w7.alloc (.cells #[.int .i64 (top : Nat)] 3) := ⟨_, rfl⟩
  have b8 : Boxed w8 w7.heap.size 3 (.int .i64 (top : Nat)) := by rw [hw8]; exact Boxed.new w7 3 _
  have hB78 : Below w7.heap.size w7 w8 := by rw [hw8]; exact (Below.refl _ _).alloc (Nat.le_refl _) _
  have z8 : w8.heap.size = w7.heap.size + 1 := by rw [hw8]; exact World.size_alloc _ _
  have j3 := (hB78.cell (p := ⟨w.heap.size, 0, none⟩) (by show w.heap.size < _; omega)).trans g3
  have j5 := (hB78.cell (p := ⟨w.heap.size + 1, 0, none⟩) (by show w.heap.size + 1 < _; omega)).trans g5
  have j6 := (hB78.cell (p := ⟨w.heap.size + 1 + 1, 0, none⟩) (by show w.heap.size + 1 + 1 < _; omega)).trans g6
  have j7 := (hB78.cell (p := ⟨w.heap.size + 1 + 1 + 1, 0, none⟩) (by show w.heap.size + 1 + 1 + 1 < _; omega)).trans g7
  have k6 := (hB78.frozen (p := ⟨w.heap.size + 1 + 1, 0, none⟩) (by show w.heap.size + 1 + 1 < _; omega)).trans i6
  have k7 := (hB78.frozen (p := ⟨w.heap.size + 1 + 1 + 1, 0, none⟩) (by show w.heap.size + 1 + 1 + 1 < _; omega)).trans i7
  have j8 : w8.cell? ⟨w7.heap.size, 0, none⟩ = some (.int .i64 (top : Nat)) := b8.cell
  have hy8 := (hB78.cell (p := ⟨yb, yo + top, none⟩) hyb).trans hy7
  have hF8 : IsF w8 p := HF7.out.below hB78 hp7
  have HF8 := Lib.hid hF8
  have HB8 := Lib.hid (HB7.out.trans (hB78.mono (by omega)))
  have HO8 := Lib.hid (own_below HO7.out hB78)
  have n1 : ¬ w7.heap.size + 1 = w.heap.size := by omega
  have n2 : ¬ w7.heap.size = w.heap.size := by omega
  have n3 : ¬ w7.heap.size + 1 = yb := by omega
  rw [← hw8]
  clear hw8 b8 hB78 g3 g5 g6 g7 i6 i7 hy7 hF8 HB7 HO7 HF7
  have hfin : ∀ wx, Below w8.heap.size w8 wx → wx.cell? ⟨w7.heap.size + 1, 0, none⟩ = some (.int .u8 (Gf.inv y0 : Nat)) → DvS w p yb yo m d a0 lr cr top (Gf.inv y0) w7.heap.size (w7.heap.size + 1) (lean x) wx := fun wx hB hc =>
    ⟨(hB.cell (p := ⟨w.heap.size, 0, none⟩) (by show w.heap.size < _; omega)).trans j3, (hB.cell (p := ⟨w.heap.size + 1, 0, none⟩) (by show w.heap.size + 1 < _; omega)).trans j5, (hB.cell (p := ⟨w.heap.size + 1 + 1, 0, none⟩) (by show w.heap.size + 1 + 1 < _; omega)).trans j6,
      (hB.cell (p := ⟨w.heap.size + 1 + 1 + 1, 0, none⟩) (by show w.heap.size + 1 + 1 + 1 < _; omega)).trans j7, (hB.frozen (p := ⟨w.heap.size + 1 + 1, 0, none⟩) (by show w.heap.size + 1 + 1 < _; omega)).trans k6, (hB.frozen (p := ⟨w.heap.size + 1 + 1 + 1, 0, none⟩) (by show w.heap.size + 1 + 1 + 1 < _; omega)).trans k7,
      (hB.cell (p := ⟨w7.heap.size, 0, none⟩) (by show w7.heap.size < _; omega)).trans j8, hc, by omega, by omega, block_lt_of_cell hc, HB8.out.trans (hB.mono (by omega)), own_below HO8.out hB, HR7.out⟩
  have HFIN := Lib.hid hfin
  clear hfin
  go_cut [9, 10] from 16 to 25 (fun s9 s10 wx => ∃ b9 : Nat, s9 = .pointer (some ⟨b9, 0, none⟩) ∧ Hid (DvS w p yb yo m d a0 lr cr top (Gf.inv y0) w7.heap.size b9 (lean x) wx))
  case first =>
    go_region_held3 (fun w' => w'.cell? ⟨w.heap.size, 0, none⟩ = some (.pointer (some ⟨p, 0, none⟩)) ∧ w'.cell? ⟨w.heap.size + 1, 0, none⟩ = some (.slice (some ⟨yb, yo, none⟩) m d) ∧ w'.cell? ⟨w7.heap.size, 0, none⟩ = some (.int .i64 (top : Nat)) ∧ w'.cell? ⟨yb, yo + top, none⟩ = some (.int .u8 (y0 : Nat)))
      (go_keep)
      (first
        | (go_at_call 26; ((with_reducible refine (HINV.out _ ?_).out.mono ?_); (first | exact HF8.out | exact HF8.out.below ((Below.refl _ _).alloc (Nat.le_refl _) _).drew HF8.out.lt); rintro e w' ⟨rfl, nq, rfl⟩)))
    · go_wp2_with fail
      go_meet
      refine ⟨_, rfl, HFIN.out _ ((below_drewN (Below.refl _ _) _).alloc (by simp) _) ?_⟩
      have hn := heap_alloc_new (w8.drewN (1 + nq)) (.cells #[.int .u8 (Gf.inv y0 : Nat)] 5)
      rw [show (w8.drewN (1 + nq)).heap.size = w7.heap.size + 1 from z8] at hn
      exact (cell_of_block hn).trans rfl
    · go_wp2_with fail
      go_meet
      refine ⟨_, rfl, HFIN.out _ ((below_drewN ((Below.refl _ _).alloc (Nat.le_refl _) _) _).setCell (p := ⟨w7.heap.size + 1, 0, none⟩) (by show _ ≤ w7.heap.size + 1; omega) _) ?_⟩
      have hn := heap_alloc_new w8 (.cells #[.int .u8 0] 5)
      rw [z8] at hn
      exact World.cell?_setCell_same' _ _ _ (by rw [show ((w8.alloc (.cells #[.int .u8 0] 5)).drewN (1 + nq)).cell? ⟨w7.heap.size + 1, 0, none⟩ = _ from cell_of_block hn]; rfl)
  case rest =>
    obtain ⟨b9, rfl, hS⟩ := hcut
    clear j3 j5 j6 j7 j8 k6 k7 hy8 HF8 HB8 HO8 HFIN
    obtain ⟨N, hNe⟩ : ∃ N, N = lr - top := ⟨_, rfl⟩
    have hNp : (0 : Int) ≤ (lr : Int) - (top : Int) → (lr : Int) - (top : Int) = (N : Int) := by omega
    have hNn : ¬ (0 : Int) ≤ (lr : Int) - (top : Int) → N ≤ 0 := by omega
    have HN := Lib.hid (And.intro hNe (And.intro hNp hNn))
    have hNl : N ≤ 1000000 := by omega
    clear hNe hNp hNn
    go_upto_region 4 with fail
    go_cut [11] from 26 to 31 (fun s11 wx => s11 = undef ∧ ∃ gq : Nat, Hid (DvL w p yb yo m d a0 lr cr top (Gf.inv y0) w7.heap.size b9 gq N (List.replicate N 0, lean x) wx))
    case first =>
      have hc6 := hS.out.c6
      have hc7 := hS.out.c7
      have hc8 := hS.out.c8
      have hf6 := hS.out.f6
      have hzc : w.heap.size + 4 ≤ wc.heap.size := by have := hS.out.n8; have := hS.out.n89; have := hS.out.n9; omega
      by_cases hge : (0 : Int) ≤ (lr : Int) - (top : Int)
      · have he := HN.out.2.1 hge
        go_wp2_with (refine wpList_make_full _ rfl (.tmp 30) (.tmp 30) 31 rfl (w.heap.size + 4) 5 i0 (.int .u8 0) 1 Try.underlying31 hi hz0 hz1 .i64 .i64 _ _ N rfl rfl (by omega) (by omega) ?_ ?_ hzc ?_)
        · omega
        · unfold maxLen; omega
        intro w10 hown hg1
        have hB10 : Below wc.heap.size wc w10 := (Below.refl _ _).grown hg1 (Nat.le_refl _) (fun j e => by cases e)
        have hDL := hS.out.made hB10 (own_zeros hown)
        have k6 := (hB10.cell (p := ⟨w.heap.size + 1 + 1, 0, none⟩) (by show w.heap.size + 1 + 1 < _; omega)).trans hc6
        have kf6 := (hB10.frozen (p := ⟨w.heap.size + 1 + 1, 0, none⟩) (by show w.heap.size + 1 + 1 < _; omega)).trans hf6
        have HDL := Lib.hid hDL
        clear hown hg1 hB10 hDL
        go_wp2_with fail
        go_meet
        exact ⟨rfl, _, HDL⟩
      · have he := HN.out.2.2 hge
        go_wp2_with (refine wpList_make_full _ rfl (.tmp 30) (.tmp 30) 31 rfl (w.heap.size + 4) 5 i0 (.int .u8 0) 1 Try.underlying31 hi hz0 hz1 .i64 .i64 _ _ N rfl rfl (by omega) (by omega) ?_ ?_ hzc ?_)
        · omega
        · unfold maxLen; omega
        intro w10 hown hg1
        have hB10 : Below wc.heap.size wc w10 := (Below.refl _ _).grown hg1 (Nat.le_refl _) (fun j e => by cases e)
        have hDL := hS.out.made hB10 (own_zeros hown)
        have k6 := (hB10.cell (p := ⟨w.heap.size + 1 + 1, 0, none⟩) (by show w.heap.size + 1 + 1 < _; omega)).trans hc6
        have kf6 := (hB10.frozen (p := ⟨w.heap.size + 1 + 1, 0, none⟩) (by show w.heap.size + 1 + 1 < _; omega)).trans hf6
        have HDL := Lib.hid hDL
        clear hown hg1 hB10 hDL
        go_wp2_with fail
        go_meet
        exact ⟨rfl, _, HDL⟩
    case rest =>
      obtain ⟨rfl, gq, hD⟩ := hcut
      have hc6 := hD.out.c6
      clear hS
      go_wp2_with (go_at_call 110; ((with_reducible refine (back_any _ _ _ _).mono ?_); rintro e w' ⟨rfl, rfl⟩))
      obtain ⟨lead, hld⟩ : ∃ lead, lead = Gf.inv y0 := ⟨_, rfl⟩
      rw [← hld] at hD
      have HLD := Lib.hid hld
      have hll : lead < 256 := by rw [hld]; exact Gf.inv_lt
      obtain ⟨wl, hwl⟩ : ∃ wl, wl = wc.alloc (.cells #[.slice (some ⟨gq, 0, none⟩) N N] 31) := ⟨_, rfl⟩
      have bl : Boxed wl wc.heap.size 31 (.slice (some ⟨gq, 0, none⟩) N N) := by rw [hwl]; exact Boxed.new wc 31 _
      have zl : wl.heap.size = wc.heap.size + 1 := by rw [hwl]; exact World.size_alloc _ _
      have hDl : DvL w p yb yo m d a0 lr cr top lead w7.heap.size b9 gq N (List.replicate N 0, lean x) wl := by rw [hwl]; exact (DvL.own (fun _ : Unit => (List.replicate N 0, lean x)) (Nat.le_refl _)).alloc (s := ()) _ hD.out
      have hgq : gq < wc.heap.size := hD.out.gq_lt
      have hn8 := hDl.n8
      have hn89 := hDl.n89
      have hn9 := hDl.n9
      rw [← hwl]
      have HDL := Lib.hid hDl
      clear hD hwl hc6 hDl hld
      have hRq : Rq wl wc.heap.size gq N N := ⟨bl.cell, fun j hj => ⟨_, Small.of_mem (l := List.replicate N 0) (fun z hz => by rw [List.eq_of_mem_replicate hz]; omega) j, (own_cell HDL.out.quo hj).1⟩⟩
      have HRQ := Lib.hid hRq
      clear hRq bl
      refine (wpIn_wide (n := nn)).1 ?_
      refine wpIn_rangeFunc_ownG rfl (by omega) (gf := 131) (lb := #[.pointer (some ⟨wc.heap.size, 0, none⟩)]) rfl trivial (enters_of Try.func131 (by kernel_rfl) rfl)
        (back2_stops Fence.wide (nn - 1) trivial rfl (by omega) wc.heap.size w.heap.size gq N N (by omega) wl HRQ.out) kq_t (kq_b (by omega)) (Below.refl _ _) (fun _ => rfl)
        (fun pre W => DvL w p yb yo m d a0 lr cr top lead w7.heap.size b9 gq N (dvTo (lean x) y top lead N (pre.map (·.1.1))) W)
        (fun _ _ _ => False)
        (DvL.own _ (by omega))
        (fun _ _ _ _ _ hs _ _ => hs)
        HDL.out
        (fun j => { tmps := #[.agg #[.pointer (some ⟨p, 0, none⟩)], .slice a n c, .slice (some ⟨yb, yo, none⟩) m d, .pointer (some ⟨w.heap.size, 0, none⟩), undef, .pointer (some ⟨w.heap.size + 1, 0, none⟩), .pointer (some ⟨w.heap.size + 1 + 1, 0, none⟩), .pointer (some ⟨w.heap.size + 1 + 1 + 1, 0, none⟩), .pointer (some ⟨w7.heap.size, 0, none⟩), .pointer (some ⟨b9, 0, none⟩), u10, .int .i64 (j.1.1 : Nat), .slice a n c, .slice a0 lr cr, .slice (some ⟨yb, yo, none⟩) m d, .int .i64 (top : Nat), u16, u17, u18, u19, u20, u21, u22, u23, u24, u25, u26, u27, u28, u29, u30, u31, .slice (some ⟨gq, 0, none⟩) N N, .func (.func 131) #[] #[.pointer (some ⟨wc.heap.size, 0, none⟩)], .int .i64 (j.1.1 : Nat), .int .u8 (j.1.2 : Nat), undef, undef, undef, undef, undef, undef, undef, undef, undef, undef, undef, undef, undef, undef, undef, undef, undef, undef, undef, undef, undef, undef, undef, undef, undef, undef, undef, undef, undef], defers := [] }) ?assign ?body ?done ?stop
      case assign =>
        intro l x W K hK
        gi_wp2
        exact hK
      case body =>
        rintro l pre ⟨⟨k, v⟩, hkN, hv⟩ W hDw _
        have hkN : k < N := hkN
        have hNt : N + top = lr := by have := HN.out.1; omega
        obtain ⟨gr, rfl⟩ : ∃ gr, a0 = some ⟨gr, 0, none⟩ := by
          rcases hDw.rest.2 with ⟨_, h0⟩ | ⟨g, cap, cur, e, _⟩
          · omega
          · injection e with e; exact ⟨g, e⟩
        have hgr : gr < w7.heap.size := hDw.row gr rfl
        have hgr4 : w.heap.size + 4 ≤ gr := (hDw.rest.lt gr rfl).1
        have hst : dvTo (lean x) y top lead N ((pre ++ [(⟨(k, v), hkN, hv⟩ : Pl N)]).map (·.1.1)) = dvStep y top lead (dvTo (lean x) y top lead N (pre.map (·.1.1))) k := by
          rw [List.map_append]; exact dvTo_snoc _ _ _ _ _ _ _
        have hsm := dvTo_small (x := lean x) (y := y) (top := top) (lead := lead) (N := N) (lean_small HX.out.small) HY.out.small (fun _ => by rw [← HLR.out]; omega) (pre.map (·.1.1)) (fun j hj => by
          obtain ⟨z, _, rfl⟩ := List.mem_map.1 hj; exact z.2.1)
        have hlen := dvTo_len (lean x) y top lead N (pre.map (·.1.1))
        rw [← HLR.out] at hlen
        generalize dvTo (lean x) y top lead N (pre.map (·.1.1)) = s at *
        obtain ⟨Q, R⟩ := s
        have hqo := hDw.quo
        have hro := hDw.rest
        dsimp only at hqo hro hsm hlen hst
        obtain ⟨ak, hak⟩ : ∃ ak, ak = k + top := ⟨_, rfl⟩
        have hr0 := (own_cell hro (i := ak) (by omega)).1
        have hr1 := hsm.2 ak
        have hq0 := (own_cell hqo (i := k) hkN).1
        have hq1 := (own_cell hqo (i := k) hkN).2
        have hc3 := hDw.c3
        have hc5 := hDw.c5
        have hc6 := hDw.c6
        have hc7 := hDw.c7
        have hc8 := hDw.c8
        have hc9 := hDw.c9
        obtain ⟨r0, hr0e⟩ : ∃ r0, r0 = R.getD ak 0 := ⟨_, rfl⟩
        rw [← hr0e] at hr0 hr1
        have hwk : IntKind.i64.wrap ((k : Int) + (top : Int)) = (ak : Int) := by rw [show (k : Int) + (top : Int) = (ak : Int) by omega]; exact IntWalk.i64_in _ (by omega)
        have hf : IsF W p := HF.out.below hDw.below hflt
        have hmul : Hid (∀ q, Calls Try.prog 23 #[.pointer (some ⟨p, 0, none⟩), .int .u8 (r0 : Nat), .int .u8 (lead : Nat)] (W.drewN q) fun e w' => e = .returned (.int .u8 (Gf.mul r0 lead : Nat)) ∧ ∃ n, w' = (W.drewN q).drewN n) := fun q => mul_any (hf.drewN q) hr1 hll
        have hcc : Gf.mul r0 lead < 256 := Gf.mul_lt hr1
        have HST := Lib.hid hst
        have HDW := Lib.hid hDw
        have HAK := Lib.hid hak
        have HR0E := Lib.hid hr0e
        have HSM := Lib.hid hsm
        have HLEN := Lib.hid hlen
        have HQO := Lib.hid hqo
        have HRO := Lib.hid hro
        have hak2 : ak < lr := by omega
        have h1k : (0 : Int) ≤ (k : Int) ∧ (k : Int) < (N : Int) := by omega
        obtain ⟨h1k, h2k⟩ := h1k
        have h1a : (0 : Int) ≤ (ak : Int) ∧ (ak : Int) < (lr : Int) := by omega
        obtain ⟨h1a, h2a⟩ := h1a
        clear hst hDw hak hr0e hsm hlen hqo hro hf
        gi_wp2
        refine round_quiet_tail 13 (by kernel_rfl) (by kernel_rfl) (by kernel_rfl) ?_
        simp only [List.take_succ_cons, List.take_zero, List.drop_succ_cons, List.drop_zero]
        repeat (go_big_quiet_step ((go_at_call 23; exact Calls.quiet_of (hmul.out _))))
        refine wpQuiet_nil ?_
        intro _ hw'
        obtain ⟨nq, rfl⟩ := hw'
        gi_wp2
        obtain ⟨cc, hcce⟩ : ∃ cc, cc = Gf.mul r0 lead := ⟨_, rfl⟩
        rw [← hcce] at hcc ⊢
        obtain ⟨W1, hW1⟩ : ∃ W1, W1 = (W.drewN nq).setCell ⟨gq, k, none⟩ (.int .u8 (cc : Nat)) := ⟨_, rfl⟩
        rw [← hW1]
        have hB1 : Below w.heap.size w W1 := by rw [hW1]; exact (below_drewN HDW.out.below nq).setCell (p := ⟨gq, k, none⟩) (by show _ ≤ gq; omega) _
        have hk1 : ∀ b, b < W.heap.size → b ≠ gq → W1.heap[b]? = W.heap[b]? := fun b _ hb => by rw [hW1]; exact heap_setCell_other (W.drewN nq) ⟨gq, k, none⟩ b _ hb
        have hq2 : W1.ownsRow (w.heap.size + 4) 5 1 (.slice (some ⟨gq, 0, none⟩) N N) N (bs (Q.set k cc)) := by rw [hW1]; exact own_set (show (W.drewN nq).ownsRow _ 5 1 _ _ _ from HQO.out)
        have hD1 : DvL w p yb yo m d (some ⟨gr, 0, none⟩) lr cr top lead w7.heap.size b9 gq N (Q.set k cc, R) W1 :=
          HDW.out.turn (g := gq) (s' := (Q.set k cc, R)) hk1 (by omega) (by omega) (by omega) hB1 (own_keep HRO.out hk1 (fun b e => by have e : some gr = some b := e; injection e with e; omega)) hq2
        have hK1 : KeepsOthers W W1 := by rw [hW1]; exact (keeps_drawn W nq).trans (KeepsOthers.setCell _ _ _)
        have hbs1 : W1.heap[wc.heap.size]? = W.heap[wc.heap.size]? := by rw [hW1]; exact heap_setCell_other (W.drewN nq) ⟨gq, k, none⟩ wc.heap.size _ (by show _ ≠ gq; omega)
        have hBW1 : Below w.heap.size W W1 := by rw [hW1]; exact (below_drewN (Below.refl _ _) nq).setCell (p := ⟨gq, k, none⟩) (by show _ ≤ gq; omega) _
        have hz1 : w.heap.size ≤ W1.heap.size := hB1.size
        clear hc3 hc5 hc6 hc7 hc8 hc9 hr0 hq0 hq1 hmul hW1 hr1
        have hc3 := hD1.c3
        have hc5 := hD1.c5
        have hc6 := hD1.c6
        have hc7 := hD1.c7
        have hc8 := hD1.c8
        have hq0 : W1.cell? ⟨gq, k, none⟩ = some (.int .u8 (cc : Nat)) := by
          have := (own_cell hq2 hkN).1
          rwa [getD_set _ _ _ _ (by rw [HLEN.out.1]; exact hkN), if_pos rfl] at this
        obtain ⟨tp, htpe⟩ : ∃ tp, tp = top + 1 := ⟨_, rfl⟩
        have hwt : IntKind.i64.wrap ((top : Int) + 1) = (tp : Int) := by rw [show (top : Int) + 1 = (tp : Int) by omega]; exact IntWalk.i64_in _ (by omega)
        have hyl := HY.out.le
        have hyr : RB W1 (some ⟨yb, yo, none⟩) tp d (y.take tp) := (HY.out.below hB1).take tp (by omega)
        have hybw : yb < w.heap.size := by
          obtain ⟨b', o', e, hc⟩ := HY.out.at_ 0 (by omega)
          injection e with e; injection e with e1 e2; subst e1; exact block_lt_of_cell hc
        have h111 : ∀ q, Hid (Calls Try.prog 111 #[.agg #[.pointer (some ⟨p, 0, none⟩)], .slice (some ⟨gr, 0, none⟩) lr cr, .int .i64 (k : Nat), .slice (some ⟨yb, yo, none⟩) tp d, .int .u8 (cc : Nat)] (W1.drewN q) fun e w' => (∃ v, e = .returned v) ∧ Hid (w'.ownsRow (w.heap.size + 4) 5 1 (.slice (some ⟨gr, 0, none⟩) lr cr) lr (bs (xadd R k (y.take tp) cc tp))) ∧ Hid (Only gr (W1.drewN q) w')) := fun q =>
          add111 (w := W1.drewN q) (B := w.heap.size + 4) (at_ := k) hcc (HF.out.below (below_drewN hB1 q) hflt) hD1.rest HSM.out.2 (hyr.drewN q) (fun b off e => by injection e with e; injection e with e1; omega) (by omega) (by omega)
        have H111 := Lib.hid h111
        have HD1 := Lib.hid hD1
        have HK1 := Lib.hid hK1
        have HBS1 := Lib.hid hbs1
        have HBW1 := Lib.hid hBW1
        have HZ1 := Lib.hid hz1
        have HCE := Lib.hid hcce
        have HTE := Lib.hid htpe
        have h1t : (0 : Int) ≤ (tp : Int) := by omega
        have h2t : (tp : Int) ≤ (d : Int) := by omega
        have h3t : tp ≤ d := by omega
        clear hD1 hK1 hbs1 hBW1 hz1 h111 hB1 hk1 hq2 hyr hcce htpe
        refine round_quiet_tail 11 (by kernel_rfl) (by kernel_rfl) (by kernel_rfl) ?_
        simp only [List.take_succ_cons, List.take_zero, List.drop_succ_cons, List.drop_zero]
        repeat (go_big_quiet_step (fail))
        refine wpQuiet_nil ?_
        intro _ hw'
        obtain ⟨nr, rfl⟩ := hw'
        gi_wp2_with (refine ⟨trivial, fun _ => (by omega), ?_⟩; gi_at_call 111; refine (CallsIn.inRound l (callsIn_wide.2 (H111.out _).out)).mono ?_; rintro e W2 ⟨⟨v5, rfl⟩, hrw, hO⟩)
        have hcg : ∃ cs ty fr, W1.heap[gr]? = some (.cells cs ty fr) := by
          rcases HD1.out.rest.2 with ⟨h0, _⟩ | ⟨g, cap, cur, e, _, hh, _⟩
          · cases h0
          · injection e with e; injection e with e; injection e with e1; subst e1; exact ⟨_, _, _, hh⟩
        have hk2 : ∀ b, b < W1.heap.size → b ≠ gr → W2.heap[b]? = W1.heap[b]? := hO.out.block
        have hB2 : Below w.heap.size (W1.drewN nr) W2 := hO.out.below _ (by omega) HZ1.out
        have hqo2 : W2.ownsRow (w.heap.size + 4) 5 1 (.slice (some ⟨gq, 0, none⟩) N N) N (bs (Q.set k cc)) := own_keep HD1.out.quo hk2 (fun b e => by have e : some gq = some b := e; injection e with e; omega)
        refine ⟨(HK1.out.trans ⟨hO.out.size, fun b o hb ho => ?_⟩).from _, ⟨HBW1.out.trans ((below_drewN (Below.refl _ _) nr).trans hB2), fun r => ⟨?_, fun j hj => ⟨_, ?_, (own_cell hqo2 hj).1⟩⟩⟩, ?_⟩
        · refine (hk2 b (Array.getElem?_eq_some_iff.1 hb).1 (fun e => ?_)).trans hb
          subst e
          obtain ⟨cs, ty, fr, hh⟩ := hcg
          rw [hh] at hb; cases hb; cases ho
        · have hlt := block_lt_of_cell r.box
          exact (World.cell?_of_block ((hk2 wc.heap.size (Nat.lt_of_lt_of_le hlt HK1.out.size) (by omega)).trans HBS1.out)).trans r.box
        · rw [getD_set _ _ _ _ (by rw [HLEN.out.1]; exact hkN)]
          split
          · exact hcc
          · exact HSM.out.1 j
        · show DvL w p yb yo m d (some ⟨gr, 0, none⟩) lr cr top lead w7.heap.size b9 gq N (dvTo (lean x) y top lead N ((pre ++ [(⟨(k, v), hkN, hv⟩ : Pl N)]).map (·.1.1))) W2
          rw [HST.out]
          have e : dvStep y top lead (Q, R) k = (Q.set k cc, xadd R k (y.take tp) cc tp) := by
            simp only [dvStep]
            rw [← HAK.out, ← HR0E.out, ← HCE.out, ← HTE.out]
          rw [e]
          exact HD1.out.turn (g := gr) (s' := (Q.set k cc, xadd R k (y.take tp) cc tp)) hk2 (by omega) (by omega) (by omega) ((below_drewN HD1.out.below nr).trans hB2) hrw.out hqo2
      case done =>
        rintro D ys W hD hys hDw hK
        have hys : ys.map (·.1.1) = dn N N := hys
        have hDw : DvL w p yb yo m d a0 lr cr top lead w7.heap.size b9 gq N (dvTo (lean x) y top lead N (dn N N)) W := by rw [← hys]; exact hDw
        have hsm := dvTo_small (x := lean x) (y := y) (top := top) (lead := lead) (N := N) (lean_small HX.out.small) HY.out.small (fun h => by rw [← HLR.out]; have := HN.out.1; omega) (dn N N) (fun j hj => ((mem_dn (Nat.le_refl _)).1 hj).2)
        have hall : dvAll x y m = dvTo (lean x) y top lead N (dn N N) := by rw [HDV.out, ← HTP.out, ← HLR.out, ← HY0.out, ← HLD.out, ← HN.out.1]
        have HALL := Lib.hid hall
        clear hall hys
        generalize dvTo (lean x) y top lead N (dn N N) = s at *
        obtain ⟨aq, cq, eq, hrq⟩ := own_rb hDw.quo hsm.1 (by omega)
        injection eq with e1 e2 e3
        subst e1; subst e3
        clear e2
        obtain ⟨ar, cr', er2, hrr⟩ := own_rb hDw.rest hsm.2 (by omega)
        injection er2 with e1 e2 e3
        subst e1; subst e3
        clear e2
        have hc6 := hDw.c6
        have hc7 := hDw.c7
        have hf6 := hDw.f6
        have hf7 := hDw.f7
        have z6 := block_lt_of_cell hc6
        have z7' := block_lt_of_cell hc7
        have hL : ∀ (av : Option Addr) (nv cv : Nat) (l : List Nat), RB W av nv cv l → l.length ≤ 1000000 → ∀ W', Below W.heap.size W W' → Hid (Calls Try.prog 47 #[.slice av nv cv] W' fun e w'' => ∃ au cu, e = .returned (.slice au (lean l).length cu) ∧ Hid (w''.ownsRow W'.heap.size 5 1 (.slice au (lean l).length cu) (lean l).length (bs (lean l))) ∧ Hid (Below W'.heap.size W' w'') ∧ Hid (Below W.heap.size W w'') ∧
            w''.cell? ⟨w.heap.size + 1 + 1, 0, none⟩ = some (.slice (some ⟨gq, 0, none⟩) N N) ∧ w''.cell? ⟨w.heap.size + 1 + 1 + 1, 0, none⟩ = some (.slice a0 lr cr) ∧ w''.frozen? ⟨w.heap.size + 1 + 1, 0, none⟩ = false ∧ w''.frozen? ⟨w.heap.size + 1 + 1 + 1, 0, none⟩ = false) := fun av nv cv l hl hl1 W' hW' => by
          refine (Lean_any (hl.below hW')).mono ?_
          rintro e w'' ⟨u, rfl, ho, hB⟩
          have hB0 := hW'.trans (hB.mono hW'.size)
          obtain ⟨au, cu, rfl, _⟩ := own_rb ho (lean_small hl.small) (by rw [length_lean]; have := ln_le l l.length; omega)
          exact ⟨au, cu, rfl, ho, hB, hB0, (hB0.cell (p := ⟨w.heap.size + 1 + 1, 0, none⟩) z6).trans hc6, (hB0.cell (p := ⟨w.heap.size + 1 + 1 + 1, 0, none⟩) z7').trans hc7, (hB0.frozen (p := ⟨w.heap.size + 1 + 1, 0, none⟩) z6).trans hf6, (hB0.frozen (p := ⟨w.heap.size + 1 + 1 + 1, 0, none⟩) z7').trans hf7⟩
        have HLQ := Lib.hid (hL _ _ _ _ hrq (by rw [hrq.len]; omega))
        have HLR2 := Lib.hid (hL _ _ _ _ hrr (by rw [hrr.len]; omega))
        have HDW := Lib.hid hDw
        have hzw : w.heap.size ≤ W.heap.size := hDw.below.size
        clear hL hrq hrr hsm hDw
        go_wp2_with fail
        go_region_with (first
          | (go_at_call_of 47 (Value.slice (some ⟨gq, 0, none⟩) N N); ((with_reducible refine (HLQ.out _ ?_).out.mono ?_); (first | exact (Below.refl _ _).drew | exact HBR0.out); rintro e wq ⟨au, cu, rfl, HU, HBQ, HBQ0, q1, q2, q3, q4⟩))
          | (go_at_call_of 47 (Value.slice a0 lr cr); ((with_reducible refine (HLR2.out _ ?_).out.mono ?_); (first | exact (Below.refl _ _).drew | exact HBQ0.out); rintro e wr ⟨av, cv, rfl, HV, HBR, HBR0, r1, r2, r3, r4⟩)))
        all_goals
          have hend := div_end (X := wr) HDW.out.below HBR0.out (by have := HDW.out.n8; have := HDW.out.n89; have := HDW.out.n9; have := HDW.out.gq_lt; omega) (by omega) hK r1 r2 (own_below HU.out HBR.out) (own_mono HV.out HBQ0.out.size)
          have hdf : ∀ g, (Value.slice au (lean s.1).length cu).ownBlock = some g → (Value.slice av (lean s.2).length cv).ownBlock ≠ some g := fun g e1 e2 => by
            have h1 := (HU.out.lt g e1).2
            have h2 := (HV.out.lt g e2).1
            omega
          rw [← HALL.out] at hend hdf ⊢
          obtain ⟨e1, e2, e3, e4, e5, e6⟩ := hend
          have E1 := Lib.hid e1
          have E4 := Lib.hid e4
          have E5 := Lib.hid e5
          have E6 := Lib.hid e6
          have E7 := Lib.hid hdf
          clear e1 e4 e5 e6 hdf r1 r2 r3 r4 q1 q2 q3 q4 hc6 hc7 hf6 hf7
          go_wp2_with fail
          refine ⟨by simp, .inl ⟨_, _, rfl, run_takeDeferred E1.out, ?_⟩⟩
          refine ⟨.tuple #[.slice au (lean (dvAll x y m).1).length cu, .slice av (lean (dvAll x y m).2).length cv], ?_, _, _, rfl, E4.out, E5.out, E7.out, E6.out⟩
          simp [results, Try.f99, go_sem, e2, e3]
      case stop =>
        rintro D c pre W _ _ h _
        exact h.elim
end Go.Proofs.Ytokeoodkioobdaa
