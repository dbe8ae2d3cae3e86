/- The walk of the queue's put. Conditions: what lies in the queue is in order, and short. -/
import Derived.Test.YtfojhmobnedekaaSch
import Derived.Test.YtfojhmobnedekaaWire6
import Derived.Test.YtfojhmobnedekaaWireZ
namespace Go.Proofs.Ytfojhmobnedekaa
open Go.RowKit

/-- How many stand at or ahead of it, from the front. -/
def posW (x : Wl) : List Wl → Nat
  | [] => 0
  | y :: l => if y.le x then posW x l + 1 else 0
theorem posW_le (x : Wl) : ∀ l, posW x l ≤ l.length
  | [] => Nat.le_refl _
  | y :: l => by
    unfold posW
    split
    · exact Nat.succ_le_succ (posW_le x l)
    · exact Nat.zero_le _
theorem insW_pos (x : Wl) : ∀ l, insW x l = l.take (posW x l) ++ x :: l.drop (posW x l)
  | [] => rfl
  | y :: l => by
    unfold insW posW
    split
    · rw [insW_pos x l]; rfl
    · rfl
theorem pos_at {x : Wl} : ∀ {l : List Wl} {k : Nat}, Srt l → k ≤ l.length → (∀ y, 0 < k → l[k - 1]? = some y → y.le x) → (∀ y, l[k]? = some y → ¬ y.le x) → k = posW x l
  | [], k, _, h, _, _ => by simpa [posW] using h
  | y :: l, 0, _, _, _, h2 => by
    have := h2 y rfl
    simp [posW, this]
  | y :: l, k + 1, hs, hk, h1, h2 => by
    have hs' := List.pairwise_cons.1 hs
    have hy : y.le x := by
      by_cases e : k = 0
      · subst e; exact h1 y (by omega) rfl
      · obtain ⟨m, rfl⟩ : ∃ m, k = m + 1 := ⟨k - 1, by omega⟩
        have hk' : m < l.length := by simp at hk; omega
        have hz := h1 (l[m]) (by omega) (by
          rw [Nat.add_sub_cancel, List.getElem?_cons_succ]
          exact List.getElem?_eq_getElem hk')
        exact Wl.le_trans (hs'.1 _ (List.getElem_mem hk')) hz
    have ih := pos_at (x := x) (l := l) (k := k) hs'.2 (by simpa using hk) (fun z hk0 hz => h1 z (by omega) (by
      rw [Nat.add_sub_cancel, show k = (k - 1) + 1 by omega, List.getElem?_cons_succ]; exact hz)) (fun z hz => h2 z (by simpa using hz))
    simp only [posW, hy, if_true]; omega
theorem search_at {w : World} {bx W n c : Nat} {a : Option Addr} {l : List Wl} (x : Wl) (h : RWl w a n c l) (hs : Srt l) (h0 : w.cell? ⟨bx, 0, none⟩ = some (.pointer (some ⟨W, 0, none⟩))) (h1 : w.cell? ⟨W, 1, none⟩ = some (.func (.func 70) #[] #[])) :
    Calls Try.prog 107 #[.slice a n c, x.v, .func (.func 108) #[] #[.pointer (some ⟨bx, 0, none⟩)]] w fun e w' => e = .returned (.tuple #[.int .i64 (posW x l : Nat), .bool false]) ∧ Below w.heap.size w w' := by
  refine (search_any x h h0 h1).mono ?_
  rintro e w' ⟨⟨k, rfl, h1, h2, h3⟩, h4⟩
  obtain rfl := pos_at hs (by rw [h.len]; exact h1) h2 h3
  exact ⟨rfl, h4⟩
theorem own_rwl {w : World} {B n c : Nat} {a : Option Addr} {l : List Wl} (h : w.ownsRow B 139 4 (.slice a n c) n (wcs l)) (hc : n ≤ 140737488351232) : RWl w a n c l := by
  have hl : l.length = n := by have := h.1; rw [length_wcs] at this; omega
  rcases h.2 with ⟨e, rfl⟩ | ⟨g, cap, cur, e, _, hg, hnc, _, hcs, ht⟩
  · injection e with e1 _ e2
    subst e1; subst e2
    exact ⟨hl, Nat.le_refl _, hc, (fun _ => rfl), fun j u hu => by
      have := (List.getElem?_eq_some_iff.1 hu).1
      rw [length_wcs] at this; omega⟩
  · injection e with e1 _ e2
    subst e1; subst e2
    exact ⟨hl, hnc, hc, (fun e => by cases e), fun j u hu => ⟨g, 0, rfl, by
      have := h.cells (g := g) rfl j u hu
      rwa [Addr.add_lit] at this⟩⟩
/-- The worlds of which something holds. -/
def Such (Φ : World → Prop) : Type := { w : World // Φ w }
/-- What lay there lies there still, but for the wire's cells and its row. -/
structure Keep (W : Nat) (v : Value) (w w' : World) : Prop where
  os : w'.os = w.os
  tape : w'.tape = w.tape
  output : w'.output = w.output
  size : w.heap.size ≤ w'.heap.size
  block : ∀ g, g < w.heap.size → g ≠ W → v.ownBlock ≠ some g → w'.heap[g]? = w.heap[g]?
def Nxt (w : World) (v v' : Value) : Prop := ∀ g, v'.ownBlock = some g → v.ownBlock = some g ∨ w.heap.size ≤ g
theorem Keep.trans {W : Nat} {v v' : Value} {a b c : World} (h : Keep W v a b) (hn : Nxt a v v') (k : Keep W v' b c) : Keep W v a c :=
  ⟨k.os.trans h.os, k.tape.trans h.tape, k.output.trans h.output, Nat.le_trans h.size k.size, fun g hg h1 h2 => (k.block g (Nat.lt_of_lt_of_le hg h.size) h1 (fun e => by rcases hn g e with e | e; exact h2 e; omega)).trans (h.block g hg h1 h2)⟩
theorem Nxt.trans {v v' v'' : Value} {a b : World} (hs : a.heap.size ≤ b.heap.size) (h : Nxt a v v') (k : Nxt b v' v'') : Nxt a v v'' := fun g e => by
  rcases k g e with e | e
  · exact h g e
  · exact .inr (by omega)
theorem Keep.of_below {W : Nat} {v : Value} {w w' : World} (h : Below w.heap.size w w') : Keep W v w w' := ⟨h.os, h.tape, h.output, h.size, fun g hg _ _ => h.block g hg⟩
theorem Keep.refl (W : Nat) (v : Value) (w : World) : Keep W v w w := Keep.of_below (Below.refl _ _)
theorem Nxt.refl (w : World) (v : Value) : Nxt w v v := fun _ e => .inl e
theorem Keep.then_below {W : Nat} {v : Value} {a b c : World} (h : Keep W v a b) (k : Below b.heap.size b c) : Keep W v a c := h.trans (Nxt.refl _ _) (Keep.of_below k)
theorem Keep.after_below {W : Nat} {v : Value} {a b c : World} (h : Below a.heap.size a b) (k : Keep W v b c) : Keep W v a c := (Keep.of_below h).trans (Nxt.refl _ _) k
/-- A block's cells other than the wire's own. -/
theorem own4_ne {w : World} {B n W : Nat} {v : Value} {xs : List Value} {cs : Array Value} {t : TypeId} (ho : w.ownsRow B 139 4 v n xs) (hw : w.heap[W]? = some (.cells cs t (0, 0))) (ht : t ≠ 139) : v.ownBlock ≠ some W := by
  intro e
  rcases ho.2 with ⟨rfl, _⟩ | ⟨g, cap, cur, rfl, _, hg, _⟩
  · cases e
  · have e : g = W := by injection e
    subst e
    rw [hw] at hg
    injection hg with e2
    injection e2 with _ e3
    exact ht e3
theorem setCell_of_block {w : World} {W i : Nat} {cs : Array Value} {t : TypeId} (v : Value) (h : w.heap[W]? = some (.cells cs t (0, 0))) : (w.setCell ⟨W, i, none⟩ v).heap[W]? = some (.cells (cs.setIfInBounds i v) t (0, 0)) := heap_setCell_same w W i cs t v h

theorem own4_slice {w : World} {B n : Nat} {v : Value} {xs : List Value} (h : w.ownsRow B 139 4 v n xs) : ∃ a c, v = .slice a n c := by
  rcases h.2 with ⟨rfl, rfl⟩ | ⟨g, cap, cur, rfl, _⟩
  · exact ⟨_, _, rfl⟩
  · exact ⟨_, _, rfl⟩
def PutS (bx W bv : Nat) (v : Value) (x : Wl) (w : World) : Prop := w.cell? ⟨bx, 0, none⟩ = some (.pointer (some ⟨W, 0, none⟩)) ∧ w.cell? ⟨W, 0, none⟩ = some v ∧ w.heap[bv]? = some (.cells #[.int .i64 x.d, .int .i64 x.q, .slice x.a x.n x.c, .int .i64 x.t] 139 (0, 0))
theorem PutS.of_same {bx W bv : Nat} {v : Value} {x : Wl} {w w' : World} (h : PutS bx W bv v x w) (hb : ∀ g, g < w.heap.size → (g = bx ∨ g = W ∨ g = bv) → w'.heap[g]? = w.heap[g]?) : PutS bx W bv v x w' :=
  ⟨(World.cell?_of_block (w := w) (hb bx (block_lt_of_cell h.1) (.inl rfl))).trans h.1, (World.cell?_of_block (w := w) (hb W (block_lt_of_cell h.2.1) (.inr (.inl rfl)))).trans h.2.1, (hb bv (lt_of_block h.2.2) (.inr (.inr rfl))).trans h.2.2⟩
theorem PutS.alloc {bx W bv : Nat} {v : Value} {x : Wl} {w : World} {o : Obj} (h : PutS bx W bv v x w) : PutS bx W bv v x (w.drew.alloc o) := h.of_same fun g hg _ => heap_alloc_old w.drew o g hg

set_option maxHeartbeats 1600000 in
set_option maxRecDepth 100000 in
theorem qput_any {w : World} {W B n c : Nat} {a : Option Addr} {l : List Wl} {x : Wl} {ld dr : Int} (hw : w.heap[W]? = some (.cells (wireC (.slice a n c) ld dr) 91 (0, 0))) (ho : w.ownsRow B 139 4 (.slice a n c) n (wcs l)) (hs : Srt l) (hn : n ≤ 1000000) (hB : B ≤ w.heap.size) :
    Calls Try.prog 72 #[.pointer (some ⟨W, 0, none⟩), x.v] w fun e w' => e = .returned (.tuple #[]) ∧ ∃ v', w'.heap[W]? = some (.cells (wireC v' ld dr) 91 (0, 0)) ∧ w'.ownsRow B 139 4 v' (n + 1) (wcs (insW x l)) ∧ Keep W (.slice a n c) w w' ∧ Nxt w (.slice a n c) v' := by
  have hb0 : Below w.heap.size w ((w.alloc (.cells #[.pointer (some ⟨W, 0, none⟩)] 181)).alloc (.cells #[.int .i64 x.d, .int .i64 x.q, .slice x.a x.n x.c, .int .i64 x.t] 139)) := ((Below.refl _ _).alloc (Nat.le_refl _) _).alloc (by simp) _
  have hbx : ((w.alloc (.cells #[.pointer (some ⟨W, 0, none⟩)] 181)).alloc (.cells #[.int .i64 x.d, .int .i64 x.q, .slice x.a x.n x.c, .int .i64 x.t] 139)).cell? ⟨w.heap.size, 0, none⟩ = some (.pointer (some ⟨W, 0, none⟩)) := (cell_of_block ((heap_alloc_old _ _ w.heap.size (by simp)).trans (heap_alloc_new _ _))).trans rfl
  have hbv : ((w.alloc (.cells #[.pointer (some ⟨W, 0, none⟩)] 181)).alloc (.cells #[.int .i64 x.d, .int .i64 x.q, .slice x.a x.n x.c, .int .i64 x.t] 139)).heap[w.heap.size + 1]? = some (.cells #[.int .i64 x.d, .int .i64 x.q, .slice x.a x.n x.c, .int .i64 x.t] 139 (0, 0)) := by
    have := heap_alloc_new (w.alloc (.cells #[.pointer (some ⟨W, 0, none⟩)] 181)) (.cells #[.int .i64 x.d, .int .i64 x.q, .slice x.a x.n x.c, .int .i64 x.t] 139)
    simpa using this
  have HLT := Lib.hid (show ∀ g, (Value.slice a n c).ownBlock = some g → g < w.heap.size from fun g e => (own_lt3 ho e).2)
  unfold Wl.v landV
  go_enter Try.func72, Try.ntmps72
  go_wp2_with fail
  generalize ((w.alloc (.cells #[.pointer (some ⟨W, 0, none⟩)] 181)).alloc (.cells #[.int .i64 x.d, .int .i64 x.q, .slice x.a x.n x.c, .int .i64 x.t] 139)) = W1 at *
  have hw1 := (hb0.block W (lt_of_block hw)).trans hw
  have ho1 : W1.ownsRow B 139 4 (.slice a n c) n (wcs l) := own_frame3 ho fun g _ hg => hb0.block g hg
  have hc0 : W1.cell? ⟨W, 0, none⟩ = some (.slice a n c) := (cell_of_block hw1).trans rfl
  have hc1 : W1.cell? ⟨W, 1, none⟩ = some (.func (.func 70) #[] #[]) := (cell_of_block hw1).trans rfl
  have hR := own_rwl ho1 (by omega)
  have H107 := Lib.hid fun y : Lies W1 => search_at x (hR.below y.2) hs (lies_cell hbx y) (lies_cell hc1 y)
  have HBV := Lib.hid (show ∀ w', (∃ y : Lies W1, w' = y.1) → w'.heap[w.heap.size + 1]? = some (.cells #[.int .i64 x.d, .int .i64 x.q, .slice x.a x.n x.c, .int .i64 x.t] 139 (0, 0)) from fun w' ⟨y, e⟩ => by rw [e]; exact (y.2.block _ (lt_of_block hbv)).trans hbv)
  have L0 := fun y : Lies W1 => lies_cell hbx y
  have L1 := fun y : Lies W1 => lies_cell hc0 y
  have HW1 := Lib.hid hw1
  have HO1 := Lib.hid ho1
  have HB0 := Lib.hid hb0
  have HBX := Lib.hid hbx
  have HVB := Lib.hid hbv
  clear hw ho hw1 ho1 hc0 hc1 hR hb0 hbx hbv
  unfold Wl.v landV at H107
  refine region_lies (by rfl) (by decide +kernel) ?_
  repeat (first | ((refine quiet_load_row (some 11) rfl rfl 139 (.tmp 3) rfl (w.heap.size + 1) rfl 139 #[.int .i64 x.d, .int .i64 x.q, .slice x.a x.n x.c, .int .i64 x.t] (0, 0) _ HBV.out Try.underlying139 rfl info139 ?_); simp only [Act.put, List.setIfInBounds_toArray, List.set_cons_succ, List.set_cons_zero]) | go_big_quiet_step ((go_at_call 107; exact Lies.call (H107.out _))))
  refine wpQuiet_nil ?_
  intro _ hw'
  obtain ⟨y, rfl⟩ := hw'
  have hB2 : Below W1.heap.size W1 y.1 := y.2
  clear H107 L0 L1 HBV
  generalize y.1 = W2 at *
  clear y
  have hx2 := (hB2.cell (block_lt_of_cell HBX.out)).trans HBX.out
  have hv2 := (hB2.block _ (lt_of_block HVB.out)).trans HVB.out
  have hw2 := (hB2.block W (lt_of_block HW1.out)).trans HW1.out
  have ho2 : W2.ownsRow B 139 4 (.slice a n c) n (wcs l) := own_frame3 HO1.out fun g _ hg => hB2.block g hg
  have hB3 : Below w.heap.size w W2 := HB0.out.trans (hB2.mono HB0.out.size)
  have hc2 : W2.cell? ⟨W, 0, none⟩ = some (.slice a n c) := (cell_of_block hw2).trans rfl
  have hi0 : PutS w.heap.size W (w.heap.size + 1) (.slice a n c) x W2 := ⟨hx2, hc2, hv2⟩
  haveI : Nonempty (Such (PutS w.heap.size W (w.heap.size + 1) (.slice a n c) x)) := ⟨⟨W2, hi0⟩⟩
  haveI : Inhabited (Such (PutS w.heap.size W (w.heap.size + 1) (.slice a n c) x)) := ⟨⟨W2, hi0⟩⟩
  have Z0 : ∀ z : Such (PutS w.heap.size W (w.heap.size + 1) (.slice a n c) x), z.1.cell? ⟨w.heap.size, 0, none⟩ = some (.pointer (some ⟨W, 0, none⟩)) := fun z => z.2.1
  have Z1 : ∀ z : Such (PutS w.heap.size W (w.heap.size + 1) (.slice a n c) x), z.1.cell? ⟨W, 0, none⟩ = some (.slice a n c) := fun z => z.2.2.1
  have HZ2 := Lib.hid (show ∀ w', (∃ z : Such (PutS w.heap.size W (w.heap.size + 1) (.slice a n c) x), w' = z.1) → w'.heap[w.heap.size + 1]? = some (.cells #[.int .i64 x.d, .int .i64 x.q, .slice x.a x.n x.c, .int .i64 x.t] 139 (0, 0)) from fun w' ⟨z, e⟩ => by rw [e]; exact z.2.2.2)
  have hwo := own4_ne ho2 hw2 (by decide)
  have hu2 : (Value.slice a n c).ownBlock ≠ some W2.heap.size := fun e => by have := (own_lt3 ho2 e).2; omega
  have ho3 : (W2.drew.alloc (.cells x.cells.toArray 139)).ownsRow B 139 4 (.slice a n c) n (wcs l) := own_frame3 ho2 fun g _ hg => heap_alloc_old W2.drew _ g hg
  have hins := insert_any (k := posW x l) (x := x) ho3 (by have := posW_le x l; have := ho2.1; rw [length_wcs] at this; omega) hn (by have := hB3.size; simp; omega) (heap_alloc_new W2.drew (.cells x.cells.toArray 139)) hu2
  have HINS := Lib.hid hins
  have HI0 := Lib.hid hi0
  have HWO := Lib.hid hwo
  have HW2 := Lib.hid hw2
  have HB3 := Lib.hid hB3
  have hsz2 : W1.heap.size ≤ W2.heap.size := hB2.size
  have hxl := lt_of_block HVB.out
  have hWl := lt_of_block HW1.out
  have hB1s := HB0.out.size
  clear hx2 hv2 hw2 ho2 hB2 hc2 hi0 hwo hu2 ho3 hins hB3
  go_wp2_with fail
  refine region_lsch (fun w' => ∃ z : Such (PutS w.heap.size W (w.heap.size + 1) (.slice a n c) x), w' = z.1) 9 [([0, 1, 2, 3, 4, 5, 6], 7), ([], 8)] (by rfl) (by decide +kernel) ⟨⟨W2.drew, HI0.out⟩, rfl⟩ ?_
  unfold lschP
  simp only [pickL, List.filterMap_cons, List.filterMap_nil, List.getElem?_toArray, List.getElem?_cons_zero, List.getElem?_cons_succ]
  show wpQuiet _ _ _ _ [_, _, _, _, _, _, _] _
  repeat (first | ((refine quiet_load_row (some 22) rfl rfl 139 (.tmp 3) rfl (w.heap.size + 1) rfl 139 #[.int .i64 x.d, .int .i64 x.q, .slice x.a x.n x.c, .int .i64 x.t] (0, 0) _ HZ2.out Try.underlying139 rfl info139 ?_); simp only [Act.put, List.setIfInBounds_toArray, List.set_cons_succ, List.set_cons_zero]) | go_big_quiet_step (fail))
  refine wpQuiet_nil ?_
  refine mvP_value (v := .slice (some ⟨W2.heap.size, 0, none⟩) (1 : Nat) (1 : Nat)) (w' := W2.drew.alloc (.cells x.cells.toArray 139)) (some 23) rfl rfl rfl (by go_simp; rfl) ⟨⟨⟨_, HI0.out.alloc⟩, rfl⟩, ?_⟩
  simp only [Act.put, List.setIfInBounds_toArray, List.set_cons_succ, List.set_cons_zero]
  unfold lschP
  refine wpQuiet_nil ?_
  refine mvP_call (f := 109) (args := #[.slice a n c, .int .i64 (posW x l : Nat), .slice (some ⟨W2.heap.size, 0, none⟩) 1 1]) (w' := W2.drew.alloc (.cells x.cells.toArray 139)) (some 24) rfl rfl rfl (by go_simp) (HINS.out.mono ?_)
  rintro e w3 ⟨v', rfl, ho4, hg4, hn4⟩
  obtain ⟨a', c', rfl⟩ := own4_slice ho4
  have hsz3 : W2.heap.size + 1 ≤ w3.heap.size := by have := hg4.size; simpa using this
  have hlow : ∀ g, g < W2.heap.size → (Value.slice a n c).ownBlock ≠ some g → w3.heap[g]? = W2.heap[g]? := fun g hg h1 => (hg4.block g (by simp; omega) (fun e => h1 e.symm)).trans (heap_alloc_old W2.drew _ g hg)
  have hi3 : PutS w.heap.size W (w.heap.size + 1) (.slice a n c) x w3 := HI0.out.of_same fun g hg h => hlow g hg (by
    rcases h with h | h | h
    · subst h; exact fun e => by have := HLT.out _ e; omega
    · subst h; exact HWO.out
    · subst h; exact fun e => by have := HLT.out _ e; omega)
  refine ⟨_, rfl, ⟨⟨w3, hi3⟩, rfl⟩, ?_⟩
  simp only [Act.put, List.setIfInBounds_toArray, List.set_cons_succ, List.set_cons_zero]
  unfold lschP
  simp only [List.drop_succ_cons, List.drop_zero]
  have hw3 := (hlow W (lt_of_block HW2.out) HWO.out).trans HW2.out
  have hc3 : w3.cell? ⟨W, 0, none⟩ = some (.slice a n c) := hi3.2.1
  have hf3 : w3.frozen? ⟨W, 0, none⟩ = false := frozen_of_block hw3
  have hne3 : (Value.slice a' (n + 1) c').ownBlock ≠ some W := own4_ne ho4 hw3 (by decide)
  have HFIN := Lib.hid (show (w3.setCell ⟨W, 0, none⟩ (.slice a' (n + 1) c')).heap[W]? = some (.cells (wireC (.slice a' (n + 1) c') ld dr) 91 (0, 0)) ∧ (w3.setCell ⟨W, 0, none⟩ (.slice a' (n + 1) c')).ownsRow B 139 4 (.slice a' (n + 1) c') (n + 1) (wcs (insW x l)) ∧ Keep W (.slice a n c) w (w3.setCell ⟨W, 0, none⟩ (.slice a' (n + 1) c')) ∧ Nxt w (.slice a n c) (.slice a' (n + 1) c') from by
    refine ⟨setCell_of_block _ hw3, ?_, ?_, ?_⟩
    · rw [insW_pos]
      exact own_frame3 ho4 fun g hg _ => Below.heap_setCell w3 ⟨W, 0, none⟩ _ g (fun e => hne3 (by rw [hg, e]))
    · refine ⟨hg4.os.trans HB3.out.os, hg4.tape.trans HB3.out.tape, hg4.output.trans HB3.out.output, ?_, fun g hg h1 h2 => ?_⟩
      · have := HB3.out.size; simp [World.setCell]; omega
      · exact (Below.heap_setCell w3 ⟨W, 0, none⟩ _ g h1).trans ((hlow g (by omega) h2).trans (HB3.out.block g hg))
    · intro g e
      rcases hn4 g e with e | e
      · exact .inl e
      · exact .inr (by rw [e]; simp; omega))
  clear hw3 hi3 hlow hne3 ho4 hg4 hn4
  go_wp2_with fail
  exact bodyPost_end (v := .tuple #[]) (results_none rfl _ _ _) rfl ⟨rfl, _, HFIN.out⟩
end Go.Proofs.Ytfojhmobnedekaa
