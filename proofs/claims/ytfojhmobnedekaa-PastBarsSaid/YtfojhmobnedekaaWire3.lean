/- Rows of landings that are under way, and the walk of the search for a place. Conditions: rows are shorter than 2 to the 40. -/
import Derived.Test.YtfojhmobnedekaaWire2
import Derived.Test.YtfojhmobnedekaaFate9
namespace Go.Proofs.Ytfojhmobnedekaa
open Go.RowKit

/-- A landing and to whom: its tick, its place, its bytes' header. -/
structure Wl where
  d : Int
  q : Int
  a : Option Addr
  n : Nat
  c : Nat
  t : Int
instance : Inhabited Wl := ⟨⟨0, 0, none, 0, 0, 0⟩⟩
def Wl.cells (x : Wl) : List Value := [.int .i64 x.d, .int .i64 x.q, .slice x.a x.n x.c, .int .i64 x.t]
def Wl.v (x : Wl) : Value := landV x.d x.q (.slice x.a x.n x.c) x.t
def wcs (l : List Wl) : List Value := l.flatMap Wl.cells
theorem wcs_append (a b : List Wl) : wcs (a ++ b) = wcs a ++ wcs b := by simp [wcs]
theorem length_wcs : ∀ l : List Wl, (wcs l).length = l.length * 4
  | [] => rfl
  | x :: l => by
    show (x.cells ++ wcs l).length = _
    rw [List.length_append, length_wcs l]; simp [Wl.cells]; omega
theorem wcs_get : ∀ (l : List Wl) (k j : Nat) (h : k < l.length), j < 4 → (wcs l)[k * 4 + j]? = (l[k]).cells[j]?
  | x :: l, 0, j, _, hj => by
    show (x.cells ++ wcs l)[0 * 4 + j]? = _
    rw [List.getElem?_append_left (by simp [Wl.cells]; omega)]; simp
  | x :: l, k + 1, j, h, hj => by
    have h1 : (k + 1) * 4 + j = 4 + (k * 4 + j) := by omega
    show (x.cells ++ wcs l)[(k + 1) * 4 + j]? = _
    rw [h1, List.getElem?_append_right (by simp [Wl.cells])]
    have := wcs_get l k j (by simpa using h) hj
    simpa [Wl.cells] using this
theorem wcs_one (l : List Wl) : ∀ u ∈ wcs l, u.oneCell' = true := by
  intro u hu
  obtain ⟨x, _, hx⟩ := List.mem_flatMap.1 hu
  simp [Wl.cells] at hx
  rcases hx with rfl | rfl | rfl | rfl <;> rfl

structure RWl (w : World) (a : Option Addr) (n cap : Nat) (l : List Wl) : Prop where
  len : l.length = n
  le : n ≤ cap
  most : n ≤ 140737488351232
  nil : a = none → cap = 0
  at_ : ∀ j u, (wcs l)[j]? = some u → ∃ b off, a = some ⟨b, off, none⟩ ∧ w.cell? ⟨b, off + j, none⟩ = some u
theorem RWl.below {w w' : World} {a : Option Addr} {n cap : Nat} {l : List Wl} (h : RWl w a n cap l) (hB : Below w.heap.size w w') : RWl w' a n cap l :=
  ⟨h.len, h.le, h.most, h.nil, fun j u hu => by
    obtain ⟨b, off, e, hc⟩ := h.at_ j u hu
    exact ⟨b, off, e, (hB.cell (block_lt_of_cell hc)).trans hc⟩⟩
theorem RWl.drawn {w w' : World} {a : Option Addr} {n cap : Nat} {l : List Wl} (h : RWl w a n cap l) (hB : Drawn w w') : RWl w' a n cap l := by
  obtain ⟨q, rfl⟩ := hB; exact h.below (below_drewN (Below.refl _ _) _)
/-- The four cells of one. -/
theorem RWl.four {w : World} {a : Option Addr} {n cap : Nat} {l : List Wl} (h : RWl w a n cap l) {k : Nat} (hk : k < n) :
    ∃ b off, ∃ x : Wl, a = some ⟨b, off, none⟩ ∧ l[k]? = some x ∧ w.cell? ⟨b, off + k * 4, none⟩ = some (.int .i64 x.d) ∧ w.cell? ⟨b, off + k * 4 + 1, none⟩ = some (.int .i64 x.q) ∧ w.cell? ⟨b, off + k * 4 + 2, none⟩ = some (.slice x.a x.n x.c) ∧ w.cell? ⟨b, off + k * 4 + 3, none⟩ = some (.int .i64 x.t) := by
  have hk2 : k < l.length := by rw [h.len]; exact hk
  obtain ⟨b, off, e, h0⟩ := h.at_ (k * 4 + 0) _ ((wcs_get l k 0 hk2 (by omega)).trans rfl)
  have hc : ∀ j (_ : j < 4) u (_ : (l[k]).cells[j]? = some u), w.cell? ⟨b, off + (k * 4 + j), none⟩ = some u := fun j hj u hu => by
    obtain ⟨b2, off2, e2, h1⟩ := h.at_ (k * 4 + j) _ ((wcs_get l k j hk2 hj).trans hu)
    rw [e] at e2
    obtain ⟨rfl, rfl⟩ : b = b2 ∧ off = off2 := by injection e2 with e2; injection e2 with e3 e4; exact ⟨e3, e4⟩
    exact h1
  exact ⟨b, off, l[k], e, List.getElem?_eq_getElem hk2, hc 0 (by omega) _ rfl, by simpa [Nat.add_assoc] using hc 1 (by omega) _ rfl, by simpa [Nat.add_assoc] using hc 2 (by omega) _ rfl, by simpa [Nat.add_assoc] using hc 3 (by omega) _ rfl⟩
theorem RWl.of_block {w : World} {g cap : Nat} {l m : List Wl} {t : TypeId} {fr : Nat × Nat} (hg : w.heap[g]? = some (.cells (wcs (l ++ m)).toArray t fr)) (hc : l.length ≤ cap) (hm : cap ≤ 140737488351232) : RWl w (some ⟨g, 0, none⟩) l.length cap l where
  len := rfl
  le := hc
  most := by omega
  nil h := by cases h
  at_ j u hu := ⟨g, 0, rfl, by
    have hlt := (List.getElem?_eq_some_iff.1 hu).1
    rw [Nat.zero_add, cell_of_block hg, List.getElem?_toArray, wcs_append, List.getElem?_append_left hlt, hu]⟩


/-- Does the first stand at or ahead of the second? -/
def Wl.le (x y : Wl) : Prop := ordI x.d x.q y.d y.q ≤ 0
instance (x y : Wl) : Decidable (x.le y) := by unfold Wl.le; infer_instance
theorem less_wl {w : World} {bx W : Nat} (x y : Wl) (h0 : w.cell? ⟨bx, 0, none⟩ = some (.pointer (some ⟨W, 0, none⟩))) (h1 : w.cell? ⟨W, 1, none⟩ = some (.func (.func 70) #[] #[])) :
    Calls Try.prog 108 #[x.v, y.v, .pointer (some ⟨bx, 0, none⟩)] w fun e w' => e = .returned (.int .i64 (if x.le y then -1 else 1)) ∧ Below w.heap.size w w' := less_any _ _ _ _ _ _ _ _ _ _ _ _ h0 h1

set_option maxHeartbeats 1600000 in
set_option maxRecDepth 100000 in
/-- The search: a place with what stands at or ahead of it on its left, what does not on its right. -/
theorem search_any {w : World} {bx W n c : Nat} {a : Option Addr} {l : List Wl} (x : Wl) (h : RWl w a n c l) (h0 : w.cell? ⟨bx, 0, none⟩ = some (.pointer (some ⟨W, 0, none⟩))) (h1 : w.cell? ⟨W, 1, none⟩ = some (.func (.func 70) #[] #[])) :
    Calls Try.prog 107 #[.slice a n c, x.v, .func (.func 108) #[] #[.pointer (some ⟨bx, 0, none⟩)]] w fun e w' => (∃ k : Nat, e = .returned (.tuple #[.int .i64 k, .bool false]) ∧ k ≤ n ∧ (∀ y, 0 < k → l[k - 1]? = some y → y.le x) ∧ (∀ y, l[k]? = some y → ¬ y.le x)) ∧ Below w.heap.size w w' := by
  have hm := h.most
  have hle := h.le
  have H := Lib.hid h
  have HC := Lib.hid h0
  have HF := Lib.hid h1
  clear h h0 h1
  unfold Wl.v landV
  go_enter Try.func107, Try.ntmps107
  go_wp2_with fail
  obtain ⟨W1, hW1⟩ : ∃ W1, W1 = w.alloc (.cells #[.int .i64 x.d, .int .i64 x.q, .slice x.a x.n x.c, .int .i64 x.t] 139) := ⟨_, rfl⟩
  have hz : W1.heap.size = w.heap.size + 1 := by rw [hW1]; simp
  have hB1 : Below w.heap.size w W1 := by rw [hW1]; exact (Below.refl _ _).alloc (Nat.le_refl _) _
  have hX1 : W1.heap[w.heap.size]? = some (.cells #[.int .i64 x.d, .int .i64 x.q, .slice x.a x.n x.c, .int .i64 x.t] 139 (0, 0)) := by rw [hW1]; exact heap_alloc_new _ _
  rw [← hW1]
  have HZ := Lib.hid hz
  have HB1 := Lib.hid hB1
  have HX1 := Lib.hid hX1
  clear hz hB1 hX1 hW1
  go_loopw [9, 10] (fun i j wr => ∃ p q : Nat, p ≤ q ∧ q ≤ n ∧ i = .int .i64 p ∧ j = .int .i64 q ∧ Hid ((∀ y, 0 < p → l[p - 1]? = some y → y.le x) ∧ (∀ y, l[q]? = some y → ¬ y.le x)) ∧ Hid (Below W1.heap.size W1 wr)) (fun i j _ => (intOf j - intOf i).toNat)
  case atStart => exact ⟨0, n, by omega, by omega, rfl, rfl, ⟨fun y h => absurd h (by omega), fun y h => by have := (List.getElem?_eq_some_iff.1 h).1; have := H.out.len; omega⟩, Below.refl _ _⟩
  case round =>
    obtain ⟨p, q, hpq, hqn, rfl, rfl, HI, HB⟩ := hrel
    by_cases hlt : p < q
    · obtain ⟨m, hm1, hm2, hm3⟩ : ∃ m : Nat, ((p : Int) + (q : Int)) / 2 = (m : Int) ∧ p ≤ m ∧ m < q := ⟨(p + q) / 2, by omega, by omega, by omega⟩
      have hBw : Below w.heap.size w wr := HB1.out.trans (HB.out.mono (by have := HZ.out; omega))
      obtain ⟨b, off, y, rfl, hy, y0, y1, y2, y3⟩ := (H.out.below hBw).four (k := m) (by omega)
      have hc0 := (hBw.cell (p := ⟨bx, 0, none⟩) (block_lt_of_cell HC.out)).trans HC.out
      have hf0 := (hBw.cell (p := ⟨W, 1, none⟩) (block_lt_of_cell HF.out)).trans HF.out
      have HLS := Lib.hid fun nq => less_wl (w := wr.drewN nq) (bx := bx) (W := W) y x hc0 hf0
      have HXR := Lib.hid (show ∀ w', (∃ q, w' = wr.drewN q) → w'.heap[w.heap.size]? = some (.cells #[.int .i64 x.d, .int .i64 x.q, .slice x.a x.n x.c, .int .i64 x.t] 139 (0, 0)) from fun w' ⟨_, e⟩ => by
        rw [e]; exact (HB.out.block w.heap.size (by have := HZ.out; omega)).trans HX1.out)
      clear hBw hc0 hf0
      go_wp2_with fail
      refine region_quiet_tail 6 (by rfl) (by decide +kernel) ?_
      simp only [List.take_succ_cons, List.take_zero, List.drop_succ_cons, List.drop_zero]
      repeat (first | ((refine quiet_load_row (some 29) rfl rfl 139 (.tmp 4) rfl w.heap.size rfl 139 #[.int .i64 x.d, .int .i64 x.q, .slice x.a x.n x.c, .int .i64 x.t] (0, 0) _ HXR.out Try.underlying139 rfl info139 ?_); simp only [Act.put, List.setIfInBounds_toArray, List.set_cons_succ, List.set_cons_zero]) | go_big_quiet_step (fail))
      refine wpQuiet_nil ?_
      intro _ hw'
      obtain ⟨nq, rfl⟩ := hw'
      go_wp2_with fail
      refine (HLS.out nq).mono ?_
      rintro e w3 ⟨rfl, hB3⟩
      have HB3 := Lib.hid (HB.out.trans ((below_drewN (Below.refl _ _) nq).trans (hB3.mono (by simp)) |>.mono HB.out.size))
      clear hB3 HLS HXR
      by_cases hle : y.le x
      · rw [if_pos hle]
        have HI2 := Lib.hid (show (∀ y, 0 < m + 1 → l[m + 1 - 1]? = some y → y.le x) ∧ (∀ y, l[q]? = some y → ¬ y.le x) from ⟨fun z _ hz => by
          rw [Nat.add_sub_cancel, hy] at hz
          exact Option.some.inj hz ▸ hle, HI.out.2⟩)
        clear hle hy
        go_wp2_with fail
        go_roundw
        case rel => exact ⟨m + 1, q, by omega, hqn, by go_num, rfl, HI2, HB3⟩
        case measure => simp [intOf]; omega
      · rw [if_neg hle]
        have HI2 := Lib.hid (show (∀ y, 0 < p → l[p - 1]? = some y → y.le x) ∧ (∀ y, l[m]? = some y → ¬ y.le x) from ⟨HI.out.1, fun z hz => by
          rw [hy] at hz
          exact Option.some.inj hz ▸ hle⟩)
        clear hle hy
        go_wp2_with fail
        go_roundw
        case rel => exact ⟨p, m, hm2, by omega, rfl, by go_num, HI2, HB3⟩
        case measure => simp [intOf]; omega
    · obtain rfl : p = q := by omega
      have hBw : Below w.heap.size w wr := HB1.out.trans (HB.out.mono (by have := HZ.out; omega))
      by_cases hpn : p < n
      · have dp : decide ((p : Int) < (n : Int)) = true := by simp; omega
        obtain ⟨b, off, y, rfl, hy, y0, y1, y2, y3⟩ := (H.out.below hBw).four (k := p) hpn
        have hc0 := (hBw.cell (p := ⟨bx, 0, none⟩) (block_lt_of_cell HC.out)).trans HC.out
        have hf0 := (hBw.cell (p := ⟨W, 1, none⟩) (block_lt_of_cell HF.out)).trans HF.out
        obtain ⟨r, hr0, hr⟩ : ∃ r : Int, Hid (r = if y.le x then -1 else 1) ∧ (r = -1 ∨ r = 1) := by
          by_cases e : y.le x
          · exact ⟨-1, by show (-1 : Int) = _; rw [if_pos e], .inl rfl⟩
          · exact ⟨1, by show (1 : Int) = _; rw [if_neg e], .inr rfl⟩
        have HLS := Lib.hid fun z : Lies wr => (show Calls Try.prog 108 #[landV y.d y.q (.slice y.a y.n y.c) y.t, landV x.d x.q (.slice x.a x.n x.c) x.t, .pointer (some ⟨bx, 0, none⟩)] z.1 fun e w' => e = .returned (.int .i64 r) ∧ Below z.1.heap.size z.1 w' from by
          rw [hr0.out]; exact less_wl (w := z.1) (bx := bx) (W := W) y x (lies_cell hc0 z) (lies_cell hf0 z))
        unfold landV at HLS
        have HXR := Lib.hid (show ∀ w', (∃ z : Lies wr, w' = z.1) → w'.heap[w.heap.size]? = some (.cells #[.int .i64 x.d, .int .i64 x.q, .slice x.a x.n x.c, .int .i64 x.t] 139 (0, 0)) from fun w' ⟨z, e⟩ => by
          have hq := (HB.out.block w.heap.size (by have := HZ.out; omega)).trans HX1.out
          rw [e]; exact (z.2.block w.heap.size (lt_of_block hq)).trans hq)
        have L0 := lies_cell y0
        have L1 := lies_cell y1
        have L2 := lies_cell y2
        have L3 := lies_cell y3
        have HBW := Lib.hid hBw
        have r1 : (r == 0) = false := by rcases hr with rfl | rfl <;> rfl
        have r2 : decide (r = 0) = false := by rcases hr with rfl | rfl <;> rfl
        clear hc0 hf0 hy hBw hr hr0 y0 y1 y2 y3
        go_wp2_with fail
        refine region_lies (by rfl) (by decide +kernel) ?_
        repeat (first | ((refine quiet_load_row (some 45) rfl rfl 139 (.tmp 4) rfl w.heap.size rfl 139 #[.int .i64 x.d, .int .i64 x.q, .slice x.a x.n x.c, .int .i64 x.t] (0, 0) _ HXR.out Try.underlying139 rfl info139 ?_); simp only [Act.put, List.setIfInBounds_toArray, List.set_cons_succ, List.set_cons_zero]) | go_big_quiet_step ((go_at_call 108; exact Lies.call (HLS.out _))))
        refine wpQuiet_nil ?_
        intro _ hw'
        obtain ⟨z, rfl⟩ := hw'
        have HF2 := Lib.hid (HBW.out.trans (z.2.mono HBW.out.size))
        clear HLS HXR L0 L1 L2 L3
        go_wp2_with fail
        go_ret2
        exact ⟨⟨p, rfl, hqn, HI.out⟩, HF2.out⟩
      · have dp : decide ((p : Int) < (n : Int)) = false := by simp; omega
        have HBW := Lib.hid hBw
        clear hBw
        go_wp2_with fail
        refine region_lies (by rfl) (by decide +kernel) ?_
        repeat (go_big_quiet_step (fail))
        refine wpQuiet_nil ?_
        intro _ hw'
        obtain ⟨z, rfl⟩ := hw'
        have HF2 := Lib.hid (HBW.out.trans (z.2.mono HBW.out.size))
        go_wp2_with fail
        go_ret2
        exact ⟨⟨p, rfl, hqn, HI.out⟩, HF2.out⟩
end Go.Proofs.Ytfojhmobnedekaa
