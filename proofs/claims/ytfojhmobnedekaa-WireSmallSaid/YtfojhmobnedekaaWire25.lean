/- The walk of the law WireSmall (closed): lists of deeds that the law builds; wires that are none. No condition. -/
import Derived.Deep.CutBlock
import Derived.Test.YtfojhmobnedekaaWire24
namespace Go.Proofs.Ytfojhmobnedekaa
open Go.RowKit

theorem info59 : (Try.prog.info? 59).map (fun i => (i.zero, i.size, i.bytes)) = some (some (.agg #[.int .i64 0, .int .i64 0, .int .i64 0, .int .i64 0, .int .i64 0, .int .i64 0, .int .i64 0, .slice none 0 0]), 8, 80) := by kernel_rfl
/-- The cells of deeds. -/
def Dd.dc (x : Dd) : List Value := [.int .i64 x.wh, .int .i64 x.tt, .int .i64 x.nw, .int .i64 x.k, .int .i64 x.b, .int .i64 x.al, .int .i64 x.pl, .slice x.a x.n x.c]
def dcs (l : List Dd) : List Value := l.flatMap Dd.dc
theorem dcs_append (a b : List Dd) : dcs (a ++ b) = dcs a ++ dcs b := by simp [dcs]
theorem dcs_get : ∀ (l : List Dd) (k j : Nat) (h : k < l.length), j < 8 → (dcs l)[k * 8 + j]? = (l[k]).dc[j]?
  | x :: l, 0, j, _, hj => by
    show ([_, _, _, _, _, _, _, _] ++ dcs l)[0 * 8 + j]? = _
    rw [List.getElem?_append_left (by simp; omega)]; simp [Dd.dc]
  | x :: l, k + 1, j, h, hj => by
    have h1 : (k + 1) * 8 + j = 8 + (k * 8 + j) := by omega
    show ([_, _, _, _, _, _, _, _] ++ dcs l)[(k + 1) * 8 + j]? = _
    rw [h1, List.getElem?_append_right (by simp)]
    have := dcs_get l k j (by simpa using h) hj
    simpa using this
theorem dc_one (x : Dd) : ∀ u ∈ x.dc, u.oneCell' = true := by
  intro u hu
  simp [Dd.dc] at hu
  rcases hu with rfl | rfl | rfl | rfl | rfl | rfl | rfl | rfl <;> rfl
theorem dcs_one (l : List Dd) : ∀ u ∈ dcs l, u.oneCell' = true := by
  intro u hu
  obtain ⟨x, _, hx⟩ := List.mem_flatMap.1 hu
  exact dc_one x u hx
/-- Deeds that the law has built. -/
structure Fil (B : Nat) (v : Value) (L : List Dd) (w : World) : Prop where
  row : w.ownsRow B 59 8 v L.length (dcs L)
  own : ∀ x ∈ L, w.ownsRow B 5 1 (.slice x.a x.n x.c) x.n (bs x.l)
  sm : ∀ x ∈ L, Small x.l ∧ x.n ≤ 10
theorem Fil.below {B : Nat} {v : Value} {L : List Dd} {w w' : World} (h : Fil B v L w) (hB : Below w.heap.size w w') : Fil B v L w' :=
  ⟨own_frame3 h.row fun g _ hg => hB.block g hg, fun x hx => own_frame3 (h.own x hx) fun g _ hg => hB.block g hg, h.sm⟩
theorem Fil.rd {B n c : Nat} {a : Option Addr} {L : List Dd} {w : World} (h : Fil B (.slice a n c) L w) (hn : L.length ≤ 1000) : RD w a n c L ∧ L.length = n := by
  have hrow := h.row
  rcases hrow.2 with ⟨e, h0⟩ | ⟨g, cap, cur, e, _, hh, hnc, _⟩
  · injection e with e1 e2 e3
    subst e1; subst e2; subst e3
    have hL : L = [] := List.eq_nil_of_length_eq_zero h0
    subst hL
    exact ⟨⟨rfl, Nat.le_refl _, by omega, fun _ => rfl, fun k x hk => by simp at hk⟩, rfl⟩
  · injection e with e1 e2 e3
    subst e1; subst e2; subst e3
    refine ⟨⟨rfl, hnc, by omega, (fun e => by cases e), fun k x hk => ?_⟩, rfl⟩
    obtain ⟨hk1, rfl⟩ := List.getElem?_eq_some_iff.1 hk
    have hc := fun q (hq : q < 8) u (hu : (L[k]).dc[q]? = some u) => hrow.cells (g := g) rfl (k * 8 + q) u ((dcs_get L k q hk1 hq).trans hu)
    have e0 := hc 0 (by omega) _ rfl
    have e1 := hc 1 (by omega) _ rfl
    have e2 := hc 2 (by omega) _ rfl
    have e3 := hc 3 (by omega) _ rfl
    have e4 := hc 4 (by omega) _ rfl
    have e5 := hc 5 (by omega) _ rfl
    have e6 := hc 6 (by omega) _ rfl
    have e7 := hc 7 (by omega) _ rfl
    rw [Addr.add_lit] at e0 e1 e2 e3 e4 e5 e6 e7
    have hx : L[k] ∈ L := List.getElem_mem hk1
    refine ⟨g, 0, rfl, by simpa using e0, by simpa using e1, by simpa using e2, by simpa using e3, by simpa using e4, by simpa using e5, by simpa using e6, by simpa using e7, own_rb2 (h.own _ hx) (h.sm _ hx).1 (by have := (h.sm _ hx).2; omega)⟩
/-- Deeds are put behind. -/
theorem Fil.add {B : Nat} {v v' : Value} {L M : List Dd} {w w' : World} (h : Fil B v L w) (ho : w'.ownsRow B 59 8 v' (L.length + M.length) (dcs L ++ dcs M)) (hg : w.grownBy w' v.ownBlock) (hM : ∀ x ∈ M, w.ownsRow B 5 1 (.slice x.a x.n x.c) x.n (bs x.l)) (hs : ∀ x ∈ M, Small x.l ∧ x.n ≤ 10) : Fil B v' (L ++ M) w' :=
  ⟨by rw [List.length_append, dcs_append]; exact ho, fun x hx => by
    rcases List.mem_append.1 hx with hx | hx
    · exact own_grown h.row hg (h.own x hx) (by decide)
    · exact own_grown h.row hg (hM x hx) (by decide), fun x hx => by
    rcases List.mem_append.1 hx with hx | hx
    · exact h.sm x hx
    · exact hs x hx⟩

/-- Wires that are none. -/
theorem made_nil (w : World) : Calls Try.prog 71 #[.pointer none] w fun e w' => e = .returned (.bool false) ∧ w = w' := by
  go_enter Try.func71, Try.ntmps71
  go_wp2_with fail
  go_ret
  exact ⟨rfl, rfl⟩
theorem made_zero {w : World} {g : Nat} (h : w.cell? ⟨g, 1, none⟩ = some Value.nilFunc) : Calls Try.prog 71 #[.pointer (some ⟨g, 0, none⟩)] w fun e w' => e = .returned (.bool false) ∧ w = w' := by
  have hne : ∀ w, (binOp BinOp.neq 87 Value.nilFunc Value.nilFunc).run Try.prog w = .ok (.bool false) w := fun _ => by kernel_rfl
  go_enter Try.func71, Try.ntmps71
  go_wp2_with fail
  go_ret
  exact ⟨rfl, rfl⟩
/-- A wire that is none. -/
def NoW (p : Option Addr) (w : World) : Prop := p = none ∨ ∃ g, p = some ⟨g, 0, none⟩ ∧ w.cell? ⟨g, 1, none⟩ = some Value.nilFunc
theorem made_no {p : Option Addr} {w : World} (h : NoW p w) : Calls Try.prog 71 #[.pointer p] w fun e w' => e = .returned (.bool false) ∧ w = w' := by
  rcases h with rfl | ⟨g, rfl, h⟩
  · exact made_nil w
  · exact made_zero h
theorem NoW.below {p : Option Addr} {w w' : World} (h : NoW p w) (hB : Below w.heap.size w w') : NoW p w' := by
  rcases h with rfl | ⟨g, rfl, h⟩
  · exact .inl rfl
  · exact .inr ⟨g, rfl, (hB.cell (block_lt_of_cell h)).trans h⟩
theorem next_no {p : Option Addr} {w : World} (h : NoW p w) : Calls Try.prog 41 #[.pointer p] w fun e w' => e = .returned (.tuple #[.int .i64 0, .bool false]) ∧ w = w' := by
  have H := Lib.hid (made_no h)
  clear h
  go_enter Try.func41, Try.ntmps41
  go_wp2_with fail
  refine H.out.mono ?_
  rintro e w1 ⟨rfl, rfl⟩
  go_wp2_with fail
  go_ret2
  exact ⟨rfl, rfl⟩
theorem sent_no {p : Option Addr} {w : World} (h : NoW p w) : Calls Try.prog 36 #[.pointer p] w fun e w' => e = .returned (.tuple #[.int .i64 0, .int .i64 0]) ∧ Below w.heap.size w w' := by
  have H := Lib.hid (made_no h)
  clear h
  go_enter Try.func36, Try.ntmps36
  go_wp2_with fail
  refine H.out.mono ?_
  rintro e w1 ⟨rfl, rfl⟩
  go_wp2_with fail
  go_ret2
  exact ⟨rfl, Below.refl _ _⟩
theorem open_no {p : Option Addr} {w : World} (h : NoW p w) : Calls Try.prog 37 #[.pointer p] w fun e w' => e = .returned (.int .i64 0) ∧ w = w' := by
  have H := Lib.hid (made_no h)
  clear h
  go_enter Try.func37, Try.ntmps37
  go_wp2_with fail
  refine H.out.mono ?_
  rintro e w1 ⟨rfl, rfl⟩
  go_wp2_with fail
  go_ret
  exact ⟨rfl, rfl⟩
set_option maxRecDepth 100000 in
theorem send_no {p : Option Addr} {w : World} (h : NoW p w) (t k b al pl now : Int) (a : Option Addr) (n c : Nat) : Calls Try.prog 35 #[.pointer p, .int .i64 t, .agg #[.int .i64 k, .int .i64 b, .int .i64 al, .int .i64 pl], .slice a n c, .int .i64 now] w fun e w' => e = .returned (.int .i64 1) ∧ Below w.heap.size w w' := by
  have hb0 : Below w.heap.size w (w.alloc (.cells #[.int .i64 k, .int .i64 b, .int .i64 al, .int .i64 pl] 24)) := (Below.refl _ _).alloc (Nat.le_refl _) _
  have H := Lib.hid (made_no (h.below hb0))
  have HB := Lib.hid hb0
  clear h hb0
  go_enter Try.func35, Try.ntmps35
  go_wp2_with fail
  refine H.out.mono ?_
  rintro e w1 ⟨rfl, rfl⟩
  go_wp2_with fail
  go_ret
  exact ⟨rfl, HB.out⟩
attribute [local go_sem] Oper.semAt_some
set_option maxHeartbeats 1600000 in
set_option maxRecDepth 100000 in
theorem due_no {p : Option Addr} {w : World} (h : NoW p w) (now : Int) : Calls Try.prog 38 #[.pointer p, .int .i64 now] w fun e w' => e = .returned (.slice none 0 0) ∧ Below w.heap.size w w' := by
  have hb0 : Below w.heap.size w ((w.alloc (.cells #[.int .i64 now] 3)).alloc (.cells #[.slice none 0 0] 65)) := ((Below.refl _ _).alloc (Nat.le_refl _) _).alloc (by simp) _
  have H := Lib.hid (made_no (h.below hb0))
  have HB := Lib.hid hb0
  clear h hb0
  suffices h5 : CallsIn Fence.wide 5 Try.prog 38 #[.pointer p, .int .i64 now] w fun e w' => e = .returned (.slice none 0 0) ∧ Below w.heap.size w w' from callsIn_wide.1 h5
  refine callsIn_of_wp_marks Try.func38 rfl trivial ?_ rfl
  simp only [Try.ntmps38, List.size_toArray, List.length_cons, List.length_nil, Nat.reduceAdd, Nat.reduceSub, Array.replicate_succ, Array.replicate_zero, List.push_toArray, List.append_toArray, List.nil_append, List.cons_append]
  refine wpIn_wide.2 ?_
  go_wp2_with fail
  refine H.out.mono ?_
  rintro e w1 ⟨rfl, rfl⟩
  go_wp2_with fail
  have hbox : ((w.alloc (.cells #[.int .i64 now] 3)).alloc (.cells #[.slice none 0 0] 65)).cell? ⟨w.heap.size + 1, 0, none⟩ = some (.slice none 0 0) := by
    have := heap_alloc_new (w.alloc (.cells #[.int .i64 now] 3)) (.cells #[.slice none 0 0] 65)
    rw [World.size_alloc] at this
    exact (cell_of_block this).trans rfl
  refine ⟨.slice none 0 0, ?_, ?_⟩
  · simp [results, Try.f38, go_sem, hbox]
  · exact ⟨rfl, HB.out⟩

theorem bs_one' (j : Nat) : (bs [10 + j]).toArray = #[Value.int .u8 (10 + (j : Int))] := by simp [bs]
/-- Behind the making of a deed with one byte, and of the row of it. -/
theorem Fil.byte {B j : Nat} {v : Value} {L : List Dd} {w : World} (h : Fil B v L w) (hB : B ≤ w.heap.size) (x : Dd) :
    Fil B v L ((w.alloc (.cells #[.int .u8 (10 + (j : Int))] 5)).alloc (.cells x.dc.toArray 59)) ∧ ((w.alloc (.cells #[.int .u8 (10 + (j : Int))] 5)).alloc (.cells x.dc.toArray 59)).ownsRow B 5 1 (.slice (some ⟨w.heap.size, 0, none⟩) 1 1) 1 (bs [10 + j]) ∧ (∀ q u, x.dc[q]? = some u → ((w.alloc (.cells #[.int .u8 (10 + (j : Int))] 5)).alloc (.cells x.dc.toArray 59)).cell? ((⟨w.heap.size + 1, 0, none⟩ : Addr).add q) = some u) ∧ B ≤ ((w.alloc (.cells #[.int .u8 (10 + (j : Int))] 5)).alloc (.cells x.dc.toArray 59)).heap.size := by
  have h1 : Below w.heap.size w (w.alloc (.cells #[.int .u8 (10 + (j : Int))] 5)) := (Below.refl _ _).alloc (Nat.le_refl _) _
  have h2 : Below w.heap.size w ((w.alloc (.cells #[.int .u8 (10 + (j : Int))] 5)).alloc (.cells x.dc.toArray 59)) := h1.alloc (by simp) _
  refine ⟨h.below h2, own_allocS ?_ _, ?_, by simp; omega⟩
  · rw [← bs_one']
    exact row_new w rfl hB (by omega)
  · have := cells_at_block (heap_alloc_new (w.alloc (.cells #[.int .u8 (10 + (j : Int))] 5)) (.cells x.dc.toArray 59))
    rw [World.size_alloc] at this
    exact this
/-- Behind the making of a row of deeds without bytes. -/
theorem Fil.none {B : Nat} {v : Value} {L : List Dd} {w : World} (h : Fil B v L w) (hB : B ≤ w.heap.size) (M : List Dd) :
    Fil B v L (w.alloc (.cells (dcs M).toArray 59)) ∧ (∀ q u, (dcs M)[q]? = some u → (w.alloc (.cells (dcs M).toArray 59)).cell? ((⟨w.heap.size, 0, .none⟩ : Addr).add q) = some u) ∧ B ≤ (w.alloc (.cells (dcs M).toArray 59)).heap.size :=
  ⟨h.below ((Below.refl _ _).alloc (Nat.le_refl _) _), cells_at_block (heap_alloc_new w _), by simp; omega⟩
/-- A fate in a box, beside the deeds. -/
def P4 (wo : World) (bx : Nat) (v : Value) (L : List Dd) (w : World) : Prop := (∃ f0 f1 f2 f3 : Int, w.heap[bx]? = some (.cells #[.int .i64 f0, .int .i64 f1, .int .i64 f2, .int .i64 f3] 24 (0, 0))) ∧ Fil wo.heap.size v L w ∧ Below wo.heap.size wo w ∧ wo.heap.size ≤ bx
theorem P4.set {wo : World} {bx i : Nat} {v : Value} {L : List Dd} {w : World} (h : P4 wo bx v L w) (hi : i < 4) (z : Int) : P4 wo bx v L (w.setCell ⟨bx, i, none⟩ (.int .i64 z)) := by
  obtain ⟨⟨f0, f1, f2, f3, hb⟩, hF, hB, hx⟩ := h
  have hk : ∀ g, g ≠ bx → (w.setCell ⟨bx, i, none⟩ (.int .i64 z)).heap[g]? = w.heap[g]? := fun g hg => Below.heap_setCell w ⟨bx, i, none⟩ _ g hg
  refine ⟨?_, ⟨own_frame3 hF.row fun g e _ => hk g (fun e2 => own_ne_type hF.row hb (by decide) (by rw [e, e2])), fun x hx => own_frame3 (hF.own x hx) fun g e _ => hk g (fun e2 => own_ne_type (hF.own x hx) hb (by decide) (by rw [e, e2])), hF.sm⟩, hB.setCell (p := ⟨bx, i, none⟩) hx _, hx⟩
  have h1 := setCell_of_block (i := i) (.int .i64 z) hb
  rcases (show i = 0 ∨ i = 1 ∨ i = 2 ∨ i = 3 by omega) with rfl | rfl | rfl | rfl
  · exact ⟨z, f1, f2, f3, h1⟩
  · exact ⟨f0, z, f2, f3, h1⟩
  · exact ⟨f0, f1, z, f3, h1⟩
  · exact ⟨f0, f1, f2, z, h1⟩

set_option maxHeartbeats 4000000 in
set_option maxRecDepth 100000 in
theorem small_walk (w : World) : Calls Try.prog 11 #[] w fun e w' => e = .returned (.bool true) ∧ Below w.heap.size w w' := by
  go_enter Try.func11, Try.ntmps11
  go_wp2_with fail
  go_loopw [1] (fun i wr => ∃ n : Nat, n ≤ 1300 ∧ i = .int .i64 n ∧ Hid (Below w.heap.size w wr)) (fun i _ => 1300 - (intOf i).toNat)
  case atStart => exact ⟨0, by omega, rfl, Below.refl _ _⟩
  case round =>
    obtain ⟨n, hn, rfl, HB⟩ := hrel
    by_cases hlt : n < 1300
    · have d0 : decide ((n : Int) < 1300) = true := decide_eq_true (by omega)
      go_wp2_with fail
      obtain ⟨wo, hwo⟩ : ∃ wo : World, wo = wr := ⟨_, rfl⟩
      have HB0 : Hid (Below w.heap.size w wo) := by rw [hwo]; exact HB
      have hnil : Fil wo.heap.size (.slice none 0 0) [] wr := ⟨World.ownsRow_nil _ _ _ _, fun x hx => absurd hx (by simp), fun x hx => absurd hx (by simp)⟩
      have HF0 : Hid (Fil wo.heap.size (.slice none 0 0) [] wr ∧ Below wo.heap.size wo wr) := ⟨hnil, by rw [hwo]; exact Below.refl _ _⟩
      clear hnil HB hwo
      go_loopw [2, 3, 4] (fun l i k wr => ∃ j m : Nat, ∃ a c, ∃ L : List Dd, j ≤ 4 ∧ m ≤ 1300 ∧ L.length ≤ 2 * j ∧ l = .slice a L.length c ∧ i = .int .i64 j ∧ k = .int .i64 m ∧ Hid (Fil wo.heap.size (.slice a L.length c) L wr ∧ Below wo.heap.size wo wr)) (fun _ i _ _ => 4 - (intOf i).toNat)
      case atStart => exact ⟨0, n, none, 0, [], by omega, hn, by simp, rfl, rfl, rfl, HF0⟩
      case round =>
        obtain ⟨j, m, a, c, L, hj, hm, hL, rfl, rfl, rfl, HI⟩ := hrel
        by_cases hlt4 : j < 4
        · have d4 : decide ((j : Int) < 4) = true := decide_eq_true (by omega)
          have hB5 : Below wr.heap.size wr (wr.alloc (.cells #[.int .i64 0, .int .i64 ((m : Int) % 3), .int .i64 0, .int .i64 ((m : Int) / 3 % 3 - 1)] 24)) := (Below.refl _ _).alloc (Nat.le_refl _) _
          have hb5 := heap_alloc_new wr (.cells #[.int .i64 0, .int .i64 ((m : Int) % 3), .int .i64 0, .int .i64 ((m : Int) / 3 % 3 - 1)] 24)
          go_upto_region 9 with fail
          have hF5 : Fil wo.heap.size (.slice a L.length c) L (wr.alloc (.cells #[.int .i64 0, .int .i64 ((m : Int) % 3), .int .i64 0, .int .i64 ((m : Int) / 3 % 3 - 1)] 24)) ∧ Below wo.heap.size wo (wr.alloc (.cells #[.int .i64 0, .int .i64 ((m : Int) % 3), .int .i64 0, .int .i64 ((m : Int) / 3 % 3 - 1)] 24)) := ⟨HI.out.1.below hB5, HI.out.2.trans (hB5.mono HI.out.2.size)⟩
          have hs5 := HI.out.2.size
          generalize wr.alloc (.cells #[.int .i64 0, .int .i64 ((m : Int) % 3), .int .i64 0, .int .i64 ((m : Int) / 3 % 3 - 1)] 24) = W5 at *
          have HP5 : Hid (P4 wo wr.heap.size (.slice a L.length c) L W5) := ⟨⟨_, _, _, _, hb5⟩, hF5.1, hF5.2, hs5⟩
          have q0 : W5.cell? ⟨wr.heap.size, 0, none⟩ = some (.int .i64 0) := (cell_of_block hb5).trans rfl
          have q1 : W5.cell? ⟨wr.heap.size, 1, none⟩ = some (.int .i64 ((m : Int) % 3)) := (cell_of_block hb5).trans rfl
          have q2 : W5.cell? ⟨wr.heap.size, 2, none⟩ = some (.int .i64 0) := (cell_of_block hb5).trans rfl
          have q3 : W5.cell? ⟨wr.heap.size, 3, none⟩ = some (.int .i64 ((m : Int) / 3 % 3 - 1)) := (cell_of_block hb5).trans rfl
          have z0 : W5.frozen? ⟨wr.heap.size, 0, none⟩ = false := frozen_of_block hb5
          have z1 : W5.frozen? ⟨wr.heap.size, 1, none⟩ = false := frozen_of_block hb5
          have z2 : W5.frozen? ⟨wr.heap.size, 2, none⟩ = false := frozen_of_block hb5
          have z3 : W5.frozen? ⟨wr.heap.size, 3, none⟩ = false := frozen_of_block hb5
          clear hb5 hB5 hF5 HI
          go_upto_block 4 with (fail)
          go_cut [] from 18 to 80 (fun wx => Hid (P4 wo wr.heap.size (.slice a L.length c) L wx))
          case first =>
            generalize ((n : Int) / 9 + (j : Int)) % 7 = s at *
            by_cases h1 : s = 1
            · subst h1
              go_wp2_with fail
              go_meet
              exact (((HP5.out.set (i := 0) (by omega) _).set (i := 1) (by omega) _).set (i := 2) (by omega) _).set (i := 3) (by omega) _
            · have d1 : (s == 1) = false := by simpa using h1
              by_cases h2 : s = 2
              · subst h2
                go_wp2_with fail
                go_meet
                exact HP5.out.set (i := 0) (by omega) _
              · have d2 : (s == 2) = false := by simpa using h2
                by_cases h3 : s = 3
                · subst h3
                  go_wp2_with fail
                  go_meet
                  exact (((HP5.out.set (i := 0) (by omega) _).set (i := 1) (by omega) _).set (i := 2) (by omega) _).set (i := 3) (by omega) _
                · have d3 : (s == 3) = false := by simpa using h3
                  clear h1 h2 h3
                  go_wp2_with fail
                  go_meet
                  exact HP5.out
          case rest =>
            clear q0 q1 q2 q3 z0 z1 z2 z3 HP5
            obtain ⟨⟨f0, f1, f2, f3, hb⟩, hF, hBl, hx⟩ := hcut
            have q0 : wc.cell? ⟨wr.heap.size, 0, none⟩ = some (.int .i64 f0) := (cell_of_block hb).trans rfl
            have q1 : wc.cell? ⟨wr.heap.size, 1, none⟩ = some (.int .i64 f1) := (cell_of_block hb).trans rfl
            have q2 : wc.cell? ⟨wr.heap.size, 2, none⟩ = some (.int .i64 f2) := (cell_of_block hb).trans rfl
            have q3 : wc.cell? ⟨wr.heap.size, 3, none⟩ = some (.int .i64 f3) := (cell_of_block hb).trans rfl
            have HF := Lib.hid hF
            have HBl := Lib.hid hBl
            clear hb hF hBl hx
            obtain ⟨i59, hi, hz0, hz1, hz2⟩ := info_parts info59
            obtain ⟨x, hx⟩ : ∃ x : Dd, x = ⟨0, 1 + ((n : Int) + (j : Int)) % 2, (j : Int) / 2, f0, f1, f2, f3, some ⟨wc.heap.size, 0, none⟩, 1, 1, [10 + j]⟩ := ⟨_, rfl⟩
            have hFB := HF.out.byte (j := j) HBl.out.size x
            rw [show x.dc.toArray = #[.int .i64 0, .int .i64 (1 + ((n : Int) + (j : Int)) % 2), .int .i64 ((j : Int) / 2), .int .i64 f0, .int .i64 f1, .int .i64 f2, .int .i64 f3, .slice (some ⟨wc.heap.size, 0, none⟩) 1 1] by rw [hx]; rfl] at hFB
            have HFB := Lib.hid hFB
            have HX := Lib.hid hx
            clear hFB hx
            go_wp2_with (at_builtin; refine wpList_append_ownS _ rfl (.tmp 55) (.tmp 69) 53 rfl wo.heap.size 59 i59 _ 8 80 Try.underlying53 hi hz0 hz1 hz2 rfl (by decide) (.slice a L.length c) L.length (dcs L) rfl HFB.out.1.row ⟨wc.heap.size + 1, 0, none⟩ 1 1 x.dc rfl rfl HFB.out.2.2.1 (dc_one x) (by unfold maxLen; omega) (by omega) HFB.out.2.2.2 ?_)
            intro v6 w6 ho6 hg6 hn6
            obtain ⟨a6, c6, rfl⟩ := own39_slice ho6
            have hxl : x.l = [10 + j] ∧ x.n = 1 ∧ x.a = some ⟨wc.heap.size, 0, none⟩ ∧ x.c = 1 := by rw [HX.out]; exact ⟨rfl, rfl, rfl, rfl⟩
            have hF6 : Fil wo.heap.size (.slice a6 (L.length + 1) c6) (L ++ [x]) w6 := HFB.out.1.add (M := [x]) (by simpa [dcs] using ho6) hg6 (fun y hy => by
              rw [List.mem_singleton.1 hy, hxl.1, hxl.2.1, hxl.2.2.1, hxl.2.2.2]; exact HFB.out.2.1) (fun y hy => by
              rw [List.mem_singleton.1 hy, hxl.1, hxl.2.1]
              exact ⟨Small.of_mem fun q hq => by rw [List.mem_singleton.1 hq]; omega, by omega⟩)
            have hB6 : Below wo.heap.size wo w6 := ((HBl.out.alloc HBl.out.size _).alloc (by have := HBl.out.size; simp; omega) _).grown hg6 HFB.out.2.2.2 (fun q e => (own_lt3 HFB.out.1.row e).1)
            have HF6 := Lib.hid hF6
            have HB6 := Lib.hid hB6
            have hl6 : (L ++ [x]).length = L.length + 1 := by simp
            clear hF6 hB6 hxl ho6 hg6 hn6 q0 q1 q2 q3 HFB HX HF HBl
            have hmk : ((m / 5 : Nat) : Int) = (m : Int) / 5 := by omega
            by_cases hm3 : (n : Int) % 3 = 0
            · have d3 : (((n : Int) % 3) == 0) = true := by simpa using hm3
              have hFN := HF6.out.none HB6.out.size [⟨3, 0, (j : Int), 0, 0, 0, 0, none, 0, 0, []⟩]
              rw [show (dcs [⟨3, 0, (j : Int), 0, 0, 0, 0, none, 0, 0, []⟩]).toArray = #[.int .i64 3, .int .i64 0, .int .i64 (j : Int), .int .i64 0, .int .i64 0, .int .i64 0, .int .i64 0, .slice none 0 0] from rfl] at hFN
              have HFN := Lib.hid hFN
              have hrow := hFN.1.row
              rw [hl6] at hrow
              have HROW := Lib.hid hrow
              clear hFN hrow
              go_wp2_with (at_builtin; refine wpList_append_ownS _ rfl (.tmp 76) (.tmp 79) 53 rfl wo.heap.size 59 i59 _ 8 80 Try.underlying53 hi hz0 hz1 hz2 rfl (by decide) (.slice a6 (L.length + 1) c6) (L.length + 1) _ rfl HROW.out ⟨w6.heap.size, 0, none⟩ 1 1 (dcs [⟨3, 0, (j : Int), 0, 0, 0, 0, none, 0, 0, []⟩]) rfl rfl HFN.out.2.1 (dcs_one _) (by unfold maxLen; omega) (by omega) HFN.out.2.2 ?_)
              intro v7 w7 ho7 hg7 hn7
              obtain ⟨a7, c7, rfl⟩ := own39_slice ho7
              have hF7 : Fil wo.heap.size (.slice a7 (L.length + 1 + 1) c7) (L ++ [x] ++ [⟨3, 0, (j : Int), 0, 0, 0, 0, none, 0, 0, []⟩]) w7 := HFN.out.1.add (by rw [hl6]; exact ho7) hg7 (fun y hy => by
                rw [List.mem_singleton.1 hy]; exact World.ownsRow_nil _ _ _ _) (fun y hy => by
                rw [List.mem_singleton.1 hy]; exact ⟨Small.nil, by show (0 : Nat) ≤ 10; omega⟩)
              have hB7 : Below wo.heap.size wo w7 := (HB6.out.alloc HB6.out.size _).grown hg7 HFN.out.2.2 (fun q e => (own_lt3 HROW.out e).1)
              have HF7 := Lib.hid (And.intro hF7 hB7)
              clear hF7 hB7 ho7 hg7 hn7 HFN HROW HF6 HB6
              go_wp2_with fail
              go_roundw
              case rel => exact ⟨j + 1, m / 5, a7, c7, L ++ [x] ++ [⟨3, 0, (j : Int), 0, 0, 0, 0, none, 0, 0, []⟩], by omega, by omega, by simp; omega, by simp, by go_num, by rw [hmk], by simpa using HF7⟩
              case measure => simp [intOf]; omega
            · have d3 : (((n : Int) % 3) == 0) = false := by simpa using hm3
              have HF7 := Lib.hid (And.intro HF6.out HB6.out)
              clear HF6 HB6 hm3
              go_wp2_with fail
              go_roundw
              case rel => exact ⟨j + 1, m / 5, a6, c6, L ++ [x], by omega, by omega, by simp; omega, by simp, by go_num, by rw [hmk], by simpa using HF7⟩
              case measure => simp [intOf]; omega
        · obtain rfl : j = 4 := by omega
          simp only [show ((4 : Nat) : Int) = 4 from rfl]
          obtain ⟨i59, hi, hz0, hz1, hz2⟩ := info_parts info59
          obtain ⟨M, hM⟩ : ∃ M : List Dd, M = [⟨3, 0, (n : Int) % 6 - 1, 0, 0, 0, 0, none, 0, 0, []⟩, ⟨0, (n : Int) % 5 - 1, (n : Int) % 7 - 1, 0, (n : Int) % 4 - 1, 0, 0, none, 0, 0, []⟩, ⟨3, 0, 9, 0, 0, 0, 0, none, 0, 0, []⟩] := ⟨_, rfl⟩
          have hFN := HI.out.1.none HI.out.2.size M
          rw [show (dcs M).toArray = #[.int .i64 3, .int .i64 0, .int .i64 ((n : Int) % 6 - 1), .int .i64 0, .int .i64 0, .int .i64 0, .int .i64 0, .slice none 0 0, .int .i64 0, .int .i64 ((n : Int) % 5 - 1), .int .i64 ((n : Int) % 7 - 1), .int .i64 0, .int .i64 ((n : Int) % 4 - 1), .int .i64 0, .int .i64 0, .slice none 0 0, .int .i64 3, .int .i64 0, .int .i64 9, .int .i64 0, .int .i64 0, .int .i64 0, .int .i64 0, .slice none 0 0] by rw [hM]; rfl] at hFN
          have HFN := Lib.hid hFN
          have HM := Lib.hid hM
          have hMl : (dcs M).length = 3 * 8 := by rw [hM]; rfl
          have hMl2 : M.length = 3 := by rw [hM]; rfl
          clear hFN hM
          go_wp2_with (at_builtin; refine wpList_append_ownS _ rfl (.tmp 81) (.tmp 98) 53 rfl wo.heap.size 59 i59 _ 8 80 Try.underlying53 hi hz0 hz1 hz2 rfl (by decide) (.slice a L.length c) L.length _ rfl HFN.out.1.row ⟨wr.heap.size, 0, none⟩ 3 3 (dcs M) rfl hMl HFN.out.2.1 (dcs_one _) (by unfold maxLen; omega) (by omega) HFN.out.2.2 ?_)
          intro v7 w7 ho7 hg7 hn7
          obtain ⟨a7, c7, rfl⟩ := own39_slice ho7
          have hF7 : Fil wo.heap.size (.slice a7 (L.length + 3) c7) (L ++ M) w7 := HFN.out.1.add (by rw [hMl2]; exact ho7) hg7 (fun y hy => by
            rw [HM.out] at hy
            simp at hy
            rcases hy with rfl | rfl | rfl <;> exact World.ownsRow_nil _ _ _ _) (fun y hy => by
            rw [HM.out] at hy
            simp at hy
            rcases hy with rfl | rfl | rfl <;> exact ⟨Small.nil, by show (0 : Nat) ≤ 10; omega⟩)
          have hB7 : Below wo.heap.size wo w7 := (HI.out.2.alloc HI.out.2.size _).grown hg7 HFN.out.2.2 (fun q e => (own_lt3 HFN.out.1.row e).1)
          have H10 := Lib.hid (does_walk (hF7.rd (by rw [List.length_append, hMl2]; omega)).1)
          have HB7 := Lib.hid (HB0.out.trans (hB7.mono HB0.out.size))
          clear hF7 hB7 ho7 hg7 hn7 HFN HM hMl HI
          go_wp2_with fail
          refine H10.out.mono ?_
          rintro e w8 ⟨rfl, hB8⟩
          have HB8 := Lib.hid (HB7.out.trans (hB8.mono HB7.out.size))
          clear hB8 H10 HB7
          go_wp2_with fail
          go_roundw
          case rel => exact ⟨n + 1, by omega, by go_num, HB8⟩
          case measure => simp [intOf]; omega
    · obtain rfl : n = 1300 := by omega
      simp only [show ((1300 : Nat) : Int) = 1300 from rfl]
      go_wp2_with fail
      have hb1 := heap_alloc_new wr (.cells #[.slice none 0 0, Value.nilFunc, .int .i64 0, .int .i64 0] 91)
      have hb2 := heap_alloc_new (wr.alloc (.cells #[.slice none 0 0, Value.nilFunc, .int .i64 0, .int .i64 0] 91)) (.cells #[.pointer none, .pointer (some ⟨wr.heap.size, 0, none⟩)] 55)
      rw [World.size_alloc] at hb2
      have hBA : Below wr.heap.size wr ((wr.alloc (.cells #[.slice none 0 0, Value.nilFunc, .int .i64 0, .int .i64 0] 91)).alloc (.cells #[.pointer none, .pointer (some ⟨wr.heap.size, 0, none⟩)] 55)) := ((Below.refl _ _).alloc (Nat.le_refl _) _).alloc (by simp) _
      have hb1' : ((wr.alloc (.cells #[.slice none 0 0, Value.nilFunc, .int .i64 0, .int .i64 0] 91)).alloc (.cells #[.pointer none, .pointer (some ⟨wr.heap.size, 0, none⟩)] 55)).cell? ⟨wr.heap.size, 1, none⟩ = some Value.nilFunc := (cell_of_block ((Below.heap_alloc _ _ _ (by simp)).trans hb1)).trans rfl
      generalize (wr.alloc (.cells #[.slice none 0 0, Value.nilFunc, .int .i64 0, .int .i64 0] 91)).alloc (.cells #[.pointer none, .pointer (some ⟨wr.heap.size, 0, none⟩)] 55) = W5 at *
      have HBA := Lib.hid (HB.out.trans (hBA.mono HB.out.size))
      have HB2 := Lib.hid hb2
      have HC1 := Lib.hid hb1'
      obtain ⟨bx, hbx⟩ : ∃ bx, bx = wr.heap.size := ⟨_, rfl⟩
      rw [← hbx] at HB2 HC1 ⊢
      clear hb1 hb2 hBA hb1' HB hbx
      go_loopw [7] (fun i wr => ∃ q : Nat, q ≤ 2 ∧ i = .int .i64 q ∧ Hid (Below W5.heap.size W5 wr)) (fun i _ => 2 - (intOf i).toNat)
      case atStart => exact ⟨0, by omega, rfl, Below.refl _ _⟩
      case round =>
        obtain ⟨q, hq, rfl, HQ⟩ := hrel
        by_cases hq2 : q < 2
        · have dq : decide ((q : Int) < 2) = true := decide_eq_true (by omega)
          have hblk := (HQ.out.block _ (lt_of_block HB2.out)).trans HB2.out
          obtain ⟨p, hp1, hp2⟩ : ∃ p, wr.cell? ⟨bx + 1, q, none⟩ = some (.pointer p) ∧ NoW p wr := by
            rcases (show q = 0 ∨ q = 1 by omega) with rfl | rfl
            · exact ⟨none, (cell_of_block hblk).trans rfl, .inl rfl⟩
            · exact ⟨some ⟨bx, 0, none⟩, (cell_of_block hblk).trans rfl, .inr ⟨bx, rfl, (HQ.out.cell (block_lt_of_cell HC1.out)).trans HC1.out⟩⟩
          have H41 := Lib.hid (next_no hp2)
          have HP := Lib.hid hp2
          clear hblk hp2
          go_wp2_with fail
          refine H41.out.mono ?_
          rintro e w7 ⟨rfl, rfl⟩
          have H36 := Lib.hid (sent_no HP.out)
          clear H41
          go_wp2_with fail
          refine H36.out.mono ?_
          rintro e w8 ⟨rfl, hB8⟩
          have hp8 := HP.out.below hB8
          have H35 := Lib.hid (send_no hp8 2 0 0 0 0 0 none 0 0)
          have HP8 := Lib.hid hp8
          have HQ8 := Lib.hid (HQ.out.trans (hB8.mono HQ.out.size))
          clear H36 hB8 hp8 HP
          go_wp2_with fail
          refine H35.out.mono ?_
          rintro e w9 ⟨rfl, hB9⟩
          have hp9 := HP8.out.below hB9
          have H37 := Lib.hid (open_no hp9)
          have H38 := Lib.hid (due_no hp9 9)
          have HQ9 := Lib.hid (HQ8.out.trans (hB9.mono HQ8.out.size))
          clear H35 hB9 hp9 HP8
          go_wp2_with fail
          refine H37.out.mono ?_
          rintro e w10 ⟨rfl, rfl⟩
          go_wp2_with fail
          refine H38.out.mono ?_
          rintro e w11 ⟨rfl, hB11⟩
          have HQ11 := Lib.hid (HQ9.out.trans (hB11.mono HQ9.out.size))
          clear hB11 H37 H38
          go_wp2_with fail
          go_roundw
          case rel => exact ⟨q + 1, by omega, by go_num, HQ11⟩
          case measure => simp [intOf]; omega
        · obtain rfl : q = 2 := by omega
          simp only [show ((2 : Nat) : Int) = 2 from rfl]
          have hnil : RD wr none 0 0 [] := ⟨rfl, Nat.le_refl _, by omega, fun _ => rfl, fun k x hk => by simp at hk⟩
          have H10 := Lib.hid (does_walk hnil)
          clear hnil
          go_wp2_with fail
          refine H10.out.mono ?_
          rintro e w7 ⟨rfl, hB7⟩
          have H32 := Lib.hid (awake28 w7)
          have HB7 := Lib.hid (HBA.out.trans ((HQ.out.mono (by exact Nat.le_refl _)).mono HBA.out.size |>.trans (hB7.mono (Nat.le_trans HBA.out.size HQ.out.size))))
          clear hB7 H10
          go_wp2_with fail
          refine H32.out.mono ?_
          rintro e w8 ⟨rfl, hB8⟩
          have HB8 := Lib.hid (HB7.out.trans (hB8.mono HB7.out.size))
          clear hB8 H32
          go_wp2_with fail
          go_ret
          exact ⟨rfl, HB8.out⟩
end Go.Proofs.Ytfojhmobnedekaa
