/- The law StatSmall. Conditions: the table of powers is as the library lays it. -/
import Derived.Test.YtfojhmobnedekaaDoorS21
namespace Go.Proofs.YtfojhmobnedekaaDoor
open Go.RowKit

/-- The numbers about the ends. -/
def endsA : Array Value := #[.int .i64 (-9223372036854775808), .int .i64 (-1), .int .i64 0, .int .i64 1, .int .i64 2, .int .i64 3, .int .i64 4, .int .i64 7, .int .i64 8, .int .i64 2147483646, .int .i64 2147483647, .int .i64 2147483648]
def en (j : Nat) : Int := [-9223372036854775808, -1, 0, 1, 2, 3, 4, 7, 8, 2147483646, 2147483647, 2147483648][j]?.getD 0
theorem ends_at (j : Nat) (hj : j < 12) : endsA[j]? = some (.int .i64 (en j)) := by
  have : j = 0 ∨ j = 1 ∨ j = 2 ∨ j = 3 ∨ j = 4 ∨ j = 5 ∨ j = 6 ∨ j = 7 ∨ j = 8 ∨ j = 9 ∨ j = 10 ∨ j = 11 := by omega
  rcases this with rfl | rfl | rfl | rfl | rfl | rfl | rfl | rfl | rfl | rfl | rfl | rfl <;> rfl
theorem en_in (j : Nat) (hj : j < 12) : inI (en j) := by
  have : j = 0 ∨ j = 1 ∨ j = 2 ∨ j = 3 ∨ j = 4 ∨ j = 5 ∨ j = 6 ∨ j = 7 ∨ j = 8 ∨ j = 9 ∨ j = 10 ∨ j = 11 := by omega
  unfold inI
  rcases this with rfl | rfl | rfl | rfl | rfl | rfl | rfl | rfl | rfl | rfl | rfl | rfl <;> decide
/-- Events of all kinds, with all numbers: an owned row of some events. -/
def FillRel (w : World) (m : Nat) (s : Value) (wr : World) : Prop := ∃ (l : List (Int × Int)) (z : Value), z = s ∧ l.length = m ∧ wr.ownsRow (w.heap.size + 1) 33 2 z m (ecs l) ∧ (∀ j, j < 12 → wr.cell? ⟨w.heap.size, j, none⟩ = some (.int .i64 (en j))) ∧ Below w.heap.size w wr
/-- A stat by its counts. -/
def mkS (l : List Int) : Nat → Int := fun i => l[i]?.getD 0
theorem mkS_in {l : List Int} (h : ∀ x ∈ l, inI x) (i : Nat) : inI (mkS l i) := by
  unfold mkS
  cases e : l[i]? with
  | none => show inI 0; unfold inI; decide
  | some x => exact h x (List.mem_of_getElem? e)
def four (u v s t : Nat → Int) : Nat → Nat → Int := fun k => if k = 0 then u else if k = 1 then v else if k = 2 then s else t
theorem fill04 : ((Array.range (4 * 19)).map ((Value.agg (stC v0)).cells[· % (Value.agg (stC v0)).cells.size]!)) = Array.mk ([.int .i64 0, .int .i64 0, .int .i64 0, .int .i64 0, .int .i64 0, .int .i64 0, .int .i64 0, .int .i64 0, .int .i64 0, .int .i64 0, .int .i64 0, .int .i64 0, .int .i64 0, .int .i64 0, .int .i64 0, .int .i64 0, .int .i64 0, .int .i64 0, .int .i64 0, .int .i64 0, .int .i64 0, .int .i64 0, .int .i64 0, .int .i64 0, .int .i64 0, .int .i64 0, .int .i64 0, .int .i64 0, .int .i64 0, .int .i64 0, .int .i64 0, .int .i64 0, .int .i64 0, .int .i64 0, .int .i64 0, .int .i64 0, .int .i64 0, .int .i64 0, .int .i64 0, .int .i64 0, .int .i64 0, .int .i64 0, .int .i64 0, .int .i64 0, .int .i64 0, .int .i64 0, .int .i64 0, .int .i64 0, .int .i64 0, .int .i64 0, .int .i64 0, .int .i64 0, .int .i64 0, .int .i64 0, .int .i64 0, .int .i64 0, .int .i64 0, .int .i64 0, .int .i64 0, .int .i64 0, .int .i64 0, .int .i64 0, .int .i64 0, .int .i64 0, .int .i64 0, .int .i64 0, .int .i64 0, .int .i64 0, .int .i64 0, .int .i64 0, .int .i64 0, .int .i64 0, .int .i64 0, .int .i64 0, .int .i64 0, .int .i64 0]) := by kernel_rfl
set_option maxRecDepth 100000 in
theorem fill4 (u v s t : Nat → Int) : Instr.fill (fun i => some (i * 19, 19)) ((Array.range (4 * 19)).map ((Value.agg (stC v0)).cells[· % (Value.agg (stC v0)).cells.size]!)) #[(0, Value.agg (stC u)), (1, Value.agg (stC v)), (2, Value.agg (stC s)), (3, Value.agg (stC t))].toList = some (stC u ++ stC v ++ stC s ++ stC t) := by
  rw [fill04]
  unfold stC
  simp [Instr.fill, Value.cells]
theorem build4 (u v s t : Nat → Int) (w : World) : (Instr.buildSlice 44 4 #[(0, .agg (stC u)), (1, .agg (stC v)), (2, .agg (stC s)), (3, .agg (stC t))]).run Tryd.prog w = .ok (.slice (some ⟨w.heap.size, 0, none⟩) 4 4) (w.alloc (.cells (stC u ++ stC v ++ stC s ++ stC t) 25)) := by
  obtain ⟨i0, hi, hz0, hz1, hz2⟩ := info_parts info25_
  refine run_buildSlice w 44 25 4 _ _ i0 _ Tryd.underlying44 hi hz0 (by rw [hz1]; decide) (by rw [hz1]; decide) ?_
  rw [hz1]
  exact fill4 u v s t
theorem rs_four (u v s t : Nat → Int) (w : World) : RS (w.alloc (.cells (stC u ++ stC v ++ stC s ++ stC t) 25)) (some ⟨w.heap.size, 0, none⟩) 4 4 (four u v s t) where
  le := Nat.le_refl _
  most := by decide
  at_ k hk := by
    refine ⟨w.heap.size, 0, rfl, fun j x hx => ?_⟩
    rw [cell_of_block (heap_alloc_new w _)]
    have hj : j < 19 := by have := (List.getElem?_eq_some_iff.1 hx).1; simpa [size_stC] using this
    have hx' : (stC (four u v s t k))[j]? = some x := by simpa using hx
    have : k = 0 ∨ k = 1 ∨ k = 2 ∨ k = 3 := by omega
    rcases this with rfl | rfl | rfl | rfl
    · rw [Array.getElem?_append_left (by simp only [Array.size_append, size_stC]; omega), Array.getElem?_append_left (by simp only [Array.size_append, size_stC]; omega), Array.getElem?_append_left (by rw [size_stC]; omega)]; simpa [four] using hx'
    · rw [Array.getElem?_append_left (by simp only [Array.size_append, size_stC]; omega), Array.getElem?_append_left (by simp only [Array.size_append, size_stC]; omega), Array.getElem?_append_right (by rw [size_stC]; omega), size_stC, show 0 + 1 * 19 + j - 19 = j by omega]; simpa [four] using hx'
    · rw [Array.getElem?_append_left (by simp only [Array.size_append, size_stC]; omega), Array.getElem?_append_right (by simp only [Array.size_append, size_stC]; omega)]
      simp only [Array.size_append, size_stC]
      rw [show 0 + 2 * 19 + j - (19 + 19) = j by omega]; simpa [four] using hx'
    · rw [Array.getElem?_append_right (by simp only [Array.size_append, size_stC]; omega)]
      simp only [Array.size_append, size_stC]
      rw [show 0 + 3 * 19 + j - (19 + 19 + 19) = j by omega]; simpa [four] using hx'
theorem own_cap {w : World} {B n c : Nat} {a : Option Addr} {xs : List Value} (h : w.ownsRow B 33 2 (.slice a n c) n xs) : c ≤ maxLen := by
  rcases h.2 with ⟨e, _⟩ | ⟨g, cap, cur, e, _, _, _, hm, _⟩
  · injection e with _ _ e; subst e; exact Nat.zero_le _
  · injection e with _ _ e; subst e; exact hm
theorem slice_fromM {a : Option Addr} {n cap r : Nat} (h : r ≤ n) (hc : n ≤ cap) (hn : a = none → cap = 0) (hm : cap ≤ maxLen) (w : World) :
    (Instr.sliceAt 26 (.slice a n cap) (some (.int .i64 r)) none none).run Tryd.prog w = .ok (.slice (adv a r cap) (n - r) (cap - r)) w := by
  unfold maxLen at hm
  cases a with
  | none =>
    have := hn rfl
    subst this
    obtain rfl : n = 0 := by omega
    obtain rfl : r = 0 := by omega
    show _ = _
    kernel_rfl
  | some ad =>
    unfold adv
    have h1 : (r : Int) ≤ n := by omega
    have h2 : (n : Int) ≤ cap := by omega
    go_simp
    by_cases e : cap = r
    · rw [if_pos e, if_pos (by omega)]
    · rw [if_neg e, if_neg (by omega)]
/-- A new stat is stored. -/
theorem wpList_store_st {ops : Array Oper} {rest : List Oper} {o : Oper} {a : Act} {W0 : World} {Q : Exit → Act → World → Prop} (w1 : World) (hgd : o.guard = none) (x y : Operand) (ho : o.op = .store 25 x y) (S : Nat → Int)
    (hw : W0 = w1.alloc (.cells (stC v0) 25)) (hx : a.eval x = .pointer (some ⟨w1.heap.size, 0, none⟩)) (hy : a.eval y = .agg (stC S))
    (h : ∀ W, Hid (StAt 25 W w1.heap.size S) → Hid (Below w1.heap.size w1 W) → wpList Tryd.prog ops Q rest (a.put o.dst undef) W) : wpList Tryd.prog ops Q (o :: rest) a W0 := by
  subst hw
  refine wpList_store_row hgd 25 x y ho w1.heap.size (stC S) hx hy 25 (stC v0) (StAt.new w1 v0) info25 rfl (stC_one _) (h _ (Lib.hid (setRow_heap _ _ _ _ _ _ (StAt.new w1 v0))) (Lib.hid (below_setRow ((Below.refl _ _).alloc (Nat.le_refl _) _) (Nat.le_refl _))))
set_option maxRecDepth 100000 in
set_option maxHeartbeats 3200000 in
theorem small_any {w : World} (ht : Tab w) : Calls Tryd.prog 4 #[] w (XPost w) := by
  obtain ⟨i0, hi, hz0, hz1, hz2⟩ := info_parts info33
  have HT := Lib.hid ht
  have HT0 := Lib.hid ht.lt
  clear ht
  go_enter Tryd.func4, Tryd.ntmps4
  go_wp2_with fail
  go_loopw [2, 3, 4] (fun s i _ wr => ∃ k : Nat, k ≤ 10 ∧ i = .int .i64 ((k : Int) - 1) ∧ FillRel w (12 * k) s wr) (fun _ i _ _ => 10 - (intOf i + 1).toNat)
  case atStart =>
    have hn := heap_alloc_new w (.cells endsA 3)
    refine ⟨0, by omega, rfl, [], _, rfl, rfl, ⟨rfl, .inl ⟨rfl, rfl⟩⟩, fun j hj => (cell_of_block hn).trans (ends_at j hj), (Below.refl _ _).alloc (Nat.le_refl _) _⟩
  case round =>
    obtain ⟨k, hk, rfl, hF⟩ := hrel
    have HF := Lib.hid hF
    clear hF
    by_cases hk1 : k < 10
    · have q0 : decide ((k : Int) - 1 < 9) = true := by simp; omega
      go_wp2_with fail
      go_loopw [2, 4] (fun s i wr => ∃ j : Nat, j ≤ 12 ∧ i = .int .i64 j ∧ Hid (FillRel w (12 * k + j) s wr)) (fun _ i _ => 12 - (intOf i).toNat)
      case atStart => exact ⟨0, Nat.zero_le _, rfl, HF⟩
      case round =>
        clear HF
        obtain ⟨j, hj, rfl, HF⟩ := hrel
        obtain ⟨l, z, hz, hl, hO, hE, hB⟩ := HF.out
        subst hz
        by_cases hj1 : j < 12
        · have c0 := hE j hj1
          have HE := Lib.hid hE
          have HO := Lib.hid hO
          have HB := Lib.hid hB
          have hlt := block_lt_of_cell c0
          simp only [] at hlt
          have HO1 := Lib.hid (HO.out.alloc (.cells #[.int .i64 ((k : Int) - 1), .int .i64 (en j)] 33))
          have HBA := Lib.hid ((Below.refl wr.heap.size wr).alloc (Nat.le_refl _) (.cells #[.int .i64 ((k : Int) - 1), .int .i64 (en j)] 33))
          have hm := Lib.hid (rfl : en j = en j)
          generalize hx : en j = x at *
          have q1 : decide ((j : Int) < 12) = true := by simp; omega
          clear hO hE hB HF
          go_wp2_with (refine wpList_append_any (by rfl) (.tmp 21) (.tmp 28) 26 (by rfl) (w.heap.size + 1) 33 i0 _ 2 16 Tryd.underlying26 hi hz0 hz1 hz2 rfl (by omega) z (12 * k + j) (ecs l) (by rfl) HO1.out (some ⟨wr.heap.size, 0, none⟩) 1 1 [.int .i64 ((k : Int) - 1), .int .i64 x] (by rfl) (by rfl) (fun e => by cases e) (fun j u hu => ⟨wr.heap.size, 0, rfl, by have := World.news_of_block (cs := #[.int .i64 ((k : Int) - 1), .int .i64 x]) (t := 33) (fr := (0, 0)) (heap_alloc_new wr _) j u hu; rwa [Addr.add_lit] at this⟩) (by simp [Value.oneCell']) (by unfold maxLen; omega) (by omega) (by simp; omega) ?_; intro v5 w5 ho5 hg5; have HO5 := Lib.hid ho5; have HB5 := Lib.hid ((HBA.out.mono (show w.heap.size + 1 ≤ wr.heap.size by omega)).grown hg5 (by simp; omega) (fun k e => (HO1.out.lt k e).1)); clear ho5 hg5)
          go_roundw
          case rel =>
            refine ⟨j + 1, by omega, by go_num, l ++ [((k : Int) - 1, x)], _, rfl, by rw [List.length_append, hl]; rfl, by rw [ecs_append]; exact HO5.out, fun i hi => (HB5.out.cell (show w.heap.size < w.heap.size + 1 by omega)).trans (HE.out i hi), HB.out.trans (HB5.out.mono (by omega))⟩
          case measure => simp [intOf]; omega
        · obtain rfl : j = 12 := by omega
          clear hO hE hB
          simp only [show ((12 : Nat) : Int) = 12 from rfl]
          go_wp2_with fail
          go_roundw
          case rel =>
            refine ⟨k + 1, by omega, ?_, HF.out⟩
            congr 1; omega
          case measure => simp [intOf]; omega
    · obtain rfl : k = 10 := by omega
      obtain ⟨l, z, hz, hl, hO, hE, hB⟩ := HF.out
      subst hz
      have hn' : 12 * 10 ≤ 140737488351232 := by omega
      obtain ⟨ar, capr, rfl, hr⟩ := RE.of_own hO hn'
      have HR := Lib.hid hr
      have HCAP := Lib.hid (own_cap hO)
      have HE := Lib.hid hE
      have HB := Lib.hid hB
      clear hO hE hB hr HF
      simp only [show ((10 : Nat) : Int) - 1 = 9 from rfl, show (12 * 10 : Nat) = 120 from rfl]
      go_wp2_with fail
      generalize wr = w3 at *
      go_loopw [5] (fun i w2 => ∃ j : Nat, j ≤ 144 ∧ i = .int .i64 j ∧ Hid (Below w3.heap.size w3 w2)) (fun i _ => 144 - (intOf i).toNat)
      case atStart => exact ⟨0, by omega, rfl, Below.refl _ _⟩
      case round =>
        obtain ⟨j, hj, rfl, HD⟩ := hrel
        by_cases hj1 : j < 144
        · have hm1 : j % 12 < 12 := Nat.mod_lt _ (by omega)
          have hm2 : j / 12 < 12 := by omega
          have b1 := HB.out.size
          have ca := HE.out (j % 12) hm1
          have cb := HE.out (j / 12) hm2
          have ca2 := (HD.out.cell (block_lt_of_cell ca)).trans ca
          have cb2 := (HD.out.cell (block_lt_of_cell cb)).trans cb
          clear ca cb
          have HIX := Lib.hid (en_in (j % 12) hm1)
          have HIY := Lib.hid (en_in (j / 12) hm2)
          generalize en (j % 12) = x at *
          generalize en (j / 12) = y at *
          have q0 : decide ((j : Int) < 144) = true := by simp; omega
          have r1 : ((j : Int)).tmod 12 = ((j % 12 : Nat) : Int) := by rw [Int.tmod_eq_emod_of_nonneg (by omega)]; omega
          have r2 : ((j : Int)).tdiv 12 = ((j / 12 : Nat) : Int) := by rw [Int.tdiv_eq_ediv_of_nonneg (by omega)]; omega
          have r3 : ((j : Int)).tmod 60 = ((j % 60 : Nat) : Int) := by rw [Int.tmod_eq_emod_of_nonneg (by omega)]; omega
          have r4 : ((j : Int)).tmod 2 = ((j % 2 : Nat) : Int) := by rw [Int.tmod_eq_emod_of_nonneg (by omega)]; omega
          have r5 : ((j : Int)).tdiv 2 = ((j / 2 : Nat) : Int) := by rw [Int.tdiv_eq_ediv_of_nonneg (by omega)]; omega
          have r6 : ((j / 2 : Nat) : Int).tmod 2 = ((j / 2 % 2 : Nat) : Int) := by rw [Int.tmod_eq_emod_of_nonneg (by omega)]; omega
          have r7 : ((j : Int)).tmod 5 = ((j % 5 : Nat) : Int) := by rw [Int.tmod_eq_emod_of_nonneg (by omega)]; omega
          have r8 : ((j : Int)).tmod 6 = ((j % 6 : Nat) : Int) := by rw [Int.tmod_eq_emod_of_nonneg (by omega)]; omega
          go_upto_region 13 with fail
          go_quiet (fail)
          go_upto_region 14 with fail
          obtain ⟨w4, hw4⟩ : ∃ w4, w4 = wr.drewN nq := ⟨_, rfl⟩
          have HW4 := Lib.hid (show Below w3.heap.size w3 w4 by rw [hw4]; exact below_drewN HD.out nq)
          rw [← hw4]
          clear hw4 HD
          go_upto_region 15 with (refine wpList_store_st w4 rfl (.tmp 8) (.tmp 47) rfl (mkS [x, y, 0, 0, 0, 0, 0, 0, 0, 0, 0, 0, 0, 0, 0, (j : Int), 0, 0, 0]) rfl rfl rfl ?_; intro w5 HS5 HB5)
          simp only [Act.put]
          go_upto_region 16 with (refine wpList_store_st w5 rfl (.tmp 9) (.tmp 59) rfl (mkS [0, 0, x, 0, x, 0, 0, 0, 0, 0, y, 0, y, (j : Int), x, 0, y, x, y]) rfl rfl rfl ?_; intro w6 HS6 HB6)
          simp only [Act.put]
          go_upto_region 17 with (refine wpList_store_st w6 rfl (.tmp 10) (.tmp 68) rfl (mkS [0, 0, (j : Int), (j : Int) % 2, 0, 0, 0, 0, 0, 0, 0, (j : Int) / 2 % 2, 0, 0, 0, 0, 0, 0, 0]) rfl rfl rfl ?_; intro w7 HS7 HB7)
          simp only [Act.put]
          go_upto_region 18 with (refine wpList_store_st w7 rfl (.tmp 11) (.tmp 75) rfl (mkS [0, 0, 3 + (j : Int) % 6, 0, (j : Int) % 5, 1, 0, 2, 0, 0, 0, 0, 0, 0, 0, 0, 0, 0, 0]) rfl rfl rfl ?_; intro w8 HS8 HB8)
          simp only [Act.put]
          have hix : inI x := HIX.out
          have hiy : inI y := HIY.out
          have hS : ∀ i, inI (mkS [x, y, 0, 0, 0, 0, 0, 0, 0, 0, 0, 0, 0, 0, 0, (j : Int), 0, 0, 0] i) := mkS_in (by unfold inI at *; intro z hz; simp at hz; omega)
          have hT : ∀ i, inI (mkS [0, 0, x, 0, x, 0, 0, 0, 0, 0, y, 0, y, (j : Int), x, 0, y, x, y] i) := mkS_in (by unfold inI at *; intro z hz; simp at hz; omega)
          have hU : ∀ i, inI (mkS [0, 0, (j : Int), (j : Int) % 2, 0, 0, 0, 0, 0, 0, 0, (j : Int) / 2 % 2, 0, 0, 0, 0, 0, 0, 0] i) := mkS_in (by unfold inI at *; intro z hz; simp at hz; omega)
          have hV : ∀ i, inI (mkS [0, 0, 3 + (j : Int) % 6, 0, (j : Int) % 5, 1, 0, 2, 0, 0, 0, 0, 0, 0, 0, 0, 0, 0, 0] i) := mkS_in (by unfold inI at *; intro z hz; simp at hz; omega)
          generalize mkS [x, y, 0, 0, 0, 0, 0, 0, 0, 0, 0, 0, 0, 0, 0, (j : Int), 0, 0, 0] = S at *
          generalize mkS [0, 0, x, 0, x, 0, 0, 0, 0, 0, y, 0, y, (j : Int), x, 0, y, x, y] = T at *
          generalize mkS [0, 0, (j : Int), (j : Int) % 2, 0, 0, 0, 0, 0, 0, 0, (j : Int) / 2 % 2, 0, 0, 0, 0, 0, 0, 0] = U at *
          generalize mkS [0, 0, 3 + (j : Int) % 6, 0, (j : Int) % 5, 1, 0, 2, 0, 0, 0, 0, 0, 0, 0, 0, 0, 0, 0] = V at *
          have KS := Lib.hid (((HS5.out.below HB6.out HS5.out.lt).below HB7.out (by have := HS5.out.lt; have := HB6.out.size; omega)).below HB8.out (by have := HS5.out.lt; have := HB6.out.size; have := HB7.out.size; omega))
          have KT := Lib.hid ((HS6.out.below HB7.out HS6.out.lt).below HB8.out (by have := HS6.out.lt; have := HB7.out.size; omega))
          have KU := Lib.hid (HS7.out.below HB8.out HS7.out.lt)
          have KV := Lib.hid HS8.out
          have HW8 := Lib.hid ((((HW4.out.trans (HB5.out.mono HW4.out.size)).trans (HB6.out.mono (by have := HW4.out.size; have := HB5.out.size; omega))).trans (HB7.out.mono (by have := HW4.out.size; have := HB5.out.size; have := HB6.out.size; omega))).trans (HB8.out.mono (by have := HW4.out.size; have := HB5.out.size; have := HB6.out.size; have := HB7.out.size; omega)))
          have HR8 := Lib.hid (HR.out.below HW8.out)
          have HT8 := Lib.hid ((HT.out.below HB.out HT0.out).below HW8.out (by have := HT0.out; have := HB.out.size; omega))
          have h60 : j % 60 ≤ 120 := by omega
          have hsf := fun w => slice_fromM h60 HR8.out.le HR8.out.nil HCAP.out w
          have h600 : ((j % 60 : Nat) : Int) = (j : Int) % 60 := by omega
          simp only [h600] at hsf
          have HRD := Lib.hid (HR8.out.drop h60)
          generalize adv ar (j % 60) capr = a2 at *
          generalize 120 - j % 60 = n2 at *
          generalize capr - j % 60 = c2 at *
          generalize l.drop (j % 60) = l2 at *
          have hz8 : 0 < w8.heap.size := HT8.out.lt
          have HC1 := Lib.hid fun (z : World) (hz : Below w8.heap.size w8 z) => (counts_any (v := S) (HR8.out.below hz) (HT8.out.below hz hz8) : Calls Tryd.prog 3 _ z fun e w' => e = .returned (.bool true) ∧ Below z.heap.size z w')
          have HC2 := Lib.hid fun (z : World) (hz : Below w8.heap.size w8 z) => (counts_any (v := T) (HRD.out.below hz) (HT8.out.below hz hz8) : Calls Tryd.prog 3 _ z fun e w' => e = .returned (.bool true) ∧ Below z.heap.size z w')
          have HS4 := Lib.hid fun (z : World) (a : Option Addr) (hz : Below w8.heap.size w8 z) (h : RS z a 4 4 (four S T U V)) => (sums_any h (fun k i => by unfold four; split; exact hS i; split; exact hT i; split; exact hU i; exact hV i) (j : Int) (HT8.out.below hz hz8) : Calls Tryd.prog 16 _ z fun e w' => e = .returned (.bool true) ∧ Below z.heap.size z w')
          have HS2 := Lib.hid fun (z : World) (a : Option Addr) (hz : Below w8.heap.size w8 z) (h : RS z a 2 2 (two T S)) => (sums_any h (fun k i => by unfold two; split; exact hT i; exact hS i) (j : Int) (HT8.out.below hz hz8) : Calls Tryd.prog 16 _ z fun e w' => e = .returned (.bool true) ∧ Below z.heap.size z w')
          have HB4 := Lib.hid (build4 S T U V)
          have HB2 := Lib.hid (build2 T S)
          clear hix hiy hS hT hU hV HS5 HS6 HS7 HS8 HB5 HB6 HB7 HB8 HW4 HIX HIY h600
          refine region_tree (fun w' => ∃ x : Lies w8, w' = x.1) (.one [0, 1] 2 (.one [3, 4, 5, 6, 7, 8, 9] 10 (.one [11, 12, 13, 14, 15, 16, 17, 19] 18 (.one [] 20 (.one [21, 22, 23, 24, 25, 27] 26 (.one [] 28 (.fin [29, 30]))))))) (by kernel_rfl) (by kernel_rfl) (lies_start w8) ?_
          have B0 := Lib.hid ((Below.refl w8.heap.size w8).drew)
          unfold treeP
          simp only [pickL, List.filterMap_cons, List.filterMap_nil, List.getElem?_toArray, List.getElem?_cons_zero, List.getElem?_cons_succ]
          show wpQuiet _ _ _ _ [_, _] _
          repeat (first | ((refine quiet_load_row (some 76) rfl rfl 25 (.tmp 8) rfl w4.heap.size rfl 25 (stC S) (0, 0) _ (lies_block KS.out) Tryd.underlying25 rfl info25 ?_); simp only [Act.put, List.setIfInBounds_toArray, List.set_cons_succ, List.set_cons_zero]) | ((refine quiet_load_row (some 81) rfl rfl 25 (.tmp 9) rfl w5.heap.size rfl 25 (stC T) (0, 0) _ (lies_block KT.out) Tryd.underlying25 rfl info25 ?_); simp only [Act.put, List.setIfInBounds_toArray, List.set_cons_succ, List.set_cons_zero]) | ((refine quiet_load_row (some 90) rfl rfl 25 (.tmp 8) rfl w4.heap.size rfl 25 (stC S) (0, 0) _ (lies_block KS.out) Tryd.underlying25 rfl info25 ?_); simp only [Act.put, List.setIfInBounds_toArray, List.set_cons_succ, List.set_cons_zero]) | ((refine quiet_load_row (some 91) rfl rfl 25 (.tmp 9) rfl w5.heap.size rfl 25 (stC T) (0, 0) _ (lies_block KT.out) Tryd.underlying25 rfl info25 ?_); simp only [Act.put, List.setIfInBounds_toArray, List.set_cons_succ, List.set_cons_zero]) | ((refine quiet_load_row (some 92) rfl rfl 25 (.tmp 10) rfl w6.heap.size rfl 25 (stC U) (0, 0) _ (lies_block KU.out) Tryd.underlying25 rfl info25 ?_); simp only [Act.put, List.setIfInBounds_toArray, List.set_cons_succ, List.set_cons_zero]) | ((refine quiet_load_row (some 93) rfl rfl 25 (.tmp 11) rfl w7.heap.size rfl 25 (stC V) (0, 0) _ (lies_block KV.out) Tryd.underlying25 rfl info25 ?_); simp only [Act.put, List.setIfInBounds_toArray, List.set_cons_succ, List.set_cons_zero]) | ((refine quiet_load_row (some 100) rfl rfl 25 (.tmp 9) rfl w5.heap.size rfl 25 (stC T) (0, 0) _ (lies_block KT.out) Tryd.underlying25 rfl info25 ?_); simp only [Act.put, List.setIfInBounds_toArray, List.set_cons_succ, List.set_cons_zero]) | ((refine quiet_load_row (some 101) rfl rfl 25 (.tmp 8) rfl w4.heap.size rfl 25 (stC S) (0, 0) _ (lies_block KS.out) Tryd.underlying25 rfl info25 ?_); simp only [Act.put, List.setIfInBounds_toArray, List.set_cons_succ, List.set_cons_zero]) | go_big_quiet_step (fail))
          refine wpQuiet_nil ?_
          refine mv_call (some 78) rfl rfl rfl (by go_simp) (HC1.out _ B0.out) ?_
          intro x1 hx1
          have S1 := Lib.hid (hx1)
          have B1 := Lib.hid (B0.out.trans (S1.out.mono (Below.size B0.out)))
          refine ⟨⟨⟨_, B1.out⟩, rfl⟩, ?_⟩
          simp only [Act.put, List.setIfInBounds_toArray, List.set_cons_succ, List.set_cons_zero]
          unfold treeP
          simp only [pickL, List.filterMap_cons, List.filterMap_nil, List.getElem?_toArray, List.getElem?_cons_zero, List.getElem?_cons_succ]
          show wpQuiet _ _ _ _ [_, _, _, _, _, _, _] _
          repeat (first | ((refine quiet_load_row (some 76) rfl rfl 25 (.tmp 8) rfl w4.heap.size rfl 25 (stC S) (0, 0) _ (lies_block KS.out) Tryd.underlying25 rfl info25 ?_); simp only [Act.put, List.setIfInBounds_toArray, List.set_cons_succ, List.set_cons_zero]) | ((refine quiet_load_row (some 81) rfl rfl 25 (.tmp 9) rfl w5.heap.size rfl 25 (stC T) (0, 0) _ (lies_block KT.out) Tryd.underlying25 rfl info25 ?_); simp only [Act.put, List.setIfInBounds_toArray, List.set_cons_succ, List.set_cons_zero]) | ((refine quiet_load_row (some 90) rfl rfl 25 (.tmp 8) rfl w4.heap.size rfl 25 (stC S) (0, 0) _ (lies_block KS.out) Tryd.underlying25 rfl info25 ?_); simp only [Act.put, List.setIfInBounds_toArray, List.set_cons_succ, List.set_cons_zero]) | ((refine quiet_load_row (some 91) rfl rfl 25 (.tmp 9) rfl w5.heap.size rfl 25 (stC T) (0, 0) _ (lies_block KT.out) Tryd.underlying25 rfl info25 ?_); simp only [Act.put, List.setIfInBounds_toArray, List.set_cons_succ, List.set_cons_zero]) | ((refine quiet_load_row (some 92) rfl rfl 25 (.tmp 10) rfl w6.heap.size rfl 25 (stC U) (0, 0) _ (lies_block KU.out) Tryd.underlying25 rfl info25 ?_); simp only [Act.put, List.setIfInBounds_toArray, List.set_cons_succ, List.set_cons_zero]) | ((refine quiet_load_row (some 93) rfl rfl 25 (.tmp 11) rfl w7.heap.size rfl 25 (stC V) (0, 0) _ (lies_block KV.out) Tryd.underlying25 rfl info25 ?_); simp only [Act.put, List.setIfInBounds_toArray, List.set_cons_succ, List.set_cons_zero]) | ((refine quiet_load_row (some 100) rfl rfl 25 (.tmp 9) rfl w5.heap.size rfl 25 (stC T) (0, 0) _ (lies_block KT.out) Tryd.underlying25 rfl info25 ?_); simp only [Act.put, List.setIfInBounds_toArray, List.set_cons_succ, List.set_cons_zero]) | ((refine quiet_load_row (some 101) rfl rfl 25 (.tmp 8) rfl w4.heap.size rfl 25 (stC S) (0, 0) _ (lies_block KS.out) Tryd.underlying25 rfl info25 ?_); simp only [Act.put, List.setIfInBounds_toArray, List.set_cons_succ, List.set_cons_zero]) | go_big_quiet_step (fail))
          refine wpQuiet_nil ?_
          refine mv_call (some 86) rfl rfl rfl (by go_simp) (HC2.out _ B1.out) ?_
          intro x2 hx2
          have S2 := Lib.hid (hx2)
          have B2 := Lib.hid (B1.out.trans (S2.out.mono (Below.size B1.out)))
          refine ⟨⟨⟨_, B2.out⟩, rfl⟩, ?_⟩
          simp only [Act.put, List.setIfInBounds_toArray, List.set_cons_succ, List.set_cons_zero]
          unfold treeP
          simp only [pickL, List.filterMap_cons, List.filterMap_nil, List.getElem?_toArray, List.getElem?_cons_zero, List.getElem?_cons_succ]
          show wpQuiet _ _ _ _ [_, _, _, _, _, _, _, _] _
          repeat (first | ((refine quiet_load_row (some 76) rfl rfl 25 (.tmp 8) rfl w4.heap.size rfl 25 (stC S) (0, 0) _ (lies_block KS.out) Tryd.underlying25 rfl info25 ?_); simp only [Act.put, List.setIfInBounds_toArray, List.set_cons_succ, List.set_cons_zero]) | ((refine quiet_load_row (some 81) rfl rfl 25 (.tmp 9) rfl w5.heap.size rfl 25 (stC T) (0, 0) _ (lies_block KT.out) Tryd.underlying25 rfl info25 ?_); simp only [Act.put, List.setIfInBounds_toArray, List.set_cons_succ, List.set_cons_zero]) | ((refine quiet_load_row (some 90) rfl rfl 25 (.tmp 8) rfl w4.heap.size rfl 25 (stC S) (0, 0) _ (lies_block KS.out) Tryd.underlying25 rfl info25 ?_); simp only [Act.put, List.setIfInBounds_toArray, List.set_cons_succ, List.set_cons_zero]) | ((refine quiet_load_row (some 91) rfl rfl 25 (.tmp 9) rfl w5.heap.size rfl 25 (stC T) (0, 0) _ (lies_block KT.out) Tryd.underlying25 rfl info25 ?_); simp only [Act.put, List.setIfInBounds_toArray, List.set_cons_succ, List.set_cons_zero]) | ((refine quiet_load_row (some 92) rfl rfl 25 (.tmp 10) rfl w6.heap.size rfl 25 (stC U) (0, 0) _ (lies_block KU.out) Tryd.underlying25 rfl info25 ?_); simp only [Act.put, List.setIfInBounds_toArray, List.set_cons_succ, List.set_cons_zero]) | ((refine quiet_load_row (some 93) rfl rfl 25 (.tmp 11) rfl w7.heap.size rfl 25 (stC V) (0, 0) _ (lies_block KV.out) Tryd.underlying25 rfl info25 ?_); simp only [Act.put, List.setIfInBounds_toArray, List.set_cons_succ, List.set_cons_zero]) | ((refine quiet_load_row (some 100) rfl rfl 25 (.tmp 9) rfl w5.heap.size rfl 25 (stC T) (0, 0) _ (lies_block KT.out) Tryd.underlying25 rfl info25 ?_); simp only [Act.put, List.setIfInBounds_toArray, List.set_cons_succ, List.set_cons_zero]) | ((refine quiet_load_row (some 101) rfl rfl 25 (.tmp 8) rfl w4.heap.size rfl 25 (stC S) (0, 0) _ (lies_block KS.out) Tryd.underlying25 rfl info25 ?_); simp only [Act.put, List.setIfInBounds_toArray, List.set_cons_succ, List.set_cons_zero]) | go_big_quiet_step (fail))
          refine wpQuiet_nil ?_
          refine mv_value (some 94) rfl rfl rfl (run_exec_buildSlice (parts := [(0, .tmp 90), (1, .tmp 91), (2, .tmp 92), (3, .tmp 93)]) (pv := [(0, .agg (stC S)), (1, .agg (stC T)), (2, .agg (stC U)), (3, .agg (stC V))]) rfl rfl (HB4.out _)) ?_
          have R43 := Lib.hid (rs_four S T U V x2)
          have S3 := Lib.hid ((Below.refl _ x2).alloc (Nat.le_refl _) (.cells (stC S ++ stC T ++ stC U ++ stC V) 25))
          have B3 := Lib.hid (B2.out.trans (S3.out.mono (Below.size B2.out)))
          refine ⟨⟨⟨_, B3.out⟩, rfl⟩, ?_⟩
          simp only [Act.put, List.setIfInBounds_toArray, List.set_cons_succ, List.set_cons_zero]
          unfold treeP
          refine wpQuiet_nil ?_
          refine mv_call (some 96) rfl rfl rfl (by go_simp) (HS4.out _ _ B3.out R43.out) ?_
          intro x4 hx4
          have S4 := Lib.hid (hx4)
          have B4 := Lib.hid (B3.out.trans (S4.out.mono (Below.size B3.out)))
          have R44 := Lib.hid (R43.out.below S4.out)
          refine ⟨⟨⟨_, B4.out⟩, rfl⟩, ?_⟩
          simp only [Act.put, List.setIfInBounds_toArray, List.set_cons_succ, List.set_cons_zero]
          unfold treeP
          simp only [pickL, List.filterMap_cons, List.filterMap_nil, List.getElem?_toArray, List.getElem?_cons_zero, List.getElem?_cons_succ]
          show wpQuiet _ _ _ _ [_, _, _, _, _, _] _
          repeat (first | ((refine quiet_load_row (some 76) rfl rfl 25 (.tmp 8) rfl w4.heap.size rfl 25 (stC S) (0, 0) _ (lies_block KS.out) Tryd.underlying25 rfl info25 ?_); simp only [Act.put, List.setIfInBounds_toArray, List.set_cons_succ, List.set_cons_zero]) | ((refine quiet_load_row (some 81) rfl rfl 25 (.tmp 9) rfl w5.heap.size rfl 25 (stC T) (0, 0) _ (lies_block KT.out) Tryd.underlying25 rfl info25 ?_); simp only [Act.put, List.setIfInBounds_toArray, List.set_cons_succ, List.set_cons_zero]) | ((refine quiet_load_row (some 90) rfl rfl 25 (.tmp 8) rfl w4.heap.size rfl 25 (stC S) (0, 0) _ (lies_block KS.out) Tryd.underlying25 rfl info25 ?_); simp only [Act.put, List.setIfInBounds_toArray, List.set_cons_succ, List.set_cons_zero]) | ((refine quiet_load_row (some 91) rfl rfl 25 (.tmp 9) rfl w5.heap.size rfl 25 (stC T) (0, 0) _ (lies_block KT.out) Tryd.underlying25 rfl info25 ?_); simp only [Act.put, List.setIfInBounds_toArray, List.set_cons_succ, List.set_cons_zero]) | ((refine quiet_load_row (some 92) rfl rfl 25 (.tmp 10) rfl w6.heap.size rfl 25 (stC U) (0, 0) _ (lies_block KU.out) Tryd.underlying25 rfl info25 ?_); simp only [Act.put, List.setIfInBounds_toArray, List.set_cons_succ, List.set_cons_zero]) | ((refine quiet_load_row (some 93) rfl rfl 25 (.tmp 11) rfl w7.heap.size rfl 25 (stC V) (0, 0) _ (lies_block KV.out) Tryd.underlying25 rfl info25 ?_); simp only [Act.put, List.setIfInBounds_toArray, List.set_cons_succ, List.set_cons_zero]) | ((refine quiet_load_row (some 100) rfl rfl 25 (.tmp 9) rfl w5.heap.size rfl 25 (stC T) (0, 0) _ (lies_block KT.out) Tryd.underlying25 rfl info25 ?_); simp only [Act.put, List.setIfInBounds_toArray, List.set_cons_succ, List.set_cons_zero]) | ((refine quiet_load_row (some 101) rfl rfl 25 (.tmp 8) rfl w4.heap.size rfl 25 (stC S) (0, 0) _ (lies_block KS.out) Tryd.underlying25 rfl info25 ?_); simp only [Act.put, List.setIfInBounds_toArray, List.set_cons_succ, List.set_cons_zero]) | go_big_quiet_step (fail))
          refine wpQuiet_nil ?_
          refine mv_value (some 102) rfl rfl rfl (run_exec_buildSlice (parts := [(0, .tmp 100), (1, .tmp 101)]) (pv := [(0, .agg (stC T)), (1, .agg (stC S))]) rfl rfl (HB2.out _)) ?_
          have R25 := Lib.hid (rs_two T S x4)
          have S5 := Lib.hid ((Below.refl _ x4).alloc (Nat.le_refl _) (.cells (stC T ++ stC S) 25))
          have B5 := Lib.hid (B4.out.trans (S5.out.mono (Below.size B4.out)))
          have R45 := Lib.hid (R44.out.below S5.out)
          refine ⟨⟨⟨_, B5.out⟩, rfl⟩, ?_⟩
          simp only [Act.put, List.setIfInBounds_toArray, List.set_cons_succ, List.set_cons_zero]
          unfold treeP
          refine wpQuiet_nil ?_
          refine mv_call (some 104) rfl rfl rfl (by go_simp) (HS2.out _ _ B5.out R25.out) ?_
          intro x6 hx6
          have S6 := Lib.hid (hx6)
          have B6 := Lib.hid (B5.out.trans (S6.out.mono (Below.size B5.out)))
          have R46 := Lib.hid (R45.out.below S6.out)
          have R26 := Lib.hid (R25.out.below S6.out)
          refine ⟨⟨⟨_, B6.out⟩, rfl⟩, ?_⟩
          simp only [Act.put, List.setIfInBounds_toArray, List.set_cons_succ, List.set_cons_zero]
          unfold treeP
          simp only [pickL, List.filterMap_cons, List.filterMap_nil, List.getElem?_toArray, List.getElem?_cons_zero, List.getElem?_cons_succ]
          show wpQuiet _ _ _ _ [_, _] _
          repeat (first | ((refine quiet_load_row (some 76) rfl rfl 25 (.tmp 8) rfl w4.heap.size rfl 25 (stC S) (0, 0) _ (lies_block KS.out) Tryd.underlying25 rfl info25 ?_); simp only [Act.put, List.setIfInBounds_toArray, List.set_cons_succ, List.set_cons_zero]) | ((refine quiet_load_row (some 81) rfl rfl 25 (.tmp 9) rfl w5.heap.size rfl 25 (stC T) (0, 0) _ (lies_block KT.out) Tryd.underlying25 rfl info25 ?_); simp only [Act.put, List.setIfInBounds_toArray, List.set_cons_succ, List.set_cons_zero]) | ((refine quiet_load_row (some 90) rfl rfl 25 (.tmp 8) rfl w4.heap.size rfl 25 (stC S) (0, 0) _ (lies_block KS.out) Tryd.underlying25 rfl info25 ?_); simp only [Act.put, List.setIfInBounds_toArray, List.set_cons_succ, List.set_cons_zero]) | ((refine quiet_load_row (some 91) rfl rfl 25 (.tmp 9) rfl w5.heap.size rfl 25 (stC T) (0, 0) _ (lies_block KT.out) Tryd.underlying25 rfl info25 ?_); simp only [Act.put, List.setIfInBounds_toArray, List.set_cons_succ, List.set_cons_zero]) | ((refine quiet_load_row (some 92) rfl rfl 25 (.tmp 10) rfl w6.heap.size rfl 25 (stC U) (0, 0) _ (lies_block KU.out) Tryd.underlying25 rfl info25 ?_); simp only [Act.put, List.setIfInBounds_toArray, List.set_cons_succ, List.set_cons_zero]) | ((refine quiet_load_row (some 93) rfl rfl 25 (.tmp 11) rfl w7.heap.size rfl 25 (stC V) (0, 0) _ (lies_block KV.out) Tryd.underlying25 rfl info25 ?_); simp only [Act.put, List.setIfInBounds_toArray, List.set_cons_succ, List.set_cons_zero]) | ((refine quiet_load_row (some 100) rfl rfl 25 (.tmp 9) rfl w5.heap.size rfl 25 (stC T) (0, 0) _ (lies_block KT.out) Tryd.underlying25 rfl info25 ?_); simp only [Act.put, List.setIfInBounds_toArray, List.set_cons_succ, List.set_cons_zero]) | ((refine quiet_load_row (some 101) rfl rfl 25 (.tmp 8) rfl w4.heap.size rfl 25 (stC S) (0, 0) _ (lies_block KS.out) Tryd.underlying25 rfl info25 ?_); simp only [Act.put, List.setIfInBounds_toArray, List.set_cons_succ, List.set_cons_zero]) | go_big_quiet_step (fail))
          refine wpQuiet_nil ?_
          go_wp2_with fail
          go_roundw
          case rel => exact ⟨j + 1, by omega, by go_num, Lib.hid (HW8.out.trans (B6.out.mono HW8.out.size))⟩
          case measure => simp [intOf]; omega
        · obtain rfl : j = 144 := by omega
          simp only [show ((144 : Nat) : Int) = 144 from rfl]
          have hre : RE wr none 0 0 [] := ⟨rfl, Nat.le_refl _, by omega, fun _ => rfl, fun j u hu => by cases hu⟩
          have hrs : RS wr none 0 0 (fun _ _ => 0) := ⟨Nat.le_refl _, by omega, fun k hk => absurd hk (by omega)⟩
          have HTW := Lib.hid ((HT.out.below HB.out HT0.out).below HD.out (by have := HT0.out; have := HB.out.size; omega))
          have HRE := Lib.hid hre
          have HRS := Lib.hid hrs
          clear hre hrs
          have HC := Lib.hid (counts_any (v := v0) HRE.out HTW.out : Calls Tryd.prog 3 _ wr fun e w' => e = .returned (.bool true) ∧ Below wr.heap.size wr w')
          have HS := Lib.hid fun (z : World) (hz : Below wr.heap.size wr z) => (sums_any (HRS.out.below hz) (fun _ _ => by show inI 0; unfold inI; decide) 0 (HTW.out.below hz HTW.out.lt) : Calls Tryd.prog 16 _ z fun e w' => e = .returned (.bool true) ∧ Below z.heap.size z w')
          have HAW := Lib.hid fun (z : World) (hz : Below wr.heap.size wr z) => awake_any (HTW.out.below hz HTW.out.lt)
          have HBR := Lib.hid (HB.out.trans (HD.out.mono HB.out.size))
          clear HB HD HR HE HT HT0 HRE HRS HTW HCAP
          go_wp2_with fail
          refine HC.out.mono ?_
          rintro e w5 ⟨rfl, hB5⟩
          have HB5 := Lib.hid hB5
          clear hB5
          go_wp2_with fail
          refine (HS.out _ HB5.out).mono ?_
          rintro e w6 ⟨rfl, hB6⟩
          have HB6 := Lib.hid (HB5.out.trans (hB6.mono HB5.out.size))
          clear hB6
          go_wp2_with fail
          refine (HAW.out _ HB6.out).mono ?_
          rintro e w7 ⟨rfl, hB7⟩
          have HB7 := Lib.hid (HB6.out.trans (hB7.mono HB6.out.size))
          clear hB7
          go_wp2_with fail
          go_ret
          exact ⟨rfl, HBR.out.trans (HB7.out.mono HBR.out.size)⟩
end Go.Proofs.YtfojhmobnedekaaDoor
