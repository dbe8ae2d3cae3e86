/- The walk of the iterator over a stat's counts. No condition. -/
import Derived.RangeFuncBox
import Derived.RangeFuncLeaves
import Derived.RangeFuncBound
import Derived.RangeFuncCalls
import Derived.RangeFuncNested
import Derived.Shelf.Abstract
import Derived.Shelf.RegionOpen
import Derived.WalkKit
import Derived.OwnWalkIn
import Derived.TacticsInMore
import Derived.LoopNIn
import Derived.LoopIn
import Derived.Test.YtfojhmobnedekaaDoorS3
namespace Go.Proofs.YtfojhmobnedekaaDoor
open Go.RowKit Go.Shelf

attribute [local go_sem] Oper.semAt_some

/-- What the iterator reads: the slice in its box, the entries. -/
structure Rd (W : World) (bx g cap b : Nat) : Prop where
  box : W.cell? ⟨bx, 0, none⟩ = some (.slice (some ⟨g, 0, none⟩) 17 cap)
  at0 : ∀ k, k < 17 → W.cell? ⟨g, k * 2, none⟩ = some (.string (wd k))
  at1 : ∀ k, k < 17 → W.cell? ⟨g, k * 2 + 1, none⟩ = some (.pointer (some ⟨b, of_ k, none⟩))
/-- What a round keeps: the box, and the entries. -/
structure Kt (bx g : Nat) (A B : World) : Prop where
  size : A.heap.size ≤ B.heap.size
  box : B.heap[bx]? = A.heap[bx]?
  row : B.heap[g]? = A.heap[g]?
theorem Kt.refl (bx g : Nat) (A : World) : Kt bx g A A := ⟨Nat.le_refl _, rfl, rfl⟩
theorem Kt.trans {bx g : Nat} {A B C : World} (h : Kt bx g A B) (k : Kt bx g B C) : Kt bx g A C := ⟨Nat.le_trans h.size k.size, k.box.trans h.box, k.row.trans h.row⟩
theorem Kt.putObj {bx g : Nat} {w : World} (h1 : bx < w.heap.size) (h2 : g < w.heap.size) (W : World) (l : Nat) (o o' : Obj) (hl : w.heap.size ≤ l) (_ : W.heap[l]? = some o) (_ : o.isCells = false) (_ : o.isWalk = false) : Kt bx g W (W.putObj l o') :=
  ⟨by simp, World.putObj_heap_other (by omega), World.putObj_heap_other (by omega)⟩
theorem Rd.kt {A B : World} {bx g cap b : Nat} (h : Rd A bx g cap b) (k : Kt bx g A B) : Rd B bx g cap b :=
  ⟨(World.cell?_of_block k.box).trans h.box, fun i hi => (World.cell?_of_block k.row).trans (h.at0 i hi), fun i hi => (World.cell?_of_block k.row).trans (h.at1 i hi)⟩
theorem Kt.grown {bx g : Nat} {A B : World} (h : A.grownBy B none) (h1 : bx < A.heap.size) (h2 : g < A.heap.size) : Kt bx g A B := ⟨h.size, h.block bx h1 (by simp), h.block g h2 (by simp)⟩
theorem Kt.below {bx g n : Nat} {A B : World} (h : Below n A B) (h1 : bx < n) (h2 : g < n) : Kt bx g A B := ⟨h.size, h.block bx h1, h.block g h2⟩
theorem grow_alloc (w : World) (o : Obj) : w.grownBy (w.alloc o) none := World.grownBy_alloc w o none

set_option maxRecDepth 100000 in
set_option maxHeartbeats 2000000 in
/-- The iterator itself. -/
theorem iter_in (F : Fence) (n : Nat) (h7 : F.fn 39) (hro : F.round = none) (hn : 1 ≤ n) (l bx g cap b : Nat) (J Jx : List Nat → World → Prop) (W : World)
    (hJ : AbidesFrom W.heap.size J)
    (hY : ∀ pre x W1, J pre W1 → pre.length < 17 → YieldAt F (n - 1) Tryd.prog l #[.agg #[.string (wd x), .pointer (some ⟨b, of_ x, none⟩)]] W1 fun e W' =>
      (e = .returned (.bool true) ∧ J (pre ++ [x]) W' ∧ Kt bx g W1 W') ∨ (e = .returned (.bool false) ∧ Jx (pre ++ [x]) W'))
    (hR : Rd W bx g cap b) (h0 : J [] W) :
    CallsIn F n Tryd.prog 39 #[.func (.yield l) #[] #[], .pointer (some ⟨bx, 0, none⟩)] W fun e W' => (∃ v, e = .returned v) ∧
      ((∃ ys, ys = List.range 17 ∧ J ys W') ∨ (∃ pre, (∃ k, k ≤ 17 ∧ pre = List.range k) ∧ Jx pre W')) := by
  have hbx := hR.box
  have HR := Lib.hid hR
  clear hR
  refine callsIn_of_wp Tryd.func39 rfl h7 ?_ hro
  simp only [Tryd.ntmps39, List.size_toArray, List.length_cons, List.length_nil, Nat.reduceAdd, Nat.reduceSub, Array.replicate_succ, Array.replicate_zero, List.push_toArray, List.append_toArray, List.nil_append, List.cons_append]
  gi_wp2
  clear hbx
  gi_loopw [7] (fun i wr => ∃ m : Nat, m ≤ 17 ∧ i = .int .i64 (m : Int) ∧ J (List.range m) wr ∧ Hid (Rd wr bx g cap b) ∧ W.heap.size ≤ wr.heap.size)
    (fun i _ => 17 - (intOf i).toNat)
  case atStart => exact ⟨0, Nat.zero_le _, rfl, h0, HR, Nat.le_refl _⟩
  case round =>
    obtain ⟨m, hm, rfl, hJs, hnx, hsz⟩ := hrel
    by_cases hm1 : m < 17
    · have c0 := hnx.out.at0 m hm1
      have c1 := hnx.out.at1 m hm1
      have q0 : decide ((m : Int) < 17) = true := by simp; omega
      have hJ2 := hJ _ _ _ none hJs (grow_alloc wr (.cells #[.string (wd m), .pointer (some ⟨b, of_ m, none⟩)] 63)) (fun r e => by cases e)
      have hbl : bx < wr.heap.size ∧ g < wr.heap.size := ⟨block_lt_of_cell hnx.out.box, block_lt_of_cell c0⟩
      have HA := Lib.hid (hnx.out.kt (Kt.grown (grow_alloc wr (.cells #[.string (wd m), .pointer (some ⟨b, of_ m, none⟩)] 63)) hbl.1 hbl.2))
      obtain ⟨fn, tmps, assign, body, hy, hR⟩ := hY _ m _ hJ2 (by rw [List.length_range]; exact hm1)
      have HST := Lib.hid (List.range_succ (n := m))
      clear hJ2 hnx
      gi_wp2
      refine hR.mono ?_
      rintro e W3 (⟨rfl, hJ3, hk3⟩ | ⟨rfl, hJx3⟩)
      · have h3 := Lib.hid (HA.out.kt hk3)
        have hz3 := hk3.size
        rw [World.size_alloc] at hz3
        clear hk3
        gi_wp2
        go_roundw
        case rel => exact ⟨m + 1, by omega, by go_num, by rw [HST.out]; exact hJ3, h3, by omega⟩
        case measure => simp [intOf]; omega
      · gi_wp2
        refine bodyPost_ret (results_none rfl _ _ _) rfl ?_
        exact ⟨⟨_, rfl⟩, .inr ⟨_, ⟨m + 1, by omega, HST.out.symm⟩, hJx3⟩⟩
    · obtain rfl : m = 17 := by omega
      simp only [show ((17 : Nat) : Int) = 17 from rfl]
      gi_wp2
      go_end0
      exact ⟨⟨_, rfl⟩, .inl ⟨_, rfl, hJs⟩⟩

/-- What table's value keeps to. -/
theorem table_stops (F : Fence) (n : Nat) (h8 : F.fn 39) (hro : F.round = none) (hn : 1 ≤ n) (bx g cap b : Nat) (w : World) (hR : Rd w bx g cap b) :
    SeqStopsK F n Tryd.prog 39 #[.pointer (some ⟨bx, 0, none⟩)] (fun x : Nat => #[Value.agg #[.string (wd x), .pointer (some ⟨b, of_ x, none⟩)]]) (Kt bx g) (fun ys => ys = List.range 17) (fun pre => ∃ k, k ≤ 17 ∧ pre = List.range k) 17 w := fun l J Jx W hW hJ _ hY h0 =>
  iter_in F n h8 hro hn l bx g cap b J Jx W hJ hY (hR.kt (Kt.below hW (block_lt_of_cell hR.box) (block_lt_of_cell (hR.at0 0 (by omega))))) h0
end Go.Proofs.YtfojhmobnedekaaDoor
