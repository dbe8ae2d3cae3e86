/- Arrays of ints that a law fills; what one event more adds. No condition. -/
import Derived.Test.YtfojhmobnedekaaDoorEq
import Derived.Test.YtfojhmobnedekaaDoorStM
import Derived.Deep.MidRow
namespace Go.Proofs.YtfojhmobnedekaaDoor
open Go.RowKit

def ilist (n : Nat) (u : Nat → Int) : List Value := (List.range n).map fun j => Value.int .i64 (u j)
def iarr (n : Nat) (u : Nat → Int) : Array Value := (ilist n u).toArray
theorem size_iarr (n : Nat) (u : Nat → Int) : (iarr n u).size = n := by simp [iarr, ilist]
theorem iarr_at {n j : Nat} (u : Nat → Int) (h : j < n) : (iarr n u)[j]? = some (.int .i64 (u j)) := by simp [iarr, ilist, h]
theorem iarr_congr {n : Nat} {u v : Nat → Int} (h : ∀ j, j < n → u j = v j) : iarr n u = iarr n v := by
  unfold iarr ilist
  congr 1
  exact List.map_congr_left fun j hj => by rw [h j (List.mem_range.1 hj)]
theorem iarr_one (n : Nat) (u : Nat → Int) : ∀ x ∈ (iarr n u).toList, x.oneCell' = true := fun x hx => by
  simp only [iarr, ilist, List.mem_map] at hx
  obtain ⟨j, _, rfl⟩ := hx
  rfl
def IntsAt (ty : TypeId) (n : Nat) (w : World) (b : Nat) (u : Nat → Int) : Prop := w.heap[b]? = some (.cells (iarr n u) ty (0, 0))
theorem IntsAt.cell {ty : TypeId} {n : Nat} {w : World} {b : Nat} {u : Nat → Int} (h : IntsAt ty n w b u) {j : Nat} (hj : j < n) : w.cell? ⟨b, j, none⟩ = some (.int .i64 (u j)) := (cell_of_block h).trans (iarr_at u hj)
theorem IntsAt.froz {ty : TypeId} {n : Nat} {w : World} {b : Nat} {u : Nat → Int} (h : IntsAt ty n w b u) (j : Nat) : w.frozen? ⟨b, j, none⟩ = false := frozen_of_block h
theorem IntsAt.lt {ty : TypeId} {n : Nat} {w : World} {b : Nat} {u : Nat → Int} (h : IntsAt ty n w b u) : b < w.heap.size := (Array.getElem?_eq_some_iff.1 h).1
theorem IntsAt.below {ty : TypeId} {n : Nat} {w w' : World} {b B : Nat} {u : Nat → Int} (h : IntsAt ty n w b u) (hB : Below B w w') (hb : b < B) : IntsAt ty n w' b u := (hB.block b hb).trans h
theorem IntsAt.congr {ty : TypeId} {n : Nat} {w : World} {b : Nat} {u v : Nat → Int} (h : IntsAt ty n w b u) (e : ∀ j, j < n → u j = v j) : IntsAt ty n w b v := by
  unfold IntsAt at *; rw [h, iarr_congr e]
theorem IntsAt.set {ty : TypeId} {n : Nat} {w : World} {b : Nat} {u : Nat → Int} (h : IntsAt ty n w b u) {j : Nat} (x : Int) (hj : j < n) : IntsAt ty n (w.setCell ⟨b, j, none⟩ (.int .i64 x)) b (upd u j x) := by
  have := heap_setCell_same w b j _ ty (.int .i64 x) h
  unfold IntsAt
  rw [this]
  congr 2
  apply Array.ext_getElem?
  intro i
  rw [Array.getElem?_setIfInBounds, size_iarr]
  by_cases hi : i < n
  · rw [iarr_at _ hi, iarr_at _ hi]
    unfold upd
    by_cases e : j = i
    · rw [if_pos e, if_pos (by omega), if_pos e.symm]
    · rw [if_neg e, if_neg (fun e2 => e e2.symm)]
  · rw [Array.getElem?_eq_none (by rw [size_iarr]; omega), Array.getElem?_eq_none (by rw [size_iarr]; omega)]
    split <;> (try rfl)
    omega
theorem IntsAt.other {ty : TypeId} {n : Nat} {w : World} {b c j : Nat} {u : Nat → Int} {v : Value} (h : IntsAt ty n w b u) (hn : b ≠ c) : IntsAt ty n (w.setCell ⟨c, j, none⟩ v) b u := (heap_setCell_other w ⟨c, j, none⟩ b v hn).trans h
theorem StAt.other {ty : TypeId} {w : World} {b c j : Nat} {u : Nat → Int} {v : Value} (h : StAt ty w b u) (hn : b ≠ c) : StAt ty (w.setCell ⟨c, j, none⟩ v) b u := (heap_setCell_other w ⟨c, j, none⟩ b v hn).trans h
theorem eq_iarr {t : TypeId} {n : Nat} (ht : Tryd.prog.underlying t = some (.array n 3)) (u : Nat → Int) (w : World) : (Op.equalIn 10000 t (.agg (iarr n u)) (.agg (iarr n u))).run Tryd.prog w = .ok true w := by
  rw [eqArr ht 9998 u u w _ _ (fun i hi => iarr_at u hi) (fun i hi => iarr_at u hi)]
  rw [(allEq_iff u u _).2 (fun _ _ => rfl)]
theorem tot_snoc {l : List (Int × Int)} {k : Nat} {x y : Int} (h : l[k]? = some (x, y)) (i : Nat) : tot i (l.take (k + 1)) = tot i (l.take k) + evC i x y := by
  obtain ⟨hk, he⟩ := List.getElem?_eq_some_iff.1 h
  rw [List.take_succ_eq_append_getElem hk, he, tot_append]
  congr 1
  simp [tot]
theorem evC_no {i : Nat} {x y : Int} (h : mayI x y = false) : evC i x y = 0 := by unfold evC; rw [if_pos h]
theorem evC_le {i : Nat} (h : i ≠ 1 ∧ i ≠ 18) (x y : Int) : evC i x y ≤ 1 := by
  unfold evC
  repeat' split
  all_goals omega
theorem tot_le {i : Nat} (h : i ≠ 1 ∧ i ≠ 18) : ∀ l : List (Int × Int), tot i l ≤ l.length
  | [] => by simp [tot]
  | p :: l => by
    have := evC_le h p.1 p.2
    have := tot_le h l
    unfold tot at *
    simp only [List.map_cons, List.sum_cons, List.length_cons]; omega
theorem evC_k1 {i : Nat} {y : Int} (h : mayI 1 y = true) : evC i 1 y = if i = 0 then 1 else if i = 1 then y else 0 := by unfold evC; rw [if_neg (by simp [h])]; rfl
theorem evC_k7 {i : Nat} {y : Int} (h : mayI 7 y = true) : evC i 7 y = if i = 18 then y else 0 := by unfold evC; rw [if_neg (by simp [h])]; simp
theorem evC_k2 {i m : Nat} (h : mayI 2 (m : Nat) = true) : evC i 2 (m : Nat) = if i = 2 then 1 else if i = 3 + m then 1 else 0 := by unfold evC; rw [if_neg (by simp [h])]; simp
theorem evC_k3 {i m : Nat} (h : mayI 3 (m : Nat) = true) : evC i 3 (m : Nat) = if i = 11 + m then 1 else 0 := by unfold evC; rw [if_neg (by simp [h])]; simp
theorem evC_k456 {i : Nat} {x y : Int} (h : mayI x y = true) (hx : x = 4 ∨ x = 5 ∨ x = 6) : evC i x y = (if x = 4 then (if i = 15 then 1 else 0) else if x = 5 then (if i = 16 then 1 else 0) else (if i = 17 then 1 else 0)) := by
  unfold evC; rw [if_neg (by simp [h])]
  rcases hx with rfl | rfl | rfl <;> simp
theorem wpList_load_midG {P : Program} {ops : Array Oper} {rest : List Oper} {o : Oper} {a : Act} {w : World} {Q : Exit → Act → World → Prop} (hgd : Region.wanted o (yielded ops a.tmps) = true) (ty : TypeId) (x : Operand) (ho : o.op = .load ty x)
    (b off : Nat) (hx : a.eval x = .pointer (some ⟨b, off, none⟩)) (cs : List Value) (d : TypeDesc) (hc : w.rangeAt b off cs)
    (hu : P.underlying ty = some d) (hd : d.isRow = true) (hi : (P.info? ty).map (·.size) = some cs.length)
    (h : wpList P ops Q rest (a.put o.dst (.agg cs.toArray)) w) : wpList P ops Q (o :: rest) a w :=
  wpList_taken hgd fun _ hK => wp_load_mid ty x ho b off hx cs d hc hu hd hi (hK _ _ h)
end Go.Proofs.YtfojhmobnedekaaDoor
