/- The walks of poly's back (an iterator from the end) and of degree. After the kit's worked text on slices.All. Conditions: rows are shorter than 2 to the 47. -/
import Derived.RangeFuncBox
import Derived.RangeFuncLeaves
import Derived.RangeFuncBound
import Derived.RangeFuncCalls
import Derived.RangeFuncNested
import Derived.Shelf.Abstract
import Derived.Shelf.RegionOpen
import Derived.WalkKit
import Derived.OwnWalkIn
import Derived.TacticsInMore
import Derived.LoopNIn
import Derived.LoopIn
import Derived.Test.YtokeoodkioobdaaSame
namespace Go.Proofs.Ytokeoodkioobdaa
open Go.RowKit Go.Shelf

attribute [local go_sem] Oper.semAt_some

/-- The places of a row of n, from the end: the first k. -/
def dn (n k : Nat) : List Nat := (List.range k).map fun i => n - 1 - i
theorem dn_succ (n k : Nat) : dn n (k + 1) = dn n k ++ [n - 1 - k] := by simp [dn, List.range_succ]
theorem length_dn (n k : Nat) : (dn n k).length = k := by simp [dn]

/-- What the iterator reads: the slice in its box, the bytes. -/
structure Rd (W : World) (Bs : Nat) (a : Option Addr) (n c : Nat) (zs : List Nat) : Prop where
  box : W.cell? ⟨Bs, 0, none⟩ = some (.slice a n c)
  at_ : ∀ j, j < n → ∃ b off, a = some ⟨b, off, none⟩ ∧ W.cell? ⟨b, off + j, none⟩ = some (.int .u8 (zs[j]?.getD 0 : Nat))
theorem rd_of {W : World} {Bs : Nat} {a : Option Addr} {n c : Nat} {zs : List Nat} (hb : W.cell? ⟨Bs, 0, none⟩ = some (.slice a n c)) (h : RB W a n c zs) : Rd W Bs a n c zs :=
  ⟨hb, fun j hj => by
    obtain ⟨b, off, e, hc⟩ := h.at_ j hj
    rw [List.getD_eq_getElem?_getD] at hc
    exact ⟨b, off, e, hc⟩⟩
/-- What a round keeps: what lay below n₀, and the box. -/
def Kb (n₀ Bs : Nat) (A B : World) : Prop := Below n₀ A B ∧ B.heap[Bs]? = A.heap[Bs]?
theorem kb_t {n₀ Bs : Nat} {A B C : World} (h : Kb n₀ Bs A B) (k : Kb n₀ Bs B C) : Kb n₀ Bs A C := ⟨h.1.trans k.1, k.2.trans h.2⟩
theorem kb_b {n₀ Bs : Nat} {w : World} (hn : n₀ ≤ w.heap.size) (hs : Bs < w.heap.size) (W : World) (l : Nat) (o o' : Obj) (hl : w.heap.size ≤ l) (h : W.heap[l]? = some o) (h1 : o.isCells = false) (h2 : o.isWalk = false) : Kb n₀ Bs W (W.putObj l o') :=
  ⟨belowK_b hn W l o o' hl h h1 h2, by
    have := grownBy_putObj' W l o'
    exact this.block Bs (by have := (Array.getElem?_eq_some_iff.1 h).1; omega) (fun e => by injection e; omega)⟩
theorem Kb.refl (n₀ Bs : Nat) (W : World) : Kb n₀ Bs W W := ⟨Below.refl _ _, rfl⟩
theorem Kb.setCell {n₀ Bs : Nat} {W : World} {p : Addr} (h1 : n₀ ≤ p.block) (h2 : Bs ≠ p.block) (v : Value) : Kb n₀ Bs W (W.setCell p v) := ⟨(Below.refl _ _).setCell h1 v, Below.heap_setCell W p v Bs h2⟩
theorem Kb.drawn {n₀ Bs : Nat} {A B : World} (h : Kb n₀ Bs A B) (q : Nat) : Kb n₀ Bs A (B.drewN q) := ⟨below_drewN h.1 q, h.2⟩
theorem Rd.kb {n₀ Bs : Nat} {A B : World} {a : Option Addr} {n c : Nat} {zs : List Nat} (h : Rd A Bs a n c zs) (hb : ∀ b off, a = some ⟨b, off, none⟩ → b < n₀) (k : Kb n₀ Bs A B) : Rd B Bs a n c zs :=
  ⟨(World.cell?_of_block k.2).trans h.box, fun j hj => by
    obtain ⟨b, off, e, hc⟩ := h.at_ j hj
    exact ⟨b, off, e, (k.1.cell (p := ⟨b, off + j, none⟩) (hb _ _ e)).trans hc⟩⟩

set_option maxRecDepth 100000 in
set_option maxHeartbeats 2000000 in
/-- The iterator itself. -/
theorem back1_in (F : Fence) (n : Nat) (h7 : F.fn 131) (hro : F.round = none) (hn : 1 ≤ n) (l Bs : Nat) (a : Option Addr) (len cap : Nat) (zs : List Nat) (hreach : len ≤ 140737488351232) (Kp : World → World → Prop) (hKp : ∀ A B, Kp A B → Rd A Bs a len cap zs → Rd B Bs a len cap zs) (J Jx : List Nat → World → Prop)
    (hY : ∀ pre x W, J pre W → pre.length < len → YieldAt F (n - 1) Try.prog l #[.int .i64 (x : Nat), .int .u8 (zs[x]?.getD 0 : Nat)] W fun e W' =>
      (e = .returned (.bool true) ∧ J (pre ++ [x]) W' ∧ Kp W W') ∨ (e = .returned (.bool false) ∧ Jx (pre ++ [x]) W'))
    (W : World) (hR : Rd W Bs a len cap zs) (h0 : J [] W) :
    CallsIn F n Try.prog 131 #[.func (.yield l) #[] #[], .pointer (some ⟨Bs, 0, none⟩)] W fun e W' => (∃ v, e = .returned v) ∧
      ((∃ ys, ys = dn len len ∧ J ys W') ∨ (∃ pre, (∃ k, k ≤ len ∧ pre = dn len k) ∧ Jx pre W')) := by
  have hbx := hR.box
  have HR := Lib.hid hR
  clear hR
  refine callsIn_of_wp Try.func131 rfl h7 ?_ hro
  simp only [Try.ntmps131, List.size_toArray, List.length_cons, List.length_nil, Nat.reduceAdd, Nat.reduceSub, Array.replicate_succ, Array.replicate_zero, List.push_toArray, List.append_toArray, List.nil_append, List.cons_append]
  gi_wp2
  gi_loopw [3] (fun i wr => ∃ m : Nat, m ≤ len ∧ i = .int .i64 ((m : Int) - 1) ∧ J (dn len (len - m)) wr ∧ Hid (Rd wr Bs a len cap zs))
    (fun i _ => (intOf i + 1).toNat)
  case atStart => exact ⟨len, Nat.le_refl _, rfl, by rw [Nat.sub_self]; exact h0, HR⟩
  case round =>
    clear hbx
    obtain ⟨m, hm, rfl, hJs, hnx⟩ := hrel
    have hsl := hnx.out.box
    cases m with
    | zero =>
      simp only [show ((0 : Nat) : Int) - 1 = -1 from rfl]
      gi_wp2
      refine ⟨fun _ h => (by cases h), ?_⟩
      gi_wp2
      go_end0
      exact ⟨⟨_, rfl⟩, .inl ⟨_, rfl, hJs⟩⟩
    | succ j =>
      simp only [show ((j + 1 : Nat) : Int) - 1 = (j : Int) from by omega]
      obtain ⟨b, off, rfl, hcx⟩ := hnx.out.at_ j (by omega)
      obtain ⟨fn, tmps, assign, body, hy, hR⟩ := hY _ j wr hJs (by rw [length_dn]; omega)
      have hst : dn len (len - (j + 1)) ++ [j] = dn len (len - j) := by
        rw [show len - j = len - (j + 1) + 1 by omega, dn_succ, show len - 1 - (len - (j + 1)) = j by omega]
      have HST := Lib.hid hst
      clear hst
      gi_wp2
      refine hR.mono ?_
      rintro e W3 (⟨rfl, hJ3, hk3⟩ | ⟨rfl, hJx3⟩)
      · have h3 := Lib.hid (hKp _ _ hk3 hnx.out)
        clear hnx
        gi_wp2
        go_roundw
        case rel => exact ⟨j, by omega, by go_num, by rw [← HST.out]; exact hJ3, h3⟩
        case measure => simp [intOf]
      · gi_wp2
        go_end0
        exact ⟨⟨_, rfl⟩, .inr ⟨_, ⟨len - j, by omega, HST.out⟩, hJx3⟩⟩

set_option maxHeartbeats 1000000 in
/-- back: the slice is boxed; the function value captures the box. -/
theorem back_in (F : Fence) (n : Nat) (h6 : F.fn 110) (hro : F.round = none) (a : Option Addr) (len cap : Nat) (w : World) :
    CallsIn F n Try.prog 110 #[.slice a len cap] w fun e w' => e = .returned (.func (.func 131) #[] #[.pointer (some ⟨w.heap.size, 0, none⟩)]) ∧ w' = w.alloc (.cells #[.slice a len cap] 31) := by
  refine callsIn_of_wp Try.func110 rfl h6 ?_ hro
  simp only [Try.ntmps110, List.size_toArray, List.length_cons, List.length_nil, Nat.reduceAdd, Nat.reduceSub, Array.replicate_succ, Array.replicate_zero, List.push_toArray, List.append_toArray, List.nil_append, List.cons_append]
  gi_wp2
  go_ret
  exact ⟨rfl, rfl⟩

/-- What back's value keeps to. -/
theorem back_stops (F : Fence) (n : Nat) (h8 : F.fn 131) (hro : F.round = none) (hn : 1 ≤ n) (Bs n₀ : Nat) (a : Option Addr) (len cap : Nat) (zs : List Nat) (hreach : len ≤ 140737488351232) (w : World) (hBs : Bs < w.heap.size) (hn₀ : n₀ ≤ w.heap.size)
    (hb : ∀ b off, a = some ⟨b, off, none⟩ → 0 < len → b < n₀) (hR : Rd w Bs a len cap zs) :
    SeqStopsK F n Try.prog 131 #[.pointer (some ⟨Bs, 0, none⟩)] (fun x : Nat => #[Value.int .i64 (x : Nat), Value.int .u8 (zs[x]?.getD 0 : Nat)]) (Kb n₀ Bs) (fun ys => ys = dn len len) (fun pre => ∃ k, k ≤ len ∧ pre = dn len k) len w := fun l J Jx W hW _ _ hY h0 => by
  have hk : ∀ A B, Kb n₀ Bs A B → Rd A Bs a len cap zs → Rd B Bs a len cap zs := fun A B k h => ⟨(World.cell?_of_block k.2).trans h.box, fun j hj => by
    obtain ⟨b, off, e, hc⟩ := h.at_ j hj
    exact ⟨b, off, e, (k.1.cell (p := ⟨b, off + j, none⟩) (hb _ _ e (by omega))).trans hc⟩⟩
  exact back1_in F n h8 hro hn l Bs a len cap zs hreach (Kb n₀ Bs) hk J Jx hY W (hk w W ⟨hW.mono hn₀, hW.block Bs hBs⟩ hR) h0
end Go.Proofs.Ytokeoodkioobdaa
