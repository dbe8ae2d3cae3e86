/- Small laws that all walks of this seat share; what a stat is. No condition beyond each law's own. -/
import Derived.Test.YtfojhmobnedekaaDoorProg
import Derived.Test.YtfojhmobnedekaaDoorLies
import Derived.WalkKit
import Derived.WalkSpells
import Derived.WalkLawsBesides
import Derived.Outline
import Derived.Handy
import Derived.Great.BuildSlice
import Derived.RegionTactic
import Derived.BigRegion
import Derived.Lib.Hide
import Derived.Deep.QuietTactic
import Derived.BigQuiet
import Derived.Deep.DeepCutAuto
import Derived.Deep.RegionHeld3
namespace Go.Proofs.YtfojhmobnedekaaDoor
open Go.RowKit

/-- A callee that leaves the world alone, within a region that draws. -/
theorem quiet_same {P : Program} {f : FuncId} {args : Array Value} {w : World} {n : Nat} {v : Value}
    (h : Calls P f args (w.drewN n) fun e w' => e = .returned v ∧ w.drewN n = w') : Calls P f args (w.drewN n) fun e w'' => e = .returned v ∧ ∃ m, w'' = w.drewN m :=
  h.mono fun _ _ ⟨he, hm⟩ => ⟨he, n, hm.symm⟩
theorem frozen_of_block {w : World} {g j : Nat} {cs : Array Value} {t : TypeId} (hg : w.heap[g]? = some (.cells cs t (0, 0))) : w.frozen? ⟨g, j, none⟩ = false := frozen_of_row w g j cs t hg
theorem cell_of_block {w : World} {g j : Nat} {cs : Array Value} {t : TypeId} {fr : Nat × Nat} (hg : w.heap[g]? = some (.cells cs t fr)) : w.cell? ⟨g, j, none⟩ = cs[j]? := cell_of_row w g j cs t fr hg
/-- A world that parts from another one in draws alone. -/
def Drawn (w wr : World) : Prop := ∃ q, wr = w.drewN q
theorem Drawn.refl (w : World) : Drawn w w := ⟨0, rfl⟩
theorem Drawn.more {w wr : World} (h : Drawn w wr) (q : Nat) : Drawn w (wr.drewN q) := by
  obtain ⟨p, rfl⟩ := h; exact ⟨p + q, by simp⟩
theorem Drawn.cell {w wr : World} (h : Drawn w wr) (p : Addr) : wr.cell? p = w.cell? p := by obtain ⟨q, rfl⟩ := h; rfl
theorem Drawn.heap {w wr : World} (h : Drawn w wr) : wr.heap = w.heap := by obtain ⟨q, rfl⟩ := h; rfl

/-- All but one block that lay there is as it was. -/
structure Kb (ch : Nat) (w w' : World) : Prop where
  os : w'.os = w.os
  tape : w'.tape = w.tape
  output : w'.output = w.output
  size : w.heap.size ≤ w'.heap.size
  block : ∀ g, g < w.heap.size → g ≠ ch → w'.heap[g]? = w.heap[g]?
theorem Kb.trans {ch : Nat} {a b c : World} (h : Kb ch a b) (k : Kb ch b c) : Kb ch a c :=
  ⟨k.os.trans h.os, k.tape.trans h.tape, k.output.trans h.output, Nat.le_trans h.size k.size, fun g hg hn => (k.block g (Nat.lt_of_lt_of_le hg h.size) hn).trans (h.block g hg hn)⟩
theorem Kb.of_below {ch : Nat} {a b : World} (h : Below a.heap.size a b) : Kb ch a b := ⟨h.os, h.tape, h.output, h.size, fun g hg _ => h.block g hg⟩
theorem Kb.setCell (w : World) (ch k : Nat) (u : Value) : Kb ch w (w.setCell ⟨ch, k, none⟩ u) :=
  ⟨rfl, rfl, rfl, by simp [World.setCell], fun g _ hn => heap_setCell_other w _ g u hn⟩
theorem Kb.below {ch B : Nat} {a b c : World} (h : Below B a b) (k : Kb ch b c) (hc : B ≤ ch) (hb : B ≤ b.heap.size) : Below B a c :=
  h.trans ⟨k.os, k.tape, k.output, k.size, fun g hg => k.block g (Nat.lt_of_lt_of_le hg hb) (by omega)⟩
theorem Kb.cell {ch : Nat} {a b : World} (h : Kb ch a b) {p : Addr} {v : Value} (hc : a.cell? p = some v) (hn : p.block ≠ ch) : b.cell? p = some v := by
  rw [← hc]
  unfold World.cell?
  rw [h.block p.block (block_lt_of_cell hc) hn]

/-- A stat, as its nineteen numbers. -/
def stC (v : Nat → Int) : Array Value := #[.int .i64 (v 0), .int .i64 (v 1), .int .i64 (v 2), .int .i64 (v 3), .int .i64 (v 4), .int .i64 (v 5), .int .i64 (v 6), .int .i64 (v 7), .int .i64 (v 8), .int .i64 (v 9), .int .i64 (v 10), .int .i64 (v 11), .int .i64 (v 12), .int .i64 (v 13), .int .i64 (v 14), .int .i64 (v 15), .int .i64 (v 16), .int .i64 (v 17), .int .i64 (v 18)]
def upd (v : Nat → Int) (k : Nat) (x : Int) : Nat → Int := fun i => if i = k then x else v i
theorem stC_at (v : Nat → Int) {k : Nat} (h : k < 19) : (stC v)[k]? = some (.int .i64 (v k)) := by
  have : k = 0 ∨ k = 1 ∨ k = 2 ∨ k = 3 ∨ k = 4 ∨ k = 5 ∨ k = 6 ∨ k = 7 ∨ k = 8 ∨ k = 9 ∨ k = 10 ∨ k = 11 ∨ k = 12 ∨ k = 13 ∨ k = 14 ∨ k = 15 ∨ k = 16 ∨ k = 17 ∨ k = 18 := by omega
  rcases this with rfl | rfl | rfl | rfl | rfl | rfl | rfl | rfl | rfl | rfl | rfl | rfl | rfl | rfl | rfl | rfl | rfl | rfl | rfl <;> rfl
theorem size_stC (v : Nat → Int) : (stC v).size = 19 := rfl
theorem stC_set (v : Nat → Int) {k : Nat} (x : Int) (h : k < 19) : (stC v).setIfInBounds k (.int .i64 x) = stC (upd v k x) := by
  apply Array.ext_getElem?
  intro i
  rw [Array.getElem?_setIfInBounds, size_stC]
  by_cases hi : i < 19
  · rw [stC_at _ hi, stC_at _ hi]
    unfold upd
    by_cases e : k = i
    · rw [if_pos e, if_pos (by omega), if_pos e.symm]
    · rw [if_neg e, if_neg (fun e2 => e e2.symm)]
  · rw [Array.getElem?_eq_none (by rw [size_stC]; omega), Array.getElem?_eq_none (by rw [size_stC]; omega)]
    split <;> (try rfl)
    exact absurd (show i < 19 by omega) hi
def StAt (ty : TypeId) (w : World) (b : Nat) (v : Nat → Int) : Prop := w.heap[b]? = some (.cells (stC v) ty (0, 0))
theorem StAt.cell {ty : TypeId} {w : World} {b : Nat} {v : Nat → Int} (h : StAt ty w b v) {k : Nat} (hk : k < 19) : w.cell? ⟨b, k, none⟩ = some (.int .i64 (v k)) := by
  rw [cell_of_block h]; exact stC_at v hk
theorem StAt.froz {ty : TypeId} {w : World} {b : Nat} {v : Nat → Int} (h : StAt ty w b v) (k : Nat) : w.frozen? ⟨b, k, none⟩ = false := frozen_of_block h
theorem StAt.lt {ty : TypeId} {w : World} {b : Nat} {v : Nat → Int} (h : StAt ty w b v) : b < w.heap.size := (Array.getElem?_eq_some_iff.1 h).1
theorem StAt.set {ty : TypeId} {w : World} {b : Nat} {v : Nat → Int} (h : StAt ty w b v) {k : Nat} (x : Int) (hk : k < 19) : StAt ty (w.setCell ⟨b, k, none⟩ (.int .i64 x)) b (upd v k x) := by
  have := heap_setCell_same w b k _ ty (.int .i64 x) h
  rw [stC_set v x hk] at this
  exact this
theorem StAt.below {ty : TypeId} {w w' : World} {b B : Nat} {v : Nat → Int} (h : StAt ty w b v) (hB : Below B w w') (hb : b < B) : StAt ty w' b v := (hB.block b hb).trans h
/-- A count that is held between none and the most. -/
def hl (n : Int) : Int := min (max n 0) 2147483647
def ad (a b : Int) : Int := hl (hl a + hl b)
theorem hl_le (n : Int) : 0 ≤ hl n ∧ hl n ≤ 2147483647 := by unfold hl; omega
def mayI (k n : Int) : Bool := if k = 1 ∨ k = 7 then decide (0 ≤ n ∧ n ≤ 2147483647) else if k = 2 then decide (1 ≤ n ∧ n ≤ 7) else if k = 3 then decide (1 ≤ n ∧ n ≤ 3) else if k = 4 ∨ k = 5 ∨ k = 6 then decide (n = 0) else false
/-- What an event that may be makes of a stat. -/
def cnt (v : Nat → Int) (k n : Int) : Nat → Int :=
  if k = 1 then upd (upd v 0 (ad (v 0) 1)) 1 (ad (v 1) n)
  else if k = 2 then upd (upd v 2 (ad (v 2) 1)) (3 + n.toNat) (ad (v (3 + n.toNat)) 1)
  else if k = 3 then upd v (11 + n.toNat) (ad (v (11 + n.toNat)) 1)
  else if k = 4 then upd v 15 (ad (v 15) 1)
  else if k = 5 then upd v 16 (ad (v 16) 1)
  else if k = 6 then upd v 17 (ad (v 17) 1)
  else upd v 18 (ad (v 18) n)

theorem within_any (n l m : Int) (w : World) : Calls Tryd.prog 23 #[.int .i64 n, .int .i64 l, .int .i64 m] w fun e w' => e = .returned (.bool (decide (l ≤ n ∧ n ≤ m))) ∧ w = w' := by
  by_cases h1 : l ≤ n
  · by_cases h2 : n ≤ m
    · rw [decide_eq_true ⟨h1, h2⟩]
      have d1 : decide (l ≤ n) = true := decide_eq_true h1
      have d2 : decide (n ≤ m) = true := decide_eq_true h2
      clear h1 h2
      go_enter Tryd.func23, Tryd.ntmps23
      go_wp2_with fail
      go_ret
      exact ⟨rfl, rfl⟩
    · rw [decide_eq_false (fun h => h2 h.2)]
      have d1 : decide (l ≤ n) = true := decide_eq_true h1
      have d2 : decide (n ≤ m) = false := decide_eq_false h2
      clear h1 h2
      go_enter Tryd.func23, Tryd.ntmps23
      go_wp2_with fail
      go_ret
      exact ⟨rfl, rfl⟩
  · rw [decide_eq_false (fun h => h1 h.1)]
    have d1 : decide (l ≤ n) = false := decide_eq_false h1
    clear h1
    go_enter Tryd.func23, Tryd.ntmps23
    go_wp2_with fail
    go_ret
    exact ⟨rfl, rfl⟩
theorem held_any (n : Int) (w : World) : Calls Tryd.prog 40 #[.int .i64 n] w fun e w' => e = .returned (.int .i64 (hl n)) ∧ w = w' := by
  by_cases h : n < 0
  · rw [show hl n = 0 by unfold hl; omega]
    go_enter Tryd.func40, Tryd.ntmps40
    go_wp2_with fail
    go_ret
    exact ⟨rfl, rfl⟩
  · by_cases h2 : 2147483647 < n
    · rw [show hl n = 2147483647 by unfold hl; omega]
      go_enter Tryd.func40, Tryd.ntmps40
      go_wp2_with fail
      go_ret
      exact ⟨rfl, rfl⟩
    · rw [show hl n = n by unfold hl; omega]
      go_enter Tryd.func40, Tryd.ntmps40
      go_wp2_with fail
      go_ret
      exact ⟨rfl, rfl⟩
theorem ad_wrap (a b : Int) : IntKind.i64.wrap (hl a + hl b) = hl a + hl b := IntWalk.i64_in _ (by have := hl_le a; have := hl_le b; omega)
set_option maxRecDepth 100000 in
/-- more: one count of a stat grows. -/
theorem more_any {w : World} {b k : Nat} {x by_ : Int} (hc : w.cell? ⟨b, k, none⟩ = some (.int .i64 x)) (hf : w.frozen? ⟨b, k, none⟩ = false) :
    Calls Tryd.prog 33 #[.pointer (some ⟨b, k, none⟩), .int .i64 by_] w fun e w' => e = .returned (.tuple #[]) ∧ w' = w.setCell ⟨b, k, none⟩ (.int .i64 (ad x by_)) := by
  have H1 := Lib.hid fun w => held_any x w
  have H2 := Lib.hid fun w => held_any by_ w
  have hw := ad_wrap x by_
  unfold ad
  generalize hl x = p at *
  generalize hl by_ = q at *
  have H3 := Lib.hid fun w => held_any (p + q) w
  generalize hl (p + q) = r at *
  go_enter Tryd.func33, Tryd.ntmps33
  go_wp2_with fail
  refine (H1.out _).mono ?_
  rintro e w1 ⟨rfl, rfl⟩
  go_wp2_with fail
  refine (H2.out _).mono ?_
  rintro e w1 ⟨rfl, rfl⟩
  go_wp2_with fail
  refine (H3.out _).mono ?_
  rintro e w1 ⟨rfl, rfl⟩
  go_wp2_with fail
  exact bodyPost_end (v := .tuple #[]) (results_none rfl _ _ _) rfl ⟨rfl, rfl⟩
end Go.Proofs.YtfojhmobnedekaaDoor
