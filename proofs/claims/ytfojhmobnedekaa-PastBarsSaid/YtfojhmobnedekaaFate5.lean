/- The walks of what puts a landing into the channel. Conditions: it has room. -/
import Derived.Test.YtfojhmobnedekaaFate4
import Derived.Test.YtfojhmobnedekaaChan
import Derived.Deep.DeepCutAuto
namespace Go.Proofs.Ytfojhmobnedekaa
open Go.RowKit Go.Conc

set_option maxHeartbeats 800000 in
set_option maxRecDepth 100000 in
theorem put_any {w : World} {due place : Int} {a : Option Addr} {n c p ch s r : Nat} {buf : Array Value} (hp : w.cell? ⟨p, 0, none⟩ = some (.chan (some ch))) (hc : w.heap[ch]? = some (.chan 2 buf false s r false)) (hb : buf.size < 2) :
    Calls Try.prog 61 #[.agg #[.int .i64 due, .int .i64 place, .slice a n c], .pointer (some ⟨p, 0, none⟩)] w fun e w' => e = .returned (.tuple #[]) ∧
      w' = (w.alloc (.cells #[.int .i64 due, .int .i64 place, .slice a n c] 39)).setChan ch 2 (buf.push (.agg #[.int .i64 due, .int .i64 place, .slice a n c])) false (s + 1) r false := by
  have hp2 : (w.alloc (.cells #[.int .i64 due, .int .i64 place, .slice a n c] 39)).cell? ⟨p, 0, none⟩ = some (.chan (some ch)) := ((Below.refl _ _).alloc (Nat.le_refl _) _).cell (block_lt_of_cell hp) |>.trans hp
  have hc2 : (w.alloc (.cells #[.int .i64 due, .int .i64 place, .slice a n c] 39)).heap[ch]? = some (.chan 2 buf false s r false) := (Below.heap_alloc _ _ _ (by simpa using (Array.getElem?_eq_some_iff.1 hc).1)).trans hc
  have HC := Lib.hid hc2
  clear hc2 hc hp
  go_enter Try.func61, Try.ntmps61
  go_upto_region 3 with fail
  refine RunsAt.region ?_
  show RunsAt _ _ _ [0, 1, 2] _ _
  refine RunsAt.select_send (v := .agg #[.int .i64 due, .int .i64 place, .slice a n c]) (z := .agg #[.int .i64 0, .int .i64 0, .slice none 0 0]) rfl rfl ?_ HC.out hb ?_
  · simp [go_sem, execOp, scase, Act.eval]
  refine RunsAt.value (v := .int .i64 0) (w' := _) rfl rfl (by simp [go_sem, execOp, Act.eval, Act.put]; rfl) ?_
  refine RunsAt.value (v := .bool true) (w' := _) rfl rfl (by simp [go_sem, execOp, Act.eval, Act.put]; rfl) ?_
  refine RunsAt.nil ?_
  go_wp2_with fail
  exact bodyPost_end (v := .tuple #[]) (results_none rfl _ _ _) rfl ⟨rfl, rfl⟩

/-- Nothing that lay has turned, but the channel at ch. -/
structure Kb (ch : Nat) (w w' : World) : Prop where
  os : w'.os = w.os
  tape : w'.tape = w.tape
  output : w'.output = w.output
  size : w.heap.size ≤ w'.heap.size
  block : ∀ g, g < w.heap.size → g ≠ ch → w'.heap[g]? = w.heap[g]?
theorem Kb.trans {ch : Nat} {a b c : World} (h : Kb ch a b) (k : Kb ch b c) : Kb ch a c :=
  ⟨k.os.trans h.os, k.tape.trans h.tape, k.output.trans h.output, Nat.le_trans h.size k.size, fun g hg hn => (k.block g (Nat.lt_of_lt_of_le hg h.size) hn).trans (h.block g hg hn)⟩
theorem Kb.of_below {ch : Nat} {a b : World} (h : Below a.heap.size a b) : Kb ch a b := ⟨h.os, h.tape, h.output, h.size, fun g hg _ => h.block g hg⟩
theorem Kb.setChan (w : World) (ch cap : Nat) (buf : Array Value) (cl : Bool) (s r : Nat) (tm : Bool) : Kb ch w (w.setChan ch cap buf cl s r tm) :=
  ⟨rfl, rfl, rfl, by simp [World.setChan], fun g hg hn => by simp only [World.setChan]; rw [Array.getElem?_setIfInBounds_ne (fun e => hn e.symm)]⟩
theorem Kb.below {ch B : Nat} {a b c : World} (h : Below B a b) (k : Kb ch b c) (hc : B ≤ ch) (hb : B ≤ b.heap.size) : Below B a c :=
  h.trans ⟨k.os, k.tape, k.output, k.size, fun g hg => k.block g (Nat.lt_of_lt_of_le hg hb) (by omega)⟩
theorem Kb.cell {ch : Nat} {a b : World} (h : Kb ch a b) {g i : Nat} (hg : g < a.heap.size) (hn : g ≠ ch) : b.cell? ⟨g, i, none⟩ = a.cell? ⟨g, i, none⟩ := by
  unfold World.cell?
  simp only [h.block g hg hn]
theorem Kb.own {ch B n : Nat} {e : TypeId} {v : Value} {xs : List Value} {a b : World} (h : Kb ch a b) (ho : a.ownsRow B e 1 v n xs) {cap s r : Nat} {buf : Array Value} {cl tm : Bool} (hc : a.heap[ch]? = some (.chan cap buf cl s r tm)) : b.ownsRow B e 1 v n xs := by
  refine own_frame ho fun g hg hl => h.block g hl fun e => ?_
  rcases ho.2 with ⟨rfl, _⟩ | ⟨g', cap', cur, rfl, hb, hh, _⟩
  · cases hg
  · injection hg with hg
    subst hg; subst e
    rw [hc] at hh
    cases hh
end Go.Proofs.Ytfojhmobnedekaa
