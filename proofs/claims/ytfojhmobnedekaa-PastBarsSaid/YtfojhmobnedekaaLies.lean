/- A region that draws its order, whose operations only read, and whose callees leave alone what lay there: one walk. -/
import Derived.Test.YtfojhmobnedekaaQt
import Derived.Below
import Derived.Deep.Quiet
import Derived.BigQuiet
import Derived.WalkSmall
namespace Go.Proofs.Ytfojhmobnedekaa
open Go.RowKit

/-- The worlds in which what lay in 'w' lies still. -/
def Lies (w : World) : Type := { w' : World // Below w.heap.size w w' }
instance (w : World) : Nonempty (Lies w) := ⟨⟨w, Below.refl _ _⟩⟩
instance (w : World) : Inhabited (Lies w) := ⟨⟨w, Below.refl _ _⟩⟩
theorem Lies.below {w : World} (x : Lies w) : Below w.heap.size w x.1 := x.2
theorem lies_cell {w : World} {p : Addr} {v : Value} (h : w.cell? p = some v) (x : Lies w) : x.1.cell? p = some v := (x.2.cell (block_lt_of_cell h)).trans h
theorem region_lies {P : Program} {id : Nat} {Q : Exit → Act → World → Prop} {a : Act} {w : World} {l : List Oper} (hm : P.follows .mixedOrders = true) (hB : Region.lexB .any l.toArray = true)
    (h : wpQuiet P l.toArray (fun w' => ∃ x : Lies w, w' = x.1) (fun a' => ∀ w', (∃ x : Lies w, w' = x.1) → Q .normal a' w') l a) : (Code.region id l.toArray true).wp P Q a w :=
  wp_region_quiet (C := fun w' => ∃ x : Lies w, w' = x.1) hm hB ⟨⟨_, below_drewN (Below.refl _ _) 1⟩, rfl⟩ (by simpa using h)
/-- A callee that leaves alone what lay there. -/
theorem Lies.call {P : Program} {f : FuncId} {args : Array Value} {w : World} {x : Lies w} {v : Value} (h : Calls P f args x.1 fun e w' => e = .returned v ∧ Below x.1.heap.size x.1 w') :
    Calls P f args x.1 fun e w'' => e = .returned v ∧ ∃ y : Lies w, w'' = y.1 :=
  h.mono fun _ w' ⟨he, hB⟩ => ⟨he, ⟨w', x.2.trans (hB.mono x.2.size)⟩, rfl⟩
end Go.Proofs.Ytfojhmobnedekaa
