/- The closed facts of the whole translation that each row of this seat asks, each proved once and by itself. No condition. -/
import Derived.Test.YtfojhmobnedekaaDoorRows
import Derived.JoinedOf
import Derived.KernelRfl
namespace Go.Proofs.YtfojhmobnedekaaDoor
open Go

theorem fact_enter : Tryd.prog.mayEnter = true := by kernel_rfl
theorem fact_lifts : (Rows.statExactRow.lifted == Tryd.prog.liftsFinal) = true := by kernel_rfl
theorem fact_make : (Tryd.prog.make == some Rows.statExactRow.make) = true := by kernel_rfl
theorem fact_laid : laidOutB Tryd.prog = true := by kernel_rfl
theorem fact_maps : mapsRowed Tryd.prog = true := by kernel_rfl
theorem fact_stops : (Tryd.prog.stops == []) = true := by kernel_rfl
theorem fact_knobs : (Tryd.prog.stopKnobs == []) = true := by kernel_rfl
theorem fact_keys : (Rows.statExactRow.plainKeys == Tryd.prog.plainKeys) = true := by kernel_rfl
theorem fact_heard : Tryd.prog.stopsHeard = true := by kernel_rfl

end Go.Proofs.YtfojhmobnedekaaDoor
