/- The closed facts of the whole translation that each row of this seat asks, each proved once and by itself. No condition. -/
import Derived.Test.YtfojhmobnedekaaRows
import Derived.JoinedOf
import Derived.KernelRfl
namespace Go.Proofs.Ytfojhmobnedekaa
open Go

theorem fact_enter : Try.prog.mayEnter = true := by kernel_rfl
theorem fact_lifts : (Rows.fateTurnsRow.lifted == Try.prog.liftsFinal) = true := by kernel_rfl
theorem fact_make : (Try.prog.make == some Rows.fateTurnsRow.make) = true := by kernel_rfl
theorem fact_laid : laidOutB Try.prog = true := by kernel_rfl
theorem fact_maps : mapsRowed Try.prog = true := by kernel_rfl
theorem fact_stops : (Try.prog.stops == []) = true := by kernel_rfl
theorem fact_knobs : (Try.prog.stopKnobs == []) = true := by kernel_rfl
theorem fact_keys : (Rows.fateTurnsRow.plainKeys == Try.prog.plainKeys) = true := by kernel_rfl
theorem fact_heard : Try.prog.stopsHeard = true := by kernel_rfl

end Go.Proofs.Ytfojhmobnedekaa
