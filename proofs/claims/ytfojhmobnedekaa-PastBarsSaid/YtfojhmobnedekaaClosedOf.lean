/- How a row's closed facts are put together out of those of the whole translation and those of its own. No condition. -/
import Derived.Test.YtfojhmobnedekaaClosed
namespace Go.Proofs.Ytfojhmobnedekaa
open Go

theorem band {a b : Bool} (ha : a = true) (hb : b = true) : (a && b) = true := by rw [ha, hb]; rfl
/-- A row's closed facts, out of those of the whole and those of its own. -/
theorem closed_of {f : FuncId} {fn : Func} {s : ChangeSpec} {c : OpenClaim} (h0 : c.wf (OpenSpec.ofChange s) = true) (h3 : fn.params.all (Try.prog.readableRec ·) = true) (h4 : namedTie Try.prog c.named s.vars = true)
    (h5 : (c.stops == []) = true) (h7 : (c.knobs == []) = true) (h9 : (c.inPlace == Try.prog.inPlace f) = true) (h10 : (c.unfollowed == Try.prog.unfollowed f) = true) (h11 : (c.recurses == Try.prog.recurses f) = true) (h12 : (c.named == Try.prog.varsNamed f) = true)
    (h13 : (c.maps == (fn.params.toList ++ s.plain.varTypes Try.prog).any (Try.prog.mapsRec ·)) = true) (h14 : (c.ifaces == (fn.params.toList ++ s.plain.varTypes Try.prog).any (Try.prog.ifacesRec ·)) = true) (h15 : (c.mapsOut == Try.prog.mapsAmong fn.resultTypes.toList) = true)
    (h16 : (c.loops == (fn.params.toList ++ s.plain.varTypes Try.prog).any (Try.prog.loopsFrom ·)) = true) (h17 : (c.wideKeys == (fn.params.toList ++ s.plain.varTypes Try.prog ++ fn.resultTypes.toList).any (Try.prog.wideKeysFrom ·)) = true)
    (h18 : s.vars.all (Try.prog.varReadable ·) = true) (h19 : fn.resultTypes.all (fun t => Try.prog.readableRec t && decide (t < Try.prog.types.size)) = true) (h20 : (c.ifacesOut == fn.resultTypes.toList.any (Try.prog.ifacesRec ·)) = true) (h21 : (c.loopsOut == fn.resultTypes.toList.any (Try.prog.loopsFrom ·)) = true)
    (h22 : c.plainKeys = Rows.fateTurnsRow.plainKeys) (h23 : c.shortTexts.isNone = true) (h26 : c.lifted = Rows.fateTurnsRow.lifted) (h27 : c.make = Rows.fateTurnsRow.make)
    (h28 : c.domain = []) (h28k : c.kinds = []) (h29 : (c.pinned == c.pinnedBy) = true)
    (h30 : (c.veiled == (fn.params.toList ++ s.plain.varTypes Try.prog ++ fn.resultTypes.toList).any (Try.prog.veiledRec ·)) = true) (h31 : c.veiledFits Try.prog fn.params.toList (fn.params.toList ++ s.plain.varTypes Try.prog ++ fn.resultTypes.toList) = true) :
    joinedFacts Try.prog f fn s c = true := by
  have g22 : (c.plainKeys == Try.prog.plainKeys) = true := by rw [h22]; exact fact_keys
  have g26 : (c.lifted == Try.prog.liftsFinal) = true := by rw [h26]; exact fact_lifts
  have g27 : (Try.prog.make == some c.make) = true := by rw [h27]; exact fact_make
  unfold joinedFacts
  refine (band (band (band (band (band (band (band (band (band (band (band (band (band (band (band (band (band (band (band (band (band (band (band (band (band (band (band (band (band (band (band h0 fact_laid) fact_maps) h3) h4) h5) fact_stops) h7) fact_knobs) h9) h10) h11) h12) h13) h14) h15) h16) h17) h18) h19) h20) h21) g22) h23) fact_heard) fact_enter) g26) g27) ?_) h29) h30) h31)
  rw [h28, h28k]; rfl
end Go.Proofs.Ytfojhmobnedekaa
