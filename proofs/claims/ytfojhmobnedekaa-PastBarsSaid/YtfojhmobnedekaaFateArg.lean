/- An argument that is a fate: out of how it reads as data to its four numbers. No condition. -/
import Derived.Test.YtfojhmobnedekaaArgs
import Derived.Lib.SmallJoins
namespace Go.Proofs.Ytfojhmobnedekaa
open Go.RowKit Go.ChangeShapes Go.WideShapes Go.Joins

theorem cells24 : Try.prog.cellsOf 24 = 4 := by kernel_rfl
theorem cells22 : Try.prog.cellsOf 22 = 1 := by kernel_rfl
theorem cells3 : Try.prog.cellsOf 3 = 1 := by kernel_rfl
set_option maxRecDepth 100000 in
theorem open_fate {H : Type} {enc : TypeId × Value → H} {W : World} {base b0 : Nat} {spare : Nat → Bool} {held : Bool} {r : Reach} {v : Value} {d : DataW H} {ps : List MemPlace} (hval : Value.okWide Try.prog W r b0 24 v) (hd : DataW.Trod enc Try.prog W base spare held 24 v d ps) :
    ∃ k b a p : Int, v = .agg #[.int .i64 k, .int .i64 b, .int .i64 a, .int .i64 p] := by
  obtain ⟨cs, rfl, hs⟩ := okWide_struct Try.underlying24 hval
  rw [cells24] at hs
  obtain ⟨c0, c1, c2, c3, rfl⟩ := array4 hs
  obtain ⟨fuel, hf⟩ := hd
  obtain ⟨y0, y1, y2, y3, n, _, _, h0, h1, h2, h3⟩ := trod_struct4 Try.underlying24 hf
  simp [Value.cells, cells22, cells3] at h0 h1 h2 h3
  obtain ⟨n0, e0, _⟩ := DataW.trod_int Try.underlying22 h0
  obtain ⟨n1, e1, _⟩ := DataW.trod_int Try.underlying3 h1
  obtain ⟨n2, e2, _⟩ := DataW.trod_int Try.underlying3 h2
  obtain ⟨n3, e3, _⟩ := DataW.trod_int Try.underlying3 h3
  simp at e0 e1 e2 e3
  subst e0; subst e1; subst e2; subst e3
  exact ⟨n0, n1, n2, n3, rfl⟩
end Go.Proofs.Ytfojhmobnedekaa
