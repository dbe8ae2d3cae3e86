/- An argument that is a list of the past's deeds: out of how it reads as data to how the walks ask it. No condition. -/
import Derived.Test.YtfojhmobnedekaaDeeds
import Derived.Test.YtfojhmobnedekaaPast13
namespace Go.Proofs.Ytfojhmobnedekaa
open Go.RowKit Go.ChangeShapes Go.WideShapes Go.Joins

theorem i64_of_wf {x : Int} (h : (Lit.int .i64 x).wf = true) : -9223372036854775808 ≤ x ∧ x ≤ 9223372036854775807 := by
  simp [Lit.wf, IntKind.min, IntKind.max, IntKind.signed, IntKind.bits] at h
  omega
theorem cells98 : Try.prog.cellsOf 98 = 3 := by kernel_rfl
theorem open_pdeed {H : Type} {enc : TypeId × Value → H} {W : World} {base : Nat} {held : Bool} {n : Nat} {cs : List Value} {y : DataW H × List MemPlace} (h : DataW.trod enc Try.prog W base (fun _ => true) held n 98 cs = some y) (hl : cs.length = 3) :
    ∃ x : Pd, cs = [.int .i64 x.wh, .int .i64 x.n, .int .i64 x.d] ∧ (Lit.int .i64 x.wh).wf = true ∧ (Lit.int .i64 x.n).wf = true ∧ (Lit.int .i64 x.d).wf = true := by
  obtain ⟨c0, c1, c2, rfl⟩ : ∃ a b c, cs = [a, b, c] := by
    match cs, hl with
    | [a, b, c], _ => exact ⟨a, b, c, rfl⟩
  obtain ⟨xs, m, _, _, _, hlen, hf⟩ := DataW.trod_struct Try.underlying98 h
  have hlen : xs.length = 3 := hlen
  obtain ⟨x0, x1, x2, rfl⟩ : ∃ a b c, xs = [a, b, c] := by
    match xs, hlen with
    | [a, b, c], _ => exact ⟨a, b, c, rfl⟩
  have h0 := hf 0 _ rfl
  have h1 := hf 1 _ rfl
  have h2 := hf 2 _ rfl
  simp [cells3] at h0 h1 h2
  obtain ⟨n0, e0, _, w0⟩ := DataW.trod_int Try.underlying3 h0
  obtain ⟨n1, e1, _, w1⟩ := DataW.trod_int Try.underlying3 h1
  obtain ⟨n2, e2, _, w2⟩ := DataW.trod_int Try.underlying3 h2
  simp at e0 e1 e2
  subst e0; subst e1; subst e2
  exact ⟨⟨n0, n1, n2⟩, rfl, w0, w1, w2⟩
theorem open_pdeeds {H : Type} {enc : TypeId × Value → H} {W : World} {base : Nat} {held : Bool} {a : Option Addr} {len cap : Nat} {d : DataW H} {ps : List MemPlace} (h : DataW.Trod enc Try.prog W base (fun _ => true) held 93 (.slice a len cap) d ps) :
    ∃ L, RP W a len L ∧ ∀ x ∈ L, (Lit.int .i64 x.wh).wf = true ∧ (Lit.int .i64 x.n).wf = true ∧ (Lit.int .i64 x.d).wf = true := by
  rcases open_elems2 Try.underlying93 (by rw [cells98]; omega) h with ⟨rfl, rfl, rfl⟩ | ⟨b, off, h1, h2, h3, _, xs, ys, rfl, h5, h6⟩
  · exact ⟨[], ⟨rfl, fun k hk => by omega⟩, fun x hx => by cases hx⟩
  · rw [cells98] at h6
    have h7 : ∀ i, i < len → ∃ x : Pd, (∀ j, j < 3 → W.cell? ⟨b, off + i * 3 + j, none⟩ = [Value.int .i64 x.wh, .int .i64 x.n, .int .i64 x.d][j]?) ∧ (Lit.int .i64 x.wh).wf = true ∧ (Lit.int .i64 x.n).wf = true ∧ (Lit.int .i64 x.d).wf = true := fun i hi => by
      obtain ⟨cs, n, y, k1, k2, k3, k4⟩ := h6 i hi
      obtain ⟨x, rfl, hx⟩ := open_pdeed k1 k2
      exact ⟨x, k4, hx⟩
    have hget : ∀ k, (hk : k < len) → ((List.range len).map fun i => if hi : i < len then Classical.choose (h7 i hi) else default)[k]? = some (Classical.choose (h7 k hk)) := fun k hk => by
      rw [List.getElem?_map, List.getElem?_range hk]
      simp only [Option.map_some, dif_pos hk]
    refine ⟨(List.range len).map fun i => if hi : i < len then Classical.choose (h7 i hi) else default, ⟨by simp, fun k hk => ?_⟩, fun x hx => ?_⟩
    · rw [List.getD_eq_getElem?_getD, hget k hk, Option.getD_some]
      have hs := Classical.choose_spec (h7 k hk)
      refine ⟨b, off, h1 (by omega), ?_, ?_, ?_⟩
      · exact hs.1 0 (by omega)
      · exact hs.1 1 (by omega)
      · exact hs.1 2 (by omega)
    · obtain ⟨k, hk, rfl⟩ := List.mem_map.1 hx
      have hk := List.mem_range.1 hk
      simp only [dif_pos hk]
      exact (Classical.choose_spec (h7 k hk)).2
end Go.Proofs.Ytfojhmobnedekaa
