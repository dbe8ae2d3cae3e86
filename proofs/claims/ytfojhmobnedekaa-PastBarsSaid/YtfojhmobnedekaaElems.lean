/- An argument that is a slice of structs: out of how it reads as data to the cells of each. No condition. -/
import Derived.Test.YtfojhmobnedekaaFateArg
import Derived.Test.YtfojhmobnedekaaFate15
namespace Go.Proofs.Ytfojhmobnedekaa
open Go.RowKit Go.ChangeShapes Go.WideShapes Go.Joins

theorem open_elems {P : Program} {H : Type} {enc : TypeId × Value → H} {W : World} {base : Nat} {held : Bool} {t e : TypeId} {a : Option Addr} {len cap : Nat} {d : DataW H} {ps : List MemPlace} (ht : P.underlying t = some (.slice e)) (hpos : 0 < P.cellsOf e)
    (h : DataW.Trod enc P W base (fun _ => true) held t (.slice a len cap) d ps) :
    (a = none ∧ len = 0 ∧ cap = 0) ∨ ∃ b off, (0 < len → a = some ⟨b, off, none⟩) ∧ a ≠ none ∧ len ≤ cap ∧ cap ≤ maxLen ∧ (∃ xs ys, d = .slice xs ys ∧ xs.length + ys.length = cap) ∧
      ∀ i, i < len → ∃ cs n y, DataW.trod enc P W base (fun _ => true) held n e cs = some y ∧ cs.length = P.cellsOf e ∧ ∀ j, j < P.cellsOf e → W.cell? ⟨b, off + i * P.cellsOf e + j, none⟩ = cs[j]? := by
  obtain ⟨fuel, hf⟩ := h
  rcases DataW.trod_slice ht hf with ⟨hcs, _⟩ | ⟨x, l, c, elems, rest, n, _, hcs, hx, hb, hl, hm, hlen, hel, hsp, _⟩
  · simp [Value.cells] at hcs
    exact .inl ⟨hcs.1, hcs.2.1, hcs.2.2⟩
  · simp [Value.cells] at hcs
    obtain ⟨rfl, rfl, rfl⟩ := hcs
    obtain ⟨b, off, spot⟩ := x
    have each : ∀ i, i < len → ∃ cs y, DataW.trod enc P W base (fun _ => true) held n e cs = some y ∧ cs.length = P.cellsOf e ∧ ∀ j, j < P.cellsOf e → W.cell? (((⟨b, off, spot⟩ : Addr).add (i * P.cellsOf e)).add j) = cs[j]? := fun i hi => by
      have h1 := hel i hi
      rw [List.getElem?_eq_getElem (show i < elems.length by omega), Option.bind_eq_some_iff] at h1
      obtain ⟨cs, hc, hy⟩ := h1
      obtain ⟨_, h2, h3⟩ := World.cells?_some hc
      exact ⟨cs, _, hy, h2, h3⟩
    have hspot : 0 < len → spot = none := fun h0 => by
      obtain ⟨cs, y, _, h2, h3⟩ := each 0 h0
      have h4 := h3 0 hpos
      rw [List.getElem?_eq_getElem (show 0 < cs.length by omega)] at h4
      simpa [Addr.add] using World.cell?_spot h4
    refine .inr ⟨b, off, fun h0 => by rw [hspot h0], Option.some_ne_none _, hl, hm, ⟨elems.map (·.1), rest.map (·.1), ?_, ?_⟩, fun i hi => ?_⟩
    · exact (Prod.mk.injEq _ _ _ _ ▸ hx).1
    · rw [List.length_map, List.length_map, hlen, (hsp rfl).1]; omega
    · obtain ⟨cs, y, h1, h2, h3⟩ := each i hi
      obtain rfl := hspot (by omega)
      exact ⟨cs, n, y, h1, h2, fun j hj => by have := h3 j hj; rwa [Addr.add_lit, Addr.add_lit] at this⟩

/-- The numbers of a fate's cells. -/
def ftOf (cs : List Value) : Ft := match cs with
  | [.int _ k, .int _ b, .int _ a, .int _ p] => ⟨k, b, a, p⟩
  | _ => default
theorem trod_fate {H : Type} {enc : TypeId × Value → H} {W : World} {base : Nat} {spare : Nat → Bool} {held : Bool} {n : Nat} {cs : List Value} {y : DataW H × List MemPlace} (h : DataW.trod enc Try.prog W base spare held n 24 cs = some y) (hl : cs.length = 4) : cs = (ftOf cs).cells := by
  obtain ⟨c0, c1, c2, c3, rfl⟩ : ∃ a b c d, cs = [a, b, c, d] := by
    match cs, hl with
    | [a, b, c, d], _ => exact ⟨a, b, c, d, rfl⟩
  obtain ⟨y0, y1, y2, y3, m, _, _, h0, h1, h2, h3⟩ := trod_struct4 Try.underlying24 h
  simp [cells22, cells3] at h0 h1 h2 h3
  obtain ⟨n0, e0, _⟩ := DataW.trod_int Try.underlying22 h0
  obtain ⟨n1, e1, _⟩ := DataW.trod_int Try.underlying3 h1
  obtain ⟨n2, e2, _⟩ := DataW.trod_int Try.underlying3 h2
  obtain ⟨n3, e3, _⟩ := DataW.trod_int Try.underlying3 h3
  simp at e0 e1 e2 e3
  subst e0; subst e1; subst e2; subst e3
  rfl
theorem open_fates {H : Type} {enc : TypeId × Value → H} {W : World} {base : Nat} {held : Bool} {a : Option Addr} {len cap : Nat} {d : DataW H} {ps : List MemPlace} (h : DataW.Trod enc Try.prog W base (fun _ => true) held 46 (.slice a len cap) d ps)
    (hs : ∀ xs ys, d = .slice xs ys → (xs.length + ys.length) * 32 ≤ 140737488351232) : ∃ l, RF W a len cap l := by
  rcases open_elems Try.underlying46 (by rw [cells24]; omega) h with ⟨rfl, rfl, rfl⟩ | ⟨b, off, h1, h2, h3, _, ⟨xs, ys, h4, h5⟩, h6⟩
  · exact ⟨[], rfl, Nat.le_refl _, by omega, fun _ => rfl, fun j u hu => absurd hu (by simp [fcs])⟩
  · rw [cells24] at h6
    have h7 : ∀ i, i < len → ∃ x : Ft, ∀ j, j < 4 → W.cell? ⟨b, off + i * 4 + j, none⟩ = x.cells[j]? := fun i hi => by
      obtain ⟨cs, n, y, k1, k2, k3⟩ := h6 i hi
      exact ⟨ftOf cs, fun j hj => by rw [k3 j hj, ← trod_fate k1 k2]⟩
    have := hs xs ys h4
    refine ⟨(List.range len).map fun i => if hi : i < len then Classical.choose (h7 i hi) else default, by simp, h3, by omega, fun h => absurd h h2, fun j u hu => ?_⟩
    have hj := (List.getElem?_eq_some_iff.1 hu).1
    rw [length_fcs, List.length_map, List.length_range] at hj
    have hj4 : j = j / 4 * 4 + j % 4 := by omega
    have hk : j / 4 < len := by omega
    refine ⟨b, off, h1 (by omega), ?_⟩
    have hm : j % 4 < 4 := Nat.mod_lt _ (by omega)
    rw [hj4, fcs_get _ (j / 4) (j % 4) (by simpa using hk) hm] at hu
    have h8 := Classical.choose_spec (h7 (j / 4) hk) (j % 4) hm
    simp only [List.getElem_map, List.getElem_range, dif_pos hk] at hu
    rw [← h8] at hu
    rw [← hu]
    exact congrArg (fun z => W.cell? ⟨b, z, none⟩) (by omega)
end Go.Proofs.Ytfojhmobnedekaa
