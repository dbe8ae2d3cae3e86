/- Arguments: a slice of events; out of how it reads as data to the cells of each. No condition. -/
import Derived.Test.YtfojhmobnedekaaDoorS2
import Derived.ProofKit
import Derived.OpenShut
import Derived.Lib.SmallJoins
namespace Go.Proofs.YtfojhmobnedekaaDoor
open Go.RowKit Go.ChangeShapes Go.WideShapes Go.Joins

theorem open_elems {P : Program} {H : Type} {enc : TypeId × Value → H} {W : World} {base : Nat} {held : Bool} {t e : TypeId} {a : Option Addr} {len cap : Nat} {d : DataW H} {ps : List MemPlace} (ht : P.underlying t = some (.slice e)) (hpos : 0 < P.cellsOf e)
    (h : DataW.Trod enc P W base (fun _ => true) held t (.slice a len cap) d ps) :
    (a = none ∧ len = 0 ∧ cap = 0) ∨ ∃ b off, (0 < len → a = some ⟨b, off, none⟩) ∧ a ≠ none ∧ len ≤ cap ∧ cap ≤ maxLen ∧ (∃ xs ys, d = .slice xs ys ∧ xs.length + ys.length = cap) ∧
      ∀ i, i < len → ∃ cs n y, DataW.trod enc P W base (fun _ => true) held n e cs = some y ∧ cs.length = P.cellsOf e ∧ ∀ j, j < P.cellsOf e → W.cell? ⟨b, off + i * P.cellsOf e + j, none⟩ = cs[j]? := by
  obtain ⟨fuel, hf⟩ := h
  rcases DataW.trod_slice ht hf with ⟨hcs, _⟩ | ⟨x, l, c, elems, rest, n, _, hcs, hx, hb, hl, hm, hlen, hel, hsp, _⟩
  · simp [Value.cells] at hcs
    exact .inl ⟨hcs.1, hcs.2.1, hcs.2.2⟩
  · simp [Value.cells] at hcs
    obtain ⟨rfl, rfl, rfl⟩ := hcs
    obtain ⟨b, off, spot⟩ := x
    have each : ∀ i, i < len → ∃ cs y, DataW.trod enc P W base (fun _ => true) held n e cs = some y ∧ cs.length = P.cellsOf e ∧ ∀ j, j < P.cellsOf e → W.cell? (((⟨b, off, spot⟩ : Addr).add (i * P.cellsOf e)).add j) = cs[j]? := fun i hi => by
      have h1 := hel i hi
      rw [List.getElem?_eq_getElem (show i < elems.length by omega), Option.bind_eq_some_iff] at h1
      obtain ⟨cs, hc, hy⟩ := h1
      obtain ⟨_, h2, h3⟩ := World.cells?_some hc
      exact ⟨cs, _, hy, h2, h3⟩
    have hspot : 0 < len → spot = none := fun h0 => by
      obtain ⟨cs, y, _, h2, h3⟩ := each 0 h0
      have h4 := h3 0 hpos
      rw [List.getElem?_eq_getElem (show 0 < cs.length by omega)] at h4
      simpa [Addr.add] using World.cell?_spot h4
    refine .inr ⟨b, off, fun h0 => by rw [hspot h0], Option.some_ne_none _, hl, hm, ⟨elems.map (·.1), rest.map (·.1), ?_, ?_⟩, fun i hi => ?_⟩
    · exact (Prod.mk.injEq _ _ _ _ ▸ hx).1
    · rw [List.length_map, List.length_map, hlen, (hsp rfl).1]; omega
    · obtain ⟨cs, y, h1, h2, h3⟩ := each i hi
      obtain rfl := hspot (by omega)
      exact ⟨cs, n, y, h1, h2, fun j hj => by have := h3 j hj; rwa [Addr.add_lit, Addr.add_lit] at this⟩

theorem cells33 : Tryd.prog.cellsOf 33 = 2 := by kernel_rfl
theorem cells31 : Tryd.prog.cellsOf 31 = 1 := by kernel_rfl
theorem cells3 : Tryd.prog.cellsOf 3 = 1 := by kernel_rfl
/-- The numbers of an event's cells. -/
def evOf (cs : List Value) : Int × Int := match cs with
  | [.int _ k, .int _ n] => (k, n)
  | _ => default
theorem trod_ev {H : Type} {enc : TypeId × Value → H} {W : World} {base : Nat} {spare : Nat → Bool} {held : Bool} {n : Nat} {cs : List Value} {y : DataW H × List MemPlace} (h : DataW.trod enc Tryd.prog W base spare held n 33 cs = some y) (hl : cs.length = 2) : cs = [.int .i64 (evOf cs).1, .int .i64 (evOf cs).2] := by
  obtain ⟨c0, c1, rfl⟩ : ∃ a b, cs = [a, b] := by
    match cs, hl with
    | [a, b], _ => exact ⟨a, b, rfl⟩
  obtain ⟨y0, y1, m, _, _, h0, h1⟩ := trod_struct2 Tryd.underlying33 h
  simp [cells31, cells3] at h0 h1
  obtain ⟨n0, e0, _⟩ := DataW.trod_int Tryd.underlying31 h0
  obtain ⟨n1, e1, _⟩ := DataW.trod_int Tryd.underlying3 h1
  simp at e0 e1
  subst e0; subst e1
  rfl
theorem ecs_get : ∀ (l : List (Int × Int)) (k i : Nat) (hk : k < l.length), i < 2 → (ecs l)[k * 2 + i]? = ([.int .i64 l[k].1, .int .i64 l[k].2] : List Value)[i]?
  | [], k, i, hk, _ => absurd hk (by simp)
  | x :: l, 0, i, _, hi => by
    have : i = 0 ∨ i = 1 := by omega
    rcases this with rfl | rfl <;> rfl
  | x :: l, k + 1, i, hk, hi => by
    rw [show (k + 1) * 2 + i = (k * 2 + i) + 1 + 1 by omega]
    exact ecs_get l k i (by simpa using hk) hi
theorem open_evs {H : Type} {enc : TypeId × Value → H} {W : World} {base : Nat} {held : Bool} {a : Option Addr} {len cap : Nat} {d : DataW H} {ps : List MemPlace} (h : DataW.Trod enc Tryd.prog W base (fun _ => true) held 26 (.slice a len cap) d ps)
    (hs : ∀ xs ys, d = .slice xs ys → (xs.length + ys.length) * 16 ≤ 140737488351232) : cap ≤ 140737488351232 ∧ ∃ l, RE W a len cap l := by
  rcases open_elems Tryd.underlying26 (by rw [cells33]; omega) h with ⟨rfl, rfl, rfl⟩ | ⟨b, off, h1, h2, h3, _, ⟨xs, ys, h4, h5⟩, h6⟩
  · exact ⟨by omega, [], rfl, Nat.le_refl _, by omega, fun _ => rfl, fun j u hu => absurd hu (by simp [ecs])⟩
  · rw [cells33] at h6
    have h7 : ∀ i, i < len → ∃ x : Int × Int, ∀ j, j < 2 → W.cell? ⟨b, off + i * 2 + j, none⟩ = ([.int .i64 x.1, .int .i64 x.2] : List Value)[j]? := fun i hi => by
      obtain ⟨cs, n, y, k1, k2, k3⟩ := h6 i hi
      exact ⟨evOf cs, fun j hj => by rw [k3 j hj, ← trod_ev k1 k2]⟩
    have := hs xs ys h4
    refine ⟨by omega, (List.range len).map fun i => if hi : i < len then Classical.choose (h7 i hi) else default, by simp, h3, by omega, fun h => absurd h h2, fun j u hu => ?_⟩
    have hj := (List.getElem?_eq_some_iff.1 hu).1
    rw [length_ecs, List.length_map, List.length_range] at hj
    have hj4 : j = j / 2 * 2 + j % 2 := by omega
    have hk : j / 2 < len := by omega
    refine ⟨b, off, h1 (by omega), ?_⟩
    have hm : j % 2 < 2 := Nat.mod_lt _ (by omega)
    rw [hj4, ecs_get _ (j / 2) (j % 2) (by simpa using hk) hm] at hu
    have h8 := Classical.choose_spec (h7 (j / 2) hk) (j % 2) hm
    simp only [List.getElem_map, List.getElem_range, dif_pos hk] at hu
    rw [← h8] at hu
    rw [← hu]
    exact congrArg (fun z => W.cell? ⟨b, z, none⟩) (by omega)
end Go.Proofs.YtfojhmobnedekaaDoor
