/- An argument that is a stat: out of how it reads as data to its counts. No condition. -/
import Derived.Test.YtfojhmobnedekaaDoorElems
import Derived.Test.YtfojhmobnedekaaDoorS9
namespace Go.Proofs.YtfojhmobnedekaaDoor
open Go.RowKit Go.ChangeShapes Go.WideShapes Go.Joins
section
variable {H : Type} {enc : TypeId × Value → H} {W : World} {base : Nat} {spare : Nat → Bool} {held : Bool} {n : Nat}
theorem one_cell {cs : List Value} {o : Nat} {y : DataW H × List MemPlace} (h : DataW.trod enc Tryd.prog W base spare held n 3 ((cs.drop o).take 1) = some y) : ∃ r, cs[o]? = some (.int .i64 r) ∧ inI r := by
  obtain ⟨r, e, _, hw⟩ := DataW.trod_int Tryd.underlying3 h
  refine ⟨r, ?_, bounds_i64 hw⟩
  have : ((cs.drop o).take 1)[0]? = some (.int .i64 r) := by rw [e]; rfl
  rw [List.getElem?_take, if_pos (by omega), List.getElem?_drop] at this
  simpa using this
theorem arr_cells {cs : List Value} {o m : Nat} {t : TypeId} {y : DataW H × List MemPlace} (ht : Tryd.prog.underlying t = some (.array m 3)) (h : DataW.trod enc Tryd.prog W base spare held n t ((cs.drop o).take m) = some y) (i : Nat) (hi : i < m) : ∃ r, cs[o + i]? = some (.int .i64 r) ∧ inI r := by
  obtain ⟨xs, k, _, _, _, hl, hel⟩ := DataW.trod_array ht h
  have h1 := hel i hi
  rw [List.getElem?_eq_getElem (show i < xs.length by omega), cells3] at h1
  obtain ⟨r, e, _, hw⟩ := DataW.trod_int Tryd.underlying3 h1
  refine ⟨r, ?_, bounds_i64 hw⟩
  have : ((((cs.drop o).take m).drop (i * 1)).take 1)[0]? = some (.int .i64 r) := by rw [e]; rfl
  rw [List.getElem?_take, if_pos (by omega), List.getElem?_drop, List.getElem?_take, if_pos (by omega), List.getElem?_drop] at this
  simpa using this
theorem cells25 : Tryd.prog.cellsOf 25 = 19 := by kernel_rfl
theorem cells22 : Tryd.prog.cellsOf 22 = 8 := by kernel_rfl
theorem cells23 : Tryd.prog.cellsOf 23 = 4 := by kernel_rfl
theorem stat_cells {cs : List Value} {y : DataW H × List MemPlace} (h : DataW.trod enc Tryd.prog W base spare held n 25 cs = some y) (j : Nat) (hj : j < 19) : ∃ r, cs[j]? = some (.int .i64 r) ∧ inI r := by
  obtain ⟨xs, k, _, _, _, hl, hf⟩ := DataW.trod_struct Tryd.underlying25 h
  have hl9 : xs.length = 9 := hl
  have f0 : DataW.trod enc Tryd.prog W base spare held k 3 ((cs.drop 0).take (Tryd.prog.cellsOf 3)) = xs[0]? := hf 0 _ rfl
  have f1 : DataW.trod enc Tryd.prog W base spare held k 3 ((cs.drop 1).take (Tryd.prog.cellsOf 3)) = xs[1]? := hf 1 _ rfl
  have f2 : DataW.trod enc Tryd.prog W base spare held k 3 ((cs.drop 2).take (Tryd.prog.cellsOf 3)) = xs[2]? := hf 2 _ rfl
  have f3 : DataW.trod enc Tryd.prog W base spare held k 22 ((cs.drop 3).take (Tryd.prog.cellsOf 22)) = xs[3]? := hf 3 _ rfl
  have f4 : DataW.trod enc Tryd.prog W base spare held k 23 ((cs.drop 11).take (Tryd.prog.cellsOf 23)) = xs[4]? := hf 4 _ rfl
  have f5 : DataW.trod enc Tryd.prog W base spare held k 3 ((cs.drop 15).take (Tryd.prog.cellsOf 3)) = xs[5]? := hf 5 _ rfl
  have f6 : DataW.trod enc Tryd.prog W base spare held k 3 ((cs.drop 16).take (Tryd.prog.cellsOf 3)) = xs[6]? := hf 6 _ rfl
  have f7 : DataW.trod enc Tryd.prog W base spare held k 3 ((cs.drop 17).take (Tryd.prog.cellsOf 3)) = xs[7]? := hf 7 _ rfl
  have f8 : DataW.trod enc Tryd.prog W base spare held k 3 ((cs.drop 18).take (Tryd.prog.cellsOf 3)) = xs[8]? := hf 8 _ rfl
  rw [List.getElem?_eq_getElem (by omega)] at f0 f1 f2 f3 f4 f5 f6 f7 f8
  rw [cells3] at f0 f1 f2 f5 f6 f7 f8
  rw [cells22] at f3
  rw [cells23] at f4
  have : j = 0 ∨ j = 1 ∨ j = 2 ∨ (3 ≤ j ∧ j < 11) ∨ (11 ≤ j ∧ j < 15) ∨ j = 15 ∨ j = 16 ∨ j = 17 ∨ j = 18 := by omega
  rcases this with rfl | rfl | rfl | h | h | rfl | rfl | rfl | rfl
  · exact one_cell f0
  · exact one_cell f1
  · exact one_cell f2
  · have := arr_cells Tryd.underlying22 f3 (j - 3) (by omega)
    rwa [show 3 + (j - 3) = j by omega] at this
  · have := arr_cells Tryd.underlying23 f4 (j - 11) (by omega)
    rwa [show 11 + (j - 11) = j by omega] at this
  · exact one_cell f5
  · exact one_cell f6
  · exact one_cell f7
  · exact one_cell f8
end
theorem open_stat {H : Type} {enc : TypeId × Value → H} {W : World} {base b0 : Nat} {spare : Nat → Bool} {held : Bool} {r : Reach} {v : Value} {d : DataW H} {ps : List MemPlace} (hval : Value.okWide Tryd.prog W r b0 25 v) (hd : DataW.Trod enc Tryd.prog W base spare held 25 v d ps) :
    ∃ u : Nat → Int, v = .agg (stC u) ∧ ∀ j, inI (u j) := by
  obtain ⟨cs, rfl, hs⟩ := okWide_struct Tryd.underlying25 hval
  rw [cells25] at hs
  obtain ⟨fuel, hf⟩ := hd
  have each : ∀ j, j < 19 → ∃ r, cs.toList[j]? = some (.int .i64 r) ∧ inI r := fun j hj => stat_cells (by simpa [Value.cells] using hf) j hj
  refine ⟨fun j => if h : j < 19 then Classical.choose (each j h) else 0, ?_, fun j => ?_⟩
  · congr 1
    apply Array.ext_getElem?
    intro j
    by_cases hj : j < 19
    · rw [stC_at _ hj, dif_pos hj, ← Array.getElem?_toList]
      exact (Classical.choose_spec (each j hj)).1
    · rw [Array.getElem?_eq_none (by omega), Array.getElem?_eq_none (by rw [size_stC]; omega)]
  · by_cases hj : j < 19
    · simp only [dif_pos hj]; exact (Classical.choose_spec (each j hj)).2
    · simp only [dif_neg hj]; unfold inI; omega
end Go.Proofs.YtfojhmobnedekaaDoor
