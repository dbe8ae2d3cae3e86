/- The walks of field.made and field.New: the tables of the field. No condition. -/
import Derived.Test.YtokeoodkioobdaaBase
import Derived.Laws.CopyOwn
namespace Go.Proofs.Ytokeoodkioobdaa
open Go.RowKit

/-- What stands at a place of the tables behind n rounds. -/
def F (n i : Nat) : Nat := if i < 510 then (if i % 255 < n then Gf.ex i else 0) else if i = 510 then 0 else if Gf.lg (i - 510) < n then Gf.lg (i - 510) else 0
def tab (n : Nat) : Array Value := Array.ofFn (n := 766) fun i => .int .u8 (F n i : Nat)

theorem size_tab (n : Nat) : (tab n).size = 766 := by simp [tab]
theorem tab_get (n i : Nat) (h : i < 766) : (tab n)[i]? = some (.int .u8 (F n i : Nat)) := by
  simp [tab, h]
theorem F_zero (i : Nat) : F 0 i = 0 := by unfold F; simp
theorem F_same {n i : Nat} (h1 : i ≠ n) (h2 : i ≠ n + 255) (h3 : i ≠ 510 + Gf.ex n) (hi : i < 766) : F (n + 1) i = F n i := by
  unfold F
  by_cases c : i < 510
  · simp only [if_pos c]
    by_cases d : i % 255 < n
    · rw [if_pos d, if_pos (by omega)]
    · rw [if_neg d, if_neg (by omega)]
  · simp only [if_neg c]
    by_cases e : i = 510
    · simp only [if_pos e]
    · simp only [if_neg e]
      have hl : Gf.lg (i - 510) ≠ n := by
        intro q
        have := Gf.ex_lg (a := i - 510) (by omega) (by omega)
        rw [q] at this; omega
      by_cases d : Gf.lg (i - 510) < n
      · rw [if_pos d, if_pos (by omega)]
      · rw [if_neg d, if_neg (by omega)]
theorem F_a {n : Nat} (hn : n < 255) : F (n + 1) n = Gf.ex n := by
  unfold F; rw [if_pos (by omega), if_pos (by omega)]
theorem F_b {n : Nat} (hn : n < 255) : F (n + 1) (n + 255) = Gf.ex n := by
  unfold F; rw [if_pos (by omega), if_pos (by omega), Gf.ex_up]
theorem F_c {n : Nat} (hn : n < 255) : F (n + 1) (510 + Gf.ex n) = n := by
  have h0 := Gf.ex_ne n
  unfold F
  rw [if_neg (by omega), if_neg (by omega), Nat.add_sub_cancel_left, Gf.lg_ex hn, if_pos (by omega)]
theorem tab_step {n : Nat} (hn : n < 255) :
    (((tab n).setIfInBounds n (.int .u8 (Gf.ex n : Nat))).setIfInBounds (n + 255) (.int .u8 (Gf.ex n : Nat))).setIfInBounds (510 + Gf.ex n) (.int .u8 (n : Nat)) = tab (n + 1) := by
  have hl := Gf.ex_lt n
  apply Array.ext_getElem?
  intro i
  simp only [Array.getElem?_setIfInBounds, Array.size_setIfInBounds, size_tab]
  by_cases hi : i < 766
  · rw [tab_get (n + 1) i hi]
    by_cases h3 : 510 + Gf.ex n = i
    · rw [if_pos h3, if_pos (by omega), ← h3, F_c hn]
    · rw [if_neg h3]
      by_cases h2 : n + 255 = i
      · rw [if_pos h2, if_pos (by omega), ← h2, F_b hn]
      · rw [if_neg h2]
        by_cases h1 : n = i
        · rw [if_pos h1, if_pos (by omega), ← h1, F_a hn]
        · rw [if_neg h1, tab_get n i hi, F_same (by omega) (by omega) (by omega) hi]
  · have e1 : (tab n)[i]? = none := by simp [size_tab]; omega
    have e2 : (tab (n + 1))[i]? = none := by simp [size_tab]; omega
    rw [e1, e2]
    rw [if_neg (by omega), if_neg (by omega), if_neg (by omega)]
theorem tab_zero : Try.zeroCells76 = tab 0 := by
  apply Array.ext_getElem?
  intro i
  have hz : Try.zeroCells76 = Array.replicate 766 (.int .u8 0) := by kernel_rfl
  rw [hz]
  by_cases hi : i < 766
  · rw [tab_get 0 i hi, F_zero]; simp [hi]
  · have e2 : (tab 0)[i]? = none := by simp [size_tab]; omega
    rw [e2]; simp [hi]

theorem double_small {m : Nat} (h : (m : Int) * 2 ≤ 255) : (m : Int) * 2 = (Gf.xt m : Nat) := by
  unfold Gf.xt; rw [if_neg (by omega)]; omega
theorem double_great {m : Nat} (hm : m < 256) (h : 255 < (m : Int) * 2) : bits .xor .i64 ((m : Int) * 2) 285 = (Gf.xt m : Nat) := by
  unfold Gf.xt; rw [if_pos (by omega), show ((m : Int) * 2) = ((2 * m : Nat) : Int) from by omega]
  exact i64_xor_nat (2 * m) 285 (by omega) (by omega)

theorem rel_made {w wr : World} {n m : Nat} (hn : n < 255) (h2 : m = Gf.ex n) (hh : wr.heap[w.heap.size]? = some (.cells (tab n) 76 (0, 0))) (hB : Below w.heap.size w wr) :
    (((wr.setCell ⟨w.heap.size, n, none⟩ (.int .u8 (m : Nat))).setCell ⟨w.heap.size, n + 255, none⟩ (.int .u8 (m : Nat))).setCell ⟨w.heap.size, 510 + m, none⟩ (.int .u8 (n : Nat))).heap[w.heap.size]? = some (.cells (tab (n + 1)) 76 (0, 0)) ∧
    Below w.heap.size w (((wr.setCell ⟨w.heap.size, n, none⟩ (.int .u8 (m : Nat))).setCell ⟨w.heap.size, n + 255, none⟩ (.int .u8 (m : Nat))).setCell ⟨w.heap.size, 510 + m, none⟩ (.int .u8 (n : Nat))) := by
  subst h2
  refine ⟨?_, ((hB.setCell (Nat.le_refl _) _).setCell (Nat.le_refl _) _).setCell (Nat.le_refl _) _⟩
  rw [← tab_step hn]
  exact heap_setCell_same _ _ _ _ _ _ (heap_setCell_same _ _ _ _ _ _ (heap_setCell_same _ _ _ _ _ _ hh))

theorem info76 : (Try.prog.info? 76).map (·.size) = some (tab 255).size := by rw [size_tab]; kernel_rfl
theorem tab_one : (tab 255).all (·.oneCell') = true := by
  rw [Array.all_eq_true]; intro i hi; simp [tab, Value.oneCell']
set_option maxHeartbeats 800000 in
set_option maxRecDepth 100000 in
/-- field.made hands back the tables. -/
theorem made_any (w : World) : Calls Try.prog 86 #[] w fun e w' => e = .returned (.agg (tab 255)) ∧ Below w.heap.size w w' := by
  go_enter Try.func86, Try.ntmps86
  go_wp2_with fail
  go_loopw [1, 3] (fun x i wr => ∃ n m : Nat, n ≤ 255 ∧ i = .int .i64 n ∧ x = .int .i64 m ∧ m < 256 ∧ m = Gf.ex n ∧ wr.heap[w.heap.size]? = some (.cells (tab n) 76 (0, 0)) ∧ Below w.heap.size w wr) (fun _ i _ => 255 - (intOf i).toNat)
  case atStart => exact ⟨0, 1, by omega, rfl, rfl, by omega, rfl, by rw [tab_zero]; exact heap_alloc_new _ _, (Below.refl _ _).alloc (Nat.le_refl _) _⟩
  case round =>
    obtain ⟨n, m, hn, rfl, rfl, h1, h2, hh, hB⟩ := hrel
    have hR : ∀ hn : n < 255, _ := fun hn => rel_made hn h2 hh hB
    have c1 : ∀ i : Nat, i < 766 → ∃ v, wr.cell? ⟨w.heap.size, i, none⟩ = some v := fun i hi => ⟨_, (cell_of_block hh).trans (tab_get n i hi)⟩
    have f1 : ∀ i, wr.frozen? ⟨w.heap.size, i, none⟩ = false := fun i => frozen_of_block hh
    have H1 := Lib.hid h2
    have H2 := Lib.hid hh
    have H3 := Lib.hid hB
    have HR := Lib.hid hR
    clear h2 hh hB hR
    by_cases hn' : n < 255
    · obtain ⟨v1, g1⟩ := c1 n (by omega)
      obtain ⟨v2, g2⟩ := c1 (n + 255) (by omega)
      obtain ⟨v3, g3⟩ := c1 (510 + m) (by omega)
      clear c1
      go_wp2_with fail
      all_goals
        have hl := Gf.xt_lt h1
        refine ⟨⟨n + 1, Gf.xt m, by omega, by go_num, ?_, hl, by rw [H1.out]; rfl, (HR.out hn').1, (HR.out hn').2⟩, by simp [intOf]; omega⟩
      all_goals first | rw [double_small (by assumption)] | rw [double_great h1 (by assumption)]
    · obtain rfl : n = 255 := by omega
      clear c1 HR H1
      go_wp2_with (first | (refine wpList_load_row rfl 76 (.tmp 0) rfl w.heap.size rfl 76 (tab 255) (0, 0) _ H2.out Try.underlying76 rfl info76 ?_) | (refine wpList_store_row rfl 76 (.tmp 0) (.tmp 29) rfl w.heap.size (tab 255) rfl rfl 76 (tab 255) H2.out info76 rfl tab_one ?_))
      have h2 := setRow_heap wr w.heap.size (tab 255) (tab 255) 76 (0, 0) H2.out
      exact bodyPost_ret (v := .agg (tab 255)) (results_cell_row rfl _ _ _ _ (tab 255) _ _ rfl h2 Try.underlying76 rfl info76) rfl ⟨rfl, below_setRow H3.out (Nat.le_refl _) _⟩
end Go.Proofs.Ytokeoodkioobdaa
