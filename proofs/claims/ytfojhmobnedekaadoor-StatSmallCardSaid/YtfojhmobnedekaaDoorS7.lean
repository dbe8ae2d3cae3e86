/- The walks of stat's fold over stats, Sum. Conditions: rows are shorter than 2 to the 40. -/
import Derived.Test.YtfojhmobnedekaaDoorS6
import Derived.Deep.MidRow
namespace Go.Proofs.YtfojhmobnedekaaDoor
open Go.RowKit

/-- A slice that reads as stats. -/
structure RS (w : World) (a : Option Addr) (n cap : Nat) (vs : Nat → Nat → Int) : Prop where
  le : n ≤ cap
  most : cap ≤ 140737488351232
  at_ : ∀ k, k < n → ∃ b off, a = some ⟨b, off, none⟩ ∧ w.rangeAt b (off + k * 19) (stC (vs k)).toList
theorem rangeAt_below {w w' : World} {b o : Nat} {cs : List Value} (h : w.rangeAt b o cs) (hB : Below w.heap.size w w') : w'.rangeAt b o cs := fun j v hv => by
  have := h j v hv
  exact (hB.cell (block_lt_of_cell this)).trans this
theorem RS.below {w w' : World} {a : Option Addr} {n cap : Nat} {vs : Nat → Nat → Int} (h : RS w a n cap vs) (hB : Below w.heap.size w w') : RS w' a n cap vs :=
  ⟨h.le, h.most, fun k hk => by
    obtain ⟨b, off, e, hc⟩ := h.at_ k hk
    exact ⟨b, off, e, rangeAt_below hc hB⟩⟩
def foldV (v : Nat → Int) (vs : Nat → Nat → Int) : Nat → Nat → Int
  | 0 => v
  | k + 1 => sumV (foldV v vs k) (vs k)
def FoldRel (w : World) (n : Nat) (vs : Nat → Nat → Int) (v : Nat → Int) (i : Value) (wr : World) : Prop := ∃ k : Nat, k ≤ n ∧ i = .int .i64 k ∧ StAt 25 wr w.heap.size (foldV v vs k) ∧ (∃ u, StAt 25 wr (w.heap.size + 1) u) ∧ Below w.heap.size w wr
set_option maxRecDepth 100000 in
set_option maxHeartbeats 1600000 in
theorem fold_stat {w : World} {a : Option Addr} {n cap : Nat} {vs : Nat → Nat → Int} {v : Nat → Int} (h : RS w a n cap vs) :
    Calls Tryd.prog 31 #[.slice a n cap, .agg (stC v), .func (.func 32) #[] #[]] w fun e w' => e = .returned (.agg (stC (foldV v vs n))) ∧ Below w.heap.size w w' := by
  have hm := h.most
  have hle := h.le
  have H := Lib.hid h
  clear h
  go_enter Tryd.func31, Tryd.ntmps31
  go_wp2_with fail
  go_loopw [8, 11] (fun _ i wr => FoldRel w n vs v i wr) (fun _ i _ => n - (intOf i).toNat)
  case atStart =>
    refine ⟨0, Nat.zero_le _, rfl, ?_, ⟨v0, ?_⟩, ((Below.refl _ _).alloc (Nat.le_refl _) _).alloc (by simp) _⟩
    · exact (StAt.new w v).below ((Below.refl _ _).alloc (Nat.le_refl _) _) (by simp)
    · have := StAt.new (w.alloc (.cells (stC v) 25)) v0
      rw [World.size_alloc] at this
      exact this
  case round =>
    obtain ⟨k, hk, rfl, hS, ⟨u, hU⟩, hB⟩ := hrel
    have HS := Lib.hid hS
    have HU := Lib.hid hU
    have HB := Lib.hid hB
    have hsz := hU.lt
    clear hS hU hB
    by_cases hk1 : k < n
    · obtain ⟨b, off, rfl, hr⟩ := (H.out.below HB.out).at_ k hk1
      have HR := Lib.hid hr
      clear hr
      have q0 : decide (k < n) = true := by simp [hk1]
      have HN := Lib.hid (StAt.new wr v0)
      have hb1 : Below wr.heap.size wr ((wr.alloc (.cells (stC v0) 25)).setRow wr.heap.size (stC (vs k))) := below_setRow ((Below.refl _ _).alloc (Nat.le_refl _) _) (Nat.le_refl _)
      have HS1 := Lib.hid (HS.out.below hb1 (by omega))
      have HU1 := Lib.hid (HU.out.below hb1 (by omega))
      have HX1 := Lib.hid (setRow_heap (wr.alloc (.cells (stC v0) 25)) wr.heap.size (stC v0) (stC (vs k)) 25 (0, 0) HN.out)
      have HB1 := Lib.hid (HB.out.trans (hb1.mono (by omega)))
      have hz1 := hb1.size
      have HC := Lib.hid fun w => sum2_any (foldV v vs k) (vs k) w
      have HSN := Lib.hid (show sumV (foldV v vs k) (vs k) = foldV v vs (k + 1) from rfl)
      rw [HSN.out] at HC
      clear hb1
      go_wp2_with (first
        | (refine wpList_load_mid rfl 25 (.tmp 13) rfl b (off + k * 19) rfl (stC (vs k)).toList _ HR.out Tryd.underlying25 rfl (by rw [info25]; rfl) ?_)
        | (refine wpList_store_row rfl 25 (.tmp 8) (.tmp 14) rfl wr.heap.size (stC (vs k)) rfl rfl 25 (stC v0) HN.out info25 rfl (stC_one _) ?_)
        | (refine wpList_load_row rfl 25 (.tmp 4) rfl w.heap.size rfl 25 (stC (foldV v vs k)) (0, 0) _ HS1.out Tryd.underlying25 rfl info25 ?_)
        | (refine wpList_load_row rfl 25 (.tmp 8) rfl wr.heap.size rfl 25 (stC (vs k)) (0, 0) _ HX1.out Tryd.underlying25 rfl info25 ?_))
      refine (HC.out _).mono ?_
      rintro e w2 ⟨rfl, hB2⟩
      have HS2 := Lib.hid (HS1.out.below hB2 HS1.out.lt)
      have HU2 := Lib.hid (HU1.out.below hB2 HU1.out.lt)
      have HB2 := Lib.hid (HB1.out.trans (hB2.mono HB1.out.size))
      clear hB2
      go_wp2_with (refine wpList_store_row rfl 25 (.tmp 4) (.tmp 18) rfl w.heap.size (stC (foldV v vs (k + 1))) rfl rfl 25 (stC (foldV v vs k)) HS2.out info25 rfl (stC_one _) ?_)
      go_roundw
      case rel => exact ⟨k + 1, by omega, by go_num, setRow_heap _ _ _ _ _ _ HS2.out, ⟨u, (setRow_other _ _ _ _ (by omega)).trans HU2.out⟩, below_setRow HB2.out (Nat.le_refl _)⟩
      case measure => simp [intOf]; omega
    · obtain rfl : k = n := by omega
      have q0 : decide (k < k) = false := by simp
      go_wp2_with (first | (refine wpList_load_row rfl 25 (.tmp 4) rfl w.heap.size rfl 25 (stC (foldV v vs k)) (0, 0) _ HS.out Tryd.underlying25 rfl info25 ?_) | (refine wpList_store_row rfl 25 (.tmp 6) (.tmp 20) rfl (w.heap.size + 1) (stC (foldV v vs k)) rfl rfl 25 (stC u) HU.out info25 rfl (stC_one _) ?_))
      have h2 : (wr.setRow (w.heap.size + 1) (stC (foldV v vs k))).heap[w.heap.size + 1]? = some (.cells (stC (foldV v vs k)) 25 (0, 0)) := setRow_heap wr _ _ _ _ _ HU.out
      exact bodyPost_ret (v := .agg (stC (foldV v vs k))) (results_cell_row rfl _ _ _ _ _ _ _ rfl h2 Tryd.underlying25 rfl info25) rfl ⟨rfl, below_setRow HB.out (by omega)⟩
set_option maxRecDepth 100000 in
set_option maxHeartbeats 1600000 in
theorem Sum_any {w : World} {a : Option Addr} {n cap : Nat} {vs : Nat → Nat → Int} (h : RS w a n cap vs) :
    Calls Tryd.prog 19 #[.slice a n cap] w fun e w' => e = .returned (.agg (stC (foldV v0 vs n))) ∧ Below w.heap.size w w' := by
  have HB1 := Lib.hid ((Below.refl w.heap.size w).alloc (Nat.le_refl _) (.cells (stC v0) 25))
  have H1 := Lib.hid (fold_stat (v := v0) (h.below ((Below.refl w.heap.size w).alloc (Nat.le_refl _) (.cells (stC v0) 25))))
  have HN := Lib.hid (StAt.new w v0)
  clear h
  go_enter Tryd.func19, Tryd.ntmps19
  go_wp2_with fail
  refine (show Calls _ _ _ _ _ from H1.out).mono ?_
  rintro e w1 ⟨rfl, hB⟩
  have HB := Lib.hid hB
  have HU := Lib.hid (HN.out.below hB (by simp))
  have hz := hB.size
  rw [World.size_alloc] at hz
  clear hB
  go_wp2_with (refine wpList_store_row rfl 25 (.tmp 2) (.tmp 5) rfl w.heap.size (stC (foldV v0 vs n)) rfl rfl 25 (stC v0) HU.out info25 rfl (stC_one _) ?_)
  have h2 : (w1.setRow w.heap.size (stC (foldV v0 vs n))).heap[w.heap.size]? = some (.cells (stC (foldV v0 vs n)) 25 (0, 0)) := setRow_heap w1 _ _ _ _ _ HU.out
  exact bodyPost_ret (v := .agg (stC (foldV v0 vs n))) (results_cell_row rfl _ _ _ _ _ _ _ rfl h2 Tryd.underlying25 rfl info25) rfl ⟨rfl, below_setRow (HB1.out.trans (HB.out.mono (by simp))) (Nat.le_refl _)⟩
end Go.Proofs.YtfojhmobnedekaaDoor
