/- The walks of the law's theirs and ref, and of the document's And and Of. Conditions: rows are shorter than 2 to the 47. -/
import Derived.Test.YtfojhmobnedekaaDoorS12
import Derived.Test.YtfojhmobnedekaaDoorS11
namespace Go.Proofs.YtfojhmobnedekaaDoor
open Go.RowKit

theorem info37 : (Tryd.prog.info? 37).map (fun i => (i.zero, i.size, i.bytes)) = some (some (.agg #[.int .i64 0, .int .i64 0]), 2, 16) := by kernel_rfl
theorem RE.of_own37 {w : World} {base n : Nat} {v : Value} {l : List (Int × Int)} (h : w.ownsRow base 37 2 v n (ecs l)) (hn : n ≤ 140737488351232) : ∃ a cap, v = .slice a n cap ∧ RE w a n cap l := by
  obtain ⟨h1, h2⟩ := h
  rw [length_ecs] at h1
  have hl : l.length = n := by omega
  rcases h2 with ⟨rfl, rfl⟩ | ⟨g, cap, cur, rfl, hb, hg, hle, hm, hs, ht⟩
  · refine ⟨none, 0, rfl, hl, Nat.le_refl _, hn, fun _ => rfl, fun j u hu => ?_⟩
    have : l = [] := List.eq_nil_of_length_eq_zero hl
    subst this
    cases hu
  · refine ⟨_, cap, rfl, hl, hle, hn, fun e => (by cases e), fun j u hu => ⟨g, 0, rfl, ?_⟩⟩
    rw [Nat.zero_add, cell_of_block hg]
    have h3 := (List.getElem?_eq_some_iff.1 hu).1
    rw [← ht, List.getElem?_take] at hu
    split at hu
    · rw [← Array.getElem?_toList]; exact hu
    · cases hu
def ThRel (w : World) (n : Nat) (l : List (Int × Int)) (s i : Value) (wr : World) : Prop := ∃ (k : Nat) (z : Value), z = s ∧ k ≤ n ∧ i = .int .i64 k ∧ wr.ownsRow w.heap.size 37 2 z k (ecs (l.take k)) ∧ Below w.heap.size w wr
theorem ecs_snoc {l : List (Int × Int)} {k : Nat} {x y : Int} (h : l[k]? = some (x, y)) : ecs (l.take (k + 1)) = ecs (l.take k) ++ [.int .i64 x, .int .i64 y] := by
  obtain ⟨hk, he⟩ := List.getElem?_eq_some_iff.1 h
  rw [List.take_succ_eq_append_getElem hk, he, ecs_append]; rfl
set_option maxRecDepth 100000 in
set_option maxHeartbeats 1600000 in
theorem theirs_any {w : World} {a : Option Addr} {n cap : Nat} {l : List (Int × Int)} (h : RE w a n cap l) (hn : n ≤ 500) :
    Calls Tryd.prog 8 #[.slice a n cap] w fun e w' => (∃ a' cap', e = .returned (.slice a' n cap') ∧ RE w' a' n cap' l) ∧ Below w.heap.size w w' := by
  obtain ⟨i0, hi, hz0, hz1, hz2⟩ := info_parts info37
  have hlen := h.len
  have H := Lib.hid h
  clear h
  go_enter Tryd.func8, Tryd.ntmps8
  go_wp2_with fail
  go_loopw [3, 4] (fun s i wr => ThRel w n l s i wr) (fun _ i _ => n - (intOf i).toNat)
  case atStart => exact ⟨0, _, rfl, Nat.zero_le _, rfl, ⟨rfl, .inl ⟨rfl, rfl⟩⟩, Below.refl _ _⟩
  case round =>
    obtain ⟨k, z, hz, hk, rfl, hO, hB⟩ := hrel
    subst hz
    have HO := Lib.hid hO
    have HB := Lib.hid hB
    have hsw := hB.size
    clear hO hB
    by_cases hk1 : k < n
    · obtain ⟨b, off, x, y, rfl, hx, e0, e1⟩ := (H.out.below HB.out).two hk1
      have HX := Lib.hid (ecs_snoc hx)
      have HO1 := Lib.hid ((HO.out.alloc (.cells #[.int .i64 x, .int .i64 y] 37)).drew)
      have HBA := Lib.hid (HB.out.trans ((((Below.refl wr.heap.size wr).alloc (Nat.le_refl _) (.cells #[.int .i64 x, .int .i64 y] 37)).drew).mono hsw))
      clear hx
      have q0 : decide ((k : Int) < n) = true := by simp; omega
      go_wp2_with fail
      go_region_law (refine step_append_any (by rfl) (.tmp 11) (.tmp 23) 28 (by rfl) w.heap.size 37 i0 _ 2 16 Tryd.underlying28 hi hz0 hz1 hz2 rfl (by omega) z k (ecs (l.take k)) (by rfl) HO1.out (some ⟨wr.heap.size, 0, none⟩) 1 1 [.int .i64 x, .int .i64 y] (by rfl) (by rfl) (fun e => by cases e) (fun j u hu => ⟨wr.heap.size, 0, rfl, (by have := World.news_of_block (cs := #[.int .i64 x, .int .i64 y]) (t := 37) (fr := (0, 0)) (heap_alloc_new wr _) j u hu; rwa [Addr.add_lit] at this)⟩) (by simp [Value.oneCell']) (by unfold maxLen; omega) (by omega) (by simp; omega) ?_; intro v5 w5 ho5 hg5; have HO5 := Lib.hid ho5; have HB5 := Lib.hid (HBA.out.grown hg5 (by simp; omega) (fun k e => (HO1.out.lt k e).1)); clear ho5 hg5)
      all_goals go_wp2_with fail
      all_goals go_roundw
      case rel => exact ⟨k + 1, _, rfl, by omega, by go_num, by rw [HX.out]; exact HO5.out, HB5.out⟩
      case measure => simp [intOf]; omega
      case rel => exact ⟨k + 1, _, rfl, by omega, by go_num, by rw [HX.out]; exact HO5.out, HB5.out⟩
      case measure => simp [intOf]; omega
    · obtain rfl : k = n := by omega
      have hV : l.take k = l := List.take_of_length_le (by rw [hlen]; exact Nat.le_refl _)
      have hn' : k ≤ 140737488351232 := by omega
      obtain ⟨a', cap', rfl, hr⟩ := RE.of_own37 HO.out hn'
      rw [hV] at hr
      have HR := Lib.hid hr
      clear hr
      go_wp2_with fail
      go_ret
      exact ⟨⟨_, _, rfl, HR.out⟩, HB.out⟩
theorem StAt.new' (w : World) (v : Nat → Int) : StAt 38 (w.alloc (.cells (stC v) 38)) w.heap.size v := heap_alloc_new w _
theorem info38 : (Tryd.prog.info? 38).map (·.size) = some 19 := by kernel_rfl
set_option maxRecDepth 100000 in
set_option maxHeartbeats 1600000 in
theorem ref_any (v : Nat → Int) (w : World) : Calls Tryd.prog 13 #[.agg (stC v)] w fun e w' => e = .returned (.agg (stC v)) ∧ Below w.heap.size w w' := by
  have hS : StAt 25 ((w.alloc (.cells (stC v) 25)).alloc (.cells (stC v0) 38)) w.heap.size v := (StAt.new w v).below ((Below.refl _ _).alloc (Nat.le_refl _) _) (by simp)
  have hU := StAt.new' (w.alloc (.cells (stC v) 25)) v0
  have HB := Lib.hid (((Below.refl w.heap.size w).alloc (Nat.le_refl _) (.cells (stC v) 25)).alloc (by simp) (.cells (stC v0) 38))
  have c0 : ((w.alloc (.cells (stC v) 25)).alloc (.cells #[.int .i64 0, .int .i64 0, .int .i64 0, .int .i64 0, .int .i64 0, .int .i64 0, .int .i64 0, .int .i64 0, .int .i64 0, .int .i64 0, .int .i64 0, .int .i64 0, .int .i64 0, .int .i64 0, .int .i64 0, .int .i64 0, .int .i64 0, .int .i64 0, .int .i64 0] 38)).cell? ⟨w.heap.size, 0, none⟩ = some (.int .i64 (v 0)) := hS.cell (by omega)
  have c1 : ((w.alloc (.cells (stC v) 25)).alloc (.cells #[.int .i64 0, .int .i64 0, .int .i64 0, .int .i64 0, .int .i64 0, .int .i64 0, .int .i64 0, .int .i64 0, .int .i64 0, .int .i64 0, .int .i64 0, .int .i64 0, .int .i64 0, .int .i64 0, .int .i64 0, .int .i64 0, .int .i64 0, .int .i64 0, .int .i64 0] 38)).cell? ⟨w.heap.size, 1, none⟩ = some (.int .i64 (v 1)) := hS.cell (by omega)
  have c2 : ((w.alloc (.cells (stC v) 25)).alloc (.cells #[.int .i64 0, .int .i64 0, .int .i64 0, .int .i64 0, .int .i64 0, .int .i64 0, .int .i64 0, .int .i64 0, .int .i64 0, .int .i64 0, .int .i64 0, .int .i64 0, .int .i64 0, .int .i64 0, .int .i64 0, .int .i64 0, .int .i64 0, .int .i64 0, .int .i64 0] 38)).cell? ⟨w.heap.size, 2, none⟩ = some (.int .i64 (v 2)) := hS.cell (by omega)
  have c3 : ((w.alloc (.cells (stC v) 25)).alloc (.cells #[.int .i64 0, .int .i64 0, .int .i64 0, .int .i64 0, .int .i64 0, .int .i64 0, .int .i64 0, .int .i64 0, .int .i64 0, .int .i64 0, .int .i64 0, .int .i64 0, .int .i64 0, .int .i64 0, .int .i64 0, .int .i64 0, .int .i64 0, .int .i64 0, .int .i64 0] 38)).cell? ⟨w.heap.size, 3, none⟩ = some (.int .i64 (v 3)) := hS.cell (by omega)
  have c4 : ((w.alloc (.cells (stC v) 25)).alloc (.cells #[.int .i64 0, .int .i64 0, .int .i64 0, .int .i64 0, .int .i64 0, .int .i64 0, .int .i64 0, .int .i64 0, .int .i64 0, .int .i64 0, .int .i64 0, .int .i64 0, .int .i64 0, .int .i64 0, .int .i64 0, .int .i64 0, .int .i64 0, .int .i64 0, .int .i64 0] 38)).cell? ⟨w.heap.size, 4, none⟩ = some (.int .i64 (v 4)) := hS.cell (by omega)
  have c5 : ((w.alloc (.cells (stC v) 25)).alloc (.cells #[.int .i64 0, .int .i64 0, .int .i64 0, .int .i64 0, .int .i64 0, .int .i64 0, .int .i64 0, .int .i64 0, .int .i64 0, .int .i64 0, .int .i64 0, .int .i64 0, .int .i64 0, .int .i64 0, .int .i64 0, .int .i64 0, .int .i64 0, .int .i64 0, .int .i64 0] 38)).cell? ⟨w.heap.size, 5, none⟩ = some (.int .i64 (v 5)) := hS.cell (by omega)
  have c6 : ((w.alloc (.cells (stC v) 25)).alloc (.cells #[.int .i64 0, .int .i64 0, .int .i64 0, .int .i64 0, .int .i64 0, .int .i64 0, .int .i64 0, .int .i64 0, .int .i64 0, .int .i64 0, .int .i64 0, .int .i64 0, .int .i64 0, .int .i64 0, .int .i64 0, .int .i64 0, .int .i64 0, .int .i64 0, .int .i64 0] 38)).cell? ⟨w.heap.size, 6, none⟩ = some (.int .i64 (v 6)) := hS.cell (by omega)
  have c7 : ((w.alloc (.cells (stC v) 25)).alloc (.cells #[.int .i64 0, .int .i64 0, .int .i64 0, .int .i64 0, .int .i64 0, .int .i64 0, .int .i64 0, .int .i64 0, .int .i64 0, .int .i64 0, .int .i64 0, .int .i64 0, .int .i64 0, .int .i64 0, .int .i64 0, .int .i64 0, .int .i64 0, .int .i64 0, .int .i64 0] 38)).cell? ⟨w.heap.size, 7, none⟩ = some (.int .i64 (v 7)) := hS.cell (by omega)
  have c8 : ((w.alloc (.cells (stC v) 25)).alloc (.cells #[.int .i64 0, .int .i64 0, .int .i64 0, .int .i64 0, .int .i64 0, .int .i64 0, .int .i64 0, .int .i64 0, .int .i64 0, .int .i64 0, .int .i64 0, .int .i64 0, .int .i64 0, .int .i64 0, .int .i64 0, .int .i64 0, .int .i64 0, .int .i64 0, .int .i64 0] 38)).cell? ⟨w.heap.size, 8, none⟩ = some (.int .i64 (v 8)) := hS.cell (by omega)
  have c9 : ((w.alloc (.cells (stC v) 25)).alloc (.cells #[.int .i64 0, .int .i64 0, .int .i64 0, .int .i64 0, .int .i64 0, .int .i64 0, .int .i64 0, .int .i64 0, .int .i64 0, .int .i64 0, .int .i64 0, .int .i64 0, .int .i64 0, .int .i64 0, .int .i64 0, .int .i64 0, .int .i64 0, .int .i64 0, .int .i64 0] 38)).cell? ⟨w.heap.size, 9, none⟩ = some (.int .i64 (v 9)) := hS.cell (by omega)
  have c10 : ((w.alloc (.cells (stC v) 25)).alloc (.cells #[.int .i64 0, .int .i64 0, .int .i64 0, .int .i64 0, .int .i64 0, .int .i64 0, .int .i64 0, .int .i64 0, .int .i64 0, .int .i64 0, .int .i64 0, .int .i64 0, .int .i64 0, .int .i64 0, .int .i64 0, .int .i64 0, .int .i64 0, .int .i64 0, .int .i64 0] 38)).cell? ⟨w.heap.size, 10, none⟩ = some (.int .i64 (v 10)) := hS.cell (by omega)
  have c11 : ((w.alloc (.cells (stC v) 25)).alloc (.cells #[.int .i64 0, .int .i64 0, .int .i64 0, .int .i64 0, .int .i64 0, .int .i64 0, .int .i64 0, .int .i64 0, .int .i64 0, .int .i64 0, .int .i64 0, .int .i64 0, .int .i64 0, .int .i64 0, .int .i64 0, .int .i64 0, .int .i64 0, .int .i64 0, .int .i64 0] 38)).cell? ⟨w.heap.size, 11, none⟩ = some (.int .i64 (v 11)) := hS.cell (by omega)
  have c12 : ((w.alloc (.cells (stC v) 25)).alloc (.cells #[.int .i64 0, .int .i64 0, .int .i64 0, .int .i64 0, .int .i64 0, .int .i64 0, .int .i64 0, .int .i64 0, .int .i64 0, .int .i64 0, .int .i64 0, .int .i64 0, .int .i64 0, .int .i64 0, .int .i64 0, .int .i64 0, .int .i64 0, .int .i64 0, .int .i64 0] 38)).cell? ⟨w.heap.size, 12, none⟩ = some (.int .i64 (v 12)) := hS.cell (by omega)
  have c13 : ((w.alloc (.cells (stC v) 25)).alloc (.cells #[.int .i64 0, .int .i64 0, .int .i64 0, .int .i64 0, .int .i64 0, .int .i64 0, .int .i64 0, .int .i64 0, .int .i64 0, .int .i64 0, .int .i64 0, .int .i64 0, .int .i64 0, .int .i64 0, .int .i64 0, .int .i64 0, .int .i64 0, .int .i64 0, .int .i64 0] 38)).cell? ⟨w.heap.size, 13, none⟩ = some (.int .i64 (v 13)) := hS.cell (by omega)
  have c14 : ((w.alloc (.cells (stC v) 25)).alloc (.cells #[.int .i64 0, .int .i64 0, .int .i64 0, .int .i64 0, .int .i64 0, .int .i64 0, .int .i64 0, .int .i64 0, .int .i64 0, .int .i64 0, .int .i64 0, .int .i64 0, .int .i64 0, .int .i64 0, .int .i64 0, .int .i64 0, .int .i64 0, .int .i64 0, .int .i64 0] 38)).cell? ⟨w.heap.size, 14, none⟩ = some (.int .i64 (v 14)) := hS.cell (by omega)
  have c15 : ((w.alloc (.cells (stC v) 25)).alloc (.cells #[.int .i64 0, .int .i64 0, .int .i64 0, .int .i64 0, .int .i64 0, .int .i64 0, .int .i64 0, .int .i64 0, .int .i64 0, .int .i64 0, .int .i64 0, .int .i64 0, .int .i64 0, .int .i64 0, .int .i64 0, .int .i64 0, .int .i64 0, .int .i64 0, .int .i64 0] 38)).cell? ⟨w.heap.size, 15, none⟩ = some (.int .i64 (v 15)) := hS.cell (by omega)
  have c16 : ((w.alloc (.cells (stC v) 25)).alloc (.cells #[.int .i64 0, .int .i64 0, .int .i64 0, .int .i64 0, .int .i64 0, .int .i64 0, .int .i64 0, .int .i64 0, .int .i64 0, .int .i64 0, .int .i64 0, .int .i64 0, .int .i64 0, .int .i64 0, .int .i64 0, .int .i64 0, .int .i64 0, .int .i64 0, .int .i64 0] 38)).cell? ⟨w.heap.size, 16, none⟩ = some (.int .i64 (v 16)) := hS.cell (by omega)
  have c17 : ((w.alloc (.cells (stC v) 25)).alloc (.cells #[.int .i64 0, .int .i64 0, .int .i64 0, .int .i64 0, .int .i64 0, .int .i64 0, .int .i64 0, .int .i64 0, .int .i64 0, .int .i64 0, .int .i64 0, .int .i64 0, .int .i64 0, .int .i64 0, .int .i64 0, .int .i64 0, .int .i64 0, .int .i64 0, .int .i64 0] 38)).cell? ⟨w.heap.size, 17, none⟩ = some (.int .i64 (v 17)) := hS.cell (by omega)
  have c18 : ((w.alloc (.cells (stC v) 25)).alloc (.cells #[.int .i64 0, .int .i64 0, .int .i64 0, .int .i64 0, .int .i64 0, .int .i64 0, .int .i64 0, .int .i64 0, .int .i64 0, .int .i64 0, .int .i64 0, .int .i64 0, .int .i64 0, .int .i64 0, .int .i64 0, .int .i64 0, .int .i64 0, .int .i64 0, .int .i64 0] 38)).cell? ⟨w.heap.size, 18, none⟩ = some (.int .i64 (v 18)) := hS.cell (by omega)
  have HU := Lib.hid hU
  have hsz := (show w.heap.size + 1 = (w.alloc (.cells (stC v) 25)).heap.size from (World.size_alloc _ _).symm)
  rw [← hsz] at HU
  clear hS hU hsz
  go_enter Tryd.func13, Tryd.ntmps13
  go_wp2_with (refine wpList_store_row rfl 38 (.tmp 2) (.tmp 21) rfl (w.heap.size + 1) (stC v) rfl rfl 38 (stC v0) HU.out info38 rfl (stC_one _) ?_)
  have h2 := setRow_heap _ _ (stC v0) (stC v) _ _ HU.out
  exact bodyPost_ret (v := .agg (stC v)) (results_cell_row rfl _ _ _ _ _ _ _ rfl h2 Tryd.underlying38 rfl info38) rfl ⟨rfl, below_setRow HB.out (by omega)⟩
end Go.Proofs.YtfojhmobnedekaaDoor
