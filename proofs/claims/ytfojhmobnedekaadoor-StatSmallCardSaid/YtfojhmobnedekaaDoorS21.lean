/- The law's StatSums. Conditions: rows are shorter than 2 to the 47; the table of powers is as the library lays it. -/
import Derived.Test.YtfojhmobnedekaaDoorS18
import Derived.Test.YtfojhmobnedekaaDoorS19
import Derived.Test.YtfojhmobnedekaaDoorS20
import Derived.Test.YtfojhmobnedekaaDoorS16
namespace Go.Proofs.YtfojhmobnedekaaDoor
open Go.RowKit

def scs (vs : Nat → Nat → Int) (k : Nat) : List Value := (List.range k).flatMap fun j => (stC (vs j)).toList
theorem scs_succ (vs : Nat → Nat → Int) (k : Nat) : scs vs (k + 1) = scs vs k ++ (stC (vs k)).toList := by unfold scs; rw [List.range_succ, List.flatMap_append]; simp
theorem length_scs (vs : Nat → Nat → Int) : ∀ k, (scs vs k).length = k * 19
  | 0 => rfl
  | k + 1 => by rw [scs_succ, List.length_append, length_scs vs k]; show _ + 19 = _; omega
theorem scs_get (vs : Nat → Nat → Int) : ∀ n k j, k < n → j < 19 → (scs vs n)[k * 19 + j]? = (stC (vs k))[j]?
  | n + 1, k, j, hk, hj => by
    rw [scs_succ]
    by_cases e : k < n
    · rw [List.getElem?_append_left (by rw [length_scs]; omega)]; exact scs_get vs n k j e hj
    · obtain rfl : k = n := by omega
      rw [List.getElem?_append_right (by rw [length_scs]; omega), length_scs, show k * 19 + j - k * 19 = j by omega, Array.getElem?_toList]
theorem RQ.of_own {w : World} {base n : Nat} {z : Value} {vs : Nat → Nat → Int} (h : w.ownsRow base 38 19 z n (scs vs n)) (hn : n ≤ 140737488351232) : ∃ a cap, z = .slice a n cap ∧ RQ w a n cap vs := by
  obtain ⟨h1, h2⟩ := h
  rcases h2 with ⟨rfl, rfl⟩ | ⟨g, cap, cur, rfl, hb, hg, hle, hm, hs, ht⟩
  · exact ⟨none, 0, rfl, Nat.le_refl _, hn, fun k hk => absurd hk (by omega)⟩
  · refine ⟨_, cap, rfl, hle, hn, fun k hk => ⟨g, 0, rfl, fun j x hx => ?_⟩⟩
    have hj : j < 19 := by have := (List.getElem?_eq_some_iff.1 hx).1; simpa [size_stC] using this
    rw [Nat.zero_add, cell_of_block hg]
    have h4 := scs_get vs n k j hk hj
    rw [← Array.getElem?_toList (xs := stC (vs k)), hx, ← ht, List.getElem?_take] at h4
    split at h4
    · rw [← Array.getElem?_toList]; exact h4
    · cases h4
theorem info38w : (Tryd.prog.info? 38).map (fun i => (i.zero, i.size, i.bytes)) = some (some (.agg (stC v0)), 19, 152) := by kernel_rfl
theorem info25y (x : Nat → Int) : (Tryd.prog.info? 25).map (·.size) = some (stC x).toList.length := by rw [info25]; rfl
/-- An operation that hands on what it is known to. -/
theorem wpList_value {P : Program} {ops : Array Oper} {rest : List Oper} {o : Oper} {a : Act} {w w' : World} {v : Value} {Q : Exit → Act → World → Prop} (hgd : o.guard = none) (hr : (execOp a.eval o).run P w = .ok (.value v) w') (h : wpList P ops Q rest (a.put o.dst v) w') : wpList P ops Q (o :: rest) a w := by
  refine wpList_plain hgd fun K hK => ?_
  unfold Oper.wp
  rw [hr]
  exact hK _ _ h
/-- A stat in a new box. -/
def newSt (w : World) (x : Nat → Int) : World := (w.alloc (.cells (stC v0) 25)).setRow w.heap.size (stC x)
theorem newSt_below (w : World) (x : Nat → Int) : Below w.heap.size w (newSt w x) := below_setRow ((Below.refl _ _).alloc (Nat.le_refl _) _) (Nat.le_refl _)
theorem newSt_at (w : World) (x : Nat → Int) : StAt 25 (newSt w x) w.heap.size x := setRow_heap _ _ _ _ _ _ (StAt.new w v0)
theorem fold_in {vs : Nat → Nat → Int} : ∀ n i, inI (foldV v0 vs n i)
  | 0, _ => by show inI 0; unfold inI; omega
  | n + 1, i => by
    show inI (ad (foldV v0 vs n i) (vs n i))
    unfold inI ad hl; omega
theorem right_both (v : Nat → Int) : ∃ t : Bool, Hid ((∀ y, Calls Tryd.prog 18 #[.agg (stC v)] y fun e y' => e = .returned (.bool t) ∧ Below y.heap.size y y') ∧ ∀ y, Calls Tryd.prog 26 #[.agg (stC v)] y fun e y' => e = .returned (.bool t) ∧ Below y.heap.size y y') := by
  obtain ⟨t, ht⟩ : ∃ t : Bool, t = true ↔ RightV v := by
    by_cases h : RightV v
    · exact ⟨true, fun _ => h, fun _ => rfl⟩
    · exact ⟨false, fun e => (by cases e), fun e => absurd e h⟩
  refine ⟨t, fun y => (Right_any v y).mono ?_, fun y => (rright_any v y).mono ?_⟩
  · rintro e y' ⟨⟨t2, he, h2⟩, hB⟩
    obtain rfl : t2 = t := Bool.eq_iff_iff.2 (h2.trans ht.symm)
    exact ⟨he, hB⟩
  · rintro e y' ⟨⟨t2, he, h2⟩, hB⟩
    obtain rfl : t2 = t := Bool.eq_iff_iff.2 (h2.trans ht.symm)
    exact ⟨he, hB⟩
def SumRel (w : World) (n : Nat) (vs : Nat → Nat → Int) (s i : Value) (wr : World) : Prop := ∃ (k : Nat) (z : Value), z = s ∧ k ≤ n ∧ i = .int .i64 k ∧ wr.ownsRow w.heap.size 38 19 z k (scs vs k) ∧ Below w.heap.size w wr
theorem fill38 (u : Nat → Int) : Instr.fill (fun i => some (i * 19, 19)) ((Array.range (1 * 19)).map ((Value.agg (stC v0)).cells[· % (Value.agg (stC v0)).cells.size]!)) #[(0, Value.agg (stC u))].toList = some (stC u) := fill1 u
theorem build38 (u : Nat → Int) (w : World) : (Instr.buildSlice 54 1 #[(0, .agg (stC u))]).run Tryd.prog w = .ok (.slice (some ⟨w.heap.size, 0, none⟩) 1 1) (w.alloc (.cells (stC u) 38)) := by
  obtain ⟨i0, hi, hz0, hz1, hz2⟩ := info_parts info38w
  refine run_buildSlice w 54 38 1 _ _ i0 _ Tryd.underlying54 hi hz0 (by rw [hz1]; decide) (by rw [hz1]; decide) ?_
  rw [hz1]
  exact fill1 u
set_option maxRecDepth 100000 in
set_option maxHeartbeats 3200000 in
theorem sums_any {w : World} {a : Option Addr} {n cap : Nat} {vs : Nat → Nat → Int} (h : RS w a n cap vs) (hv : ∀ k i, inI (vs k i)) (ki : Int) (ht : Tab w) : Calls Tryd.prog 16 #[.slice a n cap, .int .i64 ki] w (XPost w) := by
  have hm := h.most
  have hle := h.le
  obtain ⟨i0, hi, hz0, hz1, hz2'⟩ := info_parts info38w
  have H := Lib.hid h
  have HT := Lib.hid ht
  have HV := Lib.hid hv
  have HRF := Lib.hid fun (u : Nat → Int) (y : World) => ref_any u y
  clear h ht hv
  go_enter Tryd.func16, Tryd.ntmps16
  by_cases h5 : 500 < n
  · go_wp2_with fail
    refine (awake_any HT.out).mono ?_
    rintro e w2 ⟨rfl, hB2⟩
    go_wp2_with fail
    go_ret
    exact ⟨rfl, hB2⟩
  have h5' : n ≤ 500 := by omega
  clear h5
  go_wp2_with fail
  go_loopw [5, 6] (fun s i wr => SumRel w n vs s i wr) (fun _ i _ => n - (intOf i).toNat)
  case atStart => exact ⟨0, _, rfl, Nat.zero_le _, rfl, ⟨rfl, .inl ⟨rfl, rfl⟩⟩, Below.refl _ _⟩
  case round =>
    obtain ⟨k, z, hz, hk, rfl, hO, hB⟩ := hrel
    subst hz
    have HO := Lib.hid hO
    have HB := Lib.hid hB
    have hsw := hB.size
    clear hO hB
    by_cases hk1 : k < n
    · obtain ⟨b, off, rfl, hc⟩ := (H.out.below HB.out).at_ k hk1
      have HRW := Lib.hid hc
      have HSC := Lib.hid (scs_succ vs k)
      generalize vs k = x at *
      clear hc
      have q0 : decide ((k : Int) < n) = true := by simp; omega
      go_wp2_with (refine wpList_load_midG rfl 25 (.tmp 21) rfl b (off + k * 19) rfl (stC x).toList _ HRW.out Tryd.underlying25 rfl (info25y x) ?_)
      refine (HRF.out x _).mono ?_
      rintro e w2 ⟨rfl, hB2⟩
      have hz2 := hB2.size
      have HO2 := Lib.hid ((own_below HO.out hB2).alloc (.cells (stC x) 38))
      have HBA := Lib.hid (hB2.alloc hz2 (.cells (stC x) 38))
      clear hB2
      have HB38 := Lib.hid (build38 x w2)
      go_wp2_with (first
        | (refine wpList_value (by rfl) (run_exec_buildSlice (parts := [(0, .tmp 23)]) (pv := [(0, .agg (stC x))]) rfl rfl HB38.out) ?_)
        | (refine wpList_append_any (by rfl) (.tmp 18) (.tmp 24) 54 (by rfl) w.heap.size 38 i0 _ 19 152 Tryd.underlying54 hi hz0 hz1 hz2' rfl (by omega) z k (scs vs k) (by rfl) HO2.out (some ⟨w2.heap.size, 0, none⟩) 1 1 (stC x).toList (by rfl) (by rfl) (fun e => by cases e) (fun j u hu => ⟨w2.heap.size, 0, rfl, by rw [Nat.zero_add, cell_of_block (heap_alloc_new w2 _), ← Array.getElem?_toList]; exact hu⟩) (fun u hu => stC_ones x u hu) (by unfold maxLen; omega) (by omega) (by simp; omega) ?_; intro v5 w5 ho5 hg5; have HO5 := Lib.hid ho5; have HB5 := Lib.hid ((HBA.out.mono (by omega)).grown hg5 (by simp; omega) (fun k e => (HO2.out.lt k e).1)); clear ho5 hg5))
      go_roundw
      case rel => exact ⟨k + 1, _, rfl, by omega, by go_num, by rw [HSC.out]; exact HO5.out, HB.out.trans HB5.out⟩
      case measure => simp [intOf]; omega
    · obtain rfl : k = n := by omega
      have hn' : k ≤ 140737488351232 := by omega
      obtain ⟨ar, capr, rfl, hq⟩ := RQ.of_own HO.out hn'
      have HQ := Lib.hid hq
      have HSU := Lib.hid (Sum_any (H.out.below HB.out))
      clear hq HO
      go_wp2_with fail
      refine HSU.out.mono ?_
      rintro e w2 ⟨rfl, hB2⟩
      have HB2 := Lib.hid (HB.out.trans (hB2.mono hsw))
      have HB2' := Lib.hid hB2
      have HQ2 := Lib.hid (HQ.out.below hB2)
      clear hB2 HB HSU HQ
      have HPK := Lib.hid fun (h0 : 0 < k) (y : World) => pick_any (k := ki) (m := (k : Int)) (by omega) (by omega) y
      go_upto_region 9 with (refine wpList_store_row rfl 25 (.tmp 7) (.tmp 27) rfl w2.heap.size (stC (foldV v0 vs k)) rfl rfl 25 (stC v0) (StAt.new w2 v0) info25 rfl (stC_one _) ?_)
      refine (show Code.wp Tryd.prog _ _ _ (newSt w2 (foldV v0 vs k)) from ?_)
      have hz2 := (newSt_below w2 (foldV v0 vs k)).size
      have HB4 := Lib.hid (HB2.out.trans ((newSt_below w2 (foldV v0 vs k)).mono HB2.out.size))
      have HS4 := Lib.hid (newSt_at w2 (foldV v0 vs k))
      have HBW := Lib.hid (newSt_below w2 (foldV v0 vs k))
      generalize newSt w2 (foldV v0 vs k) = W at *
      simp only [Act.put]
      have hg : w.heap.size ≤ w2.heap.size := HB2.out.size
      by_cases h0 : 0 < k
      · go_wp2_with fail
        refine (HPK.out h0 _).mono ?_
        rintro e w9 ⟨⟨r, rfl, hr⟩, rfl⟩
        obtain ⟨b, off, rfl, hc⟩ := (H.out.below HB4.out).at_ r (by omega)
        have HRW := Lib.hid hc
        clear hc
        have hr2 : r < k := by omega
        go_upto_region 11 with (first | (refine wpList_load_midG rfl 25 (.tmp 36) rfl b (off + r * 19) rfl (stC (vs r)).toList _ HRW.out Tryd.underlying25 rfl (info25y (vs r)) ?_) | (refine wpList_store_row rfl 25 (.tmp 7) (.tmp 37) rfl w2.heap.size (stC (vs r)) rfl rfl 25 (stC (foldV v0 vs k)) HS4.out info25 rfl (stC_one _) ?_))
        have HSU := Lib.hid (show StAt 25 (W.setRow w2.heap.size (stC (vs r))) w2.heap.size (vs r) from setRow_heap _ _ _ _ _ _ HS4.out)
        have HB3 := Lib.hid (below_setRow (cs := stC (vs r)) HB4.out hg)
        have HQ3 := Lib.hid (HQ2.out.below (below_setRow (cs := stC (vs r)) HBW.out (Nat.le_refl _)))
        have HUI := Lib.hid (HV.out r)
        have HR3 := Lib.hid (H.out.below HB3.out)
        have HT3 := Lib.hid (HT.out.below HB3.out HT.out.lt)
        clear HRW HS4 HB4 HBW HQ2 HB2 HB2' HPK H HT hz2
        generalize W.setRow w2.heap.size (stC (vs r)) = W at *
        generalize vs r = U at *
        simp only [Act.put, List.setIfInBounds_toArray, List.set_cons_succ, List.set_cons_zero]
        obtain ⟨t0, HT0⟩ : ∃ t : Bool, Hid ((∀ y, Calls Tryd.prog 18 #[.agg (stC U)] y fun e y' => e = .returned (.bool t) ∧ Below y.heap.size y y') ∧ ∀ y, Calls Tryd.prog 26 #[.agg (stC U)] y fun e y' => e = .returned (.bool t) ∧ Below y.heap.size y y') := right_both U
        have HSUM := Lib.hid fun (x : Lies W) => Sum_any (HR3.out.below x.below)
        have HRS := Lib.hid fun (x : Lies W) => rsum_any (HQ3.out.below x.below)
        have HTX := Lib.hid fun (x : Lies W) => Text_any (v := U) (fun i _ => HUI.out i) (HT3.out.below x.below HT3.out.lt)
        have HRT := Lib.hid fun (x : Lies W) => rtext_any (v := U) (fun i _ => HUI.out i) (HT3.out.below x.below HT3.out.lt)
        have HAW := Lib.hid fun (x : Lies W) => awake_any (HT3.out.below x.below HT3.out.lt)
        have hq1 := eq_one38 (foldV v0 vs k)
        generalize foldV v0 vs k = F at *
        generalize (⟨(textV U).toArray⟩ : ByteArray) = sT at *
        refine region_lies (by kernel_rfl) (by kernel_rfl) ?_
        repeat (first
          | ((refine quiet_load_row (some 45) rfl rfl 25 (.tmp 7) rfl w2.heap.size rfl 25 (stC U) (0, 0) _ (lies_block HSU.out) Tryd.underlying25 rfl info25 ?_); simp only [Act.put, List.setIfInBounds_toArray, List.set_cons_succ, List.set_cons_zero])
          | ((refine quiet_load_row (some 47) rfl rfl 25 (.tmp 7) rfl w2.heap.size rfl 25 (stC U) (0, 0) _ (lies_block HSU.out) Tryd.underlying25 rfl info25 ?_); simp only [Act.put, List.setIfInBounds_toArray, List.set_cons_succ, List.set_cons_zero])
          | ((refine quiet_load_row (some 53) rfl rfl 25 (.tmp 7) rfl w2.heap.size rfl 25 (stC U) (0, 0) _ (lies_block HSU.out) Tryd.underlying25 rfl info25 ?_); simp only [Act.put, List.setIfInBounds_toArray, List.set_cons_succ, List.set_cons_zero])
          | ((refine quiet_load_row (some 55) rfl rfl 25 (.tmp 7) rfl w2.heap.size rfl 25 (stC U) (0, 0) _ (lies_block HSU.out) Tryd.underlying25 rfl info25 ?_); simp only [Act.put, List.setIfInBounds_toArray, List.set_cons_succ, List.set_cons_zero])
          | go_big_quiet_step (first | (go_at_call 19; exact Lies.call (HSUM.out _)) | (go_at_call 13; exact Lies.call (HRF.out _ _)) | (go_at_call 25; exact Lies.call (HRS.out _)) | (go_at_call 18; exact Lies.call (HT0.out.1 _)) | (go_at_call 26; exact Lies.call (HT0.out.2 _)) | (go_at_call 20; exact Lies.call (HTX.out _)) | (go_at_call 27; exact Lies.call (HRT.out _)) | (go_at_call 7; exact Lies.call (HAW.out _))))
        refine wpQuiet_nil ?_
        intro _ hw'
        obtain ⟨xw, hw''⟩ := hw'
        subst hw''
        go_wp2_with fail
        go_ret
        exact ⟨rfl, HB3.out.trans (xw.below.mono HB3.out.size)⟩
      · obtain rfl : k = 0 := by omega
        have HSU := Lib.hid (show StAt 25 W w2.heap.size v0 from HS4.out)
        have HB3 := HB4
        have HQ3 := Lib.hid (HQ2.out.below HBW.out)
        have HUI := Lib.hid (show ∀ i, inI (v0 i) from fun i => fold_in (vs := vs) 0 i)
        have HR3 := Lib.hid (H.out.below HB3.out)
        have HT3 := Lib.hid (HT.out.below HB3.out HT.out.lt)
        clear HS4 HB4 HBW HQ2 HB2 HB2' HPK H HT hz2
        obtain ⟨U, hU⟩ : ∃ U, U = v0 := ⟨_, rfl⟩
        rw [← hU] at HSU HUI
        clear hU
        go_upto_region 11 with fail
        obtain ⟨t0, HT0⟩ : ∃ t : Bool, Hid ((∀ y, Calls Tryd.prog 18 #[.agg (stC U)] y fun e y' => e = .returned (.bool t) ∧ Below y.heap.size y y') ∧ ∀ y, Calls Tryd.prog 26 #[.agg (stC U)] y fun e y' => e = .returned (.bool t) ∧ Below y.heap.size y y') := right_both U
        have HSUM := Lib.hid fun (x : Lies W) => Sum_any (HR3.out.below x.below)
        have HRS := Lib.hid fun (x : Lies W) => rsum_any (HQ3.out.below x.below)
        have HTX := Lib.hid fun (x : Lies W) => Text_any (v := U) (fun i _ => HUI.out i) (HT3.out.below x.below HT3.out.lt)
        have HRT := Lib.hid fun (x : Lies W) => rtext_any (v := U) (fun i _ => HUI.out i) (HT3.out.below x.below HT3.out.lt)
        have HAW := Lib.hid fun (x : Lies W) => awake_any (HT3.out.below x.below HT3.out.lt)
        have hq1 := eq_one38 (foldV v0 vs 0)
        generalize foldV v0 vs 0 = F at *
        generalize (⟨(textV U).toArray⟩ : ByteArray) = sT at *
        refine region_lies (by kernel_rfl) (by kernel_rfl) ?_
        repeat (first
          | ((refine quiet_load_row (some 45) rfl rfl 25 (.tmp 7) rfl w2.heap.size rfl 25 (stC U) (0, 0) _ (lies_block HSU.out) Tryd.underlying25 rfl info25 ?_); simp only [Act.put, List.setIfInBounds_toArray, List.set_cons_succ, List.set_cons_zero])
          | ((refine quiet_load_row (some 47) rfl rfl 25 (.tmp 7) rfl w2.heap.size rfl 25 (stC U) (0, 0) _ (lies_block HSU.out) Tryd.underlying25 rfl info25 ?_); simp only [Act.put, List.setIfInBounds_toArray, List.set_cons_succ, List.set_cons_zero])
          | ((refine quiet_load_row (some 53) rfl rfl 25 (.tmp 7) rfl w2.heap.size rfl 25 (stC U) (0, 0) _ (lies_block HSU.out) Tryd.underlying25 rfl info25 ?_); simp only [Act.put, List.setIfInBounds_toArray, List.set_cons_succ, List.set_cons_zero])
          | ((refine quiet_load_row (some 55) rfl rfl 25 (.tmp 7) rfl w2.heap.size rfl 25 (stC U) (0, 0) _ (lies_block HSU.out) Tryd.underlying25 rfl info25 ?_); simp only [Act.put, List.setIfInBounds_toArray, List.set_cons_succ, List.set_cons_zero])
          | go_big_quiet_step (first | (go_at_call 19; exact Lies.call (HSUM.out _)) | (go_at_call 13; exact Lies.call (HRF.out _ _)) | (go_at_call 25; exact Lies.call (HRS.out _)) | (go_at_call 18; exact Lies.call (HT0.out.1 _)) | (go_at_call 26; exact Lies.call (HT0.out.2 _)) | (go_at_call 20; exact Lies.call (HTX.out _)) | (go_at_call 27; exact Lies.call (HRT.out _)) | (go_at_call 7; exact Lies.call (HAW.out _))))
        refine wpQuiet_nil ?_
        intro _ hw'
        obtain ⟨xw, hw''⟩ := hw'
        subst hw''
        go_wp2_with fail
        go_ret
        exact ⟨rfl, HB3.out.trans (xw.below.mono HB3.out.size)⟩
end Go.Proofs.YtfojhmobnedekaaDoor
