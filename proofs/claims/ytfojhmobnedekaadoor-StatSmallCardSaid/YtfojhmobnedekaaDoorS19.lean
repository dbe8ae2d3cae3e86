/- The walk of the document's Sum. Conditions: rows are shorter than 2 to the 47. -/
import Derived.Test.YtfojhmobnedekaaDoorS14
import Derived.Test.YtfojhmobnedekaaDoorS7
namespace Go.Proofs.YtfojhmobnedekaaDoor
open Go.RowKit

/-- A sum, as far as count m. -/
def pv (s x : Nat → Int) (m : Nat) : Nat → Int := fun i => if i < m then ad (s i) (x i) else s i
theorem pv_step (s x : Nat → Int) (m : Nat) : upd (pv s x m) m (ad (s m) (x m)) = pv s x (m + 1) := by
  funext i
  unfold upd pv
  by_cases e : i = m
  · subst e; rw [if_pos rfl, if_pos (by omega)]
  · rw [if_neg e]
    by_cases h : i < m
    · rw [if_pos h, if_pos (by omega)]
    · rw [if_neg h, if_neg (by omega)]
theorem pv_at (s x : Nat → Int) (m : Nat) : pv s x m m = s m := if_neg (by omega)
theorem pv_0 (s x : Nat → Int) : pv s x 0 = s := by
  funext i; exact if_neg (by omega)
theorem pv_19 (s x : Nat → Int) : stC (pv s x 19) = stC (sumV s x) := sameV_C fun _ hi => if_pos hi
theorem StAt.pv {w : World} {b m : Nat} {s x : Nat → Int} (h : StAt 38 w b (pv s x m)) (hm : m < 19) : StAt 38 (w.setCell ⟨b, m, none⟩ (.int .i64 (ad (s m) (x m)))) b (YtfojhmobnedekaaDoor.pv s x (m + 1)) := by
  have := h.set (ad (s m) (x m)) hm
  rwa [pv_step] at this
/-- What a round of Sum has: a sum as far as m, the row that is added, the result's place. -/
structure SR (w : World) (bx : Nat) (s x : Nat → Int) (m : Nat) (W : World) : Prop where
  st : StAt 38 W (w.heap.size + 1) (pv s x m)
  row : StAt 38 W bx x
  res : StAt 38 W w.heap.size v0
  below : Below w.heap.size w W
  far : w.heap.size + 1 < bx
theorem SR.step {w W : World} {bx m : Nat} {s x : Nat → Int} (h : SR w bx s x m W) (hm : m < 19) : SR w bx s x (m + 1) (W.setCell ⟨w.heap.size + 1, m, none⟩ (.int .i64 (ad (s m) (x m)))) :=
  have hK := Kb.setCell W (w.heap.size + 1) m (.int .i64 (ad (s m) (x m)))
  have := h.far
  ⟨h.st.pv hm, h.row.kb hK (by omega), h.res.kb hK (by omega), kb_below h.below hK (by omega) h.below.size, h.far⟩
theorem SR.drewN {w W : World} {bx m : Nat} {s x : Nat → Int} (h : SR w bx s x m W) (q : Nat) : SR w bx s x m (W.drewN q) := ⟨h.st, h.row, h.res, below_drewN h.below q, h.far⟩
theorem SR.c {w W : World} {bx m : Nat} {s x : Nat → Int} (h : SR w bx s x m W) (hm : m < 19) : W.cell? ⟨w.heap.size + 1, m, none⟩ = some (.int .i64 (s m)) := by rw [h.st.cell hm, pv_at]
theorem SR.d {w W : World} {bx m : Nat} {s x : Nat → Int} (h : SR w bx s x m W) {k : Nat} (hk : k < 19) : W.cell? ⟨bx, k, none⟩ = some (.int .i64 (x k)) := h.row.cell hk
/-- A row's copy in a new box. -/
def newRow (wr : World) (x : Nat → Int) : World := (wr.alloc (.cells (stC v0) 38)).setRow wr.heap.size (stC x)
theorem sr_start {w wr : World} {s x : Nat → Int} (hS : StAt 38 wr (w.heap.size + 1) s) (hU : StAt 38 wr w.heap.size v0) (hB : Below w.heap.size w wr) : SR w wr.heap.size s x 0 (newRow wr x) := by
  have hb : Below wr.heap.size wr (newRow wr x) := below_setRow ((Below.refl _ _).alloc (Nat.le_refl _) _) (Nat.le_refl _)
  have h1 := hS.lt
  refine ⟨?_, setRow_heap _ _ _ _ _ _ (StAt.new' wr v0), hU.below hb (by omega), hB.trans (hb.mono hB.size), h1⟩
  rw [pv_0]; exact hS.below hb h1
/-- Rows of stats that are read. -/
structure RQ (w : World) (a : Option Addr) (n cap : Nat) (vs : Nat → Nat → Int) : Prop where
  le : n ≤ cap
  most : n ≤ 140737488351232
  at_ : ∀ k, k < n → ∃ b off, a = some ⟨b, off, none⟩ ∧ w.rangeAt b (off + k * 19) (stC (vs k)).toList
theorem RQ.below {w w' : World} {a : Option Addr} {n cap : Nat} {vs : Nat → Nat → Int} (h : RQ w a n cap vs) (hB : Below w.heap.size w w') : RQ w' a n cap vs :=
  ⟨h.le, h.most, fun k hk => by
    obtain ⟨b, off, e, hc⟩ := h.at_ k hk
    exact ⟨b, off, e, rangeAt_below hc hB⟩⟩
def RSum (w : World) (n : Nat) (vs : Nat → Nat → Int) (i : Value) (wr : World) : Prop := ∃ k : Nat, k ≤ n ∧ i = .int .i64 k ∧ StAt 38 wr (w.heap.size + 1) (foldV v0 vs k) ∧ StAt 38 wr w.heap.size v0 ∧ Below w.heap.size w wr
theorem info38y (x : Nat → Int) : (Tryd.prog.info? 38).map (·.size) = some (stC x).toList.length := by rw [info38]; rfl
set_option maxRecDepth 100000 in
set_option maxHeartbeats 16000000 in
theorem rsum_any {w : World} {a : Option Addr} {n cap : Nat} {vs : Nat → Nat → Int} (h : RQ w a n cap vs) :
    Calls Tryd.prog 25 #[.slice a n cap] w fun e w' => e = .returned (.agg (stC (foldV v0 vs n))) ∧ Below w.heap.size w w' := by
  have hm := h.most
  have hle := h.le
  have H := Lib.hid h
  have HA := Lib.hid radd_any
  clear h
  go_enter Tryd.func25, Tryd.ntmps25
  go_wp2_with fail
  go_loopw [4] (fun i wr => RSum w n vs i wr) (fun i _ => n - (intOf i).toNat)
  case atStart =>
    refine ⟨0, Nat.zero_le _, rfl, ?_, ?_, ((Below.refl _ _).alloc (Nat.le_refl _) _).alloc (by simp) _⟩
    · have := StAt.new' (w.alloc (.cells (stC v0) 38)) v0
      rw [World.size_alloc] at this
      exact this
    · exact (StAt.new' w v0).below ((Below.refl _ _).alloc (Nat.le_refl _) _) (by simp)
  case round =>
    obtain ⟨k, hk, rfl, hS, hU, hB⟩ := hrel
    have HS := Lib.hid hS
    have HU := Lib.hid hU
    have HB := Lib.hid hB
    have hsz := hS.lt
    clear hS hU hB
    by_cases hk1 : k < n
    · obtain ⟨b, off, rfl, hc⟩ := (H.out.below HB.out).at_ k hk1
      have HRW := Lib.hid hc
      have HFN := Lib.hid (show foldV v0 vs (k + 1) = sumV (foldV v0 vs k) (vs k) from rfl)
      generalize foldV v0 vs k = s at *
      generalize vs k = x at *
      have q0 : decide ((k : Int) < n) = true := by simp; omega
      go_upto_region 6 with (first | (refine wpList_load_midG rfl 38 (.tmp 16) rfl b (off + k * 19) rfl (stC x).toList _ HRW.out Tryd.underlying38 rfl (info38y x) ?_) | (refine wpList_store_row rfl 38 (.tmp 5) (.tmp 17) rfl wr.heap.size (stC x) rfl rfl 38 (stC v0) (StAt.new' wr v0) info38 rfl (stC_one _) ?_))
      refine (show Code.wp Tryd.prog _ _ _ (newRow wr x) from ?_)
      have HR0 := Lib.hid (sr_start (x := x) HS.out HU.out HB.out)
      clear HS HU HB HRW
      generalize newRow wr x = W0 at *
      generalize wr.heap.size = bx at *
      simp only [Act.put]
      have c0 := HR0.out.c (by omega)
      have d0 := HR0.out.d (k := 0) (by omega)
      have f0 := HR0.out.st.froz 0
      go_wp2_with fail
      refine (HA.out _ _ _).mono ?_
      rintro e w9 ⟨rfl, rfl⟩
      have HR1 := Lib.hid (HR0.out.step (by omega))
      go_upto_region 7 with fail
      clear c0 d0 f0 HR0
      generalize W0.setCell ⟨w.heap.size + 1, 0, none⟩ (.int .i64 (ad (s 0) (x 0))) = W1 at *
      have c1 := HR1.out.c (by omega)
      have d1 := HR1.out.d (k := 1) (by omega)
      have f1 := HR1.out.st.froz 1
      go_wp2_with fail
      refine (HA.out _ _ _).mono ?_
      rintro e w9 ⟨rfl, rfl⟩
      have HR2 := Lib.hid (HR1.out.step (by omega))
      go_upto_region 8 with fail
      clear c1 d1 f1 HR1
      generalize W1.setCell ⟨w.heap.size + 1, 1, none⟩ (.int .i64 (ad (s 1) (x 1))) = W2 at *
      have c2 := HR2.out.c (by omega)
      have d2 := HR2.out.d (k := 2) (by omega)
      have f2 := HR2.out.st.froz 2
      go_wp2_with fail
      refine (HA.out _ _ _).mono ?_
      rintro e w9 ⟨rfl, rfl⟩
      have HR3 := Lib.hid (HR2.out.step (by omega))
      go_upto_region 9 with fail
      clear c2 d2 f2 HR2
      generalize W2.setCell ⟨w.heap.size + 1, 2, none⟩ (.int .i64 (ad (s 2) (x 2))) = W3 at *
      go_wp2_with fail
      go_loopw [6] (fun i wr => ∃ j : Nat, j ≤ 8 ∧ i = .int .i64 j ∧ Hid (SR w bx s x (3 + j) wr)) (fun i _ => 8 - (intOf i).toNat)
      case atStart => exact ⟨0, Nat.zero_le _, rfl, HR3⟩
      case round =>
        clear HR3
        obtain ⟨j, hj, rfl, HJ⟩ := hrel
        by_cases hj1 : j < 8
        · have cj := HJ.out.c (by omega)
          have dj := HJ.out.d (k := 3 + j) (by omega)
          have q1 : decide ((j : Int) < 8) = true := by simp; omega
          have hj2 : ((j : Nat) : Int) < 8 := by omega
          go_upto_region 12 with fail
          refine region_quiet_tail 12 (by kernel_rfl) (by kernel_rfl) ?_
          simp only [List.take_succ_cons, List.take_zero, List.drop_succ_cons, List.drop_zero]
          repeat (go_big_quiet_step ((go_at_call 24; exact quiet_same (HA.out _ _ _))))
          refine wpQuiet_nil ?_
          intro _ hw'
          obtain ⟨nq, hw''⟩ := hw'
          subst hw''
          have HJ2 := Lib.hid (HJ.out.drewN nq)
          have fj := HJ2.out.st.froz (3 + j)
          have cj2 := HJ2.out.c (by omega)
          go_wp2_with fail
          go_roundw
          case rel => exact ⟨j + 1, by omega, by go_num, HJ2.out.step (by omega)⟩
          case measure => simp [intOf]; omega
        · obtain rfl : j = 8 := by omega
          simp only [show ((8 : Nat) : Int) = 8 from rfl]
          have HR11 := HJ
          go_wp2_with fail
          go_loopw [7] (fun i wr => ∃ j : Nat, j ≤ 4 ∧ i = .int .i64 j ∧ Hid (SR w bx s x (11 + j) wr)) (fun i _ => 4 - (intOf i).toNat)
          case atStart => exact ⟨0, Nat.zero_le _, rfl, HR11⟩
          case round =>
            clear HR11
            obtain ⟨j, hj, rfl, HJ⟩ := hrel
            by_cases hj1 : j < 4
            · have cj := HJ.out.c (by omega)
              have dj := HJ.out.d (k := 11 + j) (by omega)
              have q1 : decide ((j : Int) < 4) = true := by simp; omega
              have hj2 : ((j : Nat) : Int) < 4 := by omega
              go_upto_region 16 with fail
              refine region_quiet_tail 12 (by kernel_rfl) (by kernel_rfl) ?_
              simp only [List.take_succ_cons, List.take_zero, List.drop_succ_cons, List.drop_zero]
              repeat (go_big_quiet_step ((go_at_call 24; exact quiet_same (HA.out _ _ _))))
              refine wpQuiet_nil ?_
              intro _ hw'
              obtain ⟨nq, hw''⟩ := hw'
              subst hw''
              have HJ2 := Lib.hid (HJ.out.drewN nq)
              have fj := HJ2.out.st.froz (11 + j)
              have cj2 := HJ2.out.c (by omega)
              go_wp2_with fail
              go_roundw
              case rel => exact ⟨j + 1, by omega, by go_num, HJ2.out.step (by omega)⟩
              case measure => simp [intOf]; omega
            · obtain rfl : j = 4 := by omega
              simp only [show ((4 : Nat) : Int) = 4 from rfl]
              have HR15 := HJ
              go_upto_region 17 with fail
              generalize wr = W15 at *
              have c15 := HR15.out.c (by omega)
              have d15 := HR15.out.d (k := 15) (by omega)
              have f15 := HR15.out.st.froz 15
              go_wp2_with fail
              refine (HA.out _ _ _).mono ?_
              rintro e w9 ⟨rfl, rfl⟩
              have HR16 := Lib.hid (HR15.out.step (by omega))
              go_upto_region 18 with fail
              clear c15 d15 f15 HR15
              generalize W15.setCell ⟨w.heap.size + 1, 15, none⟩ (.int .i64 (ad (s 15) (x 15))) = W16 at *
              have c16 := HR16.out.c (by omega)
              have d16 := HR16.out.d (k := 16) (by omega)
              have f16 := HR16.out.st.froz 16
              go_wp2_with fail
              refine (HA.out _ _ _).mono ?_
              rintro e w9 ⟨rfl, rfl⟩
              have HR17 := Lib.hid (HR16.out.step (by omega))
              go_upto_region 19 with fail
              clear c16 d16 f16 HR16
              generalize W16.setCell ⟨w.heap.size + 1, 16, none⟩ (.int .i64 (ad (s 16) (x 16))) = W17 at *
              have c17 := HR17.out.c (by omega)
              have d17 := HR17.out.d (k := 17) (by omega)
              have f17 := HR17.out.st.froz 17
              go_wp2_with fail
              refine (HA.out _ _ _).mono ?_
              rintro e w9 ⟨rfl, rfl⟩
              have HR18 := Lib.hid (HR17.out.step (by omega))
              go_upto_region 20 with fail
              clear c17 d17 f17 HR17
              generalize W17.setCell ⟨w.heap.size + 1, 17, none⟩ (.int .i64 (ad (s 17) (x 17))) = W18 at *
              have c18 := HR18.out.c (by omega)
              have d18 := HR18.out.d (k := 18) (by omega)
              have f18 := HR18.out.st.froz 18
              go_wp2_with fail
              refine (HA.out _ _ _).mono ?_
              rintro e w9 ⟨rfl, rfl⟩
              have HR19 := Lib.hid (HR18.out.step (by omega))
              go_wp2_with fail
              go_roundw
              case rel => exact ⟨k + 1, by omega, by go_num, by rw [HFN.out]; exact (show _ = _ from HR19.out.st.trans (by rw [pv_19])), HR19.out.res, HR19.out.below⟩
              case measure => simp [intOf]; omega
    · obtain rfl : k = n := by omega
      go_wp2_with (first | (refine wpList_load_row rfl 38 (.tmp 3) rfl (w.heap.size + 1) rfl 38 (stC (foldV v0 vs k)) (0, 0) _ HS.out Tryd.underlying38 rfl info38 ?_) | (refine wpList_store_row rfl 38 (.tmp 2) (.tmp 92) rfl w.heap.size (stC (foldV v0 vs k)) rfl rfl 38 (stC v0) HU.out info38 rfl (stC_one _) ?_))
      have h2 : (wr.setRow w.heap.size (stC (foldV v0 vs k))).heap[w.heap.size]? = some (.cells (stC (foldV v0 vs k)) 38 (0, 0)) := setRow_heap wr _ _ _ _ _ HU.out
      exact bodyPost_ret (v := .agg (stC (foldV v0 vs k))) (results_cell_row rfl _ _ _ _ _ _ _ rfl h2 Tryd.underlying38 rfl info38) rfl ⟨rfl, below_setRow HB.out (Nat.le_refl _)⟩
end Go.Proofs.YtfojhmobnedekaaDoor
