/- The walks of the kit's Pick, of the law's awake. Condition: the table of powers is as the library lays it. -/
import Derived.Test.YtfojhmobnedekaaDoorS9
namespace Go.Proofs.YtfojhmobnedekaaDoor
open Go.RowKit

theorem wpList_taken {P : Program} {w : World} {ops : Array Oper} {rest : List Oper} {o : Oper} {a : Act} {Q : Exit → Act → World → Prop} (hg : Region.wanted o (yielded ops a.tmps) = true)
    (h : ∀ K : Act → World → Prop, (∀ a w, wpList P ops Q rest a w → K a w) → o.wp P a w K Q) : wpList P ops Q (o :: rest) a w :=
  wpList_step fun K hK => by rw [if_pos hg]; exact h K hK
theorem wpList_load_rowG {P : Program} {ops : Array Oper} {rest : List Oper} {o : Oper} {a : Act} {w : World} {Q : Exit → Act → World → Prop} (hgd : Region.wanted o (yielded ops a.tmps) = true) (ty : TypeId) (x : Operand) (ho : o.op = .load ty x)
    (g : Nat) (hx : a.eval x = .pointer (some ⟨g, 0, none⟩)) (t : TypeId) (cs : Array Value) (fr : Nat × Nat) (d : TypeDesc) (hg : w.heap[g]? = some (.cells cs t fr))
    (hu : P.underlying ty = some d) (hd : (match d with | .struct _ | .array _ _ => true | _ => false) = true) (hi : (P.info? ty).map (·.size) = some cs.size)
    (h : wpList P ops Q rest (a.put o.dst (.agg cs)) w) : wpList P ops Q (o :: rest) a w :=
  wpList_taken hgd fun _ hK => wp_load_row ty x ho g hx t cs fr d hg hu hd hi (hK _ _ h)
/-- The chapter's example. -/
def exE : List (Int × Int) := [(1, 9), (2, 1), (2, 1), (3, 1)]
def exV : Nat → Int := andV v0 exE
def exC : Array Value := #[.int .i64 1, .int .i64 9, .int .i64 2, .int .i64 0, .int .i64 2, .int .i64 0, .int .i64 0, .int .i64 0, .int .i64 0, .int .i64 0, .int .i64 0, .int .i64 0, .int .i64 1, .int .i64 0, .int .i64 0, .int .i64 0, .int .i64 0, .int .i64 0, .int .i64 0]
theorem exV_C : stC exV = exC := by
  unfold stC exC
  rw [show exV 0 = 1 by decide +kernel, show exV 1 = 9 by decide +kernel, show exV 2 = 2 by decide +kernel, show exV 3 = 0 by decide +kernel, show exV 4 = 2 by decide +kernel, show exV 5 = 0 by decide +kernel, show exV 6 = 0 by decide +kernel, show exV 7 = 0 by decide +kernel, show exV 8 = 0 by decide +kernel, show exV 9 = 0 by decide +kernel, show exV 10 = 0 by decide +kernel, show exV 11 = 0 by decide +kernel, show exV 12 = 1 by decide +kernel, show exV 13 = 0 by decide +kernel, show exV 14 = 0 by decide +kernel, show exV 15 = 0 by decide +kernel, show exV 16 = 0 by decide +kernel, show exV 17 = 0 by decide +kernel, show exV 18 = 0 by decide +kernel]
theorem exV_right : RightV exV := by
  refine ⟨?_, by decide +kernel, by decide +kernel, by decide +kernel⟩
  intro k hk
  have : k = 0 ∨ k = 1 ∨ k = 2 ∨ k = 3 ∨ k = 4 ∨ k = 5 ∨ k = 6 ∨ k = 7 ∨ k = 8 ∨ k = 9 ∨ k = 10 ∨ k = 11 ∨ k = 12 ∨ k = 13 ∨ k = 14 ∨ k = 15 ∨ k = 16 := by omega
  rcases this with rfl | rfl | rfl | rfl | rfl | rfl | rfl | rfl | rfl | rfl | rfl | rfl | rfl | rfl | rfl | rfl | rfl <;> decide +kernel
theorem exV_in : ∀ i, i < 19 → inI (exV i) := by
  intro i hi
  have : ∀ i, i < 19 → -9223372036854775808 ≤ exV i ∧ exV i ≤ 9223372036854775807 := by decide +kernel
  exact this i hi
def exT : List UInt8 := [102, 114, 97, 109, 101, 115, 32, 49, 10, 115, 101, 110, 116, 32, 57, 10, 99, 97, 109, 101, 32, 50, 10, 115, 116, 111, 114, 101, 100, 32, 50, 10, 115, 104, 97, 112, 101, 32, 48, 10]
theorem itoa_small {n : Int} {k : Nat} (h : n = (k : Nat)) (hk : k < 10) : Lib.itoa n = [UInt8.ofNat (48 + k)] := by rw [h, Lib.itoa_nonneg, Lib.decDigits_one hk]
theorem exV_text : Lib.hasPrefix (textV exV) exT = true := by
  have e : textV exV = (lineV exV 0 ++ lineV exV 1 ++ lineV exV 2 ++ lineV exV 3 ++ lineV exV 4) ++ textTo exV [5, 6, 7, 8, 9, 10, 11, 12, 13, 14, 15, 16] := by
    show textTo exV [0, 1, 2, 3, 4, 5, 6, 7, 8, 9, 10, 11, 12, 13, 14, 15, 16] = _
    simp [textTo, List.append_assoc]
  have e2 : lineV exV 0 ++ lineV exV 1 ++ lineV exV 2 ++ lineV exV 3 ++ lineV exV 4 = exT := by
    unfold lineV
    rw [itoa_small (k := 1) (show exV (of_ 0) = 1 by decide +kernel) (by omega), itoa_small (k := 9) (show exV (of_ 1) = 9 by decide +kernel) (by omega), itoa_small (k := 2) (show exV (of_ 2) = 2 by decide +kernel) (by omega), itoa_small (k := 2) (show exV (of_ 3) = 2 by decide +kernel) (by omega), itoa_small (k := 0) (show exV (of_ 4) = 0 by decide +kernel) (by omega)]
    decide +kernel
  unfold Lib.hasPrefix
  rw [e, e2, List.isPrefixOf_iff_prefix]
  exact List.prefix_append _ _
set_option maxRecDepth 100000 in
set_option maxHeartbeats 4000000 in
theorem awake_any {w : World} (ht : Tab w) : Calls Tryd.prog 7 #[] w fun e w' => e = .returned (.bool true) ∧ Below w.heap.size w w' := by
  have hb0 := (Below.refl w.heap.size w).alloc (Nat.le_refl _) (.cells (ecs exE).toArray 33)
  have hnew := heap_alloc_new w (.cells (ecs exE).toArray 33)
  have HRE : RE (w.alloc (.cells (ecs exE).toArray 33)) (some ⟨w.heap.size, 0, none⟩) 4 4 exE := RE.of_block (l := exE) (m := []) (by rw [List.append_nil]; exact hnew) (by decide) (by decide)
  have H1 := Lib.hid (Of_any HRE)
  have HB0 := Lib.hid hb0
  have HT := Lib.hid ht
  clear hb0 hnew HRE ht
  go_enter Tryd.func7, Tryd.ntmps7
  go_wp2_with fail
  refine (show Calls _ _ _ _ _ from H1.out).mono ?_
  rintro e w1 ⟨rfl, hB1⟩
  have HB1 := Lib.hid hB1
  have hz1 := hB1.size
  rw [World.size_alloc] at hz1
  have HN := Lib.hid (StAt.new w1 v0)
  have hS2 : StAt 25 ((w1.alloc (.cells (stC v0) 25)).setRow w1.heap.size (stC exV)) w1.heap.size exV := setRow_heap _ _ _ _ _ _ HN.out
  have hB2 : Below w1.heap.size w1 ((w1.alloc (.cells (stC v0) 25)).setRow w1.heap.size (stC exV)) := below_setRow ((Below.refl _ _).alloc (Nat.le_refl _) _) (Nat.le_refl _)
  have HS2 := Lib.hid hS2
  have HB2 := Lib.hid hB2
  have HR := Lib.hid fun w => Right_any exV w
  clear hB1 hS2 hB2
  show _
  go_wp2_with (first
    | (refine wpList_store_row rfl 25 (.tmp 1) (.tmp 7) rfl w1.heap.size (stC exV) rfl rfl 25 (stC v0) HN.out info25 rfl (stC_one _) ?_)
    | (refine wpList_load_row rfl 25 (.tmp 1) rfl w1.heap.size rfl 25 (stC exV) (0, 0) _ HS2.out Tryd.underlying25 rfl info25 ?_))
  refine (HR.out _).mono ?_
  rintro e w3 ⟨⟨t, rfl, ht⟩, hB3⟩
  obtain rfl : t = true := ht.2 exV_right
  have HS3 := Lib.hid (HS2.out.below hB3 HS2.out.lt)
  have HB3 := Lib.hid ((HB0.out.trans (HB1.out.mono (by simp))).trans ((HB2.out.mono (by omega)).trans (hB3.mono (Nat.le_trans (by omega) HB2.out.size))))
  have c0 : w3.cell? ⟨w1.heap.size, 0, none⟩ = some (.int .i64 1) := by have := HS3.out.cell (k := 0) (by omega); rwa [show exV 0 = 1 by decide +kernel] at this
  have c1 : w3.cell? ⟨w1.heap.size, 1, none⟩ = some (.int .i64 9) := by have := HS3.out.cell (k := 1) (by omega); rwa [show exV 1 = 9 by decide +kernel] at this
  have c2 : w3.cell? ⟨w1.heap.size, 2, none⟩ = some (.int .i64 2) := by have := HS3.out.cell (k := 2) (by omega); rwa [show exV 2 = 2 by decide +kernel] at this
  have c3 : w3.cell? ⟨w1.heap.size, 12, none⟩ = some (.int .i64 1) := by have := HS3.out.cell (k := 12) (by omega); rwa [show exV 12 = 1 by decide +kernel] at this
  have HX := Lib.hid (Text_any exV_in (HT.out.below HB3.out HT.out.lt))
  clear ht hB3
  go_wp2_with (refine wpList_load_rowG rfl 25 (.tmp 1) rfl w1.heap.size rfl 25 (stC exV) (0, 0) _ HS3.out Tryd.underlying25 rfl info25 ?_)
  refine HX.out.mono ?_
  rintro e w4 ⟨rfl, hB4⟩
  have HB4 := Lib.hid (HB3.out.trans (hB4.mono HB3.out.size))
  have HP := Lib.hid (Tryd.strings_HasPrefix ⟨(textV exV).toArray⟩ ⟨exT.toArray⟩ w4)
  have HE := Lib.hid exV_text
  clear hB4
  go_wp2_with fail
  refine (show Calls _ _ _ _ _ from HP.out).mono ?_
  rintro e w5 ⟨rfl, rfl⟩
  rw [show Lib.hasPrefix (ByteArray.mk (textV exV).toArray).data.toList (ByteArray.mk exT.toArray).data.toList = true by simpa using HE.out]
  go_wp2_with fail
  go_ret
  exact ⟨rfl, HB4.out⟩
end Go.Proofs.YtfojhmobnedekaaDoor
