/- The walk of the document's Text. Conditions: the table of powers is as the library lays it. -/
import Derived.Test.YtfojhmobnedekaaDoorS17
namespace Go.Proofs.YtfojhmobnedekaaDoor
open Go.RowKit

def wordsA : Array Value := #[.string ⟨#[102, 114, 97, 109, 101, 115]⟩, .string ⟨#[115, 101, 110, 116]⟩, .string ⟨#[99, 97, 109, 101]⟩, .string ⟨#[115, 116, 111, 114, 101, 100]⟩, .string ⟨#[115, 104, 97, 112, 101]⟩, .string ⟨#[97, 108, 105, 101, 110]⟩, .string ⟨#[108, 97, 116, 101]⟩, .string ⟨#[111, 100, 100]⟩, .string ⟨#[116, 119, 105, 99, 101]⟩, .string ⟨#[102, 117, 108, 108]⟩, .string ⟨#[119, 104, 111, 108, 101]⟩, .string ⟨#[101, 120, 112, 105, 114, 101, 100]⟩, .string ⟨#[99, 114, 111, 119, 100, 101, 100]⟩, .string ⟨#[116, 111, 108, 100]⟩, .string ⟨#[104, 101, 97, 114, 100]⟩, .string ⟨#[117, 110, 104, 101, 97, 114, 100]⟩, .string ⟨#[102, 111, 114, 103, 111, 116]⟩]
theorem wordsA_at (j : Nat) (hj : j < 17) : wordsA[j]? = some (.string (wd j)) := by
  have : j = 0 ∨ j = 1 ∨ j = 2 ∨ j = 3 ∨ j = 4 ∨ j = 5 ∨ j = 6 ∨ j = 7 ∨ j = 8 ∨ j = 9 ∨ j = 10 ∨ j = 11 ∨ j = 12 ∨ j = 13 ∨ j = 14 ∨ j = 15 ∨ j = 16 := by omega
  rcases this with rfl | rfl | rfl | rfl | rfl | rfl | rfl | rfl | rfl | rfl | rfl | rfl | rfl | rfl | rfl | rfl | rfl <;> rfl
set_option maxRecDepth 100000 in
set_option maxHeartbeats 3200000 in
theorem rtext_any {v : Nat → Int} (hv : ∀ i, i < 19 → inI (v i)) {w : World} (ht : Tab w) : Calls Tryd.prog 27 #[.agg (stC v)] w fun e w' => e = .returned (.string ⟨(textV v).toArray⟩) ∧ Below w.heap.size w w' := by
  have hb0 : Below w.heap.size w ((w.alloc (.cells (stC v) 38)).alloc (.cells wordsA 9)) := ((Below.refl _ _).alloc (Nat.le_refl _) _).alloc (by simp) _
  have hW0 : ∀ j, j < 17 → ((w.alloc (.cells (stC v) 38)).alloc (.cells wordsA 9)).cell? ⟨w.heap.size + 1, j, none⟩ = some (.string (wd j)) := fun j hj => by
    have := heap_alloc_new (w.alloc (.cells (stC v) 38)) (.cells wordsA 9)
    rw [World.size_alloc] at this
    rw [cell_of_block this]; exact wordsA_at j hj
  have hS0 : StAt 38 ((w.alloc (.cells (stC v) 38)).alloc (.cells wordsA 9)) w.heap.size v := (StAt.new' w v).below ((Below.refl _ _).alloc (Nat.le_refl _) _) (by simp)
  have HC := Lib.hid (counts38 v ((w.alloc (.cells (stC v) 38)).alloc (.cells wordsA 9)))
  have HW0 := Lib.hid hW0
  have HS0 := Lib.hid hS0
  have HB0 := Lib.hid hb0
  have HT0 := Lib.hid (ht.below hb0 ht.lt)
  have HV := Lib.hid hv
  clear hb0 hW0 hS0 ht hv
  go_enter Tryd.func27, Tryd.ntmps27
  go_upto_region 2 with fail
  refine (show Code.wp Tryd.prog _ _ _ ((w.alloc (.cells (stC v) 38)).alloc (.cells wordsA 9)) from ?_)
  generalize (w.alloc (.cells (stC v) 38)).alloc (.cells wordsA 9) = W at *
  go_wp2_with (refine wpList_load_row rfl 38 (.tmp 1) rfl w.heap.size rfl 38 (stC v) (0, 0) _ HS0.out Tryd.underlying38 rfl info38 ?_)
  refine HC.out.mono ?_
  rintro e w1 ⟨⟨a, cap, rfl, b, off, rfl, hr⟩, hB⟩
  have HB1 := Lib.hid (HB0.out.trans (hB.mono (Below.size HB0.out)))
  have HT1 := Lib.hid (HT0.out.below hB HT0.out.lt)
  have HW1 := Lib.hid (show ∀ j, j < 17 → w1.cell? ⟨w.heap.size + 1, j, none⟩ = some (.string (wd j)) from fun j hj => (hB.cell (block_lt_of_cell (HW0.out j hj))).trans (HW0.out j hj))
  have HR := Lib.hid hr
  clear hB hr HC HW0 HS0 HB0 HT0
  go_wp2_with fail
  go_loopw [5, 6] (fun s i wr => ∃ k : Nat, k ≤ 17 ∧ i = .int .i64 k ∧ s = .string ⟨(textTo v (List.range k)).toArray⟩ ∧ Hid (Below w1.heap.size w1 wr)) (fun _ i _ => 17 - (intOf i).toNat)
  case atStart => exact ⟨0, Nat.zero_le _, rfl, rfl, Below.refl _ _⟩
  case round =>
    obtain ⟨k, hk, rfl, rfl, HD⟩ := hrel
    by_cases hk1 : k < 17
    · have g0 := HW1.out k hk1
      have g1 := HR.out k hk1
      have F0 := lies_cell ((HD.out.cell (block_lt_of_cell g0)).trans g0)
      have F1 := lies_cell ((HD.out.cell (block_lt_of_cell g1)).trans g1)
      have HIT := Lib.hid fun (x : Lies wr) => itoa_any (HV.out _ (of_lt k)) ((HT1.out.below HD.out HT1.out.lt).below x.2 (HT1.out.below HD.out HT1.out.lt).lt)
      have hs1 : (wd k).size ≤ 7 := by have := wdl_len k; simpa [wd, wdl, ByteArray.size] using this
      have hs2 : (⟨(Lib.itoa (v (of_ k))).toArray⟩ : ByteArray).size ≤ 20 := by have := itoa_len (HV.out _ (of_lt k)); simpa [ByteArray.size] using this
      have hs3 : (⟨(textTo v (List.range k)).toArray⟩ : ByteArray).size ≤ 500 := by
        have := textTo_len HV.out (List.range k)
        rw [List.length_range] at this
        have e : (⟨(textTo v (List.range k)).toArray⟩ : ByteArray).size = (textTo v (List.range k)).length := by simp [ByteArray.size]
        omega
      have HLN := Lib.hid (show (⟨(textTo v (List.range k)).toArray⟩ ++ wd k ++ ⟨#[32]⟩ ++ ⟨(Lib.itoa (v (of_ k))).toArray⟩ ++ ⟨#[10]⟩ : ByteArray) = ⟨(textTo v (List.range (k + 1))).toArray⟩ by
        rw [List.range_succ, textTo_snoc]; apply ByteArray.ext; simp [lineV, wd, wdl, ByteArray.data_append])
      clear g0 g1
      generalize (⟨(Lib.itoa (v (of_ k))).toArray⟩ : ByteArray) = z at *
      generalize (⟨(textTo v (List.range k)).toArray⟩ : ByteArray) = t at *
      generalize wd k = s1 at *
      have q0 : decide ((k : Int) < 17) = true := by simp; omega
      have q1 : t.size + s1.size ≤ 9223372036854775807 := by omega
      have q2 : t.size + s1.size + 1 ≤ 9223372036854775807 := by omega
      have q3 : t.size + s1.size + 1 + z.size ≤ 9223372036854775807 := by omega
      have q4 : t.size + s1.size + 1 + z.size + 1 ≤ 9223372036854775807 := by omega
      go_upto_region 7 with fail
      refine region_lies (by kernel_rfl) (by kernel_rfl) ?_
      repeat (go_big_quiet_step ((go_at_call 35; exact Lies.call (HIT.out _))))
      refine wpQuiet_nil ?_
      intro _ hw'
      obtain ⟨xw, hw''⟩ := hw'
      subst hw''
      go_wp2_with fail
      go_roundw
      case rel => exact ⟨k + 1, by omega, by go_num, by rw [← HLN.out], HD.out.trans (xw.below.mono HD.out.size)⟩
      case measure => simp [intOf]; omega
    · obtain rfl : k = 17 := by omega
      have q0 : decide ((17 : Int) < 17) = false := by decide
      simp only [show ((17 : Nat) : Int) = 17 from rfl]
      go_wp2_with fail
      go_ret
      exact ⟨rfl, HB1.out.trans (HD.out.mono HB1.out.size)⟩
end Go.Proofs.YtfojhmobnedekaaDoor
