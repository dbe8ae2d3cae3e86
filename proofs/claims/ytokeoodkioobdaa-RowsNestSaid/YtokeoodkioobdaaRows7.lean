/- The walk of rows' Apply. Conditions: there are at most 100000 rows. -/
import Derived.Test.YtokeoodkioobdaaRows6
namespace Go.Proofs.Ytokeoodkioobdaa
open Go.RowKit

def applyTo (X : Nat → List Nat) (v : List Nat) (M k : Nat) : List Nat := (List.range k).map fun r => dotTo (X r) v M
theorem applyTo_len (X : Nat → List Nat) (v : List Nat) (M k : Nat) : (applyTo X v M k).length = k := by simp [applyTo]
theorem applyTo_succ (X : Nat → List Nat) (v : List Nat) (M k : Nat) : bs (applyTo X v M (k + 1)) = bs (applyTo X v M k) ++ [.int .u8 (dotTo (X k) v M : Nat)] := by simp [applyTo, bs, List.range_succ]
theorem applyTo_small {X : Nat → List Nat} {v : List Nat} {M k : Nat} (h : ∀ i, i < k → Small (X i)) : Small (applyTo X v M k) := Small.of_mem fun x hx => by
  obtain ⟨i, hi, rfl⟩ := List.mem_map.1 hx
  exact dotTo_lt (h i (List.mem_range.1 hi)) _ _

set_option maxHeartbeats 1600000 in
set_option maxRecDepth 100000 in
theorem Apply_bad {w : World} {a b : Option Addr} {N M c d : Nat} {X : Nat → List Nat} {v : List Nat} (hN : N ≤ 100000) (h : RR w (.slice a N c) N X) (h2 : RB w b M d v) (hno : ¬ (isM N X ∧ colsX N X = M)) :
    Calls Try.prog 76 #[.slice a N c, .slice b M d] w fun e w' => e = .returned (.tuple #[.slice none 0 0, .int .i64 2]) ∧ w = w' := by
  have hm := h2.most
  by_cases hx : isM N X
  · have H1 := Lib.hid (right_yes hN h hx)
    have H3 := Lib.hid (wide_is hN h hx)
    have hc : colsX N X ≠ M := fun e => hno ⟨hx, e⟩
    have hc2 := hx.2.1
    clear h h2 hno hx
    generalize colsX N X = z at *
    have q : ((z : Int) != (M : Int)) = true := by simp; omega
    have q2 : decide (z = M) = false := by simp; omega
    go_enter Try.func76, Try.ntmps76
    go_wp2_with fail
    refine H1.out.mono ?_
    rintro e w' ⟨rfl, rfl⟩
    go_wp2_with fail
    refine H3.out.mono ?_
    rintro e w' ⟨rfl, rfl⟩
    go_wp2_with fail
    go_ret2
    exact ⟨rfl, rfl⟩
  · have H1 := Lib.hid (right_not hN h hx)
    clear h h2 hno hx
    go_enter Try.func76, Try.ntmps76
    go_wp2_with fail
    refine H1.out.mono ?_
    rintro e w' ⟨rfl, rfl⟩
    go_wp2_with fail
    go_ret2
    exact ⟨rfl, rfl⟩

set_option maxHeartbeats 3200000 in
set_option maxRecDepth 100000 in
theorem Apply_ok {w : World} {a b : Option Addr} {N M c d : Nat} {X : Nat → List Nat} {v : List Nat} (h : RR w (.slice a N c) N X) (h2 : RB w b M d v) (hx : isM N X) (hxy : colsX N X = M) :
    Calls Try.prog 76 #[.slice a N c, .slice b M d] w fun e w' => ∃ u, e = .returned (.tuple #[u, .int .i64 0]) ∧ w'.ownsRow w.heap.size 5 1 u N (bs (applyTo X v M N)) ∧ Below w.heap.size w w' := by
  obtain ⟨i0, hi, hz0, hz1, hz2⟩ := info_parts info5
  have hN : N ≤ 255 := hx.1
  have hM : M ≤ 255 := by have := hx.2.1; omega
  have hlx := isM_len hx
  rw [hxy] at hlx
  have hw0 := wide_is (by omega) h hx
  rw [hxy] at hw0
  have H1 := Lib.hid (right_yes (by omega) h hx)
  have H3 := Lib.hid hw0
  have HX := Lib.hid h
  have HV := Lib.hid h2
  have HLX := Lib.hid hlx
  clear hx hxy hlx hw0 h h2
  have qq : ((M : Int) != (M : Int)) = false := by simp
  go_enter Try.func76, Try.ntmps76
  go_wp2_with fail
  refine H1.out.mono ?_
  rintro e w' ⟨rfl, rfl⟩
  go_wp2_with fail
  refine H3.out.mono ?_
  rintro e w' ⟨rfl, rfl⟩
  clear H1 H3 qq
  go_wp2_with fail
  refine (new_any _).mono ?_
  rintro e w1 ⟨pf, rfl, hpf, hf, hB1⟩
  have HB1 := Lib.hid hB1
  have HF1 := Lib.hid hf
  clear hf hB1
  go_wp2_with fail
  obtain ⟨W2, hW2⟩ : ∃ W2, W2 = w1.alloc (.cells #[.pointer (some ⟨pf, 0, none⟩)] 113) := ⟨_, rfl⟩
  have HF2 := Lib.hid (show IsF W2 pf by rw [hW2]; exact HF1.out.below ((Below.refl _ _).alloc (Nat.le_refl _) _) HF1.out.lt)
  have HBX := Lib.hid (show W2.heap[w1.heap.size]? = some (.cells #[.pointer (some ⟨pf, 0, none⟩)] 113 (0, 0)) by rw [hW2]; exact heap_alloc_new _ _)
  have HB2 := Lib.hid (show Below w.heap.size w W2 by rw [hW2]; exact HB1.out.alloc HB1.out.size _)
  rw [← hW2]
  clear hW2 HF1 HB1
  generalize w1.heap.size = bx at *
  have HX2 := Lib.hid (HX.out.below HB2.out)
  have HV2 := Lib.hid (HV.out.below HB2.out)
  clear HX HV
  go_loopw [4, 25] (fun s i wr => ∃ r : Nat, r ≤ N ∧ i = .int .i64 r ∧ Hid (wr.ownsRow W2.heap.size 5 1 s r (bs (applyTo X v M r))) ∧ Hid (Below W2.heap.size W2 wr)) (fun _ i _ => N - (intOf i).toNat)
  case atStart => exact ⟨0, Nat.zero_le _, rfl, World.ownsRow_nil _ _ _ _, Below.refl _ _⟩
  case round =>
    obtain ⟨r, hr, rfl, HO, HB⟩ := hrel
    by_cases hr1 : r < N
    · obtain ⟨a', c', e, hX⟩ := HX2.out.shape
      injection e with e1 e2 e3
      subst e1; subst e3; clear e2
      obtain ⟨b1, o1, a1, n1, c1, rfl, hc0, hr1'⟩ := hX r hr1
      have hc1 := (HB.out.cell (p := ⟨b1, o1 + r, none⟩) (block_lt_of_cell hc0)).trans hc0
      clear hc0
      have hn1 : n1 = M := by rw [← hr1'.len]; exact HLX.out r hr1
      subst hn1
      have hbx : wr.cell? ⟨bx, 0, none⟩ = some (.pointer (some ⟨pf, 0, none⟩)) := (HB.out.cell (p := ⟨bx, 0, none⟩) (lt_of_block HBX.out)).trans ((cell_of_block HBX.out).trans rfl)
      have hdot := dot_same (HF2.out.below HB.out HF2.out.lt) (hr1'.below HB.out) (HV2.out.below HB.out)
      have HDOT := Lib.hid hdot
      have HAS := Lib.hid (applyTo_succ X v n1 r)
      have hsz : W2.heap.size ≤ wr.heap.size := HB.out.size
      clear hdot hX hr1'
      generalize dotTo (X r) v n1 = y at *
      go_wp2_with fail
      refine HDOT.out.mono ?_
      rintro e w5 ⟨rfl, nq, rfl⟩
      have HAL := Lib.hid ((show (wr.drewN nq).ownsRow W2.heap.size 5 1 u4 r (bs (applyTo X v n1 r)) from HO.out).alloc (.cells #[.int .u8 (y : Nat)] 5))
      have HB5 := Lib.hid (below_drewN HB.out nq)
      have HOL := Lib.hid (fun g e => (own_lt HO.out (g := g) e).1)
      have hsz5 : (wr.drewN nq).heap.size = wr.heap.size := rfl
      obtain ⟨w5, hw5⟩ : ∃ w5, w5 = wr.drewN nq := ⟨_, rfl⟩
      rw [← hw5] at HAL HB5 hsz5 ⊢
      have hsz6 : W2.heap.size ≤ w5.heap.size := by omega
      clear hsz5 hw5
      go_wp2_with (at_builtin; refine wpList_append_own _ rfl (.tmp 37) (.tmp 39) 31 rfl W2.heap.size 5 i0 (.int .u8 0) 1 1 Try.underlying31 hi hz0 hz1 hz2 rfl (by decide) u4 r (bs (applyTo X v n1 r)) rfl HAL.out ⟨w5.heap.size, 0, none⟩ 1 1 [.int .u8 (y : Nat)] rfl rfl (cell_new _ _) (one_u8 _) (by unfold maxLen; omega) (by omega) (by simp; omega) ?_)
      intro v' w6 hown2 hg2 _
      have HO6 := Lib.hid (show w6.ownsRow W2.heap.size 5 1 v' (r + 1) (bs (applyTo X v n1 (r + 1))) by rw [HAS.out]; exact hown2)
      have HB6 := Lib.hid ((HB5.out.alloc (by omega) (.cells #[.int .u8 (y : Nat)] 5)).grown hg2 (by simp; omega) (fun g e => HOL.out g e))
      clear hown2 hg2 HAL
      go_wp2_with fail
      go_roundw
      case rel => exact ⟨r + 1, by omega, by go_num, HO6, HB6⟩
      case measure => simp [intOf]; omega
    · obtain rfl : r = N := by omega
      have HFB := Lib.hid (HB2.out.trans (HB.out.mono HB2.out.size))
      have HFO := Lib.hid (own_mono HO.out HB2.out.size)
      clear HO
      go_wp2_with fail
      go_ret2
      exact ⟨_, rfl, HFO.out, HFB.out⟩
end Go.Proofs.Ytokeoodkioobdaa
