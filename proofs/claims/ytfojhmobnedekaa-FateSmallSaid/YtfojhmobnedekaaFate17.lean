/- Rows of fates: one at a place; whether all are right. Conditions: rows are shorter than 2 to the 40. -/
import Derived.Test.YtfojhmobnedekaaFate16
namespace Go.Proofs.Ytfojhmobnedekaa
open Go.RowKit

def ftAt (l : List Ft) (i : Int) : Ft := if 0 ≤ i then l.getD i.toNat default else default
theorem ftAt_nat (l : List Ft) (k : Nat) : ftAt l (k : Int) = l.getD k default := by unfold ftAt; rw [if_pos (by omega)]; simp

set_option maxHeartbeats 1600000 in
set_option maxRecDepth 100000 in
theorem at67 {w : World} {a : Option Addr} {n cap : Nat} {l : List Ft} {i : Int} (h : RF w a n cap l) (h0 : -9223372036854775808 ≤ i) (h1 : i ≤ 9223372036854775807) :
    Calls Try.prog 67 #[.slice a n cap, .int .i64 i] w fun e w' => e = .returned (ftAt l i).v ∧ Below w.heap.size w w' := by
  have hm := h.most
  have hle := h.le
  have hw2 : IntKind.u64.wrap (n : Int) = (n : Int) := by unfold IntKind.wrap; simp [IntKind.signed, IntKind.bits]; omega
  by_cases hi : 0 ≤ i ∧ i < (n : Int)
  · obtain ⟨k, rfl⟩ := Int.eq_ofNat_of_zero_le hi.1
    have hk : k < n := by omega
    have hw : IntKind.u64.wrap (k : Int) = (k : Int) := by unfold IntKind.wrap; simp [IntKind.signed, IntKind.bits]; omega
    obtain ⟨b, off, x, rfl, hx, e0, e1, e2, e3⟩ := (h.below ((Below.refl _ _).alloc (Nat.le_refl _) (.cells #[.int .i64 0, .int .i64 0, .int .i64 0, .int .i64 0] 24))).four hk
    rw [ftAt_nat, List.getD_eq_getElem?_getD, hx]
    have d1 : decide ((k : Int) < (n : Int)) = true := by simp; omega
    have d3 : ((k : Int) < (n : Int)) := by omega
    clear h hx
    obtain ⟨xk, xb, xa, xp⟩ := x
    go_enter Try.func67, Try.ntmps67
    go_wp2_with fail
    have h2 := heap_alloc_new w (.cells #[.int .i64 xk, .int .i64 xb, .int .i64 xa, .int .i64 xp] 24)
    exact bodyPost_ret (v := .agg #[.int .i64 xk, .int .i64 xb, .int .i64 xa, .int .i64 xp]) (results_cell_row rfl _ _ _ _ _ _ _ rfl h2 Try.underlying24 rfl info24) rfl ⟨rfl, (Below.refl _ _).alloc (Nat.le_refl _) _⟩
  · have hl : ftAt l i = default := by
      unfold ftAt
      split
      · rw [List.getD_eq_getElem?_getD, List.getElem?_eq_none (by rw [h.len]; omega)]; rfl
      · rfl
    rw [hl]
    have d1 : decide (IntKind.u64.wrap i < (n : Int)) = false := by
      unfold IntKind.wrap; simp [IntKind.signed, IntKind.bits]; omega
    clear h hl
    go_enter Try.func67, Try.ntmps67
    go_wp2_with fail
    have h2 := heap_alloc_new w (.cells #[.int .i64 0, .int .i64 0, .int .i64 0, .int .i64 0] 24)
    exact bodyPost_ret (v := .agg #[.int .i64 0, .int .i64 0, .int .i64 0, .int .i64 0]) (results_cell_row rfl _ _ _ _ _ _ _ rfl h2 Try.underlying24 rfl info24) rfl ⟨rfl, (Below.refl _ _).alloc (Nat.le_refl _) _⟩

set_option maxHeartbeats 1600000 in
set_option maxRecDepth 100000 in
theorem at26 {w : World} {a : Option Addr} {n cap : Nat} {l : List Ft} {i : Int} (h : RF w a n cap l) (h0 : -9223372036854775808 ≤ i) (h1 : i ≤ 9223372036854775807) :
    Calls Try.prog 26 #[.slice a n cap, .int .i64 i] w fun e w' => e = .returned (ftAt l i).v ∧ Below w.heap.size w w' := by
  have hB0 : Below w.heap.size w (w.alloc (.cells #[.int .i64 0, .int .i64 0, .int .i64 0, .int .i64 0] 24)) := (Below.refl _ _).alloc (Nat.le_refl _) _
  have H67 := Lib.hid (at67 (h.below hB0) h0 h1)
  have HB0 := Lib.hid hB0
  have hbl := heap_alloc_new w (.cells #[.int .i64 0, .int .i64 0, .int .i64 0, .int .i64 0] 24)
  have HBL := Lib.hid hbl
  clear h hB0 hbl
  generalize ftAt l i = x at *
  obtain ⟨xk, xb, xa, xp⟩ := x
  simp only [Ft.v] at *
  go_enter Try.func26, Try.ntmps26
  go_wp2_with fail
  refine H67.out.mono ?_
  rintro e w1 ⟨rfl, hB1⟩
  have hb1 := (hB1.block w.heap.size (by simp)).trans HBL.out
  have hB := HB0.out.trans (hB1.mono HB0.out.size)
  have HB := Lib.hid hB
  have c0 : w1.cell? ⟨w.heap.size, 0, none⟩ = some (.int .i64 0) := (cell_of_block (j := 0) hb1).trans rfl
  have c1 : w1.cell? ⟨w.heap.size, 1, none⟩ = some (.int .i64 0) := (cell_of_block (j := 1) hb1).trans rfl
  have c2 : w1.cell? ⟨w.heap.size, 2, none⟩ = some (.int .i64 0) := (cell_of_block (j := 2) hb1).trans rfl
  have c3 : w1.cell? ⟨w.heap.size, 3, none⟩ = some (.int .i64 0) := (cell_of_block (j := 3) hb1).trans rfl
  have z0 := frozen_of_block (j := 0) hb1
  have z1 := frozen_of_block (j := 1) hb1
  have z2 := frozen_of_block (j := 2) hb1
  have z3 := frozen_of_block (j := 3) hb1
  clear hB hB1
  go_wp2_with fail
  have s1 := heap_setCell_same w1 w.heap.size 0 _ 24 (.int .i64 xk) hb1
  have s2 := heap_setCell_same _ w.heap.size 1 _ 24 (.int .i64 xb) s1
  have s3 := heap_setCell_same _ w.heap.size 2 _ 24 (.int .i64 xa) s2
  have s4 := heap_setCell_same _ w.heap.size 3 _ 24 (.int .i64 xp) s3
  exact bodyPost_ret (v := .agg #[.int .i64 xk, .int .i64 xb, .int .i64 xa, .int .i64 xp]) (results_cell_row rfl _ _ _ _ _ _ _ rfl s4 Try.underlying24 rfl info24) rfl ⟨rfl, (((HB.out.setCell (p := ⟨w.heap.size, 0, none⟩) (Nat.le_refl _) _).setCell (p := ⟨w.heap.size, 1, none⟩) (Nat.le_refl _) _).setCell (p := ⟨w.heap.size, 2, none⟩) (Nat.le_refl _) _).setCell (p := ⟨w.heap.size, 3, none⟩) (Nat.le_refl _) _⟩

set_option maxHeartbeats 1600000 in
set_option maxRecDepth 100000 in
theorem rat27 {w : World} {a : Option Addr} {n cap : Nat} {l : List Ft} {i : Int} (h : RF w a n cap l) :
    Calls Try.prog 27 #[.slice a n cap, .int .i64 i] w fun e w' => e = .returned (ftAt l i).v ∧ Below w.heap.size w w' := by
  by_cases hi : 0 ≤ i ∧ i < (n : Int)
  · obtain ⟨k, rfl⟩ := Int.eq_ofNat_of_zero_le hi.1
    have hk : k < n := by omega
    obtain ⟨b, off, x, rfl, hx, e0, e1, e2, e3⟩ := (h.below ((Below.refl _ _).alloc (Nat.le_refl _) (.cells #[.int .i64 0, .int .i64 0, .int .i64 0, .int .i64 0] 24))).four hk
    rw [ftAt_nat, List.getD_eq_getElem?_getD, hx]
    have d1 : decide ((k : Int) < 0) = false := by simp
    have d2 : decide (n ≤ k) = false := by simp; omega
    have d3 : ((k : Int) < (n : Int)) := by omega
    clear h hx hi
    obtain ⟨xk, xb, xa, xp⟩ := x
    go_enter Try.func27, Try.ntmps27
    go_wp2_with fail
    have h2 := heap_alloc_new w (.cells #[.int .i64 xk, .int .i64 xb, .int .i64 xa, .int .i64 xp] 24)
    exact bodyPost_ret (v := .agg #[.int .i64 xk, .int .i64 xb, .int .i64 xa, .int .i64 xp]) (results_cell_row rfl _ _ _ _ _ _ _ rfl h2 Try.underlying24 rfl info24) rfl ⟨rfl, (Below.refl _ _).alloc (Nat.le_refl _) _⟩
  · have hl : ftAt l i = default := by
      unfold ftAt
      split
      · rw [List.getD_eq_getElem?_getD, List.getElem?_eq_none (by rw [h.len]; omega)]; rfl
      · rfl
    rw [hl]
    clear hl
    by_cases hi0 : i < 0
    · have d1 : decide (i < 0) = true := decide_eq_true hi0
      clear h hi
      go_enter Try.func27, Try.ntmps27
      go_wp2_with fail
      have h2 := heap_alloc_new w (.cells #[.int .i64 0, .int .i64 0, .int .i64 0, .int .i64 0] 24)
      exact bodyPost_ret (v := .agg #[.int .i64 0, .int .i64 0, .int .i64 0, .int .i64 0]) (results_cell_row rfl _ _ _ _ _ _ _ rfl h2 Try.underlying24 rfl info24) rfl ⟨rfl, (Below.refl _ _).alloc (Nat.le_refl _) _⟩
    · have d1 : decide (i < 0) = false := by simp; omega
      have d2 : decide ((n : Int) ≤ i) = true := by simp; omega
      clear h hi
      go_enter Try.func27, Try.ntmps27
      go_wp2_with fail
      have h2 := heap_alloc_new w (.cells #[.int .i64 0, .int .i64 0, .int .i64 0, .int .i64 0] 24)
      exact bodyPost_ret (v := .agg #[.int .i64 0, .int .i64 0, .int .i64 0, .int .i64 0]) (results_cell_row rfl _ _ _ _ _ _ _ rfl h2 Try.underlying24 rfl info24) rfl ⟨rfl, (Below.refl _ _).alloc (Nat.le_refl _) _⟩

def Ft.right (x : Ft) : Prop := RightF x.k x.b x.a x.p
instance (x : Ft) : Decidable x.right := by unfold Ft.right; infer_instance
def AllR (l : List Ft) : Prop := ∀ x ∈ l, x.right
instance (l : List Ft) : Decidable (AllR l) := by unfold AllR; infer_instance

set_option maxHeartbeats 1600000 in
set_option maxRecDepth 100000 in
theorem all69 {w : World} {x : Ft} {t : Bool} (ht : decide x.right = t) : Calls Try.prog 69 #[.agg #[.int .i64 x.k, .int .i64 x.b, .int .i64 x.a, .int .i64 x.p]] w fun e w' => e = .returned (.bool (!t)) ∧ Below w.heap.size w w' := by
  have hB0 : Below w.heap.size w (w.alloc (.cells #[.int .i64 x.k, .int .i64 x.b, .int .i64 x.a, .int .i64 x.p] 24)) := (Below.refl _ _).alloc (Nat.le_refl _) _
  have HB0 := Lib.hid hB0
  have H23 := Lib.hid fun W => (show Calls Try.prog 23 #[.agg #[.int .i64 x.k, .int .i64 x.b, .int .i64 x.a, .int .i64 x.p]] W fun e w' => e = .returned (.bool t) ∧ Below W.heap.size W w' from ht ▸ right_any x.k x.b x.a x.p W)
  clear hB0 ht
  obtain ⟨xk, xb, xa, xp⟩ := x
  go_enter Try.func69, Try.ntmps69
  go_wp2_with fail
  refine (H23.out _).mono ?_
  rintro e w1 ⟨rfl, hB1⟩
  have HB1 := Lib.hid (HB0.out.trans (hB1.mono HB0.out.size))
  clear hB1
  go_wp2_with fail
  go_ret
  exact ⟨rfl, HB1.out⟩

set_option maxHeartbeats 1600000 in
set_option maxRecDepth 100000 in
theorem index104 {w : World} {a : Option Addr} {n cap : Nat} {l : List Ft} (h : RF w a n cap l) :
    Calls Try.prog 104 #[.slice a n cap, .func (.func 69) #[] #[]] w fun e w' => ∃ r : Int, e = .returned (.int .i64 r) ∧ decide (0 ≤ r) = !decide (AllR l) ∧ Below w.heap.size w w' := by
  have hm := h.most
  have hle := h.le
  have H := Lib.hid h
  clear h
  go_enter Try.func104, Try.ntmps104
  go_wp2_with fail
  go_loopw [5, 8] (fun _ i wr => ∃ k : Nat, k ≤ n ∧ i = .int .i64 k ∧ Hid (∀ x ∈ l.take k, x.right) ∧ Hid (Below w.heap.size w wr)) (fun _ i _ => n - (intOf i).toNat)
  case atStart => exact ⟨0, by omega, rfl, fun x hx => absurd hx (by simp), Below.refl _ _⟩
  case round =>
    obtain ⟨k, hk, rfl, HA, HD⟩ := hrel
    by_cases hk1 : k < n
    · obtain ⟨b, off, x, rfl, hx, e0, e1, e2, e3⟩ := (H.out.below HD.out).four hk1
      have HX := Lib.hid hx
      have d3 : ((k : Int) < (n : Int)) := by omega
      have H69 := Lib.hid fun W => all69 (w := W) (x := x) rfl
      clear hx
      go_wp2_with fail
      refine (H69.out _).mono ?_
      rintro e w1 ⟨rfl, hB1⟩
      have HB1 := Lib.hid (HD.out.trans (hB1.mono HD.out.size))
      clear hB1
      by_cases hr : x.right
      · rw [decide_eq_true hr]
        have HR := Lib.hid hr
        clear hr
        go_wp2_with fail
        go_roundw
        case rel => exact ⟨k + 1, by omega, by go_num, fun y hy => by
          rw [List.take_add_one, HX.out] at hy
          rcases List.mem_append.1 hy with hy | hy
          · exact HA.out y hy
          · have hy2 : y = x := by simpa using hy
            rw [hy2]; exact HR.out, HB1.out⟩
        case measure => simp [intOf]; omega
      · rw [decide_eq_false hr]
        have HR := Lib.hid hr
        clear hr
        go_wp2_with fail
        go_ret
        refine ⟨_, rfl, ?_, HB1.out⟩
        rw [decide_eq_true (by omega), decide_eq_false]
        · rfl
        · exact fun hall => HR.out (hall x (List.mem_of_getElem? HX.out))
    · obtain rfl : k = n := by omega
      go_wp2_with fail
      go_ret
      refine ⟨_, rfl, ?_, HD.out⟩
      rw [decide_eq_true (p := AllR l)]
      · rfl
      · intro x hx
        exact HA.out x (by rw [List.take_of_length_le (by rw [H.out.len]; exact Nat.le_refl _)]; exact hx)

set_option maxHeartbeats 1600000 in
set_option maxRecDepth 100000 in
theorem all29 {w : World} {a : Option Addr} {n cap : Nat} {l : List Ft} (h : RF w a n cap l) :
    Calls Try.prog 29 #[.slice a n cap] w fun e w' => e = .returned (.bool (decide (AllR l))) ∧ Below w.heap.size w w' := by
  have H68 : Hid (Calls Try.prog 68 #[.slice a n cap, .func (.func 69) #[] #[]] w fun e w' => e = .returned (.bool (!decide (AllR l))) ∧ Below w.heap.size w w') := by
    have H104 := Lib.hid (index104 h)
    clear h
    refine Lib.hid ?_
    go_enter Try.func68, Try.ntmps68
    go_wp2_with fail
    refine H104.out.mono ?_
    rintro e w1 ⟨r, rfl, hr, hB⟩
    have HB := Lib.hid hB
    clear hB
    go_wp2_with fail
    go_ret
    refine ⟨?_, HB.out⟩
    rw [← hr]; rfl
  clear h
  go_enter Try.func29, Try.ntmps29
  go_wp2_with fail
  refine H68.out.mono ?_
  rintro e w1 ⟨rfl, hB⟩
  have HB := Lib.hid hB
  clear hB
  go_wp2_with fail
  go_ret
  exact ⟨by simp, HB.out⟩

set_option maxHeartbeats 1600000 in
set_option maxRecDepth 100000 in
theorem rall30 {w : World} {a : Option Addr} {n cap : Nat} {l : List Ft} (h : RF w a n cap l) :
    Calls Try.prog 30 #[.slice a n cap] w fun e w' => e = .returned (.bool (decide (AllR l))) ∧ Below w.heap.size w w' := by
  have hm := h.most
  have hle := h.le
  have H := Lib.hid h
  clear h
  go_enter Try.func30, Try.ntmps30
  go_wp2_with fail
  go_loopw [3] (fun i wr => ∃ k : Nat, k ≤ n ∧ i = .int .i64 k ∧ Hid (∀ x ∈ l.take k, x.right) ∧ Hid (Below w.heap.size w wr)) (fun i _ => n - (intOf i).toNat)
  case atStart => exact ⟨0, by omega, rfl, fun x hx => absurd hx (by simp), Below.refl _ _⟩
  case round =>
    obtain ⟨k, hk, rfl, HA, HD⟩ := hrel
    by_cases hk1 : k < n
    · obtain ⟨b, off, x, rfl, hx, e0, e1, e2, e3⟩ := (H.out.below HD.out).four hk1
      have HX := Lib.hid hx
      have d3 : ((k : Int) < (n : Int)) := by omega
      have H28 := Lib.hid fun W => rright_any x.k x.b x.a x.p W
      clear hx
      go_wp2_with fail
      refine (H28.out _).mono ?_
      rintro e w1 ⟨rfl, hB1⟩
      have HB1 := Lib.hid (HD.out.trans (hB1.mono HD.out.size))
      clear hB1
      by_cases hr : RightF x.k x.b x.a x.p
      · rw [decide_eq_true hr]
        have HR := Lib.hid hr
        clear hr
        go_wp2_with fail
        go_roundw
        case rel => exact ⟨k + 1, by omega, by go_num, fun y hy => by
          rw [List.take_add_one, HX.out] at hy
          rcases List.mem_append.1 hy with hy | hy
          · exact HA.out y hy
          · have hy2 : y = x := by simpa using hy
            rw [hy2]; exact HR.out, HB1.out⟩
        case measure => simp [intOf]; omega
      · rw [decide_eq_false hr]
        have HR := Lib.hid hr
        clear hr
        go_wp2_with fail
        go_ret
        exact ⟨by rw [decide_eq_false (p := AllR l) fun hall => HR.out (hall x (List.mem_of_getElem? HX.out))]; rfl, HB1.out⟩
    · obtain rfl : k = n := by omega
      go_wp2_with fail
      go_ret
      refine ⟨?_, HD.out⟩
      rw [decide_eq_true (p := AllR l) fun x hx => HA.out x (by rw [List.take_of_length_le (by rw [H.out.len]; exact Nat.le_refl _)]; exact hx)]
      rfl

set_option maxHeartbeats 3200000 in
set_option maxRecDepth 100000 in
theorem ftells_great {w : World} {a : Option Addr} {n cap : Nat} {i : Int} (h : 3000 < n) :
    Calls Try.prog 6 #[.slice a n cap, .int .i64 i] w fun e w' => e = .returned (.bool true) ∧ Below w.heap.size w w' := by
  have d1 : decide ((3000 : Int) < (n : Int)) = true := by simp; omega
  have H14 := Lib.hid (awake_any w)
  clear h
  go_enter Try.func6, Try.ntmps6
  go_wp2_with fail
  refine H14.out.mono ?_
  rintro e w1 ⟨rfl, hB1⟩
  have HB1 := Lib.hid hB1
  clear hB1
  go_wp2_with fail
  go_ret
  exact ⟨rfl, HB1.out⟩

set_option maxHeartbeats 6400000 in
set_option maxRecDepth 100000 in
theorem ftells_any {w : World} {a : Option Addr} {n cap : Nat} {l : List Ft} {i : Int} (h : RF w a n cap l) (h0 : -9223372036854775808 ≤ i) (h1 : i ≤ 9223372036854775807) :
    Calls Try.prog 6 #[.slice a n cap, .int .i64 i] w fun e w' => e = .returned (.bool true) ∧ Below w.heap.size w w' := by
  by_cases hn : 3000 < n
  · exact ftells_great hn
  have d1 : decide ((3000 : Int) < (n : Int)) = false := by simp; omega
  have H25 := Lib.hid (lentF_any h (by omega))
  have HI := Lib.hid (And.intro h0 h1)
  have HN := Lib.hid h.len
  have HM := Lib.hid (show n ≤ 1000000 by omega)
  have H := Lib.hid h
  clear h h0 h1 hn
  go_enter Try.func6, Try.ntmps6
  go_wp2_with fail
  refine H25.out.mono ?_
  rintro e w1 ⟨g, rfl, hg, hb, hB1⟩
  have HL1 := Lib.hid (show FLent w1 g l from hb)
  have HB1 := Lib.hid hB1
  have H26 := Lib.hid (at26 (i := i) (HL1.out.rf HN.out HM.out) HI.out.1 HI.out.2)
  clear hg hb hB1 H25
  go_wp2_with fail
  refine H26.out.mono ?_
  rintro e w2 ⟨rfl, hB2⟩
  have HB2 := Lib.hid hB2
  clear hB2 H26
  have HX := Lib.hid (show ∃ x, x = ftAt l i from ⟨_, rfl⟩)
  generalize hx : ftAt l i = x
  have HXE := Lib.hid hx
  clear hx HX
  obtain ⟨xk, xb, xa, xp⟩ := x
  simp only [Ft.v]
  go_upto_region 5 with fail
  have hbl := heap_alloc_new w2 (.cells #[.int .i64 xk, .int .i64 xb, .int .i64 xa, .int .i64 xp] 24)
  have hBW : Below w1.heap.size w1 (w2.alloc (.cells #[.int .i64 xk, .int .i64 xb, .int .i64 xa, .int .i64 xp] 24)) := HB2.out.alloc HB2.out.size _
  generalize w2.alloc (.cells #[.int .i64 xk, .int .i64 xb, .int .i64 xa, .int .i64 xp] 24) = W at *
  have F0 := lies_cell (show W.cell? ⟨w2.heap.size, 0, none⟩ = some (.int .i64 xk) from (cell_of_block (j := 0) hbl).trans rfl)
  have F1 := lies_cell (show W.cell? ⟨w2.heap.size, 1, none⟩ = some (.int .i64 xb) from (cell_of_block (j := 1) hbl).trans rfl)
  have F2 := lies_cell (show W.cell? ⟨w2.heap.size, 2, none⟩ = some (.int .i64 xa) from (cell_of_block (j := 2) hbl).trans rfl)
  have F3 := lies_cell (show W.cell? ⟨w2.heap.size, 3, none⟩ = some (.int .i64 xp) from (cell_of_block (j := 3) hbl).trans rfl)
  have hl := HL1.out.below hBW HL1.out.lt
  have hr := (H.out.below HB1.out).below hBW
  have HBW := Lib.hid (HB1.out.trans (hBW.mono HB1.out.size))
  have H27 := Lib.hid fun x : Lies W => (show Calls Try.prog 27 #[.slice a n cap, .int .i64 i] x.1 fun e w' => e = .returned (.agg #[.int .i64 xk, .int .i64 xb, .int .i64 xa, .int .i64 xp]) ∧ Below x.1.heap.size x.1 w' by
    have := rat27 (i := i) (hr.below x.below)
    rw [HXE.out] at this; exact this)
  have H23 := Lib.hid fun x : Lies W => right_any xk xb xa xp x.1
  have H28 := Lib.hid fun x : Lies W => rright_any xk xb xa xp x.1
  have H29 := Lib.hid fun x : Lies W => all29 ((hl.rf HN.out HM.out).below x.below)
  have H30 := Lib.hid fun x : Lies W => rall30 (hr.below x.below)
  have H31 := Lib.hid fun x : Lies W => keptF_any (hr.below x.below) (hl.below x.below hl.lt) HM.out
  have H14 := Lib.hid fun x : Lies W => awake_any x.1
  generalize decide (RightF xk xb xa xp) = t1 at *
  generalize decide (AllR l) = t2 at *
  clear hl hr hbl hBW HL1 HB1 HB2 HXE
  refine region_lies (by kernel_rfl) (by kernel_rfl) ?_
  repeat (go_big_quiet_step (first
    | (go_at_call 27; exact Lies.call (H27.out _))
    | (go_at_call 23; exact Lies.call (H23.out _))
    | (go_at_call 28; exact Lies.call (H28.out _))
    | (go_at_call 29; exact Lies.call (H29.out _))
    | (go_at_call 30; exact Lies.call (H30.out _))
    | (go_at_call 31; exact Lies.call (H31.out _))
    | (go_at_call 14; exact Lies.call (H14.out _))))
  refine wpQuiet_nil ?_
  intro _ hw'
  obtain ⟨xw, hw''⟩ := hw'
  subst hw''
  go_wp2_with fail
  go_ret
  exact ⟨rfl, HBW.out.trans (xw.below.mono HBW.out.size)⟩
end Go.Proofs.Ytfojhmobnedekaa
