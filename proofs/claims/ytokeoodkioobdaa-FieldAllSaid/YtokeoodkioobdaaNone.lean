/- The walks of the field's functions where there is no field, and of the law's part on it. No condition. -/
import Derived.Test.YtokeoodkioobdaaLaw3
namespace Go.Proofs.Ytokeoodkioobdaa
open Go.RowKit

/-- A pointer to no field: nil, or to one that was not made. -/
def NoF (w : World) (v : Value) : Prop := v = .pointer none ∨ ∃ p, v = .pointer (some ⟨p, 0, none⟩) ∧ w.cell? ⟨p, 766, none⟩ = some (.bool false)
theorem is_no {w : World} {v : Value} (h : NoF w v) : Calls Try.prog 87 #[v] w fun e w' => e = .returned (.bool false) ∧ w = w' := by
  rcases h with rfl | ⟨p, rfl, hc⟩
  · exact is_nil w
  · exact is_any hc
theorem no_mul {w : World} {v x y : Value} (h : NoF w v) : Calls Try.prog 23 #[v, x, y] w fun e w' => e = .returned (.int .u8 0) ∧ w = w' := by
  have H := Lib.hid h
  clear h
  go_enter Try.func23, Try.ntmps23
  go_wp2_with (go_at_call 87; refine (is_no H.out).mono ?_; rintro e w' ⟨rfl, rfl⟩)
  go_ret
  exact ⟨rfl, rfl⟩
theorem no_inv {w : World} {v x : Value} (h : NoF w v) : Calls Try.prog 26 #[v, x] w fun e w' => e = .returned (.tuple #[.int .u8 0, .int .i64 1]) ∧ w = w' := by
  have H := Lib.hid h
  clear h
  go_enter Try.func26, Try.ntmps26
  go_wp2_with (go_at_call 87; refine (is_no H.out).mono ?_; rintro e w' ⟨rfl, rfl⟩)
  go_ret2
  exact ⟨rfl, rfl⟩
theorem no_div {w : World} {v x y : Value} (h : NoF w v) : Calls Try.prog 25 #[v, x, y] w fun e w' => e = .returned (.tuple #[.int .u8 0, .int .i64 1]) ∧ w = w' := by
  have H := Lib.hid h
  clear h
  go_enter Try.func25, Try.ntmps25
  go_wp2_with (first | (go_at_call 26; refine (no_inv H.out).mono ?_; rintro e w' ⟨rfl, rfl⟩) | (go_at_call 23; refine (no_mul H.out).mono ?_; rintro e w' ⟨rfl, rfl⟩))
  go_ret2
  exact ⟨rfl, rfl⟩
theorem no_exp {w : World} {v x : Value} (h : NoF w v) : Calls Try.prog 31 #[v, x] w fun e w' => e = .returned (.int .u8 0) ∧ w = w' := by
  have H := Lib.hid h
  clear h
  go_enter Try.func31, Try.ntmps31
  go_wp2_with (go_at_call 87; refine (is_no H.out).mono ?_; rintro e w' ⟨rfl, rfl⟩)
  go_ret
  exact ⟨rfl, rfl⟩
theorem no_log {w : World} {v x : Value} (h : NoF w v) : Calls Try.prog 32 #[v, x] w fun e w' => e = .returned (.tuple #[.int .i64 0, .int .i64 1]) ∧ w = w' := by
  have H := Lib.hid h
  clear h
  go_enter Try.func32, Try.ntmps32
  go_wp2_with (go_at_call 87; refine (is_no H.out).mono ?_; rintro e w' ⟨rfl, rfl⟩)
  go_ret2
  exact ⟨rfl, rfl⟩
theorem no_pow {w : World} {v x y : Value} (h : NoF w v) : Calls Try.prog 33 #[v, x, y] w fun e w' => e = .returned (.tuple #[.int .u8 0, .int .i64 1]) ∧ w = w' := by
  have H := Lib.hid h
  clear h
  go_enter Try.func33, Try.ntmps33
  go_wp2_with (go_at_call 87; refine (is_no H.out).mono ?_; rintro e w' ⟨rfl, rfl⟩)
  go_ret2
  exact ⟨rfl, rfl⟩
theorem no_dot {w : World} {v x y : Value} (h : NoF w v) : Calls Try.prog 28 #[v, x, y] w fun e w' => e = .returned (.tuple #[.int .u8 0, .int .i64 1]) ∧ w = w' := by
  have H := Lib.hid h
  clear h
  go_enter Try.func28, Try.ntmps28
  go_wp2_with (go_at_call 87; refine (is_no H.out).mono ?_; rintro e w' ⟨rfl, rfl⟩)
  go_ret2
  exact ⟨rfl, rfl⟩

theorem built79_none : Try.prog.built 79 [] = some Try.zeroCells79 := by
  have h := info79
  unfold Program.built
  cases hi : Try.prog.info? 79 with
  | none => rw [hi] at h; cases h
  | some it =>
    rw [hi] at h
    have hz : it.zero = some (.agg Try.zeroCells79) := by simpa using h
    rw [Try.underlying79]
    simp only [hz, places79]
    rfl
theorem zero79_there : Try.zeroCells79[766]? = some (.bool false) := by kernel_rfl
theorem built79_hid : ∃ C, Hid (Try.prog.built 79 [] = some C) ∧ C[766]? = some (.bool false) := ⟨_, built79_none, zero79_there⟩

/-- The two pointers of the law's list stand where they were laid, and the field that was not made too. -/
def NoTwo (w wr : World) : Prop := wr.cell? ⟨w.heap.size + 1, 0, none⟩ = some (.pointer none) ∧ wr.cell? ⟨w.heap.size + 1, 1, none⟩ = some (.pointer (some ⟨w.heap.size, 0, none⟩)) ∧ wr.cell? ⟨w.heap.size, 766, none⟩ = some (.bool false) ∧ Below w.heap.size w wr
theorem alloc_cell {w : World} {o : Obj} {p : Addr} {v : Value} (h : w.cell? p = some v) : (w.alloc o).cell? p = some v := by
  rw [← h]; exact World.cell?_of_block (Below.heap_alloc w o _ (block_lt_of_cell h))
theorem noTwo_start {w : World} {C : Array Value} (h : (w.alloc (.cells C 79)).cell? ⟨w.heap.size, 766, none⟩ = some (.bool false)) :
    NoTwo w ((w.alloc (.cells C 79)).alloc (.cells #[.pointer none, .pointer (some ⟨w.heap.size, 0, none⟩)] 23)) := by
  have e : (w.alloc (.cells C 79)).heap.size = w.heap.size + 1 := by simp
  refine ⟨?_, ?_, alloc_cell h, ((Below.refl _ _).alloc (Nat.le_refl _) _).alloc (by simp) _⟩
  · rw [← e, cell_of_block (heap_alloc_new _ _)]; rfl
  · rw [← e, cell_of_block (heap_alloc_new _ _)]; rfl
theorem noTwo_at {w wr : World} {k : Nat} (h : NoTwo w wr) (hk : k < 2) : ∃ v, wr.cell? ⟨w.heap.size + 1, k, none⟩ = some v ∧ NoF wr v := by
  obtain ⟨h1, h2, h3, _⟩ := h
  match k, hk with
  | 0, _ => exact ⟨_, h1, Or.inl rfl⟩
  | 1, _ => exact ⟨_, h2, Or.inr ⟨_, rfl, h3⟩⟩
theorem noF_alloc {w : World} {v : Value} (h : NoF w v) (o : Obj) : NoF (w.alloc o) v := by
  rcases h with h | ⟨p, h, hc⟩
  · exact Or.inl h
  · exact Or.inr ⟨p, h, alloc_cell hc⟩
theorem noTwo_alloc {w wr : World} (h : NoTwo w wr) (o : Obj) : NoTwo w (wr.alloc o) :=
  ⟨alloc_cell h.1, alloc_cell h.2.1, alloc_cell h.2.2.1, h.2.2.2.alloc h.2.2.2.size o⟩

set_option maxHeartbeats 1600000 in
set_option maxRecDepth 100000 in
theorem none_any (w : World) : Calls Try.prog 40 #[] w fun e w' => e = .returned (.bool true) ∧ Below w.heap.size w w' := by
  obtain ⟨C, HC, hC⟩ := built79_hid
  have h0 : (w.alloc (.cells C 79)).cell? ⟨w.heap.size, 766, none⟩ = some (.bool false) := by rw [cell_of_block (heap_alloc_new _ _)]; exact hC
  have H0 := Lib.hid h0
  clear h0 hC
  go_enter Try.func40, Try.ntmps40
  go_wp2_with (first | (refine wpList_buildTo rfl 79 #[] rfl (some 14) rfl C ?_ ?_; (simp; exact HC.out)) | (refine wpList_boxTo rfl 79 (.tmp 14) rfl (some 15) rfl w.heap.size rfl C rfl ?_))
  go_loopw [2] (fun i wr => ∃ k : Nat, k ≤ 2 ∧ i = .int .i64 k ∧ NoTwo w wr) (fun i _ => big - (intOf i).toNat)
  case atStart => exact ⟨0, by omega, rfl, noTwo_start H0.out⟩
  case round =>
    obtain ⟨k, hk, rfl, hN⟩ := hrel
    have HN := Lib.hid hN
    clear hN
    by_cases hk2 : k < 2
    · obtain ⟨v, hv, hno⟩ := noTwo_at HN.out hk2
      have HO := Lib.hid hno
      clear hno
      go_wp2_with (first
        | (go_at_call 26; refine (no_inv HO.out).mono ?_; rintro e w' ⟨rfl, rfl⟩)
        | (go_at_call 25; refine (no_div HO.out).mono ?_; rintro e w' ⟨rfl, rfl⟩)
        | (go_at_call 33; refine (no_pow HO.out).mono ?_; rintro e w' ⟨rfl, rfl⟩)
        | (go_at_call 32; refine (no_log HO.out).mono ?_; rintro e w' ⟨rfl, rfl⟩)
        | (go_at_call 28; refine (no_dot (noF_alloc HO.out _)).mono ?_; rintro e w' ⟨rfl, rfl⟩)
        | (go_at_call 23; refine (no_mul (noF_alloc HO.out _)).mono ?_; rintro e w' ⟨rfl, rfl⟩)
        | (go_at_call 31; refine (no_exp (noF_alloc HO.out _)).mono ?_; rintro e w' ⟨rfl, rfl⟩))
      go_roundw
      case rel => exact ⟨k + 1, by omega, by go_num, noTwo_alloc HN.out _⟩
      case measure => simp [intOf, big]; omega
    · obtain rfl : k = 2 := by omega
      go_wp2_with fail
      go_ret
      exact ⟨rfl, HN.out.2.2.2⟩
end Go.Proofs.Ytokeoodkioobdaa
