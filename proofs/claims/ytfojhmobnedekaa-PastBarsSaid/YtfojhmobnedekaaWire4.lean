/- The walks of the wire's small functions: New, made, Sent, Open, Next. Conditions: what the wire holds reads as a row of landings. -/
import Derived.Test.YtfojhmobnedekaaWire3
namespace Go.Proofs.Ytfojhmobnedekaa
open Go.RowKit

/-- A wire's cells. -/
def wireC (v : Value) (ld dr : Int) : Array Value := #[v, .func (.func 70) #[] #[], .int .i64 ld, .int .i64 dr]
theorem New_any (w : World) : Calls Try.prog 34 #[] w fun e w' => e = .returned (.pointer (some ⟨w.heap.size, 0, none⟩)) ∧ w' = w.alloc (.cells (wireC (.slice none 0 0) 0 0) 91) := by
  unfold wireC
  go_enter Try.func34, Try.ntmps34
  go_wp2_with fail
  go_ret
  exact ⟨rfl, rfl⟩
set_option maxHeartbeats 1600000 in
set_option maxRecDepth 100000 in
theorem made_any {w : World} {g : Nat} {v : Value} {ld dr : Int} (h : w.heap[g]? = some (.cells (wireC v ld dr) 91 (0, 0))) : Calls Try.prog 71 #[.pointer (some ⟨g, 0, none⟩)] w fun e w' => e = .returned (.bool true) ∧ w = w' := by
  have h1 : w.cell? ⟨g, 1, none⟩ = some (.func (.func 70) #[] #[]) := (cell_of_block h).trans rfl
  clear h
  have hne : ∀ w, (binOp BinOp.neq 87 (.func (.func 70) #[] #[]) Value.nilFunc).run Try.prog w = .ok (.bool true) w := fun _ => by kernel_rfl
  go_enter Try.func71, Try.ntmps71
  go_wp2_with fail
  go_ret
  exact ⟨rfl, rfl⟩
set_option maxHeartbeats 1600000 in
set_option maxRecDepth 100000 in
theorem Open_any {w : World} {g n c : Nat} {a : Option Addr} {ld dr : Int} (h : w.heap[g]? = some (.cells (wireC (.slice a n c) ld dr) 91 (0, 0))) : Calls Try.prog 37 #[.pointer (some ⟨g, 0, none⟩)] w fun e w' => e = .returned (.int .i64 (n : Nat)) ∧ w = w' := by
  have h1 : w.cell? ⟨g, 0, none⟩ = some (.slice a n c) := (cell_of_block h).trans rfl
  have HM := Lib.hid (made_any h)
  clear h
  go_enter Try.func37, Try.ntmps37
  go_wp2_with fail
  refine HM.out.mono ?_
  rintro e w1 ⟨rfl, rfl⟩
  go_wp2_with fail
  go_ret
  exact ⟨rfl, rfl⟩
set_option maxHeartbeats 1600000 in
set_option maxRecDepth 100000 in
theorem Sent_any {w : World} {g : Nat} {v : Value} {ld dr : Int} (h : w.heap[g]? = some (.cells (wireC v ld dr) 91 (0, 0))) : Calls Try.prog 36 #[.pointer (some ⟨g, 0, none⟩)] w fun e w' => e = .returned (.tuple #[.int .i64 ld, .int .i64 dr]) ∧ Below w.heap.size w w' := by
  have h2 : w.cell? ⟨g, 2, none⟩ = some (.int .i64 ld) := (cell_of_block h).trans rfl
  have h3 : w.cell? ⟨g, 3, none⟩ = some (.int .i64 dr) := (cell_of_block h).trans rfl
  have HM := Lib.hid (made_any h)
  clear h
  go_enter Try.func36, Try.ntmps36
  go_wp2_with fail
  refine HM.out.mono ?_
  rintro e w1 ⟨rfl, rfl⟩
  go_wp2_with fail
  go_quiet (fail)
  go_wp2_with fail
  go_ret2
  exact ⟨rfl, below_drewN (Below.refl _ _) _⟩
def headD : List Wl → Int
  | [] => 0
  | y :: _ => y.d
set_option maxHeartbeats 1600000 in
set_option maxRecDepth 100000 in
theorem Next_any {w : World} {g n c : Nat} {a : Option Addr} {l : List Wl} {ld dr : Int} (h : w.heap[g]? = some (.cells (wireC (.slice a n c) ld dr) 91 (0, 0))) (hl : RWl w a n c l) :
    Calls Try.prog 41 #[.pointer (some ⟨g, 0, none⟩)] w fun e w' => e = .returned (.tuple #[.int .i64 (headD l), .bool (decide (0 < n))]) ∧ w = w' := by
  have h0 : w.cell? ⟨g, 0, none⟩ = some (.slice a n c) := (cell_of_block h).trans rfl
  have HM := Lib.hid (made_any h)
  clear h
  by_cases hn : n = 0
  · subst hn
    have hle : l = [] := List.eq_nil_of_length_eq_zero hl.len
    subst hle
    clear hl
    go_enter Try.func41, Try.ntmps41
    go_wp2_with fail
    refine HM.out.mono ?_
    rintro e w1 ⟨rfl, rfl⟩
    go_wp2_with fail
    go_ret2
    exact ⟨rfl, rfl⟩
  · obtain ⟨b, off, y, rfl, hy, y0, _, _, _⟩ := hl.four (k := 0) (by omega)
    have he : headD l = y.d := by
      cases l with
      | nil => cases hy
      | cons z t => injection hy with hy; subst hy; rfl
    rw [he]
    rw [Nat.zero_mul, Nat.add_zero] at y0
    have d1 : decide (0 < n) = true := by simp; omega
    have d2 : ((n : Int) == 0) = false := by simp; omega
    have d3 : decide (n = 0) = false := decide_eq_false hn
    have hm := hl.most
    have hle := hl.le
    clear he hl hy
    go_enter Try.func41, Try.ntmps41
    go_wp2_with fail
    refine HM.out.mono ?_
    rintro e w1 ⟨rfl, rfl⟩
    go_wp2_with fail
    go_ret2
    exact ⟨by rw [d1]; rfl, rfl⟩
end Go.Proofs.Ytfojhmobnedekaa
