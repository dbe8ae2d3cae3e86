/- Whether two stats are one. No condition. -/
import Derived.Test.YtfojhmobnedekaaDoorS10
import Derived.ChangeKeysEq
namespace Go.Proofs.YtfojhmobnedekaaDoor
open Go.RowKit
theorem eqInt (d : Nat) (a b : Int) (w : World) : (Op.equalIn (d + 1) 3 (.int .i64 a) (.int .i64 b)).run Tryd.prog w = .ok (a == b) w := run_equalIn_int w d 3 .i64 .i64 a b Tryd.underlying3
theorem part3 (xs : Array Value) (o : Nat) (x : Int) (h : xs[o]? = some (.int .i64 x)) (w : World) : (part 3 xs o).run Tryd.prog w = .ok (.int .i64 x) w := by
  simp [part, isAgg, run_underlying Tryd.underlying3, h]
/-- Items of ints, one by one. -/
def allEq (u v : Nat → Int) : List Nat → Bool
  | [] => true
  | i :: is => if u i == v i then allEq u v is else false
theorem items (d : Nat) (u v : Nat → Int) (xs ys : Array Value) (w : World) : ∀ is : List Nat, (∀ i ∈ is, xs[i]? = some (.int .i64 (u i))) → (∀ i ∈ is, ys[i]? = some (.int .i64 (v i))) →
    (Op.eqItems (d + 1) 3 1 xs ys is).run Tryd.prog w = .ok (allEq u v is) w
  | [], _, _ => by simp [Op.eqItems, allEq]
  | i :: is, hx, hy => by
    have ih := items d u v xs ys w is (fun i hi => hx i (by simp [hi])) (fun i hi => hy i (by simp [hi]))
    simp only [Op.eqItems, Sem.run_bind, Nat.mul_one, part3 xs i _ (hx i (by simp)), part3 ys i _ (hy i (by simp)), Result.andThen_ok, eqInt]
    unfold allEq
    cases h : u i == v i
    · simp
    · simpa using ih
theorem c3 : Tryd.prog.cellsOf 3 = 1 := by kernel_rfl
theorem eqArr {t : TypeId} {n : Nat} (ht : Tryd.prog.underlying t = some (.array n 3)) (d : Nat) (u v : Nat → Int) (w : World) (xs ys : Array Value) (hx : ∀ i, i < n → xs[i]? = some (.int .i64 (u i))) (hy : ∀ i, i < n → ys[i]? = some (.int .i64 (v i))) :
    (Op.equalIn (d + 2) t (.agg xs) (.agg ys)).run Tryd.prog w = .ok (allEq u v (List.range n)) w := by
  obtain ⟨i0, hi, _⟩ := info_parts info3
  rw [run_equalIn_array w (d + 1) xs ys ht hi, c3]
  exact items d u v xs ys w _ (fun i hi => hx i (List.mem_range.1 hi)) (fun i hi => hy i (List.mem_range.1 hi))
def a8 (v : Nat → Int) : Array Value := #[.int .i64 (v 3), .int .i64 (v 4), .int .i64 (v 5), .int .i64 (v 6), .int .i64 (v 7), .int .i64 (v 8), .int .i64 (v 9), .int .i64 (v 10)]
theorem eqA8 (u v : Nat → Int) (w : World) : (Op.equalIn 9999 22 (.agg #[.int .i64 (u 3), .int .i64 (u 4), .int .i64 (u 5), .int .i64 (u 6), .int .i64 (u 7), .int .i64 (u 8), .int .i64 (u 9), .int .i64 (u 10)]) (.agg #[.int .i64 (v 3), .int .i64 (v 4), .int .i64 (v 5), .int .i64 (v 6), .int .i64 (v 7), .int .i64 (v 8), .int .i64 (v 9), .int .i64 (v 10)])).run Tryd.prog w = .ok (allEq (fun i => u (3 + i)) (fun i => v (3 + i)) (List.range 8)) w := by
  refine eqArr Tryd.underlying22 9997 _ _ w _ _ ?_ ?_
  all_goals
    intro i hi
    have : i = 0 ∨ i = 1 ∨ i = 2 ∨ i = 3 ∨ i = 4 ∨ i = 5 ∨ i = 6 ∨ i = 7 := by omega
    rcases this with rfl | rfl | rfl | rfl | rfl | rfl | rfl | rfl <;> rfl
theorem eqA4 (u v : Nat → Int) (w : World) : (Op.equalIn 9999 23 (.agg #[.int .i64 (u 11), .int .i64 (u 12), .int .i64 (u 13), .int .i64 (u 14)]) (.agg #[.int .i64 (v 11), .int .i64 (v 12), .int .i64 (v 13), .int .i64 (v 14)])).run Tryd.prog w = .ok (allEq (fun i => u (11 + i)) (fun i => v (11 + i)) (List.range 4)) w := by
  refine eqArr Tryd.underlying23 9997 _ _ w _ _ ?_ ?_
  all_goals
    intro i hi
    have : i = 0 ∨ i = 1 ∨ i = 2 ∨ i = 3 := by omega
    rcases this with rfl | rfl | rfl | rfl <;> rfl
theorem allEq_iff (u v : Nat → Int) : ∀ is : List Nat, allEq u v is = true ↔ ∀ i ∈ is, u i = v i
  | [] => by simp [allEq]
  | i :: is => by
    have := allEq_iff u v is
    unfold allEq
    by_cases h : u i = v i
    · simp [h, this]
    · simp [h]
/-- Two stats are one. -/
def SameV (u v : Nat → Int) : Prop := ∀ i, i < 19 → u i = v i
theorem sameV_C {u v : Nat → Int} (h : SameV u v) : stC u = stC v := by
  unfold stC
  rw [h 0 (by omega), h 1 (by omega), h 2 (by omega), h 3 (by omega), h 4 (by omega), h 5 (by omega), h 6 (by omega), h 7 (by omega), h 8 (by omega), h 9 (by omega), h 10 (by omega), h 11 (by omega), h 12 (by omega), h 13 (by omega), h 14 (by omega), h 15 (by omega), h 16 (by omega), h 17 (by omega), h 18 (by omega)]
theorem sameV_of {u v : Nat → Int} (h : stC u = stC v) : SameV u v := fun i hi => by
  have h1 := stC_at u hi
  rw [h, stC_at v hi] at h1
  injection h1 with h1
  injection h1 with _ h1
  exact h1.symm
def eqS (a0 a1 a2 a8 a4 a15 a16 a17 a18 : Bool) : Bool := a0 && (a1 && (a2 && (a8 && (a4 && (a15 && (a16 && (a17 && a18)))))))
set_option maxRecDepth 100000 in
set_option maxHeartbeats 4000000 in
theorem eq_stC0 (u v : Nat → Int) (w : World) : (Op.equalIn 10000 25 (.agg (stC u)) (.agg (stC v))).run Tryd.prog w = .ok (eqS (u 0 == v 0) (u 1 == v 1) (u 2 == v 2) (allEq (fun i => u (3 + i)) (fun i => v (3 + i)) (List.range 8)) (allEq (fun i => u (11 + i)) (fun i => v (11 + i)) (List.range 4)) (u 15 == v 15) (u 16 == v 16) (u 17 == v 17) (u 18 == v 18)) w := by
  have h8 := eqA8 u v
  have h4 := eqA4 u v
  generalize allEq (fun i => u (3 + i)) (fun i => v (3 + i)) (List.range 8) = b8 at *
  generalize allEq (fun i => u (11 + i)) (fun i => v (11 + i)) (List.range 4) = b4 at *
  unfold stC
  go_simp
  unfold eqS
  by_cases e0 : u 0 = v 0
  · by_cases e1 : u 1 = v 1
    · by_cases e2 : u 2 = v 2
      · cases b8
        · simp [e0, e1, e2]
        · cases b4
          · simp [e0, e1, e2]
          · by_cases e15 : u 15 = v 15
            · by_cases e16 : u 16 = v 16
              · by_cases e17 : u 17 = v 17
                · by_cases e18 : u 18 = v 18
                  · simp [e0, e1, e2, e15, e16, e17, e18]
                  · simp [e0, e1, e2, e15, e16, e17, e18]
                · simp [e0, e1, e2, e15, e16, e17]
              · simp [e0, e1, e2, e15, e16]
            · simp [e0, e1, e2, e15]
      · simp [e0, e1, e2]
    · simp [e0, e1]
  · simp [e0]
theorem eqS_iff (u v : Nat → Int) : eqS (u 0 == v 0) (u 1 == v 1) (u 2 == v 2) (allEq (fun i => u (3 + i)) (fun i => v (3 + i)) (List.range 8)) (allEq (fun i => u (11 + i)) (fun i => v (11 + i)) (List.range 4)) (u 15 == v 15) (u 16 == v 16) (u 17 == v 17) (u 18 == v 18) = true ↔ SameV u v := by
  unfold eqS
  simp only [Bool.and_eq_true, beq_iff_eq, allEq_iff, List.mem_range]
  constructor
  · rintro ⟨e0, e1, e2, h8, h4, e15, e16, e17, e18⟩ i hi
    have : i = 0 ∨ i = 1 ∨ i = 2 ∨ (3 ≤ i ∧ i < 11) ∨ (11 ≤ i ∧ i < 15) ∨ i = 15 ∨ i = 16 ∨ i = 17 ∨ i = 18 := by omega
    rcases this with rfl | rfl | rfl | h | h | rfl | rfl | rfl | rfl
    all_goals try assumption
    · have := h8 (i - 3) (by omega); rwa [show 3 + (i - 3) = i by omega] at this
    · have := h4 (i - 11) (by omega); rwa [show 11 + (i - 11) = i by omega] at this
  · intro h
    exact ⟨h 0 (by omega), h 1 (by omega), h 2 (by omega), fun i hi => h _ (by omega), fun i hi => h _ (by omega), h 15 (by omega), h 16 (by omega), h 17 (by omega), h 18 (by omega)⟩
/-- Whether two stats are one, told as a Bool. -/
theorem eq_stC (u v : Nat → Int) : ∃ t : Bool, (t = true ↔ SameV u v) ∧ ∀ w : World, (Op.equalIn 10000 25 (.agg (stC u)) (.agg (stC v))).run Tryd.prog w = .ok t w := ⟨_, eqS_iff u v, eq_stC0 u v⟩
theorem eq_one (v : Nat → Int) (w : World) : (Op.equalIn 10000 25 (.agg (stC v)) (.agg (stC v))).run Tryd.prog w = .ok true w := by
  obtain ⟨t, ht, h⟩ := eq_stC v v
  rw [h, ht.2 (fun _ _ => rfl)]
end Go.Proofs.YtfojhmobnedekaaDoor
