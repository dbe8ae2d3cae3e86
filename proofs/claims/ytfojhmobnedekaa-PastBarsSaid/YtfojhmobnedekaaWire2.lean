/- The walks of the wire's order. No condition. -/
import Derived.Test.YtfojhmobnedekaaWire1
namespace Go.Proofs.Ytfojhmobnedekaa
open Go.RowKit

/-- A landing and to whom, as a value. -/
def landV (d q : Int) (v : Value) (t : Int) : Value := .agg #[.int .i64 d, .int .i64 q, v, .int .i64 t]

set_option maxHeartbeats 1600000 in
set_option maxRecDepth 100000 in
theorem order_any {w : World} (d q d2 q2 t t2 : Int) (a a2 : Option Addr) (n c n2 c2 : Nat) : Calls Try.prog 70 #[landV d q (.slice a n c) t, landV d2 q2 (.slice a2 n2 c2) t2] w fun e w' => e = .returned (.int .i64 (orI (cmpI d d2) (cmpI q q2))) ∧ Below w.heap.size w w' := by
  have HC := Lib.hid fun (W : World) x y => Compare_any (w := W) x y
  unfold landV
  go_enter Try.func70, Try.ntmps70
  go_wp2_with fail
  refine region_quiet_tail 14 (by rfl) (by decide +kernel) ?_
  simp only [List.take_succ_cons, List.take_zero, List.drop_succ_cons, List.drop_zero]
  repeat (go_big_quiet_step ((go_at_call 106; exact quiet_same (HC.out _ _ _))))
  refine wpQuiet_nil ?_
  intro _ hw'
  obtain ⟨nq, rfl⟩ := hw'
  go_wp2_with fail
  have hn := heap_alloc_new (((w.alloc (.cells #[.int .i64 d, .int .i64 q, .slice a n c, .int .i64 t] 139)).alloc (.cells #[.int .i64 d2, .int .i64 q2, .slice a2 n2 c2, .int .i64 t2] 139)).drewN nq) (.cells #[.int .i64 (cmpI d d2), .int .i64 (cmpI q q2)] 3)
  rw [show (((w.alloc (.cells #[.int .i64 d, .int .i64 q, .slice a n c, .int .i64 t] 139)).alloc (.cells #[.int .i64 d2, .int .i64 q2, .slice a2 n2 c2, .int .i64 t2] 139)).drewN nq).heap.size = w.heap.size + 1 + 1 by simp] at hn
  have hb : Below w.heap.size w ((((w.alloc (.cells #[.int .i64 d, .int .i64 q, .slice a n c, .int .i64 t] 139)).alloc (.cells #[.int .i64 d2, .int .i64 q2, .slice a2 n2 c2, .int .i64 t2] 139)).drewN nq).alloc (.cells #[.int .i64 (cmpI d d2), .int .i64 (cmpI q q2)] 3)) := (below_drewN (((Below.refl _ _).alloc (Nat.le_refl _) _).alloc (by simp) _) nq).alloc (by simp; omega) _
  have hc := Or_two ((cell_of_block hn).trans rfl) ((cell_of_block hn).trans rfl)
  generalize (((w.alloc (.cells #[.int .i64 d, .int .i64 q, .slice a n c, .int .i64 t] 139)).alloc (.cells #[.int .i64 d2, .int .i64 q2, .slice a2 n2 c2, .int .i64 t2] 139)).drewN nq).alloc (.cells #[.int .i64 (cmpI d d2), .int .i64 (cmpI q q2)] 3) = W at *
  refine hc.mono ?_
  rintro e w2 ⟨rfl, rfl⟩
  have HB := Lib.hid hb
  clear hb hn hc
  go_wp2_with fail
  go_ret
  exact ⟨rfl, HB.out⟩

section
variable {P : Program} {ops : Array Oper}
/-- A row that is loaded, in whatever world of the class. -/
theorem quiet_load_row {C : World → Prop} {Lq : Act → Prop} {rest : List Oper} {o : Oper} {a : Act} (dst : Option Tmp) (hdst : o.dst = dst) (hgd : Region.wanted o (yielded ops a.tmps) = true) (ty : TypeId) (x : Operand) (ho : o.op = .load ty x)
    (g : Nat) (hx : a.eval x = .pointer (some ⟨g, 0, none⟩)) (t : TypeId) (cs : Array Value) (fr : Nat × Nat) (d : TypeDesc) (hg : ∀ w, C w → w.heap[g]? = some (.cells cs t fr))
    (hu : P.underlying ty = some d) (hd : (match d with | .struct _ | .array _ _ => true | _ => false) = true) (hi : (P.info? ty).map (·.size) = some cs.size)
    (h : wpQuiet P ops C Lq rest (a.put dst (.agg cs))) : wpQuiet P ops C Lq (o :: rest) a := by
  subst hdst
  unfold wpQuiet
  rw [if_pos hgd]
  refine ⟨.agg cs, fun w hC => ?_, h⟩
  unfold Oper.quietAt execOp
  simp only [ho, hx, Instr.loadAt, Instr.sureAddr, Sem.run_bind, Sem.run_pure, Result.andThen_ok, run_loadVar_row w g t ty cs fr d (hg w hC) hu hd hi]
  exact ⟨rfl, rfl⟩
end
theorem info139 : (Try.prog.info? 139).map (fun i => i.size) = some 4 := by kernel_rfl
/-- How two landings stand. -/
def ordI (d q d2 q2 : Int) : Int := orI (cmpI d d2) (cmpI q q2)
set_option maxHeartbeats 1600000 in
set_option maxRecDepth 100000 in
theorem less_any {w : World} {bx W : Nat} (d q d2 q2 t t2 : Int) (a a2 : Option Addr) (n c n2 c2 : Nat) (h0 : w.cell? ⟨bx, 0, none⟩ = some (.pointer (some ⟨W, 0, none⟩))) (h1 : w.cell? ⟨W, 1, none⟩ = some (.func (.func 70) #[] #[])) :
    Calls Try.prog 108 #[landV d q (.slice a n c) t, landV d2 q2 (.slice a2 n2 c2) t2, .pointer (some ⟨bx, 0, none⟩)] w fun e w' => e = .returned (.int .i64 (if ordI d q d2 q2 ≤ 0 then -1 else 1)) ∧ Below w.heap.size w w' := by
  obtain ⟨r, hr0⟩ : ∃ r, r = ordI d q d2 q2 := ⟨_, rfl⟩
  have HO : Hid (∀ W : World, Calls Try.prog 70 #[landV d q (.slice a n c) t, landV d2 q2 (.slice a2 n2 c2) t2] W fun e w' => e = .returned (.int .i64 r) ∧ Below W.heap.size W w') := by
    rw [hr0]; exact fun W => order_any (w := W) d q d2 q2 t t2 a a2 n c n2 c2
  rw [← hr0]
  clear hr0
  unfold landV
  go_enter Try.func108, Try.ntmps108
  go_wp2_with fail
  have hb1 := heap_alloc_new (w.alloc (.cells #[.int .i64 d, .int .i64 q, .slice a n c, .int .i64 t] 139)) (.cells #[.int .i64 d2, .int .i64 q2, .slice a2 n2 c2, .int .i64 t2] 139)
  rw [World.size_alloc] at hb1
  have hb0 : ((w.alloc (.cells #[.int .i64 d, .int .i64 q, .slice a n c, .int .i64 t] 139)).alloc (.cells #[.int .i64 d2, .int .i64 q2, .slice a2 n2 c2, .int .i64 t2] 139)).heap[w.heap.size]? = _ :=
    (((Below.refl (w.heap.size + 1) (w.alloc (.cells #[.int .i64 d, .int .i64 q, .slice a n c, .int .i64 t] 139))).alloc (by simp) (.cells #[.int .i64 d2, .int .i64 q2, .slice a2 n2 c2, .int .i64 t2] 139)).block w.heap.size (by omega)).trans (heap_alloc_new w _)
  have hB : Below w.heap.size w ((w.alloc (.cells #[.int .i64 d, .int .i64 q, .slice a n c, .int .i64 t] 139)).alloc (.cells #[.int .i64 d2, .int .i64 q2, .slice a2 n2 c2, .int .i64 t2] 139)) := ((Below.refl _ _).alloc (Nat.le_refl _) _).alloc (by simp) _
  have c0 := (hB.cell (p := ⟨bx, 0, none⟩) (block_lt_of_cell h0)).trans h0
  have c1 := (hB.cell (p := ⟨W, 1, none⟩) (block_lt_of_cell h1)).trans h1
  generalize ((w.alloc (.cells #[.int .i64 d, .int .i64 q, .slice a n c, .int .i64 t] 139)).alloc (.cells #[.int .i64 d2, .int .i64 q2, .slice a2 n2 c2, .int .i64 t2] 139)) = W1 at *
  have H0 : ∀ w', (∃ q, w' = W1.drewN q) → w'.heap[w.heap.size]? = some (.cells #[.int .i64 d, .int .i64 q, .slice a n c, .int .i64 t] 139 (0, 0)) := fun w' ⟨_, e⟩ => by rw [e]; exact hb0
  have H1 : ∀ w', (∃ q, w' = W1.drewN q) → w'.heap[w.heap.size + 1]? = some (.cells #[.int .i64 d2, .int .i64 q2, .slice a2 n2 c2, .int .i64 t2] 139 (0, 0)) := fun w' ⟨_, e⟩ => by rw [e]; exact hb1
  have H0 := Lib.hid H0
  have H1 := Lib.hid H1
  have HB := Lib.hid hB
  clear h0 h1 hb0 hb1 hB
  refine region_quiet_tail 6 (by rfl) (by decide +kernel) ?_
  simp only [List.take_succ_cons, List.take_zero, List.drop_succ_cons, List.drop_zero]
  repeat (first | ((refine quiet_load_row (some 10) rfl rfl 139 (.tmp 3) rfl w.heap.size rfl 139 #[.int .i64 d, .int .i64 q, .slice a n c, .int .i64 t] (0, 0) _ H0.out Try.underlying139 rfl info139 ?_); simp only [Act.put, List.setIfInBounds_toArray, List.set_cons_succ, List.set_cons_zero]) | ((refine quiet_load_row (some 11) rfl rfl 139 (.tmp 4) rfl (w.heap.size + 1) rfl 139 #[.int .i64 d2, .int .i64 q2, .slice a2 n2 c2, .int .i64 t2] (0, 0) _ H1.out Try.underlying139 rfl info139 ?_); simp only [Act.put, List.setIfInBounds_toArray, List.set_cons_succ, List.set_cons_zero]) | go_big_quiet_step (fail))
  refine wpQuiet_nil ?_
  intro _ hw'
  obtain ⟨nq, rfl⟩ := hw'
  go_wp2_with fail
  refine (HO.out _).mono ?_
  rintro e w2 ⟨rfl, hB2⟩
  have HB2 := Lib.hid ((below_drewN HB.out nq).trans (hB2.mono (by simpa using HB.out.size)))
  clear hB2 HO
  by_cases hr : r ≤ 0
  · have dr : decide (r ≤ 0) = true := decide_eq_true hr
    go_wp2_with fail
    go_ret
    exact ⟨by first | rfl | (rw [if_pos (by omega)]; rfl), HB2.out⟩
  · have dr : decide (r ≤ 0) = false := decide_eq_false hr
    go_wp2_with fail
    go_ret
    exact ⟨by first | rfl | (rw [if_neg (by omega)]; rfl), HB2.out⟩
end Go.Proofs.Ytfojhmobnedekaa
