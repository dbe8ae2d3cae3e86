/- The walk of stat's sum of two. No condition. -/
import Derived.Test.YtfojhmobnedekaaDoorS5
import Derived.Test.YtfojhmobnedekaaDoorLate
import Derived.Lib.OwnKind
import Derived.OneCell
import Derived.Maps.AppendAt
namespace Go.Proofs.YtfojhmobnedekaaDoor
open Go.RowKit Go.Shelf

attribute [local go_sem] Oper.semAt_some

/-- One count behind the other, as they come. -/
def smP (x : Nat → Int) (s : Nat → Int) (pre : List Nat) : Nat × (Nat → Int) := pre.foldl (fun p j => (p.1 + 1, upd p.2 (of_ j) (ad (p.2 (of_ j)) (x (of_ p.1))))) (0, s)
def sm (x s : Nat → Int) (pre : List Nat) : Nat → Int := (smP x s pre).2
theorem smP_len (x : Nat → Int) (pre : List Nat) : ∀ p : Nat × (Nat → Int), (pre.foldl (fun p j => (p.1 + 1, upd p.2 (of_ j) (ad (p.2 (of_ j)) (x (of_ p.1))))) p).1 = p.1 + pre.length := by
  induction pre with
  | nil => intro p; rfl
  | cons j pre ih => intro p; rw [List.foldl_cons, ih]; simp; omega
theorem sm_snoc (x s : Nat → Int) (pre : List Nat) (j : Nat) : sm x s (pre ++ [j]) = upd (sm x s pre) (of_ j) (ad (sm x s pre (of_ j)) (x (of_ pre.length))) := by
  unfold sm smP
  rw [List.foldl_append]
  have := smP_len x pre (0, s)
  rw [Nat.zero_add] at this
  show upd _ _ (ad _ (x (of_ (List.foldl _ (0, s) pre).1))) = _
  rw [this]
def smv (x s : Nat → Int) : Nat → Int := upd (upd s 3 (ad (s 3) (x 3))) 11 (ad (s 11) (x 11))
/-- The sum of two. -/
def sumV (s x : Nat → Int) : Nat → Int := fun i => ad (s i) (x i)
theorem sm_all (x s : Nat → Int) : stC (sm x (smv x s) (List.range 17)) = stC (sumV s x) := by
  unfold stC
  rfl
/-- The values that the first loop has collected. -/
def vals (x : Nat → Int) (pre : List Nat) : List Value := pre.map fun j => .int .i64 (x (of_ j))
theorem own_kept {A B : World} {row : Option Nat} {base n size : Nat} {e : TypeId} {v : Value} {xs : List Value} (h : A.ownsRow base e size v n xs) (hg : A.grownBy B row) (hr : ∀ r, row = some r → ∃ o : Obj, A.heap[r]? = some o ∧ o.isCells = false) : B.ownsRow base e size v n xs := by
  refine h.kept hg ?_
  cases hv : v.ownBlock with
  | none => exact .inl rfl
  | some g =>
    refine .inr fun e => ?_
    obtain ⟨o, ho, hc⟩ := hr g e.symm
    obtain ⟨c, fz, h2⟩ := Lib.ownsRow_kind h g hv
    rw [h2] at ho
    obtain rfl := Option.some.inj ho
    cases hc
def SPost (x s : Nat → Int) (w : World) (e : Ending) (W' : World) : Prop := e = .returned (.agg (stC (sumV s x))) ∧ Below w.heap.size w W'
theorem info3 : (Tryd.prog.info? 3).map (fun i => (i.zero, i.size, i.bytes)) = some (some (.int .i64 0), 1, 8) := by kernel_rfl
/-- What lies between two rounds of the first loop. -/
def L1 (x s : Nat → Int) (w W2 W4 : World) (pre : List Nat) (W : World) : Prop :=
  (∃ v, Hid (W.heap[W2.heap.size]? = some (.cells #[v] 42 (0, 0))) ∧ Hid (W.ownsRow W4.heap.size 3 1 v pre.length (vals x pre))) ∧ Hid (StAt 25 W w.heap.size (smv x s)) ∧ Hid (StAt 25 W (w.heap.size + 1) x) ∧ Hid (StAt 25 W (w.heap.size + 2) v0) ∧ Hid (Below w.heap.size w W) ∧ W4.heap.size ≤ W.heap.size
theorem L1.kept {x s : Nat → Int} {w W2 W4 A B : World} {pre : List Nat} {row : Option Nat} (h : L1 x s w W2 W4 pre A) (hg : A.grownBy B row) (hm : w.heap.size ≤ W4.heap.size) (hr : ∀ r, row = some r → W4.heap.size ≤ r ∧ ∃ o : Obj, A.heap[r]? = some o ∧ o.isCells = false) : L1 x s w W2 W4 pre B := by
  obtain ⟨⟨v, hb, ho⟩, hS, hX, hZ, hB, hz⟩ := h
  have hr2 := fun r e => (hr r e).2
  exact ⟨⟨v, cells_kept hb.out hg hr2, own_kept ho.out hg hr2⟩, cells_kept hS.out hg hr2, cells_kept hX.out hg hr2, cells_kept hZ.out hg hr2, below_own hB.out hg hm (fun r e => (hr r e).1), Nat.le_trans hz hg.size⟩
theorem own_below {A B : World} {base n size : Nat} {e : TypeId} {v : Value} {xs : List Value} (h : A.ownsRow base e size v n xs) (hB : Below A.heap.size A B) : B.ownsRow base e size v n xs :=
  h.kept (row := none) ⟨hB.os, hB.tape, hB.output, hB.size, fun k hk _ => hB.block k hk⟩ (by cases hv : v.ownBlock <;> simp)
theorem keeps_below {A B : World} (h : Below A.heap.size A B) : KeepsOthers A B := ⟨h.size, fun k _ hk _ => (h.block k (Array.getElem?_eq_some_iff.1 hk).1).trans hk⟩
theorem vals_snoc (x : Nat → Int) (pre : List Nat) (j : Nat) : vals x (pre ++ [j]) = vals x pre ++ [.int .i64 (x (of_ j))] := by simp [vals]
theorem L1.step {x s : Nat → Int} {w W2 W4 W V w6 : World} {pre : List Nat} {j bx g : Nat} {v v' : Value} {o : Obj} (hBox : W.heap[W2.heap.size]? = some (.cells #[v] 42 (0, 0))) (hOwn : W.ownsRow W4.heap.size 3 1 v pre.length (vals x pre)) (hS : StAt 25 W w.heap.size (smv x s)) (hX : StAt 25 W (w.heap.size + 1) x) (hZ : StAt 25 W (w.heap.size + 2) v0) (hB : Below w.heap.size w W) (hz : W4.heap.size ≤ W.heap.size)
    (hBV : Below W.heap.size W V) (hown' : w6.ownsRow W4.heap.size 3 1 v' (pre.length + 1) (vals x pre ++ [.int .i64 (x (of_ j))])) (hgrow : (V.alloc o).grownBy w6 v.ownBlock) (h2 : w.heap.size + 3 ≤ W2.heap.size) (h4 : W2.heap.size < W4.heap.size) (hbx : bx < W4.heap.size) (hg : g < W4.heap.size) (nbx : bx ≠ W2.heap.size) (ng : g ≠ W2.heap.size) :
    KeepsFrom W4.heap.size W (w6.setCell ⟨W2.heap.size, 0, none⟩ v') ∧ Kt bx g W (w6.setCell ⟨W2.heap.size, 0, none⟩ v') ∧ L1 x s w W2 W4 (pre ++ [j]) (w6.setCell ⟨W2.heap.size, 0, none⟩ v') := by
  have hVo := own_below hOwn hBV
  have hlt := hVo.lt
  have hVs := hBV.size
  have hV1 : Below V.heap.size V (V.alloc o) := (Below.refl _ _).alloc (Nat.le_refl _) _
  have hne : ∀ k, k < W4.heap.size → some k ≠ v.ownBlock := fun k hk e => by have := (hlt k e.symm).1; omega
  have hk : ∀ k, k < W4.heap.size → w6.heap[k]? = W.heap[k]? := fun k hk =>
    (hgrow.block k (by simp; omega) (hne k hk)).trans ((hV1.block k (by omega)).trans (hBV.block k (by omega)))
  have hk2 : ∀ k u, k < W4.heap.size → k ≠ W2.heap.size → (w6.setCell ⟨W2.heap.size, 0, none⟩ u).heap[k]? = W.heap[k]? := fun k u h1 h2 => (heap_setCell_other w6 ⟨W2.heap.size, 0, none⟩ k u h2).trans (hk k h1)
  have hw6 : W.heap.size ≤ w6.heap.size := by have := hgrow.size; simp at this; omega
  refine ⟨?_, ⟨by simp [World.setCell]; exact hw6, hk2 bx v' hbx nbx, hk2 g v' hg ng⟩, ⟨v', ?_, ?_⟩, (hk2 _ v' (by omega) (by omega)).trans hS, (hk2 _ v' (by omega) (by omega)).trans hX, (hk2 _ v' (by omega) (by omega)).trans hZ, ?_, ?_⟩
  · refine KeepsOthers.from ((keeps_below hBV).trans ((KeepsOthers.alloc _ _).trans ((KeepsOthers.of_grownBy hgrow fun r o' e ho => ?_).trans (KeepsOthers.setCell _ _ _)))) _
    obtain ⟨c, fz, h3⟩ := Lib.ownsRow_kind (hVo.alloc o) r e
    rw [h3] at ho
    obtain rfl := Option.some.inj ho
    rfl
  · exact heap_setCell_same w6 W2.heap.size 0 _ 42 v' ((hk _ h4).trans hBox)
  · rw [vals_snoc, List.length_append]
    refine ownsRow_setCell_other hown' (a := ⟨W2.heap.size, 0, none⟩) (fun e => ?_) _
    have := (hown'.lt _ e).1
    simp at this; omega
  · exact ((hB.trans (hBV.mono hB.size)).alloc (by have := hB.size; omega) o).grown hgrow (by have := hB.size; simp; omega) (fun k e => by have := (hlt k e).1; omega) |>.setCell (p := ⟨W2.heap.size, 0, none⟩) (by show _ ≤ W2.heap.size; omega) _
  · simp [World.setCell]; omega
theorem vals_at (x : Nat → Int) {j : Nat} (hj : j < 17) : (vals x (List.range 17))[j]? = some (.int .i64 (x (of_ j))) := by
  unfold vals; rw [List.getElem?_map, List.getElem?_range hj]; rfl
/-- What lies between two rounds of the second loop. -/
structure L2 (x s : Nat → Int) (w W2 W6 : World) (gb capb D1 : Nat) (pre : List Nat) (W : World) : Prop where
  st : StAt 25 W w.heap.size (sm x (smv x s) pre)
  zero : StAt 25 W (w.heap.size + 2) v0
  row : ∀ j, j < 17 → W.cell? ⟨gb, j, none⟩ = some (.int .i64 (x (of_ j)))
  box : ∃ u, W.heap[W2.heap.size]? = some (.cells #[u] 42 (0, 0)) ∧ (pre.length < 17 → u = .slice (some ⟨gb, pre.length, none⟩) (17 - pre.length) (capb - pre.length))
  def_ : W.heap[D1]? = some (.deferred (some []))
  below : Below w.heap.size w W
  size : W6.heap.size ≤ W.heap.size
theorem L2.kept {x s : Nat → Int} {w W2 W6 A B : World} {gb capb D1 : Nat} {pre : List Nat} {row : Option Nat} (h : L2 x s w W2 W6 gb capb D1 pre A) (hg : A.grownBy B row) (hm : w.heap.size ≤ W6.heap.size) (hD : D1 < W6.heap.size) (hr : ∀ r, row = some r → W6.heap.size ≤ r ∧ ∃ o : Obj, A.heap[r]? = some o ∧ o.isCells = false) : L2 x s w W2 W6 gb capb D1 pre B := by
  have hr2 := fun r e => (hr r e).2
  obtain ⟨u, hb, hu⟩ := h.box
  exact ⟨cells_kept h.st hg hr2, cells_kept h.zero hg hr2, fun j hj => cell_kept (h.row j hj) hg hr2, ⟨u, cells_kept hb hg hr2, hu⟩, (hg.block D1 (Array.getElem?_eq_some_iff.1 h.def_).1 (fun e => by have := (hr D1 e.symm).1; omega)).trans h.def_, below_own h.below hg hm (fun r e => (hr r e).1), Nat.le_trans h.size hg.size⟩
theorem L2.step {x s : Nat → Int} {w W2 W6 W w' : World} {gb capb D1 nq : Nat} {pre : List Nat} {j bx g : Nat} {u u' : Value} (h : L2 x s w W2 W6 gb capb D1 pre W) (hS : StAt 25 w' w.heap.size (sm x (smv x s) (pre ++ [j]))) (hK : Kb w.heap.size (W.drewN nq) w')
    (hb : w'.heap[W2.heap.size]? = some (.cells #[u] 42 (0, 0))) (hu : pre.length + 1 < 17 → u' = .slice (some ⟨gb, pre.length + 1, none⟩) (17 - (pre.length + 1)) (capb - (pre.length + 1))) (hl : (pre ++ [j]).length = pre.length + 1) (h2 : w.heap.size + 3 ≤ W2.heap.size) (_ : W2.heap.size < W6.heap.size) (ng : gb ≠ W2.heap.size) (ng0 : w.heap.size + 3 ≤ gb) (nd : W2.heap.size < D1) (hbx : W2.heap.size < bx) (hg : W2.heap.size < g) (hbx2 : bx < W6.heap.size) (hg2 : g < W6.heap.size) :
    KeepsFrom W6.heap.size W (w'.setCell ⟨W2.heap.size, 0, none⟩ u') ∧ Kt bx g W (w'.setCell ⟨W2.heap.size, 0, none⟩ u') ∧ L2 x s w W2 W6 gb capb D1 (pre ++ [j]) (w'.setCell ⟨W2.heap.size, 0, none⟩ u') := by
  have hs := h.size
  have hsz : W.heap.size ≤ w'.heap.size := hK.size
  have hk2 : ∀ k u, k < W.heap.size → k ≠ W2.heap.size → k ≠ w.heap.size → (w'.setCell ⟨W2.heap.size, 0, none⟩ u).heap[k]? = W.heap[k]? := fun k u h1 h2 h3 => (heap_setCell_other w' ⟨W2.heap.size, 0, none⟩ k u h2).trans (hK.block k h1 h3)
  have hD := (Array.getElem?_eq_some_iff.1 h.def_).1
  refine ⟨?_, ⟨by simp [World.setCell]; exact hsz, hk2 bx u' (by omega) (by omega) (by omega), hk2 g u' (by omega) (by omega) (by omega)⟩, ⟨?_, (hk2 _ u' (by omega) (by omega) (by omega)).trans h.zero, fun i hi => ?_, ⟨u', ?_, fun hlt => ?_⟩, (hk2 D1 u' hD (by omega) (by omega)).trans h.def_, ?_, ?_⟩⟩
  · refine KeepsOthers.from ((⟨hsz, fun k o hk ho => ?_⟩ : KeepsOthers W w').trans (KeepsOthers.setCell _ _ _)) _
    refine (hK.block k (Array.getElem?_eq_some_iff.1 hk).1 (fun e => ?_)).trans hk
    subst e
    have := h.st
    unfold StAt at this
    rw [this] at hk
    obtain rfl := Option.some.inj hk
    cases ho
  · exact (heap_setCell_other w' ⟨W2.heap.size, 0, none⟩ w.heap.size u' (by show _ ≠ W2.heap.size; omega)).trans hS
  · have := h.row i hi
    have hl2 := block_lt_of_cell this
    rw [← this]
    exact World.cell?_of_block (hk2 gb u' hl2 ng (by omega))
  · exact heap_setCell_same w' W2.heap.size 0 _ 42 u' hb
  · rw [hl] at hlt ⊢; exact hu hlt
  · exact ((h.below.trans (below_drewN (Below.refl _ _) nq)).trans ⟨hK.os, hK.tape, hK.output, hK.size, fun k hk => hK.block k (by have := h.below.size; show k < W.heap.size; omega) (by omega)⟩).setCell (p := ⟨W2.heap.size, 0, none⟩) (by show _ ≤ W2.heap.size; omega) _
  · simp [World.setCell]; omega
theorem inList_load_row {F : Fence} {n : Nat} {P : Program} {ops : Array Oper} {rest : List Oper} {o : Oper} {a : Act} {w : World} {Q : Exit → Act → World → Prop} (hgd : o.guard = none) (ty : TypeId) (x : Operand) (ho : o.op = .load ty x)
    (g : Nat) (hx : a.eval x = .pointer (some ⟨g, 0, none⟩)) (t : TypeId) (cs : Array Value) (fr : Nat × Nat) (d : TypeDesc) (hg : w.heap[g]? = some (.cells cs t fr))
    (hu : P.underlying ty = some d) (hd : (match d with | .struct _ | .array _ _ => true | _ => false) = true) (hi : (P.info? ty).map (·.size) = some cs.size)
    (h : wpListIn F n P ops Q rest (a.put o.dst (.agg cs)) w) : wpListIn F n P ops Q (o :: rest) a w :=
  wpListIn_plain hgd fun _ hK => by
    unfold Oper.wpIn
    refine ⟨by simp [Oper.about, ho], ?_⟩
    rw [Oper.semAt_plain F _ _ (by rw [ho]; intro c hc'; cases hc')]
    unfold execOp
    simp only [ho, hx, Instr.loadAt, Instr.sureAddr, Sem.run_bind, Sem.run_pure, Result.andThen_ok, run_loadVar_row w g t ty cs fr d hg hu hd hi]
    exact hK _ _ h
theorem inList_store_row {F : Fence} {n : Nat} {P : Program} {ops : Array Oper} {rest : List Oper} {o : Oper} {a : Act} {w : World} {Q : Exit → Act → World → Prop} (hgd : o.guard = none) (ty : TypeId) (x y : Operand) (ho : o.op = .store ty x y)
    (g : Nat) (cells : Array Value) (hx : a.eval x = .pointer (some ⟨g, 0, none⟩)) (hy : a.eval y = .agg cells)
    (t : TypeId) (old : Array Value) (hg : w.heap[g]? = some (.cells old t (0, 0))) (hi : (P.info? ty).map (·.size) = some cells.size)
    (hold : old.size = cells.size) (h1 : cells.all (·.oneCell') = true)
    (h : wpListIn F n P ops Q rest (a.put o.dst undef) (w.setRow g cells)) : wpListIn F n P ops Q (o :: rest) a w :=
  wpListIn_plain hgd fun _ hK => by
    unfold Oper.wpIn
    refine ⟨by simp [Oper.about, ho], ?_⟩
    rw [Oper.semAt_plain F _ _ (by rw [ho]; intro c hc'; cases hc')]
    unfold execOp
    simp only [ho, hx, hy, Instr.storeAt, Instr.sureAddr, Sem.run_bind, Sem.run_pure, Result.andThen_ok, run_storeVar_row w g t ty old cells hg hi hold h1]
    exact hK _ _ h
set_option maxRecDepth 100000 in
set_option maxHeartbeats 4000000 in
theorem sum2_in (n : Nat) (hn : 4 ≤ n) (s x : Nat → Int) (w : World) :
    CallsIn Fence.wide n Tryd.prog 32 #[.agg (stC s), .agg (stC x)] w (SPost x s w) := by
  have h1 : 1 ≤ n := by omega
  have hro : Fence.wide.round = none := rfl
  obtain ⟨i0, hi, hz0, hz1, hz2⟩ := info_parts info3
  refine callsIn_of_wp_marks Tryd.func32 rfl trivial ?_ hro
  simp only [Tryd.ntmps32, List.size_toArray, List.length_cons, List.length_nil, Nat.reduceAdd, Nat.reduceSub, Array.replicate_succ, Array.replicate_zero, List.push_toArray, List.append_toArray, List.nil_append, List.cons_append]
  obtain ⟨W0, hW0⟩ : ∃ W0, W0 = ((w.alloc (.cells (stC s) 25)).alloc (.cells (stC x) 25)).alloc (.cells #[.int .i64 0, .int .i64 0, .int .i64 0, .int .i64 0, .int .i64 0, .int .i64 0, .int .i64 0, .int .i64 0, .int .i64 0, .int .i64 0, .int .i64 0, .int .i64 0, .int .i64 0, .int .i64 0, .int .i64 0, .int .i64 0, .int .i64 0, .int .i64 0, .int .i64 0] 25) := ⟨_, rfl⟩
  have HS0 : StAt 25 W0 w.heap.size s := by rw [hW0]; exact (StAt.new w s).below (((Below.refl _ _).alloc (Nat.le_refl _) _).alloc (by simp) _) (by simp)
  have HX0 : StAt 25 W0 (w.heap.size + 1) x := by
    have := StAt.new (w.alloc (.cells (stC s) 25)) x
    rw [World.size_alloc] at this
    rw [hW0]; exact this.below ((Below.refl _ _).alloc (Nat.le_refl _) _) (by simp)
  have HZ0 : StAt 25 W0 (w.heap.size + 2) v0 := by
    have := StAt.new ((w.alloc (.cells (stC s) 25)).alloc (.cells (stC x) 25)) v0
    rw [World.size_alloc, World.size_alloc] at this
    rw [hW0]; exact this
  have HB0 : Below w.heap.size w W0 := by rw [hW0]; exact (((Below.refl _ _).alloc (Nat.le_refl _) _).alloc (by simp) _).alloc (by simp; omega) _
  have hz0' : W0.heap.size = w.heap.size + 3 := by rw [hW0]; simp
  have c3 := HX0.cell (k := 3) (by omega)
  have HM1 := Lib.hid (HS0.more (k := 3) (by omega) (x 3))
  have HX0 := Lib.hid HX0
  have HZ0 := Lib.hid HZ0
  have HB0 := Lib.hid HB0
  have hZZ := Lib.hid hz0'
  rw [hW0] at c3
  have HW0 := Lib.hid hW0
  clear HS0 hz0' hW0
  gi_wp2_with fail
  refine ⟨trivial, ?_⟩
  rw [← HW0.out]
  refine (callsIn_wide.2 HM1.out).mono ?_
  rintro e W1 ⟨rfl, HS1, HK1⟩
  have HX1 := Lib.hid (HX0.out.kb HK1.out (by omega))
  have HZ1 := Lib.hid (HZ0.out.kb HK1.out (by omega))
  have HB1 := Lib.hid (kb_below HB0.out HK1.out (Nat.le_refl _) (by rw [hZZ.out]; omega))
  have hz1' := HK1.out.size
  rw [hZZ.out] at hz1'
  have c11 := HX1.out.cell (k := 11) (by omega)
  have HM2 := Lib.hid (HS1.out.more (k := 11) (by omega) (x 11))
  clear c3 HX0 HZ0 HB0 HW0 HM1 hZZ HK1 HS1
  gi_wp2_with fail
  refine ⟨trivial, ?_⟩
  refine (callsIn_wide.2 (show Calls _ _ _ _ _ from HM2.out)).mono ?_
  rintro e W2 ⟨rfl, HS2, HK2⟩
  have HX2 := Lib.hid (HX1.out.kb HK2.out (by omega))
  have HZ2 := Lib.hid (HZ1.out.kb HK2.out (by omega))
  have HB2 := Lib.hid (kb_below HB1.out HK2.out (Nat.le_refl _) (by omega))
  have hz2' := HK2.out.size
  clear HX1 HZ1 HB1 HM2 HK2 c11
  have HSM := Lib.hid (show upd (upd s 3 (ad (s 3) (x 3))) 11 (ad (upd s 3 (ad (s 3) (x 3)) 11) (x 11)) = smv x s from rfl)
  rw [HSM.out] at HS2
  clear HSM
  -- the box for the values
  have BA := (Below.refl W2.heap.size W2).alloc (Nat.le_refl _) (.cells #[.slice none 0 0] 42)
  have HS3 := Lib.hid (HS2.out.below BA (by omega))
  have HX3 := Lib.hid (HX2.out.below BA (by omega))
  have HZ3 := Lib.hid (HZ2.out.below BA (by omega))
  have HB3 := Lib.hid (HB2.out.alloc (by omega) (.cells #[.slice none 0 0] 42))
  have HY3 := Lib.hid (heap_alloc_new W2 (.cells #[.slice none 0 0] 42))
  have HT := Lib.hid (table_any HX3.out)
  clear BA HS2 HX2 HZ2 HB2
  gi_wp2_with fail
  refine ⟨trivial, ?_⟩
  refine (callsIn_wide.2 (show Calls _ _ _ _ _ from HT.out)).mono ?_
  rintro e W4 ⟨bx, rfl, hT⟩
  obtain ⟨g, cap, hRd, hbx, hg, hBt⟩ := hT.rd
  rw [World.size_alloc] at hbx hg
  have hz4' := hBt.size
  rw [World.size_alloc] at hz4'
  have HS4 := Lib.hid (HS3.out.below hBt (by simp; omega))
  have HX4 := Lib.hid (HX3.out.below hBt (by simp; omega))
  have HZ4 := Lib.hid (HZ3.out.below hBt (by simp; omega))
  have HY4 := Lib.hid ((hBt.block W2.heap.size (by simp)).trans HY3.out)
  have HB4 := Lib.hid (HB3.out.trans (hBt.mono (by simp; omega)))
  have HRd := Lib.hid hRd
  have hlt := block_lt_of_cell hRd.box
  have hlt2 := block_lt_of_cell (hRd.at0 0 (by omega))
  clear hT hRd hBt HT HS3 HX3 HZ3 HY3 HB3
  gi_wp2_with fail
  refine wpIn_rangeFunc_ownH hro h1 (gf := 39) (lb := #[.pointer (some ⟨bx, 0, none⟩)]) rfl trivial (enters_of Tryd.func39 (by kernel_rfl) rfl)
    (table_stops Fence.wide (n - 1) trivial hro (by omega) bx g cap (w.heap.size + 1) W4 HRd.out) Kt.trans (Kt.putObj hlt hlt2) (Below.refl _ _) (fun _ => rfl)
    (fun pre W => L1 x s w W2 W4 pre W)
    (fun _ _ _ => False)
    (fun pre A B row hs hgr hr => hs.kept hgr (by omega) hr)
    (fun _ _ _ _ _ hs _ _ => hs.elim)
    ⟨⟨_, HY4, World.ownsRow_nil _ _ _ _⟩, HS4, HX4, HZ4, HB4, Nat.le_refl _⟩
    (fun j a' W => ∃ B3, Hid (Ent (w.heap.size + 1) W4.heap.size j B3 W) ∧ a' = { tmps := #[.agg (stC s), .agg (stC x), .pointer (some ⟨w.heap.size, 0, none⟩), .pointer (some ⟨w.heap.size + 1, 0, none⟩), .pointer (some ⟨w.heap.size + 1 + 1, 0, none⟩), .pointer (some ⟨W2.heap.size, 0, none⟩), .pointer (some ⟨B3, 0, none⟩), undef, .pointer (some ⟨w.heap.size, 3, none⟩), .pointer (some ⟨w.heap.size, 3, none⟩), .pointer (some ⟨w.heap.size + 1, 3, none⟩), .pointer (some ⟨w.heap.size + 1, 3, none⟩), .int .i64 (x 3), .tuple #[], .pointer (some ⟨w.heap.size, 11, none⟩), .pointer (some ⟨w.heap.size, 11, none⟩), .pointer (some ⟨w.heap.size + 1, 11, none⟩), .pointer (some ⟨w.heap.size + 1, 11, none⟩), .int .i64 (x 11), .tuple #[], .func (.func 39) #[] #[.pointer (some ⟨bx, 0, none⟩)], .agg #[.string (wd j), .pointer (some ⟨w.heap.size + 1, of_ j, none⟩)], undef, undef, undef, undef, undef, undef, undef, undef, undef, undef, undef, undef, undef, undef, undef, undef, undef, undef], defers := [] })
    (fun j a' _ A B row hs hgr hr => by obtain ⟨B3, hE, ha⟩ := hs; exact ⟨B3, ⟨hE.out.1, cells_kept hE.out.2 hgr (fun r e => (hr r e).2)⟩, ha⟩)
    ?assign ?body ?done ?stop
  case assign =>
    rintro l pre j W K hI hK
    have HE := Lib.hid (heap_alloc_new W (.cells #[.string (wd j), .pointer (some ⟨w.heap.size + 1, of_ j, none⟩)] 63))
    have hz := hI.2.2.2.2.2
    gi_wp2
    exact hK _ _ ((KeepsOthers.alloc _ _).from _) (Kt.grown (grow_alloc _ _) (by omega) (by omega)) (hI.kept (grow_alloc _ _) (by omega) (fun r e => by cases e)) ⟨_, ⟨hz, HE.out⟩, rfl⟩
  case body =>
    rintro l pre j a' W hl ⟨r, hr⟩ ⟨⟨v, hBox, hOwn⟩, hS, hX, hZ, hB, hz⟩ ⟨B3, hE, rfl⟩ hlen
    have HR := Lib.hid hr
    clear hr
    have F1 := lies_cell (show W.cell? ⟨W2.heap.size, 0, none⟩ = some v from (cell_of_block hBox.out).trans rfl)
    have F2 := lies_cell (show W.cell? ⟨B3, 1, none⟩ = some (.pointer (some ⟨w.heap.size + 1, of_ j, none⟩)) from (cell_of_block hE.out.2).trans rfl)
    have F3 := lies_cell (hX.out.cell (of_lt j))
    gi_wp2_with fail
    refine round_late 5 (by kernel_rfl) (by kernel_rfl) rfl rfl ?_
    simp only [List.take_succ_cons, List.take_zero, List.drop_succ_cons, List.drop_zero]
    repeat (go_big_quiet_step (fail))
    refine wpQuiet_nil ?_
    rintro w' ⟨xw, rfl⟩
    obtain ⟨V, hBV⟩ := xw
    simp only [] at *
    refine ⟨.slice (some ⟨V.heap.size, 0, none⟩) 1 1, V.alloc (.cells #[.int .i64 (x (of_ j))] 3), ?_, ⟨⟨_, hBV.alloc hBV.size _⟩, rfl⟩, ?_⟩
    · go_simp
    clear F1 F2 F3
    have hzV := hBV.size
    have HOV := Lib.hid ((own_below hOwn.out hBV).alloc (.cells #[.int .i64 (x (of_ j))] 3))
    have HBV := Lib.hid hBV
    have HVB := Lib.hid (((Below.refl V.heap.size V).alloc (Nat.le_refl _) (.cells #[.int .i64 (x (of_ j))] 3)).block W2.heap.size (by omega) |>.trans ((hBV.block W2.heap.size (by omega)).trans hBox.out))
    have HNE := Lib.hid (show some W2.heap.size ≠ v.ownBlock from fun e => by have := (hOwn.out.lt _ e.symm).1; omega)
    clear hBV
    gi_wp2_with (gi_at_builtin; refine wpListIn_append_own _ rfl (.tmp 22) (.tmp 27) 42 rfl W4.heap.size 3 i0 (.int .i64 0) 1 8 Tryd.underlying42 hi hz0 hz1 hz2 rfl (by decide) v pre.length (vals x pre) rfl HOV.out ⟨V.heap.size, 0, none⟩ 1 1 [.int .i64 (x (of_ j))] rfl rfl (cell_one_new _ _ _) (by simp [Value.oneCell']) (by unfold maxLen; omega) (by omega) (by simp; omega) ?_; intro v' w6 hown' hgrow _; obtain ⟨g', cap', rfl⟩ := ownsRow_succ hown'; have hb6 : w6.heap[W2.heap.size]? = some (.cells #[v] 42 (0, 0)) := (hgrow.block W2.heap.size (by simp; omega) HNE.out).trans HVB.out; have hc6 : w6.cell? ⟨W2.heap.size, 0, none⟩ = some v := (cell_of_block hb6).trans rfl; have hf6 : w6.frozen? ⟨W2.heap.size, 0, none⟩ = false := frozen_of_block hb6; have HO6 := Lib.hid hown'; have HG6 := Lib.hid hgrow; clear hown' hgrow hb6)
    exact L1.step hBox.out hOwn.out hS.out hX.out hZ.out hB.out hz HBV.out HO6.out HG6.out (by omega) (by omega) (by omega) (by omega) (by omega) (by omega)
  case done =>
    rintro D1 ys W5 hD1 rfl ⟨⟨v, hBox, hOwn⟩, hS, hX, hZ, hB, hz⟩ hK1
    have hown := hOwn.out
    rw [List.length_range] at hown
    obtain ⟨gb, capb, rfl⟩ := ownsRow_succ hown
    have hgb := hown.lt gb rfl
    have hcap : 17 ≤ capb := by
      rcases hown.2 with ⟨h, _⟩ | ⟨g', c', cur, hv, _, _, hn, _⟩
      · cases h
      · injection hv with _ _ e; omega
    have HC := Lib.hid (fun j (hj : j < 17) => (hown.cellAt j (by omega)).trans (vals_at x hj))
    have HK1 := Lib.hid hK1
    have HT := Lib.hid (table_any hS.out)
    have hD1' := (Array.getElem?_eq_some_iff.1 hK1).1
    clear hown hOwn hK1
    gi_wp2_with fail
    refine ⟨trivial, ?_⟩
    refine (callsIn_wide.2 (show Calls _ _ _ _ _ from HT.out)).mono ?_
    rintro e W6 ⟨bx2, rfl, hT⟩
    obtain ⟨g2, cap2, hRd2, hbx2, hg2, hBt⟩ := hT.rd
    have hz6 := hBt.size
    have HRd2 := Lib.hid hRd2
    have hlt3 := block_lt_of_cell hRd2.box
    have hlt4 := block_lt_of_cell (hRd2.at0 0 (by omega))
    have HI6 := Lib.hid (show L2 x s w W2 W6 gb capb D1 [] W6 from ⟨hS.out.below hBt (by omega), hZ.out.below hBt (by omega), fun j hj => (hBt.cell (p := ⟨gb, j, none⟩) (by show gb < _; omega)).trans (HC.out j hj), ⟨_, (hBt.block _ (by omega)).trans hBox.out, fun _ => rfl⟩, (hBt.block _ hD1').trans HK1.out, hB.out.trans (hBt.mono (by omega)), Nat.le_refl _⟩)
    clear hT hRd2 hBt HT hBox hS hX hZ hB HC HK1
    gi_wp2_with fail
    refine wpIn_rangeFunc_ownH hro h1 (gf := 39) (lb := #[.pointer (some ⟨bx2, 0, none⟩)]) rfl trivial (enters_of Tryd.func39 (by kernel_rfl) rfl)
      (table_stops Fence.wide (n - 1) trivial hro (by omega) bx2 g2 cap2 w.heap.size W6 HRd2.out) Kt.trans (Kt.putObj hlt3 hlt4) (Below.refl _ _) (fun _ => rfl)
      (fun pre W => L2 x s w W2 W6 gb capb D1 pre W)
      (fun _ _ _ => False)
      (fun pre A B row hs hgr hr => hs.kept hgr (by omega) (by omega) hr)
      (fun _ _ _ _ _ hs _ _ => hs.elim)
      HI6.out
      (fun j a' W => ∃ B3, Hid (Ent w.heap.size W6.heap.size j B3 W) ∧ a' = { tmps := #[.agg (stC s), .agg (stC x), .pointer (some ⟨w.heap.size, 0, none⟩), .pointer (some ⟨w.heap.size + 1, 0, none⟩), .pointer (some ⟨w.heap.size + 1 + 1, 0, none⟩), .pointer (some ⟨W2.heap.size, 0, none⟩), undef, .pointer (some ⟨B3, 0, none⟩), .pointer (some ⟨w.heap.size, 3, none⟩), .pointer (some ⟨w.heap.size, 3, none⟩), .pointer (some ⟨w.heap.size + 1, 3, none⟩), .pointer (some ⟨w.heap.size + 1, 3, none⟩), .int .i64 (x 3), .tuple #[], .pointer (some ⟨w.heap.size, 11, none⟩), .pointer (some ⟨w.heap.size, 11, none⟩), .pointer (some ⟨w.heap.size + 1, 11, none⟩), .pointer (some ⟨w.heap.size + 1, 11, none⟩), .int .i64 (x 11), .tuple #[], .func (.func 39) #[] #[.pointer (some ⟨bx, 0, none⟩)], undef, undef, undef, undef, undef, undef, undef, undef, .func (.func 39) #[] #[.pointer (some ⟨bx2, 0, none⟩)], .agg #[.string (wd j), .pointer (some ⟨w.heap.size, of_ j, none⟩)], undef, undef, undef, undef, undef, undef, undef, undef, undef], defers := [] })
      (fun j a' _ A B row hs hgr hr => by obtain ⟨B3, hE, ha⟩ := hs; exact ⟨B3, ⟨hE.out.1, cells_kept hE.out.2 hgr (fun r e => (hr r e).2)⟩, ha⟩)
      ?assign2 ?body2 ?done2 ?stop2
    case assign2 =>
      rintro l pre j W K hI hK
      have HE := Lib.hid (heap_alloc_new W (.cells #[.string (wd j), .pointer (some ⟨w.heap.size, of_ j, none⟩)] 63))
      have hz := hI.size
      gi_wp2
      exact hK _ _ ((KeepsOthers.alloc _ _).from _) (Kt.grown (grow_alloc _ _) (by omega) (by omega)) (hI.kept (grow_alloc _ _) (by omega) (by omega) (fun r e => by cases e)) ⟨_, ⟨hz, HE.out⟩, rfl⟩
    case body2 =>
      rintro l pre j a' W hl ⟨r, hr⟩ hI ⟨B3, hE, rfl⟩ hlen
      obtain ⟨u, hbb, hu⟩ := hI.box
      obtain rfl := hu hlen
      have HR := Lib.hid hr
      have HI := Lib.hid hI
      have HBB := Lib.hid hbb
      have hzI := hI.size
      have d1 : W.cell? ⟨W2.heap.size, 0, none⟩ = some (.slice (some ⟨gb, pre.length, none⟩) (17 - pre.length) (capb - pre.length)) := (cell_of_block hbb).trans rfl
      have e1 : W.cell? ⟨B3, 1, none⟩ = some (.pointer (some ⟨w.heap.size, of_ j, none⟩)) := (cell_of_block hE.out.2).trans rfl
      have r1 := hI.row pre.length hlen
      have HM := Lib.hid fun q => (show StAt 25 (W.drewN q) w.heap.size (sm x (smv x s) pre) from hI.st).more (k := of_ j) (of_lt j) (x (of_ pre.length))
      have HSN := Lib.hid (sm_snoc x (smv x s) pre j)
      have HLN := Lib.hid (show (pre ++ [j]).length = pre.length + 1 by simp)
      rw [← HSN.out] at HM
      clear hr hI hbb hu
      have q1 : (0 : Int) < ((17 - pre.length : Nat) : Int) := by omega
      have q2 : decide (0 < 17 - pre.length) = true := by simp; omega
      have q3 : 1 ≤ 17 - pre.length := by omega
      have q4 : 17 - pre.length ≤ capb - pre.length := by omega
      gi_wp2_with fail
      refine round_quiet_tail 5 (by kernel_rfl) (by kernel_rfl) (by kernel_rfl) ?_
      simp only [List.take_succ_cons, List.take_zero, List.drop_succ_cons, List.drop_zero]
      repeat (go_big_quiet_step (fail))
      refine wpQuiet_nil ?_
      intro _ hw'
      obtain ⟨nq, rfl⟩ := hw'
      gi_wp2_with (refine ⟨trivial, fun _ => (by omega), ?_⟩; gi_at_call 33; refine (CallsIn.inRound l (callsIn_wide.2 (HM.out nq))).mono ?_; rintro e w' ⟨rfl, HS', HK'⟩; have hb6 : w'.heap[W2.heap.size]? = some (.cells #[.slice (some ⟨gb, pre.length, none⟩) (17 - pre.length) (capb - pre.length)] 42 (0, 0)) := (HK'.out.block W2.heap.size (by show _ < W.heap.size; omega) (by omega)).trans HBB.out; have hc6 : w'.cell? ⟨W2.heap.size, 0, none⟩ = some (.slice (some ⟨gb, pre.length, none⟩) (17 - pre.length) (capb - pre.length)) := (cell_of_block hb6).trans rfl; have hf6 : w'.frozen? ⟨W2.heap.size, 0, none⟩ = false := frozen_of_block hb6; have HB6 := Lib.hid hb6; clear hb6)
      · have hcc : capb - pre.length = 1 := by assumption
        exact L2.step HI.out HS'.out HK'.out HB6.out (fun h => by omega) (by rw [HLN.out]) (by omega) (by omega) (by omega) (by omega) (by omega) (by omega) (by omega) (by omega) (by omega)
      · exact L2.step HI.out HS'.out HK'.out HB6.out (fun h => by rw [Nat.sub_sub, Nat.sub_sub]) (by rw [HLN.out]) (by omega) (by omega) (by omega) (by omega) (by omega) (by omega) (by omega) (by omega) (by omega)
    case done2 =>
      rintro D2 ys W7 hD2 rfl hI hK2
      have HS := Lib.hid hI.st
      have HZ := Lib.hid hI.zero
      have HB := Lib.hid hI.below
      have HD := Lib.hid hI.def_
      have HK2 := Lib.hid hK2
      have hzz := hI.zero.lt
      clear hI hK2
      have HE := Lib.hid (sm_all x s)
      gi_wp2_with (first | (refine inList_load_row rfl 25 (.tmp 2) rfl w.heap.size rfl 25 (stC (sm x (smv x s) (List.range 17))) (0, 0) _ HS.out Tryd.underlying25 rfl info25 ?_) | (refine inList_store_row rfl 25 (.tmp 4) (.tmp 39) rfl (w.heap.size + 1 + 1) (stC (sm x (smv x s) (List.range 17))) rfl rfl 25 (stC v0) HZ.out info25 rfl (stC_one _) ?_))
      have hz := (setRow_heap W7 (w.heap.size + 1 + 1) (stC v0) (stC (sm x (smv x s) (List.range 17))) 25 (0, 0) HZ.out)
      have k2 : (W7.setRow (w.heap.size + 1 + 1) (stC (sm x (smv x s) (List.range 17)))).heap[D2]? = some (.deferred (some [])) := (setRow_other _ _ D2 _ (by omega)).trans HK2.out
      have k1 : ((W7.setRow (w.heap.size + 1 + 1) (stC (sm x (smv x s) (List.range 17)))).putObj D2 (.deferred none)).heap[D1]? = some (.deferred (some [])) := (World.putObj_heap_other (by omega)).trans ((setRow_other _ _ D1 _ (by omega)).trans HD.out)
      have kz : (((W7.setRow (w.heap.size + 1 + 1) (stC (sm x (smv x s) (List.range 17)))).putObj D2 (.deferred none)).putObj D1 (.deferred none)).heap[w.heap.size + 1 + 1]? = some (.cells (stC (sm x (smv x s) (List.range 17))) 25 (0, 0)) := (World.putObj_heap_other (by omega)).trans ((World.putObj_heap_other (by omega)).trans hz)
      refine ⟨by simp, .inl ⟨_, _, rfl, run_takeDeferred k2, ?_⟩⟩
      refine ⟨by simp, .inl ⟨_, _, rfl, run_takeDeferred k1, ?_⟩⟩
      refine ⟨.agg (stC (sm x (smv x s) (List.range 17))), results_cell_row rfl _ _ _ _ _ _ _ rfl kz Tryd.underlying25 rfl info25, by rw [HE.out], ?_⟩
      exact ((below_setRow HB.out (by omega)).trans (belowK_b (w := w) (Nat.le_refl _) _ D2 _ (.deferred none) (by omega) k2 rfl rfl)).trans (belowK_b (w := w) (Nat.le_refl _) _ D1 _ (.deferred none) (by omega) k1 rfl rfl)
    case stop2 =>
      rintro D c pre W _ _ h _
      exact h.elim
  case stop =>
    rintro D c pre W _ _ h _
    exact h.elim
theorem sum2_any (s x : Nat → Int) (w : World) : Calls Tryd.prog 32 #[.agg (stC s), .agg (stC x)] w fun e W' => e = .returned (.agg (stC (sumV s x))) ∧ Below w.heap.size w W' :=
  (callsIn_wide (n := 4)).1 (sum2_in 4 (Nat.le_refl _) s x w)
end Go.Proofs.YtfojhmobnedekaaDoor
