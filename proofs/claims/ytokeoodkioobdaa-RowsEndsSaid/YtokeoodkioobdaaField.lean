/- The walks of the field's own functions: New, is, Add, Mul, Inv, Div, Exp, Log, Pow. Conditions: bytes are below 256, numbers are an int64's. -/
import Derived.Test.YtokeoodkioobdaaMade
import Derived.Great.FillDense
namespace Go.Proofs.Ytokeoodkioobdaa
open Go.RowKit

/-- A struct of a great first part and a small second one, built. -/
theorem built_two {P : Program} {t : TypeId} {it : TypeInfo} {fs : Array Field} {z cs : Array Value} {v : Value} {n : Nat} (hi : P.info? t = some it) (hz : it.zero = some (.agg z))
    (hu : P.underlying t = some (.struct fs)) (hp : fs.toList.mapM (fun f => (P.info? f.type).map fun i => (f.offset, i.size)) = some [(0, n), (n, 1)])
    (hzs : z.size = n + 1) (hcs : cs.size = n) (hv : v.cells = #[v]) : P.built t [(0, .agg cs), (1, v)] = some (cs.push v) := by
  obtain ⟨h1, h2⟩ := Go.Great.foldl_set 0 cs.toList 0 z
  have e0 : (Value.agg cs).cells = cs := rfl
  unfold Program.built
  rw [hi, hu]
  simp only [hz, hp]
  unfold Instr.fill
  have g0 : [(0, n), (n, 1)].toArray[0]? = some (0, n) := rfl
  simp only [g0, e0, hcs]
  have ez : (Value.agg z).cells = z := rfl
  rw [ez]
  rw [if_neg (by simp [hzs])]
  have e1 : Array.foldl (fun cs (x : Value × Nat) => match x with | (c, j) => cs.setIfInBounds (0 + j) c) z cs.zipIdx = (cs.toList.zipIdx 0).foldl (fun cs (x : Value × Nat) => cs.setIfInBounds (0 + x.2) x.1) z := by
    rw [← Array.foldl_toList, Array.toList_zipIdx]
  rw [e1]
  generalize (cs.toList.zipIdx 0).foldl (fun cs (x : Value × Nat) => cs.setIfInBounds (0 + x.2) x.1) z = r at h1 h2 ⊢
  unfold Instr.fill
  have g1 : [(0, n), (n, 1)].toArray[1]? = some (n, 1) := rfl
  simp only [g1, hv]
  rw [if_neg (by simp [h1, hzs])]
  unfold Instr.fill
  congr 1
  apply Array.ext_getElem?
  intro i
  have e2 : Array.foldl (fun cs (x : Value × Nat) => match x with | (c, j) => cs.setIfInBounds (n + j) c) r #[v].zipIdx = r.setIfInBounds n v := by
    rw [← Array.foldl_toList, Array.toList_zipIdx]; rfl
  rw [e2]
  rw [Array.getElem?_setIfInBounds, h2 i, h1, hzs, Array.getElem?_push, hcs]
  by_cases hi : i = n
  · subst hi; rw [if_pos rfl, if_pos (by omega), if_pos rfl]
  · rw [if_neg (fun e => hi e.symm), if_neg hi]
    by_cases hlt : i < n
    · rw [if_pos (by simp [hcs]; omega)]; simp
    · rw [if_neg (by simp [hcs]; omega)]
      have e1 : z[i]? = none := by simp [hzs]; omega
      have e2 : cs[i]? = none := by simp [hcs]; omega
      rw [e1, e2]

/-- What stands in a field that was made. -/
def fcells : Array Value := (tab 255).push (.bool true)
theorem info79 : (Try.prog.info? 79).map (fun i => i.zero) = some (some (.agg Try.zeroCells79)) := by kernel_rfl
theorem places79 : [({ name := "tables", type := 76, offset := 0, embedded := true, tag := "", pkgPath := "hourglass/field", byteOffset := 0 } : Field), { name := "there", type := 4, offset := 766, embedded := false, tag := "", pkgPath := "hourglass/field", byteOffset := 766 }].mapM (fun f => (Try.prog.info? f.type).map fun i => (f.offset, i.size)) = some [(0, 766), (766, 1)] := by kernel_rfl
theorem size79 : Try.zeroCells79.size = 766 + 1 := by kernel_rfl
theorem built79 : Try.prog.built 79 [(0, .agg (tab 255)), (1, .bool true)] = some fcells := by
  have h := info79
  cases hi : Try.prog.info? 79 with
  | none => rw [hi] at h; cases h
  | some it =>
    rw [hi] at h
    have hz : it.zero = some (.agg Try.zeroCells79) := by simpa using h
    exact built_two hi hz Try.underlying79 places79 size79 (size_tab 255) rfl
theorem fc_get (i : Nat) (h : i < 766) : fcells[i]? = some (.int .u8 (F 255 i : Nat)) := by
  unfold fcells; rw [Array.getElem?_push_lt (by rw [size_tab]; exact h), ← tab_get 255 i h]; simp [size_tab, h]
theorem fc_there : fcells[766]? = some (.bool true) := by
  have := Array.getElem?_push_size (xs := tab 255) (x := Value.bool true)
  rw [size_tab] at this; exact this
theorem size_fc : fcells.size = 767 := by simp [fcells, size_tab]

theorem info_fc {C : Array Value} (h : Hid (C = fcells)) : (Try.prog.info? 79).map (·.size) = some C.size := by rw [h.out, size_fc]; kernel_rfl
theorem fc_one {C : Array Value} (h : Hid (C = fcells)) : C.all (·.oneCell') = true := by
  rw [h.out]; unfold fcells; rw [Array.all_push, tab_one]; rfl
/-- field.made, its tables under a name that the walk does not look behind. -/
theorem made_hid (w : World) : Calls Try.prog 86 #[] w fun e w' => ∃ T, Hid (T = tab 255) ∧ e = .returned (.agg T) ∧ Below w.heap.size w w' :=
  (made_any w).mono fun _ _ ⟨h1, h2⟩ => ⟨_, rfl, h1, h2⟩

theorem built_at {P : Program} {t : TypeId} {l l' : List (Nat × Value)} {C : Array Value} (h : P.built t l = some C) (e : l' = l) : P.built t l' = some C := by rw [e]; exact h
theorem built_hid {T : Array Value} (h : Hid (T = tab 255)) : ∃ C, Try.prog.built 79 [(0, .agg T), (1, .bool true)] = some C ∧ Hid (C = fcells) :=
  ⟨fcells, by rw [h.out]; exact built79, Lib.hid (Eq.refl fcells)⟩

/-- At block b stands a field that was made. -/
def IsF (w : World) (b : Nat) : Prop := w.heap[b]? = some (.cells fcells 79 (0, 0))
theorem IsF.lt {w : World} {b : Nat} (h : IsF w b) : b < w.heap.size := lt_of_block h
theorem IsF.below {w w' : World} {b : Nat} (h : IsF w b) {B : Nat} (hB : Below B w w') (hb : b < B) : IsF w' b := (hB.block b hb).trans h
theorem IsF.drewN {w : World} {b : Nat} (h : IsF w b) (n : Nat) : IsF (w.drewN n) b := h
theorem IsF.there {w : World} {b : Nat} (h : IsF w b) : w.cell? ⟨b, 766, none⟩ = some (.bool true) := (cell_of_block h).trans fc_there
theorem IsF.exp {w : World} {b : Nat} (h : IsF w b) (i : Nat) (hi : i < 510) : w.cell? ⟨b, i, none⟩ = some (.int .u8 (Gf.ex i : Nat)) := by
  rw [cell_of_block h, fc_get i (by omega)]
  unfold F; rw [if_pos hi, if_pos (by omega)]
theorem IsF.log {w : World} {b : Nat} (h : IsF w b) (a : Nat) (ha : a < 256) (h0 : a ≠ 0) : w.cell? ⟨b, 510 + a, none⟩ = some (.int .u8 (Gf.lg a : Nat)) := by
  rw [cell_of_block h, fc_get (510 + a) (by omega)]
  unfold F; rw [if_neg (by omega), if_neg (by omega), Nat.add_sub_cancel_left, if_pos (Gf.lg_lt ha h0)]

/-- field.New: a field in a new block. -/
theorem new_any (w : World) : Calls Try.prog 22 #[] w fun e w' => ∃ b, e = .returned (.pointer (some ⟨b, 0, none⟩)) ∧ w.heap.size ≤ b ∧ IsF w' b ∧ Below w.heap.size w w' := by
  go_enter Try.func22, Try.ntmps22
  go_wp2_with fail
  refine (made_hid _).mono ?_
  rintro e w1 ⟨T, HT, rfl, hB⟩
  obtain ⟨C, hC, HC⟩ := built_hid HT
  have HB := Lib.hid hB
  have HK := Lib.hid hC
  clear hB hC
  go_wp2_with (first | (refine wpList_buildTo rfl 79 #[(0, .tmp 1), (1, .const (.bool true))] rfl (some 2) rfl C ?_ ?_; (simp [Act.eval]; exact HK.out)) | (refine wpList_boxTo rfl 79 (.tmp 2) rfl (some 3) rfl w1.heap.size rfl C rfl ?_))
  go_ret
  exact ⟨_, rfl, HB.out.size, by rw [HC.out]; exact heap_alloc_new _ _, HB.out.alloc HB.out.size _⟩

theorem is_any {w : World} {b : Nat} {t : Bool} (hc : w.cell? ⟨b, 766, none⟩ = some (.bool t)) : Calls Try.prog 87 #[.pointer (some ⟨b, 0, none⟩)] w fun e w' => e = .returned (.bool t) ∧ w = w' := by
  go_enter Try.func87, Try.ntmps87
  go_wp2
  go_ret
  exact ⟨rfl, rfl⟩
theorem is_nil (w : World) : Calls Try.prog 87 #[.pointer none] w fun e w' => e = .returned (.bool false) ∧ w = w' := by
  go_enter Try.func87, Try.ntmps87
  go_wp2
  go_ret
  exact ⟨rfl, rfl⟩

theorem add_any (a b : Nat) (ha : a < 256) (hb : b < 256) (w : World) : Calls Try.prog 24 #[.int .u8 a, .int .u8 b] w fun e w' => e = .returned (.int .u8 (a ^^^ b : Nat)) ∧ w = w' := by
  have hx := u8_xor_nat a b ha hb
  go_enter Try.func24, Try.ntmps24
  go_wp2
  go_ret
  exact ⟨rfl, rfl⟩

theorem mul_zl {w : World} {p b : Nat} (hf : IsF w p) : Calls Try.prog 23 #[.pointer (some ⟨p, 0, none⟩), .int .u8 (0 : Nat), .int .u8 b] w fun e w' => e = .returned (.int .u8 (0 : Nat)) ∧ w = w' := by
  have hc := hf.there
  go_enter Try.func23, Try.ntmps23
  go_wp2_with (go_at_call 87; refine (is_any hc).mono ?_; rintro e w' ⟨rfl, rfl⟩)
  go_ret
  exact ⟨rfl, rfl⟩
theorem mul_pos {w : World} {p a b : Nat} (hf : IsF w p) (ha : a < 256) (hb : b < 256) (a0 : a ≠ 0) (b0 : b ≠ 0) : Calls Try.prog 23 #[.pointer (some ⟨p, 0, none⟩), .int .u8 a, .int .u8 b] w fun e w' => e = .returned (.int .u8 (Gf.mul a b : Nat)) ∧ ∃ n, w' = w.drewN n := by
  have hc := hf.there
  have la := Gf.lg_lt ha a0
  have lb := Gf.lg_lt hb b0
  have h1 := hf.log a ha a0
  have h2 := hf.log b hb b0
  have h3 := hf.exp (Gf.lg a + Gf.lg b) (by omega)
  have e1 := Gf.mul_ex ha hb a0 b0
  rw [← e1] at h3
  clear e1
  have t1 : ((a : Int) == 0) = false := by simp; omega
  have t2 : ((b : Int) == 0) = false := by simp; omega
  generalize Gf.lg a = x at *
  generalize Gf.lg b = y at *
  generalize Gf.mul a b = r at *
  go_enter Try.func23, Try.ntmps23
  go_wp2_with (go_at_call 87; refine (is_any hc).mono ?_; rintro e w' ⟨rfl, rfl⟩)
  go_quiet (fail)
  go_wp2
  go_ret
  exact ⟨rfl, _, rfl⟩
theorem mul_zr {w : World} {p a : Nat} (hf : IsF w p) : Calls Try.prog 23 #[.pointer (some ⟨p, 0, none⟩), .int .u8 a, .int .u8 (0 : Nat)] w fun e w' => e = .returned (.int .u8 (0 : Nat)) ∧ w = w' := by
  by_cases a0 : a = 0
  · subst a0; exact mul_zl hf
  have hc := hf.there
  have t1 : ((a : Int) == 0) = false := by simp; omega
  go_enter Try.func23, Try.ntmps23
  go_wp2_with (go_at_call 87; refine (is_any hc).mono ?_; rintro e w' ⟨rfl, rfl⟩)
  go_ret
  exact ⟨rfl, rfl⟩
theorem mul_any {w : World} {p a b : Nat} (hf : IsF w p) (ha : a < 256) (hb : b < 256) : Calls Try.prog 23 #[.pointer (some ⟨p, 0, none⟩), .int .u8 a, .int .u8 b] w fun e w' => e = .returned (.int .u8 (Gf.mul a b : Nat)) ∧ ∃ n, w' = w.drewN n := by
  by_cases a0 : a = 0
  · subst a0; rw [Gf.zero_mul]; exact (mul_zl hf).mono fun _ _ ⟨h1, h2⟩ => ⟨h1, 0, h2.symm⟩
  · by_cases b0 : b = 0
    · subst b0; rw [Gf.mul_zero]; exact (mul_zr hf).mono fun _ _ ⟨h1, h2⟩ => ⟨h1, 0, h2.symm⟩
    · exact mul_pos hf ha hb a0 b0

theorem inv_zero {w : World} {p : Nat} (hf : IsF w p) : Calls Try.prog 26 #[.pointer (some ⟨p, 0, none⟩), .int .u8 (0 : Nat)] w fun e w' => e = .returned (.tuple #[.int .u8 (0 : Nat), .int .i64 6]) ∧ w = w' := by
  have hc := hf.there
  go_enter Try.func26, Try.ntmps26
  go_wp2_with (go_at_call 87; refine (is_any hc).mono ?_; rintro e w' ⟨rfl, rfl⟩)
  go_ret2
  exact ⟨rfl, rfl⟩
theorem inv_pos {w : World} {p a : Nat} (hf : IsF w p) (ha : a < 256) (a0 : a ≠ 0) : Calls Try.prog 26 #[.pointer (some ⟨p, 0, none⟩), .int .u8 a] w fun e w' => e = .returned (.tuple #[.int .u8 (Gf.inv a : Nat), .int .i64 0]) ∧ ∃ n, w' = w.drewN n := by
  have hc := hf.there
  have la := Gf.lg_lt ha a0
  have h1 := hf.log a ha a0
  have h3 := hf.exp (255 - Gf.lg a) (by omega)
  have e1 : Gf.inv a = Gf.ex (255 - Gf.lg a) := by unfold Gf.inv; rw [if_neg a0]
  rw [← e1] at h3
  clear e1
  have t1 : ((a : Int) == 0) = false := by simp; omega
  generalize Gf.lg a = x at *
  generalize Gf.inv a = r at *
  have t2 : ((255 : Int) - (x : Int)).toNat = 255 - x := by omega
  go_enter Try.func26, Try.ntmps26
  go_wp2_with (go_at_call 87; refine (is_any hc).mono ?_; rintro e w' ⟨rfl, rfl⟩)
  go_quiet (fail)
  go_wp2
  go_ret2
  exact ⟨rfl, _, rfl⟩
theorem inv_any {w : World} {p a : Nat} (hf : IsF w p) (ha : a < 256) : Calls Try.prog 26 #[.pointer (some ⟨p, 0, none⟩), .int .u8 a] w fun e w' => e = .returned (.tuple #[.int .u8 (Gf.inv a : Nat), .int .i64 (if a = 0 then 6 else 0)]) ∧ ∃ n, w' = w.drewN n := by
  by_cases a0 : a = 0
  · subst a0; exact (inv_zero hf).mono fun _ _ ⟨h1, h2⟩ => ⟨h1, 0, h2.symm⟩
  · rw [if_neg a0]; exact inv_pos hf ha a0

/-- The error of a division by b. -/
def zerr (b : Nat) : Int := if b = 0 then 6 else 0
theorem div_any {w : World} {p a b : Nat} (hf : IsF w p) (ha : a < 256) (hb : b < 256) : Calls Try.prog 25 #[.pointer (some ⟨p, 0, none⟩), .int .u8 a, .int .u8 b] w fun e w' => e = .returned (.tuple #[.int .u8 (Gf.mul a (Gf.inv b) : Nat), .int .i64 (zerr b)]) ∧ ∃ n, w' = w.drewN n := by
  have hv := (inv_any hf hb).mono (R' := fun e w' => e = .returned (.tuple #[.int .u8 (Gf.inv b : Nat), .int .i64 (zerr b)]) ∧ ∃ n, w' = w.drewN n) fun _ _ h => h
  have hl := Gf.inv_lt (a := b)
  generalize zerr b = z at *
  generalize Gf.inv b = v at *
  have HV := Lib.hid hv
  clear hv
  go_enter Try.func25, Try.ntmps25
  go_wp2_with (first | (go_at_call 26; refine HV.out.mono ?_; rintro e w' ⟨rfl, n, rfl⟩) | (go_at_call 23; refine (mul_any (hf.drewN _) ha hl).mono ?_; rintro e w' ⟨rfl, m, rfl⟩))
  go_ret2
  exact ⟨rfl, _, rfl⟩

theorem log_zero {w : World} {p : Nat} (hf : IsF w p) : Calls Try.prog 32 #[.pointer (some ⟨p, 0, none⟩), .int .u8 (0 : Nat)] w fun e w' => e = .returned (.tuple #[.int .i64 (0 : Nat), .int .i64 6]) ∧ w = w' := by
  have hc := hf.there
  go_enter Try.func32, Try.ntmps32
  go_wp2_with (go_at_call 87; refine (is_any hc).mono ?_; rintro e w' ⟨rfl, rfl⟩)
  go_ret2
  exact ⟨rfl, rfl⟩
theorem log_pos {w : World} {p a : Nat} (hf : IsF w p) (ha : a < 256) (a0 : a ≠ 0) : Calls Try.prog 32 #[.pointer (some ⟨p, 0, none⟩), .int .u8 a] w fun e w' => e = .returned (.tuple #[.int .i64 (Gf.lg a : Nat), .int .i64 0]) ∧ w = w' := by
  have hc := hf.there
  have la := Gf.lg_lt ha a0
  have h1 := hf.log a ha a0
  have t1 : ((a : Int) == 0) = false := by simp; omega
  generalize Gf.lg a = x at *
  go_enter Try.func32, Try.ntmps32
  go_wp2_with (go_at_call 87; refine (is_any hc).mono ?_; rintro e w' ⟨rfl, rfl⟩)
  go_ret2
  exact ⟨rfl, rfl⟩

theorem tmod_neg {n : Int} (h : n < 0) : n.tmod 255 = -((-n) % 255) := by
  rw [← Int.tmod_eq_emod_of_nonneg (by omega), Int.neg_tmod, Int.neg_neg]
theorem tmod_emod (n : Int) : n.tmod 255 % 255 = n % 255 := by
  by_cases h : n < 0
  · have := tmod_neg h; omega
  · rw [Int.tmod_eq_emod_of_nonneg (by omega)]; omega
/-- The power of 2 by a number, around. -/
def exI (n : Int) : Nat := Gf.ex (n % 255).toNat
theorem exp_any {w : World} {p : Nat} (hf : IsF w p) (n : Int) (h1 : -9223372036854775808 ≤ n) (h2 : n ≤ 9223372036854775807) : Calls Try.prog 31 #[.pointer (some ⟨p, 0, none⟩), .int .i64 n] w fun e w' => e = .returned (.int .u8 (exI n : Nat)) ∧ w = w' := by
  have hc := hf.there
  by_cases h0 : 0 ≤ n
  · obtain ⟨N, rfl⟩ := Int.eq_ofNat_of_zero_le h0
    have h3 := hf.exp (N % 255) (by omega)
    have e1 : Gf.ex (N % 255) = exI (N : Int) := by unfold exI; congr 1
    rw [e1] at h3
    clear e1
    generalize exI (N : Int) = r at *
    go_enter Try.func31, Try.ntmps31
    go_wp2_with (go_at_call 87; refine (is_any hc).mono ?_; rintro e w' ⟨rfl, rfl⟩)
    go_ret
    exact ⟨rfl, rfl⟩
  · have b0 := tmod_neg (by omega : n < 0)
    have b1 : -255 < n.tmod 255 := by omega
    have b2 : n.tmod 255 ≤ 0 := by omega
    have B0 := Lib.hid b0
    clear b0
    by_cases h4 : n.tmod 255 < 0
    · have h3 := hf.exp (n.tmod 255 + 255).toNat (by omega)
      have e1 : Gf.ex (n.tmod 255 + 255).toNat = exI n := by have := B0.out; unfold exI; congr 1; omega
      rw [e1] at h3
      clear e1
      generalize exI n = r at *
      go_enter Try.func31, Try.ntmps31
      go_wp2_with (go_at_call 87; refine (is_any hc).mono ?_; rintro e w' ⟨rfl, rfl⟩)
      go_ret
      exact ⟨rfl, rfl⟩
    · have h3 := hf.exp (n.tmod 255).toNat (by omega)
      have e1 : Gf.ex (n.tmod 255).toNat = exI n := by have := B0.out; unfold exI; congr 1; omega
      rw [e1] at h3
      clear e1
      generalize exI n = r at *
      go_enter Try.func31, Try.ntmps31
      go_wp2_with (go_at_call 87; refine (is_any hc).mono ?_; rintro e w' ⟨rfl, rfl⟩)
      go_ret
      exact ⟨rfl, rfl⟩

/-- The power of a byte, by a number. -/
def powI (a : Nat) (n : Int) : Nat := if n = 0 then 1 else if a = 0 then 0 else exI (n * Gf.lg a)
def powE (a : Nat) (n : Int) : Int := if a = 0 ∧ n < 0 then 6 else 0
theorem pow_any {w : World} {p a : Nat} (hf : IsF w p) (ha : a < 256) (n : Int) (h1 : -9223372036854775808 ≤ n) (h2 : n ≤ 9223372036854775807) : Calls Try.prog 33 #[.pointer (some ⟨p, 0, none⟩), .int .u8 a, .int .i64 n] w fun e w' => e = .returned (.tuple #[.int .u8 (powI a n : Nat), .int .i64 (powE a n)]) ∧ w = w' := by
  have hc := hf.there
  by_cases a0 : a = 0
  · subst a0
    by_cases h0 : n < 0
    · have e1 : powI 0 n = 0 := by unfold powI; rw [if_neg (by omega), if_pos rfl]
      have e2 : powE 0 n = 6 := by unfold powE; rw [if_pos ⟨rfl, h0⟩]
      rw [e1, e2]
      clear e1 e2
      go_enter Try.func33, Try.ntmps33
      go_wp2_with (go_at_call 87; refine (is_any hc).mono ?_; rintro e w' ⟨rfl, rfl⟩)
      go_ret2
      exact ⟨rfl, rfl⟩
    · have e2 : powE 0 n = 0 := by unfold powE; rw [if_neg (fun h => h0 h.2)]
      rw [e2]
      clear e2
      by_cases h3 : n = 0
      · subst h3
        have e1 : powI 0 0 = 1 := rfl
        rw [e1]
        clear e1
        go_enter Try.func33, Try.ntmps33
        go_wp2_with (go_at_call 87; refine (is_any hc).mono ?_; rintro e w' ⟨rfl, rfl⟩)
        go_ret2
        exact ⟨rfl, rfl⟩
      · have e1 : powI 0 n = 0 := by unfold powI; rw [if_neg h3, if_pos rfl]
        rw [e1]
        clear e1
        have t3 : (n == 0) = false := by simp [h3]
        go_enter Try.func33, Try.ntmps33
        go_wp2_with (go_at_call 87; refine (is_any hc).mono ?_; rintro e w' ⟨rfl, rfl⟩)
        go_ret2
        exact ⟨rfl, rfl⟩
  · have t1 : ((a : Int) == 0) = false := by simp; omega
    have e2 : powE a n = 0 := by unfold powE; rw [if_neg (fun h => a0 h.1)]
    rw [e2]
    clear e2
    by_cases h3 : n = 0
    · subst h3
      have e1 : powI a 0 = 1 := rfl
      rw [e1]
      clear e1
      go_enter Try.func33, Try.ntmps33
      go_wp2_with (go_at_call 87; refine (is_any hc).mono ?_; rintro e w' ⟨rfl, rfl⟩)
      go_ret2
      exact ⟨rfl, rfl⟩
    · have t3 : (n == 0) = false := by simp [h3]
      have hl := Gf.lg_lt ha a0
      have hk := hf.log a ha a0
      have e1 : powI a n = exI (n.tmod 255 * (Gf.lg a : Nat)) := by
        unfold powI exI
        rw [if_neg h3, if_neg a0]
        congr 2
        rw [Int.mul_emod, Int.mul_emod (n.tmod 255), tmod_emod]
      rw [e1]
      clear e1
      have b1 : -255 < n.tmod 255 ∧ n.tmod 255 < 255 := by
        by_cases h : n < 0
        · have := tmod_neg h; omega
        · rw [Int.tmod_eq_emod_of_nonneg (by omega)]; omega
      generalize Gf.lg a = x at *
      obtain ⟨b1, b2⟩ := b1
      generalize ht : n.tmod 255 = t at *
      have b3 : -64770 ≤ t * (x : Int) := by
        have := Int.mul_le_mul_of_nonneg_right (show -255 ≤ t by omega) (show (0 : Int) ≤ x by omega); omega
      have b4 : t * (x : Int) ≤ 64770 := by
        have := Int.mul_le_mul_of_nonneg_right (show t ≤ 255 by omega) (show (0 : Int) ≤ x by omega); omega
      have HX := Lib.hid (exp_any hf (t * (x : Int)) (by omega) (by omega))
      clear h1 h2
      go_enter Try.func33, Try.ntmps33
      go_wp2_with (go_at_call 87; refine (is_any hc).mono ?_; rintro e w' ⟨rfl, rfl⟩)
      refine HX.out.mono ?_
      rintro e w' ⟨rfl, rfl⟩
      go_wp2_with fail
      go_ret2
      exact ⟨rfl, rfl⟩
end Go.Proofs.Ytokeoodkioobdaa
