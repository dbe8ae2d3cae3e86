/- The walk of the rows' closed law. No condition. -/
import Derived.Test.YtokeoodkioobdaaREnd1
namespace Go.Proofs.Ytokeoodkioobdaa
open Go.RowKit

/-- Four rows of four places, in a list. -/
structure M4 (w : World) (B L : Nat) (p : Nat → Nat) : Prop where
  g : ∃ X, GridTo w B (.slice (some ⟨L, 0, none⟩) (4 : Nat) (4 : Nat)) 4 4 p (fun _ => 4) X ∧ ∀ i, i < 4 → Small (X i) ∧ (X i).length = 4
theorem M4.cell {w : World} {B L : Nat} {p : Nat → Nat} (h : M4 w B L p) {i j : Nat} (hi : i < 4) (hj : j < 4) :
    w.cell? ⟨L, i, none⟩ = some (.slice (some ⟨p i, 0, none⟩) (4 : Nat) (4 : Nat)) ∧ (∃ x : Nat, x < 256 ∧ w.cell? ⟨p i, j, none⟩ = some (.int .u8 (x : Nat))) ∧ w.frozen? ⟨p i, j, none⟩ = false := by
  obtain ⟨X, hG, hX⟩ := h.g
  obtain ⟨h1, _, h3, _⟩ := hG.line1 (hX i hi).2 hi
  obtain ⟨h4, h5⟩ := own_cell h3 hj
  exact ⟨h1, ⟨_, (hX i hi).1 j, h4⟩, h5⟩
theorem M4.set {w : World} {B L : Nat} {p : Nat → Nat} (h : M4 w B L p) {i j y : Nat} (hi : i < 4) (hy : y < 256) : M4 (w.setCell ⟨p i, j, none⟩ (.int .u8 (y : Nat))) B L p := by
  obtain ⟨X, hG, hX⟩ := h.g
  refine ⟨_, hG.cellset (j := j) (y := y) hi, fun t ht => ?_⟩
  by_cases e : t = i
  · rw [if_pos e]
    exact ⟨set_small (hX i hi).1 hy, by rw [List.length_set]; exact (hX i hi).2⟩
  · rw [if_neg e]; exact hX t ht
theorem M4.below {w w' : World} {B L : Nat} {p : Nat → Nat} (h : M4 w B L p) (hB : Below w.heap.size w w') : M4 w' B L p := by
  obtain ⟨X, hG, hX⟩ := h.g
  exact ⟨X, hG.below hB, hX⟩
theorem M4.rr {w : World} {B L : Nat} {p : Nat → Nat} (h : M4 w B L p) : ∃ X, RR w (.slice (some ⟨L, 0, none⟩) (4 : Nat) (4 : Nat)) 4 X := by
  obtain ⟨X, hG, hX⟩ := h.g
  exact ⟨X, hG.rr fun i hi => ⟨(hX i hi).1, by rw [(hX i hi).2]; omega⟩⟩
theorem M4.low {w : World} {B L : Nat} {p : Nat → Nat} (h : M4 w B L p) {i : Nat} (hi : i < 4) : B ≤ p i := by
  obtain ⟨X, hG, hX⟩ := h.g
  exact (own_blk (hG.row i hi)).1
def nought4 : Obj := .cells #[.int .u8 (0 : Nat), .int .u8 (0 : Nat), .int .u8 (0 : Nat), .int .u8 (0 : Nat)] 5
def four4 (n : Nat) : Obj := .cells #[.slice (some ⟨n, 0, none⟩) (4 : Nat) (4 : Nat), .slice (some ⟨n + 1, 0, none⟩) (4 : Nat) (4 : Nat), .slice (some ⟨n + 1 + 1, 0, none⟩) (4 : Nat) (4 : Nat), .slice (some ⟨n + 1 + 1 + 1, 0, none⟩) (4 : Nat) (4 : Nat)] 31
theorem m4_start (w : World) : M4 (((((w.alloc nought4).alloc nought4).alloc nought4).alloc nought4).alloc (four4 w.heap.size)) w.heap.size (w.heap.size + 1 + 1 + 1 + 1) (fun j => w.heap.size + j) ∧
    Below w.heap.size w (((((w.alloc nought4).alloc nought4).alloc nought4).alloc nought4).alloc (four4 w.heap.size)) := by
  obtain ⟨h1, h2, h3, h4⟩ := new4 w nought4 nought4 nought4 nought4
  have h5 := heap_alloc_new ((((w.alloc nought4).alloc nought4).alloc nought4).alloc nought4) (four4 w.heap.size)
  rw [World.size_alloc, World.size_alloc, World.size_alloc, World.size_alloc] at h5
  refine ⟨⟨fun _ => [0, 0, 0, 0], ?_, fun i _ => ⟨Small.of_mem (by simp), rfl⟩⟩, (below4 w _ _ _ _).alloc (by simp; omega) _⟩
  refine grid_lit (N := 4) h5 (by omega) (by omega) (fun i hi => ?_) (fun i j _ _ e => by omega)
  match i, hi with
  | 0, _ => exact own_lit (l := [0, 0, 0, 0]) (blk_alloc h1) rfl (by show 4 ≤ _; omega) (by omega)
  | 1, _ => exact own_lit (l := [0, 0, 0, 0]) (blk_alloc h2) rfl (by show 4 ≤ _; omega) (by omega)
  | 2, _ => exact own_lit (l := [0, 0, 0, 0]) (blk_alloc h3) rfl (by show 4 ≤ _; omega) (by omega)
  | 3, _ => exact own_lit (l := [0, 0, 0, 0]) (blk_alloc h4) rfl (by show 4 ≤ _; omega) (by omega)
theorem wrap_nat (x : Int) (y : Nat) (h : x = (y : Int)) (hy : y < 1000000) : IntKind.i64.wrap x = (y : Int) := by rw [h]; exact IntWalk.i64_in _ (by omega)
theorem tmod_nat (x y z : Nat) (h : x % y = z) : (x : Int).tmod (y : Int) = (z : Int) := by rw [Int.tmod_eq_emod_of_nonneg (by omega)]; omega
theorem idx3 {i j : Nat} (hi : i < 4) (hj : j < 4) : ∃ a b0 b1 b2 j1 j2 s0 s1 s2 t0 t1 t2 y : Nat, IntKind.i64.wrap ((i : Int) + 1) = (a : Int) ∧ (j : Int).tmod 3 = (b0 : Int) ∧ IntKind.i64.wrap ((j : Int) + 1) = (j1 : Int) ∧ (j1 : Int).tmod 3 = (b1 : Int) ∧ IntKind.i64.wrap ((j : Int) + 2) = (j2 : Int) ∧ (j2 : Int).tmod 3 = (b2 : Int) ∧
    IntKind.i64.wrap ((a : Int) + (b0 : Int)) = (s0 : Int) ∧ IntKind.i64.wrap ((a : Int) + (b1 : Int)) = (s1 : Int) ∧ IntKind.i64.wrap ((a : Int) + (b2 : Int)) = (s2 : Int) ∧ (s0 : Int).tmod 4 = (t0 : Int) ∧ (s1 : Int).tmod 4 = (t1 : Int) ∧ (s2 : Int).tmod 4 = (t2 : Int) ∧ t0 < 4 ∧ t1 < 4 ∧ t2 < 4 ∧ IntKind.i64.wrap (1 + (j : Int)) = (y : Int) ∧ IntKind.u8.wrap (y : Int) = (y : Int) ∧ y < 256 ∧ Hid (j1 = j + 1) :=
  ⟨i + 1, j % 3, (j + 1) % 3, (j + 2) % 3, j + 1, j + 2, i + 1 + j % 3, i + 1 + (j + 1) % 3, i + 1 + (j + 2) % 3, (i + 1 + j % 3) % 4, (i + 1 + (j + 1) % 3) % 4, (i + 1 + (j + 2) % 3) % 4, 1 + j,
    wrap_nat _ _ (by omega) (by omega), tmod_nat _ 3 _ rfl, wrap_nat _ _ (by omega) (by omega), tmod_nat _ 3 _ rfl, wrap_nat _ _ (by omega) (by omega), tmod_nat _ 3 _ rfl, wrap_nat _ _ (by omega) (by omega), wrap_nat _ _ (by omega) (by omega), wrap_nat _ _ (by omega) (by omega), tmod_nat _ 4 _ rfl, tmod_nat _ 4 _ rfl, tmod_nat _ 4 _ rfl, by omega, by omega, by omega, wrap_nat _ _ (by omega) (by omega), IntWalk.u8_in _ (by omega), by omega, rfl⟩
theorem stepL_append {P : Program} {ops : Array Oper} {i : Nat} {o : Oper} {K : Act → World → Prop} {a : Act} {w w' : World} {s x : Operand} {t : TypeId} {v1 v2 v : Value} (d : Option Tmp) (ho : ops[i]? = some o) (hd : o.dst = d) (hw : Region.wanted o (yielded ops a.tmps) = true)
    (hop : o.op = .call { callee := .builtin .append, args := #[s, x], argTypes := #[t, t] }) (hs : a.eval s = v1) (hx : a.eval x = v2) (hr : (Builtin.append_ #[t, t] o.type #[v1, v2]).run P w = .ok v w') (hK : K (a.put d v) w') : stepL P ops i K a w := by
  refine stepL_value d ho hd hw ?_ hK
  unfold execOp
  simp only [hop, resolve, invoke, builtin, Sem.run_bind, Sem.run_pure, Result.andThen_ok, List.map_toArray, List.map_cons, List.map_nil, hs, hx, hr]
theorem small_snoc {l : List Nat} (h : Small l) : Small (l ++ [1]) := Small.of_mem fun x hx => by
  rcases List.mem_append.1 hx with h1 | h1
  · obtain ⟨k, hk, rfl⟩ := List.getElem_of_mem h1
    have := h k
    rwa [List.getD_eq_getElem?_getD, List.getElem?_eq_getElem hk] at this
  · simp at h1; omega
theorem mix3 {j t k : Nat} (hj : j < 5) (ht : t < 5) (hk : k < 9) : ∃ x1 x2 x3 x4 x5 x6 x7 x8 y : Nat, IntKind.i64.wrap ((j : Int) * (j : Int)) = (x1 : Int) ∧ IntKind.i64.wrap ((x1 : Int) * (k : Int)) = (x2 : Int) ∧ IntKind.i64.wrap ((t : Int) + (x2 : Int)) = (x3 : Int) ∧ IntKind.i64.wrap ((x3 : Int) + 1) = (x4 : Int) ∧
    IntKind.i64.wrap ((k : Int) * (x4 : Int)) = (x5 : Int) ∧ (x5 : Int).tmod 7 = (x6 : Int) ∧ (k : Int).tmod 3 = (x7 : Int) ∧ IntKind.i64.wrap ((x6 : Int) * (x7 : Int)) = (x8 : Int) ∧ IntKind.u8.wrap (x8 : Int) = (y : Int) ∧ y < 256 := by
  have h1 : j * j ≤ 4 * 4 := Nat.mul_le_mul (by omega) (by omega)
  have h2 : j * j * k ≤ 16 * 8 := Nat.mul_le_mul h1 (by omega)
  have h3 : k * (t + j * j * k + 1) ≤ 8 * 200 := Nat.mul_le_mul (by omega) (by omega)
  have h4 : k * (t + j * j * k + 1) % 7 * (k % 3) ≤ 6 * 2 := Nat.mul_le_mul (by omega) (by omega)
  obtain ⟨y, hy, hyl⟩ := u8_some ((k * (t + j * j * k + 1) % 7 * (k % 3) : Nat) : Int)
  exact ⟨j * j, j * j * k, t + j * j * k, t + j * j * k + 1, k * (t + j * j * k + 1), k * (t + j * j * k + 1) % 7, k % 3, k * (t + j * j * k + 1) % 7 * (k % 3), y,
    wrap_nat _ _ (by simp) (by omega), wrap_nat _ _ (by simp) (by omega), wrap_nat _ _ (by simp) (by omega), wrap_nat _ _ (by simp) (by omega), wrap_nat _ _ (by simp) (by omega), tmod_nat _ 7 _ rfl, tmod_nat _ 3 _ rfl, wrap_nat _ _ (by simp) (by omega), hy, hyl⟩
theorem div3 {n : Nat} (hn : n < 225) : ∃ r c q k : Nat, (n : Int).tmod 5 = (r : Int) ∧ (n : Int) / 5 = (q : Int) ∧ (q : Int).tmod 5 = (c : Int) ∧ (q : Int) % 5 = (c : Int) ∧ (n : Int) / 25 = (k : Int) ∧ r < 5 ∧ c < 5 ∧ k < 9 :=
  ⟨n % 5, n / 5 % 5, n / 5, n / 25, tmod_nat n 5 _ rfl, by omega, tmod_nat _ 5 _ rfl, by omega, by omega, by omega, by omega, by omega⟩

set_option maxHeartbeats 6000000 in
set_option maxRecDepth 100000 in
theorem rends (w : World) : Calls Try.prog 18 #[] w fun e w' => e = .returned (.bool true) ∧ Below w.heap.size w w' := by
  obtain ⟨i0, hi, hz0, hz1, hz2⟩ := info_parts info5
  obtain ⟨i31, hj, hy0, hy1, hy2⟩ := info_parts info31
  go_enter Try.func18, Try.ntmps18
  go_wp2_with fail
  go_loopw [1] (fun i wr => ∃ n : Nat, n ≤ 225 ∧ i = .int .i64 n ∧ Hid (Below w.heap.size w wr)) (fun i _ => 225 - (intOf i).toNat)
  case atStart => exact ⟨0, by omega, rfl, Below.refl _ _⟩
  case round =>
    obtain ⟨n, hn1, rfl, HB⟩ := hrel
    by_cases hn2 : n < 225
    · have dn : decide ((n : Int) < 225) = true := by simp; omega
      obtain ⟨W0, e⟩ : ∃ W0, W0 = wr := ⟨_, rfl⟩
      subst e
      obtain ⟨r, c, q5, k, f1, f2, f3, f5, f4, hr5, hc5, hk9⟩ := div3 hn2
      go_wp2_with fail
      clear f1 f2 f3 f4 f5
      go_loopw [5, 7] (fun v i wr => ∃ t : Nat, t ≤ r ∧ i = .int .i64 t ∧ (∃ p d X, Hid (GridTo wr W0.heap.size v t t p d X) ∧ Hid (∀ j, j < t → Small (X j) ∧ (X j).length = c)) ∧ Hid (Below W0.heap.size W0 wr)) (fun _ i _ => r - (intOf i).toNat)
      case atStart => exact ⟨0, Nat.zero_le _, rfl, ⟨_, _, _, grid_empty W0 W0.heap.size (fun _ => 0) (fun _ => 0) (fun _ => []), fun j hj => absurd hj (Nat.not_lt_zero j)⟩, Below.refl _ _⟩
      case round =>
        obtain ⟨t, ht, rfl, ⟨p, d, X, HG, HX⟩, HBA⟩ := hrel
        have hsw : W0.heap.size ≤ wr.heap.size := HBA.out.size
        obtain ⟨W1, e⟩ : ∃ W1, W1 = wr := ⟨_, rfl⟩
        subst e
        by_cases ht1 : t < r
        · go_wp2_with (refine wpList_make_full _ rfl (.tmp 30) (.tmp 30) 31 rfl W1.heap.size 5 i0 (.int .u8 0) 1 Try.underlying31 hi hz0 hz1 .i64 .i64 _ _ c rfl rfl (by omega) (by omega) ?_ ?_ (Nat.le_refl _) ?_)
          · rw [hz2]; omega
          · unfold maxLen; omega
          intro w5 hown5 hg5
          have HZ := Lib.hid (own_zeros hown5)
          have HB5 := Lib.hid (show Below W1.heap.size W1 w5 from (Below.refl _ _).grown hg5 (Nat.le_refl _) (fun j e => by cases e))
          clear hown5 hg5
          go_wp2_with fail
          go_loopw [9] (fun i wr => ∃ j : Nat, j ≤ c ∧ i = .int .i64 j ∧ (∃ l, Hid (wr.ownsRow W1.heap.size 5 1 (.slice (some ⟨W1.heap.size, 0, none⟩) c c) c (bs l)) ∧ Hid (Small l ∧ l.length = c)) ∧ Hid (Below W1.heap.size W1 wr)) (fun i _ => c - (intOf i).toNat)
          case atStart => exact ⟨0, Nat.zero_le _, rfl, ⟨_, HZ, zeros_small c, by simp⟩, HB5⟩
          case round =>
            clear HZ HB5
            obtain ⟨j, hj', rfl, ⟨l, HL, HS⟩, HB6⟩ := hrel
            by_cases hj1 : j < c
            · obtain ⟨x1, x2, x3, x4, x5, x6, x7, x8, y, e1, e2, e3, e4, e5, e6, e7, e8, e9, hy⟩ := mix3 (show j < 5 by omega) (show t < 5 by omega) hk9
              obtain ⟨a1, a2⟩ := own_cell HL.out hj1
              generalize l.getD j 0 = x0 at a1
              have HL2 := Lib.hid (own_set (i := j) (x := y) HL.out)
              have HS2 := Lib.hid (show Small (l.set j y) ∧ (l.set j y).length = c from ⟨set_small HS.out.1 hy, by rw [List.length_set]; exact HS.out.2⟩)
              have HB7 := Lib.hid (HB6.out.setCell (p := ⟨W1.heap.size, j, none⟩) (Nat.le_refl _) (.int .u8 (y : Nat)))
              clear HL HS HB6
              go_wp2_with fail
              go_roundw
              case rel => exact ⟨j + 1, by omega, by go_num, ⟨_, HL2, HS2⟩, HB7⟩
              case measure => simp [intOf]; omega
            · obtain rfl : j = c := by omega
              have hB6 : Below W1.heap.size W1 (wr.alloc (.cells #[.slice (some ⟨W1.heap.size, 0, none⟩) j j] 31)) := HB6.out.alloc HB6.out.size _
              have hG6 := (HG.out.below hB6).congr (Y := fun j => if j = t then l else X j) (fun i hi => if_neg (by omega))
              have HZ6 := Lib.hid ((own_mono HL.out hsw).alloc (.cells #[.slice (some ⟨W1.heap.size, 0, none⟩) j j] 31))
              have HBA6 := Lib.hid (HBA.out.trans (hB6.mono hsw))
              have HQ := Lib.hid (show ∀ i, i < t → p i ≠ W1.heap.size from fun i hi e => by have := HG.out.rowlt hi; omega)
              obtain ⟨vs, hvs, hvr⟩ := hG6.own
              have HG6 := Lib.hid hG6
              have HVS := Lib.hid hvs
              have HVR := Lib.hid hvr
              have hs5 : W1.heap.size ≤ wr.heap.size := HB6.out.size
              have HX7 := Lib.hid (show ∀ i, i < t + 1 → Small (if i = t then l else X i) ∧ (if i = t then l else X i).length = j from fun i hi => by
                by_cases e : i = t
                · rw [if_pos e]; exact HS.out
                · rw [if_neg e]; exact HX.out i (by omega))
              clear hB6 hG6 hvs hvr HG HL HS HB6 HX HBA
              go_wp2_with (at_builtin; refine wpList_append_own3 _ rfl (.tmp 55) (.tmp 57) 51 rfl W0.heap.size 31 i31 (.slice none 0 0) 24 Try.underlying51 hj hy0 hy1 hy2 rfl _ t vs rfl HVS.out ⟨wr.heap.size, 0, none⟩ 1 1 [.slice (some ⟨W1.heap.size, 0, none⟩) j j] rfl rfl (cell_new31 _ _) (one_sl _ _ _) (by unfold maxLen; omega) (by omega) (by simp; omega) ?_)
              intro v7 w7 ho7 hg7 hb7 hk7
              obtain ⟨p7, d7, hG7, _, _⟩ := HG6.out.push HVS.out HVR.out HZ6.out HQ.out ho7 hk7 (if_pos rfl)
              have HG7 := Lib.hid hG7
              have HB7 := Lib.hid (HBA6.out.grown hg7 (by simp; omega) (fun g e => by have := (own_lt HVS.out e).1; omega))
              clear ho7 hg7 hb7 hk7 hG7 HG6 HZ6 HBA6 HVS HVR HQ
              go_wp2_with fail
              go_roundw
              case rel => exact ⟨t + 1, by omega, by go_num, ⟨p7, d7, _, HG7, HX7⟩, HB7⟩
              case measure => simp [intOf]; omega
        · obtain rfl : t = r := by omega
          go_wp2_with fail
          go_loopw [6, 10] (fun v i wr => ∃ s : Nat, s ≤ c ∧ i = .int .i64 s ∧ (∃ p2 d2 X2, Hid (GridTo wr W1.heap.size v s s p2 d2 X2) ∧ Hid (∀ j, j < s → Small (X2 j) ∧ (X2 j).length = 3)) ∧ Hid (Below W1.heap.size W1 wr)) (fun _ i _ => c - (intOf i).toNat)
          case atStart => exact ⟨0, Nat.zero_le _, rfl, ⟨_, _, _, grid_empty W1 W1.heap.size (fun _ => 0) (fun _ => 0) (fun _ => []), fun j hj => absurd hj (Nat.not_lt_zero j)⟩, Below.refl _ _⟩
          case round =>
            obtain ⟨s, hs', rfl, ⟨p2, d2, X2, HG2, HX2⟩, HB2⟩ := hrel
            obtain ⟨y2, e2, hy2'⟩ := u8_some (k : Int)
            have hs2 : W1.heap.size ≤ wr.heap.size := HB2.out.size
            by_cases hs1 : s < c
            · obtain ⟨y1, e1, hy1'⟩ := u8_some (s : Int)
              have hA : Below wr.heap.size wr ((wr.alloc (.cells #[.int .u8 (y1 : Nat), .int .u8 (y2 : Nat), .int .u8 (1 : Nat)] 5)).alloc (.cells #[.slice (some ⟨wr.heap.size, 0, none⟩) (3 : Nat) (3 : Nat)] 31)) := ((Below.refl _ _).alloc (Nat.le_refl _) _).alloc (by simp) _
              have hG6 := (HG2.out.below hA).congr (Y := fun j => if j = s then [y1, y2, 1] else X2 j) (fun i hi => if_neg (by omega))
              have HZ6 := Lib.hid (own_lit (B := W1.heap.size) (n := 3) (l := [y1, y2, 1]) (blk_alloc (o' := .cells #[.slice (some ⟨wr.heap.size, 0, none⟩) (3 : Nat) (3 : Nat)] 31) (heap_alloc_new wr (.cells #[.int .u8 (y1 : Nat), .int .u8 (y2 : Nat), .int .u8 (1 : Nat)] 5))) rfl (by omega) hs2)
              have HB6 := Lib.hid (HB2.out.trans (hA.mono hs2))
              have HQ := Lib.hid (show ∀ i, i < s → p2 i ≠ wr.heap.size from fun i hi e => by have := HG2.out.rowlt hi; omega)
              obtain ⟨vs, hvs, hvr⟩ := hG6.own
              have HG6 := Lib.hid hG6
              have HVS := Lib.hid hvs
              have HVR := Lib.hid hvr
              have HN := Lib.hid (show ∀ j u, [Value.slice (some ⟨wr.heap.size, 0, none⟩) (3 : Nat) (3 : Nat)][j]? = some u → ((wr.alloc (.cells #[.int .u8 (y1 : Nat), .int .u8 (y2 : Nat), .int .u8 (1 : Nat)] 5)).alloc (.cells #[.slice (some ⟨wr.heap.size, 0, none⟩) (3 : Nat) (3 : Nat)] 31)).cell? ((⟨wr.heap.size + 1, 0, none⟩ : Addr).add j) = some u from by
                have := cell_new31 (wr.alloc (.cells #[.int .u8 (y1 : Nat), .int .u8 (y2 : Nat), .int .u8 (1 : Nat)] 5)) (.slice (some ⟨wr.heap.size, 0, none⟩) (3 : Nat) (3 : Nat))
                rwa [World.size_alloc] at this)
              have HX7 := Lib.hid (show ∀ i, i < s + 1 → Small (if i = s then [y1, y2, 1] else X2 i) ∧ (if i = s then [y1, y2, 1] else X2 i).length = 3 from fun i hi => by
                by_cases e : i = s
                · rw [if_pos e]; exact ⟨Small.of_mem (by simp; omega), rfl⟩
                · rw [if_neg e]; exact HX2.out i (by omega))
              clear hA hG6 hvs hvr HG2 HB2 HX2
              go_wp2_with (at_builtin; refine wpList_append_own3 _ rfl (.tmp 64) (.tmp 70) 51 rfl W1.heap.size 31 i31 (.slice none 0 0) 24 Try.underlying51 hj hy0 hy1 hy2 rfl _ s vs rfl HVS.out ⟨wr.heap.size + 1, 0, none⟩ 1 1 [.slice (some ⟨wr.heap.size, 0, none⟩) (3 : Nat) (3 : Nat)] rfl rfl HN.out (one_sl _ _ _) (by unfold maxLen; omega) (by omega) (by simp; omega) ?_)
              intro v7 w7 ho7 hg7 hb7 hk7
              obtain ⟨p7, d7, hG7, _, _⟩ := HG6.out.push HVS.out HVR.out HZ6.out HQ.out ho7 hk7 (if_pos rfl)
              have HG7 := Lib.hid hG7
              have HB7 := Lib.hid (HB6.out.grown hg7 (by simp; omega) (fun g e => by have := (own_lt HVS.out e).1; omega))
              clear ho7 hg7 hb7 hk7 hG7 HG6 HZ6 HB6 HVS HVR HQ HN
              go_wp2_with fail
              go_roundw
              case rel => exact ⟨s + 1, by omega, by go_num, ⟨p7, d7, _, HG7, HX7⟩, HB7⟩
              case measure => simp [intOf]; omega
            · obtain rfl : s = c := by omega
              obtain ⟨W2, e⟩ : ∃ W2, W2 = wr := ⟨_, rfl⟩
              subst e
              obtain ⟨va, vd, hv⟩ := HG.out.slice
              subst hv
              obtain ⟨ub, ud, hv⟩ := HG2.out.slice
              subst hv
              have HGA := Lib.hid (HG.out.below HB2.out)
              have HFA := Lib.hid (show ∀ i, i < t → Small (X i) ∧ (X i).length ≤ 100000 from fun i hi => ⟨(HX.out i hi).1, by rw [(HX.out i hi).2]; omega⟩)
              have HFB := Lib.hid (show ∀ i, i < s → Small (X2 i) ∧ (X2 i).length ≤ 100000 from fun i hi => ⟨(HX2.out i hi).1, by rw [(HX2.out i hi).2]; omega⟩)
              have HBT := Lib.hid (HB.out.trans ((HBA.out.trans (HB2.out.mono hsw)).mono HB.out.size))
              have HS01 := Lib.hid (show W0.heap.size ≤ W1.heap.size ∧ W1.heap.size ≤ W2.heap.size ∧ w.heap.size ≤ W0.heap.size from ⟨hsw, hs2, HB.out.size⟩)
              have hmk := fun W => make_zeros (n := s) (by omega) W
              have HZS := Lib.hid fun (W : World) => lit_rb (n := s) (heap_alloc_new W (.cells (bs (List.replicate s 0)).toArray 5)) (by simp) (by omega) (zeros_small s)
              have HPL := Lib.hid (show (∀ i, i < t → p i < W1.heap.size) ∧ ∀ g, (Value.slice va t vd).ownBlock = some g → g < W1.heap.size from ⟨fun i hi => HG.out.rowlt hi, fun g hg => by obtain ⟨vs, h1, _⟩ := HG.out.own; exact (own_lt h1 hg).2⟩)
              clear HG HBA HB HB2
              go_wp2_with fail
              have hb : Below W2.heap.size W2 (W2.alloc (.cells (bs (List.replicate s 0)).toArray 5)) := (Below.refl _ _).alloc (Nat.le_refl _) _
              refine (rdo_any _ (by omega) (by omega) ((HGA.out.rr HFA.out).below hb) ((HG2.out.rr HFB.out).below hb) (HZS.out W2)).mono ?_
              rintro e w3 ⟨rfl, hB3⟩
              have HB3 := Lib.hid (hb.trans (hB3.mono hb.size))
              clear hb hB3
              go_wp2_with fail
              have hb : Below w3.heap.size w3 (w3.alloc (.cells #[.int .u8 (1 : Nat), .int .u8 (y2 : Nat), .int .u8 (3 : Nat)] 5)) := (Below.refl _ _).alloc (Nat.le_refl _) _
              refine (rdo_any _ (by omega) (by omega) (((HG2.out.rr HFB.out).below HB3.out).below hb) (((HGA.out.rr HFA.out).below HB3.out).below hb) (lit_rb (n := 3) (l := [1, y2, 3]) (heap_alloc_new w3 _) rfl (by omega) (Small.of_mem (by simp; omega)))).mono ?_
              rintro e w4 ⟨rfl, hB4⟩
              have hb4 := HB3.out.trans ((hb.trans (hB4.mono hb.size)).mono HB3.out.size)
              have HGA4 := Lib.hid (HGA.out.below hb4)
              have HGB4 := Lib.hid (HG2.out.below hb4)
              have HBT4 := Lib.hid (HBT.out.trans (hb4.mono HBT.out.size))
              have hs4 : W2.heap.size ≤ w4.heap.size := hb4.size
              clear hb hB4 hb4 HB3 HGA HG2 HBT HZS hmk
              by_cases hr1 : 1 < t
              · have dr : decide ((1 : Int) < (t : Int)) = true := by simp; omega
                obtain ⟨g, hg⟩ := HGA4.out.head (by omega)
                subst hg
                obtain ⟨kr, hk1, hk2, hkr⟩ : ∃ kr : Nat, (k : Int).tmod (t : Int) = (kr : Int) ∧ (k : Int) % (t : Int) = (kr : Int) ∧ kr < t := ⟨k % t, tmod_nat k t _ rfl, by simp, Nat.mod_lt _ (by omega)⟩
                have ht0 : ¬ (t : Int) = 0 := by omega
                obtain ⟨l1, l2, l3, l4⟩ := HGA4.out.line1 (HX.out kr hkr).2 hkr
                obtain ⟨vs0, hvs0, _⟩ := HGA4.out.own
                obtain ⟨hgB, _, cur, hcur, _⟩ := own_blk hvs0
                have L1 : ∀ x : LiesAt w4 g, x.1.cell? ⟨g, kr, none⟩ = some (.slice (some ⟨p kr, 0, none⟩) s (d kr)) := fun x => (cell_of_block (x.2.trans hcur)).trans ((cell_of_block hcur).symm.trans l1)
                have hB5 : Below w4.heap.size w4 (w4.drew.alloc (.cells #[.int .u8 (1 : Nat)] 5)) := (Below.refl _ w4).drew.alloc (Nat.le_refl _) _
                have hA5 := HGA4.out.below hB5
                have hR5 := (hA5.line1 (HX.out kr hkr).2 hkr).2.2.1
                have hs01 := HS01.out
                have hpl := HPL.out.1 kr hkr
                have hgl := HPL.out.2 g rfl
                have hgp : p kr ≠ g := by
                  obtain ⟨g', d', e, _, _, _, _, h1, _⟩ := HGA4.out.cell hkr
                  injection e with e _ _
                  injection e with e
                  injection e with e _ _
                  rw [e]; exact h1 kr hkr
                obtain ⟨v7, w7, hr7, ho7, hg7, hb7, hk7⟩ := run_append_own3 (P := Try.prog) (w4.drew.alloc (.cells #[.int .u8 (1 : Nat)] 5)) W0.heap.size 31 31 5 i0 (.int .u8 0) 1 Try.underlying31 hi hz0 hz1 hz2 rfl _ s (bs (X kr)) hR5 ⟨w4.heap.size, 0, none⟩ 1 1 [.int .u8 (1 : Nat)] rfl (fun j u hu => by
                  match j, hu with
                  | 0, hu => injection hu with hu; subst hu; exact (cell_of_block (heap_alloc_new w4.drew _)).trans rfl) (by intro u hu; simp at hu; subst hu; rfl) (by unfold maxLen; omega) (by omega) (Nat.le_trans (by omega : W0.heap.size ≤ w4.heap.size) hB5.size)
                obtain ⟨q, cap, hv7⟩ := own_some ho7 (by omega)
                subst hv7
                have hA7 := hA5.grow hR5 hk7 (fun i hi => .inl (by rw [(HX.out i hi).2]; exact Nat.le_refl _))
                have hS7 : w7.heap[g]? = w4.heap[g]? := (hg7.block g (Nat.lt_of_lt_of_le (by omega) hB5.size) fun e => hgp (by injection e with e; exact e.symm)).trans (hB5.block g (by omega))
                obtain ⟨m1, m2, _, _⟩ := hA7.line1 (HX.out kr hkr).2 hkr
                clear l1 l2 l3 l4 hvs0 hcur
                go_wp2_with fail
                refine region_lsch (fun w' => ∃ x : LiesAt w4 g, w' = x.1) 12 [([0, 1, 2, 3, 4, 5, 6, 7, 8, 9], 10), ([], 11)] (by rfl) (by decide +kernel) ⟨⟨w4.drew, rfl⟩, rfl⟩ ?_
                unfold lschP
                simp only [pickL, List.filterMap_cons, List.filterMap_nil, List.getElem?_toArray, List.getElem?_cons_zero, List.getElem?_cons_succ]
                show wpQuiet _ _ _ _ [_, _, _, _, _, _, _, _, _, _] _
                repeat (go_big_quiet_step (fail))
                refine wpQuiet_nil ?_
                refine stepL_value (v := .slice (some ⟨w4.heap.size, 0, none⟩) (1 : Nat) (1 : Nat)) (w' := w4.drew.alloc (.cells #[.int .u8 (1 : Nat)] 5)) (some 105) rfl rfl rfl (by go_simp) ⟨⟨⟨_, hB5.block g (by omega)⟩, rfl⟩, ?_⟩
                simp only [Act.put, List.setIfInBounds_toArray, List.set_cons_succ, List.set_cons_zero]
                unfold lschP
                refine wpQuiet_nil ?_
                refine stepL_append (v := .slice (some ⟨q, 0, none⟩) (s + 1) cap) (w' := w7) (some 106) rfl rfl rfl rfl rfl rfl hr7 ⟨⟨⟨w7, hS7⟩, rfl⟩, ?_⟩
                simp only [Act.put, List.setIfInBounds_toArray, List.set_cons_succ, List.set_cons_zero]
                unfold lschP
                simp only [List.drop_succ_cons, List.drop_zero]
                clear hr7 L1 m2
                have hl : (X kr ++ [1]).length = s + 1 := by rw [List.length_append, (HX.out kr hkr).2]; rfl
                have hbs : bs (X kr ++ [1]) = bs (X kr) ++ [.int .u8 (1 : Nat)] := by simp [bs]
                have hlt5 := hB5.size
                have hA8 := hA7.put (w' := w7.setCell ⟨g, kr, none⟩ (.slice (some ⟨q, 0, none⟩) (s + 1) cap)) (l := X kr ++ [1]) (q := q) (d := cap) rfl hkr (Nat.le_of_lt hkr) (by rw [hl, hbs]; exact ho7) (fun j hj' hne e => by
                  rcases hb7 q rfl with h | h
                  · have h : some (p kr) = some q := h
                    injection h with h
                    exact hne (hA7.inj j kr hj' hkr (e.trans h.symm))
                  · have := HGA4.out.rowlt hj'
                    omega) (by rw [hl])
                rw [show max t (kr + 1) = t by omega] at hA8
                have hRA := hA8.rr fun i hi' => by
                  by_cases e : i = kr
                  · rw [if_pos e, hl]; exact ⟨small_snoc (HX.out kr hkr).1, by omega⟩
                  · rw [if_neg e]; exact HFA.out i hi'
                have hfr : ∀ b, b < (w4.drew.alloc (.cells #[.int .u8 (1 : Nat)] 5)).heap.size → b ≠ p kr → b ≠ g → (w7.setCell ⟨g, kr, none⟩ (.slice (some ⟨q, 0, none⟩) (s + 1) cap)).heap[b]? = (w4.drew.alloc (.cells #[.int .u8 (1 : Nat)] 5)).heap[b]? := fun b h1 h2 h3 => (heap_setCell_other w7 ⟨g, kr, none⟩ b _ h3).trans (hg7.block b h1 fun e => h2 (by injection e))
                have hB5g := HGB4.out.below hB5
                obtain ⟨vs5, hvs5, _⟩ := hB5g.own
                have hRB := (hB5g.frame (w' := w7.setCell ⟨g, kr, none⟩ (.slice (some ⟨q, 0, none⟩) (s + 1) cap)) (fun b hb => hfr b (own_lt hvs5 hb).2 (by have := (own_lt hvs5 hb).1; omega) (by have := (own_lt hvs5 hb).1; omega)) (fun j hj' => hfr _ (hB5g.rowlt hj') (by have := (own_blk (hB5g.row j hj')).1; omega) (by have := (own_blk (hB5g.row j hj')).1; omega))).rr HFB.out
                have hBw5 := HBT4.out.trans (hB5.mono (by omega))
                have hBw8 := (hBw5.grown hg7 hBw5.size (fun b e => by have := (own_lt hR5 e).1; omega)).setCell (p := ⟨g, kr, none⟩) (show w.heap.size ≤ g by omega) (.slice (some ⟨q, 0, none⟩) (s + 1) cap)
                have HRA := Lib.hid hRA
                have HRB := Lib.hid hRB
                have HBW := Lib.hid hBw8
                have HM2 := Lib.hid (hA7.line1 (HX.out kr hkr).2 hkr)
                have m2 := HM2.out.2.1
                clear hA8 hRA hfr hB5g hvs5 hRB hBw5 hBw8 ho7 hg7 hb7 hk7 hA7 hR5 hA5 hB5 HM2 hS7
                go_wp2_with fail
                refine (rdo_any _ (by omega) (by omega) HRA.out HRB.out (rb_empty0 _)).mono ?_
                rintro e w9 ⟨rfl, hB9⟩
                have HB9 := Lib.hid (HBW.out.trans (hB9.mono HBW.out.size))
                clear hB9 HBW HRA HRB
                go_wp2_with fail
                go_roundw
                case rel => exact ⟨n + 1, by omega, by go_num, HB9⟩
                case measure => simp [intOf]; omega
              · have dr : decide ((1 : Int) < (t : Int)) = false := by simp; omega
                go_wp2_with fail
                go_roundw
                case rel => exact ⟨n + 1, by omega, by go_num, HBT4⟩
                case measure => simp [intOf]; omega
    · obtain rfl : n = 225 := by omega
      simp only [show ((225 : Nat) : Int) = 225 from rfl]
      go_wp2_with fail
      go_loopw [11] (fun i wr => ∃ n : Nat, n ≤ 4 ∧ i = .int .i64 n ∧ Hid (Below w.heap.size w wr)) (fun i _ => 4 - (intOf i).toNat)
      case atStart => exact ⟨0, by omega, rfl, HB⟩
      case round =>
        clear HB
        obtain ⟨i, hi1, rfl, HB⟩ := hrel
        by_cases hi2 : i < 4
        · have di : decide ((i : Int) < 4) = true := by simp; omega
          go_wp2_with fail
          go_loopw [12] (fun j wr => ∃ n : Nat, n ≤ 4 ∧ j = .int .i64 n ∧ Hid (Below w.heap.size w wr)) (fun j _ => 4 - (intOf j).toNat)
          case atStart => exact ⟨0, by omega, rfl, HB⟩
          case round =>
            clear HB
            obtain ⟨j, hj1, rfl, HB⟩ := hrel
            by_cases hj2 : j < 4
            · have dj : decide ((j : Int) < 4) = true := by simp; omega
              obtain ⟨M0, HB0⟩ := m4_start wr
              go_upto_region 32 with fail
              obtain ⟨W1, hW1⟩ : ∃ W1, W1 = (((((wr.alloc nought4).alloc nought4).alloc nought4).alloc nought4).alloc (four4 wr.heap.size)) := ⟨_, rfl⟩
              change Code.wp _ _ _ _ (((((wr.alloc nought4).alloc nought4).alloc nought4).alloc nought4).alloc (four4 wr.heap.size))
              rw [← hW1] at M0 HB0 ⊢
              obtain ⟨L, hL⟩ : ∃ L, L = wr.heap.size + 1 + 1 + 1 + 1 := ⟨_, rfl⟩
              rw [← hL] at M0 ⊢
              generalize (fun j => wr.heap.size + j) = p at M0
              have M1 := Lib.hid M0
              have B1 := Lib.hid HB0
              clear hW1 hL M0 HB0
              obtain ⟨na, b0, b1, b2, j1, j2, s0, s1, s2, t0, t1, t2, y, e1, e2, e3, e4, e5, e6, e7, e8, e9, e10, e11, e12, e13, e14, e15, e16, e17, e18, e19⟩ := idx3 hi2 hj2
              obtain ⟨a1, ⟨x, _, a2⟩, a3⟩ := M1.out.cell hi2 (j := 0) (by omega)
              have hs := M1.out.set (j := 0) (y := 3) hi2 (by omega)
              have hb := B1.out.setCell (p := ⟨p i, 0, none⟩) (M1.out.low hi2) (.int .u8 (3 : Nat))
              go_upto_region 33 with fail
              obtain ⟨W2, hW⟩ : ∃ W2, W2 = W1.setCell ⟨p i, 0, none⟩ (.int .u8 (3 : Nat)) := ⟨_, rfl⟩
              rw [show W1.setCell ⟨p i, 0, none⟩ (.int .u8 3) = W2 from hW.symm]
              rw [← hW] at hs hb
              have M2 := Lib.hid hs
              have B2 := Lib.hid hb
              clear hW hs hb a1 a2 a3 M1 B1
              obtain ⟨a1, ⟨x, _, a2⟩, a3⟩ := M2.out.cell e13 (j := 1) (by omega)
              have hs := M2.out.set (j := 1) (y := 7) e13 (by omega)
              have hb := B2.out.setCell (p := ⟨p t0, 1, none⟩) (M2.out.low e13) (.int .u8 (7 : Nat))
              go_upto_region 34 with fail
              obtain ⟨W3, hW⟩ : ∃ W3, W3 = W2.setCell ⟨p t0, 1, none⟩ (.int .u8 (7 : Nat)) := ⟨_, rfl⟩
              rw [show W2.setCell ⟨p t0, 1, none⟩ (.int .u8 7) = W3 from hW.symm]
              rw [← hW] at hs hb
              have M3 := Lib.hid hs
              have B3 := Lib.hid hb
              clear hW hs hb a1 a2 a3 M2 B2
              obtain ⟨a1, ⟨x, _, a2⟩, a3⟩ := M3.out.cell e14 (j := 2) (by omega)
              have hs := M3.out.set (j := 2) (y := 2) e14 (by omega)
              have hb := B3.out.setCell (p := ⟨p t1, 2, none⟩) (M3.out.low e14) (.int .u8 (2 : Nat))
              go_upto_region 35 with fail
              obtain ⟨W4, hW⟩ : ∃ W4, W4 = W3.setCell ⟨p t1, 2, none⟩ (.int .u8 (2 : Nat)) := ⟨_, rfl⟩
              rw [show W3.setCell ⟨p t1, 2, none⟩ (.int .u8 2) = W4 from hW.symm]
              rw [← hW] at hs hb
              have M4_ := Lib.hid hs
              have B4 := Lib.hid hb
              clear hW hs hb a1 a2 a3 M3 B3
              obtain ⟨a1, ⟨x, _, a2⟩, a3⟩ := M4_.out.cell e15 (j := 3) (by omega)
              have hs := M4_.out.set (j := 3) (y := y) e15 (by omega)
              have hb := B4.out.setCell (p := ⟨p t2, 3, none⟩) (M4_.out.low e15) (.int .u8 (y : Nat))
              go_upto_region 36 with fail
              obtain ⟨W5, hW⟩ : ∃ W5, W5 = W4.setCell ⟨p t2, 3, none⟩ (.int .u8 (y : Nat)) := ⟨_, rfl⟩
              rw [show W4.setCell ⟨p t2, 3, none⟩ (.int .u8 y) = W5 from hW.symm]
              rw [← hW] at hs hb
              have M5 := Lib.hid hs
              have B5 := Lib.hid hb
              clear hW hs hb a1 a2 a3 M4_ B4
              obtain ⟨a1, ⟨x, hx, a2⟩, a3⟩ := M5.out.cell hj2 (j := 3) (by omega)
              obtain ⟨z, hz, hzl⟩ : ∃ z : Nat, bits .xor .u8 (x : Int) 5 = (z : Int) ∧ z < 256 := by
                have := bits_u8 .xor (x : Int) 5
                exact ⟨(bits .xor .u8 (x : Int) 5).toNat, by omega, by omega⟩
              go_wp2_with fail
              refine region_quiet_tail 12 (by rfl) (by decide +kernel) ?_
              simp only [List.take_succ_cons, List.take_zero, List.drop_succ_cons, List.drop_zero]
              repeat (go_big_quiet_step (fail))
              refine wpQuiet_nil ?_
              intro _ hw'
              obtain ⟨nq, rfl⟩ := hw'
              have hs := (M5.out.below (below_drewN (Below.refl _ _) nq)).set (j := 3) (y := z) hj2 hzl
              have hb := (below_drewN B5.out nq).setCell (p := ⟨p j, 3, none⟩) (M5.out.low hj2) (.int .u8 (z : Nat))
              go_upto_region 37 with fail
              obtain ⟨W6, hW⟩ : ∃ W6, W6 = (W5.drewN nq).setCell ⟨p j, 3, none⟩ (.int .u8 (z : Nat)) := ⟨_, rfl⟩
              rw [show (W5.drewN nq).setCell ⟨p j, 3, none⟩ (.int .u8 (z : Nat)) = W6 from hW.symm]
              rw [← hW] at hs hb
              obtain ⟨XM, hXM⟩ := hs.rr
              have HM := Lib.hid hXM
              have B6 := Lib.hid hb
              clear hW hs hb hXM a1 a2 a3 M5 B5 hz
              go_wp2_with fail
              have hb7 : Below W6.heap.size W6 (W6.alloc (.cells #[.int .u8 (1 : Nat), .int .u8 (2 : Nat), .int .u8 (3 : Nat), .int .u8 (4 : Nat)] 5)) := (Below.refl _ _).alloc (Nat.le_refl _) _
              refine (rdo_any 4 (by omega) (by omega) (HM.out.below hb7) (HM.out.below hb7) (lit_rb (n := 4) (l := [1, 2, 3, 4]) (heap_alloc_new W6 _) rfl (by omega) (Small.of_mem (by simp)))).mono ?_
              rintro e w8 ⟨rfl, hB8⟩
              have HB8 := Lib.hid (HB.out.trans ((B6.out.trans ((hb7.trans (hB8.mono hb7.size)).mono B6.out.size)).mono HB.out.size))
              clear hB8 hb7 HM B6
              go_wp2_with fail
              go_roundw
              case rel => exact ⟨j1, by have := e19.out; omega, rfl, HB8⟩
              case measure => have := e19.out; simp [intOf]; omega
            · obtain rfl : j = 4 := by omega
              go_wp2_with fail
              go_roundw
              case rel => exact ⟨i + 1, by omega, by go_num, HB⟩
              case measure => simp [intOf]; omega
        · obtain rfl : i = 4 := by omega
          go_wp2_with fail
          refine (wide3 wr).mono ?_
          rintro e w2 ⟨rfl, hB2⟩
          have HB2 := Lib.hid (HB.out.trans (hB2.mono HB.out.size))
          clear hB2
          go_wp2_with fail
          refine (awake3 w2).mono ?_
          rintro e w3 ⟨rfl, hB3⟩
          have HB3 := Lib.hid (HB2.out.trans (hB3.mono HB2.out.size))
          clear hB3 HB2
          go_wp2_with fail
          go_ret
          exact ⟨rfl, HB3.out⟩
end Go.Proofs.Ytokeoodkioobdaa
