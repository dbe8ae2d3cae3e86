/- The walks of stat's And, Of. Conditions: rows are shorter than 2 to the 47. -/
import Derived.Test.YtfojhmobnedekaaDoorS1
namespace Go.Proofs.YtfojhmobnedekaaDoor
open Go.RowKit

def ecs (l : List (Int × Int)) : List Value := l.flatMap fun p => [.int .i64 p.1, .int .i64 p.2]
theorem ecs_append (a b : List (Int × Int)) : ecs (a ++ b) = ecs a ++ ecs b := by simp [ecs]
theorem length_ecs : ∀ l : List (Int × Int), (ecs l).length = l.length * 2
  | [] => rfl
  | p :: l => by
    show (_ ++ ecs l).length = _
    rw [List.length_append, length_ecs l]; simp; omega
theorem ecs_one (l : List (Int × Int)) : ∀ u ∈ ecs l, u.oneCell' = true := by
  intro u hu
  obtain ⟨x, _, hx⟩ := List.mem_flatMap.1 hu
  simp at hx
  rcases hx with rfl | rfl <;> rfl
theorem ecs_get0 : ∀ (l : List (Int × Int)) (k : Nat) (p : Int × Int), l[k]? = some p → (ecs l)[k * 2]? = some (.int .i64 p.1)
  | x :: l, 0, p, h => by
    obtain rfl : x = p := by simpa using h
    rfl
  | x :: l, k + 1, p, h => by
    show ((.int .i64 x.1) :: (.int .i64 x.2) :: ecs l)[(k + 1) * 2]? = _
    rw [show (k + 1) * 2 = k * 2 + 1 + 1 by omega, List.getElem?_cons_succ, List.getElem?_cons_succ]
    exact ecs_get0 l k p (by simpa using h)
theorem ecs_get1 : ∀ (l : List (Int × Int)) (k : Nat) (p : Int × Int), l[k]? = some p → (ecs l)[k * 2 + 1]? = some (.int .i64 p.2)
  | x :: l, 0, p, h => by
    obtain rfl : x = p := by simpa using h
    rfl
  | x :: l, k + 1, p, h => by
    show ((.int .i64 x.1) :: (.int .i64 x.2) :: ecs l)[(k + 1) * 2 + 1]? = _
    rw [show (k + 1) * 2 + 1 = k * 2 + 1 + 1 + 1 by omega, List.getElem?_cons_succ, List.getElem?_cons_succ]
    exact ecs_get1 l k p (by simpa using h)

/-- A slice that reads as events. -/
structure RE (w : World) (a : Option Addr) (n cap : Nat) (l : List (Int × Int)) : Prop where
  len : l.length = n
  le : n ≤ cap
  most : n ≤ 140737488351232
  nil : a = none → cap = 0
  at_ : ∀ j u, (ecs l)[j]? = some u → ∃ b off, a = some ⟨b, off, none⟩ ∧ w.cell? ⟨b, off + j, none⟩ = some u
theorem RE.below {w w' : World} {a : Option Addr} {n cap : Nat} {l : List (Int × Int)} (h : RE w a n cap l) (hB : Below w.heap.size w w') : RE w' a n cap l :=
  ⟨h.len, h.le, h.most, h.nil, fun j u hu => by
    obtain ⟨b, off, e, hc⟩ := h.at_ j u hu
    exact ⟨b, off, e, (hB.cell (block_lt_of_cell hc)).trans hc⟩⟩
/-- One of them. -/
theorem RE.two {w : World} {a : Option Addr} {n cap : Nat} {l : List (Int × Int)} (h : RE w a n cap l) {k : Nat} (hk : k < n) :
    ∃ b off x y, a = some ⟨b, off, none⟩ ∧ l[k]? = some (x, y) ∧ w.cell? ⟨b, off + k * 2, none⟩ = some (.int .i64 x) ∧ w.cell? ⟨b, off + k * 2 + 1, none⟩ = some (.int .i64 y) := by
  have hk2 : k < l.length := by rw [h.len]; exact hk
  have hg : l[k]? = some l[k] := List.getElem?_eq_getElem hk2
  obtain ⟨b, off, e, h0⟩ := h.at_ _ _ (ecs_get0 l k _ hg)
  obtain ⟨b2, off2, e2, h1⟩ := h.at_ _ _ (ecs_get1 l k _ hg)
  rw [e] at e2
  obtain ⟨rfl, rfl⟩ : b = b2 ∧ off = off2 := by injection e2 with e2; injection e2 with e3 e4; exact ⟨e3, e4⟩
  exact ⟨b, off, (l[k]).1, (l[k]).2, e, hg, h0, h1⟩
theorem RE.of_block {w : World} {g cap : Nat} {l m : List (Int × Int)} {t : TypeId} {fr : Nat × Nat} (hg : w.heap[g]? = some (.cells (ecs (l ++ m)).toArray t fr)) (hc : l.length ≤ cap) (hm : l.length ≤ 140737488351232) : RE w (some ⟨g, 0, none⟩) l.length cap l where
  len := rfl
  le := hc
  most := hm
  nil h := by cases h
  at_ j u hu := ⟨g, 0, rfl, by
    have hlt := (List.getElem?_eq_some_iff.1 hu).1
    rw [Nat.zero_add, cell_of_block hg, List.getElem?_toArray, ecs_append, List.getElem?_append_left hlt, hu]⟩

/-- What events make of a stat. -/
def andV (v : Nat → Int) : List (Int × Int) → Nat → Int
  | [] => v
  | (k, n) :: l => andV (if mayI k n = true then cnt v k n else v) l
theorem andV_append : ∀ (a b : List (Int × Int)) (v : Nat → Int), andV v (a ++ b) = andV (andV v a) b
  | [], _, _ => rfl
  | (_, _) :: a, b, _ => andV_append a b _
theorem andV_snoc {l : List (Int × Int)} {k : Nat} {x y : Int} (h : l[k]? = some (x, y)) (v : Nat → Int) : andV v (l.take (k + 1)) = if mayI x y = true then cnt (andV v (l.take k)) x y else andV v (l.take k) := by
  obtain ⟨hk, he⟩ := List.getElem?_eq_some_iff.1 h
  rw [List.take_succ_eq_append_getElem hk, he, andV_append]; rfl

/-- Nothing counted. -/
def v0 : Nat → Int := fun _ => 0
theorem stC_one (v : Nat → Int) : (stC v).all (·.oneCell') = true := by simp [stC, Value.oneCell']
theorem info25 : (Tryd.prog.info? 25).map (·.size) = some 19 := by kernel_rfl
theorem kb_below {b B : Nat} {w w1 w2 : World} (h : Below B w w1) (k : Kb b w1 w2) (hb : B ≤ b) (hB : B ≤ w1.heap.size) : Below B w w2 := Kb.below h k hb hB
theorem below_setRow {B : Nat} {w wr : World} (h : Below B w wr) {g : Nat} {cs : Array Value} (hg : B ≤ g) : Below B w (wr.setRow g cs) :=
  ⟨h.os, h.tape, h.output, Nat.le_trans h.size (by simp [World.setRow]), fun b hb => (setRow_other wr g b cs (by omega)).trans (h.block b hb)⟩
theorem StAt.new (w : World) (v : Nat → Int) : StAt 25 (w.alloc (.cells (stC v) 25)) w.heap.size v := heap_alloc_new w _
def AndRel (w : World) (n : Nat) (l : List (Int × Int)) (v : Nat → Int) (i : Value) (wr : World) : Prop := ∃ k : Nat, k ≤ n ∧ i = .int .i64 k ∧ StAt 25 wr w.heap.size (andV v (l.take k)) ∧ (∃ u, StAt 25 wr (w.heap.size + 1) u) ∧ Below w.heap.size w wr
set_option maxRecDepth 100000 in
set_option maxHeartbeats 1600000 in
theorem And_any {w : World} {a : Option Addr} {n cap : Nat} {l : List (Int × Int)} {v : Nat → Int} (h : RE w a n cap l) :
    Calls Tryd.prog 9 #[.agg (stC v), .slice a n cap] w fun e w' => e = .returned (.agg (stC (andV v l))) ∧ Below w.heap.size w w' := by
  have hm := h.most
  have hle := h.le
  have hlen := h.len
  have H := Lib.hid h
  have HL := Lib.hid hlen
  clear h hlen
  go_enter Tryd.func9, Tryd.ntmps9
  go_wp2_with fail
  go_loopw [9] (fun i wr => AndRel w n l v i wr) (fun i _ => n - (intOf i).toNat)
  case atStart =>
    refine ⟨0, Nat.zero_le _, rfl, ?_, ⟨v0, ?_⟩, ((Below.refl _ _).alloc (Nat.le_refl _) _).alloc (by simp) _⟩
    · exact (StAt.new w v).below ((Below.refl _ _).alloc (Nat.le_refl _) _) (by simp)
    · have := StAt.new (w.alloc (.cells (stC v) 25)) v0
      rw [World.size_alloc] at this
      exact this
  case round =>
    obtain ⟨k, hk, rfl, hS, ⟨u, hU⟩, hB⟩ := hrel
    have HS := Lib.hid hS
    have HU := Lib.hid hU
    have HB := Lib.hid hB
    have hsz := hU.lt
    clear hS hU hB
    by_cases hk1 : k < n
    · obtain ⟨b, off, x, y, rfl, hx, e0, e1⟩ := (H.out.below HB.out).two hk1
      have hsn := andV_snoc hx v
      have HB1 := Lib.hid (HB.out.alloc (show w.heap.size ≤ wr.heap.size by omega) (.cells #[.int .i64 x, .int .i64 y] 33))
      have HS1 := Lib.hid (HS.out.below ((Below.refl wr.heap.size wr).alloc (Nat.le_refl _) (.cells #[.int .i64 x, .int .i64 y] 33)) (by omega))
      have HU1 := Lib.hid (HU.out.below ((Below.refl wr.heap.size wr).alloc (Nat.le_refl _) (.cells #[.int .i64 x, .int .i64 y] 33)) (by omega))
      have HBX := Lib.hid (ev_box wr x y)
      have hb := Lib.hid (may_any x y (wr.alloc (.cells #[.int .i64 x, .int .i64 y] 33)))
      rw [World.size_alloc] at hb
      by_cases hm : mayI x y = true
      · rw [hm] at hb
        rw [if_pos hm] at hsn
        have HSN := Lib.hid hsn
        have HM := Lib.hid hm
        clear hx hsn hm
        go_wp2_with fail
        refine hb.out.mono ?_
        rintro e w2 ⟨rfl, hB2⟩
        have HB2 := Lib.hid hB2
        have c0 := (hB2.cell (p := ⟨wr.heap.size, 0, none⟩) (by simp)).trans HBX.out.1
        have c1 := (hB2.cell (p := ⟨wr.heap.size, 1, none⟩) (by simp)).trans HBX.out.2
        have hz := hB2.size
        rw [World.size_alloc] at hz
        have HS2 := Lib.hid (HS1.out.below hB2 (by omega))
        have HU2 := Lib.hid (HU1.out.below hB2 (by omega))
        clear hB2
        have HC := Lib.hid (count_any HS2.out HM.out)
        go_wp2_with fail
        refine (show Calls _ _ _ _ _ from HC.out).mono ?_
        rintro e w3 ⟨rfl, hS3, hK3⟩
        have hz3 := hK3.size
        have HS3 := Lib.hid hS3
        have HU3 := Lib.hid (HU2.out.kb hK3 (by omega))
        have HB3 := Lib.hid (kb_below (HB1.out.trans (HB2.out.mono (by omega))) hK3 (Nat.le_refl _) (by omega))
        clear hS3 hK3
        go_wp2_with fail
        go_roundw
        case rel => exact ⟨k + 1, by omega, by go_num, by rw [HSN.out]; exact HS3.out, ⟨u, HU3.out⟩, HB3.out⟩
        case measure => simp [intOf]; omega
      · rw [show mayI x y = false by simpa using hm] at hb
        rw [if_neg hm] at hsn
        have HSN := Lib.hid hsn
        clear hx hsn hm
        go_wp2_with fail
        refine hb.out.mono ?_
        rintro e w2 ⟨rfl, hB2⟩
        have HB2 := Lib.hid hB2
        have hz := hB2.size
        rw [World.size_alloc] at hz
        have HS2 := Lib.hid (HS1.out.below hB2 (by omega))
        have HU2 := Lib.hid (HU1.out.below hB2 (by omega))
        clear hB2
        go_wp2_with fail
        go_roundw
        case rel => exact ⟨k + 1, by omega, by go_num, by rw [HSN.out]; exact HS2.out, ⟨u, HU2.out⟩, HB1.out.trans (HB2.out.mono (by omega))⟩
        case measure => simp [intOf]; omega
    · obtain rfl : k = n := by omega
      have HV := Lib.hid (show andV v (l.take k) = andV v l by rw [List.take_of_length_le (by rw [HL.out]; exact Nat.le_refl _)])
      rw [HV.out] at HS
      go_wp2_with (first | (refine wpList_load_row rfl 25 (.tmp 2) rfl w.heap.size rfl 25 (stC (andV v l)) (0, 0) _ HS.out Tryd.underlying25 rfl info25 ?_) | (refine wpList_store_row rfl 25 (.tmp 4) (.tmp 18) rfl (w.heap.size + 1) (stC (andV v l)) rfl rfl 25 (stC u) HU.out info25 rfl (stC_one _) ?_))
      have h2 : (wr.setRow (w.heap.size + 1) (stC (andV v l))).heap[w.heap.size + 1]? = some (.cells (stC (andV v l)) 25 (0, 0)) := setRow_heap wr _ _ _ _ _ HU.out
      exact bodyPost_ret (v := .agg (stC (andV v l))) (results_cell_row rfl _ _ _ _ _ _ _ rfl h2 Tryd.underlying25 rfl info25) rfl ⟨rfl, below_setRow HB.out (by omega)⟩
theorem fresh_Of (w : World) (v : Nat → Int) : StAt 25 (w.alloc (.cells (stC v) 25)) w.heap.size v := heap_alloc_new w _
set_option maxRecDepth 100000 in
set_option maxHeartbeats 1600000 in
theorem Of_any {w : World} {a : Option Addr} {n cap : Nat} {l : List (Int × Int)} (h : RE w a n cap l) :
    Calls Tryd.prog 10 #[.slice a n cap] w fun e w' => e = .returned (.agg (stC (andV v0 l))) ∧ Below w.heap.size w w' := by
  have HB1 := Lib.hid ((Below.refl w.heap.size w).alloc (Nat.le_refl _) (.cells (stC v0) 25))
  have H1 := Lib.hid (And_any (v := v0) (h.below ((Below.refl w.heap.size w).alloc (Nat.le_refl _) (.cells (stC v0) 25))))
  have HN := Lib.hid (StAt.new w v0)
  clear h
  go_enter Tryd.func10, Tryd.ntmps10
  go_wp2_with fail
  refine (show Calls _ _ _ _ _ from H1.out).mono ?_
  rintro e w1 ⟨rfl, hB⟩
  have HB := Lib.hid hB
  have HU := Lib.hid (HN.out.below hB (by simp))
  have hz := hB.size
  rw [World.size_alloc] at hz
  clear hB
  go_wp2_with (refine wpList_store_row rfl 25 (.tmp 2) (.tmp 5) rfl w.heap.size (stC (andV v0 l)) rfl rfl 25 (stC v0) HU.out info25 rfl (stC_one _) ?_)
  have h2 : (w1.setRow w.heap.size (stC (andV v0 l))).heap[w.heap.size]? = some (.cells (stC (andV v0 l)) 25 (0, 0)) := setRow_heap w1 _ _ _ _ _ HU.out
  exact bodyPost_ret (v := .agg (stC (andV v0 l))) (results_cell_row rfl _ _ _ _ _ _ _ rfl h2 Tryd.underlying25 rfl info25) rfl ⟨rfl, below_setRow (HB1.out.trans (HB.out.mono (by simp))) (Nat.le_refl _)⟩
end Go.Proofs.YtfojhmobnedekaaDoor
