/- The walk of poly's value, Lean. Conditions: rows are shorter than 2 to the 47. -/
import Derived.Test.YtokeoodkioobdaaPoly2
namespace Go.Proofs.Ytokeoodkioobdaa
open Go.RowKit Go.Shelf

attribute [local go_sem] Oper.semAt_some

theorem degree_any {w : World} {a : Option Addr} {len cap : Nat} {zs : List Nat} (hI : RB w a len cap zs) :
    Calls Try.prog 92 #[.slice a len cap] w fun e W' => e = .returned (.int .i64 ((ln zs len : Nat) - 1)) ∧ Below w.heap.size w W' :=
  (callsIn_wide (n := 3)).1 (degree_in Fence.wide 3 trivial trivial trivial rfl (Nat.le_refl _) a len cap zs w hI)

theorem keeps_drawn (W : World) (q : Nat) : KeepsOthers W (W.drewN q) := ⟨Nat.le_refl _, fun _ _ h _ => h⟩
/-- The value, from the end on. -/
def hval (zs : List Nat) (x : Nat) (pre : List Nat) : Nat := pre.foldl (fun s j => Gf.mul s x ^^^ zs[j]?.getD 0) 0
theorem hval_snoc (zs : List Nat) (x : Nat) (pre : List Nat) (j : Nat) : hval zs x (pre ++ [j]) = Gf.mul (hval zs x pre) x ^^^ zs[j]?.getD 0 := by simp [hval]
theorem small_get {zs : List Nat} (h : Small zs) (j : Nat) : zs[j]?.getD 0 < 256 := by rw [← List.getD_eq_getElem?_getD]; exact h j
theorem hval_lt {zs : List Nat} (h : Small zs) {x : Nat} : ∀ pre : List Nat, ∀ s, s < 256 → pre.foldl (fun s j => Gf.mul s x ^^^ zs[j]?.getD 0) s < 256
  | [], s, hs => hs
  | j :: pre, s, hs => by
    rw [List.foldl_cons]
    exact hval_lt h pre _ (Gf.xor_lt (Gf.mul_lt hs) (small_get h j))

set_option maxRecDepth 100000 in
set_option maxHeartbeats 4000000 in
theorem value_in (n : Nat) (hn : 3 ≤ n) (p : Nat) (a : Option Addr) (len cap x : Nat) (zs : List Nat) (w : World) (hx : x < 256) (hf : IsF w p) (hI : RB w a len cap zs) :
    CallsIn Fence.wide n Try.prog 89 #[.agg #[.pointer (some ⟨p, 0, none⟩)], .slice a len cap, .int .u8 (x : Nat)] w fun e W' => e = .returned (.int .u8 (hval zs x (dn len len) : Nat)) ∧ Below w.heap.size w W' := by
  have h1 : 1 ≤ n := by omega
  have hro : Fence.wide.round = none := rfl
  have hm := hI.most
  have hsm := hI.small
  have hab : ∀ b off, a = some ⟨b, off, none⟩ → 0 < len → b < w.heap.size := fun b off e hl => by
    obtain ⟨b', off', e', hc⟩ := hI.at_ 0 hl
    rw [e] at e'; injection e' with e'; injection e' with e1 e2; subst e1; exact block_lt_of_cell hc
  have HI := Lib.hid hI
  have HAB := Lib.hid hab
  have HF := Lib.hid hf
  have HSM := Lib.hid hsm
  clear hI hab hf hsm
  refine callsIn_of_wp_marks Try.func89 rfl trivial ?_ hro
  simp only [Try.ntmps89, List.size_toArray, List.length_cons, List.length_nil, Nat.reduceAdd, Nat.reduceSub, Array.replicate_succ, Array.replicate_zero, List.push_toArray, List.append_toArray, List.nil_append, List.cons_append]
  gi_wp2_with (refine ⟨trivial, ?_⟩; gi_at_call 110; refine (back_in Fence.wide (n - 1) trivial hro _ _ _ _).mono ?_; rintro e w' ⟨rfl, rfl⟩)
  obtain ⟨w1, hw1⟩ : ∃ w1, w1 = w.alloc (.cells #[.pointer (some ⟨p, 0, none⟩)] 84) := ⟨_, rfl⟩
  have b1 : Boxed w1 w.heap.size 84 (.pointer (some ⟨p, 0, none⟩)) := by rw [hw1]; exact Boxed.new w 84 _
  have z1 : w1.heap.size = w.heap.size + 1 := by rw [hw1]; exact World.size_alloc _ _
  have B1 : Below w.heap.size w w1 := by rw [hw1]; exact (Below.refl _ _).alloc (Nat.le_refl _) _
  rw [← hw1]
  obtain ⟨w2, hw2⟩ : ∃ w2, w2 = w1.alloc (.cells #[.int .u8 (x : Nat)] 5) := ⟨_, rfl⟩
  have b2 : Boxed w2 (w.heap.size + 1) 5 (.int .u8 (x : Nat)) := by rw [hw2, ← z1]; exact Boxed.new w1 5 _
  have b21 : Boxed w2 w.heap.size 84 (.pointer (some ⟨p, 0, none⟩)) := by rw [hw2]; exact b1.alloc _
  have z2 : w2.heap.size = w.heap.size + 1 + 1 := by rw [hw2, World.size_alloc, z1]
  have B2 : Below w.heap.size w w2 := by rw [hw2]; exact B1.alloc (by omega) _
  rw [← hw2]
  obtain ⟨w3, hw3⟩ : ∃ w3, w3 = w2.alloc (.cells #[.int .u8 0] 5) := ⟨_, rfl⟩
  have b3 : Boxed w3 (w.heap.size + 1 + 1) 5 (.int .u8 0) := by rw [hw3, ← z2]; exact Boxed.new w2 5 _
  have b32 : Boxed w3 (w.heap.size + 1) 5 (.int .u8 (x : Nat)) := by rw [hw3]; exact b2.alloc _
  have b31 : Boxed w3 w.heap.size 84 (.pointer (some ⟨p, 0, none⟩)) := by rw [hw3]; exact b21.alloc _
  have z3 : w3.heap.size = w.heap.size + 1 + 1 + 1 := by rw [hw3, World.size_alloc, z2]
  have B3 : Below w.heap.size w w3 := by rw [hw3]; exact B2.alloc (by omega) _
  rw [← hw3]
  obtain ⟨w4, hw4⟩ : ∃ w4, w4 = w3.alloc (.cells #[.slice a len cap] 31) := ⟨_, rfl⟩
  have b4 : Boxed w4 (w.heap.size + 1 + 1 + 1) 31 (.slice a len cap) := by rw [hw4, ← z3]; exact Boxed.new w3 31 _
  have b43 : Boxed w4 (w.heap.size + 1 + 1) 5 (.int .u8 0) := by rw [hw4]; exact b3.alloc _
  have b42 : Boxed w4 (w.heap.size + 1) 5 (.int .u8 (x : Nat)) := by rw [hw4]; exact b32.alloc _
  have b41 : Boxed w4 w.heap.size 84 (.pointer (some ⟨p, 0, none⟩)) := by rw [hw4]; exact b31.alloc _
  have z4 : w4.heap.size = w.heap.size + 1 + 1 + 1 + 1 := by rw [hw4, World.size_alloc, z3]
  have B4 : Below w.heap.size w w4 := by rw [hw4]; exact B3.alloc (by omega) _
  rw [← hw4]
  clear hw1 hw2 hw3 hw4 b1 b2 b21 b3 b32 b31 z1 z2 z3 B1 B2 B3
  refine wpIn_rangeFunc_ownG hro h1 (gf := 131) (lb := #[.pointer (some ⟨w.heap.size + 1 + 1 + 1, 0, none⟩)]) rfl trivial (enters_of Try.func131 (by kernel_rfl) rfl)
    (back_stops Fence.wide (n - 1) trivial hro (by omega) (w.heap.size + 1 + 1 + 1) w.heap.size a len cap zs hm w4 (by omega) (by omega) HAB.out (rd_of b4.cell (HI.out.below B4))) kb_t (kb_b (by omega) (by omega)) (Below.refl _ _) (fun _ => rfl)
    (fun pre W => (W.cell? ⟨w.heap.size + 1 + 1, 0, none⟩ = some (.int .u8 (hval zs x pre : Nat)) ∧ W.frozen? ⟨w.heap.size + 1 + 1, 0, none⟩ = false ∧ W.cell? ⟨w.heap.size + 1, 0, none⟩ = some (.int .u8 (x : Nat)) ∧ W.cell? ⟨w.heap.size, 0, none⟩ = some (.pointer (some ⟨p, 0, none⟩))) ∧ Below w.heap.size w W)
    (fun _ _ _ => False)
    (OwnFrom.and (Own.from (fun s A B row hs hg hr => ⟨cell_kept hs.1 hg hr, (frozen_kept hs.1 hg hr).trans hs.2.1, cell_kept hs.2.2.1 hg hr, cell_kept hs.2.2.2 hg hr⟩) _) (ownFrom_below (Nat.le_refl _) (by omega)))
    (fun _ _ _ _ _ hs _ _ => hs)
    ⟨⟨b43.cell, b43.frozen, b42.cell, b41.cell⟩, B4⟩
    (fun j => { tmps := #[.agg #[.pointer (some ⟨p, 0, none⟩)], .slice a len cap, .int .u8 (x : Nat), .pointer (some ⟨w.heap.size, 0, none⟩), undef, .pointer (some ⟨w.heap.size + 1, 0, none⟩), .pointer (some ⟨w.heap.size + 1 + 1, 0, none⟩), undef, .int .u8 (zs[j]?.getD 0 : Nat), .slice a len cap, .func (.func 131) #[] #[.pointer (some ⟨w.heap.size + 1 + 1 + 1, 0, none⟩)], .int .i64 (j : Nat), .int .u8 (zs[j]?.getD 0 : Nat), undef, undef, undef, undef, undef, undef, undef, undef], defers := [] }) ?assign ?body ?done ?stop
  case assign =>
    intro l x W K hK
    gi_wp2
    exact hK
  case body =>
    rintro l pre j W ⟨⟨hcr, hfr, hcx, hcp⟩, hB⟩ _
    have HB := Lib.hid hB
    have hfp := HF.out.below hB HF.out.lt
    have hs : hval zs x pre < 256 := hval_lt HSM.out pre 0 (by omega)
    have hv := small_get HSM.out j
    have hsn := hval_snoc zs x pre j
    have HSN := Lib.hid hsn
    clear hB hsn
    generalize zs[j]?.getD 0 = v at *
    generalize hval zs x pre = s at *
    have h23 : Calls Try.prog 23 #[.pointer (some ⟨p, 0, none⟩), .int .u8 (s : Nat), .int .u8 (x : Nat)] W fun e w' => e = .returned (.int .u8 (Gf.mul s x : Nat)) ∧ ∃ n, w' = W.drewN n := mul_any hfp hs hx
    have h24 : ∀ W', Calls Try.prog 24 #[.int .u8 (Gf.mul s x : Nat), .int .u8 (v : Nat)] W' fun e w' => e = .returned (.int .u8 (Gf.mul s x ^^^ v : Nat)) ∧ W' = w' := fun W' => add_any _ _ (Gf.mul_lt hs) hv W'
    have H23 := Lib.hid h23
    have H24 := Lib.hid h24
    clear h23 h24 hfp
    generalize Gf.mul s x ^^^ v = r at *
    generalize Gf.mul s x = t at *
    gi_wp2_with (first
      | (refine ⟨trivial, fun _ => (by omega), ?_⟩; gi_at_call 23; refine (CallsIn.inRound l (callsIn_wide.2 H23.out)).mono ?_; rintro e w' ⟨rfl, nq, rfl⟩)
      | (refine ⟨trivial, fun _ => (by omega), ?_⟩; gi_at_call 24; refine (CallsIn.inRound l (callsIn_wide.2 (H24.out _))).mono ?_; rintro e w' ⟨rfl, rfl⟩))
    exact ⟨((keeps_drawn W nq).trans (KeepsOthers.setCell _ _ _)).from _, ⟨(below_drewN (Below.refl _ _) nq).setCell (p := ⟨w.heap.size + 1 + 1, 0, none⟩) (by show _ ≤ _ + 1 + 1; omega) _, Below.heap_setCell (W.drewN nq) ⟨w.heap.size + 1 + 1, 0, none⟩ _ _ (by show _ ≠ _ + 1 + 1; omega)⟩,
      ⟨by rw [HSN.out]; exact World.cell?_setCell_same' _ _ _ (by rw [show (W.drewN nq).cell? ⟨w.heap.size + 1 + 1, 0, none⟩ = _ from hcr]; rfl), by rw [World.frozen?_setCell]; exact hfr,
        (World.cell?_of_block (heap_setCell_other (W.drewN nq) ⟨w.heap.size + 1 + 1, 0, none⟩ (w.heap.size + 1) _ (by show _ ≠ _ + 1 + 1; omega))).trans hcx,
        (World.cell?_of_block (heap_setCell_other (W.drewN nq) ⟨w.heap.size + 1 + 1, 0, none⟩ w.heap.size _ (by show _ ≠ _ + 1 + 1; omega))).trans hcp⟩,
      (below_drewN HB.out nq).setCell (p := ⟨w.heap.size + 1 + 1, 0, none⟩) (by show _ ≤ _ + 1 + 1; omega) _⟩
  case done =>
    rintro D ys W hD rfl ⟨⟨hcr, hfr, hcx, hcp⟩, hB⟩ hK
    have HB := Lib.hid hB
    clear hB
    obtain ⟨r, hr⟩ : ∃ r, r = hval zs x (dn len len) := ⟨_, rfl⟩
    rw [← hr] at hcr
    have HR := Lib.hid hr
    clear hr
    gi_wp2
    have hK' := (KeepsOthers.setCell W ⟨w.heap.size + 1 + 1, 0, none⟩ (.int .u8 (r : Nat))).same D _ hK rfl
    refine ⟨by simp, .inl ⟨_, _, rfl, run_takeDeferred hK', ?_⟩⟩
    have hc5 := cell_kept (World.cell?_setCell_same' W ⟨w.heap.size + 1 + 1, 0, none⟩ (.int .u8 (r : Nat)) (by rw [hcr]; rfl)) (grownBy_putObj' _ D (.deferred none)) (fun r e => by cases e; exact ⟨_, hK', rfl⟩)
    refine ⟨.int .u8 (r : Nat), ?_, (by rw [HR.out]), (HB.out.setCell (p := ⟨w.heap.size + 1 + 1, 0, none⟩) (by show _ ≤ _ + 1 + 1; omega) _).trans (belowK_b (w := w) (Nat.le_refl _) _ D _ _ (by omega) hK' rfl rfl)⟩
    simp [results, Try.f89, go_sem, hc5]
  case stop =>
    rintro D c pre W _ _ h _
    exact h.elim
theorem value_any {w : World} {p : Nat} {a : Option Addr} {len cap x : Nat} {zs : List Nat} (hx : x < 256) (hf : IsF w p) (hI : RB w a len cap zs) :
    Calls Try.prog 89 #[.agg #[.pointer (some ⟨p, 0, none⟩)], .slice a len cap, .int .u8 (x : Nat)] w fun e W' => e = .returned (.int .u8 (hval zs x (dn len len) : Nat)) ∧ Below w.heap.size w W' :=
  (callsIn_wide (n := 3)).1 (value_in 3 (Nat.le_refl _) p a len cap x zs w hx hf hI)

set_option maxHeartbeats 800000 in
set_option maxRecDepth 100000 in
/-- poly.Value. -/
theorem Value_any {w : World} {a : Option Addr} {len cap x : Nat} {zs : List Nat} (hx : x < 256) (hI : RB w a len cap zs) :
    Calls Try.prog 45 #[.slice a len cap, .int .u8 (x : Nat)] w fun e W' => e = .returned (.int .u8 (hval zs x (dn len len) : Nat)) ∧ Below w.heap.size w W' := by
  have HI := Lib.hid hI
  clear hI
  obtain ⟨r, hr⟩ : ∃ r, r = hval zs x (dn len len) := ⟨_, rfl⟩
  rw [← hr]
  have HR := Lib.hid hr
  clear hr
  go_enter Try.func45, Try.ntmps45
  go_wp2_with fail
  refine (new_any _).mono ?_
  rintro e w1 ⟨p, rfl, hp, hf, hB⟩
  have HF := Lib.hid hf
  have HB := Lib.hid hB
  clear hf hB
  go_wp2_with fail
  refine (value_any hx HF.out (HI.out.below HB.out)).mono ?_
  rintro e w2 ⟨rfl, hB2⟩
  rw [← HR.out]
  have HB2 := Lib.hid hB2
  clear hB2
  go_wp2_with fail
  go_ret
  exact ⟨rfl, HB.out.trans (HB2.out.mono HB.out.size)⟩
end Go.Proofs.Ytokeoodkioobdaa
